/- Framework H, part 4: the quiet operations, together. -/
import Derived.Test.YtbclkplebkencaaH3d
namespace Go.H
set_option linter.unusedSimpArgs false
set_option linter.unusedVariables false
open Go.RowKit

section
variable {P : Program} {T : TypeId → Option TI} {st : St}

theorem caps_sound {F0 L : Nat → Prop} {w0 w : World} {a : Act} {κ : Con} (hr : RepK F0 L w0 st a w κ) : ∀ (l : List Operand) (caps : List (Nat × Nat)),
    l.mapM (fun x => match evO st x with | .c (.ptr id off) => some (id, off) | _ => none) = some caps → (∀ p ∈ caps, p.1 < κ.n) ∧ l.map a.eval = caps.map fun p => Value.pointer (some ⟨κ.bl p.1, p.2, none⟩)
  | [], caps, h => by simp at h; subst h; exact ⟨fun p hp => (by cases hp), rfl⟩
  | x :: l, caps, h => by
    simp only [List.mapM_cons, bind, Option.bind_eq_some_iff, pure, Option.some.injEq] at h
    obtain ⟨p, hp, r, hl, rfl⟩ := h
    have := evO_rep hr x
    split at hp
    · rename_i id off he
      rw [he] at this
      simp only [Option.some.injEq] at hp
      subst hp
      obtain ⟨h1, h2⟩ := caps_sound hr l r hl
      refine ⟨fun p hp => ?_, ?_⟩
      · cases hp with
        | head => exact this.1
        | tail _ hp => exact h1 p hp
      · simp only [List.map_cons, h2]
        congr 1
        exact this.2
    · simp at hp

theorem q_sound (hT : TOk P T) {o : Op} {K : AV → Prop} (h : qWp T st o K) (hrep : ∃ F0 L w0 a w κ, RepK F0 L w0 st a w κ) : ∃ r, K r ∧ QY P st o r := by
  obtain ⟨F00, L00, w00, a00, w1, κ0, hrep⟩ := hrep
  unfold qWp at h
  split at h
  · rename_i x
    refine ⟨_, h, fun F0 L w0 a w κ o ho hr => ⟨_, ?_, evO_rep hr x⟩⟩
    simp only [execOp, ho]; rfl
  · rename_i x
    refine ⟨_, h, fun F0 L w0 a w κ o ho hr => ⟨_, ?_, evO_rep hr x⟩⟩
    simp only [execOp, ho]; rfl
  · rename_i c x y
    split at h
    · rename_i t hc
      cases t with
      | true =>
        refine ⟨_, h.1 rfl, fun F0 L w0 a w κ o ho hr => ⟨_, ?_, evO_rep hr x⟩⟩
        have := evO_rep hr c
        rw [hc] at this
        generalize hq : a.eval c = q at this
        cases this
        simp [execOp, ho, hq, asBool]
      | false =>
        refine ⟨_, h.2 rfl, fun F0 L w0 a w κ o ho hr => ⟨_, ?_, evO_rep hr y⟩⟩
        have := evO_rep hr c
        rw [hc] at this
        generalize hq : a.eval c = q at this
        cases this
        simp [execOp, ho, hq, asBool]
    · exact h.elim
  · rename_i t x
    split at h
    · rename_i ti hti
      obtain ⟨r, hr, hs⟩ := load_sound hT hti h (evO_rep hrep x)
      refine ⟨r, hr, fun F0 L w0 a w κ o ho hk => ?_⟩
      obtain ⟨u, h1, h2⟩ := hs F0 L w0 a w κ _ hk (evO_rep hk x)
      exact ⟨u, by simp only [execOp, ho, Sem.run_bind, h1, Result.andThen_ok, Sem.run_pure], h2⟩
    · exact h.elim
  · rename_i x
    split at h
    · rename_i cs he
      refine ⟨_, h, fun F0 L w0 a w κ o ho hr => ?_⟩
      have := evO_rep hr x
      rw [he] at this
      generalize hq : a.eval x = q at this
      cases this with
      | rp A cs val hF hc hs => exact ⟨_, by simp only [execOp, ho, hq, Sem.run_pure], .rp A cs val hF hc hs⟩
    · rename_i id off he
      refine ⟨_, h, fun F0 L w0 a w κ o ho hr => ?_⟩
      have := evO_rep hr x
      rw [he] at this
      generalize hq : a.eval x = q at this
      obtain ⟨hn, rfl⟩ := this
      exact ⟨_, by simp only [execOp, ho, hq, Sem.run_pure], hn, rfl⟩
    · exact h.elim
  · rename_i s x f
    split at h
    · rename_i ti hti
      split at h
      · rename_i off ft hof
        split at h
        · rename_i tf htf
          split at h
          · rename_i hz
            obtain ⟨r, hr, hs⟩ := ptrAdd_sound (hT _ _ hti) hof (hT _ _ htf) hz h
            refine ⟨r, hr, fun F0 L w0 a w κ o ho hk => ?_⟩
            obtain ⟨u, h1, h2⟩ := hs F0 L w0 a w κ _ hk (evO_rep hk x)
            exact ⟨u, by simp only [execOp, ho, Sem.run_bind, h1, Result.andThen_ok, Sem.run_pure], h2⟩
          · exact h.elim
        · exact h.elim
      · exact h.elim
    · exact h.elim
  · rename_i t x f
    obtain ⟨r, hr, hs⟩ := field_sound hT h
    refine ⟨r, hr, fun F0 L w0 a w κ o ho hk => ?_⟩
    obtain ⟨u, h1, h2⟩ := hs w κ st.h _ (evO_rep hk x)
    exact ⟨u, by simp only [execOp, ho, Sem.run_bind, h1, Result.andThen_ok, Sem.run_pure], h2⟩
  · rename_i t x i
    obtain ⟨r, hr, hs⟩ := index_sound hT h
    refine ⟨r, hr, fun F0 L w0 a w κ o ho hk => ?_⟩
    obtain ⟨u, h1, h2⟩ := hs F0 L w0 a w κ _ _ hk (evO_rep hk x) (evO_rep hk i)
    exact ⟨u, by simp only [execOp, ho, Sem.run_bind, h1, Result.andThen_ok, Sem.run_pure], h2⟩
  · rename_i op t x y yt
    obtain ⟨d, hd, hs⟩ := bin_sound hT h
    refine ⟨_, hd, fun F0 L w0 a w κ o ho hk => ?_⟩
    obtain ⟨u, h1, h2⟩ := hs w κ st.h _ _ x y (evO_rep hk x) (evO_rep hk y)
    exact ⟨u, by simp only [execOp, ho]; rw [Sem.run_bind, h1]; rfl, h2⟩
  · rename_i op t x
    obtain ⟨d, hd, hs⟩ := un_sound (P := P) h
    refine ⟨_, hd, fun F0 L w0 a w κ o ho hk => ?_⟩
    obtain ⟨u, h1, h2⟩ := hs w κ st.h _ (evO_rep hk x)
    exact ⟨u, by simp only [execOp, ho, Sem.run_bind, h1, Result.andThen_ok, Sem.run_pure], h2⟩
  · rename_i x i
    obtain ⟨r, hr, hs⟩ := tup_sound (P := P) h
    refine ⟨r, hr, fun F0 L w0 a w κ o ho hk => ?_⟩
    obtain ⟨u, h1, h2⟩ := hs w κ st.h _ (evO_rep hk x)
    exact ⟨u, by simp only [execOp, ho, Sem.run_bind, h1, Result.andThen_ok, Sem.run_pure], h2⟩
  · rename_i f first captured
    split at h
    · rename_i caps hf hc
      refine ⟨_, h, fun F0 L w0 a w κ o ho hk => ?_⟩
      obtain ⟨hn, h1⟩ := caps_sound hk _ _ hc
      have h2 : first.map a.eval = #[] := by
        apply Array.eq_empty_of_size_eq_zero; simp [hf]
      refine ⟨.func (.func f) #[] (captured.map a.eval), by simp only [execOp, ho, Instr.makeFunc, Sem.run_bind, Sem.run_pure, Result.andThen_ok, h2], hn, ?_⟩
      rw [← h1]
      congr 1
      apply Array.toList_inj.1
      simp
    · exact h.elim
  · rename_i args argTypes
    split at h
    · rename_i x t hx ht
      obtain ⟨d, hd, hs⟩ := len_sound hT h
      refine ⟨_, hd, fun F0 L w0 a w κ o ho hk => ?_⟩
      obtain ⟨u, h1, h2⟩ := hs w κ _ o.type (evO_rep hk x)
      have e1 : args = #[x] := by apply Array.toList_inj.1; simpa using hx
      have e2 : argTypes = #[t] := by apply Array.toList_inj.1; simpa using ht
      subst e1 e2
      exact ⟨u, by simp [execOp, ho, resolve, invoke, builtin, h1], h2⟩
    · exact h.elim
  · rename_i args argTypes
    split at h
    · rename_i x y hx
      obtain ⟨d, hd, hs⟩ := mx_sound (P := P) h
      refine ⟨_, hd, fun F0 L w0 a w κ o ho hk => ?_⟩
      obtain ⟨u, h1, h2⟩ := hs w κ st.h _ _ argTypes o.type (evO_rep hk x) (evO_rep hk y)
      have e1 : args = #[x, y] := by apply Array.toList_inj.1; simpa using hx
      subst e1
      simp only at h1
      exact ⟨u, by simp [execOp, ho, resolve, invoke, builtin, h1], h2⟩
    · exact h.elim
  · rename_i args argTypes
    split at h
    · rename_i x y hx
      obtain ⟨d, hd, hs⟩ := mx_sound (P := P) h
      refine ⟨_, hd, fun F0 L w0 a w κ o ho hk => ?_⟩
      obtain ⟨u, h1, h2⟩ := hs w κ st.h _ _ argTypes o.type (evO_rep hk x) (evO_rep hk y)
      have e1 : args = #[x, y] := by apply Array.toList_inj.1; simpa using hx
      subst e1
      simp only at h1
      exact ⟨u, by simp [execOp, ho, resolve, invoke, builtin, h1], h2⟩
    · exact h.elim
  · rename_i t x lo hi
    obtain ⟨r, hr, hs⟩ := slice_sound hT h
    refine ⟨_, hr, fun F0 L w0 a w κ o ho hk => ?_⟩
    obtain ⟨u, h1, h2⟩ := hs F0 L w0 a w κ _ lo hi hk rfl rfl (evO_rep hk x)
    exact ⟨u, by simp only [execOp, ho, Sem.run_bind, Option.map_none, h1, Result.andThen_ok, Sem.run_pure], h2⟩
  · rename_i src dst x
    obtain ⟨d, hd, hs⟩ := conv_sound hT h
    refine ⟨_, hd, fun F0 L w0 a w κ o ho hk => ?_⟩
    obtain ⟨u, h1, h2⟩ := hs F0 L w0 a w κ _ hk (evO_rep hk x)
    exact ⟨u, by simp only [execOp, ho, Sem.run_bind, h1, Result.andThen_ok, Sem.run_pure], h2⟩
  · rename_i t x i
    obtain ⟨r, hr, hs⟩ := idx_sound hT h
    refine ⟨_, hr, fun F0 L w0 a w κ o ho hk => ?_⟩
    obtain ⟨u, h1, h2⟩ := hs w κ st.h _ _ (evO_rep hk x) (evO_rep hk i)
    exact ⟨u, by simp only [execOp, ho, Sem.run_bind, h1, Result.andThen_ok, Sem.run_pure], h2⟩
  · exact h.elim

end
end Go.H
