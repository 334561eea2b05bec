/- Framework H, part 3c: the quiet operations are sound (the rest, and all together). -/
import Derived.Test.YtbclkplebkencaaH3b
namespace Go.H
set_option linter.unusedSimpArgs false
set_option linter.unusedVariables false
open Go.RowKit

section
variable {P : Program} {T : TypeId → Option TI} {F0 L : Nat → Prop} {w0 w : World} {st : St} {a : Act} {κ : Con}

theorem un_sound {op : UnOp} {x : AV} {K : D → Prop} (h : unWp op x K) :
    ∃ d, K d ∧ ∀ (w : World) (κ : Con) (hh : List (Nat × Ent)) vx, AVRep w κ hh x vx → ∃ v, (Op.unary op vx).run P w = .ok v w ∧ Fz w κ.F v d := by
  unfold unWp at h
  split at h
  · exact ⟨_, h, fun w κ hh vx hx => by cases hx; exact ⟨_, by simp [Op.unary], .bool _⟩⟩
  · exact ⟨_, h, fun w κ hh vx hx => by cases hx; exact ⟨_, by simp only [Op.unary, Op.intArith, Sem.run_pure], .int _ _⟩⟩
  · exact ⟨_, h, fun w κ hh vx hx => by cases hx; exact ⟨_, by simp only [Op.unary, Op.intBits, Sem.run_pure, wrapB], .int _ _⟩⟩
  · exact h.elim

theorem field_sound (hT : TOk P T) {t : TypeId} {x : AV} {f : Nat} {K : AV → Prop} (h : fieldWp T t x f K) :
    ∃ r, K r ∧ ∀ (w : World) (κ : Con) (hh : List (Nat × Ent)) vx, AVRep w κ hh x vx → ∃ v, (Instr.field t vx f).run P w = .ok v w ∧ AVRep w κ hh r v := by
  unfold fieldWp at h
  split at h
  · rename_i ti cs hti
    split at h
    · rename_i off ft ho
      split at h
      · rename_i tf htf
        obtain ⟨fields, hu, fd, hfd, hoff, hty⟩ := off_fits (hT t ti hti) ho
        have hff := hT ft tf htf
        unfold cellsC at h
        cases hg : tf.agg with
        | true =>
          simp only [hg] at h
          cases hb : Nat.ble tf.size (cs.drop off).length with
          | false => simp only [hb] at h
          | true =>
            simp only [hb] at h
            have hle := Nat.le_of_ble_eq_true hb
            rw [List.length_drop] at hle
            refine ⟨_, h, fun w κ hh vx hx => ?_⟩
            obtain ⟨us, rfl, hus⟩ := hx
            by_cases hz : tf.size = 0
            · -- an empty struct's part
              refine ⟨.agg #[], ?_, [], rfl, by simp [hz], fun j c u _ hu => by simp at hu⟩
              simp only [Instr.field, Sem.run_bind, run_underlying hu, Result.andThen_ok, hfd, asAgg, Sem.run_pure, hoff, hty, part, run_isAgg hff, hg, if_true, run_size hff, hz]
              simp
            · obtain ⟨v, hp, hv⟩ := part_sound hff hus (off := off) (by omega)
              refine ⟨v, ?_, ?_⟩
              · simp only [Instr.field, Sem.run_bind, run_underlying hu, Result.andThen_ok, hfd, asAgg, Sem.run_pure, hoff, hty, hp]
              · simp only [ValOf, hg, if_true] at hv; exact hv
        | false =>
          simp only [hg] at h
          split at h
          · rename_i c r hcs
            cases hb : Nat.beq tf.size 1 with
            | false => simp only [hb] at h
            | true =>
              simp only [hb] at h
              have h1 := beq_iff hb
              refine ⟨_, h, fun w κ hh vx hx => ?_⟩
              obtain ⟨us, rfl, hus⟩ := hx
              have hlen : off + 1 ≤ cs.length := by
                have := congrArg List.length hcs
                simp at this; omega
              obtain ⟨v, hp, hv⟩ := part_sound hff hus (off := off) (by omega)
              refine ⟨v, ?_, ?_⟩
              · simp only [Instr.field, Sem.run_bind, run_underlying hu, Result.andThen_ok, hfd, asAgg, Sem.run_pure, hoff, hty, hp]
              · simp only [ValOf, hg, Bool.false_eq_true, if_false, hcs, h1] at hv
                exact CVs.one hv
          · exact h.elim
      · exact h.elim
    · exact h.elim
  · exact h.elim

theorem tup_sound {x : AV} {i : Nat} {K : AV → Prop} (h : tupWp x i K) :
    ∃ r, K r ∧ ∀ (w : World) (κ : Con) (hh : List (Nat × Ent)) vx, AVRep w κ hh x vx → ∃ v, (Instr.extract vx i).run P w = .ok v w ∧ AVRep w κ hh r v := by
  unfold tupWp at h
  split at h
  · rename_i xs
    split at h
    · rename_i cs hi
      refine ⟨_, h, fun w κ hh vx hx => ?_⟩
      obtain ⟨vs, rfl, hl, hc⟩ := hx
      have hlt : i < vs.length := by rw [hl]; exact (List.getElem?_eq_some_iff.1 hi).1
      refine ⟨vs[i], by simp [Instr.extract, hlt], ?_⟩
      exact hc i _ _ hi (List.getElem?_eq_getElem hlt)
    · rename_i c hi
      refine ⟨_, h, fun w κ hh vx hx => ?_⟩
      obtain ⟨vs, rfl, hl, hc⟩ := hx
      have hlt : i < vs.length := by rw [hl]; exact (List.getElem?_eq_some_iff.1 hi).1
      refine ⟨vs[i], by simp [Instr.extract, hlt], ?_⟩
      have := hc i _ _ hi (List.getElem?_eq_getElem hlt)
      exact CVs.one (by simpa [TVRep] using this)
    · exact h.elim
  · exact h.elim

theorem len_sound (hT : TOk P T) {t : TypeId} {x : AV} {K : D → Prop} (h : lenRefWp T st t x K) :
    ∃ d, K d ∧ ∀ (w : World) (κ : Con) vx ty, AVRep w κ st.h x vx → ∃ v, (Builtin.len_ #[t] ty #[vx]).run P w = .ok v w ∧ Fz w κ.F v d := by
  unfold lenRefWp at h
  split at h
  · rename_i ti id ver s hti
    have hk := (hT t ti hti).k
    split at h
    · rename_i e e' sz v own es hke hl
      cases hb : Nat.beq v ver with
      | false => simp only [hb] at h
      | true =>
        simp only [hb] at h
        obtain rfl := beq_iff hb
        rw [hke] at hk
        refine ⟨_, h, fun w κ vx ty hx => ?_⟩
        obtain ⟨_, _, _, hx⟩ := hx
        obtain ⟨_, _, _, _, _, _, _, rfl, _⟩ := hx _ _ _ _ hl
        exact ⟨_, by simp [Builtin.len_, run_underlying (h := hk), goInt], .int _ _⟩
    · exact h.elim
  · rename_i hno
    clear hno
    unfold lenWp at h
    split at h
    · rename_i ti x hti
      have hk := (hT t ti hti).k
      split at h
      · rename_i s hke
        rw [hke] at hk
        refine ⟨_, h, fun w κ vx ty hx => ?_⟩
        cases hx
        exact ⟨_, by simp [Builtin.len_, run_underlying (h := hk), goInt], .int _ _⟩
      · rename_i e sz es hke
        rw [hke] at hk
        refine ⟨_, h, fun w κ vx ty hx => ?_⟩
        cases hx with
        | sl A len cap sz es val hl hc he ha hrd hs =>
          exact ⟨_, by simp [Builtin.len_, run_underlying (h := hk), goInt, hl], .int _ _⟩
      · rename_i e _ hke
        rw [hke] at hk
        refine ⟨_, h, fun w κ vx ty hx => ?_⟩
        cases hx
        exact ⟨_, by simp [Builtin.len_, run_underlying (h := hk), goInt], .int _ _⟩
      · exact h.elim
    · exact h.elim

theorem mx_sound {mx : Bool} {x y : AV} {K : D → Prop} (h : mxWp mx x y K) :
    ∃ d, K d ∧ ∀ (w : World) (κ : Con) (hh : List (Nat × Ent)) vx vy ts ty, AVRep w κ hh x vx → AVRep w κ hh y vy →
      ∃ v, (match mx with | true => Builtin.max_ ts ty #[vx, vy] | false => Builtin.min_ ts ty #[vx, vy]).run P w = .ok v w ∧ Fz w κ.F v d := by
  unfold mxWp at h
  split at h
  · rename_i k a k' b
    cases hb : kindEq k k' with
    | false => simp only [hb] at h
    | true =>
      simp only [hb] at h
      obtain rfl := kindEq_iff hb
      refine ⟨_, h, fun w κ hh vx vy ts ty hx hy => ?_⟩
      cases hx; cases hy
      cases mx
      · exact ⟨_, by simp [Builtin.min_, Builtin.min2, List.foldlM], .int _ _⟩
      · exact ⟨_, by simp [Builtin.max_, Builtin.max2, List.foldlM], .int _ _⟩
  · exact h.elim

theorem run_bounds {isSlice : Bool} {len cap : Nat} {lo hi : Option Value} {l h : Int} (hlo : (lo = none ∧ l = 0) ∨ ∃ k, lo = some (.int k l)) (hhi : (hi = none ∧ h = len) ∨ ∃ k, hi = some (.int k h))
    (h0 : 0 ≤ l) (h1 : l ≤ h) (h2 : h ≤ cap) (w : World) : (Instr.sliceBounds isSlice len cap lo hi none).run P w = .ok (l.toNat, h.toNat, cap) w := by
  have hb : ∀ (k : IntKind) (i : Int) (y : Nat) (code : BoundsCode), 0 ≤ i → i ≤ y → (Instr.sliceBound (.int k i) y code).run P w = .ok i.toNat w := fun k i y code h0 h1 => by
    simp [Instr.sliceBound, asIntOf, h0, h1]
  have hlh : l ≤ (h.toNat : Int) := by omega
  rcases hlo with ⟨rfl, rfl⟩ | ⟨k, rfl⟩ <;> rcases hhi with ⟨rfl, rfl⟩ | ⟨k', rfl⟩ <;>
    simp [Instr.sliceBounds, hb _ _ _ _ h0 hlh, hb _ _ _ _ (Int.le_trans h0 h1) h2]
  rw [hb _ _ _ _ h0 h1]; rfl

def OptRep (w : World) (κ : Con) (hh : List (Nat × Ent)) : Option AV → Option Value → Prop
  | none, none => True
  | some x, some v => AVRep w κ hh x v
  | _, _ => False

theorem bnd_sound {o : Option AV} {d : Nat} {l : Int} (h : bnd o d = some l) {w : World} {κ : Con} {hh : List (Nat × Ent)} {ov : Option Value} (hv : OptRep w κ hh o ov) :
    (ov = none ∧ o = none ∧ l = d) ∨ ∃ k, ov = some (.int k l) := by
  unfold bnd at h
  split at h
  · cases ov with
    | none => exact .inl ⟨rfl, rfl, by simpa using h.symm⟩
    | some v => exact hv.elim
  · cases ov with
    | none => exact hv.elim
    | some v =>
      simp only [Option.some.injEq] at h
      subst h
      cases hv
      exact .inr ⟨_, rfl⟩
  · simp at h


/-- A slice of a slice: the address where something is left. -/
theorem run_sliceOf {t e : TypeId} {te : TI} (hk : P.underlying t = some (.slice e)) (hte : te.fits P e) {a : Option Addr} {len cap : Nat} {lo hi : Option Value} {l h : Int}
    (hlo : (lo = none ∧ l = 0) ∨ ∃ k, lo = some (.int k l)) (hhi : (hi = none ∧ h = len) ∨ ∃ k, hi = some (.int k h)) (h0 : 0 ≤ l) (h1 : l ≤ h) (h2 : h ≤ cap) (w : World) :
    (Instr.sliceAt t (.slice a len cap) lo hi none).run P w = .ok (.slice (if cap = l.toNat then a else a.map (·.add (l.toNat * te.size))) (h.toNat - l.toNat) (cap - l.toNat)) w := by
  simp only [Instr.sliceAt, Sem.run_bind, run_underlying hk, Result.andThen_ok, Instr.slice, run_bounds hlo hhi h0 h1 h2 w, run_size hte, Sem.run_pure]

theorem slice_sound (hT : TOk P T) {t : TypeId} {x : AV} {lo hi : Option AV} {K : CV → Prop} (h : sliceWp T st t x lo hi K) :
    ∃ r, K r ∧ ∀ (F0 L : Nat → Prop) (w0 : World) (a : Act) (w : World) (κ : Con) vx (ol oh : Option Operand), RepK F0 L w0 st a w κ → lo = ol.map (evO st) → hi = oh.map (evO st) → AVRep w κ st.h x vx →
      ∃ v, (Instr.sliceAt t vx (ol.map a.eval) (oh.map a.eval) none).run P w = .ok v w ∧ CVRep w κ st.h r v := by
  have hopt : ∀ {F0 L : Nat → Prop} {w0 w : World} {a : Act} {κ : Con} (hr : RepK F0 L w0 st a w κ) (o : Option Operand), OptRep w κ st.h (o.map (evO st)) (o.map a.eval) := by
    intro F0 L w0 w a κ hr o
    cases o with
    | none => trivial
    | some x => exact evO_rep hr x
  unfold sliceWp at h
  split at h
  · rename_i ti x hti
    have hk := (hT t ti hti).k
    split at h
    · -- a string
      rename_i s hke
      rw [hke] at hk
      split at h
      · rename_i l hh hl1 hh1
        obtain ⟨⟨h0, h1, h2⟩, h⟩ := h
        refine ⟨_, h, fun F0 L w0 a w κ vx ol oh hr ho1 ho2 hx => ?_⟩
        subst ho1 ho2
        cases hx
        have b1 := bnd_sound hl1 (hopt hr ol)
        have b2 := bnd_sound hh1 (hopt hr oh)
        refine ⟨.string (s.extract l.toNat hh.toNat), ?_, .str _⟩
        have := run_bounds (P := P) (isSlice := false) (len := s.size) (cap := s.size) (b1.imp (fun h => ⟨h.1, h.2.2⟩) fun h => h) (b2.imp (fun h => ⟨h.1, h.2.2⟩) fun h => h) h0 h1 h2 w
        simp only [Instr.sliceAt, Sem.run_bind, run_underlying (h := hk), Result.andThen_ok, Instr.slice]
        simp [this]
      · exact h.elim
    · -- a read-only slice
      rename_i e sz es hke
      rw [hke] at hk
      split at h
      · rename_i te l hh hte hl1 hh1
        cases hb : Nat.beq te.size sz with
        | false => simp only [hb] at h
        | true =>
          simp only [hb] at h
          obtain rfl := beq_iff hb
          obtain ⟨⟨h0, h1, h2⟩, h⟩ := h
          refine ⟨_, h, fun F0 L w0 a w κ vx ol oh hr ho1 ho2 hx => ?_⟩
          subst ho1 ho2
          have b1 := bnd_sound hl1 (hopt hr ol)
          have b2 := bnd_sound hh1 (hopt hr oh)
          cases hx with
          | sl A len cap sz es val hl hc he ha hrd hs =>
            subst hl
            refine ⟨_, run_sliceOf hk (hT e te hte) (b1.imp (fun h => ⟨h.1, h.2.2⟩) fun h => h) (b2.imp (fun h => ⟨h.1, h.2.2⟩) fun h => h) h0 h1 (by omega) w, ?_⟩
            refine .sl _ _ _ _ _ (fun i j => val (l.toNat + i) j) (by simp; omega) (by omega) (fun i c hi => ?_) (fun hne => ?_) (fun A' i c j d hA hi hj => ?_) (fun i c j d hi hj => ?_)
            · rw [List.getElem?_drop, List.getElem?_take] at hi
              split at hi
              · exact he _ c hi
              · simp at hi
            · have hlt : l.toNat < hh.toNat := by
                rcases Nat.lt_or_ge l.toNat hh.toNat with h | h
                · exact h
                · exact absurd (List.drop_eq_nil_of_le (by simp; omega)) hne
              have hne' : es ≠ [] := by intro e; subst e; simp at hne
              obtain ⟨A0, rfl, hF, hsp⟩ := ha hne'
              rw [if_neg (by omega)]
              exact ⟨_, rfl, by rw [add_block]; exact hF, add_spot hsp _⟩
            · rw [List.getElem?_drop, List.getElem?_take] at hi
              split at hi
              · rename_i hlt
                have hlt2 : l.toNat + i < es.length := (List.getElem?_eq_some_iff.1 hi).1
                rw [if_neg (by omega)] at hA
                simp only [Option.map_eq_some_iff] at hA
                obtain ⟨A0, hA0, rfl⟩ := hA
                rw [add_add, ← Nat.add_assoc, ← Nat.add_mul]
                exact hrd A0 (l.toNat + i) c j d hA0 hi hj
              · simp at hi
            · rw [List.getElem?_drop, List.getElem?_take] at hi
              split at hi
              · exact hs _ c j d hi hj
              · simp at hi
      · exact h.elim
    · -- an own row
      rename_i e id ver s hke
      rw [hke] at hk
      split at h
      · rename_i te e' sz vr own es hte hlk
        split at h
        case h_2 => exact h.elim
        rename_i l hh hl1 hh1
        cases hb : Nat.beq te.size sz with
        | false => simp only [hb] at h
        | true =>
          cases hb2 : Nat.beq vr ver with
          | false => simp only [hb, hb2] at h
          | true =>
            simp only [hb, hb2] at h
            obtain rfl := beq_iff hb
            obtain rfl := beq_iff hb2
            obtain ⟨⟨h0, h1, h2⟩, h⟩ := h
            refine ⟨_, h, fun F0 L w0 a w κ vx ol oh hr ho1 ho2 hx => ?_⟩
            subst ho1 ho2
            have b1 := bnd_sound hl1 (hopt hr ol)
            have b2 := bnd_sound hh1 (hopt hr oh)
            obtain ⟨hn, _, _, hx⟩ := hx
            obtain ⟨hle, ba, bn, bc, a', c', hv, rfl, hc', ha', hdd⟩ := hx _ _ _ _ hlk
            refine ⟨_, run_sliceOf hk (hT e te hte) (b1.imp (fun h => ⟨h.1, h.2.2⟩) fun h => h) (b2.imp (fun h => ⟨h.1, h.2.2⟩) fun h => h) h0 h1 (by omega) w, hn, rfl, rfl, fun e2 sz2 own2 es2 hl2 => ?_⟩
            rw [hlk] at hl2
            cases hl2
            refine ⟨by simp only [offR, lenR] at *; omega, ba, bn, bc, _, _, hv, rfl, by simp only [lenR]; omega, fun hne => ?_, fun hd' => ?_⟩
            · simp only [lenR] at hne
              rw [if_neg (by omega), ha' (by omega)]
              cases ba with
              | none => rfl
              | some A => simp only [Option.map_some, add_add, offR]; rw [Nat.add_mul]
            · rcases b1 with ⟨ho, hon, hl0⟩ | ⟨k, ho⟩
              · simp only [hdR, hon] at hd'
                obtain ⟨q1, q2, q3⟩ := hdd hd'
                have hl00 : l = 0 := by simpa using hl0
                subst hl00
                refine ⟨by simp [offR, q1] ; exact q1, ?_, by simp [q3]⟩
                subst q2
                by_cases hcz : c' = (0 : Int).toNat
                · rw [if_pos hcz]
                · rw [if_neg hcz]
                  cases a' with
                  | none => rfl
                  | some A => simp [Addr.add]
              · cases ol with
                | none => simp at ho
                | some x => simp [hdR] at hd'
      · exact h.elim
    · -- nil
      rename_i e z hke
      rw [hke] at hk
      split at h
      · rename_i te l hh hte hl1 hh1
        obtain ⟨⟨rfl, rfl⟩, h⟩ := h
        refine ⟨_, h, fun F0 L w0 a w κ vx ol oh hr ho1 ho2 hx => ?_⟩
        subst ho1 ho2
        cases hx
        have b1 := bnd_sound hl1 (hopt hr ol)
        have b2 := bnd_sound hh1 (hopt hr oh)
        have := run_sliceOf (a := none) (len := 0) (cap := 0) hk (hT e te hte) (b1.imp (fun h => ⟨h.1, h.2.2⟩) fun h => h) (b2.imp (fun h => ⟨h.1, h.2.2⟩) fun h => h) (by omega) (by omega) (by omega) w
        exact ⟨.slice none 0 0, by simpa using this, rfl⟩
      · exact h.elim
    · exact h.elim
  · exact h.elim

end
end Go.H
