/- Framework H, part 6: a new box, a new row. -/
import Derived.Test.YtbclkplebkencaaH5
namespace Go.H
set_option linter.unusedSimpArgs false
set_option linter.unusedVariables false
open Go.RowKit

section
variable {P : Program} {T : TypeId → Option TI} {F0 L : Nat → Prop} {w0 w w' : World} {st : St} {a : Act} {κ κ' : Con} {hh : List (Nat × Ent)}

def Con.push (κ : Con) (b : Nat) (v : Value) : Con :=
  { κ with bl := fun i => if i = κ.n then b else κ.bl i, val := fun i => if i = κ.n then v else κ.val i, n := κ.n + 1, vr := fun i => if i = κ.n then 0 else κ.vr i }

theorem CVRep.push {x : CV} {v : Value} (h : CVRep w κ hh x v) (hn : CVOk hh κ.n) (e : Ent) (b : Nat) (u : Value) : CVRep w (κ.push b u) (hh ++ [(κ.n, e)]) x v := by
  cases x with
  | d x => exact h
  | nl _ => exact h
  | u => exact h
  | ptr id off =>
    obtain ⟨h1, h2⟩ := h
    exact ⟨Nat.lt_succ_of_lt h1, by simp only [Con.push]; rw [if_neg (by omega)]; exact h2⟩
  | fn f caps =>
    obtain ⟨h1, h2⟩ := h
    refine ⟨fun p hp => Nat.lt_succ_of_lt (h1 p hp), ?_⟩
    rw [h2]
    congr 2
    apply List.map_congr_left
    intro p hp
    have := h1 p hp
    simp only [Con.push]
    rw [if_neg (by omega)]
  | ref id ver s =>
    obtain ⟨⟨h1, h1'⟩, h2, h3, h4⟩ := h
    refine ⟨⟨Nat.lt_succ_of_lt h1, by simp only [Con.push]; rw [if_neg (by omega)]; exact h1'⟩, h2, h3, fun e' sz own es hl => ?_⟩
    rw [look_push _ _ _ _ hn, if_neg (by omega)] at hl
    simp only [Con.push]
    rw [if_neg (by omega)]
    exact h4 e' sz own es hl
  | ep id ver i j =>
    obtain ⟨⟨h1, h1'⟩, h2, h3, h4⟩ := h
    refine ⟨⟨Nat.lt_succ_of_lt h1, by simp only [Con.push]; rw [if_neg (by omega)]; exact h1'⟩, h2, h3, fun e' sz own es hl => ?_⟩
    rw [look_push _ _ _ _ hn, if_neg (by omega)] at hl
    simp only [Con.push]
    rw [if_neg (by omega)]
    exact h4 e' sz own es hl

theorem CVs.push {cs : List CV} {vs : List Value} (h : CVs w κ hh cs vs) (hn : CVOk hh κ.n) (e : Ent) (b : Nat) (u : Value) : CVs w (κ.push b u) (hh ++ [(κ.n, e)]) cs vs :=
  ⟨h.1, fun j c v hc hv => (h.2 j c v hc hv).push hn e b u⟩

theorem AVRep.push {x : AV} {v : Value} (h : AVRep w κ hh x v) (hn : CVOk hh κ.n) (e : Ent) (b : Nat) (u : Value) : AVRep w (κ.push b u) (hh ++ [(κ.n, e)]) x v := by
  cases x with
  | c x => exact CVRep.push h hn e b u
  | agg cs => obtain ⟨vs, q, hv⟩ := h; exact ⟨vs, q, hv.push hn e b u⟩
  | tup xs =>
    obtain ⟨vs, q, hl, hv⟩ := h
    refine ⟨vs, q, hl, fun j x v hx hu => ?_⟩
    have := hv j x v hx hu
    unfold TVRep at *
    split at this
    · obtain ⟨us, q, hus⟩ := this; exact ⟨us, q, hus.push hn e b u⟩
    · exact this.push hn e b u
  | w x u' => exact ⟨h.1, CVRep.push h.2 hn e b u⟩
  | u => trivial

theorem EntRep.push {id : Nat} {x : Ent} (h : EntRep w κ hh id x) (hn : CVOk hh κ.n) (hid : id < κ.n) (e : Ent) (b : Nat) (u : Value) : EntRep w (κ.push b u) (hh ++ [(κ.n, e)]) id x := by
  cases x with
  | box ty cs =>
    obtain ⟨vals, h1, h2⟩ := h
    exact ⟨vals, by simp only [Con.push]; rw [if_neg (by omega)]; exact h1, h2.push hn e b u⟩
  | arr e' sz ver own es =>
    show OwnRep _ _ _ _ _ _
    simp only [Con.push]
    rw [if_neg (by omega)]
    exact h

theorem Ent.blk_push {id : Nat} (hid : id < κ.n) (x : Ent) (b : Nat) (u : Value) : x.blk (κ.push b u) id = x.blk κ id := by
  cases x <;> simp only [Ent.blk, Con.push] <;> rw [if_neg (by omega)]

/-- A new entry. -/
def St.push (st : St) (e : Ent) : St := { st with h := st.h ++ [(st.n, e)], n := st.n + 1 }

theorem RepK.push (h : RepK F0 L w0 st a w κ) (e : Ent) (b : Nat) (u : Value) (he : EntRep w (κ.push b u) (st.h ++ [(st.n, e)]) st.n e)
    (hver : ∀ e' sz ver own es, e = .arr e' sz ver own es → ver = 0) (hb : ∀ b', e.blk (κ.push b u) st.n = some b' → w0.heap.size ≤ b' ∧ (e.own = true → ¬ κ.F b') ∧ (e.own = false → κ.F b') ∧ ∀ id x, look st.h id = some x → x.blk κ id ≠ some b') :
    RepK F0 L w0 (st.push e) a w (κ.push b u) := by
  have hk := h.kn
  have hok : CVOk st.h κ.n := fun id e he => hk ▸ h.new id e he
  have hlook : ∀ m, look (st.h ++ [(st.n, e)]) m = if st.n = m then some e else look st.h m := fun m => look_push _ _ _ _ (hk ▸ hok)
  refine { below := h.below, f0 := h.f0, f1 := h.f1, f2 := h.f2, size := h.size, dfs := h.dfs, kn := by simp [Con.push, St.push, hk], kv := ?_, ents := ?_, new := ?_, excl := ?_, inj := ?_, tmps := ?_ }
  · intro id x hl
    simp only [St.push, hlook] at hl
    split at hl
    · rename_i hid; subst hid; cases hl; exact he
    · have := (h.ents id x hl).push hok (hk ▸ h.new id x hl) e b u
      rwa [hk] at this
  · intro id x hl
    simp only [St.push, hlook] at hl ⊢
    split at hl
    · omega
    · exact Nat.lt_succ_of_lt (h.new id x hl)
  · intro id x b' hl hb'
    simp only [St.push, hlook] at hl
    split at hl
    · rename_i hid; subst hid; cases hl
      obtain ⟨h1, h2, h3, _⟩ := hb b' hb'
      exact ⟨.inl h1, h2, h3⟩
    · rw [Ent.blk_push (hk ▸ h.new id x hl)] at hb'
      exact h.excl id x b' hl hb'
  · intro id id' x x' b' hl hl' hb1 hb2
    simp only [St.push, hlook] at hl hl'
    split at hl <;> split at hl'
    · omega
    · rename_i hid hid'; subst hid; cases hl
      rw [Ent.blk_push (hk ▸ h.new id' x' hl')] at hb2
      exact absurd hb2 ((hb b' hb1).2.2.2 id' x' hl')
    · rename_i hid hid'; subst hid'; cases hl'
      rw [Ent.blk_push (hk ▸ h.new id x hl)] at hb1
      exact absurd hb1 ((hb b' hb2).2.2.2 id x hl)
    · rw [Ent.blk_push (hk ▸ h.new id x hl)] at hb1
      rw [Ent.blk_push (hk ▸ h.new id' x' hl')] at hb2
      exact h.inj id id' x x' b' hl hl' hb1 hb2
  · intro t av hl
    obtain ⟨v, hv, hr⟩ := h.tmps t av hl
    have := hr.push hok e b u
    rw [hk] at this
    exact ⟨v, hv, this⟩
  · intro id e' sz ver own es hl
    simp only [St.push, hlook] at hl
    simp only [Con.push]
    split at hl
    · rename_i hid
      cases hl
      rw [if_pos (by omega)]
      exact (hver _ _ _ _ _ rfl).symm
    · rename_i hid
      rw [if_neg (by omega)]
      exact h.kv _ _ _ _ _ _ hl

/-- A new box in a new block. -/
theorem RepK.newBox (h : RepK F0 L w0 st a w κ) {ty : TypeId} {cs : List CV} {vals : List Value} (hv : CVs w κ st.h cs vals) :
    RepK F0 L w0 (st.push (.box ty cs)) a { w with heap := w.heap.push (.cells vals.toArray ty (0, 0)) } (κ.push w.heap.size (.nilFunc)) := by
  have hk := h.kn
  have g := Grew.alloc w (.cells vals.toArray ty (0, 0))
  have h' := h.grew g
  have hok : CVOk st.h κ.n := fun id e he => hk ▸ h.new id e he
  refine h'.push _ _ _ ⟨vals, ?_, ?_⟩ (fun _ _ _ _ _ h => by cases h) (fun b' hb' => ?_)
  · simp only [Con.push, hk, if_true]
    simp
  · have := (hv.keep (w' := { w with heap := w.heap.push (.cells vals.toArray ty (0, 0)) }) (fun b hb => g.block b (h.f2 b hb))).push hok (.box ty cs) w.heap.size .nilFunc
    rwa [hk] at this
  · simp only [Ent.blk, Con.push, hk, if_true, Option.some.injEq] at hb'
    subst hb'
    refine ⟨h.below.size, fun _ hF => ?_, fun hf => by simp [Ent.own] at hf, fun id x hl hb2 => ?_⟩
    · exact absurd (h.f2 _ hF) (Nat.lt_irrefl _)
    · exact absurd ((h.ents id x hl).lt hb2) (Nat.lt_irrefl _)

/-- A new row in a new block. -/
theorem RepK.newArr (h : RepK F0 L w0 st a w κ) (g : Grew w w') {e sz : Nat} {es : List (List D)} {v : Value} (ho : OwnRep w' κ.F e sz v es) (hb : ∀ b, v.ownBlock = some b → w.heap.size ≤ b) :
    RepK F0 L w0 (st.push (.arr e sz 0 true es)) a w' (κ.push 0 v) := by
  have hk := h.kn
  have h' := h.grew g
  refine h'.push _ _ _ ?_ (fun _ _ _ _ _ h => by cases h; rfl) (fun b' hb' => ?_)
  · show OwnRep _ _ _ _ _ _
    simp only [Con.push, hk, if_true]
    exact ho
  · simp only [Ent.blk, Con.push, hk, if_true] at hb'
    have hge := hb b' hb'
    refine ⟨Nat.le_trans h.below.size hge, fun _ hF => absurd (h.f2 _ hF) (by omega), fun hf => by simp [Ent.own] at hf, fun id x hl hb2 => ?_⟩
    have := (h.ents id x hl).lt hb2
    omega

end
end Go.H
