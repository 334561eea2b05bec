/- Framework H, part 5: what memory's changes do to a frame's state; new boxes and rows. -/
import Derived.Test.YtjjlpjdaffdceaaH4
namespace Go.H
open Go.RowKit

section
variable {P : Program} {T : TypeId → Option TI} {F0 : Nat → Prop} {w0 w w' : World} {st : St} {a : Act} {κ κ' : Con} {hh : List (Nat × Ent)}

theorem CVRep.keep {x : CV} {v : Value} (h : CVRep w κ hh x v) (hk : ∀ b, κ.F b → w'.heap[b]? = w.heap[b]?) : CVRep w' κ hh x v := by
  cases x with
  | d x => exact Fz.keep hk (fun _ h => h) h
  | _ => exact h

theorem CVs.keep {cs : List CV} {vs : List Value} (h : CVs w κ hh cs vs) (hk : ∀ b, κ.F b → w'.heap[b]? = w.heap[b]?) : CVs w' κ hh cs vs :=
  ⟨h.1, fun j c u hc hu => (h.2 j c u hc hu).keep hk⟩

theorem AVRep.keep {x : AV} {v : Value} (h : AVRep w κ hh x v) (hk : ∀ b, κ.F b → w'.heap[b]? = w.heap[b]?) : AVRep w' κ hh x v := by
  cases x with
  | c x => exact CVRep.keep h hk
  | agg cs => obtain ⟨vs, e, hv⟩ := h; exact ⟨vs, e, hv.keep hk⟩
  | tup xs =>
    obtain ⟨vs, e, hl, hv⟩ := h
    refine ⟨vs, e, hl, fun j x u hx hu => ?_⟩
    have := hv j x u hx hu
    unfold TVRep at *
    split at this
    · obtain ⟨us, e, hus⟩ := this; exact ⟨us, e, hus.keep hk⟩
    · exact this.keep hk
  | u => trivial

theorem OwnRep.keep {e sz : Nat} {v : Value} {es : List (List D)} {F : Nat → Prop} (h : OwnRep w F e sz v es) (hk : ∀ b, F b → w'.heap[b]? = w.heap[b]?) (hb : ∀ b, v.ownBlock = some b → w'.heap[b]? = w.heap[b]?) : OwnRep w' F e sz v es := by
  obtain ⟨xs, ho, hx⟩ := h
  refine ⟨xs, ⟨ho.1, ?_⟩, fun i c hc => ⟨(hx i c hc).1, fun j d hd => ?_⟩⟩
  · rcases ho.2 with h1 | ⟨g, cap, cur, h1, h2, h3, h4⟩
    · exact .inl h1
    · exact .inr ⟨g, cap, cur, h1, h2, by rw [hb g (by rw [h1]; rfl)]; exact h3, h4⟩
  · obtain ⟨u, hu, hF⟩ := (hx i c hc).2 j d hd
    exact ⟨u, hu, Fz.keep hk (fun _ h => h) hF⟩

theorem EntRep.keep {id : Nat} {e : Ent} (h : EntRep w κ hh id e) (hk : ∀ b, κ.F b → w'.heap[b]? = w.heap[b]?) (hb : ∀ b, e.blk κ id = some b → w'.heap[b]? = w.heap[b]?) : EntRep w' κ hh id e := by
  cases e with
  | box ty cs =>
    obtain ⟨vals, h1, h2⟩ := h
    exact ⟨vals, by rw [hb _ rfl]; exact h1, h2.keep hk⟩
  | arr e sz ver own es => exact OwnRep.keep h hk (fun b hb' => hb b hb')

theorem EntRep.lt {id : Nat} {e : Ent} (h : EntRep w κ hh id e) {b : Nat} (hb : e.blk κ id = some b) : b < w.heap.size := by
  cases e with
  | box ty cs =>
    obtain ⟨vals, h1, h2⟩ := h
    cases hb
    exact (Array.getElem?_eq_some_iff.1 h1).1
  | arr e sz ver own es =>
    obtain ⟨xs, ho, _⟩ := h
    exact (ho.lt b hb).2

/-- Memory has grown; nothing that was there has turned. -/
structure Grew (w w' : World) : Prop where
  os : w'.os = w.os
  tape : w'.tape = w.tape
  output : w'.output = w.output
  size : w.heap.size ≤ w'.heap.size
  block : ∀ k, k < w.heap.size → w'.heap[k]? = w.heap[k]?

theorem Grew.refl (w : World) : Grew w w := ⟨rfl, rfl, rfl, Nat.le_refl _, fun _ _ => rfl⟩
theorem Grew.drew (w : World) : Grew w { w with drawn := w.drawn + 1 } := ⟨rfl, rfl, rfl, Nat.le_refl _, fun _ _ => rfl⟩
theorem Grew.alloc (w : World) (o : Obj) : Grew w { w with heap := w.heap.push o } :=
  ⟨rfl, rfl, rfl, by simp, fun k hk => by rw [Array.getElem?_push, if_neg (by omega)]⟩
theorem Grew.of_grown {row : Option Nat} (h : w.grownBy w' row) (hr : row = none) : Grew w w' := ⟨h.os, h.tape, h.output, h.size, fun k hk => h.block k hk (by rw [hr]; simp)⟩

theorem RepK.grew (h : RepK F0 w0 st a w κ) (g : Grew w w') : RepK F0 w0 st a w' κ where
  below := h.below.trans ⟨g.os, g.tape, g.output, g.size, fun k hk => g.block k (Nat.lt_of_lt_of_le hk h.below.size)⟩
  f0 := h.f0
  f1 := h.f1
  f2 b hb := Nat.lt_of_lt_of_le (h.f2 b hb) g.size
  ents id e hl := (h.ents id e hl).keep (fun b hb => g.block b (h.f2 b hb)) (fun b hb => g.block b ((h.ents id e hl).lt hb))
  new := h.new
  excl := h.excl
  inj := h.inj
  tmps t av hl := let ⟨v, hv, hr⟩ := h.tmps t av hl; ⟨v, hv, hr.keep (fun b hb => g.block b (h.f2 b hb))⟩
  size := h.size
  dfs := h.dfs
  kn := h.kn
  kv := h.kv

/-- A slot is set. -/
def setT (st : St) (dst : Option Tmp) (av : AV) (K : St → Prop) : Prop :=
  match dst with
  | none => K st
  | some d => match Nat.blt d st.N with | true => K { st with t := lput st.t d av } | false => False

theorem RepK.put (h : RepK F0 w0 st a w κ) {av : AV} {v : Value} (hv : AVRep w κ st.h av v) {d : Nat} (hd : d < st.N) : RepK F0 w0 { st with t := lput st.t d av } (a.put (some d) v) w κ where
  below := h.below
  f0 := h.f0
  f1 := h.f1
  f2 := h.f2
  ents := h.ents
  new := h.new
  excl := h.excl
  inj := h.inj
  tmps t av' hl := by
    simp only [look_lput] at hl
    split at hl
    · rename_i he
      subst he
      simp only [Option.some.injEq] at hl
      subst hl
      exact ⟨v, by simp [Act.put, h.size, hd], hv⟩
    · rename_i hne
      obtain ⟨u, hu, hr⟩ := h.tmps t av' hl
      exact ⟨u, by simp only [Act.put]; rw [Array.getElem?_setIfInBounds_ne hne]; exact hu, hr⟩
  size := by simp [Act.put, h.size]
  dfs := h.dfs
  kn := h.kn
  kv := h.kv

theorem setT_sound {dst : Option Tmp} {av : AV} {K : St → Prop} (hK : setT st dst av K) (h : RepK F0 w0 st a w κ) {v : Value} (hv : AVRep w κ st.h av v) : ∃ st', K st' ∧ RepK F0 w0 st' (a.put dst v) w κ := by
  unfold setT at hK
  split at hK
  · exact ⟨st, hK, h⟩
  · rename_i d
    split at hK
    · rename_i hd
      exact ⟨_, hK, h.put hv (by simpa using hd)⟩
    · exact hK.elim

/-! ### a new entry -/
def CVOk (h : List (Nat × Ent)) (n : Nat) : Prop := ∀ id e, look h id = some e → id < n

theorem look_push (l : List (Nat × Ent)) (n m : Nat) (e : Ent) (hn : CVOk l n) : look (l ++ [(n, e)]) m = if n = m then some e else look l m := by
  induction l with
  | nil => simp only [List.nil_append, look, Nat.beq_eq]
  | cons p r ih =>
    obtain ⟨k, x⟩ := p
    have hk : k < n := hn k x (by simp [look])
    have hr : CVOk r n := fun id e he => by
      by_cases h : k = id
      · subst h; exact hk
      · exact hn id e (by simp [look, h, he])
    simp only [List.cons_append, look]
    by_cases hm : k = m
    · subst hm; simp; intro h; omega
    · simp [hm, ih hr]

end
end Go.H
