/- Framework H, part 5: what memory's changes do to a frame's state; new boxes and rows. -/
import Derived.Test.YtbclkplebkencaaH4
namespace Go.H
set_option linter.unusedSimpArgs false
set_option linter.unusedVariables false
open Go.RowKit

section
variable {P : Program} {T : TypeId → Option TI} {F0 L : Nat → Prop} {w0 w w' : World} {st : St} {a : Act} {κ κ' : Con} {hh : List (Nat × Ent)}

theorem CVRep.keep {x : CV} {v : Value} (h : CVRep w κ hh x v) (hk : ∀ b, κ.F b → w'.heap[b]? = w.heap[b]?) : CVRep w' κ hh x v := by
  cases x with
  | d x => exact Fz.keep hk (fun _ h => h) h
  | _ => exact h

theorem CVs.keep {cs : List CV} {vs : List Value} (h : CVs w κ hh cs vs) (hk : ∀ b, κ.F b → w'.heap[b]? = w.heap[b]?) : CVs w' κ hh cs vs :=
  ⟨h.1, fun j c u hc hu => (h.2 j c u hc hu).keep hk⟩

theorem AVRep.keep {x : AV} {v : Value} (h : AVRep w κ hh x v) (hk : ∀ b, κ.F b → w'.heap[b]? = w.heap[b]?) : AVRep w' κ hh x v := by
  cases x with
  | c x => exact CVRep.keep h hk
  | agg cs => obtain ⟨vs, e, hv⟩ := h; exact ⟨vs, e, hv.keep hk⟩
  | tup xs =>
    obtain ⟨vs, e, hl, hv⟩ := h
    refine ⟨vs, e, hl, fun j x u hx hu => ?_⟩
    have := hv j x u hx hu
    unfold TVRep at *
    split at this
    · obtain ⟨us, e, hus⟩ := this; exact ⟨us, e, hus.keep hk⟩
    · exact this.keep hk
  | w x u => exact ⟨h.1, CVRep.keep h.2 hk⟩
  | u => trivial

theorem OwnRep.keep {e sz : Nat} {v : Value} {es : List (List D)} {F : Nat → Prop} (h : OwnRep w F e sz v es) (hk : ∀ b, F b → w'.heap[b]? = w.heap[b]?) (hb : ∀ b, v.ownBlock = some b → w'.heap[b]? = w.heap[b]?) : OwnRep w' F e sz v es := by
  obtain ⟨xs, ho, hx⟩ := h
  refine ⟨xs, ⟨ho.1, ?_⟩, fun i c hc => ⟨(hx i c hc).1, fun j d hd => ?_⟩⟩
  · rcases ho.2 with h1 | ⟨g, cap, cur, h1, h2, h3, h4⟩
    · exact .inl h1
    · exact .inr ⟨g, cap, cur, h1, h2, by rw [hb g (by rw [h1]; rfl)]; exact h3, h4⟩
  · obtain ⟨u, hu, hF⟩ := (hx i c hc).2 j d hd
    exact ⟨u, hu, Fz.keep hk (fun _ h => h) hF⟩

theorem EntRep.keep {id : Nat} {e : Ent} (h : EntRep w κ hh id e) (hk : ∀ b, κ.F b → w'.heap[b]? = w.heap[b]?) (hb : ∀ b, e.blk κ id = some b → w'.heap[b]? = w.heap[b]?) : EntRep w' κ hh id e := by
  cases e with
  | box ty cs =>
    obtain ⟨vals, h1, h2⟩ := h
    exact ⟨vals, by rw [hb _ rfl]; exact h1, h2.keep hk⟩
  | arr e sz ver own es => exact OwnRep.keep h hk (fun b hb' => hb b hb')

theorem EntRep.lt {id : Nat} {e : Ent} (h : EntRep w κ hh id e) {b : Nat} (hb : e.blk κ id = some b) : b < w.heap.size := by
  cases e with
  | box ty cs =>
    obtain ⟨vals, h1, h2⟩ := h
    cases hb
    exact (Array.getElem?_eq_some_iff.1 h1).1
  | arr e sz ver own es =>
    obtain ⟨xs, ho, _⟩ := h
    exact (ho.lt b hb).2

/-- Memory has grown; nothing that was there has turned. -/
structure Grew (w w' : World) : Prop where
  os : w'.os = w.os
  tape : w'.tape = w.tape
  output : w'.output = w.output
  size : w.heap.size ≤ w'.heap.size
  block : ∀ k, k < w.heap.size → w'.heap[k]? = w.heap[k]?

theorem Grew.refl (w : World) : Grew w w := ⟨rfl, rfl, rfl, Nat.le_refl _, fun _ _ => rfl⟩
theorem Grew.drew (w : World) : Grew w { w with drawn := w.drawn + 1 } := ⟨rfl, rfl, rfl, Nat.le_refl _, fun _ _ => rfl⟩
theorem Grew.alloc (w : World) (o : Obj) : Grew w { w with heap := w.heap.push o } :=
  ⟨rfl, rfl, rfl, by simp, fun k hk => by rw [Array.getElem?_push, if_neg (by omega)]⟩
theorem Grew.of_grown {row : Option Nat} (h : w.grownBy w' row) (hr : row = none) : Grew w w' := ⟨h.os, h.tape, h.output, h.size, fun k hk => h.block k hk (by rw [hr]; simp)⟩

theorem RepK.grew (h : RepK F0 L w0 st a w κ) (g : Grew w w') : RepK F0 L w0 st a w' κ where
  below := h.below.step g.os g.tape g.output g.size fun k hk _ => g.block k (Nat.lt_of_lt_of_le hk h.below.size)
  f0 := h.f0
  f1 := h.f1
  f2 b hb := Nat.lt_of_lt_of_le (h.f2 b hb) g.size
  ents id e hl := (h.ents id e hl).keep (fun b hb => g.block b (h.f2 b hb)) (fun b hb => g.block b ((h.ents id e hl).lt hb))
  new := h.new
  excl := h.excl
  inj := h.inj
  tmps t av hl := let ⟨v, hv, hr⟩ := h.tmps t av hl; ⟨v, hv, hr.keep (fun b hb => g.block b (h.f2 b hb))⟩
  size := h.size
  dfs := h.dfs
  kn := h.kn
  kv := h.kv

/-! ### looked through to the constructors: what the walk keeps is laid open, and nothing else is done to it -/
def fNl : List Nat → Nat → (Nat → Prop) → Prop
  | [], n, K => K n
  | m :: r, n, K => match Nat.beq n m with | true => K m | false => fNl r n K
def fN (n : Nat) (K : Nat → Prop) : Prop := fNl [0, 1, 2, 3, 4, 5, 6, 7, 8, 9, 10, 11, 12, 13, 14, 15, 16, 17, 18, 19, 20, 21, 22, 23, 24, 25, 26, 27, 28, 29, 30, 31] n K
theorem fNl_eq {K : Nat → Prop} : ∀ (l : List Nat) (n : Nat), fNl l n K = K n
  | [], _ => rfl
  | m :: r, n => by
    simp only [fNl]
    cases hb : Nat.beq n m with
    | true => rw [Nat.eq_of_beq_eq_true hb]
    | false => exact fNl_eq r n
theorem fN_eq (n : Nat) (K : Nat → Prop) : fN n K = K n := fNl_eq _ n
def fD (x : D) (K : D → Prop) : Prop :=
  match x with
  | .int k n => K (.int k n)
  | .bool b => K (.bool b)
  | .str s => K (.str s)
  | .sl sz es => fN sz fun sz => K (.sl sz es)
  | .fn f caps => K (.fn f caps)
  | .rp cs => K (.rp cs)
theorem fD_eq (x : D) (K : D → Prop) : fD x K = K x := by cases x <;> simp only [fD, fN_eq]
def fP (s : Option (Bool × Nat × Nat)) (K : Option (Bool × Nat × Nat) → Prop) : Prop :=
  match s with
  | none => K none
  | some (b, o, n) => match b with | true => K (some (true, o, n)) | false => K (some (false, o, n))
theorem fP_eq (s : Option (Bool × Nat × Nat)) (K : Option (Bool × Nat × Nat) → Prop) : fP s K = K s := by
  rcases s with _ | ⟨b, o, n⟩
  · rfl
  · cases b <;> rfl
def fC (x : CV) (K : CV → Prop) : Prop :=
  match x with
  | .d x => K (.d x)
  | .nl sz => fN sz fun sz => K (.nl sz)
  | .ref id ver s => fN id fun id => fN ver fun ver => fP s fun s => K (.ref id ver s)
  | .ptr id off => fN id fun id => fN off fun off => K (.ptr id off)
  | .ep id ver i j => fN id fun id => fN ver fun ver => fN j fun j => K (.ep id ver i j)
  | .fn f caps => K (.fn f caps)
  | .u => K .u
theorem fC_eq (x : CV) (K : CV → Prop) : fC x K = K x := by cases x <;> simp only [fC, fN_eq, fD_eq, fP_eq]
def fL : List CV → (List CV → Prop) → Prop
  | [], K => K []
  | x :: r, K => fC x fun x => fL r fun r => K (x :: r)
theorem fL_eq : ∀ (l : List CV) (K : List CV → Prop), fL l K = K l
  | [], K => rfl
  | x :: r, K => by simp only [fL, fC_eq, fL_eq r]
def fX : List (Bool × List CV) → (List (Bool × List CV) → Prop) → Prop
  | [], K => K []
  | (b, cs) :: r, K => match b with
    | true => fL cs fun cs => fX r fun r => K ((true, cs) :: r)
    | false => fL cs fun cs => fX r fun r => K ((false, cs) :: r)
theorem fX_eq : ∀ (l : List (Bool × List CV)) (K : List (Bool × List CV) → Prop), fX l K = K l
  | [], K => rfl
  | (b, cs) :: r, K => by cases b <;> simp only [fX, fL_eq, fX_eq r]
def fA (x : AV) (K : AV → Prop) : Prop :=
  match x with
  | .c x => fC x fun x => K (.c x)
  | .agg cs => fL cs fun cs => K (.agg cs)
  | .w x v => fC x fun x => K (.w x v)
  | .tup xs => fX xs fun xs => K (.tup xs)
  | .u => K .u
theorem fA_eq (x : AV) (K : AV → Prop) : fA x K = K x := by cases x <;> simp only [fA, fC_eq, fL_eq, fX_eq]

def fE (e : Ent) (K : Ent → Prop) : Prop :=
  match e with
  | .box ty cs => fL cs fun cs => K (.box ty cs)
  | .arr e sz ver own es => fN sz fun sz => fN ver fun ver => match own with | true => K (.arr e sz ver true es) | false => K (.arr e sz ver false es)
theorem fE_eq (e : Ent) (K : Ent → Prop) : fE e K = K e := by
  cases e with
  | box ty cs => simp only [fE, fL_eq]
  | arr e sz ver own es => cases own <;> simp only [fE, fN_eq]
def fH : List (Nat × Ent) → (List (Nat × Ent) → Prop) → Prop
  | [], K => K []
  | (i, e) :: r, K => fN i fun i => fE e fun e => fH r fun r => K ((i, e) :: r)
theorem fH_eq : ∀ (l : List (Nat × Ent)) (K : List (Nat × Ent) → Prop), fH l K = K l
  | [], K => rfl
  | (i, e) :: r, K => by simp only [fH, fN_eq, fE_eq, fH_eq r]
def fT : List (Nat × AV) → (List (Nat × AV) → Prop) → Prop
  | [], K => K []
  | (i, e) :: r, K => fN i fun i => fA e fun e => fT r fun r => K ((i, e) :: r)
theorem fT_eq : ∀ (l : List (Nat × AV)) (K : List (Nat × AV) → Prop), fT l K = K l
  | [], K => rfl
  | (i, e) :: r, K => by simp only [fT, fN_eq, fA_eq, fT_eq r]
def snocK {α : Type} : List α → α → (List α → Prop) → Prop
  | [], x, K => K [x]
  | a :: r, x, K => snocK r x fun r => K (a :: r)
theorem snocK_eq {α : Type} : ∀ (l : List α) (x : α) (K : List α → Prop), snocK l x K = K (l ++ [x])
  | [], x, K => rfl
  | a :: r, x, K => by simp only [snocK, snocK_eq r, List.cons_append]
def lputK {α : Type} : List (Nat × α) → Nat → α → (List (Nat × α) → Prop) → Prop
  | [], n, v, K => K [(n, v)]
  | (k, x) :: r, n, v, K => match Nat.beq k n with | true => K ((k, v) :: r) | false => lputK r n v fun r => K ((k, x) :: r)
theorem lputK_eq {α : Type} : ∀ (l : List (Nat × α)) (n : Nat) (v : α) (K : List (Nat × α) → Prop), lputK l n v K = K (lput l n v)
  | [], n, v, K => rfl
  | (k, x) :: r, n, v, K => by
    simp only [lputK, lput]
    cases Nat.beq k n with
    | true => rfl
    | false => exact lputK_eq r n v _

/-- A slot is set: its new value lies ahead of what it held. -/
def tput (t : List (Nat × AV)) (d : Nat) (av : AV) : List (Nat × AV) := (d, av) :: t
theorem look_tput (t : List (Nat × AV)) (d m : Nat) (av : AV) : look (tput t d av) m = if d = m then some av else look t m := by
  simp only [tput, look]
  by_cases h : d = m
  · subst h; simp
  · rw [if_neg h]
    cases hb : Nat.beq d m with
    | true => exact absurd (Nat.eq_of_beq_eq_true hb) h
    | false => rfl
def setT (st : St) (dst : Option Tmp) (av : AV) (K : St → Prop) : Prop :=
  match dst with
  | none => K st
  | some d => match st with
    | ⟨t, h, n, N⟩ => match Nat.blt d N with | true => fA av fun av => K ⟨(d, av) :: t, h, n, N⟩ | false => False
theorem setT_eq (st : St) (dst : Option Tmp) (av : AV) (K : St → Prop) : setT st dst av K = match dst with
    | none => K st
    | some d => match Nat.blt d st.N with | true => K { st with t := tput st.t d av } | false => False := by
  cases dst with
  | none => rfl
  | some d => cases st; simp only [setT, fA_eq, tput]

theorem RepK.put (h : RepK F0 L w0 st a w κ) {av : AV} {v : Value} (hv : AVRep w κ st.h av v) {d : Nat} (hd : d < st.N) : RepK F0 L w0 { st with t := tput st.t d av } (a.put (some d) v) w κ where
  below := h.below
  f0 := h.f0
  f1 := h.f1
  f2 := h.f2
  ents := h.ents
  new := h.new
  excl := h.excl
  inj := h.inj
  tmps t av' hl := by
    simp only [look_tput] at hl
    split at hl
    · rename_i he
      subst he
      simp only [Option.some.injEq] at hl
      subst hl
      exact ⟨v, by simp [Act.put, h.size, hd], hv⟩
    · rename_i hne
      obtain ⟨u, hu, hr⟩ := h.tmps t av' hl
      exact ⟨u, by simp only [Act.put]; rw [Array.getElem?_setIfInBounds_ne hne]; exact hu, hr⟩
  size := by simp [Act.put, h.size]
  dfs := h.dfs
  kn := h.kn
  kv := h.kv

theorem RepK.reslot (h : RepK F0 L w0 st a w κ) {k : Nat} {x x' : AV} (hk : look st.t k = some x) (hx : ∀ v, AVRep w κ st.h x v → AVRep w κ st.h x' v) : RepK F0 L w0 { st with t := tput st.t k x' } a w κ := by
  refine { below := h.below, f0 := h.f0, f1 := h.f1, f2 := h.f2, size := h.size, dfs := h.dfs, kn := h.kn, ents := h.ents, new := h.new, excl := h.excl, inj := h.inj, kv := h.kv, tmps := fun t av ht => ?_ }
  simp only [look_tput] at ht
  split at ht
  · rename_i he
    subst he
    cases ht
    obtain ⟨v, hv, hr⟩ := h.tmps _ _ hk
    exact ⟨v, hv, hx v hr⟩
  · exact h.tmps t av ht
/-- By a test: laid open where the test is known. -/
def ifB (b : Bool) (x y : Prop) : Prop := match b with | true => x | false => y
theorem ifB_i {b : Bool} {x y : Prop} (h1 : b = true → x) (h2 : b = false → y) : ifB b x y := by cases b; exact h2 rfl; exact h1 rfl
theorem ifB_t {b : Bool} {x y : Prop} (h : ifB b x y) : b = true → x := fun e => by subst e; exact h
theorem ifB_f {b : Bool} {x y : Prop} (h : ifB b x y) : b = false → y := fun e => by subst e; exact h

theorem setT_sound {dst : Option Tmp} {av : AV} {K : St → Prop} (hK : setT st dst av K) (h : RepK F0 L w0 st a w κ) {v : Value} (hv : AVRep w κ st.h av v) : ∃ st', K st' ∧ RepK F0 L w0 st' (a.put dst v) w κ := by
  rw [setT_eq] at hK
  split at hK
  · exact ⟨st, hK, h⟩
  · rename_i d
    split at hK
    · rename_i hd
      exact ⟨_, hK, h.put hv (by simpa using hd)⟩
    · exact hK.elim

/-! ### a new entry -/
def CVOk (h : List (Nat × Ent)) (n : Nat) : Prop := ∀ id e, look h id = some e → id < n

theorem look_push (l : List (Nat × Ent)) (n m : Nat) (e : Ent) (hn : CVOk l n) : look (l ++ [(n, e)]) m = if n = m then some e else look l m := by
  induction l with
  | nil => simp only [List.nil_append, look, Nat.beq_eq]
  | cons p r ih =>
    obtain ⟨k, x⟩ := p
    have hk : k < n := hn k x (by simp [look])
    have hr : CVOk r n := fun id e he => by
      by_cases h : k = id
      · subst h; exact hk
      · exact hn id e (by simp [look, h, he])
    simp only [List.cons_append, look]
    by_cases hm : k = m
    · subst hm; simp; intro h; omega
    · simp [hm, ih hr]

end
end Go.H
