/- Framework H, part 0: abstract data, frame states, and how they stand to the machine's memory. -/
import Derived.Below
import Derived.Laws.AppendOwn
import Derived.Laws.OwnMore
import Derived.Laws.MakeOwn
import Derived.Calls
namespace Go.H
set_option linter.unusedSimpArgs false
set_option linter.unusedVariables false
open Go.RowKit

/-- Data as a reader sees them. 'sl sz es': a slice, each element of 'sz' cells. 'rp cs': a pointer to cells that are only read. -/
inductive D where
  | int (k : IntKind) (n : Int)
  | bool (b : Bool)
  | str (s : ByteArray)
  | sl (sz : Nat) (es : List (List D))
  | fn (f : FuncId) (caps : List D)
  | rp (cs : List D)
  deriving Inhabited

/-- Value v reads as d, out of blocks of F alone. -/
inductive Fz (w : World) (F : Nat → Prop) : Value → D → Prop
  | int (k : IntKind) (n : Int) : Fz w F (.int k n) (.int k n)
  | bool (b : Bool) : Fz w F (.bool b) (.bool b)
  | str (s : ByteArray) : Fz w F (.string s) (.str s)
  | sl (a : Option Addr) (len cap sz : Nat) (es : List (List D)) (val : Nat → Nat → Value) (hl : len = es.length) (hc : len ≤ cap)
      (he : ∀ (i : Nat) (c : List D), es[i]? = some c → c.length = sz)
      (ha : es ≠ [] → ∃ A, a = some A ∧ F A.block ∧ A.spot = none)
      (hr : ∀ (A : Addr) (i : Nat) (c : List D) (j : Nat) (d : D), a = some A → es[i]? = some c → c[j]? = some d → w.cell? (A.add (i * sz + j)) = some (val i j))
      (hs : ∀ (i : Nat) (c : List D) (j : Nat) (d : D), es[i]? = some c → c[j]? = some d → Fz w F (val i j) d) : Fz w F (.slice a len cap) (.sl sz es)
  | fn (f : FuncId) (caps : List D) (vs : List Value) (hl : vs.length = caps.length) (hs : ∀ (i : Nat) (d : D) (u : Value), caps[i]? = some d → vs[i]? = some u → Fz w F u d) :
      Fz w F (.func (.func f) #[] vs.toArray) (.fn f caps)
  | rp (A : Addr) (cs : List D) (val : Nat → Value) (hF : cs ≠ [] → F A.block ∧ A.spot = none)
      (hr : ∀ (j : Nat) (d : D), cs[j]? = some d → w.cell? (A.add j) = some (val j)) (hs : ∀ (j : Nat) (d : D), cs[j]? = some d → Fz w F (val j) d) : Fz w F (.pointer (some A)) (.rp cs)

theorem Fz.one {w : World} {F : Nat → Prop} {v : Value} {d : D} (h : Fz w F v d) : v.oneCell' = true := by cases h <;> rfl
theorem Fz.cells {w : World} {F : Nat → Prop} {v : Value} {d : D} (h : Fz w F v d) : v.cells = #[v] := by cases h <;> rfl

theorem add_block (A : Addr) (n : Nat) : (A.add n).block = A.block := by unfold Addr.add; split <;> rfl
theorem add_add (A : Addr) (m n : Nat) : (A.add m).add n = A.add (m + n) := by
  unfold Addr.add
  by_cases h1 : m = 0 <;> by_cases h2 : n = 0 <;> simp [h1, h2, Nat.add_assoc]
theorem add_spot {A : Addr} (h : A.spot = none) (n : Nat) : (A.add n).spot = none := by unfold Addr.add; split <;> simp_all

theorem Fz.keep {w w' : World} {F F' : Nat → Prop} (hk : ∀ b, F b → w'.heap[b]? = w.heap[b]?) (hF : ∀ b, F b → F' b) {v : Value} {d : D} (h : Fz w F v d) : Fz w' F' v d := by
  induction h with
  | int k n => exact .int k n
  | bool b => exact .bool b
  | str s => exact .str s
  | sl a len cap sz es val hl hc he ha hr hs ih =>
    refine .sl a len cap sz es val hl hc he (fun h => ?_) (fun A i c j d hA hi hj => ?_) ih
    · obtain ⟨A, h1, h2, h3⟩ := ha h
      exact ⟨A, h1, hF _ h2, h3⟩
    · have hne : es ≠ [] := by intro h; subst h; simp at hi
      obtain ⟨A', h1, h2, h3⟩ := ha hne
      obtain rfl : A' = A := by rw [hA] at h1; exact (Option.some.inj h1).symm
      rw [World.cell?_of_block (w := w) (by rw [add_block]; exact hk _ h2)]
      exact hr _ i c j d hA hi hj
  | fn f caps vs hl hs ih => exact .fn f caps vs hl ih
  | rp A cs val hF' hr hs ih =>
    refine .rp A cs val (fun h => ⟨hF _ (hF' h).1, (hF' h).2⟩) (fun j d hj => ?_) ih
    have hne : cs ≠ [] := by intro h; subst h; simp at hj
    rw [World.cell?_of_block (w := w) (by rw [add_block]; exact hk _ (hF' hne).1)]
    exact hr j d hj

/-- What a cell of the frame holds. 'ref id ver s': a slice of the frame's own row 'id': none: all of it; (hd, off, len): a part (hd: its head, with the whole capacity); 'ptr id off': a pointer into the frame's own box; 'ep': a pointer into an own row. -/
inductive CV where
  | d (x : D)
  | nl (sz : Nat)
  | ref (id ver : Nat) (s : Option (Bool × Nat × Nat))
  | ptr (id off : Nat)
  | ep (id ver i j : Nat)
  | fn (f : FuncId) (caps : List (Nat × Nat))
  | u
  deriving Inhabited

inductive AV where
  | c (x : CV)
  | agg (cs : List CV)
  | w (x : CV) (v : Value)     -- a cell that is known to hold just this value
  | tup (xs : List (Bool × List CV))     -- a component: (true, its cells) for a struct, (false, [x]) for one cell
  | u
  deriving Inhabited

inductive Ent where
  | box (ty : TypeId) (cs : List CV)
  | arr (e : TypeId) (sz ver : Nat) (own : Bool) (es : List (List D))
  deriving Inhabited

/-- A list kept by numbers. -/
def look {α : Type} : List (Nat × α) → Nat → Option α
  | [], _ => none
  | (k, x) :: r, n => if Nat.beq k n then some x else look r n
def lput {α : Type} : List (Nat × α) → Nat → α → List (Nat × α)
  | [], n, v => [(n, v)]
  | (k, x) :: r, n, v => if Nat.beq k n then (k, v) :: r else (k, x) :: lput r n v

theorem look_lput {α : Type} (l : List (Nat × α)) (n m : Nat) (v : α) : look (lput l n v) m = if n = m then some v else look l m := by
  induction l with
  | nil => simp only [lput, look, Nat.beq_eq]
  | cons p r ih =>
    obtain ⟨k, x⟩ := p
    by_cases hk : k = n
    · subst hk
      by_cases hm : k = m
      · simp [lput, look, hm]
      · simp [lput, look, hm]
    · by_cases hm : k = m
      · subst hm
        simp [lput, look, hk]
        intro h; exact absurd h.symm hk
      · simp [lput, look, hk, hm, ih]

structure St where
  t : List (Nat × AV)
  h : List (Nat × Ent)
  n : Nat
  N : Nat
  deriving Inhabited

structure Con where
  F : Nat → Prop
  bl : Nat → Nat
  val : Nat → Value
  n : Nat
  vr : Nat → Nat

def offR (s : Option (Bool × Nat × Nat)) : Nat := match s with | none => 0 | some (_, o, _) => o
def lenR (es : List (List D)) (s : Option (Bool × Nat × Nat)) : Nat := match s with | none => es.length | some (_, _, n) => n
def hdR (s : Option (Bool × Nat × Nat)) : Bool := match s with | none => true | some (h, _, _) => h

def CVRep (w : World) (κ : Con) (h : List (Nat × Ent)) : CV → Value → Prop
  | .d x, v => Fz w κ.F v x
  | .nl _, v => v = .slice none 0 0
  | .ref id ver s, v => (id < κ.n ∧ ver ≤ κ.vr id) ∧ v.oneCell' = true ∧ v.cells = #[v] ∧ ∀ e sz own es, look h id = some (.arr e sz ver own es) → offR s + lenR es s ≤ es.length ∧ ∃ a n c a' c', κ.val id = .slice a n c ∧ v = .slice a' (lenR es s) c' ∧ lenR es s ≤ c' ∧
      (lenR es s ≠ 0 → a' = a.map (·.add (offR s * sz))) ∧ (hdR s = true → offR s = 0 ∧ a' = a ∧ c' = c)
  | .ptr id off, v => id < κ.n ∧ v = .pointer (some ⟨κ.bl id, off, none⟩)
  | .ep id ver i j, v => (id < κ.n ∧ ver ≤ κ.vr id) ∧ v.oneCell' = true ∧ v.cells = #[v] ∧ ∀ e sz own es, look h id = some (.arr e sz ver own es) → i < es.length ∧ ∃ A n c, κ.val id = .slice (some A) n c ∧ v = .pointer (some (A.add (i * sz + j)))
  | .fn f caps, v => (∀ p ∈ caps, p.1 < κ.n) ∧ v = .func (.func f) #[] (caps.map fun p => Value.pointer (some ⟨κ.bl p.1, p.2, none⟩)).toArray
  | .u, v => v.oneCell' = true ∧ v.cells = #[v]

theorem CVRep.one {w : World} {κ : Con} {h : List (Nat × Ent)} {x : CV} {v : Value} (hr : CVRep w κ h x v) : v.oneCell' = true ∧ v.cells = #[v] := by
  cases x with
  | d x => exact ⟨Fz.one hr, Fz.cells hr⟩
  | nl => cases hr; exact ⟨rfl, rfl⟩
  | ref => exact ⟨hr.2.1, hr.2.2.1⟩
  | ptr => cases hr.2; exact ⟨rfl, rfl⟩
  | ep => exact ⟨hr.2.1, hr.2.2.1⟩
  | fn => cases hr.2; exact ⟨rfl, rfl⟩
  | u => exact hr

/-- Cells one by one. -/
def CVs (w : World) (κ : Con) (h : List (Nat × Ent)) (cs : List CV) (vs : List Value) : Prop :=
  vs.length = cs.length ∧ ∀ (j : Nat) (c : CV) (u : Value), cs[j]? = some c → vs[j]? = some u → CVRep w κ h c u

def TVRep (w : World) (κ : Con) (h : List (Nat × Ent)) (x : Bool × List CV) (v : Value) : Prop :=
  match x.1 with
  | true => ∃ vs : List Value, v = .agg vs.toArray ∧ CVs w κ h x.2 vs
  | false => CVs w κ h x.2 [v]

def AVRep (w : World) (κ : Con) (h : List (Nat × Ent)) : AV → Value → Prop
  | .c x, v => CVRep w κ h x v
  | .agg cs, v => ∃ vs : List Value, v = .agg vs.toArray ∧ CVs w κ h cs vs
  | .tup xs, v => ∃ vs : List Value, v = .tuple vs.toArray ∧ vs.length = xs.length ∧ ∀ (j : Nat) (x : Bool × List CV) (u : Value), xs[j]? = some x → vs[j]? = some u → TVRep w κ h x u
  | .w x u, v => v = u ∧ CVRep w κ h x v
  | .u, _ => True

/-- An own row holds es. -/
def OwnRep (w : World) (F : Nat → Prop) (e : TypeId) (sz : Nat) (v : Value) (es : List (List D)) : Prop :=
  ∃ xs : List Value, w.ownsRow 0 e sz v es.length xs ∧ ∀ (i : Nat) (c : List D), es[i]? = some c → c.length = sz ∧ ∀ (j : Nat) (d : D), c[j]? = some d → ∃ u, xs[i * sz + j]? = some u ∧ Fz w F u d

def EntRep (w : World) (κ : Con) (h : List (Nat × Ent)) (id : Nat) : Ent → Prop
  | .box ty cs => ∃ vals : List Value, w.heap[κ.bl id]? = some (.cells vals.toArray ty (0, 0)) ∧ CVs w κ h cs vals
  | .arr e sz _ _ es => OwnRep w κ.F e sz (κ.val id) es

def Ent.blk (κ : Con) (id : Nat) : Ent → Option Nat
  | .box _ _ => some (κ.bl id)
  | .arr .. => (κ.val id).ownBlock
def Ent.own : Ent → Bool
  | .box _ _ => true
  | .arr _ _ _ o _ => o

/-- What stood in memory stands, but for the blocks L that were lent. -/
structure Bel (L : Nat → Prop) (w0 w : World) : Prop where
  os : w.os = w0.os
  tape : w.tape = w0.tape
  output : w.output = w0.output
  size : w0.heap.size ≤ w.heap.size
  block : ∀ k, k < w0.heap.size → ¬ L k → w.heap[k]? = w0.heap[k]?
theorem Bel.below {w0 w : World} (h : Bel (fun _ => False) w0 w) : Below w0.heap.size w0 w := ⟨h.os, h.tape, h.output, h.size, fun k hk => h.block k hk (fun f => f)⟩
theorem Bel.refl (L : Nat → Prop) (w : World) : Bel L w w := ⟨rfl, rfl, rfl, Nat.le_refl _, fun _ _ _ => rfl⟩
theorem Bel.step {L : Nat → Prop} {w0 w w' : World} (h : Bel L w0 w) (g1 : w'.os = w.os) (g2 : w'.tape = w.tape) (g3 : w'.output = w.output) (g4 : w.heap.size ≤ w'.heap.size) (g5 : ∀ k, k < w0.heap.size → ¬ L k → w'.heap[k]? = w.heap[k]?) : Bel L w0 w' :=
  ⟨g1.trans h.os, g2.trans h.tape, g3.trans h.output, Nat.le_trans h.size g4, fun k hk hl => (g5 k hk hl).trans (h.block k hk hl)⟩

structure RepK (F0 L : Nat → Prop) (w0 : World) (st : St) (a : Act) (w : World) (κ : Con) : Prop where
  below : Bel L w0 w
  f0 : ∀ b, F0 b → κ.F b
  f1 : ∀ b, κ.F b → F0 b ∨ w0.heap.size ≤ b ∨ L b
  f2 : ∀ b, κ.F b → b < w.heap.size
  ents : ∀ id e, look st.h id = some e → EntRep w κ st.h id e
  new : ∀ id e, look st.h id = some e → id < st.n
  excl : ∀ id e b, look st.h id = some e → e.blk κ id = some b → (w0.heap.size ≤ b ∨ L b) ∧ (e.own = true → ¬ κ.F b) ∧ (e.own = false → κ.F b)
  inj : ∀ id id' e e' b, look st.h id = some e → look st.h id' = some e' → e.blk κ id = some b → e'.blk κ id' = some b → id = id'
  tmps : ∀ t av, look st.t t = some av → ∃ v, a.tmps[t]? = some v ∧ AVRep w κ st.h av v
  size : a.tmps.size = st.N
  dfs : a.defers = []
  kn : κ.n = st.n
  kv : ∀ id e sz ver own es, look st.h id = some (.arr e sz ver own es) → κ.vr id = ver

def Rep (F0 L : Nat → Prop) (w0 : World) (st : St) (a : Act) (w : World) : Prop := ∃ κ, RepK F0 L w0 st a w κ

/-- A piece of code, from an abstract state on. -/
def Tri (P : Program) (c : Code) (st : St) (Q : Exit → St → Prop) : Prop :=
  ∀ F0 L w0 a w, Rep F0 L w0 st a w → c.wp P (fun ex a' w' => ∃ st', Q ex st' ∧ Rep F0 L w0 st' a' w') a w

end Go.H
