/- Framework H, part 0: abstract data, frame states, and how they stand to the machine's memory. -/
import Derived.Below
import Derived.Laws.AppendOwn
import Derived.Laws.OwnMore
import Derived.Laws.MakeOwn
import Derived.Calls
import Derived.Laws.Slices
import Derived.Laws.StructEq
import Derived.Laws.BytesString
set_option linter.unusedSimpArgs false
set_option linter.unusedVariables false
set_option linter.constructorNameAsVariable false
namespace Go.H
open Go.RowKit
inductive D where
 | int (k : IntKind) (n : Int)
 | bool (b : Bool)
 | str (s : ByteArray)
 | sl (sz : Nat) (es : List (List D))
 | fn (f : FuncId) (caps : List D)
 | rp (cs : List D)
 | any
 deriving Inhabited
inductive Fz (w : World) (F : Nat → Prop) : Value → D → Prop
 | int (k : IntKind) (n : Int) : Fz w F (.int k n) (.int k n)
 | bool (b : Bool) : Fz w F (.bool b) (.bool b)
 | str (s : ByteArray) : Fz w F (.string s) (.str s)
 | sl (a : Option Addr) (len cap sz : Nat) (es : List (List D)) (val : Nat → Nat → Value) (hl : len = es.length) (hc : len ≤ cap)
   (he : ∀ (i : Nat) (c : List D), es[i]? = some c → c.length = sz)
   (ha : es ≠ [] → ∃ A, a = some A ∧ F A.block ∧ A.spot = none)
   (hr : ∀ (A : Addr) (i : Nat) (c : List D) (j : Nat) (d : D), a = some A → es[i]? = some c → c[j]? = some d → w.cell? (A.add (i * sz + j)) = some (val i j))
   (hs : ∀ (i : Nat) (c : List D) (j : Nat) (d : D), es[i]? = some c → c[j]? = some d → Fz w F (val i j) d) : Fz w F (.slice a len cap) (.sl sz es)
 | fn (f : FuncId) (caps : List D) (vs : List Value) (hl : vs.length = caps.length) (hs : ∀ (i : Nat) (d : D) (u : Value), caps[i]? = some d → vs[i]? = some u → Fz w F u d) :
   Fz w F (.func (.func f) #[] vs.toArray) (.fn f caps)
 | rp (A : Addr) (cs : List D) (val : Nat → Value) (hF : cs ≠ [] → F A.block ∧ A.spot = none)
   (hr : ∀ (j : Nat) (d : D), cs[j]? = some d → w.cell? (A.add j) = some (val j)) (hs : ∀ (j : Nat) (d : D), cs[j]? = some d → Fz w F (val j) d) : Fz w F (.pointer (some A)) (.rp cs)
 | any (v : Value) (h1 : v.oneCell' = true) (h2 : v.cells = #[v]) : Fz w F v .any
theorem Fz.one {w : World} {F : Nat → Prop} {v : Value} {d : D} (h : Fz w F v d) : v.oneCell' = true := by cases h <;> first | rfl | assumption
theorem Fz.cells {w : World} {F : Nat → Prop} {v : Value} {d : D} (h : Fz w F v d) : v.cells = #[v] := by cases h <;> first | rfl | assumption
theorem add_block (A : Addr) (n : Nat) : (A.add n).block = A.block := by unfold Addr.add; split <;> rfl
theorem add_add (A : Addr) (m n : Nat) : (A.add m).add n = A.add (m + n) := by
 unfold Addr.add
 by_cases h1 : m = 0 <;> by_cases h2 : n = 0 <;> simp [h1, h2, Nat.add_assoc]
theorem add_spot {A : Addr} (h : A.spot = none) (n : Nat) : (A.add n).spot = none := by unfold Addr.add; split <;> simp_all
theorem Fz.keep {w w' : World} {F F' : Nat → Prop} (hk : ∀ b, F b → w'.heap[b]? = w.heap[b]?) (hF : ∀ b, F b → F' b) {v : Value} {d : D} (h : Fz w F v d) : Fz w' F' v d := by
 induction h with
 | int k n => exact .int k n
 | bool b => exact .bool b
 | str s => exact .str s
 | sl a len cap sz es val hl hc he ha hr hs ih =>
  refine .sl a len cap sz es val hl hc he (fun h => ?_) (fun A i c j d hA hi hj => ?_) ih
  ·obtain ⟨A, h1, h2, h3⟩ := ha h
   exact ⟨A, h1, hF _ h2, h3⟩
  ·have hne : es ≠ [] := by intro h; subst h; simp at hi
   obtain ⟨A', h1, h2, h3⟩ := ha hne
   obtain rfl : A' = A := by rw [hA] at h1; exact (Option.some.inj h1).symm
   rw [World.cell?_of_block (w := w) (by rw [add_block]; exact hk _ h2)]
   exact hr _ i c j d hA hi hj
 | fn f caps vs hl hs ih => exact .fn f caps vs hl ih
 | rp A cs val hF' hr hs ih =>
  refine .rp A cs val (fun h => ⟨hF _ (hF' h).1, (hF' h).2⟩) (fun j d hj => ?_) ih
  have hne : cs ≠ [] := by intro h; subst h; simp at hj
  rw [World.cell?_of_block (w := w) (by rw [add_block]; exact hk _ (hF' hne).1)]
  exact hr j d hj
 | any v h1 h2 => exact .any v h1 h2
inductive CV where
 | d (x : D)
 | nl (sz : Nat)
 | ref (id ver : Nat) (s : Option (Bool × Nat × Nat))
 | ptr (id off : Nat)
 | ep (id ver i j : Nat)
 | nst (id ver p : Nat)
 | nep (id ver p q : Nat)
 | fn (f : FuncId) (caps : List (Nat × Nat))
 | u
 deriving Inhabited
inductive AV where
 | c (x : CV)
 | agg (cs : List CV)
 | w (x : CV) (v : Value)
 | tup (xs : List (Bool × List CV))
 | u
 deriving Inhabited
inductive Ow where
 | own
 | frz
 | nest (tys : List TypeId)
 deriving Inhabited
def Ow.my : Ow → Bool
 | .frz => false
 | _ => true
def Ow.ns : Ow → Bool
 | .nest _ => true
 | _ => false
inductive Ent where
 | box (ty : TypeId) (cs : List CV)
 | arr (e : TypeId) (sz ver : Nat) (own : Ow) (es : List (List D))
 deriving Inhabited
def D.flat : D → Bool
 | .int .. | .bool _ | .str _ | .any => true
 | _ => false
def FlatR (es : List (List D)) : Prop := ∀ c ∈ es, ∀ d ∈ c, d.flat = true
def look {α : Type} : List (Nat × α) → Nat → Option α
 | [], _ => none
 | (k, x) :: r, n => if Nat.beq k n then some x else look r n
def lput {α : Type} : List (Nat × α) → Nat → α → List (Nat × α)
 | [], n, v => [(n, v)]
 | (k, x) :: r, n, v => if Nat.beq k n then (k, v) :: r else (k, x) :: lput r n v
theorem look_lput {α : Type} (l : List (Nat × α)) (n m : Nat) (v : α) : look (lput l n v) m = if n = m then some v else look l m := by
 induction l with
 | nil => simp only [lput, look, Nat.beq_eq]
 | cons p r ih =>
  obtain ⟨k, x⟩ := p
  by_cases hk : k = n
  ·subst hk
   by_cases hm : k = m
   ·simp [lput, look, hm]
   ·simp [lput, look, hm]
  ·by_cases hm : k = m
   ·subst hm
    simp [lput, look, hk]
    intro h; exact absurd h.symm hk
   ·simp [lput, look, hk, hm, ih]
structure St where
 t : List (Nat × AV)
 h : List (Nat × Ent)
 n : Nat
 N : Nat
 deriving Inhabited
structure Con where
 F : Nat → Prop
 bl : Nat → Nat
 val : Nat → Value
 n : Nat
 vr : Nat → Nat
 nv : Nat → Nat → Option Value := fun _ _ => none
def offR (s : Option (Bool × Nat × Nat)) : Nat := match s with | none => 0 | some (_, o, _) => o
def lenR (es : List (List D)) (s : Option (Bool × Nat × Nat)) : Nat := match s with | none => es.length | some (_, _, n) => n
def hdR (s : Option (Bool × Nat × Nat)) : Bool := match s with | none => true | some (h, _, _) => h
def CVRep (w : World) (κ : Con) (h : List (Nat × Ent)) : CV → Value → Prop
 | .d x, v => Fz w κ.F v x
 | .nl _, v => v = .slice none 0 0
 | .ref id ver s, v => (id < κ.n ∧ ver ≤ κ.vr id) ∧ v.oneCell' = true ∧ v.cells = #[v] ∧ ∀ e sz own es, look h id = some (.arr e sz ver own es) → offR s + lenR es s ≤ es.length ∧ ∃ a n c a' c', κ.val id = .slice a n c ∧ v = .slice a' (lenR es s) c' ∧ lenR es s ≤ c' ∧
   (lenR es s ≠ 0 → a' = a.map (·.add (offR s * sz))) ∧ (hdR s = true → offR s = 0 ∧ a' = a ∧ c' = c)
 | .ptr id off, v => id < κ.n ∧ v = .pointer (some ⟨κ.bl id, off, none⟩)
 | .ep id ver i j, v => (id < κ.n ∧ ver ≤ κ.vr id) ∧ v.oneCell' = true ∧ v.cells = #[v] ∧ ∀ e sz own es, look h id = some (.arr e sz ver own es) → i < es.length ∧ ∃ A n c, κ.val id = .slice (some A) n c ∧ v = .pointer (some (A.add (i * sz + j)))
 | .nst id ver p, v => (id < κ.n ∧ ver ≤ κ.vr id) ∧ v.oneCell' = true ∧ v.cells = #[v] ∧ (κ.vr id = ver → κ.nv id p = some v)
 | .nep id ver p q, v => (id < κ.n ∧ ver ≤ κ.vr id) ∧ v.oneCell' = true ∧ v.cells = #[v] ∧ (κ.vr id = ver → ∃ A n c, κ.nv id p = some (.slice (some A) n c) ∧ v = .pointer (some (A.add q)))
 | .fn f caps, v => (∀ p ∈ caps, p.1 < κ.n) ∧ v = .func (.func f) #[] (caps.map fun p => Value.pointer (some ⟨κ.bl p.1, p.2, none⟩)).toArray
 | .u, v => v.oneCell' = true ∧ v.cells = #[v]
theorem CVRep.one {w : World} {κ : Con} {h : List (Nat × Ent)} {x : CV} {v : Value} (hr : CVRep w κ h x v) : v.oneCell' = true ∧ v.cells = #[v] := by
 cases x with
 | d x => exact ⟨Fz.one hr, Fz.cells hr⟩
 | nl => cases hr; exact ⟨rfl, rfl⟩
 | ref => exact ⟨hr.2.1, hr.2.2.1⟩
 | ptr => cases hr.2; exact ⟨rfl, rfl⟩
 | ep => exact ⟨hr.2.1, hr.2.2.1⟩
 | nst => exact ⟨hr.2.1, hr.2.2.1⟩
 | nep => exact ⟨hr.2.1, hr.2.2.1⟩
 | fn => cases hr.2; exact ⟨rfl, rfl⟩
 | u => exact hr
def CVs (w : World) (κ : Con) (h : List (Nat × Ent)) (cs : List CV) (vs : List Value) : Prop :=
 vs.length = cs.length ∧ ∀ (j : Nat) (c : CV) (u : Value), cs[j]? = some c → vs[j]? = some u → CVRep w κ h c u
def TVRep (w : World) (κ : Con) (h : List (Nat × Ent)) (x : Bool × List CV) (v : Value) : Prop :=
 match x.1 with
 | true => ∃ vs : List Value, v = .agg vs.toArray ∧ CVs w κ h x.2 vs
 | false => CVs w κ h x.2 [v]
def AVRep (w : World) (κ : Con) (h : List (Nat × Ent)) : AV → Value → Prop
 | .c x, v => CVRep w κ h x v
 | .agg cs, v => ∃ vs : List Value, v = .agg vs.toArray ∧ CVs w κ h cs vs
 | .tup xs, v => ∃ vs : List Value, v = .tuple vs.toArray ∧ vs.length = xs.length ∧ ∀ (j : Nat) (x : Bool × List CV) (u : Value), xs[j]? = some x → vs[j]? = some u → TVRep w κ h x u
 | .w x u, v => v = u ∧ CVRep w κ h x v
 | .u, _ => True
def OwnRep (w : World) (F : Nat → Prop) (e : TypeId) (sz : Nat) (v : Value) (es : List (List D)) : Prop :=
 ∃ xs : List Value, w.ownsRow 0 e sz v es.length xs ∧ ∀ (i : Nat) (c : List D), es[i]? = some c → c.length = sz ∧ ∀ (j : Nat) (d : D), c[j]? = some d → ∃ u, xs[i * sz + j]? = some u ∧ Fz w F u d
def fpOf (nv : Nat → Option Value) (p : Nat) : Option Nat := (nv p).bind Value.ownBlock
def Con.fp (κ : Con) (id p : Nat) : Option Nat := fpOf (κ.nv id) p
def NCell (w : World) (ty : Option TypeId) (ov : Option Value) (d : D) (u : Value) : Prop :=
 match d with
 | .sl sz es => FlatR es ∧ ov = some u ∧ ∃ e, ty = some e ∧ OwnRep w (fun _ => False) e sz u es
 | d => d.flat = true ∧ ov = none ∧ Fz w (fun _ => False) u d
structure NestRep (w : World) (v : Value) (nv : Nat → Option Value) (e : TypeId) (sz : Nat) (tys : List TypeId) (es : List (List D)) : Prop where
 rows : ∃ xs : List Value, w.ownsRow 0 e sz v es.length xs ∧ ∀ (i : Nat) (c : List D), es[i]? = some c → c.length = sz ∧ ∀ (j : Nat) (d : D), c[j]? = some d → ∃ u, xs[i * sz + j]? = some u ∧ NCell w tys[j]? (nv (i * sz + j)) d u
 apart : ∀ p q b, fpOf nv p = some b → fpOf nv q = some b → p = q
 inside : ∀ p b, fpOf nv p = some b → p < es.length * sz ∧ v.ownBlock ≠ some b ∧ b < w.heap.size
def EntRep (w : World) (κ : Con) (h : List (Nat × Ent)) (id : Nat) : Ent → Prop
 | .box ty cs => ∃ vals : List Value, w.heap[κ.bl id]? = some (.cells vals.toArray ty (0, 0)) ∧ CVs w κ h cs vals
 | .arr e sz _ ow es => match ow with
  | .nest tys => NestRep w (κ.val id) (κ.nv id) e sz tys es
  | _ => OwnRep w κ.F e sz (κ.val id) es
def Ent.has (κ : Con) (id b : Nat) : Ent → Prop
 | .box _ _ => κ.bl id = b
 | .arr _ _ _ ow _ => (κ.val id).ownBlock = some b ∨ (ow.ns = true ∧ ∃ p, κ.fp id p = some b)
theorem has_own {κ : Con} {id b e sz v : Nat} {es : List (List D)} : (Ent.arr e sz v .own es).has κ id b ↔ (κ.val id).ownBlock = some b := by simp [Ent.has, Ow.ns]
theorem has_frz {κ : Con} {id b e sz v : Nat} {es : List (List D)} : (Ent.arr e sz v .frz es).has κ id b ↔ (κ.val id).ownBlock = some b := by simp [Ent.has, Ow.ns]
theorem has_nest {κ : Con} {id b e sz v : Nat} {tys : List TypeId} {es : List (List D)} : (Ent.arr e sz v (.nest tys) es).has κ id b ↔ (κ.val id).ownBlock = some b ∨ ∃ p, κ.fp id p = some b := by simp [Ent.has, Ow.ns]
theorem has_row {κ : Con} {id b e sz v : Nat} {ow : Ow} {es : List (List D)} (h : (κ.val id).ownBlock = some b) : (Ent.arr e sz v ow es).has κ id b := .inl h
theorem EntRep.plain {w : World} {κ : Con} {h : List (Nat × Ent)} {id e sz v : Nat} {ow : Ow} {es : List (List D)} (hn : ow.ns = false) (hr : EntRep w κ h id (.arr e sz v ow es)) : OwnRep w κ.F e sz (κ.val id) es := by
 cases ow with
 | own => exact hr
 | frz => exact hr
 | nest => cases hn
theorem EntRep.row {w : World} {κ : Con} {h : List (Nat × Ent)} {id e sz v : Nat} {ow : Ow} {es : List (List D)} (hr : EntRep w κ h id (.arr e sz v ow es)) : ∃ xs, w.ownsRow 0 e sz (κ.val id) es.length xs := by
 cases ow with
 | own => obtain ⟨xs, h, _⟩ := hr; exact ⟨xs, h⟩
 | frz => obtain ⟨xs, h, _⟩ := hr; exact ⟨xs, h⟩
 | nest => obtain ⟨⟨xs, h, _⟩, _, _⟩ := hr; exact ⟨xs, h⟩
def Ent.own : Ent → Bool
 | .box _ _ => true
 | .arr _ _ _ o _ => o.my
structure Bel (L : Nat → Prop) (w0 w : World) : Prop where
 os : w.os = w0.os
 tape : w.tape = w0.tape
 output : w.output = w0.output
 size : w0.heap.size ≤ w.heap.size
 block : ∀ k, k < w0.heap.size → ¬ L k → w.heap[k]? = w0.heap[k]?
theorem Bel.below {w0 w : World} (h : Bel (fun _ => False) w0 w) : Below w0.heap.size w0 w := ⟨h.os, h.tape, h.output, h.size, fun k hk => h.block k hk (fun f => f)⟩
theorem Bel.refl (L : Nat → Prop) (w : World) : Bel L w w := ⟨rfl, rfl, rfl, Nat.le_refl _, fun _ _ _ => rfl⟩
theorem Bel.step {L : Nat → Prop} {w0 w w' : World} (h : Bel L w0 w) (g1 : w'.os = w.os) (g2 : w'.tape = w.tape) (g3 : w'.output = w.output) (g4 : w.heap.size ≤ w'.heap.size) (g5 : ∀ k, k < w0.heap.size → ¬ L k → w'.heap[k]? = w.heap[k]?) : Bel L w0 w' :=
 ⟨g1.trans h.os, g2.trans h.tape, g3.trans h.output, Nat.le_trans h.size g4, fun k hk hl => (g5 k hk hl).trans (h.block k hk hl)⟩
structure RepK (F0 L : Nat → Prop) (w0 : World) (st : St) (a : Act) (w : World) (κ : Con) : Prop where
 below : Bel L w0 w
 f0 : ∀ b, F0 b → κ.F b
 f1 : ∀ b, κ.F b → F0 b ∨ w0.heap.size ≤ b ∨ L b
 f2 : ∀ b, κ.F b → b < w.heap.size
 ents : ∀ id e, look st.h id = some e → EntRep w κ st.h id e
 new : ∀ id e, look st.h id = some e → id < st.n
 excl : ∀ id e b, look st.h id = some e → e.has κ id b → (e.own = true → w0.heap.size ≤ b ∨ L b) ∧ (e.own = true → ¬ κ.F b) ∧ (e.own = false → κ.F b)
 inj : ∀ id id' e e' b, look st.h id = some e → look st.h id' = some e' → e.has κ id b → e'.has κ id' b → id = id'
 tmps : ∀ t av, look st.t t = some av → ∃ v, a.tmps[t]? = some v ∧ AVRep w κ st.h av v
 size : a.tmps.size = st.N
 dfs : a.defers = []
 kn : κ.n = st.n
 kv : ∀ id e sz ver own es, look st.h id = some (.arr e sz ver own es) → κ.vr id = ver
def Rep (F0 L : Nat → Prop) (w0 : World) (st : St) (a : Act) (w : World) : Prop := ∃ κ, RepK F0 L w0 st a w κ
def Tri (P : Program) (c : Code) (st : St) (Q : Exit → St → Prop) : Prop :=
 ∀ F0 L w0 a w, Rep F0 L w0 st a w → c.wp P (fun ex a' w' => ∃ st', Q ex st' ∧ Rep F0 L w0 st' a' w') a w
end Go.H
namespace Go.H
open Go.RowKit
inductive TK where
 | int (k : IntKind) | bool | str | ptr | slice (e : TypeId) | arr (n : Nat) (e : TypeId) | struct (fs : List (Nat × TypeId)) | other
 deriving Inhabited
structure TI where
 k : TK
 size : Nat
 bytes : Nat
 zero : List CV
 nst : Option (List TypeId)
 deriving Inhabited
def TI.agg (i : TI) : Bool := match i.k with | .struct _ | .arr _ _ => true | _ => false
def cvVal : CV → Option Value
 | .d (.int k n) => some (.int k n)
 | .d (.bool b) => some (.bool b)
 | .d (.str s) => some (.string s)
 | .nl _ => some (.slice none 0 0)
 | _ => none
def TK.fits (P : Program) (t : TypeId) : TK → Prop
 | .int k => P.underlying t = some (.int k)
 | .bool => P.underlying t = some .bool
 | .str => P.underlying t = some .string
 | .ptr => ∃ e, P.underlying t = some (.pointer e)
 | .slice e => P.underlying t = some (.slice e)
 | .arr n e => P.underlying t = some (.array n e)
 | .struct fs => ∃ fields : Array Field, P.underlying t = some (.struct fields) ∧ fields.toList.map (fun f => (f.offset, f.type)) = fs ∧
  (∀ f ∈ fields.toList, f.name ≠ "_") ∧ P.stoodInHeld t = false ∧ P.eqGuardType P.depth t = false
 | .other => ∃ d, P.underlying t = some d ∧ (match d with | .struct _ | .array _ _ => False | _ => True)
structure TI.fits (P : Program) (t : TypeId) (i : TI) : Prop where
 k : i.k.fits P t
 one : i.agg = false → i.size = 1
 info : ∃ info z, P.info? t = some info ∧ info.size = i.size ∧ info.bytes = i.bytes ∧ info.zero = some z ∧ z.cells.size = i.size ∧
  i.zero.length = i.size ∧ ∀ (j : Nat) (x : CV), i.zero[j]? = some x → ∃ u, cvVal x = some u ∧ z.cells[j]? = some u
def TOk (P : Program) (T : TypeId → Option TI) : Prop := ∀ t i, T t = some i → i.fits P t
section
variable {P : Program} {w : World}
theorem run_size {t : TypeId} {i : TI} (h : i.fits P t) : (sizeOf t).run P w = .ok i.size w := by
 obtain ⟨info, z, h1, h2, _⟩ := h.info
 simp [sizeOf, typeInfo, h1, h2]
theorem run_isAgg {t : TypeId} {i : TI} (h : i.fits P t) : (isAgg t).run P w = .ok i.agg w := by
 have hk := h.k
 unfold TI.agg
 cases hi : i.k with
 | int k => rw [hi] at hk; simp [isAgg, run_underlying (h := hk)]
 | bool => rw [hi] at hk; simp [isAgg, run_underlying (h := hk)]
 | str => rw [hi] at hk; simp [isAgg, run_underlying (h := hk)]
 | ptr => rw [hi] at hk; obtain ⟨e, hk⟩ := hk; simp [isAgg, run_underlying hk]
 | slice e => rw [hi] at hk; simp [isAgg, run_underlying (h := hk)]
 | arr n e => rw [hi] at hk; simp [isAgg, run_underlying (h := hk)]
 | struct fs => rw [hi] at hk; obtain ⟨e, hk, _⟩ := hk; simp [isAgg, run_underlying hk]
 | other =>
  rw [hi] at hk; obtain ⟨d, hk, hd⟩ := hk
  cases d <;> simp_all [isAgg, run_underlying hk]
theorem run_loadVar {t : TypeId} {i : TI} (h : i.fits P t) (A : Addr) (cs : List Value) (hl : cs.length = i.size) (hc : ∀ (j : Nat) (v : Value), cs[j]? = some v → w.cell? (A.add j) = some v)
  (h1 : i.agg = false → i.size = 1) :
  (loadVar t A).run P w = .ok (if i.agg then .agg cs.toArray else cs.headD undef) w := by
 unfold loadVar
 simp only [Sem.run_bind, run_isAgg h, Result.andThen_ok]
 cases hg : i.agg with
 | true =>
  simp only [if_true, Sem.run_bind, run_size h, Result.andThen_ok, ← hl, run_loadCells_list w A cs hc, Sem.run_pure]
 | false =>
  have := h1 hg
  match cs, hl with
  | [v], _ =>
   have := hc 0 v rfl
   have e : A.add 0 = A := rfl
   rw [e] at this
   simp [this]
  | [], hl => simp at hl; omega
  | _ :: _ :: _, hl => simp at hl; omega
end
def cstC (v : Value) : Option CV :=
 match v with
 | .int k n => some (.d (.int k n))
 | .bool b => some (.d (.bool b))
 | .string s => some (.d (.str s))
 | .slice none 0 0 => some (.nl 0)
 | _ => none
def cst (v : Value) : AV :=
 match v with
 | .agg cs => match cs.toList.mapM cstC with | some l => .agg l | none => .u
 | v => match cstC v with | some x => .c x | none => .u
def AV.bare : AV → AV
 | .w x _ => .c x
 | av => av
def evO (st : St) : Operand → AV
 | .tmp t => match look st.t t with | some av => av.bare | none => .u
 | .const v => cst v
 | .func f => .c (.fn f [])
 | .global _ => .u
theorem cstC_rep {w : World} {κ : Con} {h : List (Nat × Ent)} {v : Value} {x : CV} (hc : cstC v = some x) : CVRep w κ h x v := by
 unfold cstC at hc
 split at hc <;> simp at hc <;> subst hc
 ·exact .int _ _
 ·exact .bool _
 ·exact .str _
 ·rfl
theorem mapM_some {α β : Type} {f : α → Option β} : ∀ {l : List α} {r : List β}, l.mapM f = some r → r.length = l.length ∧ ∀ (j : Nat) (x : α) (y : β), l[j]? = some x → r[j]? = some y → f x = some y
 | [], r, h => by simp at h; subst h; simp
 | a :: l, r, h => by
  simp only [List.mapM_cons, bind, Option.bind_eq_some_iff, pure, Option.some.injEq] at h
  obtain ⟨b, hb, bs, hbs, rfl⟩ := h
  obtain ⟨h1, h2⟩ := mapM_some hbs
  refine ⟨by simp [h1], fun j x y hx hy => ?_⟩
  cases j with
  | zero => simp at hx hy; subst hx; subst hy; exact hb
  | succ j => exact h2 j x y (by simpa using hx) (by simpa using hy)
theorem cst_rep {w : World} {κ : Con} {h : List (Nat × Ent)} (v : Value) : AVRep w κ h (cst v) v := by
 unfold cst
 split
 ·rename_i cs
  split
  ·rename_i l hl
   obtain ⟨h1, h2⟩ := mapM_some hl
   exact ⟨cs.toList, by simp, by simp [h1], fun j c u hc hu => cstC_rep (h2 j u c hu hc)⟩
  ·trivial
 ·split
  ·rename_i x hx
   exact cstC_rep hx
  ·trivial
theorem evO_rep {F0 L : Nat → Prop} {w0 w : World} {st : St} {a : Act} {κ : Con} (hr : RepK F0 L w0 st a w κ) (x : Operand) : AVRep w κ st.h (evO st x) (a.eval x) := by
 cases x with
 | tmp t =>
  simp only [evO, Act.eval]
  cases hl : look st.t t with
  | none => trivial
  | some av =>
   obtain ⟨v, hv, hav⟩ := hr.tmps t av hl
   have hb : AVRep w κ st.h av.bare v := by
    cases av with
    | w x u => exact hav.2
    | _ => exact hav
   simpa [Array.getD_eq_getD_getElem?, hv] using hb
 | const v => exact cst_rep v
 | global g => trivial
 | func f => exact ⟨fun p hp => (by cases hp), rfl⟩
end Go.H
namespace Go.H
open Go.RowKit
def cellsC (ti : TI) (cs : List CV) (K : AV → Prop) : Prop :=
 match ti.agg with
 | true => match Nat.ble ti.size cs.length with | true => K (.agg (cs.take ti.size)) | false => False
 | false => match cs with | x :: _ => (match Nat.beq ti.size 1 with | true => K (.c x) | false => False) | [] => False
def nstL (id ver p : Nat) : List D → List CV
 | [] => []
 | d :: r => (match d with | .sl _ _ => .nst id ver p | d => .d d) :: nstL id ver (p + 1) r
theorem nstL_get (id ver : Nat) : ∀ (l : List D) (p k : Nat) (c : CV), (nstL id ver p l)[k]? = some c → ∃ d, l[k]? = some d ∧ ((∃ sz es, d = .sl sz es ∧ c = .nst id ver (p + k)) ∨ ((∀ sz es, d ≠ .sl sz es) ∧ c = .d d))
 | [], p, k, c, h => by simp [nstL] at h
 | d :: r, p, k, c, h => by
  cases k with
  | zero =>
   simp only [nstL, List.getElem?_cons_zero, Option.some.injEq] at h
   refine ⟨d, by simp, ?_⟩
   subst h
   cases d with
   | sl sz es => exact .inl ⟨sz, es, rfl, rfl⟩
   | _ => exact .inr ⟨by simp, rfl⟩
  | succ k =>
   simp only [nstL, List.getElem?_cons_succ] at h
   obtain ⟨d', h1, h2⟩ := nstL_get id ver r (p + 1) k c h
   refine ⟨d', by simpa using h1, ?_⟩
   rw [show p + (k + 1) = p + 1 + k by omega]
   exact h2
def loadWp (st : St) (ti : TI) (a : AV) (K : AV → Prop) : Prop :=
 match a with
 | .c (.d (.rp cs)) => cellsC ti (cs.map .d) K
 | .c (.ptr id off) => match look st.h id with
  | some (.box _ cs) => cellsC ti (cs.drop off) K
  | _ => False
 | .c (.ep id ver i j) => match look st.h id with
  | some (.arr _ sz v ow es) => match Nat.beq v ver with
   | true => match ow.ns with
    | false => ∀ c, es[i]? = some c → cellsC ti ((c.drop j).map .d) K
    | true => ∀ c, es[i]? = some c → cellsC ti (nstL id v (i * sz + j) (c.drop j)) K
   | false => False
  | _ => False
 | _ => False
def offOf (ti : TI) (f : Nat) : Option (Nat × TypeId) := match ti.k with | .struct fs => fs[f]? | _ => none
def ptrAdd (st : St) (a : AV) (off : Nat) (K : AV → Prop) : Prop :=
 match a with
 | .c (.d (.rp cs)) => K (.c (.d (.rp (cs.drop off))))
 | .c (.ptr id o) => K (.c (.ptr id (o + off)))
 | .c (.ep id ver i j) => match look st.h id with
  | some (.arr _ _ v _ _) => match Nat.beq v ver with | true => K (.c (.ep id ver i (j + off))) | false => False
  | _ => False
 | _ => False
def indexWp (T : TypeId → Option TI) (st : St) (t : TypeId) (x i : AV) (K : AV → Prop) : Prop :=
 match T t, i with
 | some ti, .c (.d (.int _ n)) =>
  match ti.k, x with
  | .slice e, .c (.d (.sl sz es)) => match T e with
   | some te => match Nat.beq te.size sz with
    | true => (0 ≤ n ∧ n < es.length) ∧ ∀ c, es[n.toNat]? = some c → K (.c (.d (.rp c)))
    | false => False
   | none => False
  | .slice e, .c (.ref id ver s) => match T e, look st.h id with
   | some te, some (.arr _ sz v _ es) => match Nat.beq te.size sz, Nat.beq v ver with
    | true, true => (0 ≤ n ∧ n < lenR es s) ∧ K (.c (.ep id ver (offR s + n.toNat) 0))
    | _, _ => False
   | _, _ => False
  | .arr m e, .c (.ptr id o) => match T e with
   | some te => (0 ≤ n ∧ n < m) ∧ K (.c (.ptr id (o + n.toNat * te.size)))
   | none => False
  | .arr m e, .c (.d (.rp cs)) => match T e with
   | some te => (0 ≤ n ∧ n < m) ∧ K (.c (.d (.rp (cs.drop (n.toNat * te.size)))))
   | none => False
  | _, _ => False
 | _, _ => False
def kindEq (a b : IntKind) : Bool := decide (a = b)
def wrapB (k : IntKind) (r : BitVec k.bits) : Int := k.wrap r.toNat
def intWp (op : BinOp) (k : IntKind) (x y : Int) (K : D → Prop) : Prop :=
 match op with
 | .add => K (.int k (k.wrap (x + y)))
 | .sub => K (.int k (k.wrap (x - y)))
 | .mul => K (.int k (k.wrap (x * y)))
 | .quo => y ≠ 0 ∧ K (.int k (k.wrap (x.tdiv y)))
 | .rem => y ≠ 0 ∧ K (.int k (x.tmod y))
 | .and => K (.int k (wrapB k (BitVec.ofInt k.bits x &&& BitVec.ofInt k.bits y)))
 | .or => K (.int k (wrapB k (BitVec.ofInt k.bits x ||| BitVec.ofInt k.bits y)))
 | .xor => K (.int k (wrapB k (BitVec.ofInt k.bits x ^^^ BitVec.ofInt k.bits y)))
 | .andNot => K (.int k (wrapB k (BitVec.ofInt k.bits x &&& ~~~(BitVec.ofInt k.bits y))))
 | .eql => K (.bool (decide (x = y)))
 | .neq => K (.bool (!decide (x = y)))
 | .lss => K (.bool (decide (x < y)))
 | .leq => K (.bool (decide (x ≤ y)))
 | .gtr => K (.bool (decide (y < x)))
 | .geq => K (.bool (decide (y ≤ x)))
 | .shl => 0 ≤ y ∧ K (.int k (k.wrap (x * 2 ^ min y.toNat k.bits)))
 | .shr => 0 ≤ y ∧ K (.int k (x.fdiv (2 ^ min y.toNat k.bits)))
def strWp (op : BinOp) (x y : ByteArray) (K : D → Prop) : Prop :=
 match op with
 | .add => x.size + y.size ≤ 9223372036854775807 ∧ K (.str (x ++ y))
 | .eql => K (.bool (x.toList == y.toList))
 | .neq => K (.bool !(x.toList == y.toList))
 | .lss => K (.bool (Op.bytesLess x.toList y.toList))
 | _ => False
def eqD (T : TypeId → Option TI) : Nat → TypeId → List CV → List CV → Option Bool
 | 0, _, _, _ => none
 | n + 1, t, xs, ys => match T t with
  | none => none
  | some ti => match ti.k, xs, ys with
   | .int _, [.d (.int k a)], [.d (.int k' b)] => match kindEq k k' with | true => some (decide (a = b)) | false => none
   | .bool, [.d (.bool a)], [.d (.bool b)] => some (a == b)
   | .str, [.d (.str a)], [.d (.str b)] => some (a.toList == b.toList)
   | .struct fs, xs, ys => fs.foldr (fun f acc => match T f.2 with
    | none => none
    | some tf => match Nat.ble (f.1 + tf.size) xs.length, Nat.ble (f.1 + tf.size) ys.length, eqD T n f.2 ((xs.drop f.1).take tf.size) ((ys.drop f.1).take tf.size), acc with
     | true, true, some b, some r => some (b && r)
     | _, _, _, _ => none) (some true)
   | _, _, _ => none
def binWp (T : TypeId → Option TI) (op : BinOp) (t : TypeId) (x y : AV) (K : D → Prop) : Prop :=
 match x, y with
 | .c (.d (.int k a)), .c (.d (.int k' b)) => match op with
  | .shl => intWp .shl k a b K
  | .shr => intWp .shr k a b K
  | _ => match kindEq k k' with | true => intWp op k a b K | false => False
 | .c (.d (.str a)), .c (.d (.str b)) => strWp op a b K
 | .c (.d (.bool a)), .c (.d (.bool b)) => match T t with
  | some ti => match ti.k, op with
   | .bool, .eql => K (.bool (a == b))
   | .bool, .neq => K (.bool (!(a == b)))
   | _, _ => False
  | none => False
 | .agg xs, .agg ys => match T t with
  | some ti => match ti.k, op, eqD T 8 t xs ys with
   | .struct _, .eql, some b => K (.bool b)
   | .struct _, .neq, some b => K (.bool (!b))
   | _, _, _ => False
  | none => False
 | _, _ => False
def unWp (op : UnOp) (x : AV) (K : D → Prop) : Prop :=
 match op, x with
 | .not, .c (.d (.bool b)) => K (.bool (!b))
 | .neg, .c (.d (.int k n)) => K (.int k (k.wrap (0 - n)))
 | .xor, .c (.d (.int k n)) => K (.int k (wrapB k (BitVec.ofInt k.bits (if k.signed then -1 else k.max) ^^^ BitVec.ofInt k.bits n)))
 | _, _ => False
def fieldWp (T : TypeId → Option TI) (t : TypeId) (x : AV) (f : Nat) (K : AV → Prop) : Prop :=
 match T t, x with
 | some ti, .agg cs => match offOf ti f with
  | some (off, ft) => match T ft with
   | some tf => cellsC tf (cs.drop off) K
   | none => False
  | none => False
 | _, _ => False
def tupWp (x : AV) (i : Nat) (K : AV → Prop) : Prop :=
 match x with
 | .tup xs => match xs[i]? with
  | some (true, cs) => K (.agg cs)
  | some (false, [c]) => K (.c c)
  | _ => False
 | _ => False
def lenWp (T : TypeId → Option TI) (t : TypeId) (x : AV) (K : D → Prop) : Prop :=
 match T t, x with
 | some ti, .c x => match ti.k, x with
  | .str, .d (.str s) => K (.int .i64 s.size)
  | .slice _, .d (.sl _ es) => K (.int .i64 es.length)
  | .slice _, .nl _ => K (.int .i64 0)
  | _, _ => False
 | _, _ => False
def lenRefWp (T : TypeId → Option TI) (st : St) (t : TypeId) (x : AV) (K : D → Prop) : Prop :=
 match T t, x with
 | some ti, .c (.ref id ver s) => match ti.k, look st.h id with
  | .slice _, some (.arr _ _ v _ es) => match Nat.beq v ver with | true => K (.int .i64 (lenR es s)) | false => False
  | _, _ => False
 | _, _ => lenWp T t x K
def bnd (o : Option AV) (dflt : Nat) : Option Int :=
 match o with
 | none => some dflt
 | some (.c (.d (.int _ n))) => some n
 | _ => none
def sliceWp (T : TypeId → Option TI) (st : St) (t : TypeId) (x : AV) (lo hi : Option AV) (K : CV → Prop) : Prop :=
 match T t, x with
 | some ti, .c x => match ti.k, x with
  | .str, .d (.str s) => match bnd lo 0, bnd hi s.size with
   | some l, some h => (0 ≤ l ∧ l ≤ h ∧ h ≤ s.size) ∧ K (.d (.str (s.extract l.toNat h.toNat)))
   | _, _ => False
  | .slice e, .d (.sl sz es) => match T e, bnd lo 0, bnd hi es.length with
   | some te, some l, some h => match Nat.beq te.size sz with
    | true => (0 ≤ l ∧ l ≤ h ∧ h ≤ es.length) ∧ K (.d (.sl sz ((es.take h.toNat).drop l.toNat)))
    | false => False
   | _, _, _ => False
  | .slice e, .ref id ver s => match T e, look st.h id with
   | some te, some (.arr _ sz v _ es) => match bnd lo 0, bnd hi (lenR es s) with
    | some l, some h => match Nat.beq te.size sz, Nat.beq v ver with
     | true, true => (0 ≤ l ∧ l ≤ h ∧ h ≤ lenR es s) ∧ K (.ref id ver (some (match lo with | none => hdR s | some _ => false, offR s + l.toNat, h.toNat - l.toNat)))
     | _, _ => False
    | _, _ => False
   | _, _ => False
  | .slice e, .nl z => match T e, bnd lo 0, bnd hi 0 with
   | some _, some l, some h => (l = 0 ∧ h = 0) ∧ K (.nl z)
   | _, _, _ => False
  | _, _ => False
 | _, _ => False
def encB (s : ByteArray) : List (List D) := s.data.toList.map fun b => [.int .u8 b.toNat]
def convWp (T : TypeId → Option TI) (st : St) (src dst : TypeId) (x : AV) (K : D → Prop) : Prop :=
 match T src, T dst, x with
 | some si, some di, .c x => match si.k, di.k, x with
  | .int _, .int k, .d (.int _ n) => K (.int k (k.wrap n))
  | .str, .str, .d (.str s) => K (.str s)
  | .slice e, .str, .d (.sl 1 es) => match T e with
   | some te => match te.k with
    | .int .u8 => ∃ s, es = encB s ∧ K (.str s)
    | _ => False
   | none => False
  | .slice e, .str, .ref id ver r => match T e, look st.h id with
   | some te, some (.arr _ 1 v ow es) => match te.k, Nat.beq v ver, ow.ns with
    | .int .u8, true, false => ∃ s, (es.drop (offR r)).take (lenR es r) = encB s ∧ K (.str s)
    | _, _, _ => False
   | _, _ => False
  | .slice e, .str, .nl _ => match T e with
   | some te => match te.k with
    | .int .u8 => K (.str ByteArray.empty)
    | _ => False
   | none => False
  | _, _, _ => False
 | _, _, _ => False
def idxWp (T : TypeId → Option TI) (t : TypeId) (x i : AV) (K : CV → Prop) : Prop :=
 match T t, x, i with
 | some ti, .c (.d (.str s)), .c (.d (.int _ n)) => match ti.k with
  | .str => (0 ≤ n ∧ n < s.size) ∧ ∀ b, s.data.toList[n.toNat]? = some b → K (.d (.int .u8 b.toNat))
  | _ => False
 | some ti, .agg cs, .c (.d (.int _ n)) => match ti.k with
  | .arr m e => match T e with
   | some te => match te.agg, Nat.beq te.size 1, Nat.ble m cs.length with
    | false, true, true => (0 ≤ n ∧ n < m) ∧ ∀ c, cs[n.toNat]? = some c → K c
    | _, _, _ => False
   | none => False
  | _ => False
 | _, _, _ => False
def mxWp (mx : Bool) (x y : AV) (K : D → Prop) : Prop :=
 match x, y with
 | .c (.d (.int k a)), .c (.d (.int k' b)) => match kindEq k k' with
  | true => K (.int k (match mx with | true => if b > a then b else a | false => if b < a then b else a))
  | false => False
 | _, _ => False
def qWp (T : TypeId → Option TI) (st : St) (o : Op) (K : AV → Prop) : Prop :=
 match o with
 | .move x | .assign x => K (evO st x)
 | .pick c a b => match evO st c with
  | .c (.d (.bool t)) => (t = true → K (evO st a)) ∧ (t = false → K (evO st b))
  | _ => False
 | .load t a => match T t with | some ti => loadWp st ti (evO st a) K | none => False
 | .nilCheck x => match evO st x with
  | .c (.d (.rp cs)) => K (.c (.d (.rp cs)))
  | .c (.ptr id off) => K (.c (.ptr id off))
  | _ => False
 | .fieldAddr s x f => match T s with
  | some ti => match offOf ti f with
   | some (off, ft) => match T ft with
    | some tf => match Nat.beq tf.size 0 with | false => ptrAdd st (evO st x) off K | true => False
    | none => False
   | none => False
  | none => False
 | .field t x f => fieldWp T t (evO st x) f K
 | .indexAddr t x i => indexWp T st t (evO st x) (evO st i) K
 | .binOp op t x y _ => binWp T op t (evO st x) (evO st y) fun d => K (.c (.d d))
 | .unOp op _ x => unWp op (evO st x) fun d => K (.c (.d d))
 | .extract x i => tupWp (evO st x) i K
 | .makeFunc (.func f) first captured => match first.size, captured.toList.mapM (fun x => match evO st x with | .c (.ptr id off) => some (id, off) | _ => none) with
  | 0, some caps => K (.c (.fn f caps))
  | 0, none => (match captured.toList.mapM (fun x => match evO st x with | .c (.d d) => some d | _ => none) with
   | some ds => K (.c (.d (.fn f ds)))
   | none => False)
  | _, _ => False
 | .call { callee := .builtin .len, args, argTypes } => match args.toList, argTypes.toList with
  | [x], [t] => lenRefWp T st t (evO st x) fun d => K (.c (.d d))
  | _, _ => False
 | .call { callee := .builtin .max, args, argTypes := _ } => match args.toList with
  | [x, y] => mxWp true (evO st x) (evO st y) fun d => K (.c (.d d))
  | _ => False
 | .call { callee := .builtin .min, args, argTypes := _ } => match args.toList with
  | [x, y] => mxWp false (evO st x) (evO st y) fun d => K (.c (.d d))
  | _ => False
 | .slice t x lo hi none => sliceWp T st t (evO st x) (lo.map (evO st)) (hi.map (evO st)) fun x => K (.c x)
 | .convert src dst x => convWp T st src dst (evO st x) fun d => K (.c (.d d))
 | .index t x i => idxWp T t (evO st x) (evO st i) fun x => K (.c x)
 | _ => False
def QY (P : Program) (st : St) (op : Op) (r : AV) : Prop :=
 ∀ F0 L w0 a w κ (o : Oper), o.op = op → RepK F0 L w0 st a w κ → ∃ v, (execOp a.eval o).run P w = .ok (.value v) w ∧ AVRep w κ st.h r v
theorem cells_sound {P : Program} {t : TypeId} {ti : TI} (hT : ti.fits P t) {cs : List CV} {K : AV → Prop} (h : cellsC ti cs K) :
  ∃ r, K r ∧ ∀ (w : World) (κ : Con) (hh : List (Nat × Ent)) (A : Addr), (∀ (j : Nat) (c : CV), cs[j]? = some c → j < ti.size → ∃ u, w.cell? (A.add j) = some u ∧ CVRep w κ hh c u) →
   ∃ v, (loadVar t A).run P w = .ok v w ∧ AVRep w κ hh r v := by
 unfold cellsC at h
 cases hg : ti.agg with
 | true =>
  simp only [hg] at h
  cases hb : Nat.ble ti.size cs.length with
  | false => simp only [hb] at h
  | true =>
   simp only [hb] at h
   have hle : ti.size ≤ cs.length := Nat.le_of_ble_eq_true hb
   refine ⟨_, h, fun w κ hh A hc => ?_⟩
   have hex : ∀ j, j < ti.size → ∃ u, w.cell? (A.add j) = some u ∧ ∀ c, cs[j]? = some c → CVRep w κ hh c u := fun j hj => by
    obtain ⟨u, h1, h2⟩ := hc j cs[j] (List.getElem?_eq_getElem (by omega)) hj
    exact ⟨u, h1, fun c hc' => by rw [List.getElem?_eq_getElem (by omega)] at hc'; simp at hc'; exact hc' ▸ h2⟩
   let f : Nat → Value := fun j => if hj : j < ti.size then Classical.choose (hex j hj) else undef
   have hf : ∀ j, j < ti.size → w.cell? (A.add j) = some (f j) ∧ ∀ c, cs[j]? = some c → CVRep w κ hh c (f j) := fun j hj => by
    have := Classical.choose_spec (hex j hj)
    simp only [f, hj, dif_pos]; exact this
   have hrun := run_loadVar (w := w) hT A ((List.range ti.size).map f) (by simp) (fun j v hv => by
    simp only [List.getElem?_map, Option.map_eq_some_iff] at hv
    obtain ⟨k, hk, rfl⟩ := hv
    obtain ⟨hlt, rfl⟩ := List.getElem?_eq_some_iff.1 hk
    simp only [List.length_range] at hlt
    simpa using (hf j hlt).1) (by simp [hg])
   rw [hg] at hrun
   refine ⟨_, hrun, _, rfl, by simp [Nat.min_eq_left hle], fun j c u hj hu => ?_⟩
   simp only [List.getElem?_map, Option.map_eq_some_iff] at hu
   obtain ⟨k, hk, rfl⟩ := hu
   obtain ⟨hlt, rfl⟩ := List.getElem?_eq_some_iff.1 hk
   simp only [List.length_range] at hlt
   rw [List.getElem?_take, if_pos hlt] at hj
   simpa using (hf j hlt).2 c hj
 | false =>
  simp only [hg] at h
  match cs, h with
  | x :: r, h =>
   cases hb : Nat.beq ti.size 1 with
   | false => simp only [hb] at h
   | true =>
    simp only [hb] at h
    have h1 : ti.size = 1 := Nat.eq_of_beq_eq_true hb
    refine ⟨_, h, fun w κ hh A hc => ?_⟩
    obtain ⟨u, hu, hx⟩ := hc 0 x rfl (by omega)
    have hrun := run_loadVar (w := w) hT A [u] (by simp [h1]) (fun j v hv => by
     cases j with
     | zero => simp at hv; exact hv ▸ hu
     | succ j => simp at hv) (fun _ => h1)
    rw [hg] at hrun
    exact ⟨u, by simpa using hrun, hx⟩
end Go.H
namespace Go.H
open Go.RowKit
section
variable {P : Program} {T : TypeId → Option TI} {F0 L : Nat → Prop} {w0 w : World} {st : St} {a : Act} {κ : Con}
theorem beq_iff {a b : Nat} (h : Nat.beq a b = true) : a = b := Nat.eq_of_beq_eq_true h
theorem addr0 (b o j : Nat) : (⟨b, o, none⟩ : Addr).add j = ⟨b, o + j, none⟩ := by unfold Addr.add; split <;> simp_all
theorem box_cell {id ty : Nat} {cs : List CV} (hr : RepK F0 L w0 st a w κ) (hl : look st.h id = some (.box ty cs)) {j : Nat} {c : CV} (hj : cs[j]? = some c) :
  ∃ u, w.cell? ⟨κ.bl id, j, none⟩ = some u ∧ CVRep w κ st.h c u := by
 obtain ⟨vals, h1, h2, h3⟩ := hr.ents id _ hl
 have hlt : j < vals.length := by rw [h2]; exact (List.getElem?_eq_some_iff.1 hj).1
 refine ⟨vals[j], ?_, h3 j c _ hj (List.getElem?_eq_getElem hlt)⟩
 rw [cell_of_row w _ j _ ty _ h1]
 simp [hlt]
theorem arr_cell {id e sz ver : Nat} {own : Ow} {es : List (List D)} (hr : RepK F0 L w0 st a w κ) (hl : look st.h id = some (.arr e sz ver own es)) (hns : own.ns = false)
  {A : Addr} {n cp : Nat} (hv : κ.val id = .slice (some A) n cp) {i j : Nat} {c : List D} {d : D} (hi : es[i]? = some c) (hj : c[j]? = some d) :
  A.spot = none ∧ n = es.length ∧ some A.block = (κ.val id).ownBlock ∧ ∃ u, w.cell? (A.add (i * sz + j)) = some u ∧ Fz w κ.F u d := by
 obtain ⟨xs, ho, hx⟩ := (hr.ents id _ hl).plain hns
 obtain ⟨_, hx2⟩ := hx i c hi
 obtain ⟨u, hu, hd⟩ := hx2 j d hj
 have hne := ho.2
 rcases hne with ⟨h1, _⟩ | ⟨g, cap, cur, h1, _⟩
 ·rw [hv] at h1; simp at h1
 ·rw [hv] at h1
  obtain ⟨rfl, rfl, rfl⟩ : A = ⟨g, 0, none⟩ ∧ n = es.length ∧ cp = cap := by simpa using h1
  refine ⟨rfl, rfl, by rw [hv]; rfl, u, ?_, hd⟩
  exact ho.cells (by rw [hv]; rfl) _ _ hu
theorem load_sound (hT : TOk P T) {t : TypeId} {ti : TI} (ht : T t = some ti) {av : AV} {K : AV → Prop} (h : loadWp st ti av K)
    {v : Value} (hav : AVRep w κ st.h av v) :
    ∃ r, K r ∧ ∀ F0 L w0 a w κ v, RepK F0 L w0 st a w κ → AVRep w κ st.h av v → ∃ u, (Instr.loadAt t v).run P w = .ok u w ∧ AVRep w κ st.h r u := by
  have hf := hT t ti ht
  unfold loadWp at h
  split at h
  · rename_i cs
    obtain ⟨r, hr, hs⟩ := cells_sound hf h
    refine ⟨r, hr, fun F0 L w0 a w κ v hk hv => ?_⟩
    cases hv with
    | rp A cs val hF hc hs' =>
      obtain ⟨u, h1, h2⟩ := hs w κ st.h A (fun j c hj _ => by
        simp only [List.getElem?_map, Option.map_eq_some_iff] at hj
        obtain ⟨d, hd, rfl⟩ := hj
        exact ⟨_, hc j d hd, hs' j d hd⟩)
      exact ⟨u, by simpa [Instr.loadAt, Instr.sureAddr] using h1, h2⟩
  · rename_i id off
    split at h
    · rename_i ty cs hl
      obtain ⟨r, hr, hs⟩ := cells_sound hf h
      refine ⟨r, hr, fun F0 L w0 a w κ v hk hv => ?_⟩
      obtain ⟨_, rfl⟩ := hv
      obtain ⟨u, h1, h2⟩ := hs w κ st.h ⟨κ.bl id, off, none⟩ (fun j c hj _ => by
        rw [List.getElem?_drop] at hj
        rw [addr0]
        exact box_cell hk hl hj)
      exact ⟨u, by simpa [Instr.loadAt, Instr.sureAddr] using h1, h2⟩
    · exact h.elim
  · rename_i id ver i j
    split at h
    · rename_i e sz vr own es hl
      cases hb : Nat.beq vr ver with
      | false => simp only [hb] at h
      | true =>
       cases hns : own.ns with
       | true =>
        simp only [hb, hns] at h
        have hvv := beq_iff hb
        subst hvv
        obtain ⟨_, _, _, hav⟩ := hav
        obtain ⟨hlt, _⟩ := hav e sz own es hl
        have hc := h es[i] (List.getElem?_eq_getElem hlt)
        obtain ⟨r, hr, hs⟩ := cells_sound hf hc
        refine ⟨r, hr, fun F0 L w0 a w κ v hk hv => ?_⟩
        obtain ⟨⟨hn1, hn2⟩, _, _, hv⟩ := hv
        obtain ⟨_, A, n, cp, hv1, rfl⟩ := hv e sz own es hl
        obtain ⟨u, h1, h2⟩ := hs w κ st.h (A.add (i * sz + j)) (fun k c hk' _ => by
          obtain ⟨d, hd, hcd⟩ := nstL_get _ _ _ _ _ _ hk'
          rw [List.getElem?_drop] at hd
          have hent := hk.ents id _ hl
          cases own with
          | own => cases hns
          | frz => cases hns
          | nest tys =>
            obtain ⟨⟨xs, ho, hx⟩, _, _⟩ := hent
            obtain ⟨u, hu, hnc⟩ := (hx i _ (List.getElem?_eq_getElem hlt)).2 (j + k) d hd
            have hcell := ho.2
            rcases hcell with ⟨q1, _⟩ | ⟨g, cap, cur, q1, _⟩
            · rw [hv1] at q1; simp at q1
            · rw [hv1] at q1
              obtain ⟨rfl, rfl, rfl⟩ : A = ⟨g, 0, none⟩ ∧ n = es.length ∧ cp = cap := by simpa using q1
              refine ⟨u, by rw [add_add, Nat.add_assoc]; exact ho.cells (by rw [hv1]; rfl) _ _ hu, ?_⟩
              rcases hcd with ⟨sz', es', rfl, rfl⟩ | ⟨hne, rfl⟩
              · obtain ⟨_, hnv, e', _, hown⟩ := hnc
                have hone : u.oneCell' = true ∧ u.cells = #[u] := by
                  obtain ⟨_, ho', _⟩ := hown
                  rcases ho'.2 with ⟨z1, _⟩ | ⟨_, _, _, z1, _⟩ <;> rw [z1] <;> exact ⟨rfl, rfl⟩
                refine ⟨⟨hn1, hn2⟩, hone.1, hone.2, fun _ => ?_⟩
                rw [Nat.add_assoc]; exact hnv
              · unfold NCell at hnc
                split at hnc
                · exact absurd rfl (hne _ _)
                · exact Fz.keep (fun _ f => f.elim) (fun _ f => f.elim) hnc.2.2)
        exact ⟨u, by simpa [Instr.loadAt, Instr.sureAddr] using h1, h2⟩
       | false =>
        simp only [hb, hns] at h
        have hvv := beq_iff hb
        subst hvv
        obtain ⟨_, _, _, hav⟩ := hav
        obtain ⟨hlt, _⟩ := hav e sz own es hl
        have hc := h es[i] (List.getElem?_eq_getElem hlt)
        obtain ⟨r, hr, hs⟩ := cells_sound hf hc
        refine ⟨r, hr, fun F0 L w0 a w κ v hk hv => ?_⟩
        obtain ⟨_, _, _, hv⟩ := hv
        obtain ⟨_, A, n, cp, hv1, rfl⟩ := hv e sz own es hl
        obtain ⟨u, h1, h2⟩ := hs w κ st.h (A.add (i * sz + j)) (fun k c hk' _ => by
          simp only [List.getElem?_map, Option.map_eq_some_iff] at hk'
          obtain ⟨d, hd, rfl⟩ := hk'
          rw [List.getElem?_drop] at hd
          obtain ⟨_, _, _, u, hu, hd'⟩ := arr_cell hk hl hns hv1 (List.getElem?_eq_getElem hlt) hd
          refine ⟨u, ?_, hd'⟩
          rw [add_add, Nat.add_assoc]
          exact hu)
        exact ⟨u, by simpa [Instr.loadAt, Instr.sureAddr] using h1, h2⟩
    · exact h.elim
  · exact h.elim
theorem off_fits {t : TypeId} {ti : TI} (h : ti.fits P t) {f off ft : Nat} (ho : offOf ti f = some (off, ft)) :
  ∃ fields : Array Field, P.underlying t = some (.struct fields) ∧ ∃ fd, fields[f]? = some fd ∧ fd.offset = off ∧ fd.type = ft := by
 unfold offOf at ho
 have hk := h.k
 split at ho
 ·rename_i fs hfs
  rw [hfs] at hk
  obtain ⟨fields, h1, h2, _⟩ := hk
  refine ⟨fields, h1, ?_⟩
  rw [← h2] at ho
  simp only [List.getElem?_map, Option.map_eq_some_iff] at ho
  obtain ⟨fd, h3, h4⟩ := ho
  simp only [Prod.mk.injEq] at h4
  exact ⟨fd, by simpa using h3, h4.1, h4.2⟩
 ·simp at ho
theorem ptrAdd_sound {t : TypeId} {ti tf : TI} (hT : ti.fits P t) {f off ft : Nat} (ho : offOf ti f = some (off, ft)) (hft : tf.fits P ft) (h0 : Nat.beq tf.size 0 = false) {av : AV} {K : AV → Prop} (h : ptrAdd st av off K) :
  ∃ r, K r ∧ ∀ F0 L w0 a w κ v, RepK F0 L w0 st a w κ → AVRep w κ st.h av v → ∃ u, (Instr.fieldAt t v f).run P w = .ok u w ∧ AVRep w κ st.h r u := by
 obtain ⟨fields, hu, fd, hfd, hoff, hty⟩ := off_fits hT ho
 have hne : tf.size ≠ 0 := fun h => by rw [h] at h0; simp at h0
 have hrun : ∀ (w : World) (A : Addr), (Instr.fieldAt t (.pointer (some A)) f).run P w = .ok (.pointer (some (A.add off))) w := by
  intro w A
  have hs : (sizeOf fd.type).run P w = .ok tf.size w := by rw [hty]; exact run_size hft
  simp only [Instr.fieldAt, Sem.run_bind, run_underlying hu, Result.andThen_ok, hfd, Instr.sureAddr, Sem.run_pure, fieldPlace, hs, if_neg hne, hoff]
 unfold ptrAdd at h
 split at h
 ·rename_i cs
  refine ⟨_, h, fun F0 L w0 a w κ v hk hv => ?_⟩
  cases hv with
  | rp A cs val hF hc hs =>
   refine ⟨_, hrun w A, .rp (A.add off) _ (fun j => val (off + j)) (fun hne => ?_) (fun j d hj => ?_) (fun j d hj => ?_)⟩
   ·have : cs ≠ [] := by intro e; subst e; simp at hne
    exact ⟨by rw [add_block]; exact (hF this).1, add_spot (hF this).2 _⟩
   ·rw [List.getElem?_drop] at hj; rw [add_add]; exact hc _ d hj
   ·rw [List.getElem?_drop] at hj; exact hs _ d hj
 ·rename_i id o
  refine ⟨_, h, fun F0 L w0 a w κ v hk hv => ?_⟩
  obtain ⟨hn, rfl⟩ := hv
  exact ⟨_, hrun w _, hn, by rw [addr0]⟩
 ·rename_i id ver i j
  split at h
  ·rename_i e sz vr own es hl
   cases hb : Nat.beq vr ver with
   | false => simp only [hb] at h
   | true =>
    simp only [hb] at h
    obtain rfl := beq_iff hb
    refine ⟨_, h, fun F0 L w0 a w κ v hk hv => ?_⟩
    obtain ⟨hn, _, _, hv⟩ := hv
    obtain ⟨hlt, B, n, c, hB, rfl⟩ := hv e sz own es hl
    refine ⟨_, hrun w _, hn, rfl, rfl, fun e' sz' own' es' hl' => ?_⟩
    rw [hl] at hl'
    cases hl'
    exact ⟨hlt, B, n, c, hB, by rw [add_add, Nat.add_assoc]⟩
  ·exact h.elim
 ·exact h.elim
theorem index_sound (hT : TOk P T) {t : TypeId} {x i : AV} {K : AV → Prop} (h : indexWp T st t x i K) :
  ∃ r, K r ∧ ∀ F0 L w0 a w κ vx vi, RepK F0 L w0 st a w κ → AVRep w κ st.h x vx → AVRep w κ st.h i vi → ∃ u, (Instr.indexAt t vx vi).run P w = .ok u w ∧ AVRep w κ st.h r u := by
 unfold indexWp at h
 split at h
 ·rename_i ti k n hti
  have hk := (hT t ti hti).k
  split at h
  ·
   rename_i e sz es hke
   split at h
   ·rename_i te hte
    cases hb : Nat.beq te.size sz with
    | false => simp only [hb] at h
    | true =>
     simp only [hb] at h
     obtain rfl := beq_iff hb
     obtain ⟨⟨h0, hlt⟩, h⟩ := h
     have hlt' : n.toNat < es.length := by omega
     refine ⟨_, h _ (List.getElem?_eq_getElem hlt'), fun F0 L w0 a w κ vx vi hr hx hi => ?_⟩
     cases hi
     rw [hke] at hk
     cases hx with
     | sl A len cap sz es val hl hc he ha hrd hs =>
      have hne : es ≠ [] := by intro e; subst e; simp at hlt'
      obtain ⟨A, rfl, hF, hsp⟩ := ha hne
      have hz := run_size (w := w) (hT e te hte)
      refine ⟨.pointer (some (A.add (n.toNat * te.size))), ?_, .rp _ _ (fun j => val n.toNat j) (fun _ => ⟨by rw [add_block]; exact hF, add_spot hsp _⟩) (fun j d hj => ?_) (fun j d hj => ?_)⟩
      ·have hlen : n < len := by rw [hl]; exact hlt
       simp only [Instr.indexAt, asIntOf, Sem.run_bind, Sem.run_pure, Result.andThen_ok, run_underlying (h := hk), h0, hlen, and_self, if_true, hz]
      ·rw [add_add]; exact hrd A n.toNat _ j d rfl (List.getElem?_eq_getElem hlt') hj
      ·exact hs n.toNat _ j d (List.getElem?_eq_getElem hlt') hj
   ·exact h.elim
  ·
   rename_i e id ver s hke
   split at h
   ·rename_i te x sz vr own es hte hl
    cases hb : Nat.beq te.size sz with
    | false => simp only [hb] at h
    | true =>
     cases hb2 : Nat.beq vr ver with
     | false => simp only [hb, hb2] at h
     | true =>
      simp only [hb, hb2] at h
      obtain rfl := beq_iff hb
      obtain rfl := beq_iff hb2
      obtain ⟨⟨h0, hlt⟩, h⟩ := h
      refine ⟨_, h, fun F0 L w0 a w κ vx vi hr hx hi => ?_⟩
      cases hi
      rw [hke] at hk
      obtain ⟨hn, _, _, hx⟩ := hx
      obtain ⟨hle, ba, bn, bc, a', c', hv, rfl, hc', ha', _⟩ := hx _ _ _ _ hl
      have hz := run_size (w := w) (hT e te hte)
      have hlen0 : lenR es s ≠ 0 := by omega
      obtain ⟨xs, ho⟩ := (hr.ents id _ hl).row
      rcases ho.2 with ⟨h1, h2⟩ | ⟨g, cap, cur, h1, _⟩
      ·omega
      ·rw [hv] at h1
       obtain ⟨rfl, rfl, rfl⟩ : ba = some ⟨g, 0, none⟩ ∧ bn = es.length ∧ bc = cap := by simpa using h1
       obtain rfl := ha' hlen0
       refine ⟨.pointer (some ((⟨g, 0, none⟩ : Addr).add (offR s * te.size) |>.add (n.toNat * te.size))), ?_, hn, rfl, rfl, fun e' sz' own' es' hl' => ?_⟩
       ·simp only [Instr.indexAt, asIntOf, Sem.run_bind, Sem.run_pure, Result.andThen_ok, run_underlying (h := hk), h0, hlt, and_self, if_true, hz, Option.map_some]
       ·rw [hl] at hl'
        cases hl'
        exact ⟨by omega, _, _, _, hv, by rw [add_add]; congr 2; rw [Nat.add_mul]; rfl⟩
   ·exact h.elim
  ·
   rename_i m e id o hke
   split at h
   ·rename_i te hte
    obtain ⟨⟨h0, hlt⟩, h⟩ := h
    refine ⟨_, h, fun F0 L w0 a w κ vx vi hr hx hi => ?_⟩
    cases hi
    rw [hke] at hk
    obtain ⟨hn, rfl⟩ := hx
    have hz := run_size (w := w) (hT e te hte)
    refine ⟨_, ?_, hn, rfl⟩
    simp only [Instr.indexAt, asIntOf, Sem.run_bind, Sem.run_pure, Result.andThen_ok, run_underlying (h := hk), Instr.sureAddr, h0, hlt, and_self, if_true, hz, addr0]
   ·exact h.elim
  ·
   rename_i m e cs hke
   split at h
   ·rename_i te hte
    obtain ⟨⟨h0, hlt⟩, h⟩ := h
    refine ⟨_, h, fun F0 L w0 a w κ vx vi hr hx hi => ?_⟩
    cases hi
    rw [hke] at hk
    have hz := run_size (w := w) (hT e te hte)
    cases hx with
    | rp A cs val hF hc hs =>
     refine ⟨.pointer (some (A.add (n.toNat * te.size))), ?_, .rp _ _ (fun j => val (n.toNat * te.size + j)) (fun hne => ?_) (fun j d hj => ?_) (fun j d hj => ?_)⟩
     ·simp only [Instr.indexAt, asIntOf, Sem.run_bind, Sem.run_pure, Result.andThen_ok, run_underlying (h := hk), Instr.sureAddr, h0, hlt, and_self, if_true, hz]
     ·have : cs ≠ [] := by intro e; subst e; simp at hne
      exact ⟨by rw [add_block]; exact (hF this).1, add_spot (hF this).2 _⟩
     ·rw [List.getElem?_drop] at hj; rw [add_add]; exact hc _ d hj
     ·rw [List.getElem?_drop] at hj; exact hs _ d hj
   ·exact h.elim
  ·exact h.elim
 ·exact h.elim
end
end Go.H
namespace Go.H
open Go.RowKit
section
variable {P : Program} {T : TypeId → Option TI} {F0 L : Nat → Prop} {w0 w : World} {st : St} {a : Act} {κ : Con}
theorem kindEq_iff {a b : IntKind} (h : kindEq a b = true) : a = b := by simpa [kindEq] using h
theorem int_sound {op : BinOp} {k : IntKind} {x y : Int} {K : D → Prop} (h : intWp op k x y K) (hs : op ≠ .shl) (hs' : op ≠ .shr) :
  ∃ d, K d ∧ ∀ (w : World) (F : Nat → Prop) t, ∃ v, (binOp op t (.int k x) (.int k y)).run P w = .ok v w ∧ Fz w F v d := by
 cases op <;> simp only [intWp] at h <;> try exact absurd rfl (by assumption)
 case quo => exact ⟨_, h.2, fun w F t => ⟨_, by simp [binOp, Op.intDiv, h.1], .int _ _⟩⟩
 case rem => exact ⟨_, h.2, fun w F t => ⟨_, by simp [binOp, Op.intDiv, h.1], .int _ _⟩⟩
 case add => exact ⟨_, h, fun w F t => ⟨_, by simp [binOp, Op.intArith], .int _ _⟩⟩
 case sub => exact ⟨_, h, fun w F t => ⟨_, by simp [binOp, Op.intArith], .int _ _⟩⟩
 case mul => exact ⟨_, h, fun w F t => ⟨_, by simp [binOp, Op.intArith], .int _ _⟩⟩
 case and => exact ⟨_, h, fun w F t => ⟨_, by simp [binOp, Op.intBits, wrapB], .int _ _⟩⟩
 case or => exact ⟨_, h, fun w F t => ⟨_, by simp [binOp, Op.intBits, wrapB], .int _ _⟩⟩
 case xor => exact ⟨_, h, fun w F t => ⟨_, by simp [binOp, Op.intBits, wrapB], .int _ _⟩⟩
 case andNot => exact ⟨_, h, fun w F t => ⟨_, by simp [binOp, Op.intBits, wrapB], .int _ _⟩⟩
 case eql => exact ⟨_, h, fun w F t => ⟨.bool (decide (x = y)), by simp [binOp, Op.intCmp, BEq.beq], .bool _⟩⟩
 case neq => exact ⟨_, h, fun w F t => ⟨.bool (!decide (x = y)), by simp [binOp, Op.intCmp, bne, BEq.beq], .bool _⟩⟩
 case lss => exact ⟨_, h, fun w F t => ⟨_, by simp [binOp, Op.intCmp], .bool _⟩⟩
 case leq => exact ⟨_, h, fun w F t => ⟨_, by simp [binOp, Op.intCmp], .bool _⟩⟩
 case gtr => exact ⟨_, h, fun w F t => ⟨_, by simp [binOp, Op.intCmp], .bool _⟩⟩
 case geq => exact ⟨_, h, fun w F t => ⟨_, by simp [binOp, Op.intCmp], .bool _⟩⟩
theorem eqGuard_int (op : BinOp) (t : TypeId) (x y : Operand) (k k' : IntKind) (a b : Int) : (eqGuard op t x y (.int k a) (.int k' b)).run P w = .ok () w := by
 cases op <;> simp [eqGuard]
theorem eqGuard_str (op : BinOp) (t : TypeId) (x y : Operand) (a b : ByteArray) : (eqGuard op t x y (.string a) (.string b)).run P w = .ok () w := by
 cases op <;> simp [eqGuard]
theorem eqGuard_bool (op : BinOp) (t : TypeId) (x y : Operand) (a b : Bool) : (eqGuard op t x y (.bool a) (.bool b)).run P w = .ok () w := by
 cases op <;> simp [eqGuard]
theorem str_sound {op : BinOp} {x y : ByteArray} {K : D → Prop} (h : strWp op x y K) :
  ∃ d, K d ∧ ∀ (w : World) (F : Nat → Prop) t, ∃ v, (binOp op t (.string x) (.string y)).run P w = .ok v w ∧ Fz w F v d := by
 cases op <;> simp only [strWp] at h
 case add =>
  refine ⟨_, h.2, fun w F t => ⟨_, ?_, .str _⟩⟩
  have h1 : ¬ (((x.size + y.size : Nat) : Int) > IntKind.i64.max) := by
   have : IntKind.i64.max = 9223372036854775807 := by decide
   rw [this]; have := h.1; omega
  simp only [binOp, Op.stringOp, if_neg h1, Sem.run_pure]
 case eql => exact ⟨_, h, fun w F t => ⟨_, by simp [binOp, Op.stringOp], .bool _⟩⟩
 case neq => exact ⟨_, h, fun w F t => ⟨_, by simp [binOp, Op.stringOp], .bool _⟩⟩
 case lss => exact ⟨_, h, fun w F t => ⟨_, by simp [binOp, Op.stringOp], .bool _⟩⟩
def ValOf (w : World) (κ : Con) (hh : List (Nat × Ent)) (agg : Bool) (cs : List CV) (v : Value) : Prop :=
 if agg then ∃ us : List Value, v = .agg us.toArray ∧ CVs w κ hh cs us else CVs w κ hh cs [v]
theorem part_sound {t : TypeId} {ti : TI} (h : ti.fits P t) {w : World} {κ : Con} {hh : List (Nat × Ent)} {cs : List CV} {vs : List Value} (hv : CVs w κ hh cs vs) {off : Nat}
  (hle : off + ti.size ≤ cs.length) :
  ∃ v, (part t vs.toArray off).run P w = .ok v w ∧ ValOf w κ hh ti.agg ((cs.drop off).take ti.size) v := by
 have h1 := h.one
 unfold ValOf
 obtain ⟨hl, hc⟩ := hv
 unfold part
 simp only [Sem.run_bind, run_isAgg h, Result.andThen_ok]
 cases hg : ti.agg with
 | true =>
  simp only [if_true, Sem.run_bind, run_size h, Result.andThen_ok, Sem.run_pure]
  refine ⟨_, rfl, (vs.drop off).take ti.size, by simp, by simp [hl], fun j c u hj hu => ?_⟩
  rw [List.getElem?_take] at hj hu
  split at hj
  ·rename_i hlt
   rw [if_pos hlt, List.getElem?_drop] at hu
   rw [List.getElem?_drop] at hj
   exact hc _ c u hj hu
  ·simp at hj
 | false =>
  have hs := h1 hg
  have hlt : off < vs.length := by omega
  refine ⟨vs[off], by simp [hlt], ?_⟩
  simp only [Bool.false_eq_true, if_false]
  refine ⟨by simp [hs]; omega, fun j c u hj hu => ?_⟩
  cases j with
  | zero =>
   simp at hu
   rw [hs] at hj
   simp [List.getElem?_drop] at hj
   exact hc off c u hj (by simp [hlt, hu])
  | succ j => simp at hu
theorem CVs.one {w : World} {κ : Con} {hh : List (Nat × Ent)} {c : CV} {v : Value} (h : CVs w κ hh [c] [v]) : CVRep w κ hh c v := h.2 0 c v rfl rfl
theorem eq_sound (hT : TOk P T) : ∀ (n : Nat) (t : TypeId) (xs ys : List CV) (b : Bool), eqD T n t xs ys = some b → ∀ ti, T t = some ti → ∀ (d : Nat), n ≤ d → ∀ (w : World) (κ : Con) (hh : List (Nat × Ent)) (vx vy : Value),
  ValOf w κ hh ti.agg xs vx → ValOf w κ hh ti.agg ys vy → (Op.equalIn d t vx vy).run P w = .ok b w := by
 intro n
 induction n with
 | zero => intro t xs ys b h; simp [eqD] at h
 | succ n ih =>
  intro t xs ys b h ti hti d hd w κ hh vx vy hx hy
  obtain ⟨d, rfl⟩ : ∃ k, d = k + 1 := ⟨d - 1, by omega⟩
  have hf := hT t ti hti
  have hk := hf.k
  simp only [eqD, hti] at h
  split at h
  ·rename_i k0 k a k' c hke
   rw [hke] at hk
   simp only [TI.agg, hke, ValOf, Bool.false_eq_true, if_false] at hx hy
   cases hb : kindEq k k' with
   | false => simp [hb] at h
   | true =>
    simp only [hb, Option.some.injEq] at h
    obtain rfl := kindEq_iff hb
    subst h
    cases hx.one
    cases hy.one
    rw [run_equalIn_int _ _ _ _ _ _ _ hk]
    simp [BEq.beq]
  ·rename_i a c hke
   rw [hke] at hk
   simp only [TI.agg, hke, ValOf, Bool.false_eq_true, if_false] at hx hy
   simp only [Option.some.injEq] at h
   subst h
   cases hx.one
   cases hy.one
   exact run_equalIn_bool' _ _ _ _ _ hk
  ·rename_i a c hke
   rw [hke] at hk
   simp only [TI.agg, hke, ValOf, Bool.false_eq_true, if_false] at hx hy
   simp only [Option.some.injEq] at h
   subst h
   cases hx.one
   cases hy.one
   exact run_equalIn_string _ _ _ _ _ hk
  ·rename_i fs xs ys hke
   rw [hke] at hk
   obtain ⟨fields, h1, h2, h3, h4, h5⟩ := hk
   simp only [TI.agg, hke, ValOf, if_true] at hx hy
   obtain ⟨us, rfl, hu⟩ := hx
   obtain ⟨vs, rfl, hv⟩ := hy
   have hfo : P.fieldsOf t = fields := by simp [Program.fieldsOf, h1]
   rw [run_equalIn_struct _ _ _ _ _ (by rw [hfo]; exact h1) h4, hfo]
   subst h2
   clear hfo h1
   revert h h3
   generalize fields.toList = fl
   intro h3 h
   induction fl generalizing b with
   | nil =>
    simp at h
    subst h
    simp [Op.eqFields]
   | cons f fl ihf =>
    simp only [List.map_cons, List.foldr_cons] at h
    cases htf : T f.type with
    | none => simp [htf] at h
    | some tf =>
     simp only [htf] at h
     split at h
     ·rename_i bb r hb1 hb2 hb3 hb4
      simp only [Option.some.injEq] at h
      subst h
      have hff := hT _ _ htf
      obtain ⟨v1, p1, q1⟩ := part_sound hff hu (off := f.offset) (Nat.le_of_ble_eq_true hb1)
      obtain ⟨v2, p2, q2⟩ := part_sound hff hv (off := f.offset) (Nat.le_of_ble_eq_true hb2)
      have he := ih f.type _ _ bb hb3 tf htf d (by omega) w κ hh v1 v2 q1 q2
      have hrest := ihf r (fun g hg => h3 g (List.mem_cons_of_mem _ hg)) hb4
      have hn := h3 f (List.mem_cons_self)
      simp only [Op.eqFields, ne_eq, hn, not_false_eq_true, if_true, Sem.run_bind, p1, p2, Result.andThen_ok, he]
      cases bb
      ·simp
      ·simp [hrest]
     ·simp at h
  ·simp at h
theorem bin_sound (hT : TOk P T) {op : BinOp} {t : TypeId} {x y : AV} {K : D → Prop} (h : binWp T op t x y K) :
  ∃ d, K d ∧ ∀ (w : World) (κ : Con) (hh : List (Nat × Ent)) vx vy (ox oy : Operand), AVRep w κ hh x vx → AVRep w κ hh y vy →
   ∃ v, (do eqGuard op t ox oy vx vy; binOp op t vx vy : Sem Value).run P w = .ok v w ∧ Fz w κ.F v d := by
 unfold binWp at h
 split at h
 ·rename_i k a k' b
  split at h
  ·simp only [intWp] at h
   refine ⟨_, h.2, fun w κ hh vx vy ox oy hx hy => ?_⟩
   cases hx; cases hy
   refine ⟨_, ?_, .int _ _⟩
   simp only [Sem.run_bind, eqGuard_int, Result.andThen_ok]
   simp [binOp, Op.shift, Int.not_lt.mpr h.1]
  ·simp only [intWp] at h
   refine ⟨_, h.2, fun w κ hh vx vy ox oy hx hy => ?_⟩
   cases hx; cases hy
   refine ⟨_, ?_, .int _ _⟩
   simp only [Sem.run_bind, eqGuard_int, Result.andThen_ok]
   simp [binOp, Op.shift, Int.not_lt.mpr h.1]
  ·rename_i hn1 hn2
   cases hb : kindEq k k' with
   | false => simp only [hb] at h
   | true =>
    simp only [hb] at h
    obtain rfl := kindEq_iff hb
    obtain ⟨d, hd, hs⟩ := int_sound (P := P) h (fun e => hn1 e) (fun e => hn2 e)
    refine ⟨d, hd, fun w κ hh vx vy ox oy hx hy => ?_⟩
    cases hx; cases hy
    obtain ⟨v, hv, hF⟩ := hs w κ.F t
    exact ⟨v, by simp only [Sem.run_bind, eqGuard_int, Result.andThen_ok, hv], hF⟩
 ·rename_i a b
  obtain ⟨d, hd, hs⟩ := str_sound (P := P) h
  refine ⟨d, hd, fun w κ hh vx vy ox oy hx hy => ?_⟩
  cases hx; cases hy
  obtain ⟨v, hv, hF⟩ := hs w κ.F t
  exact ⟨v, by simp only [Sem.run_bind, eqGuard_str, Result.andThen_ok, hv], hF⟩
 ·rename_i a b
  split at h
  ·rename_i ti hti
   have hk := (hT t ti hti).k
   split at h
   ·rename_i hke
    rw [hke] at hk
    refine ⟨_, h, fun w κ hh vx vy ox oy hx hy => ?_⟩
    cases hx; cases hy
    exact ⟨_, by simp only [Sem.run_bind, eqGuard_bool, Result.andThen_ok]; simp [binOp, Op.equal, Op.maxDepth, run_equalIn_bool' _ _ _ _ _ hk], .bool _⟩
   ·rename_i hke
    rw [hke] at hk
    refine ⟨_, h, fun w κ hh vx vy ox oy hx hy => ?_⟩
    cases hx; cases hy
    exact ⟨_, by simp only [Sem.run_bind, eqGuard_bool, Result.andThen_ok]; simp [binOp, Op.equal, Op.maxDepth, run_equalIn_bool' _ _ _ _ _ hk], .bool _⟩
   ·exact h.elim
  ·exact h.elim
 ·rename_i xs ys
  split at h
  ·rename_i ti hti
   have hk := (hT t ti hti).k
   split at h
   ·rename_i fs b hke he
    rw [hke] at hk
    obtain ⟨fields, _, _, _, _, h5⟩ := hk
    refine ⟨_, h, fun w κ hh vx vy ox oy hx hy => ?_⟩
    obtain ⟨us, rfl, hu⟩ := hx
    obtain ⟨vs, rfl, hv⟩ := hy
    have := eq_sound hT 8 t xs ys b he ti hti 10000 (by omega) w κ hh (.agg us.toArray) (.agg vs.toArray) (by simp only [ValOf, TI.agg, hke, if_true]; exact ⟨us, rfl, hu⟩) (by simp only [ValOf, TI.agg, hke, if_true]; exact ⟨vs, rfl, hv⟩)
    exact ⟨_, by simp only [Sem.run_bind, run_eqGuard_agg _ _ _ _ _ _ _ h5, Result.andThen_ok, run_eql_struct, this], .bool _⟩
   ·rename_i fs b hke he
    rw [hke] at hk
    obtain ⟨fields, _, _, _, _, h5⟩ := hk
    refine ⟨_, h, fun w κ hh vx vy ox oy hx hy => ?_⟩
    obtain ⟨us, rfl, hu⟩ := hx
    obtain ⟨vs, rfl, hv⟩ := hy
    have := eq_sound hT 8 t xs ys b he ti hti 10000 (by omega) w κ hh (.agg us.toArray) (.agg vs.toArray) (by simp only [ValOf, TI.agg, hke, if_true]; exact ⟨us, rfl, hu⟩) (by simp only [ValOf, TI.agg, hke, if_true]; exact ⟨vs, rfl, hv⟩)
    exact ⟨_, by simp only [Sem.run_bind, run_eqGuard_agg _ _ _ _ _ _ _ h5, Result.andThen_ok, run_neq_struct, this], .bool _⟩
   ·exact h.elim
  ·exact h.elim
 ·exact h.elim
end
end Go.H
namespace Go.H
open Go.RowKit
section
variable {P : Program} {T : TypeId → Option TI} {F0 L : Nat → Prop} {w0 w : World} {st : St} {a : Act} {κ : Con}
theorem un_sound {op : UnOp} {x : AV} {K : D → Prop} (h : unWp op x K) :
  ∃ d, K d ∧ ∀ (w : World) (κ : Con) (hh : List (Nat × Ent)) vx, AVRep w κ hh x vx → ∃ v, (Op.unary op vx).run P w = .ok v w ∧ Fz w κ.F v d := by
 unfold unWp at h
 split at h
 ·exact ⟨_, h, fun w κ hh vx hx => by cases hx; exact ⟨_, by simp [Op.unary], .bool _⟩⟩
 ·exact ⟨_, h, fun w κ hh vx hx => by cases hx; exact ⟨_, by simp only [Op.unary, Op.intArith, Sem.run_pure], .int _ _⟩⟩
 ·exact ⟨_, h, fun w κ hh vx hx => by cases hx; exact ⟨_, by simp only [Op.unary, Op.intBits, Sem.run_pure, wrapB], .int _ _⟩⟩
 ·exact h.elim
theorem field_sound (hT : TOk P T) {t : TypeId} {x : AV} {f : Nat} {K : AV → Prop} (h : fieldWp T t x f K) :
  ∃ r, K r ∧ ∀ (w : World) (κ : Con) (hh : List (Nat × Ent)) vx, AVRep w κ hh x vx → ∃ v, (Instr.field t vx f).run P w = .ok v w ∧ AVRep w κ hh r v := by
 unfold fieldWp at h
 split at h
 ·rename_i ti cs hti
  split at h
  ·rename_i off ft ho
   split at h
   ·rename_i tf htf
    obtain ⟨fields, hu, fd, hfd, hoff, hty⟩ := off_fits (hT t ti hti) ho
    have hff := hT ft tf htf
    unfold cellsC at h
    cases hg : tf.agg with
    | true =>
     simp only [hg] at h
     cases hb : Nat.ble tf.size (cs.drop off).length with
     | false => simp only [hb] at h
     | true =>
      simp only [hb] at h
      have hle := Nat.le_of_ble_eq_true hb
      rw [List.length_drop] at hle
      refine ⟨_, h, fun w κ hh vx hx => ?_⟩
      obtain ⟨us, rfl, hus⟩ := hx
      by_cases hz : tf.size = 0
      ·
       refine ⟨.agg #[], ?_, [], rfl, by simp [hz], fun j c u _ hu => by simp at hu⟩
       simp only [Instr.field, Sem.run_bind, run_underlying hu, Result.andThen_ok, hfd, asAgg, Sem.run_pure, hoff, hty, part, run_isAgg hff, hg, if_true, run_size hff, hz]
       simp
      ·obtain ⟨v, hp, hv⟩ := part_sound hff hus (off := off) (by omega)
       refine ⟨v, ?_, ?_⟩
       ·simp only [Instr.field, Sem.run_bind, run_underlying hu, Result.andThen_ok, hfd, asAgg, Sem.run_pure, hoff, hty, hp]
       ·simp only [ValOf, hg, if_true] at hv; exact hv
    | false =>
     simp only [hg] at h
     split at h
     ·rename_i c r hcs
      cases hb : Nat.beq tf.size 1 with
      | false => simp only [hb] at h
      | true =>
       simp only [hb] at h
       have h1 := beq_iff hb
       refine ⟨_, h, fun w κ hh vx hx => ?_⟩
       obtain ⟨us, rfl, hus⟩ := hx
       have hlen : off + 1 ≤ cs.length := by
        have := congrArg List.length hcs
        simp at this; omega
       obtain ⟨v, hp, hv⟩ := part_sound hff hus (off := off) (by omega)
       refine ⟨v, ?_, ?_⟩
       ·simp only [Instr.field, Sem.run_bind, run_underlying hu, Result.andThen_ok, hfd, asAgg, Sem.run_pure, hoff, hty, hp]
       ·simp only [ValOf, hg, Bool.false_eq_true, if_false, hcs, h1] at hv
        exact CVs.one hv
     ·exact h.elim
   ·exact h.elim
  ·exact h.elim
 ·exact h.elim
theorem tup_sound {x : AV} {i : Nat} {K : AV → Prop} (h : tupWp x i K) :
  ∃ r, K r ∧ ∀ (w : World) (κ : Con) (hh : List (Nat × Ent)) vx, AVRep w κ hh x vx → ∃ v, (Instr.extract vx i).run P w = .ok v w ∧ AVRep w κ hh r v := by
 unfold tupWp at h
 split at h
 ·rename_i xs
  split at h
  ·rename_i cs hi
   refine ⟨_, h, fun w κ hh vx hx => ?_⟩
   obtain ⟨vs, rfl, hl, hc⟩ := hx
   have hlt : i < vs.length := by rw [hl]; exact (List.getElem?_eq_some_iff.1 hi).1
   refine ⟨vs[i], by simp [Instr.extract, hlt], ?_⟩
   exact hc i _ _ hi (List.getElem?_eq_getElem hlt)
  ·rename_i c hi
   refine ⟨_, h, fun w κ hh vx hx => ?_⟩
   obtain ⟨vs, rfl, hl, hc⟩ := hx
   have hlt : i < vs.length := by rw [hl]; exact (List.getElem?_eq_some_iff.1 hi).1
   refine ⟨vs[i], by simp [Instr.extract, hlt], ?_⟩
   have := hc i _ _ hi (List.getElem?_eq_getElem hlt)
   exact CVs.one (by simpa [TVRep] using this)
  ·exact h.elim
 ·exact h.elim
theorem len_sound (hT : TOk P T) {t : TypeId} {x : AV} {K : D → Prop} (h : lenRefWp T st t x K) :
  ∃ d, K d ∧ ∀ (w : World) (κ : Con) vx ty, AVRep w κ st.h x vx → ∃ v, (Builtin.len_ #[t] ty #[vx]).run P w = .ok v w ∧ Fz w κ.F v d := by
 unfold lenRefWp at h
 split at h
 ·rename_i ti id ver s hti
  have hk := (hT t ti hti).k
  split at h
  ·rename_i e e' sz v own es hke hl
   cases hb : Nat.beq v ver with
   | false => simp only [hb] at h
   | true =>
    simp only [hb] at h
    obtain rfl := beq_iff hb
    rw [hke] at hk
    refine ⟨_, h, fun w κ vx ty hx => ?_⟩
    obtain ⟨_, _, _, hx⟩ := hx
    obtain ⟨_, _, _, _, _, _, _, rfl, _⟩ := hx _ _ _ _ hl
    exact ⟨_, by simp [Builtin.len_, run_underlying (h := hk), goInt], .int _ _⟩
  ·exact h.elim
 ·rename_i hno
  clear hno
  unfold lenWp at h
  split at h
  ·rename_i ti x hti
   have hk := (hT t ti hti).k
   split at h
   ·rename_i s hke
    rw [hke] at hk
    refine ⟨_, h, fun w κ vx ty hx => ?_⟩
    cases hx
    exact ⟨_, by simp [Builtin.len_, run_underlying (h := hk), goInt], .int _ _⟩
   ·rename_i e sz es hke
    rw [hke] at hk
    refine ⟨_, h, fun w κ vx ty hx => ?_⟩
    cases hx with
    | sl A len cap sz es val hl hc he ha hrd hs =>
     exact ⟨_, by simp [Builtin.len_, run_underlying (h := hk), goInt, hl], .int _ _⟩
   ·rename_i e _ hke
    rw [hke] at hk
    refine ⟨_, h, fun w κ vx ty hx => ?_⟩
    cases hx
    exact ⟨_, by simp [Builtin.len_, run_underlying (h := hk), goInt], .int _ _⟩
   ·exact h.elim
  ·exact h.elim
theorem mx_sound {mx : Bool} {x y : AV} {K : D → Prop} (h : mxWp mx x y K) :
  ∃ d, K d ∧ ∀ (w : World) (κ : Con) (hh : List (Nat × Ent)) vx vy ts ty, AVRep w κ hh x vx → AVRep w κ hh y vy →
   ∃ v, (match mx with | true => Builtin.max_ ts ty #[vx, vy] | false => Builtin.min_ ts ty #[vx, vy]).run P w = .ok v w ∧ Fz w κ.F v d := by
 unfold mxWp at h
 split at h
 ·rename_i k a k' b
  cases hb : kindEq k k' with
  | false => simp only [hb] at h
  | true =>
   simp only [hb] at h
   obtain rfl := kindEq_iff hb
   refine ⟨_, h, fun w κ hh vx vy ts ty hx hy => ?_⟩
   cases hx; cases hy
   cases mx
   ·exact ⟨_, by simp [Builtin.min_, Builtin.min2, List.foldlM], .int _ _⟩
   ·exact ⟨_, by simp [Builtin.max_, Builtin.max2, List.foldlM], .int _ _⟩
 ·exact h.elim
theorem run_bounds {isSlice : Bool} {len cap : Nat} {lo hi : Option Value} {l h : Int} (hlo : (lo = none ∧ l = 0) ∨ ∃ k, lo = some (.int k l)) (hhi : (hi = none ∧ h = len) ∨ ∃ k, hi = some (.int k h))
  (h0 : 0 ≤ l) (h1 : l ≤ h) (h2 : h ≤ cap) (w : World) : (Instr.sliceBounds isSlice len cap lo hi none).run P w = .ok (l.toNat, h.toNat, cap) w := by
 have hb : ∀ (k : IntKind) (i : Int) (y : Nat) (code : BoundsCode), 0 ≤ i → i ≤ y → (Instr.sliceBound (.int k i) y code).run P w = .ok i.toNat w := fun k i y code h0 h1 => by
  simp [Instr.sliceBound, asIntOf, h0, h1]
 have hlh : l ≤ (h.toNat : Int) := by omega
 rcases hlo with ⟨rfl, rfl⟩ | ⟨k, rfl⟩ <;> rcases hhi with ⟨rfl, rfl⟩ | ⟨k', rfl⟩ <;>
  simp [Instr.sliceBounds, hb _ _ _ _ h0 hlh, hb _ _ _ _ (Int.le_trans h0 h1) h2]
 rw [hb _ _ _ _ h0 h1]; rfl
def OptRep (w : World) (κ : Con) (hh : List (Nat × Ent)) : Option AV → Option Value → Prop
 | none, none => True
 | some x, some v => AVRep w κ hh x v
 | _, _ => False
theorem bnd_sound {o : Option AV} {d : Nat} {l : Int} (h : bnd o d = some l) {w : World} {κ : Con} {hh : List (Nat × Ent)} {ov : Option Value} (hv : OptRep w κ hh o ov) :
  (ov = none ∧ o = none ∧ l = d) ∨ ∃ k, ov = some (.int k l) := by
 unfold bnd at h
 split at h
 ·cases ov with
  | none => exact .inl ⟨rfl, rfl, by simpa using h.symm⟩
  | some v => exact hv.elim
 ·cases ov with
  | none => exact hv.elim
  | some v =>
   simp only [Option.some.injEq] at h
   subst h
   cases hv
   exact .inr ⟨_, rfl⟩
 ·simp at h
theorem run_sliceOf {t e : TypeId} {te : TI} (hk : P.underlying t = some (.slice e)) (hte : te.fits P e) {a : Option Addr} {len cap : Nat} {lo hi : Option Value} {l h : Int}
  (hlo : (lo = none ∧ l = 0) ∨ ∃ k, lo = some (.int k l)) (hhi : (hi = none ∧ h = len) ∨ ∃ k, hi = some (.int k h)) (h0 : 0 ≤ l) (h1 : l ≤ h) (h2 : h ≤ cap) (w : World) :
  (Instr.sliceAt t (.slice a len cap) lo hi none).run P w = .ok (.slice (if cap = l.toNat then a else a.map (·.add (l.toNat * te.size))) (h.toNat - l.toNat) (cap - l.toNat)) w := by
 simp only [Instr.sliceAt, Sem.run_bind, run_underlying hk, Result.andThen_ok, Instr.slice, run_bounds hlo hhi h0 h1 h2 w, run_size hte, Sem.run_pure]
theorem slice_sound (hT : TOk P T) {t : TypeId} {x : AV} {lo hi : Option AV} {K : CV → Prop} (h : sliceWp T st t x lo hi K) :
  ∃ r, K r ∧ ∀ (F0 L : Nat → Prop) (w0 : World) (a : Act) (w : World) (κ : Con) vx (ol oh : Option Operand), RepK F0 L w0 st a w κ → lo = ol.map (evO st) → hi = oh.map (evO st) → AVRep w κ st.h x vx →
   ∃ v, (Instr.sliceAt t vx (ol.map a.eval) (oh.map a.eval) none).run P w = .ok v w ∧ CVRep w κ st.h r v := by
 have hopt : ∀ {F0 L : Nat → Prop} {w0 w : World} {a : Act} {κ : Con} (hr : RepK F0 L w0 st a w κ) (o : Option Operand), OptRep w κ st.h (o.map (evO st)) (o.map a.eval) := by
  intro F0 L w0 w a κ hr o
  cases o with
  | none => trivial
  | some x => exact evO_rep hr x
 unfold sliceWp at h
 split at h
 ·rename_i ti x hti
  have hk := (hT t ti hti).k
  split at h
  ·
   rename_i s hke
   rw [hke] at hk
   split at h
   ·rename_i l hh hl1 hh1
    obtain ⟨⟨h0, h1, h2⟩, h⟩ := h
    refine ⟨_, h, fun F0 L w0 a w κ vx ol oh hr ho1 ho2 hx => ?_⟩
    subst ho1 ho2
    cases hx
    have b1 := bnd_sound hl1 (hopt hr ol)
    have b2 := bnd_sound hh1 (hopt hr oh)
    refine ⟨.string (s.extract l.toNat hh.toNat), ?_, .str _⟩
    have := run_bounds (P := P) (isSlice := false) (len := s.size) (cap := s.size) (b1.imp (fun h => ⟨h.1, h.2.2⟩) fun h => h) (b2.imp (fun h => ⟨h.1, h.2.2⟩) fun h => h) h0 h1 h2 w
    simp only [Instr.sliceAt, Sem.run_bind, run_underlying (h := hk), Result.andThen_ok, Instr.slice]
    simp [this]
   ·exact h.elim
  ·
   rename_i e sz es hke
   rw [hke] at hk
   split at h
   ·rename_i te l hh hte hl1 hh1
    cases hb : Nat.beq te.size sz with
    | false => simp only [hb] at h
    | true =>
     simp only [hb] at h
     obtain rfl := beq_iff hb
     obtain ⟨⟨h0, h1, h2⟩, h⟩ := h
     refine ⟨_, h, fun F0 L w0 a w κ vx ol oh hr ho1 ho2 hx => ?_⟩
     subst ho1 ho2
     have b1 := bnd_sound hl1 (hopt hr ol)
     have b2 := bnd_sound hh1 (hopt hr oh)
     cases hx with
     | sl A len cap sz es val hl hc he ha hrd hs =>
      subst hl
      refine ⟨_, run_sliceOf hk (hT e te hte) (b1.imp (fun h => ⟨h.1, h.2.2⟩) fun h => h) (b2.imp (fun h => ⟨h.1, h.2.2⟩) fun h => h) h0 h1 (by omega) w, ?_⟩
      refine .sl _ _ _ _ _ (fun i j => val (l.toNat + i) j) (by simp; omega) (by omega) (fun i c hi => ?_) (fun hne => ?_) (fun A' i c j d hA hi hj => ?_) (fun i c j d hi hj => ?_)
      ·rw [List.getElem?_drop, List.getElem?_take] at hi
       split at hi
       ·exact he _ c hi
       ·simp at hi
      ·have hlt : l.toNat < hh.toNat := by
        rcases Nat.lt_or_ge l.toNat hh.toNat with h | h
        ·exact h
        ·exact absurd (List.drop_eq_nil_of_le (by simp; omega)) hne
       have hne' : es ≠ [] := by intro e; subst e; simp at hne
       obtain ⟨A0, rfl, hF, hsp⟩ := ha hne'
       rw [if_neg (by omega)]
       exact ⟨_, rfl, by rw [add_block]; exact hF, add_spot hsp _⟩
      ·rw [List.getElem?_drop, List.getElem?_take] at hi
       split at hi
       ·rename_i hlt
        have hlt2 : l.toNat + i < es.length := (List.getElem?_eq_some_iff.1 hi).1
        rw [if_neg (by omega)] at hA
        simp only [Option.map_eq_some_iff] at hA
        obtain ⟨A0, hA0, rfl⟩ := hA
        rw [add_add, ← Nat.add_assoc, ← Nat.add_mul]
        exact hrd A0 (l.toNat + i) c j d hA0 hi hj
       ·simp at hi
      ·rw [List.getElem?_drop, List.getElem?_take] at hi
       split at hi
       ·exact hs _ c j d hi hj
       ·simp at hi
   ·exact h.elim
  ·
   rename_i e id ver s hke
   rw [hke] at hk
   split at h
   ·rename_i te e' sz vr own es hte hlk
    split at h
    case h_2 => exact h.elim
    rename_i l hh hl1 hh1
    cases hb : Nat.beq te.size sz with
    | false => simp only [hb] at h
    | true =>
     cases hb2 : Nat.beq vr ver with
     | false => simp only [hb, hb2] at h
     | true =>
      simp only [hb, hb2] at h
      obtain rfl := beq_iff hb
      obtain rfl := beq_iff hb2
      obtain ⟨⟨h0, h1, h2⟩, h⟩ := h
      refine ⟨_, h, fun F0 L w0 a w κ vx ol oh hr ho1 ho2 hx => ?_⟩
      subst ho1 ho2
      have b1 := bnd_sound hl1 (hopt hr ol)
      have b2 := bnd_sound hh1 (hopt hr oh)
      obtain ⟨hn, _, _, hx⟩ := hx
      obtain ⟨hle, ba, bn, bc, a', c', hv, rfl, hc', ha', hdd⟩ := hx _ _ _ _ hlk
      refine ⟨_, run_sliceOf hk (hT e te hte) (b1.imp (fun h => ⟨h.1, h.2.2⟩) fun h => h) (b2.imp (fun h => ⟨h.1, h.2.2⟩) fun h => h) h0 h1 (by omega) w, hn, rfl, rfl, fun e2 sz2 own2 es2 hl2 => ?_⟩
      rw [hlk] at hl2
      cases hl2
      refine ⟨by simp only [offR, lenR] at *; omega, ba, bn, bc, _, _, hv, rfl, by simp only [lenR]; omega, fun hne => ?_, fun hd' => ?_⟩
      ·simp only [lenR] at hne
       rw [if_neg (by omega), ha' (by omega)]
       cases ba with
       | none => rfl
       | some A => simp only [Option.map_some, add_add, offR]; rw [Nat.add_mul]
      ·rcases b1 with ⟨ho, hon, hl0⟩ | ⟨k, ho⟩
       ·simp only [hdR, hon] at hd'
        obtain ⟨q1, q2, q3⟩ := hdd hd'
        have hl00 : l = 0 := by simpa using hl0
        subst hl00
        refine ⟨by simp [offR, q1] ; exact q1, ?_, by simp [q3]⟩
        subst q2
        by_cases hcz : c' = (0 : Int).toNat
        ·rw [if_pos hcz]
        ·rw [if_neg hcz]
         cases a' with
         | none => rfl
         | some A => simp [Addr.add]
       ·cases ol with
        | none => simp at ho
        | some x => simp [hdR] at hd'
   ·exact h.elim
  ·
   rename_i e z hke
   rw [hke] at hk
   split at h
   ·rename_i te l hh hte hl1 hh1
    obtain ⟨⟨rfl, rfl⟩, h⟩ := h
    refine ⟨_, h, fun F0 L w0 a w κ vx ol oh hr ho1 ho2 hx => ?_⟩
    subst ho1 ho2
    cases hx
    have b1 := bnd_sound hl1 (hopt hr ol)
    have b2 := bnd_sound hh1 (hopt hr oh)
    have := run_sliceOf (a := none) (len := 0) (cap := 0) hk (hT e te hte) (b1.imp (fun h => ⟨h.1, h.2.2⟩) fun h => h) (b2.imp (fun h => ⟨h.1, h.2.2⟩) fun h => h) (by omega) (by omega) (by omega) w
    exact ⟨.slice none 0 0, by simpa using this, rfl⟩
   ·exact h.elim
  ·exact h.elim
 ·exact h.elim
end
end Go.H
