/- Framework H, part 1: types, operands, and the operations that leave memory alone. -/
import Derived.Test.YtbclkplebkencaaH0
import Derived.Laws.Slices
import Derived.Laws.StructEq
namespace Go.H
set_option linter.unusedSimpArgs false
set_option linter.unusedVariables false
open Go.RowKit

inductive TK where
  | int (k : IntKind) | bool | str | ptr | slice (e : TypeId) | arr (n : Nat) (e : TypeId) | struct (fs : List (Nat × TypeId)) | other
  deriving Inhabited
structure TI where
  k : TK
  size : Nat
  bytes : Nat
  zero : List CV
  deriving Inhabited
def TI.agg (i : TI) : Bool := match i.k with | .struct _ | .arr _ _ => true | _ => false

/-- What a constant cell is. -/
def cvVal : CV → Option Value
  | .d (.int k n) => some (.int k n)
  | .d (.bool b) => some (.bool b)
  | .d (.str s) => some (.string s)
  | .nl _ => some (.slice none 0 0)
  | _ => none

def TK.fits (P : Program) (t : TypeId) : TK → Prop
  | .int k => P.underlying t = some (.int k)
  | .bool => P.underlying t = some .bool
  | .str => P.underlying t = some .string
  | .ptr => ∃ e, P.underlying t = some (.pointer e)
  | .slice e => P.underlying t = some (.slice e)
  | .arr n e => P.underlying t = some (.array n e)
  | .struct fs => ∃ fields : Array Field, P.underlying t = some (.struct fields) ∧ fields.toList.map (fun f => (f.offset, f.type)) = fs ∧
    (∀ f ∈ fields.toList, f.name ≠ "_") ∧ P.stoodInHeld t = false ∧ P.eqGuardType P.depth t = false
  | .other => ∃ d, P.underlying t = some d ∧ (match d with | .struct _ | .array _ _ => False | _ => True)

structure TI.fits (P : Program) (t : TypeId) (i : TI) : Prop where
  k : i.k.fits P t
  one : i.agg = false → i.size = 1
  info : ∃ info z, P.info? t = some info ∧ info.size = i.size ∧ info.bytes = i.bytes ∧ info.zero = some z ∧ z.cells.size = i.size ∧
    i.zero.length = i.size ∧ ∀ (j : Nat) (x : CV), i.zero[j]? = some x → ∃ u, cvVal x = some u ∧ z.cells[j]? = some u

/-- The table of types fits the program. -/
def TOk (P : Program) (T : TypeId → Option TI) : Prop := ∀ t i, T t = some i → i.fits P t

section
variable {P : Program} {w : World}

theorem run_size {t : TypeId} {i : TI} (h : i.fits P t) : (sizeOf t).run P w = .ok i.size w := by
  obtain ⟨info, z, h1, h2, _⟩ := h.info
  simp [sizeOf, typeInfo, h1, h2]

theorem run_isAgg {t : TypeId} {i : TI} (h : i.fits P t) : (isAgg t).run P w = .ok i.agg w := by
  have hk := h.k
  unfold TI.agg
  cases hi : i.k with
  | int k => rw [hi] at hk; simp [isAgg, run_underlying (h := hk)]
  | bool => rw [hi] at hk; simp [isAgg, run_underlying (h := hk)]
  | str => rw [hi] at hk; simp [isAgg, run_underlying (h := hk)]
  | ptr => rw [hi] at hk; obtain ⟨e, hk⟩ := hk; simp [isAgg, run_underlying hk]
  | slice e => rw [hi] at hk; simp [isAgg, run_underlying (h := hk)]
  | arr n e => rw [hi] at hk; simp [isAgg, run_underlying (h := hk)]
  | struct fs => rw [hi] at hk; obtain ⟨e, hk, _⟩ := hk; simp [isAgg, run_underlying hk]
  | other =>
    rw [hi] at hk; obtain ⟨d, hk, hd⟩ := hk
    cases d <;> simp_all [isAgg, run_underlying hk]

/-- Reading a variable of cells. -/
theorem run_loadVar {t : TypeId} {i : TI} (h : i.fits P t) (A : Addr) (cs : List Value) (hl : cs.length = i.size) (hc : ∀ (j : Nat) (v : Value), cs[j]? = some v → w.cell? (A.add j) = some v)
    (h1 : i.agg = false → i.size = 1) :
    (loadVar t A).run P w = .ok (if i.agg then .agg cs.toArray else cs.headD undef) w := by
  unfold loadVar
  simp only [Sem.run_bind, run_isAgg h, Result.andThen_ok]
  cases hg : i.agg with
  | true =>
    simp only [if_true, Sem.run_bind, run_size h, Result.andThen_ok, ← hl, run_loadCells_list w A cs hc, Sem.run_pure]
  | false =>
    have := h1 hg
    match cs, hl with
    | [v], _ =>
      have := hc 0 v rfl
      have e : A.add 0 = A := rfl
      rw [e] at this
      simp [this]
    | [], hl => simp at hl; omega
    | _ :: _ :: _, hl => simp at hl; omega

end

/-! ### operands -/
def cstC (v : Value) : Option CV :=
  match v with
  | .int k n => some (.d (.int k n))
  | .bool b => some (.d (.bool b))
  | .string s => some (.d (.str s))
  | .slice none 0 0 => some (.nl 0)
  | _ => none
def cst (v : Value) : AV :=
  match v with
  | .agg cs => match cs.toList.mapM cstC with | some l => .agg l | none => .u
  | v => match cstC v with | some x => .c x | none => .u
def AV.bare : AV → AV
  | .w x _ => .c x
  | av => av
def evO (st : St) : Operand → AV
  | .tmp t => match look st.t t with | some av => av.bare | none => .u
  | .const v => cst v
  | .func f => .c (.fn f [])
  | .global _ => .u

theorem cstC_rep {w : World} {κ : Con} {h : List (Nat × Ent)} {v : Value} {x : CV} (hc : cstC v = some x) : CVRep w κ h x v := by
  unfold cstC at hc
  split at hc <;> simp at hc <;> subst hc
  · exact .int _ _
  · exact .bool _
  · exact .str _
  · rfl

theorem mapM_some {α β : Type} {f : α → Option β} : ∀ {l : List α} {r : List β}, l.mapM f = some r → r.length = l.length ∧ ∀ (j : Nat) (x : α) (y : β), l[j]? = some x → r[j]? = some y → f x = some y
  | [], r, h => by simp at h; subst h; simp
  | a :: l, r, h => by
    simp only [List.mapM_cons, bind, Option.bind_eq_some_iff, pure, Option.some.injEq] at h
    obtain ⟨b, hb, bs, hbs, rfl⟩ := h
    obtain ⟨h1, h2⟩ := mapM_some hbs
    refine ⟨by simp [h1], fun j x y hx hy => ?_⟩
    cases j with
    | zero => simp at hx hy; subst hx; subst hy; exact hb
    | succ j => exact h2 j x y (by simpa using hx) (by simpa using hy)

theorem cst_rep {w : World} {κ : Con} {h : List (Nat × Ent)} (v : Value) : AVRep w κ h (cst v) v := by
  unfold cst
  split
  · rename_i cs
    split
    · rename_i l hl
      obtain ⟨h1, h2⟩ := mapM_some hl
      exact ⟨cs.toList, by simp, by simp [h1], fun j c u hc hu => cstC_rep (h2 j u c hu hc)⟩
    · trivial
  · split
    · rename_i x hx
      exact cstC_rep hx
    · trivial

theorem evO_rep {F0 L : Nat → Prop} {w0 w : World} {st : St} {a : Act} {κ : Con} (hr : RepK F0 L w0 st a w κ) (x : Operand) : AVRep w κ st.h (evO st x) (a.eval x) := by
  cases x with
  | tmp t =>
    simp only [evO, Act.eval]
    cases hl : look st.t t with
    | none => trivial
    | some av =>
      obtain ⟨v, hv, hav⟩ := hr.tmps t av hl
      have hb : AVRep w κ st.h av.bare v := by
        cases av with
        | w x u => exact hav.2
        | _ => exact hav
      simpa [Array.getD_eq_getD_getElem?, hv] using hb
  | const v => exact cst_rep v
  | global g => trivial
  | func f => exact ⟨fun p hp => (by cases hp), rfl⟩

end Go.H
