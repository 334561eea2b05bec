/- Framework H, part 16c: is a slice nil. -/
import Derived.Test.YtbclkplebkencaaH16b
namespace Go.H
set_option linter.unusedSimpArgs false
set_option linter.unusedVariables false
open Go.RowKit

section
variable {P : Program} {T : TypeId → Option TI} {F0 L : Nat → Prop} {w0 w w' : World} {st : St} {a : Act} {κ κ' : Con} {hh : List (Nat × Ent)}

/-- A test against nil: some true: is it; some false: is it not. -/
def nilTest (op : BinOp) (y : AV) : Option Bool :=
  match op, y with
  | .eql, .c (.nl _) => some true
  | .neq, .c (.nl _) => some false
  | _, _ => none
def nilB (q b : Bool) : Bool := match q with | true => b | false => match b with | true => false | false => true
def nilOp (q : Bool) : BinOp := match q with | true => .eql | false => .neq
def nilWp (T : TypeId → Option TI) (st : St) (t : TypeId) (q : Bool) (x : AV) (dst : Option Tmp) (K : St → Prop) : Prop :=
  match T t with
  | some ti => match ti.k with
    | .slice _ => match x with
      | .c (.d (.sl _ es)) => ∀ b : Bool, (b = true → es = []) → setT st dst (.c (.d (.bool (nilB q b)))) K
      | .c (.nl _) => setT st dst (.c (.d (.bool (nilB q true)))) K
      | _ => False
    | _ => False
  | none => False

theorem run_nil_eq (w : World) (t e : TypeId) (b : Option Addr) (n c : Nat) (h : P.underlying t = some (.slice e)) (q : Bool) :
    (binOp (nilOp q) t (.slice b n c) (.slice none 0 0)).run P w = .ok (.bool (nilB q b.isNone)) w := by
  have h1 : ∀ d : Nat, (Op.equalIn (d + 1) t (.slice b n c) (.slice none 0 0)).run P w = .ok b.isNone w := fun d => by cases b <;> simp [Op.equalIn, run_underlying h]
  cases q
  · simp only [binOp, nilOp]
    simp [Op.equal, Op.maxDepth, h1 9999, nilB]
    cases b <;> rfl
  · simp only [binOp, nilOp]
    simp [Op.equal, Op.maxDepth, h1 9999, nilB]

theorem nil_tri (hT : TOk P T) {o : Oper} {op : BinOp} {t : TypeId} {x y : Operand} {ty : TypeId} (ho : o.op = .binOp op t x y ty) {q : Bool} (hq : nilTest op (evO st y) = some q) {K : St → Prop} (h : nilWp T st t q (evO st x) o.dst K) : OpTri P o st K := by
  have hop : op = nilOp q ∧ ∃ z, evO st y = .c (.nl z) := by
    generalize evO st y = yy at hq
    unfold nilTest at hq
    split at hq
    · cases hq; exact ⟨rfl, _, rfl⟩
    · cases hq; exact ⟨rfl, _, rfl⟩
    · cases hq
  obtain ⟨rfl, z, hy⟩ := hop
  unfold nilWp at h
  split at h
  · rename_i ti hti
    have hk := (hT _ _ hti).k
    split at h
    · rename_i e hke
      rw [hke] at hk
      have hk' : P.underlying t = some (.slice e) := hk
      have hexec : ∀ (a : Act) (w : World) (b : Option Addr) (n c : Nat), a.eval x = .slice b n c → a.eval y = .slice none 0 0 → (execOp a.eval o).run P w = .ok (.value (.bool (nilB q b.isNone))) w := fun a w b n c hx hy => by
        have := run_nil_eq (P := P) w t e b n c hk' q
        cases q <;> simp_all [execOp, eqGuard, nilOp]
      split at h
      · rename_i sz es hx
        refine opTri_value fun F0 L w0 a w κ hr => ?_
        have hx' := evO_rep hr x
        rw [hx] at hx'
        have hy' := evO_rep hr y
        rw [hy] at hy'
        have hy2 : a.eval y = .slice none 0 0 := hy'
        generalize hv : a.eval x = v at hx'
        cases hx' with
        | sl A len cap sz es val hl hc he ha hrd hs =>
          have hb : A.isNone = true → es = [] := fun hn => by
            rcases Decidable.em (es = []) with g | g
            · exact g
            · obtain ⟨B, hB, _⟩ := ha g
              rw [hB] at hn; cases hn
          obtain ⟨st', k1, k2⟩ := setT_sound (h _ hb) hr (v := .bool (nilB q A.isNone)) (.bool _)
          exact ⟨_, w, hexec a w A len cap hv hy2, st', κ, k1, k2⟩
      · rename_i z' hx
        refine opTri_value fun F0 L w0 a w κ hr => ?_
        have hx' := evO_rep hr x
        rw [hx] at hx'
        have hx2 : a.eval x = .slice none 0 0 := hx'
        have hy' := evO_rep hr y
        rw [hy] at hy'
        have hy2 : a.eval y = .slice none 0 0 := hy'
        obtain ⟨st', k1, k2⟩ := setT_sound h hr (v := .bool (nilB q true)) (.bool _)
        exact ⟨_, w, hexec a w none 0 0 hx2 hy2, st', κ, k1, k2⟩
      · exact h.elim
    · exact h.elim
  · exact h.elim

end
end Go.H
