/- Framework H, part 28: regions that draw their order, one step at a time (the walk stops at each operation). -/
import Derived.Test.YtbclkplebkencaaH27
namespace Go.H
set_option linter.unusedSimpArgs false
set_option linter.unusedVariables false
set_option linter.constructorNameAsVariable false
open Go.RowKit

def pickO (ops : List Oper) : List Nat → Option (List (Nat × Oper))
  | [] => some []
  | i :: r => match ops[i]? with
    | some o => (match o.guard with
      | none => (match pickO ops r with | some l => some ((i, o) :: l) | none => none)
      | some _ => none)
    | none => none
/-- What comes next: a move alone, or each that may. -/
def nextE (ops : List Oper) (done : List Nat) : Option (List (Nat × Oper)) :=
  match rdy done ops 0 with
  | [] => none
  | l => match firstB (earlyB ops) l with
    | some i => (match ops[i]? with | some o => some [(i, o)] | none => none)
    | none => pickO ops l
def endB (ops : List Oper) (done : List Nat) : Bool := match rdy done ops 0 with | [] => true | _ => false
/-- Every order, moves first; not unfolded by the walk. -/
structure anyV (P : Program) (T : TypeId → Option TI) (ops : List Oper) (K : St → Prop) (fuel : Nat) (done : List Nat) (st : St) : Prop where
  out : anyE P T ops K fuel done st
theorem anyV_eq (P : Program) (T : TypeId → Option TI) (ops : List Oper) (K : St → Prop) (fuel : Nat) (done : List Nat) : anyV P T ops K fuel done = anyE P T ops K fuel done := funext fun st => propext ⟨fun h => h.out, fun h => ⟨h⟩⟩

section
variable {P : Program} {T : TypeId → Option TI} {st : St} {ops : List Oper} {K : St → Prop} {fuel : Nat} {done : List Nat}

theorem pickO_spec {f : Nat → Oper → Prop} : ∀ {l : List Nat} {m : List (Nat × Oper)}, pickO ops l = some m → (∀ x ∈ m, f x.1 x.2) →
    ∀ i ∈ l, match ops[i]? with | some o => (match o.guard with | none => f i o | some _ => False) | none => False
  | [], m, h, hm, i, hi => by cases hi
  | k :: r, m, h, hm, i, hi => by
    simp only [pickO] at h
    split at h
    · rename_i o ho
      split at h
      · rename_i hg
        split at h
        · rename_i l' hl'
          cases h
          rcases List.mem_cons.1 hi with rfl | hi
          · simp only [ho, hg]; exact hm (i, o) (by simp)
          · exact pickO_spec hl' (fun x hx => hm x (by simp [hx])) i hi
        · cases h
      · cases h
    · cases h
theorem eachP_intro {f : Nat → Prop} : ∀ {l : List Nat}, (∀ i ∈ l, f i) → eachP f l
  | [], _ => trivial
  | [k], h => h k (by simp)
  | k :: k' :: r, h => ⟨h k (by simp), eachP_intro (l := k' :: r) fun i hi => h i (by simp at hi ⊢; exact .inr hi)⟩
theorem anyV_next {l : List (Nat × Oper)} (h : nextE ops done = some l) (hl : ∀ x ∈ l, opWp P T st x.2 (anyV P T ops K fuel (x.1 :: done))) : anyV P T ops K (fuel + 1) done st := by
  refine ⟨?_⟩
  simp only [anyV_eq] at hl
  unfold anyE
  unfold nextE at h
  split at h
  · cases h
  · rename_i hne
    split
    · rename_i h0; exact absurd h0 hne
    · split at h
      · rename_i i hi
        simp only [hi]
        split at h
        · rename_i o ho
          cases h
          simp only [ho]
          exact hl (i, o) (by simp)
        · cases h
      · rename_i hi
        simp only [hi]
        refine eachP_intro fun i him => ?_
        have := pickO_spec (f := fun i o => opWp P T st o (anyE P T ops K fuel (i :: done))) h hl i him
        exact this
theorem anyV_one {i : Nat} {o : Oper} (h : nextE ops done = some [(i, o)]) (h1 : opWp P T st o (anyV P T ops K fuel (i :: done))) : anyV P T ops K (fuel + 1) done st :=
  anyV_next h fun x hx => by simp at hx; subst hx; exact h1
theorem anyV_two {i j : Nat} {o p : Oper} (h : nextE ops done = some [(i, o), (j, p)]) (h1 : opWp P T st o (anyV P T ops K fuel (i :: done))) (h2 : opWp P T st p (anyV P T ops K fuel (j :: done))) : anyV P T ops K (fuel + 1) done st :=
  anyV_next h fun x hx => by
    simp at hx
    rcases hx with rfl | rfl
    · exact h1
    · exact h2
theorem anyV_three {i j k : Nat} {o p q : Oper} (h : nextE ops done = some [(i, o), (j, p), (k, q)]) (h1 : opWp P T st o (anyV P T ops K fuel (i :: done))) (h2 : opWp P T st p (anyV P T ops K fuel (j :: done)))
    (h3 : opWp P T st q (anyV P T ops K fuel (k :: done))) : anyV P T ops K (fuel + 1) done st :=
  anyV_next h fun x hx => by
    simp at hx
    rcases hx with rfl | rfl | rfl
    · exact h1
    · exact h2
    · exact h3
theorem anyV_end (h : endB ops done = true) (hK : K st) : anyV P T ops K fuel done st := by
  unfold endB at h
  split at h
  · rename_i h0
    refine ⟨?_⟩
    cases fuel <;> (unfold anyE; simp only [h0]; exact hK)
  · cases h
end
section
variable {P : Program} {T : TypeId → Option TI} {st : St} {ops : Array Oper}
/-- A region that draws its order: each order leads to the state stM. -/
theorem tri_every (hT : TOk P T) (hm : P.follows .mixedOrders = true) {id : Nat} {Q : Exit → St → Prop} (keep : List Nat) (stM : St) (hB : onB ops.toList.length ops.toList = true)
    (h : anyV P T ops.toList (fun st' => canonQ keep st' stM) ops.toList.length [] st) (hQ : Q .normal stM) : Tri P (.region id ops true) st Q := by
  exact tri_each hT hm keep stM hB h.out hQ
/-- A region that draws its order: each order leads to one of the states stM y. -/
theorem tri_everyX (hT : TOk P T) (hm : P.follows .mixedOrders = true) {id : Nat} {Q : Exit → St → Prop} (keep : List Nat) {Y : Type} (R : Y → Prop) (stM : Y → St) (hB : onB ops.toList.length ops.toList = true)
    (h : anyV P T ops.toList (fun st' => ∃ y, R y ∧ canonQ keep st' (stM y)) ops.toList.length [] st) (hQ : ∀ y, R y → Q .normal (stM y)) : Tri P (.region id ops true) st Q := by
  exact tri_eachX hT hm keep R stM hB h.out hQ
theorem tri_canon {c : Code} {Q : Exit → St → Prop} (keep : List Nat) (stM : St) (h : canonQ keep st stM) (h2 : Tri P c stM Q) : Tri P c st Q := by
  unfold Tri at h2 ⊢
  intro F0 L w0 a w hr
  exact h2 F0 L w0 a w (canonQ_spec h hr)
end
end Go.H
