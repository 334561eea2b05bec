/- Library, part F: spans, signs. -/
import Derived.Test.YtbclkplebkencaaLE
import Derived.Test.YtbclkplebkencaaLT
namespace Go.H.S
open Go Go.Proofs Go.H
attribute [local irreducible] Tri FnSpec FnSpecM
set_option maxRecDepth 100000
set_option linter.unusedSimpArgs false
set_option linter.unusedVariables false


def vAt (t : List Nd) (x : Int) : Int := match t[x.toNat]? with | some n => n.v | none => 0
def spanStep (t : List Nd) (node : Int) (acc : Int × Int × Bool) (i : Int) : Int × Int × Bool :=
  if node ∈ wayL t i then (if acc.2.2 then (min acc.1 (vAt t i), max acc.2.1 (vAt t i), true) else (vAt t i, vAt t i, true)) else acc
def spanL (t : List Nd) (node : Int) : Int × Int × Bool := (leavesK t 0).foldl (spanStep t node) (0, 0, false)
def badN (t : List Nd) (f sign : Int) (n : Nd) : Bool :=
  isF f n && ((spanL t n.l).2.2 && (spanL t n.r).2.2 && ((decide (sign = 1) && decide ((spanL t n.r).1 < (spanL t n.l).2.1)) || (decide (sign = -1) && decide ((spanL t n.l).1 < (spanL t n.r).2.1))))
def followsL (t : List Nd) (f sign : Int) : Bool := t.all fun n => !badN t f sign n
abbrev tup3 (x : Int × Int × Bool) : AV := .tup [(false, [.d (.int .i64 x.1)]), (false, [.d (.int .i64 x.2.1)]), (false, [.d (.bool x.2.2)])]
end Go.H.S
namespace Go.H.S
open Go Go.Proofs Go.H
attribute [local irreducible] Tri FnSpec FnSpecM
set_option maxRecDepth 100000
set_option linter.unusedSimpArgs false
set_option linter.unusedVariables false


theorem cost_len {α : Type} (f : α → Nat) (l : List α) : l.length ≤ cost f l := by rw [cost_eq]; omega
theorem cost_costL {α : Type} (f : α → Nat) (l : List α) : costL f l ≤ cost f l := by rw [cost_eq]; omega
theorem model_small {m : Mdl} (h : costModel m ≤ 1048576) : smModel m ∧ m.trees.length ≤ 1048576 ∧ costL List.length m.trees ≤ 1048576 := by
  unfold costModel at h
  have h1 := cost_len ByteArray.size m.names
  have h2 := cost_len costTree m.trees
  have h3 := cost_costL costTree m.trees
  rw [costTree_len] at h3
  refine ⟨⟨by omega, by omega, by omega, fun s hs => ?_⟩, by omega, by omega⟩
  have := costL_mem List.length hs
  omega
theorem bud_ok {c : Nat} (h : 0 ≤ bud 1048576 c) : c ≤ 1048576 := by have := (bud_pos h).1; omega
end Go.H.S
