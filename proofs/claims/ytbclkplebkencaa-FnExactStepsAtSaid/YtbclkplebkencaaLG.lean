/- Library, part G: the first laws. -/
import Derived.Test.YtbclkplebkencaaLF
import Derived.Test.YtbclkplebkencaaLT
namespace Go.H.S
open Go Go.Proofs Go.H
attribute [local irreducible] Tri FnSpec FnSpecM
set_option maxRecDepth 100000
set_option linter.unusedSimpArgs false
set_option linter.unusedVariables false


theorem cost_len {α : Type} (f : α → Nat) (l : List α) : l.length ≤ cost f l := by rw [cost_eq]; omega
theorem cost_costL {α : Type} (f : α → Nat) (l : List α) : costL f l ≤ cost f l := by rw [cost_eq]; omega
theorem model_small {m : Mdl} (h : costModel m ≤ 1048576) : smModel m ∧ m.trees.length ≤ 1048576 ∧ costL List.length m.trees ≤ 1048576 := by
  unfold costModel at h
  have h1 := cost_len ByteArray.size m.names
  have h2 := cost_len costTree m.trees
  have h3 := cost_costL costTree m.trees
  rw [costTree_len] at h3
  refine ⟨⟨by omega, by omega, by omega, fun s hs => ?_⟩, by omega, by omega⟩
  have := costL_mem List.length hs
  omega
theorem bud_ok {c : Nat} (h : 0 ≤ bud 1048576 c) : c ≤ 1048576 := by have := (bud_pos h).1; omega
end Go.H.S
