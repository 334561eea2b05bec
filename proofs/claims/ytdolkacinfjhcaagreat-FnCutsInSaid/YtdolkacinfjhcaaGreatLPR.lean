/- Library, part PR: GrowTree: contracts. -/
import Derived.Test.YtdolkacinfjhcaaGreatLPQ
set_option maxRecDepth 100000
set_option linter.unusedSimpArgs false
set_option linter.unusedVariables false
namespace Go.H.S
open Go Go.Proofs Go.H
attribute [local irreducible] Tri FnSpec FnSpecM FnSpecX FnSpecJ FnSpecB hiU loU
abbrev tupTk : AV := .tup [(true, [.ref 0 0 none]), (false, [.d (.bool true)])]
theorem eL_two {α : Type} (f : α → List D) (l : List α) (a b : α) : eL f (l ++ [a, b]) = dApp (eL f l) [f a, f b] := by simp [dApp_eq, eL]
end Go.H.S
