/- Library, part NL: the bound at a node, the program's. -/
import Derived.Test.YtdolkacinfjhcaaGreatLNK
set_option maxRecDepth 100000
set_option linter.unusedSimpArgs false
set_option linter.unusedVariables false
namespace Go.H.S
open Go Go.Proofs Go.H
attribute [local irreducible] Tri FnSpec FnSpecM FnSpecX FnSpecJ
end Go.H.S
