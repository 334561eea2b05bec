/- Framework H, part 22: regions that draw their order. -/
import Derived.Test.YtdolkacinfjhcaaGreatH21
import Derived.Deep.Quiet
set_option linter.unusedSimpArgs false
set_option linter.unusedVariables false
set_option linter.constructorNameAsVariable false
namespace Go.H
open Go.RowKit
section
variable {P : Program} {T : TypeId → Option TI} {F0 L : Nat → Prop} {w0 w w' : World} {st : St} {a : Act} {κ κ' : Con} {hh : List (Nat × Ent)}
theorem Rep.drew (h : Rep F0 L w0 st a w) : Rep F0 L w0 st a { w with drawn := w.drawn + 1 } := let ⟨κ, h⟩ := h; ⟨κ, h.grew (Grew.drew w)⟩
end
end Go.H
