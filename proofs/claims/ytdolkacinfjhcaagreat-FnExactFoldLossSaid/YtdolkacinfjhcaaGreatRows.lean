/-
  No cell of these rows narrows 'for every input' (looked for: loops, veiled, ifaces, maps, wideKeys, modest, calm, conditions, laid).
  DERIVED. THE GIVEN ROWS OF THIS SEAT. 11 by the template 'for every input the law returns true; each argument reads behind the call as it read before'; 0 by the template 'total and deterministic' (their statements: YtdolkacinfjhcaaGreatTotals.lean).
  GIVEN WITH THE SEED: the statements are not yours to turn. If you find one false, say at which input.
  Laid BY PROGRAM, IN A SANDBOX (cutbox-rows.mjs): the forced cells as the released guide's own fill.sh prints them over the translation e015c28f9b2b5f43… (all of the seat's roots in one cut). By AI agents, Wed Nov 11 2026. No macro, syntax, notation, axiom, sorry.
-/
import Derived.Test.YtdolkacinfjhcaaGreatChecked
import GoSem.Claim
import GoSem.ClaimJoined
import GoSem.ClaimMapViews
import Derived.JoinedTies
import Derived.KernelRfl
namespace Go.Proofs.YtdolkacinfjhcaaGreat
/- THE CELL 'sum', in the pinned program and in every row, IS THE sha256 OF THE DUMP (.gsa) THAT YtdolkacinfjhcaaGreatProg.lean LOADS. Nothing in Lean hashes anything: it is a label: what it is worth is what the hold of that sum in a sandbox is worth. -/
noncomputable def Tryz.pinned : Pinned := { name := "ytdolkacinfjhcaagreat", sum := "e015c28f9b2b5f43a6d7c41cdb1321fc9b230da7425f37bf715ddfe93217edcb", checked := Tryz.checked }
namespace Rows
def none {H : Type} : Left H := { results := [], args := [] }

/-- 'laws.FnExactBestAt': WHATEVER THE INPUT: true; the input reads as it did. -/
def fnExactBestAtSpec : ChangeSpec := { name := "fnExactBestAt", fn := fun _ => fun
  | [d1, d2, d3, d4, d5] => { results := [.lit (.bool true)], args := [d1, d2, d3, d4, d5] }
  | _ => none }
def fnExactBestAtRow : OpenClaim := { program := "ytdolkacinfjhcaagreat", sum := "e015c28f9b2b5f43a6d7c41cdb1321fc9b230da7425f37bf715ddfe93217edcb", func := "loop.example/g00500/laws.FnExactBestAt", spec := "fnExactBestAt", inPlace := ["math/bits.Add64", "math/bits.Sub64"], unfollowed := true, recurses := true, apart := false }
def FnExactBestAtSaid : Prop := fnExactBestAtRow.holds Tryz.pinned (OpenSpec.ofChange fnExactBestAtSpec)

/-- ITS FALSE NEIGHBOUR: 'it returns false'. Refute it at one input. -/
def fnExactBestAtWrong : ChangeSpec := { name := "fnExactBestAt", fn := fun _ => fun
  | [d1, d2, d3, d4, d5] => { results := [.lit (.bool false)], args := [d1, d2, d3, d4, d5] }
  | _ => none }
def FnExactBestAtWrongFalsely : Prop := fnExactBestAtRow.holds Tryz.pinned (OpenSpec.ofChange fnExactBestAtWrong)

/-- 'laws.FnExactAllBest': WHATEVER THE INPUT: true; the input reads as it did. -/
def fnExactAllBestSpec : ChangeSpec := { name := "fnExactAllBest", fn := fun _ => fun
  | [d1, d2, d3, d4] => { results := [.lit (.bool true)], args := [d1, d2, d3, d4] }
  | _ => none }
def fnExactAllBestRow : OpenClaim := { program := "ytdolkacinfjhcaagreat", sum := "e015c28f9b2b5f43a6d7c41cdb1321fc9b230da7425f37bf715ddfe93217edcb", func := "loop.example/g00500/laws.FnExactAllBest", spec := "fnExactAllBest", inPlace := ["math/bits.Add64", "math/bits.Sub64"], unfollowed := true, recurses := true, apart := false }
def FnExactAllBestSaid : Prop := fnExactAllBestRow.holds Tryz.pinned (OpenSpec.ofChange fnExactAllBestSpec)

/-- ITS FALSE NEIGHBOUR: 'it returns false'. Refute it at one input. -/
def fnExactAllBestWrong : ChangeSpec := { name := "fnExactAllBest", fn := fun _ => fun
  | [d1, d2, d3, d4] => { results := [.lit (.bool false)], args := [d1, d2, d3, d4] }
  | _ => none }
def FnExactAllBestWrongFalsely : Prop := fnExactAllBestRow.holds Tryz.pinned (OpenSpec.ofChange fnExactAllBestWrong)

/-- 'laws.FnGrown': WHATEVER THE INPUT: true; the input reads as it did. -/
def fnGrownSpec : ChangeSpec := { name := "fnGrown", fn := fun _ => fun
  | [d] => { results := [.lit (.bool true)], args := [d] }
  | _ => none }
def fnGrownRow : OpenClaim := { program := "ytdolkacinfjhcaagreat", sum := "e015c28f9b2b5f43a6d7c41cdb1321fc9b230da7425f37bf715ddfe93217edcb", func := "loop.example/g00500/laws.FnGrown", spec := "fnGrown", inPlace := ["math/bits.Add64", "math/bits.Sub64"], unfollowed := true, recurses := true, apart := false }
def FnGrownSaid : Prop := fnGrownRow.holds Tryz.pinned (OpenSpec.ofChange fnGrownSpec)

/-- ITS FALSE NEIGHBOUR: 'it returns false'. Refute it at one input. -/
def fnGrownWrong : ChangeSpec := { name := "fnGrown", fn := fun _ => fun
  | [d] => { results := [.lit (.bool false)], args := [d] }
  | _ => none }
def FnGrownWrongFalsely : Prop := fnGrownRow.holds Tryz.pinned (OpenSpec.ofChange fnGrownWrong)

/-- 'laws.FnBestAt': WHATEVER THE INPUT: true; the input reads as it did. -/
def fnBestAtSpec : ChangeSpec := { name := "fnBestAt", fn := fun _ => fun
  | [d] => { results := [.lit (.bool true)], args := [d] }
  | _ => none }
def fnBestAtRow : OpenClaim := { program := "ytdolkacinfjhcaagreat", sum := "e015c28f9b2b5f43a6d7c41cdb1321fc9b230da7425f37bf715ddfe93217edcb", func := "loop.example/g00500/laws.FnBestAt", spec := "fnBestAt", inPlace := ["math/bits.Add64", "math/bits.Sub64"], unfollowed := true, recurses := true, apart := false }
def FnBestAtSaid : Prop := fnBestAtRow.holds Tryz.pinned (OpenSpec.ofChange fnBestAtSpec)

/-- ITS FALSE NEIGHBOUR: 'it returns false'. Refute it at one input. -/
def fnBestAtWrong : ChangeSpec := { name := "fnBestAt", fn := fun _ => fun
  | [d] => { results := [.lit (.bool false)], args := [d] }
  | _ => none }
def FnBestAtWrongFalsely : Prop := fnBestAtRow.holds Tryz.pinned (OpenSpec.ofChange fnBestAtWrong)

/-- 'laws.FnAllBest': WHATEVER THE INPUT: true; the input reads as it did. -/
def fnAllBestSpec : ChangeSpec := { name := "fnAllBest", fn := fun _ => fun
  | [d] => { results := [.lit (.bool true)], args := [d] }
  | _ => none }
def fnAllBestRow : OpenClaim := { program := "ytdolkacinfjhcaagreat", sum := "e015c28f9b2b5f43a6d7c41cdb1321fc9b230da7425f37bf715ddfe93217edcb", func := "loop.example/g00500/laws.FnAllBest", spec := "fnAllBest", inPlace := ["math/bits.Add64", "math/bits.Sub64"], unfollowed := true, recurses := true, apart := false }
def FnAllBestSaid : Prop := fnAllBestRow.holds Tryz.pinned (OpenSpec.ofChange fnAllBestSpec)

/-- ITS FALSE NEIGHBOUR: 'it returns false'. Refute it at one input. -/
def fnAllBestWrong : ChangeSpec := { name := "fnAllBest", fn := fun _ => fun
  | [d] => { results := [.lit (.bool false)], args := [d] }
  | _ => none }
def FnAllBestWrongFalsely : Prop := fnAllBestRow.holds Tryz.pinned (OpenSpec.ofChange fnAllBestWrong)

/-- 'laws.FnExactStageLoss': WHATEVER THE INPUT: true; the input reads as it did. -/
def fnExactStageLossSpec : ChangeSpec := { name := "fnExactStageLoss", fn := fun _ => fun
  | [d1, d2] => { results := [.lit (.bool true)], args := [d1, d2] }
  | _ => none }
def fnExactStageLossRow : OpenClaim := { program := "ytdolkacinfjhcaagreat", sum := "e015c28f9b2b5f43a6d7c41cdb1321fc9b230da7425f37bf715ddfe93217edcb", func := "loop.example/g00500/laws.FnExactStageLoss", spec := "fnExactStageLoss", inPlace := ["math/bits.Add64", "math/bits.Sub64"], unfollowed := true, recurses := true, apart := false }
def FnExactStageLossSaid : Prop := fnExactStageLossRow.holds Tryz.pinned (OpenSpec.ofChange fnExactStageLossSpec)

/-- ITS FALSE NEIGHBOUR: 'it returns false'. Refute it at one input. -/
def fnExactStageLossWrong : ChangeSpec := { name := "fnExactStageLoss", fn := fun _ => fun
  | [d1, d2] => { results := [.lit (.bool false)], args := [d1, d2] }
  | _ => none }
def FnExactStageLossWrongFalsely : Prop := fnExactStageLossRow.holds Tryz.pinned (OpenSpec.ofChange fnExactStageLossWrong)

/-- 'laws.FnExactTrainModel': WHATEVER THE INPUT: true; the input reads as it did. -/
def fnExactTrainModelSpec : ChangeSpec := { name := "fnExactTrainModel", fn := fun _ => fun
  | [d1, d2] => { results := [.lit (.bool true)], args := [d1, d2] }
  | _ => none }
def fnExactTrainModelRow : OpenClaim := { program := "ytdolkacinfjhcaagreat", sum := "e015c28f9b2b5f43a6d7c41cdb1321fc9b230da7425f37bf715ddfe93217edcb", func := "loop.example/g00500/laws.FnExactTrainModel", spec := "fnExactTrainModel", inPlace := ["math/bits.Add64", "math/bits.Sub64"], unfollowed := true, recurses := true, apart := false }
def FnExactTrainModelSaid : Prop := fnExactTrainModelRow.holds Tryz.pinned (OpenSpec.ofChange fnExactTrainModelSpec)

/-- ITS FALSE NEIGHBOUR: 'it returns false'. Refute it at one input. -/
def fnExactTrainModelWrong : ChangeSpec := { name := "fnExactTrainModel", fn := fun _ => fun
  | [d1, d2] => { results := [.lit (.bool false)], args := [d1, d2] }
  | _ => none }
def FnExactTrainModelWrongFalsely : Prop := fnExactTrainModelRow.holds Tryz.pinned (OpenSpec.ofChange fnExactTrainModelWrong)

/-- 'laws.FnExactFoldLoss': WHATEVER THE INPUT: true; the input reads as it did. -/
def fnExactFoldLossSpec : ChangeSpec := { name := "fnExactFoldLoss", fn := fun _ => fun
  | [d1, d2, d3] => { results := [.lit (.bool true)], args := [d1, d2, d3] }
  | _ => none }
def fnExactFoldLossRow : OpenClaim := { program := "ytdolkacinfjhcaagreat", sum := "e015c28f9b2b5f43a6d7c41cdb1321fc9b230da7425f37bf715ddfe93217edcb", func := "loop.example/g00500/laws.FnExactFoldLoss", spec := "fnExactFoldLoss", inPlace := ["math/bits.Add64", "math/bits.Sub64"], unfollowed := true, recurses := true, apart := false }
def FnExactFoldLossSaid : Prop := fnExactFoldLossRow.holds Tryz.pinned (OpenSpec.ofChange fnExactFoldLossSpec)

/-- ITS FALSE NEIGHBOUR: 'it returns false'. Refute it at one input. -/
def fnExactFoldLossWrong : ChangeSpec := { name := "fnExactFoldLoss", fn := fun _ => fun
  | [d1, d2, d3] => { results := [.lit (.bool false)], args := [d1, d2, d3] }
  | _ => none }
def FnExactFoldLossWrongFalsely : Prop := fnExactFoldLossRow.holds Tryz.pinned (OpenSpec.ofChange fnExactFoldLossWrong)

/-- 'laws.FnLossFalls': WHATEVER THE INPUT: true; the input reads as it did. -/
def fnLossFallsSpec : ChangeSpec := { name := "fnLossFalls", fn := fun _ => fun
  | [d] => { results := [.lit (.bool true)], args := [d] }
  | _ => none }
def fnLossFallsRow : OpenClaim := { program := "ytdolkacinfjhcaagreat", sum := "e015c28f9b2b5f43a6d7c41cdb1321fc9b230da7425f37bf715ddfe93217edcb", func := "loop.example/g00500/laws.FnLossFalls", spec := "fnLossFalls", inPlace := ["math/bits.Add64", "math/bits.Sub64"], unfollowed := true, recurses := true, apart := false }
def FnLossFallsSaid : Prop := fnLossFallsRow.holds Tryz.pinned (OpenSpec.ofChange fnLossFallsSpec)

/-- ITS FALSE NEIGHBOUR: 'it returns false'. Refute it at one input. -/
def fnLossFallsWrong : ChangeSpec := { name := "fnLossFalls", fn := fun _ => fun
  | [d] => { results := [.lit (.bool false)], args := [d] }
  | _ => none }
def FnLossFallsWrongFalsely : Prop := fnLossFallsRow.holds Tryz.pinned (OpenSpec.ofChange fnLossFallsWrong)

/-- 'laws.FnNodeRows': WHATEVER THE INPUT: true; the input reads as it did. -/
def fnNodeRowsSpec : ChangeSpec := { name := "fnNodeRows", fn := fun _ => fun
  | [d] => { results := [.lit (.bool true)], args := [d] }
  | _ => none }
def fnNodeRowsRow : OpenClaim := { program := "ytdolkacinfjhcaagreat", sum := "e015c28f9b2b5f43a6d7c41cdb1321fc9b230da7425f37bf715ddfe93217edcb", func := "loop.example/g00500/laws.FnNodeRows", spec := "fnNodeRows", inPlace := ["math/bits.Add64", "math/bits.Sub64"], unfollowed := true, recurses := true, apart := false }
def FnNodeRowsSaid : Prop := fnNodeRowsRow.holds Tryz.pinned (OpenSpec.ofChange fnNodeRowsSpec)

/-- ITS FALSE NEIGHBOUR: 'it returns false'. Refute it at one input. -/
def fnNodeRowsWrong : ChangeSpec := { name := "fnNodeRows", fn := fun _ => fun
  | [d] => { results := [.lit (.bool false)], args := [d] }
  | _ => none }
def FnNodeRowsWrongFalsely : Prop := fnNodeRowsRow.holds Tryz.pinned (OpenSpec.ofChange fnNodeRowsWrong)

/-- 'laws.FnCutsIn': WHATEVER THE INPUT: true; the input reads as it did. -/
def fnCutsInSpec : ChangeSpec := { name := "fnCutsIn", fn := fun _ => fun
  | [d] => { results := [.lit (.bool true)], args := [d] }
  | _ => none }
def fnCutsInRow : OpenClaim := { program := "ytdolkacinfjhcaagreat", sum := "e015c28f9b2b5f43a6d7c41cdb1321fc9b230da7425f37bf715ddfe93217edcb", func := "loop.example/g00500/laws.FnCutsIn", spec := "fnCutsIn", recurses := true, apart := false }
def FnCutsInSaid : Prop := fnCutsInRow.holds Tryz.pinned (OpenSpec.ofChange fnCutsInSpec)

/-- ITS FALSE NEIGHBOUR: 'it returns false'. Refute it at one input. -/
def fnCutsInWrong : ChangeSpec := { name := "fnCutsIn", fn := fun _ => fun
  | [d] => { results := [.lit (.bool false)], args := [d] }
  | _ => none }
def FnCutsInWrongFalsely : Prop := fnCutsInRow.holds Tryz.pinned (OpenSpec.ofChange fnCutsInWrong)

/- THE SECOND FORM. 'bulk': how many values and letters a reading holds, each counted each time it is reached (what is shared counts as often as it is met; a slice's spare places count too). A statement '..UptoSaid' is the law's where the arguments, and the package variables that the reading takes, are together of bulk at most 1048576: NARROWER than '..Said'. Prove '..Said' where nothing that the law and all that it calls make is longer than what came in: it says more and counts as full. Else prove '..UptoSaid'. A law counts once. -/
mutual
def uptoBulk {H : Type} : DataW H → Nat
  | .lit (.string bytes) => bytes.length + 1
  | .lit _ => 1
  | .nil => 1
  | .ptr d => uptoBulk d + 1
  | .slice elems spare => uptoBulkAll elems + uptoBulkAll spare + 1
  | .agg parts => uptoBulkAll parts + 1
  | .iface _ d => uptoBulk d + 1
  | .map entries => uptoBulkEntries entries + 1
  | .held _ => 1
def uptoBulkAll {H : Type} : List (DataW H) → Nat
  | [] => 0
  | d :: r => uptoBulk d + uptoBulkAll r
def uptoBulkEntries {H : Type} : List (Lit × DataW H) → Nat
  | [] => 0
  | x :: r => uptoBulkEntry x + uptoBulkEntries r
def uptoBulkEntry {H : Type} : Lit × DataW H → Nat
  | (.string bytes, d) => bytes.length + uptoBulk d + 1
  | (_, d) => uptoBulk d + 1
 end
def uptoSmall : (H : Type) → List (DataW H) → Bool := fun _ ds => decide (uptoBulkAll ds ≤ 1048576)
def OpenSpec.upto (s : _root_.Go.ChangeSpec) : _root_.Go.OpenSpec := { _root_.Go.OpenSpec.ofChange s with cond := some uptoSmall }

/-- 'laws.FnExactBestAt', WHERE WHAT IT READS IS OF BULK AT MOST 1048576: true; the input reads as it did. -/
def fnExactBestAtUptoRow : OpenClaim := { program := "ytdolkacinfjhcaagreat", sum := "e015c28f9b2b5f43a6d7c41cdb1321fc9b230da7425f37bf715ddfe93217edcb", func := "loop.example/g00500/laws.FnExactBestAt", spec := "fnExactBestAt", inPlace := ["math/bits.Add64", "math/bits.Sub64"], unfollowed := true, recurses := true, apart := false, narrowed := true }
def FnExactBestAtUptoSaid : Prop := fnExactBestAtUptoRow.holds Tryz.pinned (OpenSpec.upto fnExactBestAtSpec)

/-- 'laws.FnExactAllBest', WHERE WHAT IT READS IS OF BULK AT MOST 1048576: true; the input reads as it did. -/
def fnExactAllBestUptoRow : OpenClaim := { program := "ytdolkacinfjhcaagreat", sum := "e015c28f9b2b5f43a6d7c41cdb1321fc9b230da7425f37bf715ddfe93217edcb", func := "loop.example/g00500/laws.FnExactAllBest", spec := "fnExactAllBest", inPlace := ["math/bits.Add64", "math/bits.Sub64"], unfollowed := true, recurses := true, apart := false, narrowed := true }
def FnExactAllBestUptoSaid : Prop := fnExactAllBestUptoRow.holds Tryz.pinned (OpenSpec.upto fnExactAllBestSpec)

/-- 'laws.FnGrown', WHERE WHAT IT READS IS OF BULK AT MOST 1048576: true; the input reads as it did. -/
def fnGrownUptoRow : OpenClaim := { program := "ytdolkacinfjhcaagreat", sum := "e015c28f9b2b5f43a6d7c41cdb1321fc9b230da7425f37bf715ddfe93217edcb", func := "loop.example/g00500/laws.FnGrown", spec := "fnGrown", inPlace := ["math/bits.Add64", "math/bits.Sub64"], unfollowed := true, recurses := true, apart := false, narrowed := true }
def FnGrownUptoSaid : Prop := fnGrownUptoRow.holds Tryz.pinned (OpenSpec.upto fnGrownSpec)

/-- 'laws.FnBestAt', WHERE WHAT IT READS IS OF BULK AT MOST 1048576: true; the input reads as it did. -/
def fnBestAtUptoRow : OpenClaim := { program := "ytdolkacinfjhcaagreat", sum := "e015c28f9b2b5f43a6d7c41cdb1321fc9b230da7425f37bf715ddfe93217edcb", func := "loop.example/g00500/laws.FnBestAt", spec := "fnBestAt", inPlace := ["math/bits.Add64", "math/bits.Sub64"], unfollowed := true, recurses := true, apart := false, narrowed := true }
def FnBestAtUptoSaid : Prop := fnBestAtUptoRow.holds Tryz.pinned (OpenSpec.upto fnBestAtSpec)

/-- 'laws.FnAllBest', WHERE WHAT IT READS IS OF BULK AT MOST 1048576: true; the input reads as it did. -/
def fnAllBestUptoRow : OpenClaim := { program := "ytdolkacinfjhcaagreat", sum := "e015c28f9b2b5f43a6d7c41cdb1321fc9b230da7425f37bf715ddfe93217edcb", func := "loop.example/g00500/laws.FnAllBest", spec := "fnAllBest", inPlace := ["math/bits.Add64", "math/bits.Sub64"], unfollowed := true, recurses := true, apart := false, narrowed := true }
def FnAllBestUptoSaid : Prop := fnAllBestUptoRow.holds Tryz.pinned (OpenSpec.upto fnAllBestSpec)

/-- 'laws.FnExactStageLoss', WHERE WHAT IT READS IS OF BULK AT MOST 1048576: true; the input reads as it did. -/
def fnExactStageLossUptoRow : OpenClaim := { program := "ytdolkacinfjhcaagreat", sum := "e015c28f9b2b5f43a6d7c41cdb1321fc9b230da7425f37bf715ddfe93217edcb", func := "loop.example/g00500/laws.FnExactStageLoss", spec := "fnExactStageLoss", inPlace := ["math/bits.Add64", "math/bits.Sub64"], unfollowed := true, recurses := true, apart := false, narrowed := true }
def FnExactStageLossUptoSaid : Prop := fnExactStageLossUptoRow.holds Tryz.pinned (OpenSpec.upto fnExactStageLossSpec)

/-- 'laws.FnExactTrainModel', WHERE WHAT IT READS IS OF BULK AT MOST 1048576: true; the input reads as it did. -/
def fnExactTrainModelUptoRow : OpenClaim := { program := "ytdolkacinfjhcaagreat", sum := "e015c28f9b2b5f43a6d7c41cdb1321fc9b230da7425f37bf715ddfe93217edcb", func := "loop.example/g00500/laws.FnExactTrainModel", spec := "fnExactTrainModel", inPlace := ["math/bits.Add64", "math/bits.Sub64"], unfollowed := true, recurses := true, apart := false, narrowed := true }
def FnExactTrainModelUptoSaid : Prop := fnExactTrainModelUptoRow.holds Tryz.pinned (OpenSpec.upto fnExactTrainModelSpec)

/-- 'laws.FnExactFoldLoss', WHERE WHAT IT READS IS OF BULK AT MOST 1048576: true; the input reads as it did. -/
def fnExactFoldLossUptoRow : OpenClaim := { program := "ytdolkacinfjhcaagreat", sum := "e015c28f9b2b5f43a6d7c41cdb1321fc9b230da7425f37bf715ddfe93217edcb", func := "loop.example/g00500/laws.FnExactFoldLoss", spec := "fnExactFoldLoss", inPlace := ["math/bits.Add64", "math/bits.Sub64"], unfollowed := true, recurses := true, apart := false, narrowed := true }
def FnExactFoldLossUptoSaid : Prop := fnExactFoldLossUptoRow.holds Tryz.pinned (OpenSpec.upto fnExactFoldLossSpec)

/-- 'laws.FnLossFalls', WHERE WHAT IT READS IS OF BULK AT MOST 1048576: true; the input reads as it did. -/
def fnLossFallsUptoRow : OpenClaim := { program := "ytdolkacinfjhcaagreat", sum := "e015c28f9b2b5f43a6d7c41cdb1321fc9b230da7425f37bf715ddfe93217edcb", func := "loop.example/g00500/laws.FnLossFalls", spec := "fnLossFalls", inPlace := ["math/bits.Add64", "math/bits.Sub64"], unfollowed := true, recurses := true, apart := false, narrowed := true }
def FnLossFallsUptoSaid : Prop := fnLossFallsUptoRow.holds Tryz.pinned (OpenSpec.upto fnLossFallsSpec)

/-- 'laws.FnNodeRows', WHERE WHAT IT READS IS OF BULK AT MOST 1048576: true; the input reads as it did. -/
def fnNodeRowsUptoRow : OpenClaim := { program := "ytdolkacinfjhcaagreat", sum := "e015c28f9b2b5f43a6d7c41cdb1321fc9b230da7425f37bf715ddfe93217edcb", func := "loop.example/g00500/laws.FnNodeRows", spec := "fnNodeRows", inPlace := ["math/bits.Add64", "math/bits.Sub64"], unfollowed := true, recurses := true, apart := false, narrowed := true }
def FnNodeRowsUptoSaid : Prop := fnNodeRowsUptoRow.holds Tryz.pinned (OpenSpec.upto fnNodeRowsSpec)

/-- 'laws.FnCutsIn', WHERE WHAT IT READS IS OF BULK AT MOST 1048576: true; the input reads as it did. -/
def fnCutsInUptoRow : OpenClaim := { program := "ytdolkacinfjhcaagreat", sum := "e015c28f9b2b5f43a6d7c41cdb1321fc9b230da7425f37bf715ddfe93217edcb", func := "loop.example/g00500/laws.FnCutsIn", spec := "fnCutsIn", recurses := true, apart := false, narrowed := true }
def FnCutsInUptoSaid : Prop := fnCutsInUptoRow.holds Tryz.pinned (OpenSpec.upto fnCutsInSpec)

end Rows
end Go.Proofs.YtdolkacinfjhcaaGreat
