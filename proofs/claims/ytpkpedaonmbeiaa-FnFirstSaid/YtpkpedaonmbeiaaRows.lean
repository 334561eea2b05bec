/-
  No cell of these rows narrows 'for every input' (looked for: loops, veiled, ifaces, maps, wideKeys, modest, calm, conditions, laid).
  DERIVED. THE GIVEN ROWS OF THIS SEAT. 11 by the template 'for every input the law returns true; each argument reads behind the call as it read before'; 0 by the template 'total and deterministic' (their statements: YtpkpedaonmbeiaaTotals.lean).
  GIVEN WITH THE SEED: the statements are not yours to turn. If you find one false, say at which input.
  Laid BY PROGRAM, IN A SANDBOX (cutbox-rows.mjs): the forced cells as the released guide's own fill.sh prints them over the translation d03b4057afaee1b1… (all of the seat's roots in one cut). By AI agents, Wed Nov 11 2026. No macro, syntax, notation, axiom, sorry.
-/
import Derived.Test.YtpkpedaonmbeiaaChecked
import GoSem.Claim
import GoSem.ClaimJoined
import GoSem.ClaimMapViews
import Derived.JoinedTies
import Derived.KernelRfl
namespace Go.Proofs.Ytpkpedaonmbeiaa
/- THE CELL 'sum', in the pinned program and in every row, IS THE sha256 OF THE DUMP (.gsa) THAT YtpkpedaonmbeiaaProg.lean LOADS. Nothing in Lean hashes anything: it is a label: what it is worth is what the hold of that sum in a sandbox is worth. -/
noncomputable def Try.pinned : Pinned := { name := "ytpkpedaonmbeiaa", sum := "d03b4057afaee1b1caf4a772f960e42d4b3b7da5df05553ce93113dae5f326a5", checked := Try.checked }
namespace Rows
def none {H : Type} : Left H := { results := [], args := [] }

/-- 'laws.FnSpan': WHATEVER THE INPUT: true; the input reads as it did. -/
def fnSpanSpec : ChangeSpec := { name := "fnSpan", fn := fun _ => fun
  | [d] => { results := [.lit (.bool true)], args := [d] }
  | _ => none }
def fnSpanRow : OpenClaim := { program := "ytpkpedaonmbeiaa", sum := "d03b4057afaee1b1caf4a772f960e42d4b3b7da5df05553ce93113dae5f326a5", func := "loop.example/g00500/laws.FnSpan", spec := "fnSpan", unfollowed := true, recurses := true, apart := false }
def FnSpanSaid : Prop := fnSpanRow.holds Try.pinned (OpenSpec.ofChange fnSpanSpec)

/-- ITS FALSE NEIGHBOUR: 'it returns false'. Refute it at one input. -/
def fnSpanWrong : ChangeSpec := { name := "fnSpan", fn := fun _ => fun
  | [d] => { results := [.lit (.bool false)], args := [d] }
  | _ => none }
def FnSpanWrongFalsely : Prop := fnSpanRow.holds Try.pinned (OpenSpec.ofChange fnSpanWrong)

/-- 'laws.FnFolds': WHATEVER THE INPUT: true; the input reads as it did. -/
def fnFoldsSpec : ChangeSpec := { name := "fnFolds", fn := fun _ => fun
  | [d] => { results := [.lit (.bool true)], args := [d] }
  | _ => none }
def fnFoldsRow : OpenClaim := { program := "ytpkpedaonmbeiaa", sum := "d03b4057afaee1b1caf4a772f960e42d4b3b7da5df05553ce93113dae5f326a5", func := "loop.example/g00500/laws.FnFolds", spec := "fnFolds", unfollowed := true, recurses := true, apart := false }
def FnFoldsSaid : Prop := fnFoldsRow.holds Try.pinned (OpenSpec.ofChange fnFoldsSpec)

/-- ITS FALSE NEIGHBOUR: 'it returns false'. Refute it at one input. -/
def fnFoldsWrong : ChangeSpec := { name := "fnFolds", fn := fun _ => fun
  | [d] => { results := [.lit (.bool false)], args := [d] }
  | _ => none }
def FnFoldsWrongFalsely : Prop := fnFoldsRow.holds Try.pinned (OpenSpec.ofChange fnFoldsWrong)

/-- 'laws.FnExactSameDesk': WHATEVER THE INPUT: true; the input reads as it did. -/
def fnExactSameDeskSpec : ChangeSpec := { name := "fnExactSameDesk", fn := fun _ => fun
  | [d1, d2] => { results := [.lit (.bool true)], args := [d1, d2] }
  | _ => none }
def fnExactSameDeskRow : OpenClaim := { program := "ytpkpedaonmbeiaa", sum := "d03b4057afaee1b1caf4a772f960e42d4b3b7da5df05553ce93113dae5f326a5", func := "loop.example/g00500/laws.FnExactSameDesk", spec := "fnExactSameDesk", unfollowed := true, recurses := true, apart := false }
def FnExactSameDeskSaid : Prop := fnExactSameDeskRow.holds Try.pinned (OpenSpec.ofChange fnExactSameDeskSpec)

/-- ITS FALSE NEIGHBOUR: 'it returns false'. Refute it at one input. -/
def fnExactSameDeskWrong : ChangeSpec := { name := "fnExactSameDesk", fn := fun _ => fun
  | [d1, d2] => { results := [.lit (.bool false)], args := [d1, d2] }
  | _ => none }
def FnExactSameDeskWrongFalsely : Prop := fnExactSameDeskRow.holds Try.pinned (OpenSpec.ofChange fnExactSameDeskWrong)

/-- 'laws.FnExactFoldOf': WHATEVER THE INPUT: true; the input reads as it did. -/
def fnExactFoldOfSpec : ChangeSpec := { name := "fnExactFoldOf", fn := fun _ => fun
  | [d1, d2, d3] => { results := [.lit (.bool true)], args := [d1, d2, d3] }
  | _ => none }
def fnExactFoldOfRow : OpenClaim := { program := "ytpkpedaonmbeiaa", sum := "d03b4057afaee1b1caf4a772f960e42d4b3b7da5df05553ce93113dae5f326a5", func := "loop.example/g00500/laws.FnExactFoldOf", spec := "fnExactFoldOf", unfollowed := true, recurses := true, apart := false }
def FnExactFoldOfSaid : Prop := fnExactFoldOfRow.holds Try.pinned (OpenSpec.ofChange fnExactFoldOfSpec)

/-- ITS FALSE NEIGHBOUR: 'it returns false'. Refute it at one input. -/
def fnExactFoldOfWrong : ChangeSpec := { name := "fnExactFoldOf", fn := fun _ => fun
  | [d1, d2, d3] => { results := [.lit (.bool false)], args := [d1, d2, d3] }
  | _ => none }
def FnExactFoldOfWrongFalsely : Prop := fnExactFoldOfRow.holds Try.pinned (OpenSpec.ofChange fnExactFoldOfWrong)

/-- 'laws.FnFollows': WHATEVER THE INPUT: true; the input reads as it did. -/
def fnFollowsSpec : ChangeSpec := { name := "fnFollows", fn := fun _ => fun
  | [d] => { results := [.lit (.bool true)], args := [d] }
  | _ => none }
def fnFollowsRow : OpenClaim := { program := "ytpkpedaonmbeiaa", sum := "d03b4057afaee1b1caf4a772f960e42d4b3b7da5df05553ce93113dae5f326a5", func := "loop.example/g00500/laws.FnFollows", spec := "fnFollows", unfollowed := true, recurses := true, apart := false }
def FnFollowsSaid : Prop := fnFollowsRow.holds Try.pinned (OpenSpec.ofChange fnFollowsSpec)

/-- ITS FALSE NEIGHBOUR: 'it returns false'. Refute it at one input. -/
def fnFollowsWrong : ChangeSpec := { name := "fnFollows", fn := fun _ => fun
  | [d] => { results := [.lit (.bool false)], args := [d] }
  | _ => none }
def FnFollowsWrongFalsely : Prop := fnFollowsRow.holds Try.pinned (OpenSpec.ofChange fnFollowsWrong)

/-- 'laws.FnExactFirstTrees': WHATEVER THE INPUT: true; the input reads as it did. -/
def fnExactFirstTreesSpec : ChangeSpec := { name := "fnExactFirstTrees", fn := fun _ => fun
  | [d1, d2] => { results := [.lit (.bool true)], args := [d1, d2] }
  | _ => none }
def fnExactFirstTreesRow : OpenClaim := { program := "ytpkpedaonmbeiaa", sum := "d03b4057afaee1b1caf4a772f960e42d4b3b7da5df05553ce93113dae5f326a5", func := "loop.example/g00500/laws.FnExactFirstTrees", spec := "fnExactFirstTrees", apart := false }
def FnExactFirstTreesSaid : Prop := fnExactFirstTreesRow.holds Try.pinned (OpenSpec.ofChange fnExactFirstTreesSpec)

/-- ITS FALSE NEIGHBOUR: 'it returns false'. Refute it at one input. -/
def fnExactFirstTreesWrong : ChangeSpec := { name := "fnExactFirstTrees", fn := fun _ => fun
  | [d1, d2] => { results := [.lit (.bool false)], args := [d1, d2] }
  | _ => none }
def FnExactFirstTreesWrongFalsely : Prop := fnExactFirstTreesRow.holds Try.pinned (OpenSpec.ofChange fnExactFirstTreesWrong)

/-- 'laws.FnExactModelFollows': WHATEVER THE INPUT: true; the input reads as it did. -/
def fnExactModelFollowsSpec : ChangeSpec := { name := "fnExactModelFollows", fn := fun _ => fun
  | [d] => { results := [.lit (.bool true)], args := [d] }
  | _ => none }
def fnExactModelFollowsRow : OpenClaim := { program := "ytpkpedaonmbeiaa", sum := "d03b4057afaee1b1caf4a772f960e42d4b3b7da5df05553ce93113dae5f326a5", func := "loop.example/g00500/laws.FnExactModelFollows", spec := "fnExactModelFollows", unfollowed := true, recurses := true, apart := false }
def FnExactModelFollowsSaid : Prop := fnExactModelFollowsRow.holds Try.pinned (OpenSpec.ofChange fnExactModelFollowsSpec)

/-- ITS FALSE NEIGHBOUR: 'it returns false'. Refute it at one input. -/
def fnExactModelFollowsWrong : ChangeSpec := { name := "fnExactModelFollows", fn := fun _ => fun
  | [d] => { results := [.lit (.bool false)], args := [d] }
  | _ => none }
def FnExactModelFollowsWrongFalsely : Prop := fnExactModelFollowsRow.holds Try.pinned (OpenSpec.ofChange fnExactModelFollowsWrong)

/-- 'laws.FnExactRanked': WHATEVER THE INPUT: true; the input reads as it did. -/
def fnExactRankedSpec : ChangeSpec := { name := "fnExactRanked", fn := fun _ => fun
  | [d] => { results := [.lit (.bool true)], args := [d] }
  | _ => none }
def fnExactRankedRow : OpenClaim := { program := "ytpkpedaonmbeiaa", sum := "d03b4057afaee1b1caf4a772f960e42d4b3b7da5df05553ce93113dae5f326a5", func := "loop.example/g00500/laws.FnExactRanked", spec := "fnExactRanked", unfollowed := true, recurses := true, apart := false }
def FnExactRankedSaid : Prop := fnExactRankedRow.holds Try.pinned (OpenSpec.ofChange fnExactRankedSpec)

/-- ITS FALSE NEIGHBOUR: 'it returns false'. Refute it at one input. -/
def fnExactRankedWrong : ChangeSpec := { name := "fnExactRanked", fn := fun _ => fun
  | [d] => { results := [.lit (.bool false)], args := [d] }
  | _ => none }
def FnExactRankedWrongFalsely : Prop := fnExactRankedRow.holds Try.pinned (OpenSpec.ofChange fnExactRankedWrong)

/-- 'laws.FnUses': WHATEVER THE INPUT: true; the input reads as it did. -/
def fnUsesSpec : ChangeSpec := { name := "fnUses", fn := fun _ => fun
  | [d] => { results := [.lit (.bool true)], args := [d] }
  | _ => none }
def fnUsesRow : OpenClaim := { program := "ytpkpedaonmbeiaa", sum := "d03b4057afaee1b1caf4a772f960e42d4b3b7da5df05553ce93113dae5f326a5", func := "loop.example/g00500/laws.FnUses", spec := "fnUses", unfollowed := true, recurses := true, apart := false }
def FnUsesSaid : Prop := fnUsesRow.holds Try.pinned (OpenSpec.ofChange fnUsesSpec)

/-- ITS FALSE NEIGHBOUR: 'it returns false'. Refute it at one input. -/
def fnUsesWrong : ChangeSpec := { name := "fnUses", fn := fun _ => fun
  | [d] => { results := [.lit (.bool false)], args := [d] }
  | _ => none }
def FnUsesWrongFalsely : Prop := fnUsesRow.holds Try.pinned (OpenSpec.ofChange fnUsesWrong)

/-- 'laws.FnFirst': WHATEVER THE INPUT: true; the input reads as it did. -/
def fnFirstSpec : ChangeSpec := { name := "fnFirst", fn := fun _ => fun
  | [d] => { results := [.lit (.bool true)], args := [d] }
  | _ => none }
def fnFirstRow : OpenClaim := { program := "ytpkpedaonmbeiaa", sum := "d03b4057afaee1b1caf4a772f960e42d4b3b7da5df05553ce93113dae5f326a5", func := "loop.example/g00500/laws.FnFirst", spec := "fnFirst", unfollowed := true, recurses := true, apart := false }
def FnFirstSaid : Prop := fnFirstRow.holds Try.pinned (OpenSpec.ofChange fnFirstSpec)

/-- ITS FALSE NEIGHBOUR: 'it returns false'. Refute it at one input. -/
def fnFirstWrong : ChangeSpec := { name := "fnFirst", fn := fun _ => fun
  | [d] => { results := [.lit (.bool false)], args := [d] }
  | _ => none }
def FnFirstWrongFalsely : Prop := fnFirstRow.holds Try.pinned (OpenSpec.ofChange fnFirstWrong)

/-- 'laws.FnExactNodeRows': WHATEVER THE INPUT: true; the input reads as it did. -/
def fnExactNodeRowsSpec : ChangeSpec := { name := "fnExactNodeRows", fn := fun _ => fun
  | [d1, d2, d3] => { results := [.lit (.bool true)], args := [d1, d2, d3] }
  | _ => none }
def fnExactNodeRowsRow : OpenClaim := { program := "ytpkpedaonmbeiaa", sum := "d03b4057afaee1b1caf4a772f960e42d4b3b7da5df05553ce93113dae5f326a5", func := "loop.example/g00500/laws.FnExactNodeRows", spec := "fnExactNodeRows", unfollowed := true, recurses := true, apart := false }
def FnExactNodeRowsSaid : Prop := fnExactNodeRowsRow.holds Try.pinned (OpenSpec.ofChange fnExactNodeRowsSpec)

/-- ITS FALSE NEIGHBOUR: 'it returns false'. Refute it at one input. -/
def fnExactNodeRowsWrong : ChangeSpec := { name := "fnExactNodeRows", fn := fun _ => fun
  | [d1, d2, d3] => { results := [.lit (.bool false)], args := [d1, d2, d3] }
  | _ => none }
def FnExactNodeRowsWrongFalsely : Prop := fnExactNodeRowsRow.holds Try.pinned (OpenSpec.ofChange fnExactNodeRowsWrong)

/- THE SECOND FORM. 'bulk': how many values and letters a reading holds, each counted each time it is reached (what is shared counts as often as it is met; a slice's spare places count too). A statement '..UptoSaid' is the law's where the arguments, and the package variables that the reading takes, are together of bulk at most 1048576: NARROWER than '..Said'. Prove '..Said' where nothing that the law and all that it calls make is longer than what came in: it says more and counts as full. Else prove '..UptoSaid'. A law counts once. -/
mutual
def uptoBulk {H : Type} : DataW H → Nat
  | .lit (.string bytes) => bytes.length + 1
  | .lit _ => 1
  | .nil => 1
  | .ptr d => uptoBulk d + 1
  | .slice elems spare => uptoBulkAll elems + uptoBulkAll spare + 1
  | .agg parts => uptoBulkAll parts + 1
  | .iface _ d => uptoBulk d + 1
  | .map entries => uptoBulkEntries entries + 1
  | .held _ => 1
def uptoBulkAll {H : Type} : List (DataW H) → Nat
  | [] => 0
  | d :: r => uptoBulk d + uptoBulkAll r
def uptoBulkEntries {H : Type} : List (Lit × DataW H) → Nat
  | [] => 0
  | x :: r => uptoBulkEntry x + uptoBulkEntries r
def uptoBulkEntry {H : Type} : Lit × DataW H → Nat
  | (.string bytes, d) => bytes.length + uptoBulk d + 1
  | (_, d) => uptoBulk d + 1
 end
def uptoSmall : (H : Type) → List (DataW H) → Bool := fun _ ds => decide (uptoBulkAll ds ≤ 1048576)
def OpenSpec.upto (s : _root_.Go.ChangeSpec) : _root_.Go.OpenSpec := { _root_.Go.OpenSpec.ofChange s with cond := some uptoSmall }

/-- 'laws.FnSpan', WHERE WHAT IT READS IS OF BULK AT MOST 1048576: true; the input reads as it did. -/
def fnSpanUptoRow : OpenClaim := { program := "ytpkpedaonmbeiaa", sum := "d03b4057afaee1b1caf4a772f960e42d4b3b7da5df05553ce93113dae5f326a5", func := "loop.example/g00500/laws.FnSpan", spec := "fnSpan", unfollowed := true, recurses := true, apart := false, narrowed := true }
def FnSpanUptoSaid : Prop := fnSpanUptoRow.holds Try.pinned (OpenSpec.upto fnSpanSpec)

/-- 'laws.FnFolds', WHERE WHAT IT READS IS OF BULK AT MOST 1048576: true; the input reads as it did. -/
def fnFoldsUptoRow : OpenClaim := { program := "ytpkpedaonmbeiaa", sum := "d03b4057afaee1b1caf4a772f960e42d4b3b7da5df05553ce93113dae5f326a5", func := "loop.example/g00500/laws.FnFolds", spec := "fnFolds", unfollowed := true, recurses := true, apart := false, narrowed := true }
def FnFoldsUptoSaid : Prop := fnFoldsUptoRow.holds Try.pinned (OpenSpec.upto fnFoldsSpec)

/-- 'laws.FnExactSameDesk', WHERE WHAT IT READS IS OF BULK AT MOST 1048576: true; the input reads as it did. -/
def fnExactSameDeskUptoRow : OpenClaim := { program := "ytpkpedaonmbeiaa", sum := "d03b4057afaee1b1caf4a772f960e42d4b3b7da5df05553ce93113dae5f326a5", func := "loop.example/g00500/laws.FnExactSameDesk", spec := "fnExactSameDesk", unfollowed := true, recurses := true, apart := false, narrowed := true }
def FnExactSameDeskUptoSaid : Prop := fnExactSameDeskUptoRow.holds Try.pinned (OpenSpec.upto fnExactSameDeskSpec)

/-- 'laws.FnExactFoldOf', WHERE WHAT IT READS IS OF BULK AT MOST 1048576: true; the input reads as it did. -/
def fnExactFoldOfUptoRow : OpenClaim := { program := "ytpkpedaonmbeiaa", sum := "d03b4057afaee1b1caf4a772f960e42d4b3b7da5df05553ce93113dae5f326a5", func := "loop.example/g00500/laws.FnExactFoldOf", spec := "fnExactFoldOf", unfollowed := true, recurses := true, apart := false, narrowed := true }
def FnExactFoldOfUptoSaid : Prop := fnExactFoldOfUptoRow.holds Try.pinned (OpenSpec.upto fnExactFoldOfSpec)

/-- 'laws.FnFollows', WHERE WHAT IT READS IS OF BULK AT MOST 1048576: true; the input reads as it did. -/
def fnFollowsUptoRow : OpenClaim := { program := "ytpkpedaonmbeiaa", sum := "d03b4057afaee1b1caf4a772f960e42d4b3b7da5df05553ce93113dae5f326a5", func := "loop.example/g00500/laws.FnFollows", spec := "fnFollows", unfollowed := true, recurses := true, apart := false, narrowed := true }
def FnFollowsUptoSaid : Prop := fnFollowsUptoRow.holds Try.pinned (OpenSpec.upto fnFollowsSpec)

/-- 'laws.FnExactFirstTrees', WHERE WHAT IT READS IS OF BULK AT MOST 1048576: true; the input reads as it did. -/
def fnExactFirstTreesUptoRow : OpenClaim := { program := "ytpkpedaonmbeiaa", sum := "d03b4057afaee1b1caf4a772f960e42d4b3b7da5df05553ce93113dae5f326a5", func := "loop.example/g00500/laws.FnExactFirstTrees", spec := "fnExactFirstTrees", apart := false, narrowed := true }
def FnExactFirstTreesUptoSaid : Prop := fnExactFirstTreesUptoRow.holds Try.pinned (OpenSpec.upto fnExactFirstTreesSpec)

/-- 'laws.FnExactModelFollows', WHERE WHAT IT READS IS OF BULK AT MOST 1048576: true; the input reads as it did. -/
def fnExactModelFollowsUptoRow : OpenClaim := { program := "ytpkpedaonmbeiaa", sum := "d03b4057afaee1b1caf4a772f960e42d4b3b7da5df05553ce93113dae5f326a5", func := "loop.example/g00500/laws.FnExactModelFollows", spec := "fnExactModelFollows", unfollowed := true, recurses := true, apart := false, narrowed := true }
def FnExactModelFollowsUptoSaid : Prop := fnExactModelFollowsUptoRow.holds Try.pinned (OpenSpec.upto fnExactModelFollowsSpec)

/-- 'laws.FnExactRanked', WHERE WHAT IT READS IS OF BULK AT MOST 1048576: true; the input reads as it did. -/
def fnExactRankedUptoRow : OpenClaim := { program := "ytpkpedaonmbeiaa", sum := "d03b4057afaee1b1caf4a772f960e42d4b3b7da5df05553ce93113dae5f326a5", func := "loop.example/g00500/laws.FnExactRanked", spec := "fnExactRanked", unfollowed := true, recurses := true, apart := false, narrowed := true }
def FnExactRankedUptoSaid : Prop := fnExactRankedUptoRow.holds Try.pinned (OpenSpec.upto fnExactRankedSpec)

/-- 'laws.FnUses', WHERE WHAT IT READS IS OF BULK AT MOST 1048576: true; the input reads as it did. -/
def fnUsesUptoRow : OpenClaim := { program := "ytpkpedaonmbeiaa", sum := "d03b4057afaee1b1caf4a772f960e42d4b3b7da5df05553ce93113dae5f326a5", func := "loop.example/g00500/laws.FnUses", spec := "fnUses", unfollowed := true, recurses := true, apart := false, narrowed := true }
def FnUsesUptoSaid : Prop := fnUsesUptoRow.holds Try.pinned (OpenSpec.upto fnUsesSpec)

/-- 'laws.FnFirst', WHERE WHAT IT READS IS OF BULK AT MOST 1048576: true; the input reads as it did. -/
def fnFirstUptoRow : OpenClaim := { program := "ytpkpedaonmbeiaa", sum := "d03b4057afaee1b1caf4a772f960e42d4b3b7da5df05553ce93113dae5f326a5", func := "loop.example/g00500/laws.FnFirst", spec := "fnFirst", unfollowed := true, recurses := true, apart := false, narrowed := true }
def FnFirstUptoSaid : Prop := fnFirstUptoRow.holds Try.pinned (OpenSpec.upto fnFirstSpec)

/-- 'laws.FnExactNodeRows', WHERE WHAT IT READS IS OF BULK AT MOST 1048576: true; the input reads as it did. -/
def fnExactNodeRowsUptoRow : OpenClaim := { program := "ytpkpedaonmbeiaa", sum := "d03b4057afaee1b1caf4a772f960e42d4b3b7da5df05553ce93113dae5f326a5", func := "loop.example/g00500/laws.FnExactNodeRows", spec := "fnExactNodeRows", unfollowed := true, recurses := true, apart := false, narrowed := true }
def FnExactNodeRowsUptoSaid : Prop := fnExactNodeRowsUptoRow.holds Try.pinned (OpenSpec.upto fnExactNodeRowsSpec)

end Rows
end Go.Proofs.Ytpkpedaonmbeiaa
