/-
  No cell of these rows narrows 'for every input' (looked for: loops, veiled, ifaces, maps, wideKeys, modest, calm, conditions, laid).
  DERIVED. THE GIVEN ROWS OF THIS SEAT. 4 by the template 'for every input the law returns true; each argument reads behind the call as it read before'; 0 by the template 'total and deterministic' (their statements: YtjjlpjdaffdceaaTotals.lean).
  GIVEN WITH THE SEED: the statements are not yours to turn. If you find one false, say at which input.
  Laid BY PROGRAM, IN A SANDBOX (cutbox-rows.mjs): the forced cells as the released guide's own fill.sh prints them over the translation eacdd864a2cd5fa6… (all of the seat's roots in one cut). By AI agents, Wed Nov 11 2026. No macro, syntax, notation, axiom, sorry.
-/
import Derived.Test.YtjjlpjdaffdceaaChecked
import GoSem.Claim
import GoSem.ClaimJoined
import GoSem.ClaimMapViews
import Derived.JoinedTies
import Derived.KernelRfl
namespace Go.Proofs.Ytjjlpjdaffdceaa
/- THE CELL 'sum', in the pinned program and in every row, IS THE sha256 OF THE DUMP (.gsa) THAT YtjjlpjdaffdceaaProg.lean LOADS. Nothing in Lean hashes anything: it is a label: what it is worth is what the hold of that sum in a sandbox is worth. -/
noncomputable def Try.pinned : Pinned := { name := "ytjjlpjdaffdceaa", sum := "eacdd864a2cd5fa631161a6306fb24f404eeb093e147f9e157975f95bf517c9f", checked := Try.checked }
namespace Rows
def none {H : Type} : Left H := { results := [], args := [] }

/-- 'laws.FnExactNodesIn': WHATEVER THE INPUT: true; the input reads as it did. -/
def fnExactNodesInSpec : ChangeSpec := { name := "fnExactNodesIn", fn := fun _ => fun
  | [d] => { results := [.lit (.bool true)], args := [d] }
  | _ => none }
def fnExactNodesInRow : OpenClaim := { program := "ytjjlpjdaffdceaa", sum := "eacdd864a2cd5fa631161a6306fb24f404eeb093e147f9e157975f95bf517c9f", func := "loop.example/g00500/laws.FnExactNodesIn", spec := "fnExactNodesIn", apart := false }
def FnExactNodesInSaid : Prop := fnExactNodesInRow.holds Try.pinned (OpenSpec.ofChange fnExactNodesInSpec)

/-- ITS FALSE NEIGHBOUR: 'it returns false'. Refute it at one input. -/
def fnExactNodesInWrong : ChangeSpec := { name := "fnExactNodesIn", fn := fun _ => fun
  | [d] => { results := [.lit (.bool false)], args := [d] }
  | _ => none }
def FnExactNodesInWrongFalsely : Prop := fnExactNodesInRow.holds Try.pinned (OpenSpec.ofChange fnExactNodesInWrong)

/-- 'laws.FnExactUsesOf': WHATEVER THE INPUT: true; the input reads as it did. -/
def fnExactUsesOfSpec : ChangeSpec := { name := "fnExactUsesOf", fn := fun _ => fun
  | [d1, d2] => { results := [.lit (.bool true)], args := [d1, d2] }
  | _ => none }
def fnExactUsesOfRow : OpenClaim := { program := "ytjjlpjdaffdceaa", sum := "eacdd864a2cd5fa631161a6306fb24f404eeb093e147f9e157975f95bf517c9f", func := "loop.example/g00500/laws.FnExactUsesOf", spec := "fnExactUsesOf", apart := false }
def FnExactUsesOfSaid : Prop := fnExactUsesOfRow.holds Try.pinned (OpenSpec.ofChange fnExactUsesOfSpec)

/-- ITS FALSE NEIGHBOUR: 'it returns false'. Refute it at one input. -/
def fnExactUsesOfWrong : ChangeSpec := { name := "fnExactUsesOf", fn := fun _ => fun
  | [d1, d2] => { results := [.lit (.bool false)], args := [d1, d2] }
  | _ => none }
def FnExactUsesOfWrongFalsely : Prop := fnExactUsesOfRow.holds Try.pinned (OpenSpec.ofChange fnExactUsesOfWrong)

/-- 'laws.FnExactSpanOf': WHATEVER THE INPUT: true; the input reads as it did. -/
def fnExactSpanOfSpec : ChangeSpec := { name := "fnExactSpanOf", fn := fun _ => fun
  | [d1, d2] => { results := [.lit (.bool true)], args := [d1, d2] }
  | _ => none }
def fnExactSpanOfRow : OpenClaim := { program := "ytjjlpjdaffdceaa", sum := "eacdd864a2cd5fa631161a6306fb24f404eeb093e147f9e157975f95bf517c9f", func := "loop.example/g00500/laws.FnExactSpanOf", spec := "fnExactSpanOf", unfollowed := true, recurses := true, apart := false }
def FnExactSpanOfSaid : Prop := fnExactSpanOfRow.holds Try.pinned (OpenSpec.ofChange fnExactSpanOfSpec)

/-- ITS FALSE NEIGHBOUR: 'it returns false'. Refute it at one input. -/
def fnExactSpanOfWrong : ChangeSpec := { name := "fnExactSpanOf", fn := fun _ => fun
  | [d1, d2] => { results := [.lit (.bool false)], args := [d1, d2] }
  | _ => none }
def FnExactSpanOfWrongFalsely : Prop := fnExactSpanOfRow.holds Try.pinned (OpenSpec.ofChange fnExactSpanOfWrong)

/-- 'laws.FnExactTreeFollows': WHATEVER THE INPUT: true; the input reads as it did. -/
def fnExactTreeFollowsSpec : ChangeSpec := { name := "fnExactTreeFollows", fn := fun _ => fun
  | [d1, d2, d3] => { results := [.lit (.bool true)], args := [d1, d2, d3] }
  | _ => none }
def fnExactTreeFollowsRow : OpenClaim := { program := "ytjjlpjdaffdceaa", sum := "eacdd864a2cd5fa631161a6306fb24f404eeb093e147f9e157975f95bf517c9f", func := "loop.example/g00500/laws.FnExactTreeFollows", spec := "fnExactTreeFollows", unfollowed := true, recurses := true, apart := false }
def FnExactTreeFollowsSaid : Prop := fnExactTreeFollowsRow.holds Try.pinned (OpenSpec.ofChange fnExactTreeFollowsSpec)

/-- ITS FALSE NEIGHBOUR: 'it returns false'. Refute it at one input. -/
def fnExactTreeFollowsWrong : ChangeSpec := { name := "fnExactTreeFollows", fn := fun _ => fun
  | [d1, d2, d3] => { results := [.lit (.bool false)], args := [d1, d2, d3] }
  | _ => none }
def FnExactTreeFollowsWrongFalsely : Prop := fnExactTreeFollowsRow.holds Try.pinned (OpenSpec.ofChange fnExactTreeFollowsWrong)

/- THE SECOND FORM. 'bulk': how many values and letters a reading holds, each counted each time it is reached (what is shared counts as often as it is met; a slice's spare places count too). A statement '..UptoSaid' is the law's where the arguments, and the package variables that the reading takes, are together of bulk at most 1048576: NARROWER than '..Said'. Prove '..Said' where nothing that the law and all that it calls make is longer than what came in: it says more and counts as full. Else prove '..UptoSaid'. A law counts once. -/
mutual
def uptoBulk {H : Type} : DataW H → Nat
  | .lit (.string bytes) => bytes.length + 1
  | .lit _ => 1
  | .nil => 1
  | .ptr d => uptoBulk d + 1
  | .slice elems spare => uptoBulkAll elems + uptoBulkAll spare + 1
  | .agg parts => uptoBulkAll parts + 1
  | .iface _ d => uptoBulk d + 1
  | .map entries => uptoBulkEntries entries + 1
  | .held _ => 1
def uptoBulkAll {H : Type} : List (DataW H) → Nat
  | [] => 0
  | d :: r => uptoBulk d + uptoBulkAll r
def uptoBulkEntries {H : Type} : List (Lit × DataW H) → Nat
  | [] => 0
  | x :: r => uptoBulkEntry x + uptoBulkEntries r
def uptoBulkEntry {H : Type} : Lit × DataW H → Nat
  | (.string bytes, d) => bytes.length + uptoBulk d + 1
  | (_, d) => uptoBulk d + 1
 end
def uptoSmall : (H : Type) → List (DataW H) → Bool := fun _ ds => decide (uptoBulkAll ds ≤ 1048576)
def OpenSpec.upto (s : _root_.Go.ChangeSpec) : _root_.Go.OpenSpec := { _root_.Go.OpenSpec.ofChange s with cond := some uptoSmall }

/-- 'laws.FnExactNodesIn', WHERE WHAT IT READS IS OF BULK AT MOST 1048576: true; the input reads as it did. -/
def fnExactNodesInUptoRow : OpenClaim := { program := "ytjjlpjdaffdceaa", sum := "eacdd864a2cd5fa631161a6306fb24f404eeb093e147f9e157975f95bf517c9f", func := "loop.example/g00500/laws.FnExactNodesIn", spec := "fnExactNodesIn", apart := false, narrowed := true }
def FnExactNodesInUptoSaid : Prop := fnExactNodesInUptoRow.holds Try.pinned (OpenSpec.upto fnExactNodesInSpec)

/-- 'laws.FnExactUsesOf', WHERE WHAT IT READS IS OF BULK AT MOST 1048576: true; the input reads as it did. -/
def fnExactUsesOfUptoRow : OpenClaim := { program := "ytjjlpjdaffdceaa", sum := "eacdd864a2cd5fa631161a6306fb24f404eeb093e147f9e157975f95bf517c9f", func := "loop.example/g00500/laws.FnExactUsesOf", spec := "fnExactUsesOf", apart := false, narrowed := true }
def FnExactUsesOfUptoSaid : Prop := fnExactUsesOfUptoRow.holds Try.pinned (OpenSpec.upto fnExactUsesOfSpec)

/-- 'laws.FnExactSpanOf', WHERE WHAT IT READS IS OF BULK AT MOST 1048576: true; the input reads as it did. -/
def fnExactSpanOfUptoRow : OpenClaim := { program := "ytjjlpjdaffdceaa", sum := "eacdd864a2cd5fa631161a6306fb24f404eeb093e147f9e157975f95bf517c9f", func := "loop.example/g00500/laws.FnExactSpanOf", spec := "fnExactSpanOf", unfollowed := true, recurses := true, apart := false, narrowed := true }
def FnExactSpanOfUptoSaid : Prop := fnExactSpanOfUptoRow.holds Try.pinned (OpenSpec.upto fnExactSpanOfSpec)

/-- 'laws.FnExactTreeFollows', WHERE WHAT IT READS IS OF BULK AT MOST 1048576: true; the input reads as it did. -/
def fnExactTreeFollowsUptoRow : OpenClaim := { program := "ytjjlpjdaffdceaa", sum := "eacdd864a2cd5fa631161a6306fb24f404eeb093e147f9e157975f95bf517c9f", func := "loop.example/g00500/laws.FnExactTreeFollows", spec := "fnExactTreeFollows", unfollowed := true, recurses := true, apart := false, narrowed := true }
def FnExactTreeFollowsUptoSaid : Prop := fnExactTreeFollowsUptoRow.holds Try.pinned (OpenSpec.upto fnExactTreeFollowsSpec)

end Rows
end Go.Proofs.Ytjjlpjdaffdceaa
