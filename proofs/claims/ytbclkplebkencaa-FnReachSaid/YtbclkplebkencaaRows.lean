/-
  No cell of these rows narrows 'for every input' (looked for: loops, veiled, ifaces, maps, wideKeys, modest, calm, conditions, laid).
  DERIVED. THE GIVEN ROWS OF THIS SEAT. 7 by the template 'for every input the law returns true; each argument reads behind the call as it read before'; 0 by the template 'total and deterministic' (their statements: YtbclkplebkencaaTotals.lean).
  GIVEN WITH THE SEED: the statements are not yours to turn. If you find one false, say at which input.
  Laid BY PROGRAM, IN A SANDBOX (cutbox-rows.mjs): the forced cells as the released guide's own fill.sh prints them over the translation c3ce18d42ee15609… (all of the seat's roots in one cut). By AI agents, Wed Nov 11 2026. No macro, syntax, notation, axiom, sorry.
-/
import Derived.Test.YtbclkplebkencaaChecked
import GoSem.Claim
import GoSem.ClaimJoined
import GoSem.ClaimMapViews
import Derived.JoinedTies
import Derived.KernelRfl
namespace Go.Proofs.Ytbclkplebkencaa
/- THE CELL 'sum', in the pinned program and in every row, IS THE sha256 OF THE DUMP (.gsa) THAT YtbclkplebkencaaProg.lean LOADS. Nothing in Lean hashes anything: it is a label: what it is worth is what the hold of that sum in a sandbox is worth. -/
noncomputable def Try.pinned : Pinned := { name := "ytbclkplebkencaa", sum := "c3ce18d42ee15609442e4ea237b14eeb30c7284e3719bd2dc4fabb06cf0f6601", checked := Try.checked }
namespace Rows
def none {H : Type} : Left H := { results := [], args := [] }

/-- 'laws.FnExactStepsAt': WHATEVER THE INPUT: true; the input reads as it did. -/
def fnExactStepsAtSpec : ChangeSpec := { name := "fnExactStepsAt", fn := fun _ => fun
  | [d1, d2] => { results := [.lit (.bool true)], args := [d1, d2] }
  | _ => none }
def fnExactStepsAtRow : OpenClaim := { program := "ytbclkplebkencaa", sum := "c3ce18d42ee15609442e4ea237b14eeb30c7284e3719bd2dc4fabb06cf0f6601", func := "loop.example/g00500/laws.FnExactStepsAt", spec := "fnExactStepsAt", recurses := true, apart := false }
def FnExactStepsAtSaid : Prop := fnExactStepsAtRow.holds Try.pinned (OpenSpec.ofChange fnExactStepsAtSpec)

/-- ITS FALSE NEIGHBOUR: 'it returns false'. Refute it at one input. -/
def fnExactStepsAtWrong : ChangeSpec := { name := "fnExactStepsAt", fn := fun _ => fun
  | [d1, d2] => { results := [.lit (.bool false)], args := [d1, d2] }
  | _ => none }
def FnExactStepsAtWrongFalsely : Prop := fnExactStepsAtRow.holds Try.pinned (OpenSpec.ofChange fnExactStepsAtWrong)

/-- 'laws.FnExactReach': WHATEVER THE INPUT: true; the input reads as it did. -/
def fnExactReachSpec : ChangeSpec := { name := "fnExactReach", fn := fun _ => fun
  | [d] => { results := [.lit (.bool true)], args := [d] }
  | _ => none }
def fnExactReachRow : OpenClaim := { program := "ytbclkplebkencaa", sum := "c3ce18d42ee15609442e4ea237b14eeb30c7284e3719bd2dc4fabb06cf0f6601", func := "loop.example/g00500/laws.FnExactReach", spec := "fnExactReach", unfollowed := true, recurses := true, apart := false }
def FnExactReachSaid : Prop := fnExactReachRow.holds Try.pinned (OpenSpec.ofChange fnExactReachSpec)

/-- ITS FALSE NEIGHBOUR: 'it returns false'. Refute it at one input. -/
def fnExactReachWrong : ChangeSpec := { name := "fnExactReach", fn := fun _ => fun
  | [d] => { results := [.lit (.bool false)], args := [d] }
  | _ => none }
def FnExactReachWrongFalsely : Prop := fnExactReachRow.holds Try.pinned (OpenSpec.ofChange fnExactReachWrong)

/-- 'laws.FnExactCutsIn': WHATEVER THE INPUT: true; the input reads as it did. -/
def fnExactCutsInSpec : ChangeSpec := { name := "fnExactCutsIn", fn := fun _ => fun
  | [d1, d2] => { results := [.lit (.bool true)], args := [d1, d2] }
  | _ => none }
def fnExactCutsInRow : OpenClaim := { program := "ytbclkplebkencaa", sum := "c3ce18d42ee15609442e4ea237b14eeb30c7284e3719bd2dc4fabb06cf0f6601", func := "loop.example/g00500/laws.FnExactCutsIn", spec := "fnExactCutsIn", recurses := true, apart := false }
def FnExactCutsInSaid : Prop := fnExactCutsInRow.holds Try.pinned (OpenSpec.ofChange fnExactCutsInSpec)

/-- ITS FALSE NEIGHBOUR: 'it returns false'. Refute it at one input. -/
def fnExactCutsInWrong : ChangeSpec := { name := "fnExactCutsIn", fn := fun _ => fun
  | [d1, d2] => { results := [.lit (.bool false)], args := [d1, d2] }
  | _ => none }
def FnExactCutsInWrongFalsely : Prop := fnExactCutsInRow.holds Try.pinned (OpenSpec.ofChange fnExactCutsInWrong)

/-- 'laws.FnExactBoundAt': WHATEVER THE INPUT: true; the input reads as it did. -/
def fnExactBoundAtSpec : ChangeSpec := { name := "fnExactBoundAt", fn := fun _ => fun
  | [d1, d2, d3, d4, d5] => { results := [.lit (.bool true)], args := [d1, d2, d3, d4, d5] }
  | _ => none }
def fnExactBoundAtRow : OpenClaim := { program := "ytbclkplebkencaa", sum := "c3ce18d42ee15609442e4ea237b14eeb30c7284e3719bd2dc4fabb06cf0f6601", func := "loop.example/g00500/laws.FnExactBoundAt", spec := "fnExactBoundAt", unfollowed := true, recurses := true, apart := false }
def FnExactBoundAtSaid : Prop := fnExactBoundAtRow.holds Try.pinned (OpenSpec.ofChange fnExactBoundAtSpec)

/-- ITS FALSE NEIGHBOUR: 'it returns false'. Refute it at one input. -/
def fnExactBoundAtWrong : ChangeSpec := { name := "fnExactBoundAt", fn := fun _ => fun
  | [d1, d2, d3, d4, d5] => { results := [.lit (.bool false)], args := [d1, d2, d3, d4, d5] }
  | _ => none }
def FnExactBoundAtWrongFalsely : Prop := fnExactBoundAtRow.holds Try.pinned (OpenSpec.ofChange fnExactBoundAtWrong)

/-- 'laws.FnExactStages': WHATEVER THE INPUT: true; the input reads as it did. -/
def fnExactStagesSpec : ChangeSpec := { name := "fnExactStages", fn := fun _ => fun
  | [d1, d2] => { results := [.lit (.bool true)], args := [d1, d2] }
  | _ => none }
def fnExactStagesRow : OpenClaim := { program := "ytbclkplebkencaa", sum := "c3ce18d42ee15609442e4ea237b14eeb30c7284e3719bd2dc4fabb06cf0f6601", func := "loop.example/g00500/laws.FnExactStages", spec := "fnExactStages", unfollowed := true, recurses := true, apart := false }
def FnExactStagesSaid : Prop := fnExactStagesRow.holds Try.pinned (OpenSpec.ofChange fnExactStagesSpec)

/-- ITS FALSE NEIGHBOUR: 'it returns false'. Refute it at one input. -/
def fnExactStagesWrong : ChangeSpec := { name := "fnExactStages", fn := fun _ => fun
  | [d1, d2] => { results := [.lit (.bool false)], args := [d1, d2] }
  | _ => none }
def FnExactStagesWrongFalsely : Prop := fnExactStagesRow.holds Try.pinned (OpenSpec.ofChange fnExactStagesWrong)

/-- 'laws.FnSteps': WHATEVER THE INPUT: true; the input reads as it did. -/
def fnStepsSpec : ChangeSpec := { name := "fnSteps", fn := fun _ => fun
  | [d] => { results := [.lit (.bool true)], args := [d] }
  | _ => none }
def fnStepsRow : OpenClaim := { program := "ytbclkplebkencaa", sum := "c3ce18d42ee15609442e4ea237b14eeb30c7284e3719bd2dc4fabb06cf0f6601", func := "loop.example/g00500/laws.FnSteps", spec := "fnSteps", recurses := true, apart := false }
def FnStepsSaid : Prop := fnStepsRow.holds Try.pinned (OpenSpec.ofChange fnStepsSpec)

/-- ITS FALSE NEIGHBOUR: 'it returns false'. Refute it at one input. -/
def fnStepsWrong : ChangeSpec := { name := "fnSteps", fn := fun _ => fun
  | [d] => { results := [.lit (.bool false)], args := [d] }
  | _ => none }
def FnStepsWrongFalsely : Prop := fnStepsRow.holds Try.pinned (OpenSpec.ofChange fnStepsWrong)

/-- 'laws.FnReach': WHATEVER THE INPUT: true; the input reads as it did. -/
def fnReachSpec : ChangeSpec := { name := "fnReach", fn := fun _ => fun
  | [d] => { results := [.lit (.bool true)], args := [d] }
  | _ => none }
def fnReachRow : OpenClaim := { program := "ytbclkplebkencaa", sum := "c3ce18d42ee15609442e4ea237b14eeb30c7284e3719bd2dc4fabb06cf0f6601", func := "loop.example/g00500/laws.FnReach", spec := "fnReach", unfollowed := true, recurses := true, apart := false }
def FnReachSaid : Prop := fnReachRow.holds Try.pinned (OpenSpec.ofChange fnReachSpec)

/-- ITS FALSE NEIGHBOUR: 'it returns false'. Refute it at one input. -/
def fnReachWrong : ChangeSpec := { name := "fnReach", fn := fun _ => fun
  | [d] => { results := [.lit (.bool false)], args := [d] }
  | _ => none }
def FnReachWrongFalsely : Prop := fnReachRow.holds Try.pinned (OpenSpec.ofChange fnReachWrong)

/- THE SECOND FORM. 'bulk': how many values and letters a reading holds, each counted each time it is reached (what is shared counts as often as it is met; a slice's spare places count too). A statement '..UptoSaid' is the law's where the arguments, and the package variables that the reading takes, are together of bulk at most 1048576: NARROWER than '..Said'. Prove '..Said' where nothing that the law and all that it calls make is longer than what came in: it says more and counts as full. Else prove '..UptoSaid'. A law counts once. -/
mutual
def uptoBulk {H : Type} : DataW H → Nat
  | .lit (.string bytes) => bytes.length + 1
  | .lit _ => 1
  | .nil => 1
  | .ptr d => uptoBulk d + 1
  | .slice elems spare => uptoBulkAll elems + uptoBulkAll spare + 1
  | .agg parts => uptoBulkAll parts + 1
  | .iface _ d => uptoBulk d + 1
  | .map entries => uptoBulkEntries entries + 1
  | .held _ => 1
def uptoBulkAll {H : Type} : List (DataW H) → Nat
  | [] => 0
  | d :: r => uptoBulk d + uptoBulkAll r
def uptoBulkEntries {H : Type} : List (Lit × DataW H) → Nat
  | [] => 0
  | x :: r => uptoBulkEntry x + uptoBulkEntries r
def uptoBulkEntry {H : Type} : Lit × DataW H → Nat
  | (.string bytes, d) => bytes.length + uptoBulk d + 1
  | (_, d) => uptoBulk d + 1
 end
def uptoSmall : (H : Type) → List (DataW H) → Bool := fun _ ds => decide (uptoBulkAll ds ≤ 1048576)
def OpenSpec.upto (s : _root_.Go.ChangeSpec) : _root_.Go.OpenSpec := { _root_.Go.OpenSpec.ofChange s with cond := some uptoSmall }

/-- 'laws.FnExactStepsAt', WHERE WHAT IT READS IS OF BULK AT MOST 1048576: true; the input reads as it did. -/
def fnExactStepsAtUptoRow : OpenClaim := { program := "ytbclkplebkencaa", sum := "c3ce18d42ee15609442e4ea237b14eeb30c7284e3719bd2dc4fabb06cf0f6601", func := "loop.example/g00500/laws.FnExactStepsAt", spec := "fnExactStepsAt", recurses := true, apart := false, narrowed := true }
def FnExactStepsAtUptoSaid : Prop := fnExactStepsAtUptoRow.holds Try.pinned (OpenSpec.upto fnExactStepsAtSpec)

/-- 'laws.FnExactReach', WHERE WHAT IT READS IS OF BULK AT MOST 1048576: true; the input reads as it did. -/
def fnExactReachUptoRow : OpenClaim := { program := "ytbclkplebkencaa", sum := "c3ce18d42ee15609442e4ea237b14eeb30c7284e3719bd2dc4fabb06cf0f6601", func := "loop.example/g00500/laws.FnExactReach", spec := "fnExactReach", unfollowed := true, recurses := true, apart := false, narrowed := true }
def FnExactReachUptoSaid : Prop := fnExactReachUptoRow.holds Try.pinned (OpenSpec.upto fnExactReachSpec)

/-- 'laws.FnExactCutsIn', WHERE WHAT IT READS IS OF BULK AT MOST 1048576: true; the input reads as it did. -/
def fnExactCutsInUptoRow : OpenClaim := { program := "ytbclkplebkencaa", sum := "c3ce18d42ee15609442e4ea237b14eeb30c7284e3719bd2dc4fabb06cf0f6601", func := "loop.example/g00500/laws.FnExactCutsIn", spec := "fnExactCutsIn", recurses := true, apart := false, narrowed := true }
def FnExactCutsInUptoSaid : Prop := fnExactCutsInUptoRow.holds Try.pinned (OpenSpec.upto fnExactCutsInSpec)

/-- 'laws.FnExactBoundAt', WHERE WHAT IT READS IS OF BULK AT MOST 1048576: true; the input reads as it did. -/
def fnExactBoundAtUptoRow : OpenClaim := { program := "ytbclkplebkencaa", sum := "c3ce18d42ee15609442e4ea237b14eeb30c7284e3719bd2dc4fabb06cf0f6601", func := "loop.example/g00500/laws.FnExactBoundAt", spec := "fnExactBoundAt", unfollowed := true, recurses := true, apart := false, narrowed := true }
def FnExactBoundAtUptoSaid : Prop := fnExactBoundAtUptoRow.holds Try.pinned (OpenSpec.upto fnExactBoundAtSpec)

/-- 'laws.FnExactStages', WHERE WHAT IT READS IS OF BULK AT MOST 1048576: true; the input reads as it did. -/
def fnExactStagesUptoRow : OpenClaim := { program := "ytbclkplebkencaa", sum := "c3ce18d42ee15609442e4ea237b14eeb30c7284e3719bd2dc4fabb06cf0f6601", func := "loop.example/g00500/laws.FnExactStages", spec := "fnExactStages", unfollowed := true, recurses := true, apart := false, narrowed := true }
def FnExactStagesUptoSaid : Prop := fnExactStagesUptoRow.holds Try.pinned (OpenSpec.upto fnExactStagesSpec)

/-- 'laws.FnSteps', WHERE WHAT IT READS IS OF BULK AT MOST 1048576: true; the input reads as it did. -/
def fnStepsUptoRow : OpenClaim := { program := "ytbclkplebkencaa", sum := "c3ce18d42ee15609442e4ea237b14eeb30c7284e3719bd2dc4fabb06cf0f6601", func := "loop.example/g00500/laws.FnSteps", spec := "fnSteps", recurses := true, apart := false, narrowed := true }
def FnStepsUptoSaid : Prop := fnStepsUptoRow.holds Try.pinned (OpenSpec.upto fnStepsSpec)

/-- 'laws.FnReach', WHERE WHAT IT READS IS OF BULK AT MOST 1048576: true; the input reads as it did. -/
def fnReachUptoRow : OpenClaim := { program := "ytbclkplebkencaa", sum := "c3ce18d42ee15609442e4ea237b14eeb30c7284e3719bd2dc4fabb06cf0f6601", func := "loop.example/g00500/laws.FnReach", spec := "fnReach", unfollowed := true, recurses := true, apart := false, narrowed := true }
def FnReachUptoSaid : Prop := fnReachUptoRow.holds Try.pinned (OpenSpec.upto fnReachSpec)

end Rows
end Go.Proofs.Ytbclkplebkencaa
