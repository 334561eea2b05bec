/- Library, part F: spans, signs. -/
import Derived.Test.YtbclkplebkencaaLE
namespace Go.H.S
open Go Go.Proofs Go.H
attribute [local irreducible] Tri FnSpec FnSpecM
set_option maxRecDepth 100000
set_option linter.unusedSimpArgs false
set_option linter.unusedVariables false


def vAt (t : List Nd) (x : Int) : Int := match t[x.toNat]? with | some n => n.v | none => 0
def spanStep (t : List Nd) (node : Int) (acc : Int × Int × Bool) (i : Int) : Int × Int × Bool :=
  if node ∈ wayL t i then (if acc.2.2 then (min acc.1 (vAt t i), max acc.2.1 (vAt t i), true) else (vAt t i, vAt t i, true)) else acc
def spanL (t : List Nd) (node : Int) : Int × Int × Bool := (leavesK t 0).foldl (spanStep t node) (0, 0, false)
def badN (t : List Nd) (f sign : Int) (n : Nd) : Bool :=
  isF f n && ((spanL t n.l).2.2 && (spanL t n.r).2.2 && ((decide (sign = 1) && decide ((spanL t n.r).1 < (spanL t n.l).2.1)) || (decide (sign = -1) && decide ((spanL t n.l).1 < (spanL t n.r).2.1))))
def followsL (t : List Nd) (f sign : Int) : Bool := t.all fun n => !badN t f sign n
abbrev tup3 (x : Int × Int × Bool) : AV := .tup [(false, [.d (.int .i64 x.1)]), (false, [.d (.int .i64 x.2.1)]), (false, [.d (.bool x.2.2)])]
end Go.H.S
