/- Library, part NK: the bound at a node. -/
import Derived.Test.YtdolkacinfjhcaaGreatLPE
set_option maxRecDepth 100000
set_option linter.unusedSimpArgs false
set_option linter.unusedVariables false
namespace Go.H.S
open Go Go.Proofs Go.H
attribute [local irreducible] Tri FnSpec FnSpecM FnSpecX FnSpecJ
def leafAt (g : Grd) (grads : List Int) (c : Cfg) (t : List Nd) (b : Int × Int) (x : Int) : Int := leafV (nodeRowsL g t x).length (sumR grads (nodeRowsL g t x)) c.lambda b
def bSides (g : Grd) (grads : List Int) (c : Cfg) (t : List Nd) (b : Int × Int) (n : Nd) : (Int × Int) × (Int × Int) := sidesL (signFor c n.f) b (leafAt g grads c t b n.l) (leafAt g grads c t b n.r)
def bStep (g : Grd) (grads : List Int) (c : Cfg) (t : List Nd) (b : Int × Int) (z z' : Int) : Int × Int := match t[z.toNat]? with
 | none => b
 | some n => if n.l = z' then (bSides g grads c t b n).1 else (bSides g grads c t b n).2
def bWay (g : Grd) (grads : List Int) (c : Cfg) (t : List Nd) : (Int × Int) → List Int → (Int × Int)
 | b, z :: z' :: w => bWay g grads c t (bStep g grads c t b z z') (z' :: w)
 | b, [_] => b
 | b, [] => b
abbrev freeB : Int × Int := (-1099511627776, 1099511627776)
abbrev rpG (g : Grd) : AV := .c (.d (.rp [.sl 1 (eL cIs g.cuts), .sl 1 (eL cIs g.bins)]))
abbrev rpC (c : Cfg) : AV := .c (.d (.rp [.int .i64 c.rounds, .int .i64 c.depth, .int .i64 c.bins, .int .i64 c.lambda, .int .i64 c.rows, .int .i64 c.num, .int .i64 c.den, .sl 1 (eL cI c.signs)]))
end Go.H.S
