/- Library, part OA: draws of models and rows. -/
import Derived.Test.YtdolkacinfjhcaaGreatLNC
import Derived.Test.YtdolkacinfjhcaaGreatH29
import Derived.Test.YtdolkacinfjhcaaGreatShelf
import Derived.Sort.OwnSortedInts
set_option maxRecDepth 100000
set_option linter.unusedSimpArgs false
set_option linter.unusedVariables false
namespace Go.H.S
open Go Go.Proofs Go.H
attribute [local irreducible] Tri z6 zR zV zY zW
theorem zk (code : List Int) (i h n : Int) (hi : yK code (i, h)) (hl : code.length ≤ 1048576) : zW PR zDV [.c (.ptr 0 0), ai n] zH (cur code i h) (Bool × Int × Int)
  (fun x => yK code x.2) (fun x => ab x.1) (fun x => cur code x.2.1 x.2.2) (fun _ => []) (fun _ => 1) := by
 refine zW.intro hT 0 (pf Tryz.func189) rfl (by kernel_rfl) Tryz.ntmps189 rfl rfl ?_
 intro v0
 conv => whnf
 refine .inr (.inr (.inr (.inr (.inl ⟨0, ?_⟩))))
 conv => whnf
 refine ⟨_, _, _, _, _, _, zA code i h n hi hl, fun ⟨x, i1, h1⟩ ⟨hx, hi1⟩ => ⟨rfl, ?_⟩⟩
 dsimp only at hx hi1
 conv => whnf
 refine ⟨(iEq x 0, i1, h1), hi1, ?_⟩
 conv => whnf
theorem z70 (code : List Int) (i h : Int) (hi : yK code (i, h)) (hl : code.length ≤ 1048576) : zW PR zBR [.c (.ptr 0 0)] zH (cur code i h) (Int × Int × Int)
  (fun x => yK code x.2) (fun x => ai x.1) (fun x => cur code x.2.1 x.2.2) (fun _ => []) (fun _ => 1) := by
 refine zW.intro hT 0 (pf Tryz.func291) rfl (by kernel_rfl) Tryz.ntmps291 rfl rfl ?_
 intro v0
 conv => whnf
 refine .inr (.inr (.inr (.inr (.inl ⟨0, ?_⟩))))
 conv => whnf
 refine ⟨_, _, _, _, _, _, zA code i h _ hi hl, fun ⟨x, i1, h1⟩ ⟨hx, hi1⟩ => ⟨rfl, ?_⟩⟩
 dsimp only at hx hi1
 conv => whnf
 refine zK (fun g0 => ?_) (fun g0 => ?_) <;> (conv => whnf)
 ·refine .inr (.inr (.inr (.inr (.inl ⟨0, ?_⟩))))
  conv => whnf
  refine ⟨_, _, _, _, _, _, y7 code _ _ _ [0, 1, -1, 9, 10, 999, 1000, 2147483647, -2147483648, 3037000499, 3037000500, 9223372036854775807, -9223372036854775807, -9223372036854775808] (by simp [eL, cI]) hi1 hl (by simp) (by simp), fun ⟨y, j, g⟩ ⟨hy, hj⟩ => ⟨rfl, ?_⟩⟩
  dsimp only at hy hj
  conv => whnf
  refine ⟨(y, j, g), hj, ?_⟩
  conv => whnf
 refine zK (fun g1 => ?_) (fun g1 => ?_) <;> (conv => whnf)
 ·refine zB hT [0, 3, 4] (α := Nat × Int × Int × Int) (fun x => { t := [(0, .w (.ptr 0 0) v0), (3, ai x.2.1), (4, ai x.1)], h := [(0, .box zH (cur code x.2.2.1 x.2.2.2))], n := 1, N := 32 })
   (fun x => x.1 ≤ 8 ∧ yK code x.2.2) (fun x => 8 - x.1) (0, 0, i1, h1) (by first | ((conv => whnf); done) | ((conv => whnf); rfl)) ⟨by omega, hi1⟩ ?_
  intro ⟨k, y, i2, h2⟩ ⟨hk, hi2⟩
  dsimp only at hk hi2
  conv => whnf
  refine zK (fun g2 => ?_) (fun g2 => ?_) <;> (conv => whnf) <;> simp only [eH] at g2
  ·refine .inr (.inr (.inr (.inr (.inl ⟨0, ?_⟩))))
   conv => whnf
   refine ⟨_, _, _, _, _, _, yg code i2 h2 hi2 hl, fun ⟨z, i3, h3⟩ ⟨hz, hi3⟩ => ⟨rfl, ?_⟩⟩
   dsimp only at hz hi3
   conv => whnf
   refine ⟨(k + 1, wAdd .i64 (wMul .i64 y 256) z, i3, h3), by dsimp only; omega, ⟨by dsimp only; omega, hi3⟩, ?_⟩
   ((conv => whnf); simp only [eS, wI (show k < 8 by omega) (by omega)])
  ·refine ⟨(y, i2, h2), hi2, ?_⟩
   conv => whnf
 refine zK (fun g2 => ?_) (fun g2 => ?_) <;> (conv => whnf)
 ·refine .inr (.inr (.inr (.inr (.inl ⟨0, ?_⟩))))
  conv => whnf
  refine ⟨_, _, _, _, _, _, zA code i1 h1 _ hi1 hl, fun ⟨y, i2, h2⟩ ⟨hy, hi2⟩ => ⟨rfl, ?_⟩⟩
  dsimp only at hy hi2
  conv => whnf
  refine ⟨(wSub .i64 y 500000, i2, h2), hi2, ?_⟩
  conv => whnf
 ·refine .inr (.inr (.inr (.inr (.inl ⟨0, ?_⟩))))
  conv => whnf
  refine ⟨_, _, _, _, _, _, zA code i1 h1 _ hi1 hl, fun ⟨y, i2, h2⟩ ⟨hy, hi2⟩ => ⟨rfl, ?_⟩⟩
  dsimp only at hy hi2
  conv => whnf
  refine ⟨(wSub .i64 y 20, i2, h2), hi2, ?_⟩
  conv => whnf
theorem z8F (code : List Int) (i h : Int) (l : List ByteArray) (hi : 0 ≤ i ∧ i ≤ code.length) (hl : code.length ≤ 1048576) (hne : 0 < l.length) (hll : l.length ≤ 1048576) : zW PR z6a [.c (.ptr 0 0), aSs l] zH (cur code i h) (ByteArray × Int × Int)
  (fun x => x.1 ∈ l ∧ yK code x.2) (fun x => aS x.1) (fun x => cur code x.2.1 x.2.2) (fun _ => []) (fun _ => 1) := by
 refine zW.intro hT 0 (pf Tryz.func313) rfl (by kernel_rfl) Tryz.ntmps313 rfl rfl ?_
 intro v0
 conv => whnf
 refine .inr (.inr (.inr (.inr (.inl ⟨0, ?_⟩))))
 conv => whnf
 rw [show nInt (dLen (eL cS l)) = (l.length : Int) by simp]
 refine ⟨_, _, _, _, _, _, zA code i h l.length hi hl, fun ⟨x, i1, h1'⟩ ⟨hx, hi1⟩ => ⟨rfl, ?_⟩⟩
 dsimp only at hx hi1
 conv => whnf
 obtain ⟨k, rfl⟩ : ∃ k : Nat, x = k := ⟨x.toNat, by omega⟩
 obtain ⟨y, hy⟩ := zI (show k < l.length by have := hx.2.1 (by omega); omega)
 refine zG (by simp) hy ?_
 conv => whnf
 refine ⟨(y, i1, h1'), ⟨List.mem_of_getElem? hy, hi1⟩, ?_⟩
 conv => whnf
theorem z4n (code : List Int) (i h : Int) (es : List (List D)) (l : List ByteArray) (he : es = eL cS l) (hi : 0 ≤ i ∧ i ≤ code.length) (hl : code.length ≤ 1048576) (hne : 0 < l.length) (hll : l.length ≤ 1048576) : zW PR z6a [.c (.ptr 0 0), .c (.d (.sl 1 es))] zH (cur code i h) (ByteArray × Int × Int)
  (fun x => x.1 ∈ l ∧ yK code x.2) (fun x => aS x.1) (fun x => cur code x.2.1 x.2.2) (fun _ => []) (fun _ => 1) := he ▸ z8F code i h l hi hl hne hll
end Go.H.S
namespace Go.H.S
open Go Go.Proofs Go.H
attribute [local irreducible] Tri z6 zR zV zY zW
set_option maxHeartbeats 4000000 in
theorem z2N (code : List Int) (i0 u0 : Int) (hi0 : yK code (i0, u0)) (hl : code.length ≤ 1048576) : zW PR zBK [.c (.ptr 0 0)] zH (cur code i0 u0) (Cfg × Int × Int)
  (fun x => x.1.signs.length ≤ 4 ∧ yK code x.2) (fun x => .agg [.d (.int .i64 x.1.rounds), .d (.int .i64 x.1.depth), .d (.int .i64 x.1.bins), .d (.int .i64 x.1.lambda), .d (.int .i64 x.1.rows), .d (.int .i64 x.1.num), .d (.int .i64 x.1.den), .ref 1 0 none]) (fun x => cur code x.2.1 x.2.2)
  (fun x => [(1, .arr zZ 1 0 .own (eL cI x.1.signs))]) (fun _ => 2) := by
 refine zW.intro hT 0 (pf Tryz.func224) rfl (by kernel_rfl) Tryz.ntmps224 rfl rfl ?_
 intro v0
 conv => whnf
 refine .inr (.inr (.inr (.inr (.inl ⟨0, ?_⟩))))
 conv => whnf
 refine ⟨_, _, _, _, _, _, zA code i0 u0 4 hi0 hl, fun ⟨x1, i1, u1⟩ ⟨gx1, hi1⟩ => ⟨rfl, ?_⟩⟩
 dsimp only at gx1 hi1
 conv => whnf
 refine .inr (.inr (.inr (.inr (.inl ⟨0, ?_⟩))))
 conv => whnf
 refine ⟨_, _, _, _, _, _, zA code i1 u1 4 hi1 hl, fun ⟨x2, i2, u2⟩ ⟨gx2, hi2⟩ => ⟨rfl, ?_⟩⟩
 dsimp only at gx2 hi2
 conv => whnf
 refine .inr (.inr (.inr (.inr (.inl ⟨0, ?_⟩))))
 conv => whnf
 refine ⟨_, _, _, _, _, _, zA code i2 u2 5 hi2 hl, fun ⟨x3, i3, u3⟩ ⟨gx3, hi3⟩ => ⟨rfl, ?_⟩⟩
 dsimp only at gx3 hi3
 conv => whnf
 refine .inr (.inr (.inr (.inr (.inl ⟨0, ?_⟩))))
 conv => whnf
 refine ⟨_, _, _, _, _, _, zA code i3 u3 3 hi3 hl, fun ⟨x4, i4, u4⟩ ⟨gx4, hi4⟩ => ⟨rfl, ?_⟩⟩
 dsimp only at gx4 hi4
 conv => whnf
 refine .inr (.inr (.inr (.inr (.inl ⟨0, ?_⟩))))
 conv => whnf
 refine ⟨_, _, _, _, _, _, zA code i4 u4 3 hi4 hl, fun ⟨x5, i5, u5⟩ ⟨gx5, hi5⟩ => ⟨rfl, ?_⟩⟩
 dsimp only at gx5 hi5
 conv => whnf
 refine .inr (.inr (.inr (.inr (.inl ⟨0, ?_⟩))))
 conv => whnf
 refine ⟨_, _, _, _, _, _, zA code i5 u5 3 hi5 hl, fun ⟨x6, i6, u6⟩ ⟨gx6, hi6⟩ => ⟨rfl, ?_⟩⟩
 dsimp only at gx6 hi6
 conv => whnf
 refine .inr (.inr (.inr (.inr (.inl ⟨0, ?_⟩))))
 conv => whnf
 refine ⟨_, _, _, _, _, _, zk code i6 u6 8 hi6 hl, fun ⟨b1, i7, u7⟩ hi7 => ⟨rfl, ?_⟩⟩
 dsimp only at hi7
 cases b1 with
 | true =>
  conv => whnf
  refine .inr (.inr (.inr (.inr (.inl ⟨0, ?_⟩))))
  conv => whnf
  refine ⟨_, _, _, _, _, _, zA code i7 u7 100 hi7 hl, fun ⟨y4, j7, w7⟩ ⟨gy4, hj7⟩ => ⟨rfl, ?_⟩⟩
  dsimp only at gy4 hj7
  conv => whnf
  refine .inr (.inr (.inr (.inr (.inl ⟨0, ?_⟩))))
  conv => whnf
  refine ⟨_, _, _, _, _, _, zk code j7 w7 4 hj7 hl, fun ⟨b2, i8, u8⟩ hi8 => ⟨rfl, ?_⟩⟩
  dsimp only at hi8
  cases b2 with
  | true =>
   conv => whnf
   refine .inr (.inr (.inr (.inr (.inl ⟨0, ?_⟩))))
   conv => whnf
   refine ⟨_, _, _, _, _, _, zA code i8 u8 _ hi8 hl, fun ⟨y5, j8, w8⟩ ⟨gy5, hj8⟩ => ⟨rfl, ?_⟩⟩
   dsimp only at gy5 hj8
   conv => whnf
   refine .inr (.inr (.inr (.inr (.inl ⟨0, ?_⟩))))
   conv => whnf
   refine ⟨_, _, _, _, _, _, zA code j8 w8 5 hj8 hl, fun ⟨x9, i9, u9⟩ ⟨gx9, hi9⟩ => ⟨rfl, ?_⟩⟩
   dsimp only at gx9 hi9
   conv => whnf
   refine z0i 8 7 zZ 1 ?_
   conv => whnf
   refine zB hT [0, 2, 3, 4, 5] (α := Nat × List Int × Int × Int) (fun x' => { t := [(0, .w (.ptr 0 0) v0), (2, .c (.ptr 1 0)), (3, .c (.ptr 2 0)), (4, ai x9), (5, ai x'.1)], h := [(0, .box zH (cur code x'.2.2.1 x'.2.2.2)), (1, .box zc [.d (.int .i64 0), .d (.int .i64 0), .d (.int .i64 0), .d (.int .i64 0), .d (.int .i64 0), .d (.int .i64 0), .d (.int .i64 0), .nl 1]), (2, .box zc [.d (.int .i64 (wAdd .i64 1 x1)), .d (.int .i64 (x2)), .d (.int .i64 (wAdd .i64 2 x3)), .d (.int .i64 (wAdd .i64 1 y4)), .d (.int .i64 (wAdd .i64 1 x5)), .d (.int .i64 (wAdd .i64 1 y5)), .d (.int .i64 (wAdd .i64 1 x6)), .ref 3 0 none]), (3, .arr zZ 1 0 .own (eL cI x'.2.1))], n := 4, N := 54 })
    (fun x' => (x'.1 : Int) ≤ x9 ∧ x'.2.1.length = x'.1 ∧ yK code x'.2.2) (fun x' => x9.toNat - x'.1) (0, [], i9, u9) (by (conv => whnf); simp only [zp]; rfl) ⟨by dsimp only; omega, rfl, hi9⟩ ?_
   intro ⟨a, ss, ia, ua⟩ ⟨ha, hal, hia⟩
   dsimp only at ha hal hia
   conv => whnf
   refine zK (fun q1 => ?_) (fun q1 => ?_) <;> (conv => whnf) <;> simp only [eH] at q1
   ·refine yV hT hmix [0, 2, 3, 4, 5] (Y := Int × Int × Int) (fun y' => yK code y'.2) (fun y' => { t := [(0, .w (.ptr 0 0) v0), (2, .c (.ptr 1 0)), (3, .c (.ptr 2 0)), (4, ai x9), (5, ai a)], h := [(0, .box zH (cur code y'.2.1 y'.2.2)), (1, .box zc [.d (.int .i64 0), .d (.int .i64 0), .d (.int .i64 0), .d (.int .i64 0), .d (.int .i64 0), .d (.int .i64 0), .d (.int .i64 0), .nl 1]), (2, .box zc [.d (.int .i64 (wAdd .i64 1 x1)), .d (.int .i64 (x2)), .d (.int .i64 (wAdd .i64 2 x3)), .d (.int .i64 (wAdd .i64 1 y4)), .d (.int .i64 (wAdd .i64 1 x5)), .d (.int .i64 (wAdd .i64 1 y5)), .d (.int .i64 (wAdd .i64 1 x6)), .ref 3 0 none]), (3, .arr zZ 1 0 .own (eL cI (ss ++ [y'.1])))], n := 4, N := 54 }) rfl ?_ ?_
    ·repeat' first
      | (refine zM rfl ?_; (conv => whnf))
      | (refine zL rfl ?_ ?_ <;> (conv => whnf))
      | (refine zC rfl ?_ ?_ ?_ <;> (conv => whnf))
      | (refine .inr (.inr (.inr (.inr (.inl ⟨0, ?_⟩)))); (conv => whnf); refine ⟨_, _, _, _, _, _, zA code ia ua 3 hia hl, fun ⟨z, ib, ub⟩ ⟨hz, hib⟩ => ⟨rfl, ?_⟩⟩; dsimp only at hz hib; (conv => whnf))
      | (refine And.intro (by simp [z7]; omega) ?_; (conv => whnf))
     all_goals
      refine zO rfl ?_
      refine ⟨(wSub .i64 z 1, ib, ub), hib, ?_⟩
      conv => whnf
      simp only [z7]
      rw [← zX]
      rfl
    ·intro ⟨z, ib, ub⟩ hib
     dsimp only at hib
     conv => whnf
     refine ⟨(a + 1, ss ++ [z], ib, ub), by dsimp only; omega, ⟨by dsimp only; omega, by simp; omega, hib⟩, ?_⟩
     ((conv => whnf); simp only [eS, wI (show a < 5 by omega) (by omega)])
   ·refine ⟨(⟨wAdd .i64 1 x1, x2, wAdd .i64 2 x3, wAdd .i64 1 y4, wAdd .i64 1 x5, wAdd .i64 1 y5, wAdd .i64 1 x6, ss⟩, ia, ua), ⟨by dsimp only; omega, hia⟩, ?_⟩
    conv => whnf
    first | done | rfl
  | false =>
   conv => whnf
   refine .inr (.inr (.inr (.inr (.inl ⟨0, ?_⟩))))
   conv => whnf
   refine ⟨_, _, _, _, _, _, zA code i8 u8 5 hi8 hl, fun ⟨x9, i9, u9⟩ ⟨gx9, hi9⟩ => ⟨rfl, ?_⟩⟩
   dsimp only at gx9 hi9
   conv => whnf
   refine z0i 8 7 zZ 1 ?_
   conv => whnf
   refine zB hT [0, 2, 3, 4, 5] (α := Nat × List Int × Int × Int) (fun x' => { t := [(0, .w (.ptr 0 0) v0), (2, .c (.ptr 1 0)), (3, .c (.ptr 2 0)), (4, ai x9), (5, ai x'.1)], h := [(0, .box zH (cur code x'.2.2.1 x'.2.2.2)), (1, .box zc [.d (.int .i64 0), .d (.int .i64 0), .d (.int .i64 0), .d (.int .i64 0), .d (.int .i64 0), .d (.int .i64 0), .d (.int .i64 0), .nl 1]), (2, .box zc [.d (.int .i64 (wAdd .i64 1 x1)), .d (.int .i64 (x2)), .d (.int .i64 (wAdd .i64 2 x3)), .d (.int .i64 (wAdd .i64 1 y4)), .d (.int .i64 (wAdd .i64 1 x5)), .d (.int .i64 (1)), .d (.int .i64 (wAdd .i64 1 x6)), .ref 3 0 none]), (3, .arr zZ 1 0 .own (eL cI x'.2.1))], n := 4, N := 54 })
    (fun x' => (x'.1 : Int) ≤ x9 ∧ x'.2.1.length = x'.1 ∧ yK code x'.2.2) (fun x' => x9.toNat - x'.1) (0, [], i9, u9) (by (conv => whnf); simp only [zp]; rfl) ⟨by dsimp only; omega, rfl, hi9⟩ ?_
   intro ⟨a, ss, ia, ua⟩ ⟨ha, hal, hia⟩
   dsimp only at ha hal hia
   conv => whnf
   refine zK (fun q1 => ?_) (fun q1 => ?_) <;> (conv => whnf) <;> simp only [eH] at q1
   ·refine yV hT hmix [0, 2, 3, 4, 5] (Y := Int × Int × Int) (fun y' => yK code y'.2) (fun y' => { t := [(0, .w (.ptr 0 0) v0), (2, .c (.ptr 1 0)), (3, .c (.ptr 2 0)), (4, ai x9), (5, ai a)], h := [(0, .box zH (cur code y'.2.1 y'.2.2)), (1, .box zc [.d (.int .i64 0), .d (.int .i64 0), .d (.int .i64 0), .d (.int .i64 0), .d (.int .i64 0), .d (.int .i64 0), .d (.int .i64 0), .nl 1]), (2, .box zc [.d (.int .i64 (wAdd .i64 1 x1)), .d (.int .i64 (x2)), .d (.int .i64 (wAdd .i64 2 x3)), .d (.int .i64 (wAdd .i64 1 y4)), .d (.int .i64 (wAdd .i64 1 x5)), .d (.int .i64 (1)), .d (.int .i64 (wAdd .i64 1 x6)), .ref 3 0 none]), (3, .arr zZ 1 0 .own (eL cI (ss ++ [y'.1])))], n := 4, N := 54 }) rfl ?_ ?_
    ·repeat' first
      | (refine zM rfl ?_; (conv => whnf))
      | (refine zL rfl ?_ ?_ <;> (conv => whnf))
      | (refine zC rfl ?_ ?_ ?_ <;> (conv => whnf))
      | (refine .inr (.inr (.inr (.inr (.inl ⟨0, ?_⟩)))); (conv => whnf); refine ⟨_, _, _, _, _, _, zA code ia ua 3 hia hl, fun ⟨z, ib, ub⟩ ⟨hz, hib⟩ => ⟨rfl, ?_⟩⟩; dsimp only at hz hib; (conv => whnf))
      | (refine And.intro (by simp [z7]; omega) ?_; (conv => whnf))
     all_goals
      refine zO rfl ?_
      refine ⟨(wSub .i64 z 1, ib, ub), hib, ?_⟩
      conv => whnf
      simp only [z7]
      rw [← zX]
      rfl
    ·intro ⟨z, ib, ub⟩ hib
     dsimp only at hib
     conv => whnf
     refine ⟨(a + 1, ss ++ [z], ib, ub), by dsimp only; omega, ⟨by dsimp only; omega, by simp; omega, hib⟩, ?_⟩
     ((conv => whnf); simp only [eS, wI (show a < 5 by omega) (by omega)])
   ·refine ⟨(⟨wAdd .i64 1 x1, x2, wAdd .i64 2 x3, wAdd .i64 1 y4, wAdd .i64 1 x5, 1, wAdd .i64 1 x6, ss⟩, ia, ua), ⟨by dsimp only; omega, hia⟩, ?_⟩
    conv => whnf
    first | done | rfl
 | false =>
  conv => whnf
  refine .inr (.inr (.inr (.inr (.inl ⟨0, ?_⟩))))
  conv => whnf
  refine ⟨_, _, _, _, _, _, zk code i7 u7 4 hi7 hl, fun ⟨b2, i8, u8⟩ hi8 => ⟨rfl, ?_⟩⟩
  dsimp only at hi8
  cases b2 with
  | true =>
   conv => whnf
   refine .inr (.inr (.inr (.inr (.inl ⟨0, ?_⟩))))
   conv => whnf
   refine ⟨_, _, _, _, _, _, zA code i8 u8 _ hi8 hl, fun ⟨y5, j8, w8⟩ ⟨gy5, hj8⟩ => ⟨rfl, ?_⟩⟩
   dsimp only at gy5 hj8
   conv => whnf
   refine .inr (.inr (.inr (.inr (.inl ⟨0, ?_⟩))))
   conv => whnf
   refine ⟨_, _, _, _, _, _, zA code j8 w8 5 hj8 hl, fun ⟨x9, i9, u9⟩ ⟨gx9, hi9⟩ => ⟨rfl, ?_⟩⟩
   dsimp only at gx9 hi9
   conv => whnf
   refine z0i 8 7 zZ 1 ?_
   conv => whnf
   refine zB hT [0, 2, 3, 4, 5] (α := Nat × List Int × Int × Int) (fun x' => { t := [(0, .w (.ptr 0 0) v0), (2, .c (.ptr 1 0)), (3, .c (.ptr 2 0)), (4, ai x9), (5, ai x'.1)], h := [(0, .box zH (cur code x'.2.2.1 x'.2.2.2)), (1, .box zc [.d (.int .i64 0), .d (.int .i64 0), .d (.int .i64 0), .d (.int .i64 0), .d (.int .i64 0), .d (.int .i64 0), .d (.int .i64 0), .nl 1]), (2, .box zc [.d (.int .i64 (wAdd .i64 1 x1)), .d (.int .i64 (x2)), .d (.int .i64 (wAdd .i64 2 x3)), .d (.int .i64 (wAdd .i64 1 x4)), .d (.int .i64 (wAdd .i64 1 x5)), .d (.int .i64 (wAdd .i64 1 y5)), .d (.int .i64 (wAdd .i64 1 x6)), .ref 3 0 none]), (3, .arr zZ 1 0 .own (eL cI x'.2.1))], n := 4, N := 54 })
    (fun x' => (x'.1 : Int) ≤ x9 ∧ x'.2.1.length = x'.1 ∧ yK code x'.2.2) (fun x' => x9.toNat - x'.1) (0, [], i9, u9) (by (conv => whnf); simp only [zp]; rfl) ⟨by dsimp only; omega, rfl, hi9⟩ ?_
   intro ⟨a, ss, ia, ua⟩ ⟨ha, hal, hia⟩
   dsimp only at ha hal hia
   conv => whnf
   refine zK (fun q1 => ?_) (fun q1 => ?_) <;> (conv => whnf) <;> simp only [eH] at q1
   ·refine yV hT hmix [0, 2, 3, 4, 5] (Y := Int × Int × Int) (fun y' => yK code y'.2) (fun y' => { t := [(0, .w (.ptr 0 0) v0), (2, .c (.ptr 1 0)), (3, .c (.ptr 2 0)), (4, ai x9), (5, ai a)], h := [(0, .box zH (cur code y'.2.1 y'.2.2)), (1, .box zc [.d (.int .i64 0), .d (.int .i64 0), .d (.int .i64 0), .d (.int .i64 0), .d (.int .i64 0), .d (.int .i64 0), .d (.int .i64 0), .nl 1]), (2, .box zc [.d (.int .i64 (wAdd .i64 1 x1)), .d (.int .i64 (x2)), .d (.int .i64 (wAdd .i64 2 x3)), .d (.int .i64 (wAdd .i64 1 x4)), .d (.int .i64 (wAdd .i64 1 x5)), .d (.int .i64 (wAdd .i64 1 y5)), .d (.int .i64 (wAdd .i64 1 x6)), .ref 3 0 none]), (3, .arr zZ 1 0 .own (eL cI (ss ++ [y'.1])))], n := 4, N := 54 }) rfl ?_ ?_
    ·repeat' first
      | (refine zM rfl ?_; (conv => whnf))
      | (refine zL rfl ?_ ?_ <;> (conv => whnf))
      | (refine zC rfl ?_ ?_ ?_ <;> (conv => whnf))
      | (refine .inr (.inr (.inr (.inr (.inl ⟨0, ?_⟩)))); (conv => whnf); refine ⟨_, _, _, _, _, _, zA code ia ua 3 hia hl, fun ⟨z, ib, ub⟩ ⟨hz, hib⟩ => ⟨rfl, ?_⟩⟩; dsimp only at hz hib; (conv => whnf))
      | (refine And.intro (by simp [z7]; omega) ?_; (conv => whnf))
     all_goals
      refine zO rfl ?_
      refine ⟨(wSub .i64 z 1, ib, ub), hib, ?_⟩
      conv => whnf
      simp only [z7]
      rw [← zX]
      rfl
    ·intro ⟨z, ib, ub⟩ hib
     dsimp only at hib
     conv => whnf
     refine ⟨(a + 1, ss ++ [z], ib, ub), by dsimp only; omega, ⟨by dsimp only; omega, by simp; omega, hib⟩, ?_⟩
     ((conv => whnf); simp only [eS, wI (show a < 5 by omega) (by omega)])
   ·refine ⟨(⟨wAdd .i64 1 x1, x2, wAdd .i64 2 x3, wAdd .i64 1 x4, wAdd .i64 1 x5, wAdd .i64 1 y5, wAdd .i64 1 x6, ss⟩, ia, ua), ⟨by dsimp only; omega, hia⟩, ?_⟩
    conv => whnf
    first | done | rfl
  | false =>
   conv => whnf
   refine .inr (.inr (.inr (.inr (.inl ⟨0, ?_⟩))))
   conv => whnf
   refine ⟨_, _, _, _, _, _, zA code i8 u8 5 hi8 hl, fun ⟨x9, i9, u9⟩ ⟨gx9, hi9⟩ => ⟨rfl, ?_⟩⟩
   dsimp only at gx9 hi9
   conv => whnf
   refine z0i 8 7 zZ 1 ?_
   conv => whnf
   refine zB hT [0, 2, 3, 4, 5] (α := Nat × List Int × Int × Int) (fun x' => { t := [(0, .w (.ptr 0 0) v0), (2, .c (.ptr 1 0)), (3, .c (.ptr 2 0)), (4, ai x9), (5, ai x'.1)], h := [(0, .box zH (cur code x'.2.2.1 x'.2.2.2)), (1, .box zc [.d (.int .i64 0), .d (.int .i64 0), .d (.int .i64 0), .d (.int .i64 0), .d (.int .i64 0), .d (.int .i64 0), .d (.int .i64 0), .nl 1]), (2, .box zc [.d (.int .i64 (wAdd .i64 1 x1)), .d (.int .i64 (x2)), .d (.int .i64 (wAdd .i64 2 x3)), .d (.int .i64 (wAdd .i64 1 x4)), .d (.int .i64 (wAdd .i64 1 x5)), .d (.int .i64 (1)), .d (.int .i64 (wAdd .i64 1 x6)), .ref 3 0 none]), (3, .arr zZ 1 0 .own (eL cI x'.2.1))], n := 4, N := 54 })
    (fun x' => (x'.1 : Int) ≤ x9 ∧ x'.2.1.length = x'.1 ∧ yK code x'.2.2) (fun x' => x9.toNat - x'.1) (0, [], i9, u9) (by (conv => whnf); simp only [zp]; rfl) ⟨by dsimp only; omega, rfl, hi9⟩ ?_
   intro ⟨a, ss, ia, ua⟩ ⟨ha, hal, hia⟩
   dsimp only at ha hal hia
   conv => whnf
   refine zK (fun q1 => ?_) (fun q1 => ?_) <;> (conv => whnf) <;> simp only [eH] at q1
   ·refine yV hT hmix [0, 2, 3, 4, 5] (Y := Int × Int × Int) (fun y' => yK code y'.2) (fun y' => { t := [(0, .w (.ptr 0 0) v0), (2, .c (.ptr 1 0)), (3, .c (.ptr 2 0)), (4, ai x9), (5, ai a)], h := [(0, .box zH (cur code y'.2.1 y'.2.2)), (1, .box zc [.d (.int .i64 0), .d (.int .i64 0), .d (.int .i64 0), .d (.int .i64 0), .d (.int .i64 0), .d (.int .i64 0), .d (.int .i64 0), .nl 1]), (2, .box zc [.d (.int .i64 (wAdd .i64 1 x1)), .d (.int .i64 (x2)), .d (.int .i64 (wAdd .i64 2 x3)), .d (.int .i64 (wAdd .i64 1 x4)), .d (.int .i64 (wAdd .i64 1 x5)), .d (.int .i64 (1)), .d (.int .i64 (wAdd .i64 1 x6)), .ref 3 0 none]), (3, .arr zZ 1 0 .own (eL cI (ss ++ [y'.1])))], n := 4, N := 54 }) rfl ?_ ?_
    ·repeat' first
      | (refine zM rfl ?_; (conv => whnf))
      | (refine zL rfl ?_ ?_ <;> (conv => whnf))
      | (refine zC rfl ?_ ?_ ?_ <;> (conv => whnf))
      | (refine .inr (.inr (.inr (.inr (.inl ⟨0, ?_⟩)))); (conv => whnf); refine ⟨_, _, _, _, _, _, zA code ia ua 3 hia hl, fun ⟨z, ib, ub⟩ ⟨hz, hib⟩ => ⟨rfl, ?_⟩⟩; dsimp only at hz hib; (conv => whnf))
      | (refine And.intro (by simp [z7]; omega) ?_; (conv => whnf))
     all_goals
      refine zO rfl ?_
      refine ⟨(wSub .i64 z 1, ib, ub), hib, ?_⟩
      conv => whnf
      simp only [z7]
      rw [← zX]
      rfl
    ·intro ⟨z, ib, ub⟩ hib
     dsimp only at hib
     conv => whnf
     refine ⟨(a + 1, ss ++ [z], ib, ub), by dsimp only; omega, ⟨by dsimp only; omega, by simp; omega, hib⟩, ?_⟩
     ((conv => whnf); simp only [eS, wI (show a < 5 by omega) (by omega)])
   ·refine ⟨(⟨wAdd .i64 1 x1, x2, wAdd .i64 2 x3, wAdd .i64 1 x4, wAdd .i64 1 x5, 1, wAdd .i64 1 x6, ss⟩, ia, ua), ⟨by dsimp only; omega, hia⟩, ?_⟩
    conv => whnf
    first | done | rfl
set_option maxHeartbeats 4000000 in
theorem z8D (code : List Int) (i0 u0 : Int) (hi0 : yK code (i0, u0)) (hl : code.length ≤ 1048576) : zW PR zDT [.c (.ptr 0 0)] zH (cur code i0 u0) (Cfg × Int × Int)
  (fun x => x.1.signs.length ≤ 5 ∧ yK code x.2) (fun x => .agg [.d (.int .i64 x.1.rounds), .d (.int .i64 x.1.depth), .d (.int .i64 x.1.bins), .d (.int .i64 x.1.lambda), .d (.int .i64 x.1.rows), .d (.int .i64 x.1.num), .d (.int .i64 x.1.den), .ref 1 0 none]) (fun x => cur code x.2.1 x.2.2)
  (fun x => [(1, .arr zZ 1 0 .own (eL cI x.1.signs))]) (fun _ => 2) := by
 refine zW.intro hT 0 (pf Tryz.func225) rfl (by kernel_rfl) Tryz.ntmps225 rfl rfl ?_
 intro v0
 conv => whnf
 refine .inr (.inr (.inr (.inr (.inl ⟨0, ?_⟩))))
 conv => whnf
 refine ⟨_, _, _, _, _, _, z2N code i0 u0 hi0 hl, fun ⟨⟨a1, a2, a3, a4, a5, a6, a7, ss⟩, i1, u1⟩ ⟨hss, hi1⟩ => ⟨rfl, ?_⟩⟩
 dsimp only at hss hi1
 conv => whnf
 refine .inr (.inr (.inr (.inr (.inl ⟨0, ?_⟩))))
 conv => whnf
 refine ⟨_, _, _, _, _, _, zA code i1 u1 12 hi1 hl, fun ⟨x, i2, u2⟩ ⟨hx, hi2⟩ => ⟨rfl, ?_⟩⟩
 dsimp only at hx hi2
 conv => whnf
 refine zK (fun q0 => ?_) (fun q0 => ?_) <;> (conv => whnf)
 ·refine .inr (.inr (.inr (.inr (.inl ⟨0, ?_⟩))))
  conv => whnf
  refine ⟨_, _, _, _, _, _, y7 code i2 u2 _ [0, 1, 8, 9, -1] (by simp [eL, cI]) hi2 hl (by simp) (by simp), fun ⟨y, i3, u3⟩ ⟨hy, hi3⟩ => ⟨rfl, ?_⟩⟩
  dsimp only at hi3
  conv => whnf
  refine ⟨(⟨y, a2, a3, a4, a5, a6, a7, ss⟩, i3, u3), ⟨by dsimp only; omega, hi3⟩, ?_⟩
  conv => whnf
  first | done | rfl
 refine zK (fun q1 => ?_) (fun q1 => ?_) <;> (conv => whnf)
 ·refine .inr (.inr (.inr (.inr (.inl ⟨0, ?_⟩))))
  conv => whnf
  refine ⟨_, _, _, _, _, _, y7 code i2 u2 _ [-1, 0, 4, 5] (by simp [eL, cI]) hi2 hl (by simp) (by simp), fun ⟨y, i3, u3⟩ ⟨hy, hi3⟩ => ⟨rfl, ?_⟩⟩
  dsimp only at hi3
  conv => whnf
  refine ⟨(⟨a1, y, a3, a4, a5, a6, a7, ss⟩, i3, u3), ⟨by dsimp only; omega, hi3⟩, ?_⟩
  conv => whnf
  first | done | rfl
 refine zK (fun q2 => ?_) (fun q2 => ?_) <;> (conv => whnf)
 ·refine .inr (.inr (.inr (.inr (.inl ⟨0, ?_⟩))))
  conv => whnf
  refine ⟨_, _, _, _, _, _, y7 code i2 u2 _ [1, 2, 8, 9] (by simp [eL, cI]) hi2 hl (by simp) (by simp), fun ⟨y, i3, u3⟩ ⟨hy, hi3⟩ => ⟨rfl, ?_⟩⟩
  dsimp only at hi3
  conv => whnf
  refine ⟨(⟨a1, a2, y, a4, a5, a6, a7, ss⟩, i3, u3), ⟨by dsimp only; omega, hi3⟩, ?_⟩
  conv => whnf
  first | done | rfl
 refine zK (fun q3 => ?_) (fun q3 => ?_) <;> (conv => whnf)
 ·refine .inr (.inr (.inr (.inr (.inl ⟨0, ?_⟩))))
  conv => whnf
  refine ⟨_, _, _, _, _, _, y7 code i2 u2 _ [0, 1, 100, 101, 9223372036854775807] (by simp [eL, cI]) hi2 hl (by simp) (by simp), fun ⟨y, i3, u3⟩ ⟨hy, hi3⟩ => ⟨rfl, ?_⟩⟩
  dsimp only at hi3
  conv => whnf
  refine ⟨(⟨a1, a2, a3, y, a5, a6, a7, ss⟩, i3, u3), ⟨by dsimp only; omega, hi3⟩, ?_⟩
  conv => whnf
  first | done | rfl
 refine zK (fun q4 => ?_) (fun q4 => ?_) <;> (conv => whnf)
 ·refine .inr (.inr (.inr (.inr (.inl ⟨0, ?_⟩))))
  conv => whnf
  refine ⟨_, _, _, _, _, _, y7 code i2 u2 _ [0, 1, 20, 21] (by simp [eL, cI]) hi2 hl (by simp) (by simp), fun ⟨y, i3, u3⟩ ⟨hy, hi3⟩ => ⟨rfl, ?_⟩⟩
  dsimp only at hi3
  conv => whnf
  refine ⟨(⟨a1, a2, a3, a4, y, a6, a7, ss⟩, i3, u3), ⟨by dsimp only; omega, hi3⟩, ?_⟩
  conv => whnf
  first | done | rfl
 refine zK (fun q5 => ?_) (fun q5 => ?_) <;> (conv => whnf)
 ·refine .inr (.inr (.inr (.inr (.inl ⟨0, ?_⟩))))
  conv => whnf
  refine ⟨_, _, _, _, _, _, y7 code i2 u2 _ [0, 1, a7, wAdd .i64 a7 1, -1] (by simp [eL, cI]) hi2 hl (by simp) (by simp), fun ⟨y, i3, u3⟩ ⟨hy, hi3⟩ => ⟨rfl, ?_⟩⟩
  dsimp only at hi3
  conv => whnf
  refine ⟨(⟨a1, a2, a3, a4, a5, y, a7, ss⟩, i3, u3), ⟨by dsimp only; omega, hi3⟩, ?_⟩
  conv => whnf
  first | done | rfl
 refine zK (fun q6 => ?_) (fun q6 => ?_) <;> (conv => whnf)
 ·refine .inr (.inr (.inr (.inr (.inl ⟨0, ?_⟩))))
  conv => whnf
  refine ⟨_, _, _, _, _, _, y7 code i2 u2 _ [0, 1, 1000, 1001, 9223372036854775807] (by simp [eL, cI]) hi2 hl (by simp) (by simp), fun ⟨y, i3, u3⟩ ⟨hy, hi3⟩ => ⟨rfl, ?_⟩⟩
  dsimp only at hi3
  conv => whnf
  refine ⟨(⟨a1, a2, a3, a4, a5, a6, y, ss⟩, i3, u3), ⟨by dsimp only; omega, hi3⟩, ?_⟩
  conv => whnf
  first | done | rfl
 refine zK (fun q7 => ?_) (fun q7 => ?_) <;> (conv => whnf)
 ·refine yV hT hmix [0, 2, 3] (Y := Int × Int × Int) (fun y' => yK code y'.2) (fun y' => { t := [(0, .w (.ptr 0 0) v0), (2, .c (.ptr 1 0)), (3, .c (.ptr 2 0))], h := [(0, .box zH (cur code y'.2.1 y'.2.2)), (1, .box zc [.d (.int .i64 0), .d (.int .i64 0), .d (.int .i64 0), .d (.int .i64 0), .d (.int .i64 0), .d (.int .i64 0), .d (.int .i64 0), .nl 1]), (2, .box zc [.d (.int .i64 a1), .d (.int .i64 a2), .d (.int .i64 a3), .d (.int .i64 a4), .d (.int .i64 a5), .d (.int .i64 a6), .d (.int .i64 a7), .ref 3 0 none]), (3, .arr zZ 1 0 .own (eL cI (ss ++ [y'.1])))], n := 4, N := 66 }) rfl ?_ ?_
  ·repeat' first
    | (refine zM rfl ?_; (conv => whnf))
    | (refine zL rfl ?_ ?_ <;> (conv => whnf))
    | (refine zC rfl ?_ ?_ ?_ <;> (conv => whnf))
    | (refine .inr (.inr (.inr (.inr (.inl ⟨0, ?_⟩)))); (conv => whnf); refine ⟨_, _, _, _, _, _, zA code i2 u2 5 hi2 hl, fun ⟨z, ib, ub⟩ ⟨hz, hib⟩ => ⟨rfl, ?_⟩⟩; dsimp only at hz hib; (conv => whnf))
    | (refine And.intro (by simp [z7]; omega) ?_; (conv => whnf))
   all_goals
    refine zO rfl ?_
    refine ⟨(wSub .i64 z 2, ib, ub), hib, ?_⟩
    conv => whnf
    simp only [z7]
    rw [← zX]
    rfl
  ·intro ⟨z, ib, ub⟩ hib
   dsimp only at hib
   conv => whnf
   refine ⟨(⟨a1, a2, a3, a4, a5, a6, a7, ss ++ [z]⟩, ib, ub), ⟨by simp; omega, hib⟩, ?_⟩
   conv => whnf
   first | done | rfl
 ·refine ⟨(⟨a1, a2, a3, a4, a5, a6, a7, ss⟩, i2, u2), ⟨by dsimp only; omega, hi2⟩, ?_⟩
  conv => whnf
  first | done | rfl
theorem yC (code : List Int) (i0 u0 : Int) (hi0 : yK code (i0, u0)) (hl : code.length ≤ 1048576) : zW PR zBN [.c (.ptr 0 0)] zH (cur code i0 u0) (Int × Int × Int)
  (fun x => (-2147483647 ≤ x.1 ∧ x.1 ≤ 2147483647) ∧ yK code x.2) (fun x => ai x.1) (fun x => cur code x.2.1 x.2.2) (fun _ => []) (fun _ => 1) := by
 refine zW.intro hT 0 (pf Tryz.func292) rfl (by kernel_rfl) Tryz.ntmps292 rfl rfl ?_
 intro v0
 conv => whnf
 refine .inr (.inr (.inr (.inr (.inl ⟨0, ?_⟩))))
 conv => whnf
 refine ⟨_, _, _, _, _, _, zk code i0 u0 20 hi0 hl, fun ⟨b, i1, u1⟩ hi1 => ⟨rfl, ?_⟩⟩
 dsimp only at hi1
 cases b with
 | true =>
  conv => whnf
  refine .inr (.inr (.inr (.inr (.inl ⟨0, ?_⟩))))
  conv => whnf
  refine ⟨_, _, _, _, _, _, y7 code i1 u1 _ [2147483647, -2147483647, 1, -1, 1000000000] (by simp [eL, cI]) hi1 hl (by simp) (by simp), fun ⟨y, i2, u2⟩ ⟨hy, hi2⟩ => ⟨rfl, ?_⟩⟩
  dsimp only at hy hi2
  conv => whnf
  refine ⟨(y, i2, u2), ⟨by simp at hy; dsimp only; omega, hi2⟩, ?_⟩
  conv => whnf
  first | done | rfl
 | false =>
  conv => whnf
  refine .inr (.inr (.inr (.inr (.inl ⟨0, ?_⟩))))
  conv => whnf
  refine ⟨_, _, _, _, _, _, zk code i1 u1 2 hi1 hl, fun ⟨b, i2, u2⟩ hi2 => ⟨rfl, ?_⟩⟩
  dsimp only at hi2
  cases b with
  | true =>
   conv => whnf
   refine .inr (.inr (.inr (.inr (.inl ⟨0, ?_⟩))))
   conv => whnf
   refine ⟨_, _, _, _, _, _, zA code i2 u2 9 hi2 hl, fun ⟨y, i3, u3⟩ ⟨hy, hi3⟩ => ⟨rfl, ?_⟩⟩
   dsimp only at hy hi3
   have hy2 := hy.2.1 (by decide)
   conv => whnf
   rw [show wSub .i64 y 4 = y - 4 from yB (by omega) (by omega), show wMul .i64 1000 (y - 4) = 1000 * (y - 4) from z1S (by omega) (by omega)]
   refine ⟨(1000 * (y - 4), i3, u3), ⟨by dsimp only; omega, hi3⟩, ?_⟩
   conv => whnf
   first | done | rfl
  | false =>
   conv => whnf
   refine .inr (.inr (.inr (.inr (.inl ⟨0, ?_⟩))))
   conv => whnf
   refine ⟨_, _, _, _, _, _, zA code i2 u2 41 hi2 hl, fun ⟨y, i3, u3⟩ ⟨hy, hi3⟩ => ⟨rfl, ?_⟩⟩
   dsimp only at hy hi3
   have hy2 := hy.2.1 (by decide)
   conv => whnf
   rw [show wSub .i64 y 20 = y - 20 from yB (by omega) (by omega), show wMul .i64 250 (y - 20) = 250 * (y - 20) from z1S (by omega) (by omega)]
   refine ⟨(250 * (y - 20), i3, u3), ⟨by dsimp only; omega, hi3⟩, ?_⟩
   conv => whnf
   first | done | rfl
end Go.H.S
namespace Go.H.S
open Go Go.Proofs Go.H
attribute [local irreducible] Tri z6 zR zV zY zW
def abcd : List ByteArray := [⟨#[97]⟩, ⟨#[98]⟩, ⟨#[99, 50]⟩, ⟨#[100]⟩]
structure drawnT (t : Tbl) : Prop where
 one : 1 ≤ t.names.length
 names : t.names.length ≤ 3
 texts : ∀ s ∈ t.names, s.size ≤ 100
 target : t.target.size ≤ 100
 some : 1 ≤ t.rows.length
 rows : t.rows.length ≤ 40
 cols : ∀ r ∈ t.rows, r.length = t.names.length
 ys : t.ys.length = t.rows.length
 nm : ∃ k : Nat, 1 ≤ k ∧ k ≤ 3 ∧ t.names = abcd.take k
 tg : t.target = ⟨#[121]⟩
 vals : ∀ r ∈ t.rows, ∀ x ∈ r, -2147483647 ≤ x ∧ x ≤ 2147483647
 yv : ∀ y ∈ t.ys, -2147483647 ≤ y ∧ y ≤ 2147483647
theorem v500 {z : Int} (h : 0 ≤ z ∧ z < 7) : -1500 ≤ wMul .i64 500 (wSub .i64 z 3) ∧ wMul .i64 500 (wSub .i64 z 3) ≤ 1500 := by
 rw [show wSub .i64 z 3 = z - 3 from yB (by omega) (by omega), show wMul .i64 500 (z - 3) = 500 * (z - 3) from z1S (by omega) (by omega)]; omega
theorem zKY {s z : Int} (hs : -1500 ≤ s ∧ s ≤ 1500) (hz : 0 ≤ z ∧ z < 5) : -2147483647 ≤ wAdd .i64 (wMul .i64 s 2) (wMul .i64 100 z) ∧ wAdd .i64 (wMul .i64 s 2) (wMul .i64 100 z) ≤ 2147483647 := by
 rw [show wMul .i64 s 2 = s * 2 from z1S (by omega) (by omega), show wMul .i64 100 z = 100 * z from z1S (by omega) (by omega), show wAdd .i64 (s * 2) (100 * z) = s * 2 + 100 * z from y6 (by omega) (by omega)]; omega
set_option maxHeartbeats 4000000 in
theorem z6x (code : List Int) (i0 u0 : Int) (hi0 : yK code (i0, u0)) (hl : code.length ≤ 1048576) : zW PR z4r [.c (.ptr 0 0)] zH (cur code i0 u0) (Tbl × Int × Int)
    (fun x => drawnT x.1 ∧ yK code x.2) (fun x => .agg [.ref 1 0 none, .d (.str x.1.target), .ref 2 0 none, .ref 3 0 none]) (fun x => cur code x.2.1 x.2.2)
    (fun x => [(1, .arr zy 1 0 .own (eL cS x.1.names)), (2, .arr yS 1 0 .own (eL cIs x.1.rows)), (3, .arr zZ 1 0 .own (eL cI x.1.ys))]) (fun _ => 4) := by
  refine zW.intro hT 0 (pf Tryz.func275) rfl (by kernel_rfl) Tryz.ntmps275 rfl rfl ?_
  intro v0
  conv => whnf
  refine .inr (.inr (.inr (.inr (.inl ⟨0, ?_⟩))))
  conv => whnf
  refine ⟨_, _, _, _, _, _, zA code i0 u0 3 hi0 hl, fun ⟨x1, i1, u1⟩ ⟨gx1, hi1⟩ => ⟨rfl, ?_⟩⟩
  dsimp only at gx1 hi1
  have x1b := gx1.2.1 (by decide)
  conv => whnf
  rw [show wAdd .i64 1 x1 = 1 + x1 from y6 (by omega) (by omega)]
  have hp : z0A [[D.str { data := #[97] }], [D.str { data := #[98] }], [D.str { data := #[99, 50] }], [D.str { data := #[100] }]] (some (true, nAdd (offR none) (nOf 0), nSub (nOf (1 + x1)) (nOf 0))) = eL cS (abcd.take (1 + x1).toNat) := by
    rw [show [[D.str { data := #[97] }], [D.str { data := #[98] }], [D.str { data := #[99, 50] }], [D.str { data := #[100] }]] = eL cS abcd from by simp [eL, cS, abcd], zJ0]
    simp [wD, z7I, z1B, offR]
  refine And.intro (by simp [InS, z0a]; omega) ?_
  conv => whnf
  refine And.intro (by rw [hp]; simp [zE, zQ, abcd]; omega) ?_
  conv => whnf
  rw [hp]
  refine .inr (.inr (.inr (.inr (.inl ⟨0, ?_⟩))))
  conv => whnf
  refine ⟨_, _, _, _, _, _, zA code i1 u1 9 hi1 hl, fun ⟨x2, i2, u2⟩ ⟨gx2, hi2⟩ => ⟨rfl, ?_⟩⟩
  dsimp only at gx2 hi2
  have x2b := gx2.2.1 (by decide)
  conv => whnf
  refine .inr (.inr (.inr (.inr (.inl ⟨0, ?_⟩))))
  conv => whnf
  refine ⟨_, _, _, _, _, _, zk code i2 u2 10 hi2 hl, fun ⟨b1, i3, u3⟩ hi3 => ⟨rfl, ?_⟩⟩
  dsimp only at hi3
  cases b1 with
  | true =>
    conv => whnf
    refine .inr (.inr (.inr (.inr (.inl ⟨0, ?_⟩))))
    conv => whnf
    refine ⟨_, _, _, _, _, _, zA code i3 u3 40 hi3 hl, fun ⟨x3, i4, u4⟩ ⟨gx3, hi4⟩ => ⟨rfl, ?_⟩⟩
    dsimp only at gx3 hi4
    have x3b := gx3.2.1 (by decide)
    conv => whnf
    obtain ⟨M, hM, hMm⟩ : ∃ M : Int, wAdd .i64 1 x3 = M ∧ (1 ≤ M ∧ M ≤ 40) := ⟨1 + x3, y6 (by omega) (by omega), by omega⟩
    refine .inr (.inr (.inr (.inr (.inl ⟨0, ?_⟩))))
    conv => whnf
    refine ⟨_, _, _, _, _, _, zk code i4 u4 12 hi4 hl, fun ⟨b2, i5, u5⟩ hi5 => ⟨rfl, ?_⟩⟩
    dsimp only at hi5
    conv => whnf
    rw [hM]
    refine z0i 5 2 yS 1 ?_
    conv => whnf
    refine z0i 5 3 zZ 1 ?_
    conv => whnf
    refine zB hT [0, 2, 3, 4, 5, 6, 7] (α := Nat × List (List Int) × List Int × Int × Int) (fun x' => { t := [(0, .w (.ptr 0 0) v0), (2, .c (.ptr 1 0)), (3, ai (1 + x1)), (4, .c (.ptr 2 0)), (5, ai M), (6, ab b2), (7, ai x'.1)], h := [(0, .box zH (cur code x'.2.2.2.1 x'.2.2.2.2)), (1, .box zF [.nl 1, .d (.str ⟨#[]⟩), .nl 1, .nl 1]), (2, .box zF [.ref 3 0 none, .d (.str ⟨#[121]⟩), .ref 4 0 none, .ref 5 0 none]), (3, .arr zy 1 0 .own (eL cS (abcd.take (1 + x1).toNat))), (4, .arr yS 1 0 .own (eL cIs x'.2.1)), (5, .arr zZ 1 0 .own (eL cI x'.2.2.1))], n := 6, N := 84 })
      (fun x' => (x'.1 : Int) ≤ M ∧ x'.2.1.length = x'.1 ∧ x'.2.2.1.length = x'.1 ∧ (∀ r ∈ x'.2.1, r.length = (1 + x1).toNat) ∧ (∀ r ∈ x'.2.1, ∀ x ∈ r, -2147483647 ≤ x ∧ x ≤ 2147483647) ∧ (∀ v ∈ x'.2.2.1, -2147483647 ≤ v ∧ v ≤ 2147483647) ∧ yK code x'.2.2.2) (fun x' => M.toNat - x'.1) (0, [], [], i5, u5) (by (conv => whnf); simp only [wo, zp]; rfl) ⟨by dsimp only; omega, rfl, rfl, fun r hr => absurd hr (by simp), fun r hr => absurd hr (by simp), fun v hv => absurd hv (by simp), hi5⟩ ?_
    intro ⟨a, rs, ys, i6, u6⟩ ⟨ha, har, hay, hrs, hrv, hyv, hi6⟩
    dsimp only at ha har hay hrs hrv hyv hi6
    conv => whnf
    refine zK (fun q1 => ?_) (fun q1 => ?_) <;> (conv => whnf) <;> simp only [eH] at q1
    · refine zB hT [0, 2, 3, 4, 5, 6, 7, 8, 9] (α := Bool × List Int × Int × Int) (fun y' => match y'.1 with
          | false => { t := [(0, .w (.ptr 0 0) v0), (2, .c (.ptr 1 0)), (3, ai (1 + x1)), (4, .c (.ptr 2 0)), (5, ai M), (6, ab b2), (7, ai a), (8, .c (.ref 6 0 none)), (9, ai y'.2.1.length)], h := [(0, .box zH (cur code y'.2.2.1 y'.2.2.2)), (1, .box zF [.nl 1, .d (.str ⟨#[]⟩), .nl 1, .nl 1]), (2, .box zF [.ref 3 0 none, .d (.str ⟨#[121]⟩), .ref 4 0 none, .ref 5 0 none]), (3, .arr zy 1 0 .own (eL cS (abcd.take (1 + x1).toNat))), (4, .arr yS 1 0 .own (eL cIs rs)), (5, .arr zZ 1 0 .own (eL cI ys)), (6, .arr zZ 1 0 .own (eL cI y'.2.1))], n := 7, N := 84 }
          | true => { t := [(0, .w (.ptr 0 0) v0), (2, .c (.ptr 1 0)), (3, ai (1 + x1)), (4, .c (.ptr 2 0)), (5, ai M), (6, ab b2), (7, ai a), (8, aIs y'.2.1), (9, ai y'.2.1.length)], h := [(0, .box zH (cur code y'.2.2.1 y'.2.2.2)), (1, .box zF [.nl 1, .d (.str ⟨#[]⟩), .nl 1, .nl 1]), (2, .box zF [.ref 3 0 none, .d (.str ⟨#[121]⟩), .ref 4 0 none, .ref 5 0 none]), (3, .arr zy 1 0 .own (eL cS (abcd.take (1 + x1).toNat))), (4, .arr yS 1 0 .own (eL cIs rs)), (5, .arr zZ 1 0 .own (eL cI ys))], n := 6, N := 84 })
        (fun y' => (y'.2.1.length : Int) ≤ 1 + x1 ∧ (y'.1 = true ↔ (y'.2.1.length : Int) = 1 + x1) ∧ (∀ x ∈ y'.2.1, -2147483647 ≤ x ∧ x ≤ 2147483647 ∧ (b2 = false → -1500 ≤ x ∧ x ≤ 1500)) ∧ yK code y'.2.2) (fun y' => (1 + x1).toNat - y'.2.1.length) (false, [], i6, u6) (by (conv => whnf); simp only [zp]; rfl) ⟨by simp; omega, by simp; omega, fun x hx => absurd hx (by simp), hi6⟩ ?_
      intro ⟨e, ss, i7, u7⟩ ⟨hs1, hs2, hs4, hi7⟩
      dsimp only at hs1 hs2 hs4 hi7
      cases e with
      | false =>
        have hs3 : (ss.length : Int) < 1 + x1 := Decidable.byContradiction (fun q => by have := hs2.2 (by omega); cases this)
        conv => whnf
        rw [show iLt (ss.length : Int) (1 + x1) = true from decide_eq_true hs3]
        conv => whnf
        refine .inr (.inr (.inr (.inr (.inl ⟨0, ?_⟩))))
        conv => whnf
        refine ⟨_, _, _, _, _, _, yC code i7 u7 hi7 hl, fun ⟨z8, i8, u8⟩ ⟨gz8, hi8⟩ => ⟨rfl, ?_⟩⟩
        dsimp only at gz8 hi8
        conv => whnf
        cases b2 with
        | true =>
          conv => whnf
          refine And.intro (by simp [z7]; omega) ?_
          conv => whnf
          have hs5 : ∀ x ∈ ss ++ [z8], -2147483647 ≤ x ∧ x ≤ 2147483647 ∧ (true = false → -1500 ≤ x ∧ x ≤ 1500) := fun x hx => by
            rcases List.mem_append.1 hx with hx | hx
            · exact hs4 x hx
            · simp at hx; rw [hx]; exact ⟨gz8.1, gz8.2, fun h => by cases h⟩
          by_cases hl2 : ((ss.length + 1 : Nat) : Int) = 1 + x1
          · refine ⟨(true, ss ++ [z8], i8, u8), by simp; omega, ⟨by simp; omega, by simp; omega, hs5, hi8⟩, ?_⟩
            ((conv => whnf); simp only [eS, wI (show ss.length < 40 by omega) (by omega)])
            simp only [z7, List.length_append, List.length_cons, List.length_nil]
            rw [← zX]
            first | exact ⟨rfl, trivial⟩ | exact ⟨trivial, rfl⟩ | exact ⟨rfl, rfl⟩ | rfl
          · refine ⟨(false, ss ++ [z8], i8, u8), by simp; omega, ⟨by simp; omega, by simp; omega, hs5, hi8⟩, ?_⟩
            ((conv => whnf); simp only [eS, wI (show ss.length < 40 by omega) (by omega)])
            simp only [z7, List.length_append, List.length_cons, List.length_nil]
            rw [← zX]
            first | exact ⟨rfl, trivial⟩ | exact ⟨trivial, rfl⟩ | exact ⟨rfl, rfl⟩ | rfl
        | false =>
          conv => whnf
          refine .inr (.inr (.inr (.inr (.inl ⟨0, ?_⟩))))
          conv => whnf
          refine ⟨_, _, _, _, _, _, zA code i8 u8 7 hi8 hl, fun ⟨z9, i9, u9⟩ ⟨gz9, hi9⟩ => ⟨rfl, ?_⟩⟩
          dsimp only at gz9 hi9
          conv => whnf
          refine And.intro (by simp [z7]; omega) ?_
          conv => whnf
          have hs5 : ∀ x ∈ ss ++ [wMul .i64 500 (wSub .i64 z9 3)], -2147483647 ≤ x ∧ x ≤ 2147483647 ∧ (false = false → -1500 ≤ x ∧ x ≤ 1500) := fun x hx => by
            rcases List.mem_append.1 hx with hx | hx
            · exact hs4 x hx
            · simp at hx; rw [hx]; exact (by have := v500 ⟨gz9.1, gz9.2.1 (by decide)⟩; exact ⟨by omega, by omega, fun _ => this⟩)
          by_cases hl2 : ((ss.length + 1 : Nat) : Int) = 1 + x1
          · refine ⟨(true, ss ++ [wMul .i64 500 (wSub .i64 z9 3)], i9, u9), by simp; omega, ⟨by simp; omega, by simp; omega, hs5, hi9⟩, ?_⟩
            ((conv => whnf); simp only [eS, wI (show ss.length < 40 by omega) (by omega)])
            simp only [z7, List.length_append, List.length_cons, List.length_nil]
            rw [← zX]
            first | exact ⟨rfl, trivial⟩ | exact ⟨trivial, rfl⟩ | exact ⟨rfl, rfl⟩ | rfl
          · refine ⟨(false, ss ++ [wMul .i64 500 (wSub .i64 z9 3)], i9, u9), by simp; omega, ⟨by simp; omega, by simp; omega, hs5, hi9⟩, ?_⟩
            ((conv => whnf); simp only [eS, wI (show ss.length < 40 by omega) (by omega)])
            simp only [z7, List.length_append, List.length_cons, List.length_nil]
            rw [← zX]
            first | exact ⟨rfl, trivial⟩ | exact ⟨trivial, rfl⟩ | exact ⟨rfl, rfl⟩ | rfl
      | true =>
        have hs3 : (ss.length : Int) = 1 + x1 := hs2.1 rfl
        conv => whnf
        rw [show iLt (ss.length : Int) (1 + x1) = false from decide_eq_false (by omega)]
        conv => whnf
        refine And.intro (by simp [z7]; omega) ?_
        conv => whnf
        refine .inr (.inr (.inr (.inr (.inl ⟨0, ?_⟩))))
        conv => whnf
        refine ⟨_, _, _, _, _, _, yC code i7 u7 hi7 hl, fun ⟨z8, i8, u8⟩ ⟨gz8, hi8⟩ => ⟨rfl, ?_⟩⟩
        dsimp only at gz8 hi8
        conv => whnf
        cases b2 with
        | true =>
          conv => whnf
          refine And.intro (by simp [z7]; omega) ?_
          conv => whnf
          refine ⟨(a + 1, rs ++ [ss], ys ++ [z8], i8, u8), by dsimp only; omega, ⟨by dsimp only; omega, by simp; omega, by simp; omega, fun r hr => ?_, fun r hr x hx => ?_, fun v hv => ?_, hi8⟩, ?_⟩
          · rcases List.mem_append.1 hr with hr | hr
            · exact hrs r hr
            · simp at hr; rw [hr]; omega
          · rcases List.mem_append.1 hr with hr | hr
            · exact hrv r hr x hx
            · simp at hr; rw [hr] at hx; exact ⟨(hs4 x hx).1, (hs4 x hx).2.1⟩
          · rcases List.mem_append.1 hv with hv | hv
            · exact hyv v hv
            · simp at hv; rw [hv]; exact ⟨gz8.1, gz8.2⟩
          ((conv => whnf); simp only [eS, wI (show a < 40 by omega) (by omega)])
          simp only [z7]
          rw [← zX, ← zX]
          exact ⟨rfl, rfl⟩
        | false =>
          conv => whnf
          refine .inr (.inr (.inr (.inr (.inl ⟨0, ?_⟩))))
          conv => whnf
          refine ⟨_, _, _, _, _, _, zk code i8 u8 4 hi8 hl, fun ⟨b3, i9, u9⟩ hi9 => ⟨rfl, ?_⟩⟩
          dsimp only at hi9
          cases b3 with
          | true =>
            conv => whnf
            refine And.intro (by simp [z7]; omega) ?_
            conv => whnf
            refine ⟨(a + 1, rs ++ [ss], ys ++ [z8], i9, u9), by dsimp only; omega, ⟨by dsimp only; omega, by simp; omega, by simp; omega, fun r hr => ?_, fun r hr x hx => ?_, fun v hv => ?_, hi9⟩, ?_⟩
            · rcases List.mem_append.1 hr with hr | hr
              · exact hrs r hr
              · simp at hr; rw [hr]; omega
            · rcases List.mem_append.1 hr with hr | hr
              · exact hrv r hr x hx
              · simp at hr; rw [hr] at hx; exact ⟨(hs4 x hx).1, (hs4 x hx).2.1⟩
            · rcases List.mem_append.1 hv with hv | hv
              · exact hyv v hv
              · simp at hv; rw [hv]; exact ⟨gz8.1, gz8.2⟩
            ((conv => whnf); simp only [eS, wI (show a < 40 by omega) (by omega)])
            simp only [z7]
            rw [← zX, ← zX]
            exact ⟨rfl, rfl⟩
          | false =>
            conv => whnf
            obtain ⟨s0, hs0⟩ := zI (show 0 < ss.length by omega)
            refine yV hT hmix [0, 2, 3, 4, 5, 6, 7, 8, 11] (Y := Int × Int × Int) (fun y' => (-2147483647 ≤ y'.1 ∧ y'.1 ≤ 2147483647) ∧ yK code y'.2) (fun y' => { t := [(0, .w (.ptr 0 0) v0), (2, .c (.ptr 1 0)), (3, ai (1 + x1)), (4, .c (.ptr 2 0)), (5, ai M), (6, ab false), (7, ai a), (8, aIs ss), (11, ai y'.1)], h := [(0, .box zH (cur code y'.2.1 y'.2.2)), (1, .box zF [.nl 1, .d (.str ⟨#[]⟩), .nl 1, .nl 1]), (2, .box zF [.ref 3 0 none, .d (.str ⟨#[121]⟩), .ref 4 0 none, .ref 5 0 none]), (3, .arr zy 1 0 .own (eL cS (abcd.take (1 + x1).toNat))), (4, .arr yS 1 0 .own (eL cIs (rs ++ [ss]))), (5, .arr zZ 1 0 .own (eL cI ys))], n := 6, N := 84 }) rfl ?_ ?_
            · repeat' first
                | (refine zM rfl ?_; (conv => whnf))
                | (refine zL rfl ?_ ?_ <;> (conv => whnf))
                | (refine zC rfl ?_ ?_ ?_ <;> (conv => whnf))
                | (refine zG (k := 0) rfl hs0 ?_; (conv => whnf))
                | (refine .inr (.inr (.inr (.inr (.inl ⟨0, ?_⟩)))); (conv => whnf); refine ⟨_, _, _, _, _, _, zA code i9 u9 5 hi9 hl, fun ⟨z, ib, ub⟩ ⟨hz, hib⟩ => ⟨rfl, ?_⟩⟩; dsimp only at hz hib; (conv => whnf))
              all_goals
                refine zO rfl ?_
                refine ⟨(wAdd .i64 (wMul .i64 s0 2) (wMul .i64 100 z), ib, ub), ⟨zKY ((hs4 s0 (List.mem_of_getElem? hs0)).2.2 rfl) ⟨hz.1, hz.2.1 (by decide)⟩, hib⟩, ?_⟩
                conv => whnf
                simp only [z7]
                rw [← zX]
                rfl
            · intro ⟨yv, ib, ub⟩ ⟨hyb, hib⟩
              dsimp only at hyb hib
              conv => whnf
              refine And.intro (by simp [z7]; omega) ?_
              conv => whnf
              refine ⟨(a + 1, rs ++ [ss], ys ++ [yv], ib, ub), by dsimp only; omega, ⟨by dsimp only; omega, by simp; omega, by simp; omega, fun r hr => ?_, fun r hr x hx => ?_, fun v hv => ?_, hib⟩, ?_⟩
              · rcases List.mem_append.1 hr with hr | hr
                · exact hrs r hr
                · simp at hr; rw [hr]; omega
              · rcases List.mem_append.1 hr with hr | hr
                · exact hrv r hr x hx
                · simp at hr; rw [hr] at hx; exact ⟨(hs4 x hx).1, (hs4 x hx).2.1⟩
              · rcases List.mem_append.1 hv with hv | hv
                · exact hyv v hv
                · simp at hv; rw [hv]; exact hyb
              ((conv => whnf); simp only [eS, wI (show a < 40 by omega) (by omega)])
              simp only [z7]
              rw [← zX]
              rfl
    · refine ⟨(⟨(abcd.take (1 + x1).toNat), ⟨#[121]⟩, rs, ys⟩, i6, u6), ⟨⟨by simp [abcd]; omega, by simp [abcd]; omega, fun s hs => ?_, by dsimp only; decide, by dsimp only; omega, by dsimp only; omega, fun r hr => by rw [hrs r hr]; simp [abcd]; omega, by dsimp only; omega, ⟨(1 + x1).toNat, by omega, by omega, rfl⟩, rfl, hrv, hyv⟩, hi6⟩, ?_⟩
      · have : s ∈ abcd := List.mem_of_mem_take hs
        simp [abcd] at this
        rcases this with rfl | rfl | rfl | rfl <;> decide
      · (conv => whnf)
        first | done | rfl
  | false =>
    conv => whnf
    obtain ⟨M, hM, hMm⟩ : ∃ M : Int, wAdd .i64 1 x2 = M ∧ (1 ≤ M ∧ M ≤ 40) := ⟨1 + x2, y6 (by omega) (by omega), by omega⟩
    refine .inr (.inr (.inr (.inr (.inl ⟨0, ?_⟩))))
    conv => whnf
    refine ⟨_, _, _, _, _, _, zk code i3 u3 12 hi3 hl, fun ⟨b2, i5, u5⟩ hi5 => ⟨rfl, ?_⟩⟩
    dsimp only at hi5
    conv => whnf
    rw [hM]
    refine z0i 5 2 yS 1 ?_
    conv => whnf
    refine z0i 5 3 zZ 1 ?_
    conv => whnf
    refine zB hT [0, 2, 3, 4, 5, 6, 7] (α := Nat × List (List Int) × List Int × Int × Int) (fun x' => { t := [(0, .w (.ptr 0 0) v0), (2, .c (.ptr 1 0)), (3, ai (1 + x1)), (4, .c (.ptr 2 0)), (5, ai M), (6, ab b2), (7, ai x'.1)], h := [(0, .box zH (cur code x'.2.2.2.1 x'.2.2.2.2)), (1, .box zF [.nl 1, .d (.str ⟨#[]⟩), .nl 1, .nl 1]), (2, .box zF [.ref 3 0 none, .d (.str ⟨#[121]⟩), .ref 4 0 none, .ref 5 0 none]), (3, .arr zy 1 0 .own (eL cS (abcd.take (1 + x1).toNat))), (4, .arr yS 1 0 .own (eL cIs x'.2.1)), (5, .arr zZ 1 0 .own (eL cI x'.2.2.1))], n := 6, N := 84 })
      (fun x' => (x'.1 : Int) ≤ M ∧ x'.2.1.length = x'.1 ∧ x'.2.2.1.length = x'.1 ∧ (∀ r ∈ x'.2.1, r.length = (1 + x1).toNat) ∧ (∀ r ∈ x'.2.1, ∀ x ∈ r, -2147483647 ≤ x ∧ x ≤ 2147483647) ∧ (∀ v ∈ x'.2.2.1, -2147483647 ≤ v ∧ v ≤ 2147483647) ∧ yK code x'.2.2.2) (fun x' => M.toNat - x'.1) (0, [], [], i5, u5) (by (conv => whnf); simp only [wo, zp]; rfl) ⟨by dsimp only; omega, rfl, rfl, fun r hr => absurd hr (by simp), fun r hr => absurd hr (by simp), fun v hv => absurd hv (by simp), hi5⟩ ?_
    intro ⟨a, rs, ys, i6, u6⟩ ⟨ha, har, hay, hrs, hrv, hyv, hi6⟩
    dsimp only at ha har hay hrs hrv hyv hi6
    conv => whnf
    refine zK (fun q1 => ?_) (fun q1 => ?_) <;> (conv => whnf) <;> simp only [eH] at q1
    · refine zB hT [0, 2, 3, 4, 5, 6, 7, 8, 9] (α := Bool × List Int × Int × Int) (fun y' => match y'.1 with
          | false => { t := [(0, .w (.ptr 0 0) v0), (2, .c (.ptr 1 0)), (3, ai (1 + x1)), (4, .c (.ptr 2 0)), (5, ai M), (6, ab b2), (7, ai a), (8, .c (.ref 6 0 none)), (9, ai y'.2.1.length)], h := [(0, .box zH (cur code y'.2.2.1 y'.2.2.2)), (1, .box zF [.nl 1, .d (.str ⟨#[]⟩), .nl 1, .nl 1]), (2, .box zF [.ref 3 0 none, .d (.str ⟨#[121]⟩), .ref 4 0 none, .ref 5 0 none]), (3, .arr zy 1 0 .own (eL cS (abcd.take (1 + x1).toNat))), (4, .arr yS 1 0 .own (eL cIs rs)), (5, .arr zZ 1 0 .own (eL cI ys)), (6, .arr zZ 1 0 .own (eL cI y'.2.1))], n := 7, N := 84 }
          | true => { t := [(0, .w (.ptr 0 0) v0), (2, .c (.ptr 1 0)), (3, ai (1 + x1)), (4, .c (.ptr 2 0)), (5, ai M), (6, ab b2), (7, ai a), (8, aIs y'.2.1), (9, ai y'.2.1.length)], h := [(0, .box zH (cur code y'.2.2.1 y'.2.2.2)), (1, .box zF [.nl 1, .d (.str ⟨#[]⟩), .nl 1, .nl 1]), (2, .box zF [.ref 3 0 none, .d (.str ⟨#[121]⟩), .ref 4 0 none, .ref 5 0 none]), (3, .arr zy 1 0 .own (eL cS (abcd.take (1 + x1).toNat))), (4, .arr yS 1 0 .own (eL cIs rs)), (5, .arr zZ 1 0 .own (eL cI ys))], n := 6, N := 84 })
        (fun y' => (y'.2.1.length : Int) ≤ 1 + x1 ∧ (y'.1 = true ↔ (y'.2.1.length : Int) = 1 + x1) ∧ (∀ x ∈ y'.2.1, -2147483647 ≤ x ∧ x ≤ 2147483647 ∧ (b2 = false → -1500 ≤ x ∧ x ≤ 1500)) ∧ yK code y'.2.2) (fun y' => (1 + x1).toNat - y'.2.1.length) (false, [], i6, u6) (by (conv => whnf); simp only [zp]; rfl) ⟨by simp; omega, by simp; omega, fun x hx => absurd hx (by simp), hi6⟩ ?_
      intro ⟨e, ss, i7, u7⟩ ⟨hs1, hs2, hs4, hi7⟩
      dsimp only at hs1 hs2 hs4 hi7
      cases e with
      | false =>
        have hs3 : (ss.length : Int) < 1 + x1 := Decidable.byContradiction (fun q => by have := hs2.2 (by omega); cases this)
        conv => whnf
        rw [show iLt (ss.length : Int) (1 + x1) = true from decide_eq_true hs3]
        conv => whnf
        refine .inr (.inr (.inr (.inr (.inl ⟨0, ?_⟩))))
        conv => whnf
        refine ⟨_, _, _, _, _, _, yC code i7 u7 hi7 hl, fun ⟨z8, i8, u8⟩ ⟨gz8, hi8⟩ => ⟨rfl, ?_⟩⟩
        dsimp only at gz8 hi8
        conv => whnf
        cases b2 with
        | true =>
          conv => whnf
          refine And.intro (by simp [z7]; omega) ?_
          conv => whnf
          have hs5 : ∀ x ∈ ss ++ [z8], -2147483647 ≤ x ∧ x ≤ 2147483647 ∧ (true = false → -1500 ≤ x ∧ x ≤ 1500) := fun x hx => by
            rcases List.mem_append.1 hx with hx | hx
            · exact hs4 x hx
            · simp at hx; rw [hx]; exact ⟨gz8.1, gz8.2, fun h => by cases h⟩
          by_cases hl2 : ((ss.length + 1 : Nat) : Int) = 1 + x1
          · refine ⟨(true, ss ++ [z8], i8, u8), by simp; omega, ⟨by simp; omega, by simp; omega, hs5, hi8⟩, ?_⟩
            ((conv => whnf); simp only [eS, wI (show ss.length < 40 by omega) (by omega)])
            simp only [z7, List.length_append, List.length_cons, List.length_nil]
            rw [← zX]
            first | exact ⟨rfl, trivial⟩ | exact ⟨trivial, rfl⟩ | exact ⟨rfl, rfl⟩ | rfl
          · refine ⟨(false, ss ++ [z8], i8, u8), by simp; omega, ⟨by simp; omega, by simp; omega, hs5, hi8⟩, ?_⟩
            ((conv => whnf); simp only [eS, wI (show ss.length < 40 by omega) (by omega)])
            simp only [z7, List.length_append, List.length_cons, List.length_nil]
            rw [← zX]
            first | exact ⟨rfl, trivial⟩ | exact ⟨trivial, rfl⟩ | exact ⟨rfl, rfl⟩ | rfl
        | false =>
          conv => whnf
          refine .inr (.inr (.inr (.inr (.inl ⟨0, ?_⟩))))
          conv => whnf
          refine ⟨_, _, _, _, _, _, zA code i8 u8 7 hi8 hl, fun ⟨z9, i9, u9⟩ ⟨gz9, hi9⟩ => ⟨rfl, ?_⟩⟩
          dsimp only at gz9 hi9
          conv => whnf
          refine And.intro (by simp [z7]; omega) ?_
          conv => whnf
          have hs5 : ∀ x ∈ ss ++ [wMul .i64 500 (wSub .i64 z9 3)], -2147483647 ≤ x ∧ x ≤ 2147483647 ∧ (false = false → -1500 ≤ x ∧ x ≤ 1500) := fun x hx => by
            rcases List.mem_append.1 hx with hx | hx
            · exact hs4 x hx
            · simp at hx; rw [hx]; exact (by have := v500 ⟨gz9.1, gz9.2.1 (by decide)⟩; exact ⟨by omega, by omega, fun _ => this⟩)
          by_cases hl2 : ((ss.length + 1 : Nat) : Int) = 1 + x1
          · refine ⟨(true, ss ++ [wMul .i64 500 (wSub .i64 z9 3)], i9, u9), by simp; omega, ⟨by simp; omega, by simp; omega, hs5, hi9⟩, ?_⟩
            ((conv => whnf); simp only [eS, wI (show ss.length < 40 by omega) (by omega)])
            simp only [z7, List.length_append, List.length_cons, List.length_nil]
            rw [← zX]
            first | exact ⟨rfl, trivial⟩ | exact ⟨trivial, rfl⟩ | exact ⟨rfl, rfl⟩ | rfl
          · refine ⟨(false, ss ++ [wMul .i64 500 (wSub .i64 z9 3)], i9, u9), by simp; omega, ⟨by simp; omega, by simp; omega, hs5, hi9⟩, ?_⟩
            ((conv => whnf); simp only [eS, wI (show ss.length < 40 by omega) (by omega)])
            simp only [z7, List.length_append, List.length_cons, List.length_nil]
            rw [← zX]
            first | exact ⟨rfl, trivial⟩ | exact ⟨trivial, rfl⟩ | exact ⟨rfl, rfl⟩ | rfl
      | true =>
        have hs3 : (ss.length : Int) = 1 + x1 := hs2.1 rfl
        conv => whnf
        rw [show iLt (ss.length : Int) (1 + x1) = false from decide_eq_false (by omega)]
        conv => whnf
        refine And.intro (by simp [z7]; omega) ?_
        conv => whnf
        refine .inr (.inr (.inr (.inr (.inl ⟨0, ?_⟩))))
        conv => whnf
        refine ⟨_, _, _, _, _, _, yC code i7 u7 hi7 hl, fun ⟨z8, i8, u8⟩ ⟨gz8, hi8⟩ => ⟨rfl, ?_⟩⟩
        dsimp only at gz8 hi8
        conv => whnf
        cases b2 with
        | true =>
          conv => whnf
          refine And.intro (by simp [z7]; omega) ?_
          conv => whnf
          refine ⟨(a + 1, rs ++ [ss], ys ++ [z8], i8, u8), by dsimp only; omega, ⟨by dsimp only; omega, by simp; omega, by simp; omega, fun r hr => ?_, fun r hr x hx => ?_, fun v hv => ?_, hi8⟩, ?_⟩
          · rcases List.mem_append.1 hr with hr | hr
            · exact hrs r hr
            · simp at hr; rw [hr]; omega
          · rcases List.mem_append.1 hr with hr | hr
            · exact hrv r hr x hx
            · simp at hr; rw [hr] at hx; exact ⟨(hs4 x hx).1, (hs4 x hx).2.1⟩
          · rcases List.mem_append.1 hv with hv | hv
            · exact hyv v hv
            · simp at hv; rw [hv]; exact ⟨gz8.1, gz8.2⟩
          ((conv => whnf); simp only [eS, wI (show a < 40 by omega) (by omega)])
          simp only [z7]
          rw [← zX, ← zX]
          exact ⟨rfl, rfl⟩
        | false =>
          conv => whnf
          refine .inr (.inr (.inr (.inr (.inl ⟨0, ?_⟩))))
          conv => whnf
          refine ⟨_, _, _, _, _, _, zk code i8 u8 4 hi8 hl, fun ⟨b3, i9, u9⟩ hi9 => ⟨rfl, ?_⟩⟩
          dsimp only at hi9
          cases b3 with
          | true =>
            conv => whnf
            refine And.intro (by simp [z7]; omega) ?_
            conv => whnf
            refine ⟨(a + 1, rs ++ [ss], ys ++ [z8], i9, u9), by dsimp only; omega, ⟨by dsimp only; omega, by simp; omega, by simp; omega, fun r hr => ?_, fun r hr x hx => ?_, fun v hv => ?_, hi9⟩, ?_⟩
            · rcases List.mem_append.1 hr with hr | hr
              · exact hrs r hr
              · simp at hr; rw [hr]; omega
            · rcases List.mem_append.1 hr with hr | hr
              · exact hrv r hr x hx
              · simp at hr; rw [hr] at hx; exact ⟨(hs4 x hx).1, (hs4 x hx).2.1⟩
            · rcases List.mem_append.1 hv with hv | hv
              · exact hyv v hv
              · simp at hv; rw [hv]; exact ⟨gz8.1, gz8.2⟩
            ((conv => whnf); simp only [eS, wI (show a < 40 by omega) (by omega)])
            simp only [z7]
            rw [← zX, ← zX]
            exact ⟨rfl, rfl⟩
          | false =>
            conv => whnf
            obtain ⟨s0, hs0⟩ := zI (show 0 < ss.length by omega)
            refine yV hT hmix [0, 2, 3, 4, 5, 6, 7, 8, 11] (Y := Int × Int × Int) (fun y' => (-2147483647 ≤ y'.1 ∧ y'.1 ≤ 2147483647) ∧ yK code y'.2) (fun y' => { t := [(0, .w (.ptr 0 0) v0), (2, .c (.ptr 1 0)), (3, ai (1 + x1)), (4, .c (.ptr 2 0)), (5, ai M), (6, ab false), (7, ai a), (8, aIs ss), (11, ai y'.1)], h := [(0, .box zH (cur code y'.2.1 y'.2.2)), (1, .box zF [.nl 1, .d (.str ⟨#[]⟩), .nl 1, .nl 1]), (2, .box zF [.ref 3 0 none, .d (.str ⟨#[121]⟩), .ref 4 0 none, .ref 5 0 none]), (3, .arr zy 1 0 .own (eL cS (abcd.take (1 + x1).toNat))), (4, .arr yS 1 0 .own (eL cIs (rs ++ [ss]))), (5, .arr zZ 1 0 .own (eL cI ys))], n := 6, N := 84 }) rfl ?_ ?_
            · repeat' first
                | (refine zM rfl ?_; (conv => whnf))
                | (refine zL rfl ?_ ?_ <;> (conv => whnf))
                | (refine zC rfl ?_ ?_ ?_ <;> (conv => whnf))
                | (refine zG (k := 0) rfl hs0 ?_; (conv => whnf))
                | (refine .inr (.inr (.inr (.inr (.inl ⟨0, ?_⟩)))); (conv => whnf); refine ⟨_, _, _, _, _, _, zA code i9 u9 5 hi9 hl, fun ⟨z, ib, ub⟩ ⟨hz, hib⟩ => ⟨rfl, ?_⟩⟩; dsimp only at hz hib; (conv => whnf))
              all_goals
                refine zO rfl ?_
                refine ⟨(wAdd .i64 (wMul .i64 s0 2) (wMul .i64 100 z), ib, ub), ⟨zKY ((hs4 s0 (List.mem_of_getElem? hs0)).2.2 rfl) ⟨hz.1, hz.2.1 (by decide)⟩, hib⟩, ?_⟩
                conv => whnf
                simp only [z7]
                rw [← zX]
                rfl
            · intro ⟨yv, ib, ub⟩ ⟨hyb, hib⟩
              dsimp only at hyb hib
              conv => whnf
              refine And.intro (by simp [z7]; omega) ?_
              conv => whnf
              refine ⟨(a + 1, rs ++ [ss], ys ++ [yv], ib, ub), by dsimp only; omega, ⟨by dsimp only; omega, by simp; omega, by simp; omega, fun r hr => ?_, fun r hr x hx => ?_, fun v hv => ?_, hib⟩, ?_⟩
              · rcases List.mem_append.1 hr with hr | hr
                · exact hrs r hr
                · simp at hr; rw [hr]; omega
              · rcases List.mem_append.1 hr with hr | hr
                · exact hrv r hr x hx
                · simp at hr; rw [hr] at hx; exact ⟨(hs4 x hx).1, (hs4 x hx).2.1⟩
              · rcases List.mem_append.1 hv with hv | hv
                · exact hyv v hv
                · simp at hv; rw [hv]; exact hyb
              ((conv => whnf); simp only [eS, wI (show a < 40 by omega) (by omega)])
              simp only [z7]
              rw [← zX]
              rfl
    · refine ⟨(⟨(abcd.take (1 + x1).toNat), ⟨#[121]⟩, rs, ys⟩, i6, u6), ⟨⟨by simp [abcd]; omega, by simp [abcd]; omega, fun s hs => ?_, by dsimp only; decide, by dsimp only; omega, by dsimp only; omega, fun r hr => by rw [hrs r hr]; simp [abcd]; omega, by dsimp only; omega, ⟨(1 + x1).toNat, by omega, by omega, rfl⟩, rfl, hrv, hyv⟩, hi6⟩, ?_⟩
      · have : s ∈ abcd := List.mem_of_mem_take hs
        simp [abcd] at this
        rcases this with rfl | rfl | rfl | rfl <;> decide
      · (conv => whnf)
        first | done | rfl
end Go.H.S
namespace Go.H.S
open Go Go.Proofs Go.H
attribute [local irreducible] Tri z6 zR zV
theorem zH8 {w : World} {F : Nat → Prop} {e : TypeId} {v : Value} {xs : List Int} (h : zx w F e 1 v (eL cI xs)) : w.ownsRow 0 e 1 v xs.length (xs.map (Value.int .i64)) := by
 obtain ⟨ys, h1, h2⟩ := h
 rw [zE] at h1
 have hl : ys.length = xs.length := by have := h1.1; omega
 have : ys = xs.map (Value.int .i64) := by
  apply List.ext_getElem?
  intro i
  rcases Nat.lt_or_ge i xs.length with q | q
  ·obtain ⟨x, hx⟩ := zI q
   obtain ⟨_, h3⟩ := h2 i (cI x) (by rw [z48, hx]; rfl)
   obtain ⟨u, hu, hf⟩ := h3 0 (.int .i64 x) rfl
   cases hf
   rw [List.getElem?_map, hx]
   simpa using hu
  ·rw [List.getElem?_eq_none (by omega), List.getElem?_eq_none (by simp; omega)]
 rw [← this]
 exact h1
theorem z9Q {w : World} {F : Nat → Prop} {e : TypeId} {v : Value} {xs : List Int} (h : w.ownsRow 0 e 1 v xs.length (xs.map (Value.int .i64))) : zx w F e 1 v (eL cI xs) := by
 refine ⟨xs.map (Value.int .i64), by rw [zE]; exact h, fun i c hc => ?_⟩
 rw [z48] at hc
 simp only [Option.map_eq_some_iff] at hc
 obtain ⟨x, hx, rfl⟩ := hc
 refine ⟨rfl, fun j d hj => ?_⟩
 cases j with
 | zero =>
  simp [cI] at hj
  subst hj
  exact ⟨.int .i64 x, by simp [hx], .int _ _⟩
 | succ j => simp [cI] at hj
theorem zHE {w : World} {F : Nat → Prop} {e sz : TypeId} {v0 v : Value} {es : List (List D)} (ho : zx w F e sz v0 es) (h : zh w (conM F v0) [(0, .arr e sz 0 .own es)] (.c (.ref 0 0 none)) v) : v = v0 := by
 obtain ⟨_, _, _, h4⟩ := h
 obtain ⟨_, a, n, c, a', c', hv, rfl, hc, _, hh⟩ := h4 e sz .own es rfl
 obtain ⟨_, rfl, rfl⟩ := hh rfl
 obtain ⟨A, c2, hs, _⟩ := wL ho
 have hv0 : v0 = .slice a' n c' := hv
 rw [hv0] at hs ⊢
 simp only [Value.slice.injEq] at hs
 rw [hs.2.1]
 rfl
theorem zHM {L : Nat → Prop} {w w' : World} {row : Option Nat} (h : w.grownBy w' row) (hL : ∀ b, row = some b → L b) : GrewX L w w' :=
 ⟨h.os, h.tape, h.output, h.size, fun k hk hn => h.block k hk (fun e => hn (hL k e.symm))⟩
theorem z1b {α : Type} (f : α → List D) (xs : List α) (b : Bool) (o n : Nat) : z0A (eL f xs) (some (b, o, n)) = eL f ((xs.drop o).take n) := by
 simp only [z0A, zEX, eL, List.map_drop, List.map_take]
def yd (xs : List Int) : List Int := xs.mergeSort fun x y => decide (x ≤ y)
theorem z08 (xs : List Int) : (yd xs).length = xs.length := by simp [yd]
theorem z8X (xs : List Int) (hx : xs.length ≤ 4000000000) : zR PR z3b [.c (.ref 0 0 none)] zZ 1 (eL cI xs) (.tup []) (eL cI (yd xs)) := by
 unfold zR
 refine ⟨⟨_, (pf Tryz.func280), rfl, by kernel_rfl⟩, by rw [zE, zE, z08], rfl, z0G _, fun F w v0 vals hF ho hl hv => ?_⟩
 match vals, hl, hv with
 | [v], _, hv =>
  have e0 := zHE ho (hv 0 _ v rfl rfl)
  subst e0
  have hi := zH8 ho
  unfold PR
  rcases hi.2 with ⟨rfl, h0⟩ | ⟨g, cap, cur, rfl, _, hg, h1, h2, h3, h4⟩
  ·have hx0 : xs = [] := List.eq_nil_of_length_eq_zero h0
   subst hx0
   refine (Try.slices_Sort_int_none none 0 w).mono fun en w' ⟨he, hw⟩ => ?_
   subst hw
   exact ⟨_, he, ⟨[], rfl, rfl, fun j x u hj => by simp at hj⟩, ⟨rfl, rfl, rfl, Nat.le_refl _, fun _ _ _ => rfl⟩, z9Q (by rw [show yd [] = [] from List.eq_nil_of_length_eq_zero (z08 [])]; exact hi)⟩
  ·have hh : Go.Sort.Holds (Value.int .i64) w g 0 xs.toArray := holds_of_blockI hg (by rw [Nat.mul_one] at h4; exact h4)
   refine (Try.slices_Sort_int g 0 cap xs w hh (Array.getElem?_eq_some_iff.1 hg).1 (by omega)).mono fun en w' ⟨he, n, os, hw⟩ => ?_
   subst hw
   refine ⟨_, he, ⟨[], rfl, rfl, fun j x u hj => by simp at hj⟩, zHM (grownBy_sortedI _) (fun b hb => hb), z9Q ?_⟩
   have := ownsRow_sortedI (base := 0) (n := n) (os := os) (ts := yd xs) (z08 xs) (Nat.zero_le _) hg h1 h2 h3
   rw [z08]
   exact this
theorem zAo (xs : List Int) : (Go.Lib.compact xs).length ≤ xs.length := by
 have h := List.length_filter_le (Go.Lib.keeps xs.toArray) (List.range xs.length)
 simp only [Go.Lib.compact, Go.Lib.compactUpTo, List.length_map]
 simpa using h
theorem z5H (xs : List Int) (hx : xs.length ≤ 4000000000) : zGn PR z2H [.c (.ref 0 0 none)] zZ 1 (eL cI xs) (eL cI (Go.Lib.compact xs)) := by
 refine ⟨⟨_, (pf Tryz.func201), rfl, by kernel_rfl⟩, z0G _, fun F w v0 vals hF ho hl hv => ?_⟩
 match vals, hl, hv with
 | [v], _, hv =>
  have e0 := zHE ho (hv 0 _ v rfl rfl)
  subst e0
  have hi := zH8 ho
  unfold PR
  rcases hi.2 with ⟨rfl, h0⟩ | ⟨g, cap, cur, rfl, _, hg, h1, h2, h3, h4⟩
  ·have hx0 : xs = [] := List.eq_nil_of_length_eq_zero h0
   subst hx0
   refine (Try.slices_Compact_int_empty none 0 w).mono fun en w' ⟨he, hw⟩ => ?_
   subst hw
   exact ⟨_, he, ⟨rfl, rfl, rfl, Nat.le_refl _, fun _ _ _ => rfl⟩, z9Q hi, fun b hb => .inl hb⟩
  ·have hh : Go.Sort.Holds (Value.int .i64) w g 0 xs.toArray := holds_of_blockI hg (by rw [Nat.mul_one] at h4; exact h4)
   have hcl := zAo xs
   refine (Try.slices_Compact_int g 0 cap xs w hh (by omega) h1).mono fun en w' ⟨he, q, hw⟩ => ?_
   subst hw
   have hgr := grownBy_sortedI (w := w) (g := g) (n := q) (os := #[]) (Go.Lib.compact xs ++ List.replicate (xs.length - (Go.Lib.compact xs).length) 0).toArray
   have hrow := ownsRow_sortedI (base := 0) (n := q) (os := #[]) (ss := xs) (ts := Go.Lib.compact xs ++ List.replicate (xs.length - (Go.Lib.compact xs).length) 0) (by simp; omega) (Nat.zero_le _) hg h1 h2 h3
   rw [Go.Sort.grow_empty] at hgr hrow
   refine ⟨_, he, zHM hgr (fun b hb => hb), z9Q ?_, fun b hb => .inl hb⟩
   rcases hrow.2 with ⟨h, _⟩ | ⟨g', cap', cur', hv', hb', hg', n1, n2, n3, n4⟩
   ·cases h
   ·cases hv'
    refine ⟨by simp, .inr ⟨g, cap, cur', rfl, Nat.zero_le _, hg', by omega, n2, n3, ?_⟩⟩
    rw [Nat.mul_one] at n4 ⊢
    have := congrArg (List.take (Go.Lib.compact xs).length) n4
    rw [List.take_take, Nat.min_eq_left hcl, List.map_append, List.take_left' (by simp)] at this
    exact this
theorem z3a (xs : List Int) (hx : xs.length ≤ 1000000000) : z6 PR z3C [aIs xs] (.c (.ref 0 0 none)) [(0, .arr zZ 1 0 .own (eL cI xs))] 1 := by
 refine z6.intro hT (pf Tryz.func245) rfl (by kernel_rfl) Tryz.ntmps245 rfl ?_
 conv => whnf
 intro b hb
 cases b <;> (conv => whnf)
 ·refine ⟨by simp [zE, zQ]; omega, ?_⟩
  ((conv => whnf); simp only [eS, z7, wo])
 ·have := hb rfl
  ((conv => whnf); simp only [eS, this])
theorem z6F (xs : List Int) (hx : xs.length ≤ 1000000000) : z6 PR zAZ [aIs xs] (.c (.ref 0 0 none)) [(0, .arr zZ 1 0 .own (eL cI (yd xs)))] 1 := by
 refine z6.intro hT (pf Tryz.func200) rfl (by kernel_rfl) Tryz.ntmps200 rfl ?_
 conv => whnf
 refine .inl ⟨_, _, _, z3a xs hx, rfl, ?_⟩
 conv => whnf
 refine .inr (.inr (.inl ⟨0, ?_⟩))
 conv => whnf
 refine .inl ⟨_, _, z8X xs (by omega), ?_⟩
 conv => whnf
def wR (xs : List Int) : List Int := Go.Lib.compact (yd xs)
theorem z6l (xs : List Int) : (wR xs).length ≤ xs.length := by have := zAo (yd xs); rw [z08] at this; exact this
theorem zCD {a : List Int} {xs : List Int} (h1 : a.Pairwise (· ≤ ·)) (h2 : a.Perm xs) : a = yd xs := by
 refine List.Perm.eq_of_pairwise (le := fun x y => x ≤ y) (fun a b _ _ p q => by omega) h1 ?_ (h2.trans (List.mergeSort_perm xs _).symm)
 have := List.pairwise_mergeSort (le := fun x y : Int => decide (x ≤ y)) (fun a b c => by simp; omega) (fun a b => by simp; omega) xs
 simpa [yd] using this
theorem z3j (xs : List Int) : (yd xs).Pairwise (· ≤ ·) := by
 have := List.pairwise_mergeSort (le := fun x y : Int => decide (x ≤ y)) (fun a b c => by simp; omega) (fun a b => by simp; omega) xs
 simpa [yd] using this
theorem zF3 {xs : List Int} {x : Int} {k : Nat} (hk : k ≤ (yd xs).length) (h1 : ∀ y, (yd xs)[k - 1]? = some y → 0 < k → y ≤ x) (h2 : ∀ (j : Nat) (y : Int), k ≤ j → (yd xs)[j]? = some y → x < y) :
  (yd xs).take k ++ [x] ++ (yd xs).drop k = yd (xs ++ [x]) := by
 have hs := z3j xs
 have hs' := hs
 rw [← List.take_append_drop k (yd xs), List.pairwise_append] at hs'
 obtain ⟨q1, q2, q3⟩ := hs'
 apply zCD
 ·rw [List.append_assoc, List.pairwise_append]
  refine ⟨q1, ?_, fun a ha b hb => ?_⟩
  ·simp only [List.singleton_append, List.pairwise_cons]
   refine ⟨fun b hb => ?_, q2⟩
   obtain ⟨j, hj⟩ := List.getElem?_of_mem hb
   rw [List.getElem?_drop] at hj
   have := h2 (k + j) b (by omega) hj
   omega
  ·have hax : a ≤ x := by
    obtain ⟨j, hj⟩ := List.getElem?_of_mem ha
    rw [List.getElem?_take] at hj
    split at hj
    ·rename_i hjk
     obtain ⟨y, hy⟩ := zI (show k - 1 < (yd xs).length by omega)
     have hyx := h1 y hy (by omega)
     rcases Nat.lt_or_ge j (k - 1) with q | q
     ·have := List.pairwise_iff_getElem.1 hs j (k - 1) (List.getElem?_eq_some_iff.1 hj).1 (List.getElem?_eq_some_iff.1 hy).1 q
      rw [(List.getElem?_eq_some_iff.1 hj).2, (List.getElem?_eq_some_iff.1 hy).2] at this
      omega
     ·obtain rfl : j = k - 1 := by omega
      rw [hj] at hy; cases hy; exact hyx
    ·cases hj
   simp only [List.singleton_append, List.mem_cons] at hb
   rcases hb with rfl | hb
   ·exact hax
   ·exact q3 a ha b hb
 ·rw [List.append_assoc]
  refine List.perm_middle.trans ?_
  show (x :: ((yd xs).take k ++ (yd xs).drop k)).Perm _
  rw [List.take_append_drop]
  have hp : (yd xs).Perm xs := List.mergeSort_perm xs _
  refine (List.Perm.cons x hp).trans ?_
  exact (List.perm_append_comm (l₁ := [x]) (l₂ := xs))
theorem zLf (s : List Int) (k : Nat) (x : Int) : dApp (dApp [] (z0A (eL cI s) (some (true, nAdd (offR none) (nOf 0), nSub (nOf (k : Int)) (nOf 0))))) (z0A [[D.int .i64 x]] none) = eL cI (s.take k ++ [x]) := by
 simp [z1b, wo, z1B, z7I, wD]
 rw [show [[D.int .i64 x]] = [cI x] from rfl, zX]
theorem zJi {α : Type} (f : α → List D) (l r : List α) : dApp (eL f l) (eL f r) = eL f (l ++ r) := by simp [dApp, eL]
set_option maxHeartbeats 4000000 in
theorem z21 (xs : List Int) (hx : xs.length ≤ 1000000000) : z6 PR zAL [aIs xs] (.c (.ref 0 0 none)) [(0, .arr zZ 1 0 .own (eL cI (yd xs)))] 1 := by
 refine z6.intro hT (pf Tryz.func258) rfl (by kernel_rfl) Tryz.ntmps258 rfl ?_
 conv => whnf
 refine zB hT [0, 3, 4] (α := Nat) (fun x => { t := [(0, aIs xs), (3, .c (.ref 0 0 none)), (4, ai x)], h := [(0, .arr zZ 1 0 .own (eL cI (yd (xs.take x))))], n := 1, N := 49 })
  (fun x => x ≤ xs.length) (fun x => xs.length - x) 0 (by ((conv => whnf); simp only [eS]); simp [yd, zp]) (Nat.zero_le _) ?_
 intro i hi
 conv => whnf
 refine zK (fun h1 => ?_) (fun h1 => ?_) <;> (conv => whnf) <;> simp at h1
 ·obtain ⟨x, hxi⟩ := zI h1
  have hlen : (yd (xs.take i)).length = i := by rw [z08]; simp; omega
  generalize hs : yd (xs.take i) = s at *
  refine zB hT [0, 3, 4, 5] (α := Nat) (fun k => { t := [(0, aIs xs), (3, .c (.ref 0 0 none)), (4, ai i), (5, ai k)], h := [(0, .arr zZ 1 0 .own (eL cI s))], n := 1, N := 49 })
   (fun k => k ≤ i ∧ ∀ (j : Nat) (y : Int), k ≤ j → s[j]? = some y → x < y) (fun k => k) i (by ((conv => whnf); simp only [eS]); simp [hlen]) ⟨Nat.le_refl _, fun j y hj hy => by have := (List.getElem?_eq_some_iff.1 hy).1; omega⟩ ?_
  intro k ⟨hk, hgt⟩
  conv => whnf
  refine yN hT hmix (by kernel_rfl) ?_
  conv => whnf
  cases k with
  | zero =>
   rw [show iLt 0 ((0 : Nat) : Int) = false from rfl]
   repeat' (first | (refine And.intro (fun q => ?_) (fun q => ?_) <;> cases q <;> (conv => whnf)) | fail)
   refine zJ hT hmix [0, 3, 4, 5, 6] { t := [(0, aIs xs), (3, .c (.ref 0 0 none)), (4, ai i), (5, ai (0 : Nat)), (6, .c (.ref 1 0 none))], h := [(0, .arr zZ 1 0 .own (eL cI s)), (1, .arr zZ 1 0 .own (eL cI (s.take (0) ++ [x])))], n := 2, N := 49 } rfl ?_ ?_
   ·repeat' first
     | (refine zM rfl ?_; (conv => whnf))
     | (refine zL rfl ?_ ?_ <;> (conv => whnf))
     | (refine zC rfl ?_ ?_ ?_ <;> (conv => whnf))
     | (refine zO rfl ?_; (conv => whnf); rw [zLf s (0) x])
     | (refine zG (by simp) hxi ?_; (conv => whnf))
     | (refine And.intro (by simp [z1b, wo, zE, zQ]; try omega) ?_; (conv => whnf))
   ·conv => whnf
    refine And.intro (by simp; try omega) ?_
    conv => whnf
    refine And.intro (by simp [z1b, zE, zQ]; try omega) ?_
    conv => whnf
    have hput := zF3 (xs := xs.take i) (x := x) (k := 0) (by rw [hs]; omega) (fun y hy h0 => by omega) (fun j y hj hy => by rw [hs] at hy; exact hgt j y hj hy)
    rw [hs] at hput
    have htk : xs.take (i + 1) = xs.take i ++ [x] := by rw [List.take_add_one, hxi]; rfl
    refine ⟨i + 1, by omega, h1, ?_⟩
    ((conv => whnf); simp only [eS, wI h1 (by omega), htk, ← hput])
    simp [z1b, zJi, z1B, z7I, wD]
  | succ k' =>
   rw [show iLt 0 ((k' + 1 : Nat) : Int) = true from decide_eq_true (by omega)]
   have ek : wSub .i64 ((k' + 1 : Nat) : Int) 1 = (k' : Int) := by rw [yB] <;> omega
   obtain ⟨y, hy⟩ := zI (show k' < s.length by omega)
   repeat' (first | (refine And.intro (fun q => ?_) (fun q => ?_) <;> cases q <;> (conv => whnf)) | (refine zG (by simp) hxi ?_; (conv => whnf)) | (refine ye (k := k') ek (by simp; omega) ?_; (conv => whnf)) | (refine z33 (by rw [ek]; simp) hy ?_; (conv => whnf)) | fail)
   generalize e2 : iLt x y = c2
   cases c2
   ·repeat' (first | (refine And.intro (fun q => ?_) (fun q => ?_) <;> cases q <;> (conv => whnf)) | (refine zG (by simp) hxi ?_; (conv => whnf)) | (refine ye (k := k') ek (by simp; omega) ?_; (conv => whnf)) | (refine z33 (by rw [ek]; simp) hy ?_; (conv => whnf)) | fail)
    conv => whnf
    refine zJ hT hmix [0, 3, 4, 5, 6] { t := [(0, aIs xs), (3, .c (.ref 0 0 none)), (4, ai i), (5, ai (k' + 1 : Nat)), (6, .c (.ref 1 0 none))], h := [(0, .arr zZ 1 0 .own (eL cI s)), (1, .arr zZ 1 0 .own (eL cI (s.take (k' + 1) ++ [x])))], n := 2, N := 49 } rfl ?_ ?_
    ·repeat' first
      | (refine zM rfl ?_; (conv => whnf))
      | (refine zL rfl ?_ ?_ <;> (conv => whnf))
      | (refine zC rfl ?_ ?_ ?_ <;> (conv => whnf))
      | (refine zO rfl ?_; (conv => whnf); rw [zLf s (k' + 1) x])
      | (refine zG (by simp) hxi ?_; (conv => whnf))
      | (refine And.intro (by simp [z1b, wo, zE, zQ]; try omega) ?_; (conv => whnf))
    ·conv => whnf
     refine And.intro (by simp; try omega) ?_
     conv => whnf
     refine And.intro (by simp [z1b, zE, zQ]; try omega) ?_
     conv => whnf
     have hf : ∀ y', (yd (xs.take i))[k' + 1 - 1]? = some y' → 0 < k' + 1 → y' ≤ x := by
      intro y' hy' _
      rw [hs, show k' + 1 - 1 = k' from rfl, hy] at hy'
      cases hy'
      have : ¬ x < y := by simpa [iLt] using e2
      omega
     have hput := zF3 (xs := xs.take i) (x := x) (k := k' + 1) (by rw [hs]; omega) hf (fun j y hj hy => by rw [hs] at hy; exact hgt j y hj hy)
     rw [hs] at hput
     have htk : xs.take (i + 1) = xs.take i ++ [x] := by rw [List.take_add_one, hxi]; rfl
     refine ⟨i + 1, by omega, h1, ?_⟩
     ((conv => whnf); simp only [eS, wI h1 (by omega), htk, ← hput])
     simp [z1b, zJi, z1B, z7I, wD]
     rw [show (s.drop (k' + 1)).take (s.length - (k' + 1)) = s.drop (k' + 1) from List.take_of_length_le (by simp)]
   ·repeat' (first | (refine And.intro (fun q => ?_) (fun q => ?_) <;> cases q <;> (conv => whnf)) | (refine zG (by simp) hxi ?_; (conv => whnf)) | (refine ye (k := k') ek (by simp; omega) ?_; (conv => whnf)) | (refine z33 (by rw [ek]; simp) hy ?_; (conv => whnf)) | fail)
    conv => whnf
    refine ⟨k', by omega, ⟨by omega, fun j y2 hj hy2 => ?_⟩, ?_⟩
    ·rcases Nat.eq_or_lt_of_le hj with rfl | q
     ·rw [hy] at hy2; cases hy2; simpa [iLt] using e2
     ·exact hgt j y2 q hy2
    ·((conv => whnf); simp only [eS, ek])
 ·obtain rfl : i = xs.length := by omega
  rw [List.take_length]
end Go.H.S
namespace Go.H.S
open Go Go.Proofs Go.H
attribute [local irreducible] Tri z6 zR zV zY
theorem compactUpTo_succ (xs : List Int) (i : Nat) (x : Int) (hx : xs[i]? = some x) : Go.Lib.compactUpTo xs.toArray (i + 1) = Go.Lib.compactUpTo xs.toArray i ++ (if Go.Lib.keeps xs.toArray i then [x] else []) := by
 have hlt := (List.getElem?_eq_some_iff.1 hx).1
 simp only [Go.Lib.compactUpTo, List.range_succ, List.filter_append, List.map_append]
 congr 1
 have hv : xs.toArray[i]! = x := by
  rw [getElem!_pos _ i (by simpa using hlt)]
  simpa using (List.getElem?_eq_some_iff.1 hx).2
 have hv2 : xs[i]?.getD 0 = x := by rw [hx]; rfl
 cases hk : Go.Lib.keeps xs.toArray i <;> simp [hk, hv, hv2]
theorem z5q (xs : List Int) (hx : xs.length ≤ 1000000000) : z6 PR zAR [aIs xs] (.c (.ref 0 0 none)) [(0, .arr zZ 1 0 .own (eL cI (wR xs)))] 1 := by
 refine z6.intro hT (pf Tryz.func199) rfl (by kernel_rfl) Tryz.ntmps199 rfl ?_
 conv => whnf
 refine .inl ⟨_, _, _, z21 xs hx, rfl, ?_⟩
 have hsl := z08 xs
 have hd : wR xs = Go.Lib.compactUpTo (yd xs).toArray (yd xs).length := rfl
 rw [hd]
 generalize yd xs = s at *
 refine zB hT [3, 4, 5] (α := Nat) (fun i => { t := [(3, .c (.ref 0 0 none)), (4, .c (.ref 1 0 none)), (5, ai i)], h := [(0, .arr zZ 1 0 .own (eL cI (Go.Lib.compactUpTo s.toArray i))), (1, .arr zZ 1 0 .own (eL cI s))], n := 2, N := 37 })
  (fun i => i ≤ s.length) (fun i => s.length - i) 0 (by (conv => whnf); rw [show Go.Lib.compactUpTo s.toArray 0 = [] from rfl, zp]; rfl) (Nat.zero_le _) ?_
 intro i hi
 conv => whnf
 refine zK (fun h1 => ?_) (fun h1 => ?_) <;> (conv => whnf) <;> simp at h1
 ·obtain ⟨x, hxi⟩ := zI h1
  have hcl : (Go.Lib.compactUpTo s.toArray i).length ≤ i := by
   have h := List.length_filter_le (Go.Lib.keeps s.toArray) (List.range i)
   simp only [Go.Lib.compactUpTo, List.length_map]
   simpa using h
  have hcs := compactUpTo_succ s i x hxi
  have hk : ∀ b, Go.Lib.keeps s.toArray i = b → Go.Lib.keeps s.toArray i = b := fun _ h => h
  refine yN hT hmix (by kernel_rfl) ?_
  conv => whnf
  cases i with
  | zero =>
   rw [show iEq ((0 : Nat) : Int) 0 = true from rfl]
   have hkt : Go.Lib.keeps s.toArray 0 = true := Go.Lib.keeps_lt_one _ 0 (by omega)
   rw [hkt] at hcs
   rw [if_pos rfl] at hcs
   have hnx : Go.Lib.compactUpTo s.toArray 1 = Go.Lib.compactUpTo s.toArray 0 ++ [x] := hcs
   generalize Go.Lib.compactUpTo s.toArray 0 = o at *
   repeat' (first | (refine And.intro (fun q => ?_) (fun q => ?_) <;> cases q <;> (conv => whnf)) | fail)
   refine ye (k := 0) (by simp) (by simp; omega) ?_
   conv => whnf
   refine z33 (by simp) hxi ?_
   conv => whnf
   refine And.intro (by simp [zE, zQ]; omega) ?_
   conv => whnf
   refine ⟨1, by omega, h1, ?_⟩
   ((conv => whnf); simp only [eS, z7])
   refine ⟨wI h1 (by omega), ?_⟩
   rw [hnx, ← zX]
   rfl
  | succ j =>
   rw [show iEq ((j + 1 : Nat) : Int) 0 = false from decide_eq_false (by omega)]
   obtain ⟨y, hy⟩ := zI (show j < s.length by omega)
   have ek : wSub .i64 ((j + 1 : Nat) : Int) 1 = (j : Int) := by rw [yB] <;> omega
   repeat' (first | (refine And.intro (fun q => ?_) (fun q => ?_) <;> cases q <;> (conv => whnf)) | fail)
   refine ye (k := j + 1) rfl (by simp; omega) ?_
   conv => whnf
   repeat' (first | (refine And.intro (fun q => ?_) (fun q => ?_) <;> cases q <;> (conv => whnf)) | fail)
   refine z33 (by simp) hxi ?_
   conv => whnf
   repeat' (first | (refine And.intro (fun q => ?_) (fun q => ?_) <;> cases q <;> (conv => whnf)) | fail)
   refine ye (k := j) ek (by simp; omega) ?_
   conv => whnf
   repeat' (first | (refine And.intro (fun q => ?_) (fun q => ?_) <;> cases q <;> (conv => whnf)) | fail)
   refine z33 (by rw [ek]; simp) hy ?_
   conv => whnf
   repeat' (first | (refine And.intro (fun q => ?_) (fun q => ?_) <;> cases q <;> (conv => whnf)) | fail)
   generalize e2 : iEq x y = c2
   have hg1 : s.toArray[j + 1]! = x := by
    rw [getElem!_pos _ (j + 1) (by simpa using h1)]
    simpa using (List.getElem?_eq_some_iff.1 hxi).2
   have hg2 : s.toArray[j + 1 - 1]! = y := by
    rw [getElem!_pos _ (j + 1 - 1) (by simp; omega)]
    simpa using (List.getElem?_eq_some_iff.1 hy).2
   cases c2
   ·have hkt : Go.Lib.keeps s.toArray (j + 1) = true := Go.Lib.keeps_pos (by rw [hg1, hg2]; simpa [iEq] using e2)
    rw [hkt, if_pos rfl] at hcs
    conv => whnf
    refine ye (k := j + 1) rfl (by simp; omega) ?_
    conv => whnf
    refine z33 (by simp) hxi ?_
    conv => whnf
    refine And.intro (by simp [zE, zQ]; omega) ?_
    conv => whnf
    refine ⟨j + 1 + 1, by omega, h1, ?_⟩
    ((conv => whnf); simp only [eS, z7])
    refine ⟨wI h1 (by omega), ?_⟩
    rw [hcs, ← zX]
    rfl
   ·have hkt : Go.Lib.keeps s.toArray (j + 1) = false := Go.Lib.keeps_neg (by omega) (by rw [hg1, hg2]; simpa [iEq] using e2)
    rw [hkt] at hcs
    simp only [Bool.false_eq_true, if_false, List.append_nil] at hcs
    conv => whnf
    refine ⟨j + 1 + 1, by omega, h1, ?_⟩
    ((conv => whnf); simp only [eS, wI h1 (by omega), hcs])
 ·obtain rfl : i = s.length := by omega
  conv => whnf
end Go.H.S
