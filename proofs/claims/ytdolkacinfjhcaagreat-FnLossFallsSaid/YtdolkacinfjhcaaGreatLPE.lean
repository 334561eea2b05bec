/- Library, part QR: bent tables drawn. -/
import Derived.Test.YtdolkacinfjhcaaGreatLQO
import Derived.Test.YtdolkacinfjhcaaGreatLY
import Derived.Lib.Mul64
import Derived.Test.YtdolkacinfjhcaaGreatH29
set_option maxRecDepth 100000
set_option linter.unusedSimpArgs false
set_option linter.unusedVariables false
namespace Go.H.S
open Go Go.Proofs Go.H
attribute [local irreducible] Tri z6 zR zV zY zW
structure smT (t : Tbl) : Prop where
 names : t.names.length ≤ 3
 texts : ∀ s ∈ t.names, s.size ≤ 100
 target : t.target.size ≤ 100
 rows : t.rows.length ≤ 41
 cols : ∀ r ∈ t.rows, r.length ≤ 4
 ys : t.ys.length ≤ 41
theorem zDD {α : Type} {Q : α → Prop} {xs : List α} {k : Nat} {y : α} (h : ∀ c ∈ xs, Q c) (hy : Q y) : ∀ c ∈ xs.set k y, Q c := fun c hc => (List.mem_or_eq_of_mem_set hc).elim (h c) (fun e => e ▸ hy)
theorem zKw {α : Type} {Q : α → Prop} {xs : List α} {y : α} (h : ∀ c ∈ xs, Q c) (hy : Q y) : ∀ c ∈ xs ++ [y], Q c := fun c hc => (List.mem_append.1 hc).elim (h c) (fun e => by simp at e; exact e ▸ hy)
set_option maxHeartbeats 4000000 in
theorem z8A (code : List Int) (i0 u0 : Int) (hi0 : yK code (i0, u0)) (hl : code.length ≤ 1048576) : zW PR zDQ [.c (.ptr 0 0)] zH (cur code i0 u0) (Tbl × Int × Int)
  (fun x => smT x.1 ∧ yK code x.2) (fun x => aTb x.1) (fun x => cur code x.2.1 x.2.2) (fun _ => []) (fun _ => 1) := by
 refine zW.intro hTn 0 (pf Tryz.func276) rfl (by kernel_rfl) Tryz.ntmps276 rfl rfl ?_
 intro v0
 conv => whnf
 refine .inr (.inr (.inr (.inr (.inl ⟨0, ?_⟩))))
 conv => whnf
 refine ⟨_, _, _, _, _, _, z89 code i0 u0 hi0 hl, fun ⟨t, i1, u1⟩ ⟨ht, hi1⟩ => ⟨rfl, ?_⟩⟩
 dsimp only at ht hi1
 obtain ⟨hn1, hn, hns, htg, hr1, hrl, hrc0, hyl0, _, _, _, _⟩ := ht
 obtain ⟨ns, tg, rs, ys⟩ := t
 dsimp only at hn1 hn hns htg hr1 hrl hrc0 hyl0
 have hrc : ∀ r ∈ rs, r.length ≤ 4 := fun r hr => by rw [hrc0 r hr]; omega
 have hyl : ys.length ≤ 41 := by omega
 have hr40 : rs.length ≤ 40 := hrl
 replace hrl : rs.length ≤ 41 := by omega
 conv => whnf
 rw [show nInt (z0a (eL cIs rs) none) = (rs.length : Int) by simp]
 refine .inr (.inr (.inr (.inr (.inl ⟨0, ?_⟩))))
 conv => whnf
 refine ⟨_, _, _, _, _, _, zA code i1 u1 _ hi1 hl, fun ⟨f, i2, u2⟩ ⟨hf, hi2⟩ => ⟨rfl, ?_⟩⟩
 dsimp only at hf hi2
 have hf2 := hf.2.1 (by omega)
 obtain ⟨f, rfl⟩ : ∃ n : Nat, f = n := ⟨f.toNat, by omega⟩
 obtain ⟨rf, hrf⟩ := zI (show f < rs.length by omega)
 obtain ⟨yf, hyf⟩ := zI (show f < ys.length by omega)
 have hrfl := hrc0 rf (List.mem_of_getElem? hrf)
 conv => whnf
 refine .inr (.inr (.inr (.inr (.inl ⟨0, ?_⟩))))
 conv => whnf
 refine ⟨_, _, _, _, _, _, zA code i2 u2 14 hi2 hl, fun ⟨k, i3, u3⟩ ⟨hk, hi3⟩ => ⟨rfl, ?_⟩⟩
 dsimp only at hk hi3
 conv => whnf
 refine zK (fun q0 => ?_) (fun q0 => ?_) <;> (conv => whnf)
 ·obtain ⟨n0, hn0⟩ := zI (show 0 < ns.length by omega)
  refine yV hTn hmix [0, 2, 3] (Y := ByteArray × Int × Int) (fun y => y.1.size ≤ 100 ∧ yK code y.2) (fun y => { t := [(0, .w (.ptr 0 0) v0), (2, .c (.ptr 1 0)), (3, .c (.ptr 2 0))], h := [(0, .box zH (cur code y.2.1 y.2.2)), (1, .box zF [.nl 1, .d (.str ⟨#[]⟩), .nl 1, .nl 1]), (2, .box zF [.ref 3 0 none, .d (.str tg), .ref 4 0 none, .ref 5 0 none]), (3, .arr zy 1 0 .own (eL cS (ns.set 0 y.1))), (4, z0Q rs), (5, .arr zZ 1 0 .own (eL cI ys))], n := 6, N := 100 }) rfl ?_ ?_
  ·repeat' first
    | (refine zM rfl ?_; (conv => whnf))
    | (refine zL rfl ?_ ?_ <;> (conv => whnf))
    | (refine zC rfl ?_ ?_ ?_ <;> (conv => whnf))
    | (refine zw rfl ?_ ?_ ?_ ?_ <;> (conv => whnf))
    | (refine .inr (.inr (.inr (.inr (.inl ⟨0, ?_⟩)))); (conv => whnf); refine ⟨_, _, _, _, _, _, z4n code i3 u3 _ [⟨#[]⟩, ⟨#[65]⟩, ⟨#[49, 97]⟩, ⟨#[121]⟩, ⟨#[97, 98, 99, 100, 101, 102, 103, 104, 105, 106, 107, 108]⟩, ⟨#[97, 98, 99, 100, 101, 102, 103, 104, 105, 106, 107, 108, 109]⟩, ⟨#[98]⟩] (by simp [eL, cS]) hi3 hl (by simp) (by simp), fun ⟨z, ib, ub⟩ ⟨hz, hib⟩ => ⟨rfl, ?_⟩⟩; dsimp only at hz hib; (conv => whnf))
    | (refine ye (k := 0) rfl (by simp [zQ, dSet, zE]; omega) ?_; (conv => whnf))
    | (refine z88 (k := 0) (by simp) hn0 (by simp [cS]) ?_; (conv => whnf))
   all_goals
    refine zO rfl ?_
    have hz1 : z.size ≤ 100 := by simp at hz; rcases hz with rfl | rfl | rfl | rfl | rfl | rfl | rfl <;> decide
    refine ⟨(z, ib, ub), ⟨hz1, hib⟩, ?_⟩
    conv => whnf
    dsimp only
    rw [show dSet (eL cS ns) (nAdd (offR none) (nOf 0)) (wb (cS n0) 0 [.str z]) = eL cS (ns.set 0 z) from by rw [show nAdd (offR none) (nOf 0) = 0 by simp [wD], show wb (cS n0) 0 [.str z] = cS z by rw [wb]; rfl]; exact z1m cS ns 0 z]
  intro ⟨z, ib, ub⟩ ⟨hz, hib⟩
  dsimp only at hz hib
  conv => whnf
  refine ⟨(⟨ns.set 0 z, tg, rs, ys⟩, ib, ub), ⟨⟨by simp; omega, zDD hns hz, htg, hrl, hrc, hyl⟩, by assumption⟩, ?_⟩
  conv => whnf
  first | done | rfl | (simp only [z7]; done) | (simp only [z7]; rfl)
 refine zK (fun q1 => ?_) (fun q1 => ?_) <;> (conv => whnf)
 ·refine .inr (.inr (.inr (.inr (.inl ⟨0, ?_⟩))))
  conv => whnf
  refine ⟨_, _, _, _, _, _, z4n code i3 u3 _ [⟨#[]⟩, ⟨#[97]⟩, ⟨#[121, 45]⟩] (by simp [eL, cS]) hi3 hl (by simp) (by simp), fun ⟨z, ib, ub⟩ ⟨hz, hib⟩ => ⟨rfl, ?_⟩⟩
  dsimp only at hz hib
  have hz1 : z.size ≤ 100 := by simp at hz; rcases hz with rfl | rfl | rfl <;> decide
  conv => whnf
  refine ⟨(⟨ns, z, rs, ys⟩, ib, ub), ⟨⟨hn, hns, hz1, hrl, hrc, hyl⟩, by assumption⟩, ?_⟩
  conv => whnf
  first | done | rfl | (simp only [z7]; done) | (simp only [z7]; rfl)
 refine zK (fun q2 => ?_) (fun q2 => ?_) <;> (conv => whnf)
 ·refine zJ hTn hmix [0, 2, 3] { t := [(0, .w (.ptr 0 0) v0), (2, .c (.ptr 1 0)), (3, .c (.ptr 2 0))], h := [(0, .box zH (cur code i3 u3)), (1, .box zF [.nl 1, .d (.str ⟨#[]⟩), .nl 1, .nl 1]), (2, .box zF [.ref 3 0 none, .d (.str tg), .ref 4 0 none, .ref 5 0 none]), (3, .arr zy 1 0 .own (eL cS ns)), (4, z0Q (rs.set f (rf ++ [0]))), (5, .arr zZ 1 0 .own (eL cI ys))], n := 6, N := 100 } rfl ?_ ?_
  ·repeat' first
    | (refine zM rfl ?_; (conv => whnf))
    | (refine zL rfl ?_ ?_ <;> (conv => whnf))
    | (refine zC rfl ?_ ?_ ?_ <;> (conv => whnf))
    | (refine zw rfl ?_ ?_ ?_ ?_ <;> (conv => whnf))
    | (refine ye (k := f) rfl (by simp [zQ, dSet, zE]; omega) ?_; (conv => whnf))
    | (refine z33 (by simp) hrf ?_; (conv => whnf))
    | (refine zLx (k := f) (by simp) hrf ?_; (conv => whnf))
    | (refine zMM (by simp) hrf ?_; (conv => whnf))
    | (refine And.intro (by simp; omega) ?_; (conv => whnf))
    | (refine And.intro (zJY _ _) ?_; (conv => whnf))
   all_goals
    refine zO rfl ?_
    conv => whnf
    simp only [z7, wD, zFE, Nat.zero_add, z1B, Int.toNat_natCast]
    rw [show dApp (eL cI rf) [[D.int IntKind.i64 0]] = eL cI (rf ++ [0]) from zX cI rf 0, zJQ]
  conv => whnf
  refine ⟨(⟨ns, tg, rs.set f (rf ++ [0]), ys⟩, i3, u3), ⟨⟨hn, hns, htg, by simp; omega, zDD hrc (by simp; omega), hyl⟩, by assumption⟩, ?_⟩
  conv => whnf
  first | done | rfl | (simp only [z7]; done) | (simp only [z7]; rfl)
 refine zK (fun q3 => ?_) (fun q3 => ?_) <;> (conv => whnf)
 ·refine yV hTn hmix [0, 2, 3] (Y := Int × Int × Int) (fun y => yK code y.2) (fun y => { t := [(0, .w (.ptr 0 0) v0), (2, .c (.ptr 1 0)), (3, .c (.ptr 2 0))], h := [(0, .box zH (cur code y.2.1 y.2.2)), (1, .box zF [.nl 1, .d (.str ⟨#[]⟩), .nl 1, .nl 1]), (2, .box zF [.ref 3 0 none, .d (.str tg), .ref 4 0 none, .ref 5 0 none]), (3, .arr zy 1 0 .own (eL cS ns)), (4, z0Q (rs.set f (rf.set 0 y.1))), (5, .arr zZ 1 0 .own (eL cI ys))], n := 6, N := 100 }) rfl ?_ ?_
  ·repeat' first
    | (refine zM rfl ?_; (conv => whnf))
    | (refine zL rfl ?_ ?_ <;> (conv => whnf))
    | (refine zC rfl ?_ ?_ ?_ <;> (conv => whnf))
    | (refine zw rfl ?_ ?_ ?_ ?_ <;> (conv => whnf))
    | (refine .inr (.inr (.inr (.inr (.inl ⟨0, ?_⟩)))); (conv => whnf); refine ⟨_, _, _, _, _, _, y7 code i3 u3 _ [2147483647, 2147483648, -2147483648] (by simp [eL, cI]) hi3 hl (by simp) (by simp), fun ⟨z, ib, ub⟩ ⟨hz, hib⟩ => ⟨rfl, ?_⟩⟩; dsimp only at hz hib; (conv => whnf))
    | (refine ye (k := f) rfl (by simp [zQ, dSet, zE]; omega) ?_; (conv => whnf))
    | (refine z33 (by simp) hrf ?_; (conv => whnf))
    | (refine zGB (q := 0) (by simp) hrf rfl (by omega) ?_; (conv => whnf))
    | (refine nst_at (by simp) hrf (by simp; omega) ?_; (conv => whnf))
   all_goals
    refine zO rfl ?_
    refine ⟨(z, ib, ub), hib, ?_⟩
    conv => whnf
    rw [show nOf 0 = 0 by simp, zM6]
  intro ⟨z, ib, ub⟩ hib
  dsimp only at hib
  conv => whnf
  refine ⟨(⟨ns, tg, rs.set f (rf.set 0 z), ys⟩, ib, ub), ⟨⟨hn, hns, htg, by simp; omega, zDD hrc (by simp; omega), hyl⟩, by assumption⟩, ?_⟩
  conv => whnf
  first | done | rfl | (simp only [z7]; done) | (simp only [z7]; rfl)
 refine zK (fun q4 => ?_) (fun q4 => ?_) <;> (conv => whnf)
 ·refine yV hTn hmix [0, 2, 3] (Y := Int × Int × Int) (fun y => yK code y.2) (fun y => { t := [(0, .w (.ptr 0 0) v0), (2, .c (.ptr 1 0)), (3, .c (.ptr 2 0))], h := [(0, .box zH (cur code y.2.1 y.2.2)), (1, .box zF [.nl 1, .d (.str ⟨#[]⟩), .nl 1, .nl 1]), (2, .box zF [.ref 3 0 none, .d (.str tg), .ref 4 0 none, .ref 5 0 none]), (3, .arr zy 1 0 .own (eL cS ns)), (4, z0Q rs), (5, .arr zZ 1 0 .own (eL cI (ys.set f y.1)))], n := 6, N := 100 }) rfl ?_ ?_
  ·repeat' first
    | (refine zM rfl ?_; (conv => whnf))
    | (refine zL rfl ?_ ?_ <;> (conv => whnf))
    | (refine zC rfl ?_ ?_ ?_ <;> (conv => whnf))
    | (refine zw rfl ?_ ?_ ?_ ?_ <;> (conv => whnf))
    | (refine .inr (.inr (.inr (.inr (.inl ⟨0, ?_⟩)))); (conv => whnf); refine ⟨_, _, _, _, _, _, z70 code i3 u3 hi3 hl, fun ⟨z, ib, ub⟩ hib => ⟨rfl, ?_⟩⟩; dsimp only at hib; (conv => whnf))
    | (refine ye (k := f) rfl (by simp [zQ, dSet, zE]; omega) ?_; (conv => whnf))
    | (refine z88 (k := f) (by simp) hyf (by simp [cI]) ?_; (conv => whnf))
   all_goals
    refine zO rfl ?_
    refine ⟨(z, ib, ub), by first | exact hib | exact hib.2, ?_⟩
    conv => whnf
    dsimp only
    rw [show dSet (eL cI ys) (nAdd (offR none) (nOf (f : Int))) (wb (cI yf) 0 [.int .i64 z]) = eL cI (ys.set f z) from by rw [show nAdd (offR none) (nOf (f : Int)) = f by simp [wD], show wb (cI yf) 0 [.int .i64 z] = cI z by rw [wb]; rfl]; exact z1m cI ys f z]
  intro ⟨z, ib, ub⟩ hib
  dsimp only at hib
  conv => whnf
  refine ⟨(⟨ns, tg, rs, ys.set f z⟩, ib, ub), ⟨⟨hn, hns, htg, hrl, hrc, by simp; omega⟩, by assumption⟩, ?_⟩
  conv => whnf
  first | done | rfl | (simp only [z7]; done) | (simp only [z7]; rfl)
 refine zK (fun q5 => ?_) (fun q5 => ?_) <;> (conv => whnf)
 ·refine And.intro (by simp [z7]; omega) ?_
  conv => whnf
  refine ⟨(⟨ns, tg, rs, ys ++ [1]⟩, i3, u3), ⟨⟨hn, hns, htg, hrl, hrc, by simp; omega⟩, by assumption⟩, ?_⟩
  conv => whnf
  simp only [z7]
  rw [show dApp (eL cI ys) [[D.int IntKind.i64 1]] = eL cI (ys ++ [1]) from zX cI ys 1]
 refine zK (fun q6 => ?_) (fun q6 => ?_) <;> (conv => whnf)
 ·refine ye (k := f) rfl (by simp [zQ, dSet, zE]; omega) ?_
  conv => whnf
  refine And.intro (fun c hc => by simp at hc) ?_
  refine z88 (f := cIs) (k := f) (by simp) hrf (by simp [cIs]) ?_
  conv => whnf
  refine ⟨(⟨ns, tg, rs.set f [], ys⟩, i3, u3), ⟨⟨hn, hns, htg, by simp; omega, zDD hrc (by simp), hyl⟩, by assumption⟩, ?_⟩
  conv => whnf
  simp only [z7, wD, zFE, Nat.zero_add, z1B, Int.toNat_natCast]
  rw [show dSet (eL cIs rs) f (wb (cIs rf) 0 [D.sl 1 []]) = eL cIs (rs.set f []) from by have := zMg f rs rf []; rw [zp] at this; exact this]
 obtain ⟨r0, hr0⟩ := zI (show 0 < rs.length by omega)
 have hr04 := hrc r0 (List.mem_of_getElem? hr0)
 refine zK (fun q7 => ?_) (fun q7 => ?_) <;> (conv => whnf)
 ·refine zB hTn [0, 2, 3] (α := List (List Int) × List Int × Int × Int) (fun x => { t := [(0, .w (.ptr 0 0) v0), (2, .c (.ptr 1 0)), (3, .c (.ptr 2 0))], h := [(0, .box zH (cur code x.2.2.1 x.2.2.2)), (1, .box zF [.nl 1, .d (.str ⟨#[]⟩), .nl 1, .nl 1]), (2, .box zF [.ref 3 0 none, .d (.str tg), .ref 4 0 none, .ref 5 0 none]), (3, .arr zy 1 0 .own (eL cS ns)), (4, z0Q x.1), (5, .arr zZ 1 0 .own (eL cI x.2.1))], n := 6, N := 100 })
   (fun x => (1 ≤ x.1.length ∧ x.1.length ≤ 41) ∧ x.1[0]? = some r0 ∧ (∀ r ∈ x.1, r.length ≤ 4) ∧ x.2.1.length = x.1.length ∧ yK code x.2.2) (fun x => 41 - x.1.length) (rs, ys, i3, u3) (by (conv => whnf); first | done | rfl) ⟨⟨hr1, hrl⟩, hr0, hrc, hyl0, hi3⟩ ?_
  intro ⟨rs1, ys1, i4, u4⟩ ⟨⟨hq1, hq2⟩, hq0, hqc, hqy, hi4⟩
  dsimp only at hq1 hq2 hq0 hqc hqy hi4
  conv => whnf
  refine yV hTn hmix [0, 2, 3, 82] (Y := Int × Int × Int) (fun y => (0 ≤ y.1 ∧ y.1 < 2) ∧ yK code y.2) (fun y => { t := [(0, .w (.ptr 0 0) v0), (2, .c (.ptr 1 0)), (3, .c (.ptr 2 0)), (82, ab (iLt (rs1.length : Int) (wAdd .i64 40 y.1)))], h := [(0, .box zH (cur code y.2.1 y.2.2)), (1, .box zF [.nl 1, .d (.str ⟨#[]⟩), .nl 1, .nl 1]), (2, .box zF [.ref 3 0 none, .d (.str tg), .ref 4 0 none, .ref 5 0 none]), (3, .arr zy 1 0 .own (eL cS ns)), (4, z0Q rs1), (5, .arr zZ 1 0 .own (eL cI ys1))], n := 6, N := 100 }) rfl ?_ ?_
  ·repeat' first
    | (refine zM rfl ?_; (conv => whnf))
    | (refine zL rfl ?_ ?_ <;> (conv => whnf))
    | (refine zC rfl ?_ ?_ ?_ <;> (conv => whnf))
    | (refine zw rfl ?_ ?_ ?_ ?_ <;> (conv => whnf))
    | (refine .inr (.inr (.inr (.inr (.inl ⟨0, ?_⟩)))); (conv => whnf); refine ⟨_, _, _, _, _, _, zA code i4 u4 2 hi4 hl, fun ⟨z, ib, ub⟩ ⟨hz, hib⟩ => ⟨rfl, ?_⟩⟩; dsimp only at hz hib; (conv => whnf))
   all_goals
    refine zO rfl ?_
    refine ⟨(z, ib, ub), ⟨⟨hz.1, hz.2.1 (by decide)⟩, hib⟩, ?_⟩
    conv => whnf
    first | done | (simp; done) | rfl
  intro ⟨z, i5, u5⟩ ⟨hz, hi5⟩
  dsimp only at hz hi5
  conv => whnf
  rw [show wAdd .i64 40 z = 40 + z from y6 (by omega) (by omega)]
  refine zK (fun h7 => ?_) (fun h7 => ?_) <;> (conv => whnf) <;> simp [iLt] at h7
  ·refine zJ hTn hmix [0, 2, 3] { t := [(0, .w (.ptr 0 0) v0), (2, .c (.ptr 1 0)), (3, .c (.ptr 2 0))], h := [(0, .box zH (cur code i5 u5)), (1, .box zF [.nl 1, .d (.str ⟨#[]⟩), .nl 1, .nl 1]), (2, .box zF [.ref 3 0 none, .d (.str tg), .ref 4 0 none, .ref 5 0 none]), (3, .arr zy 1 0 .own (eL cS ns)), (4, z0Q (rs1 ++ [r0])), (5, .arr zZ 1 0 .own (eL cI ys1))], n := 6, N := 100 } rfl ?_ ?_
   ·repeat' first
     | (refine zM rfl ?_; (conv => whnf))
     | (refine zL rfl ?_ ?_ <;> (conv => whnf))
     | (refine zC rfl ?_ ?_ ?_ <;> (conv => whnf))
     | (refine zw rfl ?_ ?_ ?_ ?_ <;> (conv => whnf))
     | (refine ye (k := 0) rfl (by simp [zQ, dSet, zE]; omega) ?_; (conv => whnf))
     | (refine z33 (by simp) hq0 ?_; (conv => whnf))
     | (refine nyd_at (by simp) hq0 ?_; (conv => whnf))
     | (refine And.intro (by simp [zE, zQ]; omega) ?_; (conv => whnf))
     | (refine And.intro (by have := z0G r0; simp only [dApp, List.nil_append]; exact this) ?_; (conv => whnf))
    all_goals
     refine zO rfl ?_
     conv => whnf
     rw [show dApp (eL cIs rs1) [[D.sl 1 (dApp [] (eL cI r0))]] = eL cIs (rs1 ++ [r0]) from by rw [show dApp [] (eL cI r0) = eL cI r0 by simp [dApp]]; exact zX cIs rs1 r0]
   conv => whnf
   refine And.intro (by simp [z7, zE, zQ]; omega) ?_
   conv => whnf
   refine ⟨(rs1 ++ [r0], ys1 ++ [0], i5, u5), by simp; omega, ⟨⟨by simp, by simp; omega⟩, by rw [List.getElem?_append_left (by omega)]; exact hq0, zKw hqc hr04, by simp; omega, hi5⟩, ?_⟩
   conv => whnf
   simp only [z7]
   rw [show dApp (eL cI ys1) [[D.int IntKind.i64 0]] = eL cI (ys1 ++ [0]) from zX cI ys1 0]
  ·refine ⟨(⟨ns, tg, rs1, ys1⟩, i5, u5), ⟨⟨hn, hns, htg, hq2, hqc, by show ys1.length ≤ 41; omega⟩, by assumption⟩, ?_⟩
   conv => whnf
   first | done | rfl
 ·refine ⟨(⟨ns, tg, rs, ys⟩, i3, u3), ⟨⟨hn, hns, htg, hrl, hrc, hyl⟩, by assumption⟩, ?_⟩
  conv => whnf
  first | done | rfl | (simp only [z7]; done) | (simp only [z7]; rfl)
end Go.H.S
namespace Go.H.S
open Go Go.Proofs Go.H
attribute [local irreducible] Tri z6 zR zV zY zW
theorem zL7 {t : Tbl} (h : drawnT t) : smT t := ⟨h.names, h.texts, h.target, by have := h.rows; omega, fun r hr => by rw [h.cols r hr]; have := h.names; omega, by rw [h.ys]; have := h.rows; omega⟩
abbrev cTb0 : List CV := [.nl 1, .d (.str ⟨#[]⟩), .nl 1, .nl 1]
abbrev cC0 : List CV := [.d (.int .i64 0), .d (.int .i64 0), .d (.int .i64 0), .d (.int .i64 0), .d (.int .i64 0), .d (.int .i64 0), .d (.int .i64 0), .nl 1]
set_option maxHeartbeats 4000000 in
theorem z6z (code : List Int) (hl : code.length ≤ 1048576) : zV PR zBQ [.c (.d (.sl 1 (eL cU code)))] (Tbl × Cfg × Int × Int) (fun x => smT x.1 ∧ x.2.1.signs.length ≤ 5 ∧ yK code x.2.2)
  (fun x => .tup [(false, [.ptr 0 0]), (true, cTb x.1), (true, cCf x.2.1)]) (fun x => [(0, .box zH (cur code x.2.2.1 x.2.2.2))]) (fun _ => 1) := by
 refine zV.introT hT (pf Tryz.func188) rfl (by kernel_rfl) Tryz.ntmps188 rfl ?_
 refine wS hT ?_
 conv => whnf
 refine wS hT ?_
 conv => whnf
 refine .inr ⟨_, _, _, _, _, z9c code hl, fun u0 _ => ⟨rfl, ?_⟩⟩
 conv => whnf
 refine wS hT ?_
 conv => whnf
 refine .inr (.inr (.inr (.inr (.inl ⟨2, ?_⟩))))
 conv => whnf
 refine ⟨_, _, _, _, _, _, z6x code 0 u0 ⟨Int.le_refl _, by dsimp only; omega⟩ hl, fun ⟨t, i1, u1⟩ ⟨ht, hi1⟩ => ⟨rfl, ?_⟩⟩
 dsimp only at ht hi1
 have hs := zL7 ht
 clear ht
 conv => whnf
 refine zC7 7 0 ?_
 conv => whnf
 refine zC7 7 2 ?_
 conv => whnf
 refine zC7 7 3 ?_
 conv => whnf
 refine wS hT ?_
 conv => whnf
 refine .inr (.inr (.inr (.inr (.inl ⟨2, ?_⟩))))
 conv => whnf
 refine ⟨_, _, _, _, _, _, z2N code i1 u1 hi1 hl, fun ⟨c, i2, u2⟩ ⟨hc, hi2⟩ => ⟨rfl, ?_⟩⟩
 dsimp only at hc hi2
 obtain ⟨a1, a2, a3, a4, a5, a6, a7, ss⟩ := c
 dsimp only at hc
 conv => whnf
 refine zIX hT [3, 4, 5, 6, 7] (α := Tbl × Int × Int) (fun x => { t := [(3, .c (.ptr 0 0)), (4, .c (.ptr 1 0)), (5, .c (.ptr 2 0)), (6, .c (.ptr 3 0)), (7, .c (.ptr 4 0))], h := [(0, .box zF cTb0), (1, .box zc cC0), (2, .box zH (cur code x.2.1 x.2.2)), (3, .box zF (cTb x.1)), (4, .box zc [.d (.int .i64 (⟨a1, a2, a3, a4, a5, a6, a7, ss⟩ : Cfg).rounds), .d (.int .i64 (⟨a1, a2, a3, a4, a5, a6, a7, ss⟩ : Cfg).depth), .d (.int .i64 (⟨a1, a2, a3, a4, a5, a6, a7, ss⟩ : Cfg).bins), .d (.int .i64 (⟨a1, a2, a3, a4, a5, a6, a7, ss⟩ : Cfg).lambda), .d (.int .i64 (⟨a1, a2, a3, a4, a5, a6, a7, ss⟩ : Cfg).rows), .d (.int .i64 (⟨a1, a2, a3, a4, a5, a6, a7, ss⟩ : Cfg).num), .d (.int .i64 (⟨a1, a2, a3, a4, a5, a6, a7, ss⟩ : Cfg).den), .ref 5 0 none]), (5, .arr zZ 1 0 .own (eL cI (⟨a1, a2, a3, a4, a5, a6, a7, ss⟩ : Cfg).signs))], n := 6, N := 25 })
  (fun x => smT x.1 ∧ yK code x.2) ?_ ?_
 ·conv => whnf
  refine .inr (.inr (.inr (.inr (.inl ⟨2, ?_⟩))))
  conv => whnf
  refine ⟨_, _, _, _, _, _, zk code i2 u2 16 hi2 hl, fun ⟨b, i3, u3⟩ hi3 => ⟨rfl, ?_⟩⟩
  dsimp only at hi3
  cases b with
  | true =>
   conv => whnf
   refine .inr (.inr (.inr (.inr (.inl ⟨2, ?_⟩))))
   conv => whnf
   refine ⟨_, _, _, _, _, _, z8A code i3 u3 hi3 hl, fun ⟨t2, i4, u4⟩ ⟨ht2, hi4⟩ => ⟨rfl, ?_⟩⟩
   dsimp only at ht2 hi4
   conv => whnf
   refine ⟨(t2, i4, u4), ⟨ht2, hi4⟩, ?_⟩
   conv => whnf
   first | done | rfl
  | false =>
   conv => whnf
   refine ⟨(t, i3, u3), ⟨hs, hi3⟩, ?_⟩
   conv => whnf
   first | done | rfl
 clear hs hi2
 intro ⟨t2, i3, u3⟩ ⟨ht2, hi3⟩
 dsimp only at ht2 hi3
 refine zIX hT [3, 4, 5, 6, 7] (α := Cfg × Int × Int) (fun x => { t := [(3, .c (.ptr 0 0)), (4, .c (.ptr 1 0)), (5, .c (.ptr 2 0)), (6, .c (.ptr 3 0)), (7, .c (.ptr 4 0))], h := [(0, .box zF cTb0), (1, .box zc cC0), (2, .box zH (cur code x.2.1 x.2.2)), (3, .box zF (cTb t2)), (4, .box zc [.d (.int .i64 x.1.rounds), .d (.int .i64 x.1.depth), .d (.int .i64 x.1.bins), .d (.int .i64 x.1.lambda), .d (.int .i64 x.1.rows), .d (.int .i64 x.1.num), .d (.int .i64 x.1.den), .ref 5 0 none]), (5, .arr zZ 1 0 .own (eL cI x.1.signs))], n := 6, N := 25 })
  (fun x => x.1.signs.length ≤ 5 ∧ yK code x.2) ?_ ?_
 ·conv => whnf
  refine .inr (.inr (.inr (.inr (.inl ⟨2, ?_⟩))))
  conv => whnf
  refine ⟨_, _, _, _, _, _, zk code i3 u3 16 hi3 hl, fun ⟨b, i4, u4⟩ hi4 => ⟨rfl, ?_⟩⟩
  dsimp only at hi4
  cases b with
  | true =>
   conv => whnf
   refine .inr (.inr (.inr (.inr (.inl ⟨2, ?_⟩))))
   conv => whnf
   refine ⟨_, _, _, _, _, _, z8D code i4 u4 hi4 hl, fun ⟨⟨b1, b2, b3, b4, b5, b6, b7, ss2⟩, i5, u5⟩ ⟨hc2, hi5⟩ => ⟨rfl, ?_⟩⟩
   dsimp only at hc2 hi5
   conv => whnf
   refine ⟨(⟨b1, b2, b3, b4, b5, b6, b7, ss2⟩, i5, u5), ⟨hc2, hi5⟩, ?_⟩
   conv => whnf
   first | done | rfl
  | false =>
   conv => whnf
   refine ⟨(⟨a1, a2, a3, a4, a5, a6, a7, ss⟩, i4, u4), ⟨by dsimp only; omega, hi4⟩, ?_⟩
   conv => whnf
   first | done | rfl
 clear hc hi3
 intro ⟨c, i4, u4⟩ ⟨hc, hi4⟩
 dsimp only at hc hi4
 refine zC7 4 7 ?_
 conv => whnf
 refine zj 3 ?_
 conv => whnf
 refine zj 4 ?_
 conv => whnf
 refine wS hT ?_
 conv => whnf
 refine zJ hT hmix [2, 3, 4] { t := [(2, .c (.ptr 0 0)), (3, .c (.ptr 1 0)), (4, .c (.ptr 2 0))], h := [(0, .box zH (cur code i4 u4)), (1, .box zF (cTb t2)), (2, .box zc (cCf c))], n := 3, N := 25 } rfl ?_ ?_
 ·repeat' first
   | (refine zM rfl ?_; (conv => whnf))
   | (refine zL rfl ?_ ?_ <;> (conv => whnf))
   | (refine zC rfl ?_ ?_ ?_ <;> (conv => whnf))
   | (refine zw rfl ?_ ?_ ?_ ?_ <;> (conv => whnf))
   | (refine zO rfl ?_; (conv => whnf); first | done | rfl)
 ·refine yW hT _ _ _ ?_
  conv => whnf
  refine ⟨(t2, c, i4, u4), ⟨ht2, hc, hi4⟩, ?_⟩
  conv => whnf
  first | done | rfl
set_option maxHeartbeats 4000000 in
theorem z5k (code : List Int) (i0 u0 : Int) (n : Nat) (hi0 : yK code (i0, u0)) (hl : code.length ≤ 1048576) (hn : n ≤ 1000) : zW PR zAI [.c (.ptr 0 0), ai n] zH (cur code i0 u0) (List Int × Int × Int)
  (fun x => x.1.length ≤ n ∧ yK code x.2) (fun x => .c (.ref 1 0 none)) (fun x => cur code x.2.1 x.2.2) (fun x => [(1, .arr zZ 1 0 .own (eL cI x.1))]) (fun _ => 2) := by
 refine zW.intro hT 0 (pf Tryz.func190) rfl (by kernel_rfl) Tryz.ntmps190 rfl rfl ?_
 intro v0
 conv => whnf
 refine .inr (.inr (.inr (.inr (.inl ⟨0, ?_⟩))))
 conv => whnf
 refine ⟨_, _, _, _, _, _, zk code i0 u0 2 hi0 hl, fun ⟨b, i1, u1⟩ hi1 => ⟨rfl, ?_⟩⟩
 dsimp only at hi1
 cases b with
 | true =>
  conv => whnf
  refine ⟨([], i1, u1), ⟨by simp, hi1⟩, ?_⟩
  conv => whnf
  simp only [zp]
 | false =>
  conv => whnf
  refine zB hT [0, 1, 5, 6] (α := List Int × Int × Int) (fun x => { t := [(0, .w (.ptr 0 0) v0), (1, ai n), (5, .c (.ref 1 0 none)), (6, ai x.1.length)], h := [(0, .box zH (cur code x.2.1 x.2.2)), (1, .arr zZ 1 0 .own (eL cI x.1))], n := 2, N := 23 })
   (fun x => x.1.length ≤ n ∧ yK code x.2) (fun x => n - x.1.length) ([], i1, u1) (by (conv => whnf); simp only [zp]; rfl) ⟨Nat.zero_le _, hi1⟩ ?_
  intro ⟨ss, i2, u2⟩ ⟨hs, hi2⟩
  dsimp only at hs hi2
  conv => whnf
  refine zK (fun h1 => ?_) (fun h1 => ?_) <;> (conv => whnf) <;> simp only [eH] at h1
  ·refine .inr (.inr (.inr (.inr (.inl ⟨0, ?_⟩))))
   conv => whnf
   refine ⟨_, _, _, _, _, _, zA code i2 u2 3 hi2 hl, fun ⟨z, i3, u3⟩ ⟨hz, hi3⟩ => ⟨rfl, ?_⟩⟩
   dsimp only at hz hi3
   conv => whnf
   refine And.intro (by simp [z7]; omega) ?_
   conv => whnf
   refine ⟨(ss ++ [wSub .i64 z 1], i3, u3), by simp; omega, ⟨by simp; omega, hi3⟩, ?_⟩
   ((conv => whnf); simp only [eS, wI (show ss.length < 1000 by omega) (by omega)])
   simp only [z7, List.length_append, List.length_cons, List.length_nil]
   rw [← zX]
   first | exact ⟨rfl, trivial⟩ | exact ⟨trivial, rfl⟩ | exact ⟨rfl, rfl⟩ | rfl
  ·refine ⟨(ss, i2, u2), ⟨hs, hi2⟩, ?_⟩
   conv => whnf
   first | done | rfl
set_option maxHeartbeats 4000000 in
theorem z2S (code : List Int) (hl : code.length ≤ 1048576) : zV PR z40 [.c (.d (.sl 1 (eL cU code)))] (Tbl × Cfg) (fun x => smT x.1 ∧ x.2.signs.length ≤ 5)
  (fun x => .tup [(true, cTb x.1), (true, cCf x.2)]) (fun _ => []) (fun _ => 0) := by
 refine zV.intro hT (pf Tryz.func74) rfl (by kernel_rfl) Tryz.ntmps74 rfl ?_
 conv => whnf
 refine .inr ⟨_, _, _, _, _, z6z code hl, fun ⟨t, c, i1, u1⟩ ⟨ht, hc, hi1⟩ => ⟨rfl, ?_⟩⟩
 dsimp only at ht hc hi1
 obtain ⟨a1, a2, a3, a4, a5, a6, a7, ss⟩ := c
 dsimp only at hc
 conv => whnf
 refine zK (fun h1 => ?_) (fun h1 => ?_) <;> (conv => whnf)
 ·refine .inr (.inr (.inr (.inr (.inl ⟨2, ?_⟩))))
  conv => whnf
  refine ⟨_, _, _, _, _, _, zk code i1 u1 8 hi1 hl, fun ⟨b, i2, u2⟩ hi2 => ⟨rfl, ?_⟩⟩
  dsimp only at hi2
  cases b with
  | true =>
   conv => whnf
   refine zj 3 ?_
   conv => whnf
   refine zj 4 ?_
   conv => whnf
   refine zJ hT hmix [2, 3] { t := [(2, .c (.ptr 0 0)), (3, .c (.ptr 1 0))], h := [(0, .box zF (cTb t)), (1, .box zc (cCf (⟨a1, a2, a3, a4, a5, a6, a7, ss⟩ : Cfg)))], n := 2, N := 30 } rfl ?_ ?_
   ·repeat' first
     | (refine zM rfl ?_; (conv => whnf))
     | (refine zL rfl ?_ ?_ <;> (conv => whnf))
     | (refine zC rfl ?_ ?_ ?_ <;> (conv => whnf))
     | (refine zw rfl ?_ ?_ ?_ ?_ <;> (conv => whnf))
     | (refine zO rfl ?_; (conv => whnf); first | done | rfl)
   ·conv => whnf
    refine ⟨(t, (⟨a1, a2, a3, a4, a5, a6, a7, ss⟩ : Cfg)), ⟨ht, hc⟩, ?_⟩
    conv => whnf
    first | done | rfl
  | false =>
   conv => whnf
   rw [show nInt (dLen (eL cS t.names)) = (t.names.length : Int) by simp]
   refine .inr (.inr (.inr (.inr (.inl ⟨2, ?_⟩))))
   conv => whnf
   refine ⟨_, _, _, _, _, _, z5k code i2 u2 t.names.length hi2 hl (by have := ht.names; omega), fun ⟨s2, i3, u3⟩ ⟨hs2, hi3⟩ => ⟨rfl, ?_⟩⟩
   dsimp only at hs2 hi3
   conv => whnf
   refine zC7 4 7 ?_
   conv => whnf
   refine zj 3 ?_
   conv => whnf
   refine zj 4 ?_
   conv => whnf
   refine zJ hT hmix [2, 3] { t := [(2, .c (.ptr 0 0)), (3, .c (.ptr 1 0))], h := [(0, .box zF (cTb t)), (1, .box zc (cCf (⟨a1, a2, a3, a4, a5, a6, a7, s2⟩ : Cfg)))], n := 2, N := 30 } rfl ?_ ?_
   ·repeat' first
     | (refine zM rfl ?_; (conv => whnf))
     | (refine zL rfl ?_ ?_ <;> (conv => whnf))
     | (refine zC rfl ?_ ?_ ?_ <;> (conv => whnf))
     | (refine zw rfl ?_ ?_ ?_ ?_ <;> (conv => whnf))
     | (refine zO rfl ?_; (conv => whnf); first | done | rfl)
   ·conv => whnf
    refine ⟨(t, (⟨a1, a2, a3, a4, a5, a6, a7, s2⟩ : Cfg)), ⟨ht, by have := ht.names; dsimp only; omega⟩, ?_⟩
    conv => whnf
    first | done | rfl
 ·refine zj 3 ?_
  conv => whnf
  refine zj 4 ?_
  conv => whnf
  refine zJ hT hmix [2, 3] { t := [(2, .c (.ptr 0 0)), (3, .c (.ptr 1 0))], h := [(0, .box zF (cTb t)), (1, .box zc (cCf (⟨a1, a2, a3, a4, a5, a6, a7, ss⟩ : Cfg)))], n := 2, N := 30 } rfl ?_ ?_
  ·repeat' first
    | (refine zM rfl ?_; (conv => whnf))
    | (refine zL rfl ?_ ?_ <;> (conv => whnf))
    | (refine zC rfl ?_ ?_ ?_ <;> (conv => whnf))
    | (refine zw rfl ?_ ?_ ?_ ?_ <;> (conv => whnf))
    | (refine zO rfl ?_; (conv => whnf); first | done | rfl)
  ·conv => whnf
   refine ⟨(t, (⟨a1, a2, a3, a4, a5, a6, a7, ss⟩ : Cfg)), ⟨ht, hc⟩, ?_⟩
   conv => whnf
   first | done | rfl
end Go.H.S
namespace Go.H.S
open Go Go.Proofs Go.H
attribute [local irreducible] Tri z6 zR zV zY
def gAt (grads : List Int) (r : Int) : Int := (grads[r.toNat]?).getD 0
def sumR (grads : List Int) : List Int → Int
 | [] => 0
 | r :: rs => gAt grads r + sumR grads rs
theorem z9Y (grads : List Int) : ∀ (rs : List Int) (r : Int), sumR grads (rs ++ [r]) = sumR grads rs + gAt grads r
 | [], r => by simp [sumR]
 | x :: rs, r => by simp only [List.cons_append, sumR, z9Y grads rs r]; omega
theorem zEu {grads rows : List Int} {k : Nat} {x : Int} (h : rows[k]? = some x) : sumR grads (rows.take (k + 1)) = sumR grads (rows.take k) + gAt grads x := by
 rw [List.take_add_one, h, Option.toList_some, z9Y]
def z6V (grads : List Int) : Prop := ∀ x ∈ grads, -2199023255552 ≤ x ∧ x ≤ 2199023255552
theorem gAt_in {grads : List Int} (h : z6V grads) (r : Int) : -2199023255552 ≤ gAt grads r ∧ gAt grads r ≤ 2199023255552 := by
 unfold gAt
 cases hr : grads[r.toNat]? with
 | none => simp
 | some x => exact h x (List.mem_of_getElem? hr)
theorem z3f {grads : List Int} (h : z6V grads) : ∀ rs : List Int, -2199023255552 * (rs.length : Int) ≤ sumR grads rs ∧ sumR grads rs ≤ 2199023255552 * (rs.length : Int)
 | [] => by simp [sumR]
 | r :: rs => by
  have h1 := gAt_in h r
  have h2 := z3f h rs
  simp only [sumR, List.length_cons]
  omega
theorem z3I (grads rows : List Int) (hg : z6V grads) (hl : rows.length ≤ 40) (hr : ∀ r ∈ rows, 0 ≤ r ∧ r < (grads.length : Int)) :
  z6 PR zDX [aIs grads, aIs rows] (aB (rows.length, sumR grads rows)) [] 0 := by
 refine z6.intro hT (pf Tryz.func91) rfl (by kernel_rfl) Tryz.ntmps91 rfl ?_
 conv => whnf
 refine zB hT [0, 1, 4, 5, 6] (α := Nat) (fun x => { t := [(0, aIs grads), (1, aIs rows), (4, .c (.ptr 0 0)), (5, .c (.ptr 1 0)), (6, ai x)], h := [(0, .box y8 (cB (0, 0))), (1, .box y8 (cB (x, sumR grads (rows.take x))))], n := 2, N := 29 })
  (fun x => x ≤ rows.length) (fun x => rows.length - x) 0 (by first | ((conv => whnf); done) | ((conv => whnf); rfl)) (Nat.zero_le _) ?_
 intro k hk
 conv => whnf
 rw [show nInt (dLen (eL cI rows)) = (rows.length : Int) by simp]
 refine zK (fun h1 => ?_) (fun h1 => ?_) <;> (conv => whnf) <;> simp only [eH] at h1
 ·obtain ⟨x, hx⟩ := zI (show k < rows.length by omega)
  have hxr := hr x (List.mem_of_getElem? hx)
  obtain ⟨y, hy⟩ := zI (show x.toNat < grads.length by omega)
  have hxn : x = (x.toNat : Int) := by omega
  have hs := zEu (grads := grads) hx
  have hgx : gAt grads x = y := by unfold gAt; rw [hy]; rfl
  have hb := z3f hg (rows.take k)
  have hy2 := hg y (List.mem_of_getElem? hy)
  rw [List.length_take] at hb
  have e1 : wAdd .i64 (k : Int) 1 = ((k + 1 : Nat) : Int) := by rw [y6] <;> omega
  have e2 : wAdd .i64 (sumR grads (rows.take k)) y = sumR grads (rows.take (k + 1)) := by rw [hs, hgx, y6] <;> omega
  refine zJ hT hmix [0, 1, 4, 5, 6] { t := [(0, aIs grads), (1, aIs rows), (4, .c (.ptr 0 0)), (5, .c (.ptr 1 0)), (6, ai k)], h := [(0, .box y8 (cB (0, 0))), (1, .box y8 (cB ((k + 1 : Nat), sumR grads (rows.take (k + 1)))))], n := 2, N := 29 } rfl ?_ ?_
  ·repeat' first
    | (refine zM rfl ?_; (conv => whnf))
    | (refine zL rfl ?_ ?_ <;> (conv => whnf))
    | (refine zC rfl ?_ ?_ ?_ <;> (conv => whnf))
    | (refine zw rfl ?_ ?_ ?_ ?_ <;> (conv => whnf))
    | (refine zG rfl hx ?_; (conv => whnf))
    | (refine zG hxn hy ?_; (conv => whnf))
    | (refine zO rfl ?_; (conv => whnf); first | done | rfl | (rw [e1, e2]; done) | (rw [e1, e2]; rfl))
  conv => whnf
  refine ⟨k + 1, by omega, by omega, ?_⟩
  ((conv => whnf); simp only [eS, e1])
 ·obtain rfl : k = rows.length := by omega
  rw [List.take_length]
theorem z3M (grads rows : List Int) (hg : z6V grads) (hl : rows.length ≤ 40) (hr : ∀ r ∈ rows, 0 ≤ r ∧ r < (grads.length : Int)) :
  z6 PR zE0 [aIs grads, aIs rows] (aB (rows.length, sumR grads rows)) [] 0 := by
 refine z6.intro hT (pf Tryz.func99) rfl (by kernel_rfl) Tryz.ntmps99 rfl ?_
 conv => whnf
 refine zB hT [0, 4, 5, 11, 12, 13] (α := Nat) (fun x => { t := [(0, aIs grads), (4, .c (.ptr 0 0)), (5, .c (.ptr 1 0)), (11, aIs rows), (12, ai (nInt (dLen (eL cI rows)))), (13, ai x)], h := [(0, .box y8 (cB (0, 0))), (1, .box y8 (cB (nInt (dLen (eL cI rows)), sumR grads (rows.take x))))], n := 2, N := 27 })
  (fun x => x ≤ rows.length) (fun x => rows.length - x) 0 (by first | ((conv => whnf); done) | ((conv => whnf); rfl)) (Nat.zero_le _) ?_
 intro k hk
 conv => whnf
 refine zK (fun h1 => ?_) (fun h1 => ?_) <;> (conv => whnf) <;> simp only [eH] at h1
 ·obtain ⟨x, hx⟩ := zI (show k < rows.length by omega)
  have hxr := hr x (List.mem_of_getElem? hx)
  obtain ⟨y, hy⟩ := zI (show x.toNat < grads.length by omega)
  have hxn : x = (x.toNat : Int) := by omega
  have hs := zEu (grads := grads) hx
  have hgx : gAt grads x = y := by unfold gAt; rw [hy]; rfl
  have hb := z3f hg (rows.take k)
  have hy2 := hg y (List.mem_of_getElem? hy)
  rw [List.length_take] at hb
  have e1 : wAdd .i64 (k : Int) 1 = ((k + 1 : Nat) : Int) := by rw [y6] <;> omega
  have e2 : wAdd .i64 (sumR grads (rows.take k)) y = sumR grads (rows.take (k + 1)) := by rw [hs, hgx, y6] <;> omega
  refine zG rfl hx ?_
  conv => whnf
  refine zJ hT hmix [0, 4, 5, 11, 12, 13] { t := [(0, aIs grads), (4, .c (.ptr 0 0)), (5, .c (.ptr 1 0)), (11, aIs rows), (12, ai (nInt (dLen (eL cI rows)))), (13, ai k)], h := [(0, .box y8 (cB (0, 0))), (1, .box y8 (cB (nInt (dLen (eL cI rows)), sumR grads (rows.take (k + 1)))))], n := 2, N := 27 } rfl ?_ ?_
  ·repeat' first
    | (refine zM rfl ?_; (conv => whnf))
    | (refine zL rfl ?_ ?_ <;> (conv => whnf))
    | (refine zC rfl ?_ ?_ ?_ <;> (conv => whnf))
    | (refine zw rfl ?_ ?_ ?_ ?_ <;> (conv => whnf))
    | (refine zG hxn hy ?_; (conv => whnf))
    | (refine zO rfl ?_; (conv => whnf); first | done | rfl | (rw [e2]; done) | (rw [e2]; rfl))
  conv => whnf
  refine ⟨k + 1, by omega, by omega, ?_⟩
  ((conv => whnf); simp only [eS, e1])
 ·obtain rfl : k = rows.length := by omega
  rw [List.take_length, show nInt (dLen (eL cI rows)) = (rows.length : Int) by simp]
def z2I (c : Cfg) : List Int := [c.rounds, c.depth, c.bins, c.lambda, c.rows]
def z87 : List Int := [1, 0, 2, 1, 1]
def z4B : List Int := [8, 4, 8, 100, 20]
def cfgP (c : Cfg) : Prop := (∀ (k : Nat) (x lo hi : Int), (z2I c)[k]? = some x → z87[k]? = some lo → z4B[k]? = some hi → lo ≤ x ∧ x ≤ hi) ∧ (∀ s ∈ c.signs, -1 ≤ s ∧ s ≤ 1) ∧ (1 ≤ c.den ∧ c.den ≤ 1000) ∧ (1 ≤ c.num ∧ c.num ≤ c.den) ∧ c.signs.length ≤ 4
noncomputable def z0T (c : Cfg) : Bool := @decide (cfgP c) (Classical.propDecidable _)
theorem z3H {c : Cfg} (h : cfgP c) : z0T c = true := by unfold z0T; exact @decide_eq_true _ (Classical.propDecidable _) h
theorem wy {c : Cfg} (h : ¬ cfgP c) : z0T c = false := by unfold z0T; exact @decide_eq_false _ (Classical.propDecidable _) h
theorem z0K {c : Cfg} : z0T c = true ↔ cfgP c := by
 constructor
 ·intro h
  rcases Classical.em (cfgP c) with q | q
  ·exact q
  ·rw [wy q] at h; cases h
 ·exact z3H
theorem wE (c : Cfg) : (∀ (k : Nat) (x lo hi : Int), (z2I c)[k]? = some x → z87[k]? = some lo → z4B[k]? = some hi → lo ≤ x ∧ x ≤ hi) ↔ ((1 ≤ c.rounds ∧ c.rounds ≤ 8) ∧ (0 ≤ c.depth ∧ c.depth ≤ 4) ∧ (2 ≤ c.bins ∧ c.bins ≤ 8) ∧ (1 ≤ c.lambda ∧ c.lambda ≤ 100) ∧ (1 ≤ c.rows ∧ c.rows ≤ 20)) := by
 constructor
 ·intro h
  exact ⟨h 0 _ _ _ rfl rfl rfl, h 1 _ _ _ rfl rfl rfl, h 2 _ _ _ rfl rfl rfl, h 3 _ _ _ rfl rfl rfl, h 4 _ _ _ rfl rfl rfl⟩
 ·rintro ⟨h0, h1, h2, h3, h4⟩ k x lo hi hx hl hh
  match k with
  | 0 => cases hx; cases hl; cases hh; exact h0
  | 1 => cases hx; cases hl; cases hh; exact h1
  | 2 => cases hx; cases hl; cases hh; exact h2
  | 3 => cases hx; cases hl; cases hh; exact h3
  | 4 => cases hx; cases hl; cases hh; exact h4
  | k + 5 => simp [z2I] at hx
theorem z4f (x : Int) : z6 PR z2j [ai x] (ab (bNot (decide (-1 ≤ x ∧ x ≤ 1)))) [] 0 := by
 refine z6.intro hT (pf Tryz.func231) rfl (by kernel_rfl) Tryz.ntmps231 rfl ?_
 conv => whnf
 refine .inl ⟨_, _, _, z8a _, rfl, ?_⟩
 conv => whnf
theorem yh (c : Cfg) (hl : c.signs.length ≤ 1048576) : z6 PR zAf [aCf c] (ab (z0T c)) [] 0 := by
 refine z6.intro hT (pf Tryz.func119) rfl (by kernel_rfl) Tryz.ntmps119 rfl ?_
 conv => whnf
 refine .inl ⟨_, _, _, zP _ _ _, rfl, ?_⟩
 cases h0 : decide (1 ≤ c.rounds ∧ c.rounds ≤ 8)
 ·conv => whnf
  rw [decide_eq_false_iff_not] at h0
  rw [wy (fun q => h0 ((wE c).1 q.1).1)]
 rw [decide_eq_true_iff] at h0
 conv => whnf
 refine .inl ⟨_, _, _, zP _ _ _, rfl, ?_⟩
 cases h1 : decide (0 ≤ c.depth ∧ c.depth ≤ 4)
 ·conv => whnf
  rw [decide_eq_false_iff_not] at h1
  rw [wy (fun q => h1 ((wE c).1 q.1).2.1)]
 rw [decide_eq_true_iff] at h1
 conv => whnf
 refine .inl ⟨_, _, _, zP _ _ _, rfl, ?_⟩
 cases h2 : decide (2 ≤ c.bins ∧ c.bins ≤ 8)
 ·conv => whnf
  rw [decide_eq_false_iff_not] at h2
  rw [wy (fun q => h2 ((wE c).1 q.1).2.2.1)]
 rw [decide_eq_true_iff] at h2
 conv => whnf
 refine .inl ⟨_, _, _, zP _ _ _, rfl, ?_⟩
 cases h3 : decide (1 ≤ c.lambda ∧ c.lambda ≤ 100)
 ·conv => whnf
  rw [decide_eq_false_iff_not] at h3
  rw [wy (fun q => h3 ((wE c).1 q.1).2.2.2.1)]
 rw [decide_eq_true_iff] at h3
 conv => whnf
 refine .inl ⟨_, _, _, zP _ _ _, rfl, ?_⟩
 cases h4 : decide (1 ≤ c.rows ∧ c.rows ≤ 20)
 ·conv => whnf
  rw [decide_eq_false_iff_not] at h4
  rw [wy (fun q => h4 ((wE c).1 q.1).2.2.2.2)]
 rw [decide_eq_true_iff] at h4
 conv => whnf
 refine .inl ⟨_, _, _, zP _ _ _, rfl, ?_⟩
 cases h5 : decide (1 ≤ c.den ∧ c.den ≤ 1000)
 ·conv => whnf
  rw [decide_eq_false_iff_not] at h5
  rw [wy (fun q => h5 q.2.2.1)]
 rw [decide_eq_true_iff] at h5
 conv => whnf
 refine .inl ⟨_, _, _, zP _ _ _, rfl, ?_⟩
 cases h6 : decide (1 ≤ c.num ∧ c.num ≤ c.den)
 ·conv => whnf
  rw [decide_eq_false_iff_not] at h6
  rw [wy (fun q => h6 q.2.2.2.1)]
 rw [decide_eq_true_iff] at h6
 conv => whnf
 rw [show nInt (dLen (eL cI c.signs)) = (c.signs.length : Int) by simp]
 cases h7 : iLe (c.signs.length : Int) 4
 ·conv => whnf
  simp at h7
  rw [wy (fun q => by have := q.2.2.2.2; omega)]
 simp at h7
 conv => whnf
 refine .inl ⟨_, _, _, yM c.signs z2j (fun x => bNot (decide (-1 ≤ x ∧ x ≤ 1))) (fun x _ => z4f x) (by omega), rfl, ?_⟩
 conv => whnf
 cases h8 : c.signs.any fun x => bNot (decide (-1 ≤ x ∧ x ≤ 1))
 ·rw [List.any_eq_false] at h8
  rw [z3H ⟨(wE c).2 ⟨h0, h1, h2, h3, h4⟩, fun s hs => by have := h8 s hs; simpa [bNot] using this, h5, h6, by omega⟩]
  rfl
 ·rw [List.any_eq_true] at h8
  obtain ⟨s, hs1, hs2⟩ := h8
  rw [wy (fun q => by have := q.2.1 s hs1; simp [bNot] at hs2; omega)]
  rfl
theorem z5C (c : Cfg) : z6 PR z8v [aCf c] (.c (.ref 0 0 none)) [(0, .arr zZ 1 0 .own (eL cI (z2I c)))] 1 := by
 refine z6.intro hT (pf Tryz.func162) rfl (by kernel_rfl) Tryz.ntmps162 rfl ?_
 conv => whnf
 simp only [z2I, z7l, zp]
 rfl
theorem z6y : z6 PR zBL [] (.c (.ref 0 0 none)) [(0, .arr zZ 1 0 .own (eL cI z87))] 1 := by
 refine z6.intro hT (pf Tryz.func163) rfl (by kernel_rfl) Tryz.ntmps163 rfl ?_
 conv => whnf
 simp only [z87, z7l, zp]
 rfl
theorem z8B : z6 PR zDR [] (.c (.ref 0 0 none)) [(0, .arr zZ 1 0 .own (eL cI z4B))] 1 := by
 refine z6.intro hT (pf Tryz.func164) rfl (by kernel_rfl) Tryz.ntmps164 rfl ?_
 conv => whnf
 simp only [z4B, z7l, zp]
 rfl
theorem yO (c : Cfg) (hl : c.signs.length ≤ 1048576) : z6 PR zAS [aCf c] (ab (z0T c)) [] 0 := by
 refine z6.intro hT (pf Tryz.func64) rfl (by kernel_rfl) Tryz.ntmps64 rfl ?_
 conv => whnf
 refine .inl ⟨_, _, _, z5C c, rfl, ?_⟩
 conv => whnf
 refine zj 0 ?_
 conv => whnf
 have hnl : (z2I c).length = 5 := rfl
 have l1 : z87.length = 5 := rfl
 have l2 : z4B.length = 5 := rfl
 refine zB hT [1, 3, 4] (α := Nat) (fun x => { t := [(1, .c (.d (.rp [.int .i64 c.rounds, .int .i64 c.depth, .int .i64 c.bins, .int .i64 c.lambda, .int .i64 c.rows, .int .i64 c.num, .int .i64 c.den, .sl 1 (eL cI c.signs)]))), (3, aIs (z2I c)), (4, ai x)], h := [], n := 0, N := 56 })
  (fun x => x ≤ 5 ∧ ∀ (k : Nat) (x' lo hi : Int), k < x → (z2I c)[k]? = some x' → z87[k]? = some lo → z4B[k]? = some hi → lo ≤ x' ∧ x' ≤ hi) (fun x => 5 - x) 0 (by first | ((conv => whnf); done) | ((conv => whnf); rfl)) ⟨Nat.zero_le _, fun k _ _ _ h => by omega⟩ ?_
 intro k ⟨hk, hr⟩
 conv => whnf
 refine zK (fun h1 => ?_) (fun h1 => ?_) <;> (conv => whnf) <;> simp only [eH] at h1
 ·obtain ⟨x, hx⟩ := zI (show k < (z2I c).length by rw [hnl]; omega)
  obtain ⟨lo, hlo⟩ := zI (show k < z87.length by rw [show z87.length = 5 from rfl]; omega)
  obtain ⟨hi, hhi⟩ := zI (show k < z4B.length by rw [show z4B.length = 5 from rfl]; omega)
  refine zJ hT hmix [1, 3, 4, 25] { t := [(1, .c (.d (.rp [.int .i64 c.rounds, .int .i64 c.depth, .int .i64 c.bins, .int .i64 c.lambda, .int .i64 c.rows, .int .i64 c.num, .int .i64 c.den, .sl 1 (eL cI c.signs)]))), (3, aIs (z2I c)), (4, ai k), (25, ab (bNot (decide (lo ≤ x ∧ x ≤ hi))))], h := [], n := 0, N := 56 } rfl ?_ ?_
  ·repeat' first
    | (refine zM rfl ?_; (conv => whnf))
    | (refine zL rfl ?_ ?_ <;> (conv => whnf))
    | (refine zC rfl ?_ ?_ ?_ <;> (conv => whnf))
    | (refine zG rfl hx ?_; (conv => whnf))
    | (refine .inl ⟨_, _, _, z6y, rfl, ?_⟩; (conv => whnf))
    | (refine .inl ⟨_, _, _, z8B, rfl, ?_⟩; (conv => whnf))
    | (refine ye (k := k) rfl (by first | omega | (simp only [zE, l1]; omega) | (simp only [zE, l2]; omega) | (simp [l1, l2]; omega)) ?_; (conv => whnf))
    | (refine z33 (by simp) hlo ?_; (conv => whnf))
    | (refine z33 (by simp) hhi ?_; (conv => whnf))
    | (refine .inl ⟨_, _, _, zS _ _ _, rfl, ?_⟩; (conv => whnf))
    | (refine zO rfl ?_; (conv => whnf); first | done | rfl)
  conv => whnf
  cases h2 : decide (lo ≤ x ∧ x ≤ hi)
  ·rw [decide_eq_false_iff_not] at h2
   conv => whnf
   rw [wy (fun q => h2 (q.1 k x lo hi hx hlo hhi))]
  ·rw [decide_eq_true_iff] at h2
   conv => whnf
   refine ⟨k + 1, by omega, ⟨by omega, fun j x' lo' hi' hj a1 a2 a3 => ?_⟩, ?_⟩
   ·rcases Nat.lt_or_ge j k with q | q
    ·exact hr j x' lo' hi' q a1 a2 a3
    ·obtain rfl : j = k := by omega
     rw [hx] at a1; rw [hlo] at a2; rw [hhi] at a3
     cases a1; cases a2; cases a3
     exact h2
   have e1 : wAdd .i64 (k : Int) 1 = ((k + 1 : Nat) : Int) := by rw [y6] <;> omega
   ((conv => whnf); simp only [eS, e1])
 ·obtain rfl : k = 5 := by omega
  have h5 := (wE c).1 (fun j x lo hi a1 a2 a3 => hr j x lo hi (by have := (List.getElem?_eq_some_iff.1 a1).1; omega) a1 a2 a3)
  refine zB hT [1, 5] (α := Nat) (fun x => { t := [(1, .c (.d (.rp [.int .i64 c.rounds, .int .i64 c.depth, .int .i64 c.bins, .int .i64 c.lambda, .int .i64 c.rows, .int .i64 c.num, .int .i64 c.den, .sl 1 (eL cI c.signs)]))), (5, ai x)], h := [], n := 0, N := 56 })
   (fun x => x ≤ c.signs.length ∧ ∀ (j : Nat) (y : Int), j < x → c.signs[j]? = some y → -1 ≤ y ∧ y ≤ 1) (fun x => c.signs.length - x) 0 (by first | ((conv => whnf); done) | ((conv => whnf); rfl)) ⟨Nat.zero_le _, fun k _ h => by omega⟩ ?_
  intro i ⟨hi, hq⟩
  conv => whnf
  rw [show nInt (dLen (eL cI c.signs)) = (c.signs.length : Int) by simp]
  refine zK (fun h6 => ?_) (fun h6 => ?_) <;> (conv => whnf) <;> simp only [eH] at h6
  ·obtain ⟨y, hy⟩ := zI (show i < c.signs.length by omega)
   refine zG rfl hy ?_
   conv => whnf
   refine .inl ⟨_, _, _, zS _ _ _, rfl, ?_⟩
   conv => whnf
   cases h7 : decide (-1 ≤ y ∧ y ≤ 1)
   ·rw [decide_eq_false_iff_not] at h7
    conv => whnf
    rw [wy (fun q => h7 (q.2.1 y (List.mem_of_getElem? hy)))]
   ·rw [decide_eq_true_iff] at h7
    conv => whnf
    refine ⟨i + 1, by omega, ⟨by omega, fun j z hj hz => ?_⟩, ?_⟩
    ·rcases Nat.lt_or_ge j i with q | q
     ·exact hq j z q hz
     ·obtain rfl : j = i := by omega
      rw [hy] at hz; cases hz; exact h7
    have e1 : wAdd .i64 (i : Int) 1 = ((i + 1 : Nat) : Int) := by rw [y6] <;> omega
    ((conv => whnf); simp only [eS, e1])
  ·obtain rfl : i = c.signs.length := by omega
   have h8 : ∀ s ∈ c.signs, -1 ≤ s ∧ s ≤ 1 := fun s hs => by
    obtain ⟨j, hj⟩ := List.mem_iff_getElem?.1 hs
    exact hq j s (List.getElem?_eq_some_iff.1 hj).1 hj
   refine .inl ⟨_, _, _, zS _ _ _, rfl, ?_⟩
   cases h9 : decide (1 ≤ c.den ∧ c.den ≤ 1000)
   ·rw [decide_eq_false_iff_not] at h9
    conv => whnf
    rw [wy (fun q => h9 q.2.2.1)]
   rw [decide_eq_true_iff] at h9
   conv => whnf
   refine .inl ⟨_, _, _, zS _ _ _, rfl, ?_⟩
   cases h10 : decide (1 ≤ c.num ∧ c.num ≤ c.den)
   ·rw [decide_eq_false_iff_not] at h10
    conv => whnf
    rw [wy (fun q => h10 q.2.2.2.1)]
   rw [decide_eq_true_iff] at h10
   conv => whnf
   rw [show nInt (dLen (eL cI c.signs)) = (c.signs.length : Int) by simp]
   cases h11 : iLe (c.signs.length : Int) 4
   ·simp at h11
    rw [wy (fun q => by have := q.2.2.2.2; omega)]
   ·simp at h11
    rw [z3H ⟨(wE c).2 h5, h8, h9, h10, by omega⟩]
def yw (g : Grd) (grads : List Int) (c : Cfg) : Prop := zBI g ∧ cfgP c ∧ grads.length = yR g ∧ z6V grads
noncomputable def zCA (g : Grd) (grads : List Int) (c : Cfg) : Bool := @decide (yw g grads c) (Classical.propDecidable _)
theorem z4H {g : Grd} {grads : List Int} {c : Cfg} (h : yw g grads c) : zCA g grads c = true := by unfold zCA; exact @decide_eq_true _ (Classical.propDecidable _) h
theorem z1y {g : Grd} {grads : List Int} {c : Cfg} (h : ¬ yw g grads c) : zCA g grads c = false := by unfold zCA; exact @decide_eq_false _ (Classical.propDecidable _) h
theorem z6C (x : Int) : z6 PR z43 [ai x] (ab (bNot (decide (-2199023255552 ≤ x ∧ x ≤ 2199023255552)))) [] 0 := by
 refine z6.intro hT (pf Tryz.func121) rfl (by kernel_rfl) Tryz.ntmps121 rfl ?_
 conv => whnf
 refine .inl ⟨_, _, _, zP _ _ _, rfl, ?_⟩
 conv => whnf
theorem z3Q (g : Grd) (grads : List Int) (c : Cfg) (hg : smG g) (hr : grads.length ≤ 1048576) (hc : c.signs.length ≤ 1048576) : z6 PR zE6 [aG g, aIs grads, aCf c] (ab (zCA g grads c)) [] 0 := by
 refine z6.intro hT (pf Tryz.func34) rfl (by kernel_rfl) Tryz.ntmps34 rfl ?_
 conv => whnf
 refine .inl ⟨_, _, _, z3R g hg, rfl, ?_⟩
 cases h1 : z6U g
 ·conv => whnf
  rw [z1y (fun q => by rw [z3A q.1] at h1; cases h1)]
 rw [zCV] at h1
 conv => whnf
 refine .inl ⟨_, _, _, yh c hc, rfl, ?_⟩
 cases h2 : z0T c
 ·conv => whnf
  rw [z1y (fun q => by rw [z3H q.2.1] at h2; cases h2)]
 rw [z0K] at h2
 conv => whnf
 refine .inl ⟨_, _, _, wk g, rfl, ?_⟩
 rw [show nInt (dLen (eL cI grads)) = (grads.length : Int) by simp]
 conv => whnf
 cases h3 : iEq (grads.length : Int) (yR g : Int)
 ·conv => whnf
  simp at h3
  rw [z1y (fun q => by have := q.2.2.1; omega)]
 simp at h3
 conv => whnf
 refine .inl ⟨_, _, _, yM grads z43 (fun x => bNot (decide (-2199023255552 ≤ x ∧ x ≤ 2199023255552))) (fun x _ => z6C x) (by omega), rfl, ?_⟩
 conv => whnf
 cases h8 : grads.any fun x => bNot (decide (-2199023255552 ≤ x ∧ x ≤ 2199023255552))
 ·rw [List.any_eq_false] at h8
  rw [z4H ⟨h1, h2, by omega, fun s hs => by have := h8 s hs; simpa [bNot] using this⟩]
  rfl
 ·rw [List.any_eq_true] at h8
  obtain ⟨s, hs1, hs2⟩ := h8
  rw [z1y (fun q => by have := q.2.2.2 s hs1; simp [bNot] at hs2; omega)]
  rfl
theorem z3J (g : Grd) (grads : List Int) (c : Cfg) (hg : smG g) (hr : grads.length ≤ 1048576) (hc : c.signs.length ≤ 1048576) : z6 PR zDb [aG g, aIs grads, aCf c] (ab (zCA g grads c)) [] 0 := by
 refine z6.intro hT (pf Tryz.func111) rfl (by kernel_rfl) Tryz.ntmps111 rfl ?_
 conv => whnf
 refine .inl ⟨_, _, _, z3L g hg, rfl, ?_⟩
 cases h1 : z6U g
 ·conv => whnf
  rw [z1y (fun q => by rw [z3A q.1] at h1; cases h1)]
 rw [zCV] at h1
 conv => whnf
 refine .inl ⟨_, _, _, yO c hc, rfl, ?_⟩
 cases h2 : z0T c
 ·conv => whnf
  rw [z1y (fun q => by rw [z3H q.2.1] at h2; cases h2)]
 rw [z0K] at h2
 conv => whnf
 refine .inl ⟨_, _, _, z0u g, rfl, ?_⟩
 rw [show nInt (dLen (eL cI grads)) = (grads.length : Int) by simp]
 conv => whnf
 cases h3 : iEq (grads.length : Int) (yR g : Int)
 ·conv => whnf
  simp at h3
  rw [z1y (fun q => by have := q.2.2.1; omega)]
 simp at h3
 conv => whnf
 refine zB hT [1, 7] (α := Nat) (fun x => { t := [(1, aIs grads), (7, ai x)], h := [], n := 0, N := 35 })
  (fun x => x ≤ grads.length ∧ ∀ (j : Nat) (y : Int), j < x → grads[j]? = some y → -2199023255552 ≤ y ∧ y ≤ 2199023255552) (fun x => grads.length - x) 0 (by first | ((conv => whnf); done) | ((conv => whnf); rfl)) ⟨Nat.zero_le _, fun k _ h => by omega⟩ ?_
 intro i ⟨hi, hq⟩
 conv => whnf
 rw [show nInt (dLen (eL cI grads)) = (grads.length : Int) by simp]
 refine zK (fun h6 => ?_) (fun h6 => ?_) <;> (conv => whnf) <;> simp only [eH] at h6
 ·obtain ⟨y, hy⟩ := zI (show i < grads.length by omega)
  refine zG rfl hy ?_
  conv => whnf
  refine .inl ⟨_, _, _, zS _ _ _, rfl, ?_⟩
  conv => whnf
  cases h7 : decide (-2199023255552 ≤ y ∧ y ≤ 2199023255552)
  ·rw [decide_eq_false_iff_not] at h7
   conv => whnf
   rw [z1y (fun q => h7 (q.2.2.2 y (List.mem_of_getElem? hy)))]
  ·rw [decide_eq_true_iff] at h7
   conv => whnf
   refine ⟨i + 1, by omega, ⟨by omega, fun j z hj hz => ?_⟩, ?_⟩
   ·rcases Nat.lt_or_ge j i with q | q
    ·exact hq j z q hz
    ·obtain rfl : j = i := by omega
     rw [hy] at hz; cases hz; exact h7
   have e1 : wAdd .i64 (i : Int) 1 = ((i + 1 : Nat) : Int) := by rw [y6] <;> omega
   ((conv => whnf); simp only [eS, e1])
 ·obtain rfl : i = grads.length := by omega
  rw [z4H ⟨h1, h2, by omega, fun s hs => by
   obtain ⟨j, hj⟩ := List.mem_iff_getElem?.1 hs
   exact hq j s (List.getElem?_eq_some_iff.1 hj).1 hj⟩]
end Go.H.S
namespace Go.H.S
open Go Go.Proofs Go.H
theorem zFv (x : Int) : IntKind.wrap .u64 x = x % 18446744073709551616 := by simp [IntKind.wrap, IntKind.bits, IntKind.signed]
theorem wAddU {x y : Int} (h1 : 0 ≤ x + y) (h2 : x + y < 18446744073709551616) : wAdd .u64 x y = x + y := by unfold wAdd; rw [zFv]; omega
theorem z5f (x y : Int) : wAdd .u64 x y = (x + y) % 18446744073709551616 := by unfold wAdd; rw [zFv]
theorem zEh (x y : Int) : wMul .u64 x y = (x * y) % 18446744073709551616 := by unfold wMul; rw [zFv]
theorem zIN (x : Int) : wNeg .u64 x = (0 - x) % 18446744073709551616 := by unfold wNeg; rw [zFv]
theorem z4F (x : Int) : z2K .u64 x = x % 18446744073709551616 := by unfold z2K; rw [zFv]
theorem z57 (x : Nat) (h : x < 18446744073709551616) : wAnd .u64 (x : Int) 4294967295 = ((x % 4294967296 : Nat) : Int) := by
 have h127 : (BitVec.ofInt 64 4294967295).toNat = 2 ^ 32 - 1 := by decide
 have key : (BitVec.ofInt 64 (x : Int) &&& BitVec.ofInt 64 4294967295).toNat = x % 4294967296 := by
  rw [BitVec.toNat_and, BitVec.toNat_ofInt, h127, Nat.and_two_pow_sub_one_eq_mod]
  omega
 unfold wAnd z2o
 show IntKind.u64.wrap ((BitVec.ofInt 64 (x : Int) &&& BitVec.ofInt 64 4294967295).toNat : Nat) = _
 rw [key, zFv]
 omega
theorem z2C (x : Nat) : wShr .u64 (x : Int) 32 = ((x / 4294967296 : Nat) : Int) := by
 unfold wShr
 show (x : Int).fdiv (2 ^ 32) = _
 rw [Int.fdiv_eq_ediv_of_nonneg _ (by decide)]; rfl
theorem zLs (x : Nat) : wShl .u64 (x : Int) 32 = ((x * 4294967296 % 18446744073709551616 : Nat) : Int) := by
 unfold wShl
 show IntKind.u64.wrap ((x : Int) * 2 ^ 32) = _
 rw [zFv]
 omega
theorem zEi (x y : Nat) (h : x * y < 18446744073709551616) : wMul .u64 (x : Int) (y : Int) = ((x * y : Nat) : Int) := by
 rw [zEh, show (x : Int) * (y : Int) = ((x * y : Nat) : Int) by simp]; omega
theorem zIO (x y : Nat) : wMul .u64 (x : Int) (y : Int) = ((x * y % 18446744073709551616 : Nat) : Int) := by
 rw [zEh, show (x : Int) * (y : Int) = ((x * y : Nat) : Int) by simp]; omega
theorem wc (x y : Nat) (h : x + y < 18446744073709551616) : wAdd .u64 (x : Int) (y : Int) = ((x + y : Nat) : Int) := by
 rw [wAddU] <;> omega
theorem zKt (x y : Nat) (hx : x < 18446744073709551616) (hy : y < 18446744073709551616) :
  (((x / 4294967296) * (y % 4294967296) + (x % 4294967296) * (y % 4294967296) / 4294967296) % 4294967296 + (x % 4294967296) * (y / 4294967296)) % 4294967296 * 4294967296 +
   (x % 4294967296) * (y % 4294967296) % 4294967296 = x * y % 18446744073709551616 := by
 have e : x * y = (x / 4294967296) * (y / 4294967296) * (4294967296 * 4294967296) + ((x / 4294967296) * (y % 4294967296) + (x % 4294967296) * (y / 4294967296)) * 4294967296 + (x % 4294967296) * (y % 4294967296) := by
  rw [← Go.Lib.split_mul, Nat.div_add_mod' x 4294967296, Nat.div_add_mod' y 4294967296]
 rw [e]
 generalize (x / 4294967296) * (y / 4294967296) = a at *
 generalize (x / 4294967296) * (y % 4294967296) = b at *
 generalize (x % 4294967296) * (y / 4294967296) = c at *
 generalize (x % 4294967296) * (y % 4294967296) = d at *
 omega
def hiU (n : Int) : Int := ((n.natAbs / 18446744073709551616 : Nat) : Int)
def loU (n : Int) : Int := ((n.natAbs % 18446744073709551616 : Nat) : Int)
theorem hl (n : Int) : (n.natAbs : Int) = hiU n * 18446744073709551616 + loU n ∧ 0 ≤ loU n ∧ loU n < 18446744073709551616 ∧ 0 ≤ hiU n := by unfold hiU loU; omega
theorem hl_eq {n a b : Int} (h : (n.natAbs : Int) = a * 18446744073709551616 + b) (ha : 0 ≤ a) (hb : 0 ≤ b ∧ b < 18446744073709551616) : hiU n = a ∧ loU n = b := by unfold hiU loU; omega
abbrev cW (n : Int) : List CV := [.d (.bool (decide (n < 0))), .d (.int .u64 (hiU n)), .d (.int .u64 (loU n))]
abbrev aW (n : Int) : AV := .agg (cW n)
def sgnI (n : Int) : Int := if n < 0 then -1 else if n = 0 then 0 else 1
abbrev zLv (a b : Nat) : AV := .tup [(false, [.d (.int .u64 (a : Int))]), (false, [.d (.int .u64 (b : Int))])]
end Go.H.S
namespace Go.H.S
open Go Go.Proofs Go.H
def cSl (s : Int × Int) : List D := [.int .i64 s.1, .int .i64 s.2]
def cHs (h : List (Int × Int)) : List D := [.sl 2 (eL cSl h)]
structure Cd where
 f : Int
 b : Int
 l : Int × Int
 r : Int × Int
 deriving DecidableEq
def cCd (c : Cd) : List D := [.int .i64 c.f, .int .i64 c.b, .int .i64 c.l.1, .int .i64 c.l.2, .int .i64 c.r.1, .int .i64 c.r.2]
abbrev cCV (c : Cd) : List CV := [.d (.int .i64 c.f), .d (.int .i64 c.b), .d (.int .i64 c.l.1), .d (.int .i64 c.l.2), .d (.int .i64 c.r.1), .d (.int .i64 c.r.2)]
abbrev aCd (c : Cd) : AV := .agg (cCV c)
def noCd : Cd := ⟨0, 0, (0, 0), (0, 0)⟩
def addS (a b : Int × Int) : Int × Int := (a.1 + b.1, a.2 + b.2)
def subS (a b : Int × Int) : Int × Int := (a.1 - b.1, a.2 - b.2)
def slB (s : Int × Int) : Prop := (-1152921504606846976 ≤ s.1 ∧ s.1 ≤ 1152921504606846976) ∧ (-1152921504606846976 ≤ s.2 ∧ s.2 ≤ 1152921504606846976)
def wK (grads rows : List Int) : Int × Int := ((rows.length : Int), sumR grads rows)
def w4 (bins : List Int) (r : Int) : Int := (bins[r.toNat]?).getD 0
def ww (bins grads rows : List Int) (n : Nat) : List (Int × Int) := (List.range n).map fun (b : Nat) => wK grads (rows.filter fun r => decide (w4 bins r = (b : Int)))
theorem we (bins grads rows : List Int) (n : Nat) : (ww bins grads rows n).length = n := by simp [ww]
theorem zFP (bins grads : List Int) (n : Nat) : ww bins grads [] n = List.replicate n (0, 0) := by
 apply List.ext_getElem?
 intro i
 rw [ww, List.getElem?_map, List.getElem?_replicate]
 by_cases h : i < n
 ·rw [List.getElem?_range h, if_pos h]; rfl
 ·rw [List.getElem?_eq_none (by simp; omega), if_neg h]; rfl
theorem zHq (grads rs : List Int) (r : Int) : wK grads (rs ++ [r]) = addS (wK grads rs) (1, gAt grads r) := by
 simp only [wK, addS, z9Y, List.length_append, List.length_cons, List.length_nil]
 rw [show ((rs.length + (0 + 1) : Nat) : Int) = (rs.length : Int) + 1 by omega]
theorem z9R (bins grads rows : List Int) {n b : Nat} (h : b < n) : (ww bins grads rows n)[b]? = some (wK grads (rows.filter fun r => decide (w4 bins r = (b : Int)))) := by
 rw [ww, List.getElem?_map, List.getElem?_range h]; rfl
theorem zCU {bins grads rows : List Int} {n k b : Nat} {x : Int} (hx : rows[k]? = some x) (hb : w4 bins x = (b : Int)) (h : b < n) :
  ww bins grads (rows.take (k + 1)) n = (ww bins grads (rows.take k) n).set b (addS (wK grads ((rows.take k).filter fun r => decide (w4 bins r = (b : Int)))) (1, gAt grads x)) := by
 apply List.ext_getElem?
 intro i
 by_cases hi : i < n
 ·rw [z9R bins grads _ hi, List.getElem?_set]
  have ht : (rows.take (k + 1)).filter (fun r => decide (w4 bins r = (i : Int))) = (rows.take k).filter (fun r => decide (w4 bins r = (i : Int))) ++ (if decide (w4 bins x = (i : Int)) then [x] else []) := by
   rw [List.take_add_one, hx, List.filter_append]
   simp only [Option.toList_some, List.filter_cons, List.filter_nil]
  rw [ht]
  by_cases hbi : b = i
  ·subst hbi
   rw [if_pos (decide_eq_true hb), if_pos rfl, if_pos (by rw [we]; exact h), zHq]
  ·rw [if_neg hbi, z9R bins grads _ hi, decide_eq_false (by omega)]
   simp
 ·rw [List.getElem?_eq_none (by rw [we]; omega), List.getElem?_eq_none (by rw [List.length_set, we]; omega)]
theorem zGy {grads : List Int} (hg : z6V grads) (rs : List Int) : 0 ≤ (wK grads rs).1 ∧ -2199023255552 * (wK grads rs).1 ≤ (wK grads rs).2 ∧ (wK grads rs).2 ≤ 2199023255552 * (wK grads rs).1 := by
 have := z3f hg rs
 simp only [wK]
 omega
def wZ : Int × Int → List (Int × Int) → List (Int × Int)
 | _, [] => []
 | a, s :: r => addS a s :: wZ (addS a s) r
theorem z2W : ∀ (l : List (Int × Int)) (a : Int × Int), (wZ a l).length = l.length
 | [], a => rfl
 | s :: r, a => by simp [wZ, z2W r]
def z1E (f : Nat) (least : Int) (sums : List (Int × Int)) (n : Nat) : List Cd := (List.range n).filterMap fun (b : Nat) =>
 let l := (sums[b]?).getD (0, 0)
 let r := subS ((sums[sums.length - 1]?).getD (0, 0)) l
 if least ≤ l.1 ∧ least ≤ r.1 then some ⟨(f : Int), (b : Int), l, r⟩ else none
def z0U (hists : List (List (Int × Int))) (least : Int) (n : Nat) : List Cd := (List.range n).flatMap fun (f : Nat) => let sums := wZ (0, 0) ((hists[f]?).getD []); z1E f least sums (sums.length - 1)
theorem zAw (f : Nat) (least : Int) (sums : List (Int × Int)) (b : Nat) {l z : Int × Int} (hl : sums[b]? = some l) (hz : sums[sums.length - 1]? = some z) :
  z1E f least sums (b + 1) = z1E f least sums b ++ (if least ≤ l.1 ∧ least ≤ (subS z l).1 then [⟨(f : Int), (b : Int), l, subS z l⟩] else []) := by
 unfold z1E
 rw [List.range_succ, List.filterMap_append]
 simp only [List.filterMap_cons, List.filterMap_nil, hl, hz, Option.getD_some]
 by_cases q : least ≤ l.1 ∧ least ≤ (subS z l).1
 ·rw [if_pos q, if_pos q]
 ·rw [if_neg q, if_neg q]
theorem z5c (hists : List (List (Int × Int))) (least : Int) (f : Nat) {h : List (Int × Int)} (hh : hists[f]? = some h) :
  z0U hists least (f + 1) = z0U hists least f ++ z1E f least (wZ (0, 0) h) ((wZ (0, 0) h).length - 1) := by
 unfold z0U
 rw [List.range_succ, List.flatMap_append]
 simp [hh]
def zAE (s : Int × Int) (lam : Int) : Int × Int := (s.2 * s.2, s.1 + lam)
def z6X (c : Cd) (lam : Int) : Int × Int := (c.l.2 * c.l.2 * (c.r.1 + lam) + c.r.2 * c.r.2 * (c.l.1 + lam), (c.l.1 + lam) * (c.r.1 + lam))
def cmpF (a b : Int × Int) : Int := sgnI (a.1 * b.2 - b.1 * a.2)
def impr (c : Cd) (lam : Int) : Bool := decide (0 < cmpF (z6X c lam) (zAE (addS c.l c.r) lam))
def zAu (a b : Cd) : Bool := decide (a.f < b.f ∨ a.f = b.f ∧ a.b < b.b)
def z3Z (a b : Cd) (lam : Int) : Bool := decide (0 < cmpF (z6X a lam) (z6X b lam)) || (decide (cmpF (z6X a lam) (z6X b lam) = 0) && zAu a b)
def zB6 (sign x y : Int) : Bool := decide ((sign = 1 → x ≤ y) ∧ (sign = -1 → y ≤ x))
def z1I (cfg : Cfg) (b : Int × Int) (c : Cd) : Int := z2D c.l.1 c.l.2 cfg.lambda b
def z1H (cfg : Cfg) (b : Int × Int) (c : Cd) : Int := z2D c.r.1 c.r.2 cfg.lambda b
def yZ (cfg : Cfg) (b : Int × Int) (c : Cd) : Bool := decide (cfg.rows ≤ c.l.1) && (decide (cfg.rows ≤ c.r.1) && (zB6 (yQ cfg c.f) (z1I cfg b c) (z1H cfg b c) && impr c cfg.lambda))
def zB1 (cfg : Cfg) (b : Int × Int) (list : List Cd) : Option Cd := (list.filter (yZ cfg b)).find? fun c => (list.filter (yZ cfg b)).all fun o => !z3Z o c cfg.lambda
theorem zGh (c : Cd) (lam : Int) : z3Z c c lam = false := by
 unfold z3Z cmpF
 rw [Int.sub_self]
 simp [sgnI, zAu]
def slP (s : Int × Int) : Prop := (0 ≤ s.1 ∧ s.1 ≤ 40) ∧ (-140737488355328 ≤ s.2 ∧ s.2 ≤ 140737488355328)
def cdP (c : Cd) : Prop := slP c.l ∧ slP c.r ∧ slP (addS c.l c.r) ∧ (0 ≤ c.f ∧ c.f ≤ 1000) ∧ (0 ≤ c.b ∧ c.b ≤ 1000)
theorem zIe {x A : Int} (h : -A ≤ x ∧ x ≤ A) : 0 ≤ x * x ∧ x * x ≤ A * A := by
 have h1 : 0 ≤ x * x := by
  rcases Int.le_total 0 x with q | q
  ·exact Int.mul_nonneg q q
  ·exact Int.mul_nonneg_of_nonpos_of_nonpos q q
 refine ⟨h1, ?_⟩
 rcases Int.le_total 0 x with q | q
 ·exact Int.mul_le_mul h.2 h.2 q (by omega)
 ·rw [show x * x = (-x) * (-x) by rw [Int.neg_mul_neg]]
  exact Int.mul_le_mul (by omega) (by omega) (by omega) (by omega)
theorem zFK {x y A B : Int} (hx : 0 ≤ x ∧ x ≤ A) (hy : 0 ≤ y ∧ y ≤ B) : 0 ≤ x * y ∧ x * y ≤ A * B :=
 ⟨Int.mul_nonneg hx.1 hy.1, Int.mul_le_mul hx.2 hy.2 hy.1 (by omega)⟩
def frP (f : Int × Int) : Prop := (0 ≤ f.1 ∧ f.1 ≤ 20282409603651670423947251286016) ∧ (1 ≤ f.2 ∧ f.2 ≤ 19600)
theorem zDN {s : Int × Int} {lam : Int} (hs : slP s) (hl : 1 ≤ lam ∧ lam ≤ 100) : (0 ≤ s.2 * s.2 ∧ s.2 * s.2 ≤ 19807040628566084398385987584) ∧ (1 ≤ s.1 + lam ∧ s.1 + lam ≤ 140) := by
 have := zIe (x := s.2) (A := 140737488355328) hs.2
 have := hs.1
 omega
theorem z9T {s : Int × Int} {lam : Int} (hs : slP s) (hl : 1 ≤ lam ∧ lam ≤ 100) : frP (zAE s lam) := by
 have := zDN hs hl
 unfold frP zAE
 dsimp only
 omega
theorem zHO {c : Cd} {lam : Int} (hs : slP c.l) (ht : slP c.r) (hl : 1 ≤ lam ∧ lam ≤ 100) : (0 ≤ c.l.2 * c.l.2 * (c.r.1 + lam) ∧ c.l.2 * c.l.2 * (c.r.1 + lam) ≤ 2772985687999251815774038261760) ∧ (0 ≤ c.r.2 * c.r.2 * (c.l.1 + lam) ∧ c.r.2 * c.r.2 * (c.l.1 + lam) ≤ 2772985687999251815774038261760) ∧ (1 ≤ (c.l.1 + lam) * (c.r.1 + lam) ∧ (c.l.1 + lam) * (c.r.1 + lam) ≤ 19600) := by
 have h1 := zDN hs hl
 have h2 := zDN ht hl
 have h3 := zFK (x := c.l.2 * c.l.2) (y := c.r.1 + lam) h1.1 ⟨by omega, h2.2.2⟩
 have h4 := zFK (x := c.r.2 * c.r.2) (y := c.l.1 + lam) h2.1 ⟨by omega, h1.2.2⟩
 have h5 := zFK (x := c.l.1 + lam) (y := c.r.1 + lam) ⟨by omega, h1.2.2⟩ ⟨by omega, h2.2.2⟩
 have h6 : 0 < (c.l.1 + lam) * (c.r.1 + lam) := Int.mul_pos (by omega) (by omega)
 omega
theorem z4O {c : Cd} {lam : Int} (hs : slP c.l) (ht : slP c.r) (hl : 1 ≤ lam ∧ lam ≤ 100) : frP (z6X c lam) := by
 have := zHO hs ht hl
 unfold frP z6X
 dsimp only
 omega
end Go.H.S
namespace Go.H.S
open Go Go.Proofs Go.H
attribute [local irreducible] Tri z6 zR zV zY zW
theorem zHL (x y : Nat) (hx : x < 18446744073709551616) (hy : y < 18446744073709551616) : (x % 4294967296) * (y % 4294967296) < 18446744073709551616 ∧ (x / 4294967296) * (y % 4294967296) < 18446744073709551616 ∧ (x % 4294967296) * (y / 4294967296) < 18446744073709551616 ∧
  (x / 4294967296) * (y / 4294967296) < 18446744073709551616 ∧ x * y / 18446744073709551616 < 18446744073709551616 := by
 have ha := Go.Lib.half_mul_le (a := x / 4294967296) (b := y / 4294967296) (by omega) (by omega)
 have hb := Go.Lib.half_mul_le (a := x / 4294967296) (b := y % 4294967296) (by omega) (by omega)
 have hc := Go.Lib.half_mul_le (a := x % 4294967296) (b := y / 4294967296) (by omega) (by omega)
 have hd := Go.Lib.half_mul_le (a := x % 4294967296) (b := y % 4294967296) (by omega) (by omega)
 have he : x * y ≤ 18446744073709551615 * 18446744073709551615 := Nat.mul_le_mul (by omega) (by omega)
 omega
theorem z1p (x y : Nat) (hx : x < 18446744073709551616) (hy : y < 18446744073709551616) : z6 PR z7d [.c (.d (.int .u64 x)), .c (.d (.int .u64 y))] (zLv (x * y / 18446744073709551616) (x * y % 18446744073709551616)) [] 0 := by
 have ⟨h1, h2, h3, h4⟩ := Go.Lib.mul64_hi x y hx hy
 have ⟨g1, g2, g3, g4, g5⟩ := zHL x y hx hy
 refine z6.intro hT (pf Tryz.func265) rfl (by kernel_rfl) Tryz.ntmps265 rfl ?_
 conv => whnf
 repeat (refine And.intro (by unfold NN; omega) ?_; (conv => whnf))
 rw [z2C x, z2C y, z57 x hx, z57 y hy, zEi _ _ g1, z2C, zEi _ _ g2, wc _ _ h2, z2C, z57 _ h2, zEi _ _ g3, wc _ _ h3, z2C, zEi _ _ g4, wc _ _ (by omega), wc _ _ (by omega), zIO, h4]
theorem wd (n : Int) (h : i64 n) : z6 PR zGL [ai n] (.c (.d (.int .u64 (n.natAbs : Int)))) [] 0 := by
 have h' : -9223372036854775808 ≤ n ∧ n ≤ 9223372036854775807 := h
 refine z6.intro hT (pf Tryz.func264) rfl (by kernel_rfl) Tryz.ntmps264 rfl ?_
 conv => whnf
 refine zK (fun g => ?_) (fun g => ?_) <;> (conv => whnf) <;> simp only [eH] at g
 ·rw [zIN, z4F, show (0 - n % 18446744073709551616) % 18446744073709551616 = (n.natAbs : Int) by omega]
 ·rw [z4F, show n % 18446744073709551616 = (n.natAbs : Int) by omega]
theorem z1U (n : Int) (h : i64 n) : z6 PR zFU [ai n] (.c (.d (.int .u64 (n.natAbs : Int)))) [] 0 := by
 have h' : -9223372036854775808 ≤ n ∧ n ≤ 9223372036854775807 := h
 refine z6.intro hT (pf Tryz.func300) rfl (by kernel_rfl) Tryz.ntmps300 rfl ?_
 conv => whnf
 refine zK (fun g => ?_) (fun g => ?_) <;> (conv => whnf) <;> simp only [eH] at g
 ·have e1 : wNeg .i64 (wAdd .i64 n 1) = -(n + 1) := by rw [y6 (by omega) (by omega)]; unfold wNeg; rw [z7v (by omega) (by omega)]; omega
  rw [e1, z5f, z4F, show (-(n + 1) % 18446744073709551616 + 1) % 18446744073709551616 = (n.natAbs : Int) by omega]
 ·rw [z4F, show n % 18446744073709551616 = (n.natAbs : Int) by omega]
theorem wq (x y : Nat) (hx : x < 18446744073709551616) (hy : y < 18446744073709551616) : z6 PR z8w [.c (.d (.int .u64 x)), .c (.d (.int .u64 y))] (zLv (x * y / 18446744073709551616) (x * y % 18446744073709551616)) [] 0 := by
 have ⟨h1, h2, h3, h4⟩ := Go.Lib.mul64_hi x y hx hy
 have ⟨g1, g2, g3, g4, g5⟩ := zHL x y hx hy
 have h5 := zKt x y hx hy
 refine z6.intro hT (pf Tryz.func299) rfl (by kernel_rfl) Tryz.ntmps299 rfl ?_
 conv => whnf
 repeat (refine And.intro (by unfold NN; omega) ?_; (conv => whnf))
 rw [z2C x, z2C y, z57 x hx, z57 y hy, zEi _ _ g1, z2C, zEi _ _ g2, wc _ _ h2, z2C, z57 _ h2, zEi _ _ g3, wc _ _ (by omega), z2C, zEi _ _ g4, wc _ _ (by omega), wc _ _ (by omega), zLs, z57 _ g1, wc _ _ (by omega)]
 rw [show x % 4294967296 * (y / 4294967296) + (x / 4294967296 * (y % 4294967296) + x % 4294967296 * (y % 4294967296) / 4294967296) % 4294967296 = (x / 4294967296 * (y % 4294967296) + x % 4294967296 * (y % 4294967296) / 4294967296) % 4294967296 + x % 4294967296 * (y / 4294967296) from Nat.add_comm _ _, h4]
 rw [show ∀ m : Nat, m * 4294967296 % 18446744073709551616 = m % 4294967296 * 4294967296 from fun m => by omega, h5]
theorem z8Z (n : Int) (b : Bool) (a c : Int) (hb : n ≠ 0 → b = decide (n < 0)) (ha : a = hiU n) (hc : c = loU n) : z6 PR z1L [ab b, .c (.d (.int .u64 a)), .c (.d (.int .u64 c))] (aW n) [] 0 := by
 have h := hl n
 subst ha; subst hc
 have h0 : n = 0 → decide (n < 0) = false := fun q => by subst q; rfl
 show z6 PR z1L [ab b, .c (.d (.int .u64 (hiU n))), .c (.d (.int .u64 (loU n)))] (.agg [.d (.bool (decide (n < 0))), .d (.int .u64 (hiU n)), .d (.int .u64 (loU n))]) [] 0
 generalize decide (n < 0) = d at *
 refine z6.intro hT (pf Tryz.func262) rfl (by kernel_rfl) Tryz.ntmps262 rfl ?_
 conv => whnf
 cases b <;> (conv => whnf)
 ·have : d = false := by
   rcases Int.lt_trichotomy n 0 with q | q | q
   ·exact (hb (by omega)).symm
   ·exact h0 q
   ·exact (hb (by omega)).symm
  rw [this]
 ·cases h1 : iLt 0 (hiU n)
  ·conv => whnf
   simp only [eH] at h1
   cases h2 : iLt 0 (loU n)
   ·simp only [eH] at h2
    conv => whnf
    rw [h0 (by omega)]
   ·simp only [eH] at h2
    conv => whnf
    rw [← hb (by omega)]
  ·simp only [eH] at h1
   conv => whnf
   rw [← hb (by omega)]
theorem z63 {a b : Int} (ha : i64 a) (hb : i64 b) : a.natAbs < 18446744073709551616 ∧ b.natAbs < 18446744073709551616 := by
 have ha : -9223372036854775808 ≤ a ∧ a ≤ 9223372036854775807 := ha
 have hb : -9223372036854775808 ≤ b ∧ b ≤ 9223372036854775807 := hb
 omega
theorem zLh (a b : Int) : hiU (a * b) = ((a.natAbs * b.natAbs / 18446744073709551616 : Nat) : Int) ∧ loU (a * b) = ((a.natAbs * b.natAbs % 18446744073709551616 : Nat) : Int) := by
 unfold hiU loU
 rw [Int.natAbs_mul]; exact ⟨rfl, rfl⟩
theorem args3 {w : World} {F : Nat → Prop} {vals : List Value} {x y z : Int} {k : IntKind} (h : z7u w F [.c (.d (.int k x)), .c (.d (.int k y)), .c (.d (.int k z))] vals) : vals = [.int k x, .int k y, .int k z] := by
 obtain ⟨hl, hv⟩ := h
 match vals, hl with
 | [a, b, c], _ =>
  have h0 := hv 0 _ a rfl rfl
  have h1 := hv 1 _ b rfl rfl
  have h2 := hv 2 _ c rfl rfl
  cases h0; cases h1; cases h2; rfl
theorem z1q (x y c : Nat) (hc : c ≤ 1) : zV PR z7e [.c (.d (.int .u64 x)), .c (.d (.int .u64 y)), .c (.d (.int .u64 c))] Unit (fun _ => True) (fun _ => zLv ((x + y + c) % 18446744073709551616) ((x + y + c) / 18446744073709551616)) (fun _ => []) (fun _ => 0) := by
 refine zV.ext fun F w vals h => ?_
 rw [args3 h]
 refine ⟨(), .tuple #[.int .u64 (((x + y + c) % 18446744073709551616 : Nat) : Int), .int .u64 (((x + y + c) / 18446744073709551616 : Nat) : Int)], trivial, ?_, rfl, rfl, rfl, ?_⟩
 ·refine (run_callFunc_extern (pf Tryz.func263) (by kernel_rfl) (by kernel_rfl) (by kernel_rfl) (e := add64Entry) (by kernel_rfl) _ w).trans ?_
  have e := run_add64 (P := PR) (x : Int) (y : Int) (c : Int) (by omega) (by omega) (by omega) (by omega) w
  rw [e]
  simp only [Result.andThen]
  congr 5 <;> omega
 ·refine ⟨[.int .u64 _, .int .u64 _], rfl, rfl, fun j p u hj hu => ?_⟩
  match j, hj, hu with
  | 0, hj, hu => cases hj; cases hu; exact ⟨rfl, fun j c u hj hu => by match j, hj, hu with | 0, hj, hu => (cases hj; cases hu; exact .int _ _)⟩
  | 1, hj, hu => cases hj; cases hu; exact ⟨rfl, fun j c u hj hu => by match j, hj, hu with | 0, hj, hu => (cases hj; cases hu; exact .int _ _)⟩
abbrev cV (n : Int) : List CV := [.d (.bool false), .d (.int .u64 (hiU n)), .d (.int .u64 (loU n))]
abbrev aV (n : Int) : AV := .agg (cV n)
theorem aW_pos {n : Int} (h : 0 ≤ n) : aW n = aV n := by
 show AV.agg [.d (.bool (decide (n < 0))), .d (.int .u64 (hiU n)), .d (.int .u64 (loU n))] = _
 rw [decide_eq_false (by omega)]
abbrev z4Y (n : Int) (b : Bool) : AV := .tup [(true, cV n), (false, [.d (.bool b)])]
theorem hlp {n : Int} (h : 0 ≤ n) : n = hiU n * 18446744073709551616 + loU n ∧ 0 ≤ loU n ∧ loU n < 18446744073709551616 ∧ 0 ≤ hiU n := by
 have := hl n; omega
theorem z3u (n : Int) (h : 0 ≤ n) (a c : Int) (ha : a = hiU n) (hc : c = loU n) : z6 PR z1L [ab false, .c (.d (.int .u64 a)), .c (.d (.int .u64 c))] (aV n) [] 0 := by
 have := z8Z n false a c (fun _ => (decide_eq_false (by omega)).symm) ha hc
 rwa [aW_pos h] at this
theorem z3x (a : Int) (ha : i64 a) : z6 PR zBr [ai a, ai a] (aV (a * a)) [] 0 := by
 have hn := (z63 ha ha).1
 have hh := zLh a a
 have hp : 0 ≤ a * a := (zIe (A := 9223372036854775808) (by have : -9223372036854775808 ≤ a ∧ a ≤ 9223372036854775807 := ha; omega)).1
 refine z6.intro hT (pf Tryz.func257) rfl (by kernel_rfl) Tryz.ntmps257 rfl ?_
 conv => whnf
 refine .inl ⟨_, _, _, wd a ha, rfl, ?_⟩
 conv => whnf
 refine .inl ⟨_, _, _, wd a ha, rfl, ?_⟩
 conv => whnf
 refine .inl ⟨_, _, _, z1p _ _ hn hn, rfl, ?_⟩
 conv => whnf
 rw [show bNot (bEq (iLt a 0) (iLt a 0)) = false by cases iLt a 0 <;> rfl]
 conv => whnf
 refine .inl ⟨_, _, _, z3u (a * a) hp _ _ hh.1.symm hh.2.symm, rfl, ?_⟩
 conv => whnf
theorem z3i (a : Int) (ha : i64 a) : z6 PR zBY [ai a, ai a] (aV (a * a)) [] 0 := by
 have hn := (z63 ha ha).1
 have hh := zLh a a
 refine z6.intro hT (pf Tryz.func250) rfl (by kernel_rfl) Tryz.ntmps250 rfl ?_
 conv => whnf
 refine .inl ⟨_, _, _, z1U a ha, rfl, ?_⟩
 conv => whnf
 refine .inl ⟨_, _, _, z1U a ha, rfl, ?_⟩
 conv => whnf
 refine .inl ⟨_, _, _, wq _ _ hn hn, rfl, ?_⟩
 conv => whnf
 rw [show bNot (bEq (iLt a 0) (iLt a 0)) = false by cases iLt a 0 <;> rfl]
 conv => whnf
 rw [← hh.1, ← hh.2]
theorem hi_lt {n : Int} (h : 0 ≤ n) (h2 : n < 170141183460469231731687303715884105728) : hiU n < 9223372036854775808 := by
 have := hlp h
 omega
abbrev rawW (hi lo : Int) : AV := .agg [.d (.bool false), .d (.int .u64 hi), .d (.int .u64 lo)]
theorem zJR {n : Int} (h : 0 ≤ n) (h2 : n < 170141183460469231731687303715884105728) : ∃ hi lo : Nat, hiU n = hi ∧ loU n = lo ∧ n = (hi : Int) * 18446744073709551616 + lo ∧ lo < 18446744073709551616 ∧ hi < 9223372036854775808 := by
 have h3 := hlp h
 have h4 := hi_lt h h2
 exact ⟨(hiU n).toNat, (loU n).toNat, by omega, by omega, by omega, by omega, by omega⟩
theorem zMN {n : Int} {hi lo : Nat} (h : n = (hi : Int) * 18446744073709551616 + lo) (hl : lo < 18446744073709551616) : hiU n = hi ∧ loU n = lo := by unfold hiU loU; omega
theorem yp (hi lo : Int) (h : hi < 9223372036854775808) : z6 PR zE4 [rawW hi lo] (ab true) [] 0 := by
 refine z6.intro hT (pf Tryz.func259) rfl (by kernel_rfl) Tryz.ntmps259 rfl ?_
 conv => whnf
 rw [show iLt hi 9223372036854775808 = true from decide_eq_true (by omega)]
 conv => whnf
theorem yL (hi lo : Int) (h : hi < 9223372036854775808) : z6 PR zDa [rawW hi lo] (ab true) [] 0 := by
 refine z6.intro hT (pf Tryz.func180) rfl (by kernel_rfl) Tryz.ntmps180 rfl ?_
 conv => whnf
 rw [show iLt hi 9223372036854775808 = true from decide_eq_true (by omega)]
 conv => whnf
theorem z1f (hi lo : Int) : z6 PR z1L [ab false, .c (.d (.int .u64 hi)), .c (.d (.int .u64 lo))] (rawW hi lo) [] 0 := by
 refine z6.intro hT (pf Tryz.func262) rfl (by kernel_rfl) Tryz.ntmps262 rfl ?_
 conv => whnf
theorem z8t (ah al bh bl : Nat) (h1 : ah < 9223372036854775808) (h2 : al < 18446744073709551616) (h3 : bh < 9223372036854775808) (h4 : bl < 18446744073709551616) (h5 : (ah + bh + (al + bl) / 18446744073709551616) < 9223372036854775808) :
  z6 PR z4v [rawW ah al, rawW bh bl] (.tup [(true, [.d (.bool false), .d (.int .u64 ((ah + bh + (al + bl) / 18446744073709551616 : Nat) : Int)), .d (.int .u64 (((al + bl) % 18446744073709551616 : Nat) : Int))]), (false, [.d (.bool true)])]) [] 0 := by
 refine z6.intro hT (pf Tryz.func170) rfl (by kernel_rfl) Tryz.ntmps170 rfl ?_
 conv => whnf
 refine .inl ⟨_, _, _, yp _ _ (by omega), rfl, ?_⟩
 conv => whnf
 refine .inl ⟨_, _, _, yp _ _ (by omega), rfl, ?_⟩
 conv => whnf
 refine .inr ⟨_, _, _, _, _, z1q al bl 0 (by omega), fun _ _ => ⟨rfl, ?_⟩⟩
 conv => whnf
 rw [Nat.add_zero]
 refine .inr ⟨_, _, _, _, _, z1q ah bh ((al + bl) / 18446744073709551616) (by omega), fun _ _ => ⟨rfl, ?_⟩⟩
 conv => whnf
 rw [Nat.mod_eq_of_lt (show ah + bh + (al + bl) / 18446744073709551616 < 18446744073709551616 by omega)]
 refine .inl ⟨_, _, _, z1f _ _, rfl, ?_⟩
 conv => whnf
 refine .inl ⟨_, _, _, yp _ _ (by omega), rfl, ?_⟩
 conv => whnf
theorem z10 (a b : Int) (ha : 0 ≤ a) (hb : 0 ≤ b) (h : a + b < 170141183460469231731687303715884105728) : z6 PR z4v [aV a, aV b] (z4Y (a + b) true) [] 0 := by
 obtain ⟨ah, al, a1, a2, a3, a4, a5⟩ := zJR ha (by omega)
 obtain ⟨bh, bl, b1, b2, b3, b4, b5⟩ := zJR hb (by omega)
 have hs : a + b = ((ah + bh + (al + bl) / 18446744073709551616 : Nat) : Int) * 18446744073709551616 + ((al + bl) % 18446744073709551616 : Nat) := by omega
 have hq := zMN hs (by omega)
 have := z8t ah al bh bl a5 a4 b5 b4 (by omega)
 rw [← a1, ← a2, ← b1, ← b2, ← hq.1, ← hq.2] at this
 exact this
theorem z8W (ah al bh bl : Nat) (h1 : ah < 9223372036854775808) (h2 : al < 18446744073709551616) (h3 : bh < 9223372036854775808) (h4 : bl < 18446744073709551616) (h5 : (ah + bh + (al + bl) / 18446744073709551616) < 9223372036854775808) :
  z6 PR z2G [rawW ah al, rawW bh bl] (.tup [(true, [.d (.bool false), .d (.int .u64 ((ah + bh + (al + bl) / 18446744073709551616 : Nat) : Int)), .d (.int .u64 (((al + bl) % 18446744073709551616 : Nat) : Int))]), (false, [.d (.bool true)])]) [] 0 := by
 have e1 : wAdd .u64 (al : Int) (bl : Int) = (((al + bl) % 18446744073709551616 : Nat) : Int) := by rw [z5f]; omega
 have e2 : wAdd .u64 (ah : Int) (bh : Int) = ((ah + bh : Nat) : Int) := by rw [z5f]; omega
 have e3 : wAdd .u64 ((ah + bh : Nat) : Int) 1 = ((ah + bh + 1 : Nat) : Int) := by rw [z5f]; omega
 refine z6.intro hT (pf Tryz.func71) rfl (by kernel_rfl) Tryz.ntmps71 rfl ?_
 conv => whnf
 refine .inl ⟨_, _, _, yL _ _ (by omega), rfl, ?_⟩
 conv => whnf
 refine .inl ⟨_, _, _, yL _ _ (by omega), rfl, ?_⟩
 conv => whnf
 rw [e1, e2]
 refine zK (fun g => ?_) (fun g => ?_) <;> (conv => whnf) <;> simp only [eH] at g
 ·rw [e3]
  rw [show ah + bh + (al + bl) / 18446744073709551616 = ah + bh + 1 by omega]
  refine .inl ⟨_, _, _, yL _ _ (by omega), rfl, ?_⟩
  conv => whnf
 ·rw [show ah + bh + (al + bl) / 18446744073709551616 = ah + bh by omega]
  refine .inl ⟨_, _, _, yL _ _ (by omega), rfl, ?_⟩
  conv => whnf
theorem z0w (a b : Int) (ha : 0 ≤ a) (hb : 0 ≤ b) (h : a + b < 170141183460469231731687303715884105728) : z6 PR z2G [aV a, aV b] (z4Y (a + b) true) [] 0 := by
 obtain ⟨ah, al, a1, a2, a3, a4, a5⟩ := zJR ha (by omega)
 obtain ⟨bh, bl, b1, b2, b3, b4, b5⟩ := zJR hb (by omega)
 have hs : a + b = ((ah + bh + (al + bl) / 18446744073709551616 : Nat) : Int) * 18446744073709551616 + ((al + bl) % 18446744073709551616 : Nat) := by omega
 have hq := zMN hs (by omega)
 have := z8W ah al bh bl a5 a4 b5 b4 (by omega)
 rw [← a1, ← a2, ← b1, ← b2, ← hq.1, ← hq.2] at this
 exact this
end Go.H.S
namespace Go.H.S
open Go Go.Proofs Go.H
attribute [local irreducible] Tri z6 zR zV zY zW
structure Scaled (hi lo k : Nat) : Prop where
 lo_lt : lo < 18446744073709551616
 k_lt : k < 18446744073709551616
 hi_lt : hi < 9223372036854775808
 room : hi * k + lo * k / 18446744073709551616 < 9223372036854775808
abbrev zIq (hi lo k : Nat) : AV := .tup [(true, [.d (.bool false), .d (.int .u64 ((hi * k + lo * k / 18446744073709551616 : Nat) : Int)), .d (.int .u64 ((lo * k % 18446744073709551616 : Nat) : Int))]), (false, [.d (.bool true)])]
theorem zF6 {n k : Int} (hn : 0 ≤ n) (hk : 0 ≤ k ∧ k ≤ 9223372036854775807) (h : n * k < 170141183460469231731687303715884105728) (h2 : n < 170141183460469231731687303715884105728) :
  ∃ hi lo k' : Nat, hiU n = hi ∧ loU n = lo ∧ k = k' ∧ Scaled hi lo k' ∧ hiU (n * k) = ((hi * k' + lo * k' / 18446744073709551616 : Nat) : Int) ∧ loU (n * k) = ((lo * k' % 18446744073709551616 : Nat) : Int) := by
 obtain ⟨hi, lo, e1, e2, e3, e4, e5⟩ := zJR hn h2
 obtain ⟨k', rfl⟩ : ∃ k' : Nat, k = k' := ⟨k.toNat, by omega⟩
 have hp : n * (k' : Int) = ((hi * k' : Nat) : Int) * 18446744073709551616 + ((lo * k' : Nat) : Int) := by
  rw [e3, Int.add_mul, Int.natCast_mul, Int.natCast_mul, Int.mul_right_comm]
 have hs : n * (k' : Int) = ((hi * k' + lo * k' / 18446744073709551616 : Nat) : Int) * 18446744073709551616 + ((lo * k' % 18446744073709551616 : Nat) : Int) := by
  rw [hp]; generalize hi * k' = p; generalize lo * k' = q; omega
 have hq := zMN hs (by generalize lo * k' = q; omega)
 refine ⟨hi, lo, k', e1, e2, rfl, ⟨e4, by omega, e5, ?_⟩, hq.1, hq.2⟩
 rw [hs] at h
 generalize hi * k' + lo * k' / 18446744073709551616 = p at *
 generalize lo * k' % 18446744073709551616 = q at *
 omega
theorem z6G (hi lo k : Nat) (hk : k ≤ 9223372036854775807) (h : Scaled hi lo k) : z6 PR z16 [rawW hi lo, ai k] (zIq hi lo k) [] 0 := by
 have r := h.room
 have e1 : hi * k / 18446744073709551616 = 0 := by generalize hi * k = p at *; omega
 have e2 : hi * k % 18446744073709551616 = hi * k := by generalize hi * k = p at *; omega
 have hi1 := h.hi_lt; have lo1 := h.lo_lt; have k1 := h.k_lt
 have hlo : lo * k / 18446744073709551616 < 18446744073709551616 := (zHL lo k lo1 k1).2.2.2.2
 refine z6.intro hT (pf Tryz.func173) rfl (by kernel_rfl) Tryz.ntmps173 rfl ?_
 conv => whnf
 refine .inl ⟨_, _, _, yp _ _ (by omega), rfl, ?_⟩
 conv => whnf
 refine .inl ⟨_, _, _, wd k (show i64 k from ⟨by omega, by omega⟩), rfl, ?_⟩
 conv => whnf
 rw [Int.natAbs_natCast]
 refine .inl ⟨_, _, _, z1p hi k (by omega) k1, rfl, ?_⟩
 conv => whnf
 refine .inl ⟨_, _, _, z1p lo k lo1 k1, rfl, ?_⟩
 conv => whnf
 refine .inr ⟨_, _, _, _, _, z1q (hi * k % 18446744073709551616) (lo * k / 18446744073709551616) 0 (by omega), fun _ _ => ⟨rfl, ?_⟩⟩
 conv => whnf
 rw [show iLt (k : Int) 0 = false from decide_eq_false (by omega)]
 conv => whnf
 have e3 : (hi * k % 18446744073709551616 + lo * k / 18446744073709551616 + 0) % 18446744073709551616 = hi * k + lo * k / 18446744073709551616 := by
  rw [e2]; generalize hi * k = p at *; generalize lo * k / 18446744073709551616 = q at *; omega
 have e4 : (hi * k % 18446744073709551616 + lo * k / 18446744073709551616 + 0) / 18446744073709551616 = 0 := by
  rw [e2]; generalize hi * k = p at *; generalize lo * k / 18446744073709551616 = q at *; omega
 rw [e3, e4, e1]
 refine .inl ⟨_, _, _, z1f _ _, rfl, ?_⟩
 conv => whnf
 refine .inl ⟨_, _, _, yp _ _ (by omega), rfl, ?_⟩
 conv => whnf
theorem z0C (n k : Int) (hn : 0 ≤ n) (hk : 0 ≤ k ∧ k ≤ 9223372036854775807) (h : n * k < 170141183460469231731687303715884105728) (h2 : n < 170141183460469231731687303715884105728) :
  z6 PR z16 [aV n, ai k] (z4Y (n * k) true) [] 0 := by
 obtain ⟨hi, lo, k', e1, e2, rfl, hs, e3, e4⟩ := zF6 hn hk h h2
 have := z6G hi lo k' (by omega) hs
 rw [← e1, ← e2] at this
 show z6 PR z16 [aV n, ai k'] (.tup [(true, [.d (.bool false), .d (.int .u64 (hiU (n * k'))), .d (.int .u64 (loU (n * k')))]), (false, [.d (.bool true)])]) [] 0
 rw [e3, e4]
 exact this
theorem z9a (hi lo : Int) : z6 PR zDU [rawW hi lo] (ab (decide (hi = 0 ∧ lo = 0))) [] 0 := by
 refine z6.intro hT (pf Tryz.func182) rfl (by kernel_rfl) Tryz.ntmps182 rfl ?_
 conv => whnf
 cases h : iEq hi 0
 ·conv => whnf
  simp only [eH] at h
  rw [decide_eq_false (fun q : hi = 0 ∧ lo = 0 => h q.1)]
 ·simp only [eH] at h
  conv => whnf
  rw [show decide (hi = 0 ∧ lo = 0) = iEq lo 0 from decide_eq_decide.2 (show (hi = 0 ∧ lo = 0) ↔ lo = 0 from ⟨fun q => q.2, fun q => ⟨h, q⟩⟩)]
theorem z5l (hi lo k : Nat) (hk : k ≤ 9223372036854775807) (h : Scaled hi lo k) : z6 PR z12 [rawW hi lo, ai k] (zIq hi lo k) [] 0 := by
 have r := h.room
 have e1 : hi * k / 18446744073709551616 = 0 := by generalize hi * k = p at *; omega
 have e2 : hi * k % 18446744073709551616 = hi * k := by generalize hi * k = p at *; omega
 have hi1 := h.hi_lt; have lo1 := h.lo_lt; have k1 := h.k_lt
 have hlo : lo * k / 18446744073709551616 < 18446744073709551616 := (zHL lo k lo1 k1).2.2.2.2
 have e3 : wAdd .u64 ((hi * k : Nat) : Int) ((lo * k / 18446744073709551616 : Nat) : Int) = ((hi * k + lo * k / 18446744073709551616 : Nat) : Int) := by
  rw [wc]; generalize hi * k = p at *; generalize lo * k / 18446744073709551616 = q at *; omega
 refine z6.intro hT (pf Tryz.func365) rfl (by kernel_rfl) Tryz.ntmps365 rfl ?_
 conv => whnf
 refine .inl ⟨_, _, _, yL _ _ (by omega), rfl, ?_⟩
 conv => whnf
 refine .inl ⟨_, _, _, z1U k (show i64 k from ⟨by omega, by omega⟩), rfl, ?_⟩
 conv => whnf
 rw [Int.natAbs_natCast]
 refine .inl ⟨_, _, _, wq hi k (by omega) k1, rfl, ?_⟩
 conv => whnf
 refine .inl ⟨_, _, _, wq lo k lo1 k1, rfl, ?_⟩
 conv => whnf
 rw [show iLt (k : Int) 0 = false from decide_eq_false (by omega), e1, e2, e3]
 conv => whnf
 refine .inl ⟨_, _, _, z9a _ _, rfl, ?_⟩
 conv => whnf
 have e5 : iLt ((hi * k + lo * k / 18446744073709551616 : Nat) : Int) ((hi * k : Nat) : Int) = false := decide_eq_false (by generalize hi * k = p at *; generalize lo * k / 18446744073709551616 = q at *; omega)
 refine zK (fun g => ?_) (fun g => ?_) <;> (conv => whnf)
 ·rw [e5]
  conv => whnf
  refine .inl ⟨_, _, _, yL _ _ (by omega), rfl, ?_⟩
  conv => whnf
 ·rw [e5]
  conv => whnf
  rw [show bNot (bEq false false) = false from rfl]
  refine .inl ⟨_, _, _, yL _ _ (by omega), rfl, ?_⟩
  conv => whnf
theorem z23 (n k : Int) (hn : 0 ≤ n) (hk : 0 ≤ k ∧ k ≤ 9223372036854775807) (h : n * k < 170141183460469231731687303715884105728) (h2 : n < 170141183460469231731687303715884105728) :
  z6 PR z12 [aV n, ai k] (z4Y (n * k) true) [] 0 := by
 obtain ⟨hi, lo, k', e1, e2, rfl, hs, e3, e4⟩ := zF6 hn hk h h2
 have := z5l hi lo k' (by omega) hs
 rw [← e1, ← e2] at this
 show z6 PR z12 [aV n, ai k'] (.tup [(true, [.d (.bool false), .d (.int .u64 (hiU (n * k'))), .d (.int .u64 (loU (n * k')))]), (false, [.d (.bool true)])]) [] 0
 rw [e3, e4]
 exact this
def cmpI (x y : Int) : Int := if x < y then -1 else if y < x then 1 else 0
def lexI (ah al bh bl : Int) : Int := if cmpI ah bh ≠ 0 then cmpI ah bh else cmpI al bl
theorem zJA {a b : Int} (ha : 0 ≤ a) (hb : 0 ≤ b) : lexI (hiU a) (loU a) (hiU b) (loU b) = sgnI (a - b) := by
 have ga := hlp ha
 have gb := hlp hb
 generalize hiU a = ah at *
 generalize loU a = al at *
 generalize hiU b = bh at *
 generalize loU b = bl at *
 unfold lexI sgnI
 rcases Int.lt_trichotomy ah bh with q | q | q
 ·rw [show cmpI ah bh = -1 from if_pos q, if_pos (by decide), if_pos (by omega)]
 ·subst q
  rw [show cmpI ah ah = 0 by unfold cmpI; rw [if_neg (Int.lt_irrefl _), if_neg (Int.lt_irrefl _)], if_neg (by simp)]
  unfold cmpI
  split
  ·rw [if_pos (by omega)]
  ·split
   ·rw [if_neg (by omega), if_neg (by omega)]
   ·rw [if_neg (by omega), if_pos (by omega)]
 ·rw [show cmpI ah bh = 1 by unfold cmpI; rw [if_neg (by omega), if_pos q], if_pos (by decide), if_neg (by omega), if_neg (by omega)]
theorem z0o (x : Int) : z6 PR z6k [.c (.d (.int .u64 x))] (ab false) [] 0 := by
 refine z6.intro hT (pf Tryz.func334) rfl (by kernel_rfl) Tryz.ntmps334 rfl ?_
 conv => whnf
 rw [show iEq x x = true from decide_eq_true rfl]
 rfl
theorem z3F (x y : Int) : z6 PR z4j [.c (.d (.int .u64 x)), .c (.d (.int .u64 y))] (ai (cmpI x y)) [] 0 := by
 refine z6.intro hT (pf Tryz.func306) rfl (by kernel_rfl) Tryz.ntmps306 rfl ?_
 conv => whnf
 refine .inl ⟨_, _, _, z0o x, rfl, ?_⟩
 conv => whnf
 refine .inl ⟨_, _, _, z0o y, rfl, ?_⟩
 conv => whnf
 unfold cmpI
 refine zK (fun g => ?_) (fun g => ?_) <;> (conv => whnf) <;> simp only [eH] at g
 ·rw [if_pos g]
 ·refine zK (fun g2 => ?_) (fun g2 => ?_) <;> (conv => whnf) <;> simp only [eH] at g2
  ·rw [if_neg (by omega), if_pos g2]
  ·rw [if_neg (by omega), if_neg (by omega)]
theorem zC0 (x y : Int) : z6 PR z84 [aIs [x, y]] (ai (if x ≠ 0 then x else y)) [] 0 := by
 refine z6.intro hT (pf Tryz.func305) rfl (by kernel_rfl) Tryz.ntmps305 rfl ?_
 conv => whnf
 refine zB hT [3, 6, 7, 8] (α := Nat) (fun k => { t := [(3, ai 0), (6, aIs [x, y]), (7, ai 2), (8, ai k)], h := [], n := 0, N := 18 })
  (fun k => k ≤ 2 ∧ (1 ≤ k → x = 0) ∧ (2 ≤ k → y = 0)) (fun k => 2 - k) 0 (by (conv => whnf); simp [eL]) ⟨Nat.zero_le _, fun h => by omega, fun h => by omega⟩ ?_
 intro k ⟨hk, h1, h2⟩
 conv => whnf
 refine zK (fun g => ?_) (fun g => ?_) <;> (conv => whnf) <;> simp only [eH] at g
 ·have hz : ∃ z, [x, y][k]? = some z ∧ (k = 0 → z = x) ∧ (k = 1 → z = y) := by
   match k, g with
   | 0, _ => exact ⟨x, rfl, fun _ => rfl, fun q => (by omega)⟩
   | 1, _ => exact ⟨y, rfl, fun q => (by omega), fun _ => rfl⟩
   | k + 2, g => omega
  obtain ⟨z, hz, z0, z1⟩ := hz
  refine zG (by simp) hz ?_
  conv => whnf
  refine zK (fun g2 => ?_) (fun g2 => ?_) <;> (conv => whnf) <;> simp only [eH] at g2
  ·rcases (show k = 0 ∨ k = 1 by omega) with q | q
   ·rw [if_pos (by rw [← z0 q]; exact g2), z0 q]
   ·rw [if_neg (by simp [h1 (by omega)]), z1 q]
  ·refine ⟨k + 1, by omega, ⟨by omega, fun q => ?_, fun q => ?_⟩, ?_⟩
   ·rcases (show k = 0 ∨ k = 1 by omega) with q | q
    ·rw [← z0 q]; exact g2
    ·exact h1 (by omega)
   ·rw [← z1 (by omega)]; exact g2
   ·((conv => whnf); simp only [eS, wI (show k < 2 by omega) (by omega)])
 ·rw [if_neg (by simp [h1 (by omega)]), h2 (by omega)]
theorem z52 (x y : Int) : z6 PR z84 [.c (.d (.sl 1 [[.int .i64 x], [.int .i64 y]]))] (ai (if x ≠ 0 then x else y)) [] 0 := by
 have := zC0 x y
 have e : eL cI [x, y] = [[D.int .i64 x], [D.int .i64 y]] := by simp [eL, cI]
 unfold aIs at this
 rw [e] at this
 exact this
theorem z3w (ah al bh bl : Int) : z6 PR z5U [rawW ah al, rawW bh bl] (ai (lexI ah al bh bl)) [] 0 := by
 refine z6.intro hT (pf Tryz.func260) rfl (by kernel_rfl) Tryz.ntmps260 rfl ?_
 conv => whnf
 refine zj 0 ?_
 conv => whnf
 refine zj 1 ?_
 conv => whnf
 refine zJ hT hmix [4] { t := [(4, ai (lexI ah al bh bl))], h := [], n := 0, N := 17 } rfl ?_ ?_
 ·repeat' first
   | (refine zM rfl ?_; (conv => whnf))
   | (refine zL rfl ?_ ?_ <;> (conv => whnf))
   | (refine zC rfl ?_ ?_ ?_ <;> (conv => whnf))
   | (refine .inl ⟨_, _, _, z3F _ _, rfl, ?_⟩; (conv => whnf))
   | (refine .inl ⟨_, _, _, z52 _ _, rfl, ?_⟩; (conv => whnf))
   | (refine zO rfl ?_; (conv => whnf); first | done | rfl)
 conv => whnf
theorem zJB {ah al bh bl : Int} (h : ah < bh) : lexI ah al bh bl = -1 := by unfold lexI; rw [show cmpI ah bh = -1 from if_pos h, if_pos (by decide)]
theorem zJC {ah al bh bl : Int} (h : bh < ah) : lexI ah al bh bl = 1 := by unfold lexI; rw [show cmpI ah bh = 1 by unfold cmpI; rw [if_neg (by omega), if_pos h], if_pos (by decide)]
theorem zJD {a al bl : Int} : lexI a al a bl = cmpI al bl := by unfold lexI; rw [show cmpI a a = 0 by unfold cmpI; rw [if_neg (Int.lt_irrefl _), if_neg (Int.lt_irrefl _)], if_neg (by simp)]
theorem z8E (ah al bh bl : Int) : z6 PR zBP [rawW ah al, rawW bh bl] (ai (lexI ah al bh bl)) [] 0 := by
 refine z6.intro hT (pf Tryz.func181) rfl (by kernel_rfl) Tryz.ntmps181 rfl ?_
 conv => whnf
 cases g1 : iLt ah bh <;> simp only [eH] at g1 <;> (conv => whnf)
 ·cases g2 : iEq ah bh <;> simp only [eH] at g2 <;> (conv => whnf)
  ·rw [show iLt bh ah = true from decide_eq_true (by omega)]
   conv => whnf
   rw [zJC (by omega)]
  ·subst g2
   rw [zJD]
   unfold cmpI
   cases g3 : iLt al bl <;> simp only [eH] at g3 <;> (conv => whnf)
   ·rw [show iLt ah ah = false from decide_eq_false (by omega)]
    conv => whnf
    cases g4 : iLt bl al <;> simp only [eH] at g4 <;> (conv => whnf)
    ·rw [if_neg (by omega), if_neg (by omega)]
    ·rw [if_neg (by omega), if_pos g4]
   ·rw [if_pos g3]
 ·rw [zJB g1]
theorem z4c (ah al bh bl : Int) : z6 PR z0I [rawW ah al, rawW bh bl] (ai (lexI ah al bh bl)) [] 0 := by
 refine z6.intro hT (pf Tryz.func72) rfl (by kernel_rfl) Tryz.ntmps72 rfl ?_
 conv => whnf
 refine .inl ⟨_, _, _, z8E _ _ _ _, rfl, ?_⟩
 conv => whnf
theorem z19 (a b : Int) (ha : 0 ≤ a) (hb : 0 ≤ b) : z6 PR z0I [aV a, aV b] (ai (sgnI (a - b))) [] 0 := by
 rw [← zJA ha hb]
 exact z4c _ _ _ _
abbrev cFr (f : Int × Int) : List CV := [.d (.bool false), .d (.int .u64 (hiU f.1)), .d (.int .u64 (loU f.1)), .d (.int .i64 f.2)]
abbrev aFr (f : Int × Int) : AV := .agg (cFr f)
abbrev rawF (hi lo d : Int) : AV := .agg [.d (.bool false), .d (.int .u64 hi), .d (.int .u64 lo), .d (.int .i64 d)]
abbrev zCr (f : Int × Int) (b : Bool) : AV := .tup [(true, cFr f), (false, [.d (.bool b)])]
theorem zA8 (hi lo d : Int) (h : hi < 9223372036854775808) (hd : 1 ≤ d ∧ d ≤ 1000000) : z6 PR z6i [rawF hi lo d] (ab true) [] 0 := by
 refine z6.intro hT (pf Tryz.func368) rfl (by kernel_rfl) Tryz.ntmps368 rfl ?_
 conv => whnf
 refine .inl ⟨_, _, _, yp _ _ h, rfl, ?_⟩
 conv => whnf
 refine .inl ⟨_, _, _, zP _ _ _, rfl, ?_⟩
 conv => whnf
 rw [decide_eq_true hd]
theorem z9d (hi lo d : Int) (h : hi < 9223372036854775808) (hd : 1 ≤ d ∧ d ≤ 1000000) : z6 PR z6b [rawF hi lo d] (ab true) [] 0 := by
 refine z6.intro hT (pf Tryz.func364) rfl (by kernel_rfl) Tryz.ntmps364 rfl ?_
 conv => whnf
 refine .inl ⟨_, _, _, yL _ _ h, rfl, ?_⟩
 conv => whnf
 refine .inl ⟨_, _, _, zS _ _ _, rfl, ?_⟩
 conv => whnf
 rw [decide_eq_true hd]
end Go.H.S
