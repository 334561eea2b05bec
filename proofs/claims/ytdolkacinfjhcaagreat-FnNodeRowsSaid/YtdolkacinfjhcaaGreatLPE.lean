/- Library, part QR: bent tables drawn. -/
import Derived.Test.YtdolkacinfjhcaaGreatLQO
import Derived.Test.YtdolkacinfjhcaaGreatLY
import Derived.Lib.Mul64
import Derived.Test.YtdolkacinfjhcaaGreatH29
set_option maxRecDepth 100000
set_option linter.unusedSimpArgs false
set_option linter.unusedVariables false
namespace Go.H.S
open Go Go.Proofs Go.H
attribute [local irreducible] Tri z6 zV zU zj zX
structure smT (t : Tbl) : Prop where
 names : t.names.length ≤ 3
 texts : ∀ s ∈ t.names, s.size ≤ 100
 target : t.target.size ≤ 100
 rows : t.rows.length ≤ 41
 cols : ∀ r ∈ t.rows, r.length ≤ 4
 ys : t.ys.length ≤ 41
theorem zD4 {α : Type} {Q : α → Prop} {xs : List α} {k : Nat} {y : α} (h : ∀ c ∈ xs, Q c) (hy : Q y) : ∀ c ∈ xs.set k y, Q c := fun c hc => (List.mem_or_eq_of_mem_set hc).elim (h c) (fun e => e ▸ hy)
theorem zKM {α : Type} {Q : α → Prop} {xs : List α} {y : α} (h : ∀ c ∈ xs, Q c) (hy : Q y) : ∀ c ∈ xs ++ [y], Q c := fun c hc => (List.mem_append.1 hc).elim (h c) (fun e => by simp at e; exact e ▸ hy)
set_option maxHeartbeats 4000000 in
theorem z8W (code : List Int) (i0 u0 : Int) (hi0 : yV code (i0, u0)) (hl : code.length ≤ 1048576) : zX PR zDK [.c (.ptr 0 0)] zI (cur code i0 u0) (Tbl × Int × Int)
  (fun x => smT x.1 ∧ yV code x.2) (fun x => aTb x.1) (fun x => cur code x.2.1 x.2.2) (fun _ => []) (fun _ => 1) := by
 refine zX.intro hTn 0 (pf Tryz.func276) rfl (by kernel_rfl) Tryz.ntmps276 rfl rfl ?_
 intro v0
 conv => whnf
 refine .inr (.inr (.inr (.inr (.inl ⟨0, ?_⟩))))
 conv => whnf
 refine ⟨_, _, _, _, _, _, z8V code i0 u0 hi0 hl, fun ⟨t, i1, u1⟩ ⟨ht, hi1⟩ => ⟨rfl, ?_⟩⟩
 dsimp only at ht hi1
 obtain ⟨hn1, hn, hns, htg, hr1, hrl, hrc0, hyl0, _, _, _, _⟩ := ht
 obtain ⟨ns, tg, rs, ys⟩ := t
 dsimp only at hn1 hn hns htg hr1 hrl hrc0 hyl0
 have hrc : ∀ r ∈ rs, r.length ≤ 4 := fun r hr => by rw [hrc0 r hr]; omega
 have hyl : ys.length ≤ 41 := by omega
 have hr40 : rs.length ≤ 40 := hrl
 replace hrl : rs.length ≤ 41 := by omega
 conv => whnf
 rw [show nInt (z0W (eL cIs rs) none) = (rs.length : Int) by simp]
 refine .inr (.inr (.inr (.inr (.inl ⟨0, ?_⟩))))
 conv => whnf
 refine ⟨_, _, _, _, _, _, zA code i1 u1 _ hi1 hl, fun ⟨f, i2, u2⟩ ⟨hf, hi2⟩ => ⟨rfl, ?_⟩⟩
 dsimp only at hf hi2
 have hf2 := hf.2.1 (by omega)
 obtain ⟨f, rfl⟩ : ∃ n : Nat, f = n := ⟨f.toNat, by omega⟩
 obtain ⟨rf, hrf⟩ := zH (show f < rs.length by omega)
 obtain ⟨yf, hyf⟩ := zH (show f < ys.length by omega)
 have hrfl := hrc0 rf (List.mem_of_getElem? hrf)
 conv => whnf
 refine .inr (.inr (.inr (.inr (.inl ⟨0, ?_⟩))))
 conv => whnf
 refine ⟨_, _, _, _, _, _, zA code i2 u2 14 hi2 hl, fun ⟨k, i3, u3⟩ ⟨hk, hi3⟩ => ⟨rfl, ?_⟩⟩
 dsimp only at hk hi3
 conv => whnf
 refine zK (fun q0 => ?_) (fun q0 => ?_) <;> (conv => whnf)
 ·obtain ⟨n0, hn0⟩ := zH (show 0 < ns.length by omega)
  refine yY hTn hmix [0, 2, 3] (Y := ByteArray × Int × Int) (fun y => y.1.size ≤ 100 ∧ yV code y.2) (fun y => { t := [(0, .w (.ptr 0 0) v0), (2, .c (.ptr 1 0)), (3, .c (.ptr 2 0))], h := [(0, .box zI (cur code y.2.1 y.2.2)), (1, .box zJ [.nl 1, .d (.str ⟨#[]⟩), .nl 1, .nl 1]), (2, .box zJ [.ref 3 0 none, .d (.str tg), .ref 4 0 none, .ref 5 0 none]), (3, .arr yE 1 0 .own (eL cS (ns.set 0 y.1))), (4, z0V rs), (5, .arr zW 1 0 .own (eL cI ys))], n := 6, N := 100 }) rfl ?_ ?_
  ·repeat' first
    | (refine zR rfl ?_; (conv => whnf))
    | (refine zQ rfl ?_ ?_ <;> (conv => whnf))
    | (refine zC rfl ?_ ?_ ?_ <;> (conv => whnf))
    | (refine zo rfl ?_ ?_ ?_ ?_ <;> (conv => whnf))
    | (refine .inr (.inr (.inr (.inr (.inl ⟨0, ?_⟩)))); (conv => whnf); refine ⟨_, _, _, _, _, _, z50 code i3 u3 _ [⟨#[]⟩, ⟨#[65]⟩, ⟨#[49, 97]⟩, ⟨#[121]⟩, ⟨#[97, 98, 99, 100, 101, 102, 103, 104, 105, 106, 107, 108]⟩, ⟨#[97, 98, 99, 100, 101, 102, 103, 104, 105, 106, 107, 108, 109]⟩, ⟨#[98]⟩] (by simp [eL, cS]) hi3 hl (by simp) (by simp), fun ⟨z, ib, ub⟩ ⟨hz, hib⟩ => ⟨rfl, ?_⟩⟩; dsimp only at hz hib; (conv => whnf))
    | (refine yF (k := 0) rfl (by simp [zS, dSet, zF]; omega) ?_; (conv => whnf))
    | (refine zCq (k := 0) (by simp) hn0 (by simp [cS]) ?_; (conv => whnf))
   all_goals
    refine zP rfl ?_
    have hz1 : z.size ≤ 100 := by simp at hz; rcases hz with rfl | rfl | rfl | rfl | rfl | rfl | rfl <;> decide
    refine ⟨(z, ib, ub), ⟨hz1, hib⟩, ?_⟩
    conv => whnf
    dsimp only
    rw [show dSet (eL cS ns) (nAdd (offR none) (nOf 0)) (z0s (cS n0) 0 [.str z]) = eL cS (ns.set 0 z) from by rw [show nAdd (offR none) (nOf 0) = 0 by simp [wr], show z0s (cS n0) 0 [.str z] = cS z by rw [z0s]; rfl]; exact z5E cS ns 0 z]
  intro ⟨z, ib, ub⟩ ⟨hz, hib⟩
  dsimp only at hz hib
  conv => whnf
  refine ⟨(⟨ns.set 0 z, tg, rs, ys⟩, ib, ub), ⟨⟨by simp; omega, zD4 hns hz, htg, hrl, hrc, hyl⟩, by assumption⟩, ?_⟩
  conv => whnf
  first | done | rfl | (simp only [z7]; done) | (simp only [z7]; rfl)
 refine zK (fun q1 => ?_) (fun q1 => ?_) <;> (conv => whnf)
 ·refine .inr (.inr (.inr (.inr (.inl ⟨0, ?_⟩))))
  conv => whnf
  refine ⟨_, _, _, _, _, _, z50 code i3 u3 _ [⟨#[]⟩, ⟨#[97]⟩, ⟨#[121, 45]⟩] (by simp [eL, cS]) hi3 hl (by simp) (by simp), fun ⟨z, ib, ub⟩ ⟨hz, hib⟩ => ⟨rfl, ?_⟩⟩
  dsimp only at hz hib
  have hz1 : z.size ≤ 100 := by simp at hz; rcases hz with rfl | rfl | rfl <;> decide
  conv => whnf
  refine ⟨(⟨ns, z, rs, ys⟩, ib, ub), ⟨⟨hn, hns, hz1, hrl, hrc, hyl⟩, by assumption⟩, ?_⟩
  conv => whnf
  first | done | rfl | (simp only [z7]; done) | (simp only [z7]; rfl)
 refine zK (fun q2 => ?_) (fun q2 => ?_) <;> (conv => whnf)
 ·refine zO hTn hmix [0, 2, 3] { t := [(0, .w (.ptr 0 0) v0), (2, .c (.ptr 1 0)), (3, .c (.ptr 2 0))], h := [(0, .box zI (cur code i3 u3)), (1, .box zJ [.nl 1, .d (.str ⟨#[]⟩), .nl 1, .nl 1]), (2, .box zJ [.ref 3 0 none, .d (.str tg), .ref 4 0 none, .ref 5 0 none]), (3, .arr yE 1 0 .own (eL cS ns)), (4, z0V (rs.set f (rf ++ [0]))), (5, .arr zW 1 0 .own (eL cI ys))], n := 6, N := 100 } rfl ?_ ?_
  ·repeat' first
    | (refine zR rfl ?_; (conv => whnf))
    | (refine zQ rfl ?_ ?_ <;> (conv => whnf))
    | (refine zC rfl ?_ ?_ ?_ <;> (conv => whnf))
    | (refine zo rfl ?_ ?_ ?_ ?_ <;> (conv => whnf))
    | (refine yF (k := f) rfl (by simp [zS, dSet, zF]; omega) ?_; (conv => whnf))
    | (refine wK (by simp) hrf ?_; (conv => whnf))
    | (refine zLG (k := f) (by simp) hrf ?_; (conv => whnf))
    | (refine zLe (by simp) hrf ?_; (conv => whnf))
    | (refine And.intro (by simp; omega) ?_; (conv => whnf))
    | (refine And.intro (zJ3 _ _) ?_; (conv => whnf))
   all_goals
    refine zP rfl ?_
    conv => whnf
    simp only [z7, wr, z6L, Nat.zero_add, z2E, Int.toNat_natCast]
    rw [show dApp (eL cI rf) [[D.int IntKind.i64 0]] = eL cI (rf ++ [0]) from zY cI rf 0, zIv]
  conv => whnf
  refine ⟨(⟨ns, tg, rs.set f (rf ++ [0]), ys⟩, i3, u3), ⟨⟨hn, hns, htg, by simp; omega, zD4 hrc (by simp; omega), hyl⟩, by assumption⟩, ?_⟩
  conv => whnf
  first | done | rfl | (simp only [z7]; done) | (simp only [z7]; rfl)
 refine zK (fun q3 => ?_) (fun q3 => ?_) <;> (conv => whnf)
 ·refine yY hTn hmix [0, 2, 3] (Y := Int × Int × Int) (fun y => yV code y.2) (fun y => { t := [(0, .w (.ptr 0 0) v0), (2, .c (.ptr 1 0)), (3, .c (.ptr 2 0))], h := [(0, .box zI (cur code y.2.1 y.2.2)), (1, .box zJ [.nl 1, .d (.str ⟨#[]⟩), .nl 1, .nl 1]), (2, .box zJ [.ref 3 0 none, .d (.str tg), .ref 4 0 none, .ref 5 0 none]), (3, .arr yE 1 0 .own (eL cS ns)), (4, z0V (rs.set f (rf.set 0 y.1))), (5, .arr zW 1 0 .own (eL cI ys))], n := 6, N := 100 }) rfl ?_ ?_
  ·repeat' first
    | (refine zR rfl ?_; (conv => whnf))
    | (refine zQ rfl ?_ ?_ <;> (conv => whnf))
    | (refine zC rfl ?_ ?_ ?_ <;> (conv => whnf))
    | (refine zo rfl ?_ ?_ ?_ ?_ <;> (conv => whnf))
    | (refine .inr (.inr (.inr (.inr (.inl ⟨0, ?_⟩)))); (conv => whnf); refine ⟨_, _, _, _, _, _, y9 code i3 u3 _ [2147483647, 2147483648, -2147483648] (by simp [eL, cI]) hi3 hl (by simp) (by simp), fun ⟨z, ib, ub⟩ ⟨hz, hib⟩ => ⟨rfl, ?_⟩⟩; dsimp only at hz hib; (conv => whnf))
    | (refine yF (k := f) rfl (by simp [zS, dSet, zF]; omega) ?_; (conv => whnf))
    | (refine wK (by simp) hrf ?_; (conv => whnf))
    | (refine zFx (q := 0) (by simp) hrf rfl (by omega) ?_; (conv => whnf))
    | (refine nst_at (by simp) hrf (by simp; omega) ?_; (conv => whnf))
   all_goals
    refine zP rfl ?_
    refine ⟨(z, ib, ub), hib, ?_⟩
    conv => whnf
    rw [show nOf 0 = 0 by simp, zLO]
  intro ⟨z, ib, ub⟩ hib
  dsimp only at hib
  conv => whnf
  refine ⟨(⟨ns, tg, rs.set f (rf.set 0 z), ys⟩, ib, ub), ⟨⟨hn, hns, htg, by simp; omega, zD4 hrc (by simp; omega), hyl⟩, by assumption⟩, ?_⟩
  conv => whnf
  first | done | rfl | (simp only [z7]; done) | (simp only [z7]; rfl)
 refine zK (fun q4 => ?_) (fun q4 => ?_) <;> (conv => whnf)
 ·refine yY hTn hmix [0, 2, 3] (Y := Int × Int × Int) (fun y => yV code y.2) (fun y => { t := [(0, .w (.ptr 0 0) v0), (2, .c (.ptr 1 0)), (3, .c (.ptr 2 0))], h := [(0, .box zI (cur code y.2.1 y.2.2)), (1, .box zJ [.nl 1, .d (.str ⟨#[]⟩), .nl 1, .nl 1]), (2, .box zJ [.ref 3 0 none, .d (.str tg), .ref 4 0 none, .ref 5 0 none]), (3, .arr yE 1 0 .own (eL cS ns)), (4, z0V rs), (5, .arr zW 1 0 .own (eL cI (ys.set f y.1)))], n := 6, N := 100 }) rfl ?_ ?_
  ·repeat' first
    | (refine zR rfl ?_; (conv => whnf))
    | (refine zQ rfl ?_ ?_ <;> (conv => whnf))
    | (refine zC rfl ?_ ?_ ?_ <;> (conv => whnf))
    | (refine zo rfl ?_ ?_ ?_ ?_ <;> (conv => whnf))
    | (refine .inr (.inr (.inr (.inr (.inl ⟨0, ?_⟩)))); (conv => whnf); refine ⟨_, _, _, _, _, _, z7G code i3 u3 hi3 hl, fun ⟨z, ib, ub⟩ hib => ⟨rfl, ?_⟩⟩; dsimp only at hib; (conv => whnf))
    | (refine yF (k := f) rfl (by simp [zS, dSet, zF]; omega) ?_; (conv => whnf))
    | (refine zCq (k := f) (by simp) hyf (by simp [cI]) ?_; (conv => whnf))
   all_goals
    refine zP rfl ?_
    refine ⟨(z, ib, ub), by first | exact hib | exact hib.2, ?_⟩
    conv => whnf
    dsimp only
    rw [show dSet (eL cI ys) (nAdd (offR none) (nOf (f : Int))) (z0s (cI yf) 0 [.int .i64 z]) = eL cI (ys.set f z) from by rw [show nAdd (offR none) (nOf (f : Int)) = f by simp [wr], show z0s (cI yf) 0 [.int .i64 z] = cI z by rw [z0s]; rfl]; exact z5E cI ys f z]
  intro ⟨z, ib, ub⟩ hib
  dsimp only at hib
  conv => whnf
  refine ⟨(⟨ns, tg, rs, ys.set f z⟩, ib, ub), ⟨⟨hn, hns, htg, hrl, hrc, by simp; omega⟩, by assumption⟩, ?_⟩
  conv => whnf
  first | done | rfl | (simp only [z7]; done) | (simp only [z7]; rfl)
 refine zK (fun q5 => ?_) (fun q5 => ?_) <;> (conv => whnf)
 ·refine And.intro (by simp [z7]; omega) ?_
  conv => whnf
  refine ⟨(⟨ns, tg, rs, ys ++ [1]⟩, i3, u3), ⟨⟨hn, hns, htg, hrl, hrc, by simp; omega⟩, by assumption⟩, ?_⟩
  conv => whnf
  simp only [z7]
  rw [show dApp (eL cI ys) [[D.int IntKind.i64 1]] = eL cI (ys ++ [1]) from zY cI ys 1]
 refine zK (fun q6 => ?_) (fun q6 => ?_) <;> (conv => whnf)
 ·refine yF (k := f) rfl (by simp [zS, dSet, zF]; omega) ?_
  conv => whnf
  refine And.intro (fun c hc => by simp at hc) ?_
  refine zCq (f := cIs) (k := f) (by simp) hrf (by simp [cIs]) ?_
  conv => whnf
  refine ⟨(⟨ns, tg, rs.set f [], ys⟩, i3, u3), ⟨⟨hn, hns, htg, by simp; omega, zD4 hrc (by simp), hyl⟩, by assumption⟩, ?_⟩
  conv => whnf
  simp only [z7, wr, z6L, Nat.zero_add, z2E, Int.toNat_natCast]
  rw [show dSet (eL cIs rs) f (z0s (cIs rf) 0 [D.sl 1 []]) = eL cIs (rs.set f []) from by have := zLw f rs rf []; rw [zg] at this; exact this]
 obtain ⟨r0, hr0⟩ := zH (show 0 < rs.length by omega)
 have hr04 := hrc r0 (List.mem_of_getElem? hr0)
 refine zK (fun q7 => ?_) (fun q7 => ?_) <;> (conv => whnf)
 ·refine zB hTn [0, 2, 3] (α := List (List Int) × List Int × Int × Int) (fun x => { t := [(0, .w (.ptr 0 0) v0), (2, .c (.ptr 1 0)), (3, .c (.ptr 2 0))], h := [(0, .box zI (cur code x.2.2.1 x.2.2.2)), (1, .box zJ [.nl 1, .d (.str ⟨#[]⟩), .nl 1, .nl 1]), (2, .box zJ [.ref 3 0 none, .d (.str tg), .ref 4 0 none, .ref 5 0 none]), (3, .arr yE 1 0 .own (eL cS ns)), (4, z0V x.1), (5, .arr zW 1 0 .own (eL cI x.2.1))], n := 6, N := 100 })
   (fun x => (1 ≤ x.1.length ∧ x.1.length ≤ 41) ∧ x.1[0]? = some r0 ∧ (∀ r ∈ x.1, r.length ≤ 4) ∧ x.2.1.length = x.1.length ∧ yV code x.2.2) (fun x => 41 - x.1.length) (rs, ys, i3, u3) (by (conv => whnf); first | done | rfl) ⟨⟨hr1, hrl⟩, hr0, hrc, hyl0, hi3⟩ ?_
  intro ⟨rs1, ys1, i4, u4⟩ ⟨⟨hq1, hq2⟩, hq0, hqc, hqy, hi4⟩
  dsimp only at hq1 hq2 hq0 hqc hqy hi4
  conv => whnf
  refine yY hTn hmix [0, 2, 3, 82] (Y := Int × Int × Int) (fun y => (0 ≤ y.1 ∧ y.1 < 2) ∧ yV code y.2) (fun y => { t := [(0, .w (.ptr 0 0) v0), (2, .c (.ptr 1 0)), (3, .c (.ptr 2 0)), (82, ab (iLt (rs1.length : Int) (wAdd .i64 40 y.1)))], h := [(0, .box zI (cur code y.2.1 y.2.2)), (1, .box zJ [.nl 1, .d (.str ⟨#[]⟩), .nl 1, .nl 1]), (2, .box zJ [.ref 3 0 none, .d (.str tg), .ref 4 0 none, .ref 5 0 none]), (3, .arr yE 1 0 .own (eL cS ns)), (4, z0V rs1), (5, .arr zW 1 0 .own (eL cI ys1))], n := 6, N := 100 }) rfl ?_ ?_
  ·repeat' first
    | (refine zR rfl ?_; (conv => whnf))
    | (refine zQ rfl ?_ ?_ <;> (conv => whnf))
    | (refine zC rfl ?_ ?_ ?_ <;> (conv => whnf))
    | (refine zo rfl ?_ ?_ ?_ ?_ <;> (conv => whnf))
    | (refine .inr (.inr (.inr (.inr (.inl ⟨0, ?_⟩)))); (conv => whnf); refine ⟨_, _, _, _, _, _, zA code i4 u4 2 hi4 hl, fun ⟨z, ib, ub⟩ ⟨hz, hib⟩ => ⟨rfl, ?_⟩⟩; dsimp only at hz hib; (conv => whnf))
   all_goals
    refine zP rfl ?_
    refine ⟨(z, ib, ub), ⟨⟨hz.1, hz.2.1 (by decide)⟩, hib⟩, ?_⟩
    conv => whnf
    first | done | (simp; done) | rfl
  intro ⟨z, i5, u5⟩ ⟨hz, hi5⟩
  dsimp only at hz hi5
  conv => whnf
  rw [show wAdd .i64 40 z = 40 + z from y1 (by omega) (by omega)]
  refine zK (fun h7 => ?_) (fun h7 => ?_) <;> (conv => whnf) <;> simp [iLt] at h7
  ·refine zO hTn hmix [0, 2, 3] { t := [(0, .w (.ptr 0 0) v0), (2, .c (.ptr 1 0)), (3, .c (.ptr 2 0))], h := [(0, .box zI (cur code i5 u5)), (1, .box zJ [.nl 1, .d (.str ⟨#[]⟩), .nl 1, .nl 1]), (2, .box zJ [.ref 3 0 none, .d (.str tg), .ref 4 0 none, .ref 5 0 none]), (3, .arr yE 1 0 .own (eL cS ns)), (4, z0V (rs1 ++ [r0])), (5, .arr zW 1 0 .own (eL cI ys1))], n := 6, N := 100 } rfl ?_ ?_
   ·repeat' first
     | (refine zR rfl ?_; (conv => whnf))
     | (refine zQ rfl ?_ ?_ <;> (conv => whnf))
     | (refine zC rfl ?_ ?_ ?_ <;> (conv => whnf))
     | (refine zo rfl ?_ ?_ ?_ ?_ <;> (conv => whnf))
     | (refine yF (k := 0) rfl (by simp [zS, dSet, zF]; omega) ?_; (conv => whnf))
     | (refine wK (by simp) hq0 ?_; (conv => whnf))
     | (refine nyd_at (by simp) hq0 ?_; (conv => whnf))
     | (refine And.intro (by simp [zF, zS]; omega) ?_; (conv => whnf))
     | (refine And.intro (by have := z0j r0; simp only [dApp, List.nil_append]; exact this) ?_; (conv => whnf))
    all_goals
     refine zP rfl ?_
     conv => whnf
     rw [show dApp (eL cIs rs1) [[D.sl 1 (dApp [] (eL cI r0))]] = eL cIs (rs1 ++ [r0]) from by rw [show dApp [] (eL cI r0) = eL cI r0 by simp [dApp]]; exact zY cIs rs1 r0]
   conv => whnf
   refine And.intro (by simp [z7, zF, zS]; omega) ?_
   conv => whnf
   refine ⟨(rs1 ++ [r0], ys1 ++ [0], i5, u5), by simp; omega, ⟨⟨by simp, by simp; omega⟩, by rw [List.getElem?_append_left (by omega)]; exact hq0, zKM hqc hr04, by simp; omega, hi5⟩, ?_⟩
   conv => whnf
   simp only [z7]
   rw [show dApp (eL cI ys1) [[D.int IntKind.i64 0]] = eL cI (ys1 ++ [0]) from zY cI ys1 0]
  ·refine ⟨(⟨ns, tg, rs1, ys1⟩, i5, u5), ⟨⟨hn, hns, htg, hq2, hqc, by show ys1.length ≤ 41; omega⟩, by assumption⟩, ?_⟩
   conv => whnf
   first | done | rfl
 ·refine ⟨(⟨ns, tg, rs, ys⟩, i3, u3), ⟨⟨hn, hns, htg, hrl, hrc, hyl⟩, by assumption⟩, ?_⟩
  conv => whnf
  first | done | rfl | (simp only [z7]; done) | (simp only [z7]; rfl)
end Go.H.S
namespace Go.H.S
open Go Go.Proofs Go.H
attribute [local irreducible] Tri z6 zV zU zj zX
theorem zKU {t : Tbl} (h : drawnT t) : smT t := ⟨h.names, h.texts, h.target, by have := h.rows; omega, fun r hr => by rw [h.cols r hr]; have := h.names; omega, by rw [h.ys]; have := h.rows; omega⟩
abbrev cTb0 : List CV := [.nl 1, .d (.str ⟨#[]⟩), .nl 1, .nl 1]
abbrev cC0 : List CV := [.d (.int .i64 0), .d (.int .i64 0), .d (.int .i64 0), .d (.int .i64 0), .d (.int .i64 0), .d (.int .i64 0), .d (.int .i64 0), .nl 1]
set_option maxHeartbeats 4000000 in
theorem z7F (code : List Int) (hl : code.length ≤ 1048576) : zU PR zBS [.c (.d (.sl 1 (eL cU code)))] (Tbl × Cfg × Int × Int) (fun x => smT x.1 ∧ x.2.1.signs.length ≤ 5 ∧ yV code x.2.2)
  (fun x => .tup [(false, [.ptr 0 0]), (true, cTb x.1), (true, cCf x.2.1)]) (fun x => [(0, .box zI (cur code x.2.2.1 x.2.2.2))]) (fun _ => 1) := by
 refine zU.introT hT (pf Tryz.func188) rfl (by kernel_rfl) Tryz.ntmps188 rfl ?_
 refine z60 hT ?_
 conv => whnf
 refine z60 hT ?_
 conv => whnf
 refine .inr ⟨_, _, _, _, _, z9k code hl, fun u0 _ => ⟨rfl, ?_⟩⟩
 conv => whnf
 refine z60 hT ?_
 conv => whnf
 refine .inr (.inr (.inr (.inr (.inl ⟨2, ?_⟩))))
 conv => whnf
 refine ⟨_, _, _, _, _, _, z7D code 0 u0 ⟨Int.le_refl _, by dsimp only; omega⟩ hl, fun ⟨t, i1, u1⟩ ⟨ht, hi1⟩ => ⟨rfl, ?_⟩⟩
 dsimp only at ht hi1
 have hs := zKU ht
 clear ht
 conv => whnf
 refine zEb 7 0 ?_
 conv => whnf
 refine zEb 7 2 ?_
 conv => whnf
 refine zEb 7 3 ?_
 conv => whnf
 refine z60 hT ?_
 conv => whnf
 refine .inr (.inr (.inr (.inr (.inl ⟨2, ?_⟩))))
 conv => whnf
 refine ⟨_, _, _, _, _, _, z2b code i1 u1 hi1 hl, fun ⟨c, i2, u2⟩ ⟨hc, hi2⟩ => ⟨rfl, ?_⟩⟩
 dsimp only at hc hi2
 obtain ⟨a1, a2, a3, a4, a5, a6, a7, ss⟩ := c
 dsimp only at hc
 conv => whnf
 refine zI6 hT [3, 4, 5, 6, 7] (α := Tbl × Int × Int) (fun x => { t := [(3, .c (.ptr 0 0)), (4, .c (.ptr 1 0)), (5, .c (.ptr 2 0)), (6, .c (.ptr 3 0)), (7, .c (.ptr 4 0))], h := [(0, .box zJ cTb0), (1, .box zh cC0), (2, .box zI (cur code x.2.1 x.2.2)), (3, .box zJ (cTb x.1)), (4, .box zh [.d (.int .i64 (⟨a1, a2, a3, a4, a5, a6, a7, ss⟩ : Cfg).rounds), .d (.int .i64 (⟨a1, a2, a3, a4, a5, a6, a7, ss⟩ : Cfg).depth), .d (.int .i64 (⟨a1, a2, a3, a4, a5, a6, a7, ss⟩ : Cfg).bins), .d (.int .i64 (⟨a1, a2, a3, a4, a5, a6, a7, ss⟩ : Cfg).lambda), .d (.int .i64 (⟨a1, a2, a3, a4, a5, a6, a7, ss⟩ : Cfg).rows), .d (.int .i64 (⟨a1, a2, a3, a4, a5, a6, a7, ss⟩ : Cfg).num), .d (.int .i64 (⟨a1, a2, a3, a4, a5, a6, a7, ss⟩ : Cfg).den), .ref 5 0 none]), (5, .arr zW 1 0 .own (eL cI (⟨a1, a2, a3, a4, a5, a6, a7, ss⟩ : Cfg).signs))], n := 6, N := 25 })
  (fun x => smT x.1 ∧ yV code x.2) ?_ ?_
 ·conv => whnf
  refine .inr (.inr (.inr (.inr (.inl ⟨2, ?_⟩))))
  conv => whnf
  refine ⟨_, _, _, _, _, _, zi code i2 u2 16 hi2 hl, fun ⟨b, i3, u3⟩ hi3 => ⟨rfl, ?_⟩⟩
  dsimp only at hi3
  cases b with
  | true =>
   conv => whnf
   refine .inr (.inr (.inr (.inr (.inl ⟨2, ?_⟩))))
   conv => whnf
   refine ⟨_, _, _, _, _, _, z8W code i3 u3 hi3 hl, fun ⟨t2, i4, u4⟩ ⟨ht2, hi4⟩ => ⟨rfl, ?_⟩⟩
   dsimp only at ht2 hi4
   conv => whnf
   refine ⟨(t2, i4, u4), ⟨ht2, hi4⟩, ?_⟩
   conv => whnf
   first | done | rfl
  | false =>
   conv => whnf
   refine ⟨(t, i3, u3), ⟨hs, hi3⟩, ?_⟩
   conv => whnf
   first | done | rfl
 clear hs hi2
 intro ⟨t2, i3, u3⟩ ⟨ht2, hi3⟩
 dsimp only at ht2 hi3
 refine zI6 hT [3, 4, 5, 6, 7] (α := Cfg × Int × Int) (fun x => { t := [(3, .c (.ptr 0 0)), (4, .c (.ptr 1 0)), (5, .c (.ptr 2 0)), (6, .c (.ptr 3 0)), (7, .c (.ptr 4 0))], h := [(0, .box zJ cTb0), (1, .box zh cC0), (2, .box zI (cur code x.2.1 x.2.2)), (3, .box zJ (cTb t2)), (4, .box zh [.d (.int .i64 x.1.rounds), .d (.int .i64 x.1.depth), .d (.int .i64 x.1.bins), .d (.int .i64 x.1.lambda), .d (.int .i64 x.1.rows), .d (.int .i64 x.1.num), .d (.int .i64 x.1.den), .ref 5 0 none]), (5, .arr zW 1 0 .own (eL cI x.1.signs))], n := 6, N := 25 })
  (fun x => x.1.signs.length ≤ 5 ∧ yV code x.2) ?_ ?_
 ·conv => whnf
  refine .inr (.inr (.inr (.inr (.inl ⟨2, ?_⟩))))
  conv => whnf
  refine ⟨_, _, _, _, _, _, zi code i3 u3 16 hi3 hl, fun ⟨b, i4, u4⟩ hi4 => ⟨rfl, ?_⟩⟩
  dsimp only at hi4
  cases b with
  | true =>
   conv => whnf
   refine .inr (.inr (.inr (.inr (.inl ⟨2, ?_⟩))))
   conv => whnf
   refine ⟨_, _, _, _, _, _, z8Z code i4 u4 hi4 hl, fun ⟨⟨b1, b2, b3, b4, b5, b6, b7, ss2⟩, i5, u5⟩ ⟨hc2, hi5⟩ => ⟨rfl, ?_⟩⟩
   dsimp only at hc2 hi5
   conv => whnf
   refine ⟨(⟨b1, b2, b3, b4, b5, b6, b7, ss2⟩, i5, u5), ⟨hc2, hi5⟩, ?_⟩
   conv => whnf
   first | done | rfl
  | false =>
   conv => whnf
   refine ⟨(⟨a1, a2, a3, a4, a5, a6, a7, ss⟩, i4, u4), ⟨by dsimp only; omega, hi4⟩, ?_⟩
   conv => whnf
   first | done | rfl
 clear hc hi3
 intro ⟨c, i4, u4⟩ ⟨hc, hi4⟩
 dsimp only at hc hi4
 refine zEb 4 7 ?_
 conv => whnf
 refine zZ 3 ?_
 conv => whnf
 refine zZ 4 ?_
 conv => whnf
 refine z60 hT ?_
 conv => whnf
 refine zO hT hmix [2, 3, 4] { t := [(2, .c (.ptr 0 0)), (3, .c (.ptr 1 0)), (4, .c (.ptr 2 0))], h := [(0, .box zI (cur code i4 u4)), (1, .box zJ (cTb t2)), (2, .box zh (cCf c))], n := 3, N := 25 } rfl ?_ ?_
 ·repeat' first
   | (refine zR rfl ?_; (conv => whnf))
   | (refine zQ rfl ?_ ?_ <;> (conv => whnf))
   | (refine zC rfl ?_ ?_ ?_ <;> (conv => whnf))
   | (refine zo rfl ?_ ?_ ?_ ?_ <;> (conv => whnf))
   | (refine zP rfl ?_; (conv => whnf); first | done | rfl)
 ·refine yr hT _ _ _ ?_
  conv => whnf
  refine ⟨(t2, c, i4, u4), ⟨ht2, hc, hi4⟩, ?_⟩
  conv => whnf
  first | done | rfl
set_option maxHeartbeats 4000000 in
theorem z64 (code : List Int) (i0 u0 : Int) (n : Nat) (hi0 : yV code (i0, u0)) (hl : code.length ≤ 1048576) (hn : n ≤ 1000) : zX PR zAP [.c (.ptr 0 0), ai n] zI (cur code i0 u0) (List Int × Int × Int)
  (fun x => x.1.length ≤ n ∧ yV code x.2) (fun x => .c (.ref 1 0 none)) (fun x => cur code x.2.1 x.2.2) (fun x => [(1, .arr zW 1 0 .own (eL cI x.1))]) (fun _ => 2) := by
 refine zX.intro hT 0 (pf Tryz.func190) rfl (by kernel_rfl) Tryz.ntmps190 rfl rfl ?_
 intro v0
 conv => whnf
 refine .inr (.inr (.inr (.inr (.inl ⟨0, ?_⟩))))
 conv => whnf
 refine ⟨_, _, _, _, _, _, zi code i0 u0 2 hi0 hl, fun ⟨b, i1, u1⟩ hi1 => ⟨rfl, ?_⟩⟩
 dsimp only at hi1
 cases b with
 | true =>
  conv => whnf
  refine ⟨([], i1, u1), ⟨by simp, hi1⟩, ?_⟩
  conv => whnf
  simp only [zg]
 | false =>
  conv => whnf
  refine zB hT [0, 1, 5, 6] (α := List Int × Int × Int) (fun x => { t := [(0, .w (.ptr 0 0) v0), (1, ai n), (5, .c (.ref 1 0 none)), (6, ai x.1.length)], h := [(0, .box zI (cur code x.2.1 x.2.2)), (1, .arr zW 1 0 .own (eL cI x.1))], n := 2, N := 23 })
   (fun x => x.1.length ≤ n ∧ yV code x.2) (fun x => n - x.1.length) ([], i1, u1) (by (conv => whnf); simp only [zg]; rfl) ⟨Nat.zero_le _, hi1⟩ ?_
  intro ⟨ss, i2, u2⟩ ⟨hs, hi2⟩
  dsimp only at hs hi2
  conv => whnf
  refine zK (fun h1 => ?_) (fun h1 => ?_) <;> (conv => whnf) <;> simp only [eH] at h1
  ·refine .inr (.inr (.inr (.inr (.inl ⟨0, ?_⟩))))
   conv => whnf
   refine ⟨_, _, _, _, _, _, zA code i2 u2 3 hi2 hl, fun ⟨z, i3, u3⟩ ⟨hz, hi3⟩ => ⟨rfl, ?_⟩⟩
   dsimp only at hz hi3
   conv => whnf
   refine And.intro (by simp [z7]; omega) ?_
   conv => whnf
   refine ⟨(ss ++ [wSub .i64 z 1], i3, u3), by simp; omega, ⟨by simp; omega, hi3⟩, ?_⟩
   ((conv => whnf); simp only [eS, wI (show ss.length < 1000 by omega) (by omega)])
   simp only [z7, List.length_append, List.length_cons, List.length_nil]
   rw [← zY]
   first | exact ⟨rfl, trivial⟩ | exact ⟨trivial, rfl⟩ | exact ⟨rfl, rfl⟩ | rfl
  ·refine ⟨(ss, i2, u2), ⟨hs, hi2⟩, ?_⟩
   conv => whnf
   first | done | rfl
set_option maxHeartbeats 4000000 in
theorem z2g (code : List Int) (hl : code.length ≤ 1048576) : zU PR z4D [.c (.d (.sl 1 (eL cU code)))] (Tbl × Cfg) (fun x => smT x.1 ∧ x.2.signs.length ≤ 5)
  (fun x => .tup [(true, cTb x.1), (true, cCf x.2)]) (fun _ => []) (fun _ => 0) := by
 refine zU.intro hT (pf Tryz.func74) rfl (by kernel_rfl) Tryz.ntmps74 rfl ?_
 conv => whnf
 refine .inr ⟨_, _, _, _, _, z7F code hl, fun ⟨t, c, i1, u1⟩ ⟨ht, hc, hi1⟩ => ⟨rfl, ?_⟩⟩
 dsimp only at ht hc hi1
 obtain ⟨a1, a2, a3, a4, a5, a6, a7, ss⟩ := c
 dsimp only at hc
 conv => whnf
 refine zK (fun h1 => ?_) (fun h1 => ?_) <;> (conv => whnf)
 ·refine .inr (.inr (.inr (.inr (.inl ⟨2, ?_⟩))))
  conv => whnf
  refine ⟨_, _, _, _, _, _, zi code i1 u1 8 hi1 hl, fun ⟨b, i2, u2⟩ hi2 => ⟨rfl, ?_⟩⟩
  dsimp only at hi2
  cases b with
  | true =>
   conv => whnf
   refine zZ 3 ?_
   conv => whnf
   refine zZ 4 ?_
   conv => whnf
   refine zO hT hmix [2, 3] { t := [(2, .c (.ptr 0 0)), (3, .c (.ptr 1 0))], h := [(0, .box zJ (cTb t)), (1, .box zh (cCf (⟨a1, a2, a3, a4, a5, a6, a7, ss⟩ : Cfg)))], n := 2, N := 30 } rfl ?_ ?_
   ·repeat' first
     | (refine zR rfl ?_; (conv => whnf))
     | (refine zQ rfl ?_ ?_ <;> (conv => whnf))
     | (refine zC rfl ?_ ?_ ?_ <;> (conv => whnf))
     | (refine zo rfl ?_ ?_ ?_ ?_ <;> (conv => whnf))
     | (refine zP rfl ?_; (conv => whnf); first | done | rfl)
   ·conv => whnf
    refine ⟨(t, (⟨a1, a2, a3, a4, a5, a6, a7, ss⟩ : Cfg)), ⟨ht, hc⟩, ?_⟩
    conv => whnf
    first | done | rfl
  | false =>
   conv => whnf
   rw [show nInt (dLen (eL cS t.names)) = (t.names.length : Int) by simp]
   refine .inr (.inr (.inr (.inr (.inl ⟨2, ?_⟩))))
   conv => whnf
   refine ⟨_, _, _, _, _, _, z64 code i2 u2 t.names.length hi2 hl (by have := ht.names; omega), fun ⟨s2, i3, u3⟩ ⟨hs2, hi3⟩ => ⟨rfl, ?_⟩⟩
   dsimp only at hs2 hi3
   conv => whnf
   refine zEb 4 7 ?_
   conv => whnf
   refine zZ 3 ?_
   conv => whnf
   refine zZ 4 ?_
   conv => whnf
   refine zO hT hmix [2, 3] { t := [(2, .c (.ptr 0 0)), (3, .c (.ptr 1 0))], h := [(0, .box zJ (cTb t)), (1, .box zh (cCf (⟨a1, a2, a3, a4, a5, a6, a7, s2⟩ : Cfg)))], n := 2, N := 30 } rfl ?_ ?_
   ·repeat' first
     | (refine zR rfl ?_; (conv => whnf))
     | (refine zQ rfl ?_ ?_ <;> (conv => whnf))
     | (refine zC rfl ?_ ?_ ?_ <;> (conv => whnf))
     | (refine zo rfl ?_ ?_ ?_ ?_ <;> (conv => whnf))
     | (refine zP rfl ?_; (conv => whnf); first | done | rfl)
   ·conv => whnf
    refine ⟨(t, (⟨a1, a2, a3, a4, a5, a6, a7, s2⟩ : Cfg)), ⟨ht, by have := ht.names; dsimp only; omega⟩, ?_⟩
    conv => whnf
    first | done | rfl
 ·refine zZ 3 ?_
  conv => whnf
  refine zZ 4 ?_
  conv => whnf
  refine zO hT hmix [2, 3] { t := [(2, .c (.ptr 0 0)), (3, .c (.ptr 1 0))], h := [(0, .box zJ (cTb t)), (1, .box zh (cCf (⟨a1, a2, a3, a4, a5, a6, a7, ss⟩ : Cfg)))], n := 2, N := 30 } rfl ?_ ?_
  ·repeat' first
    | (refine zR rfl ?_; (conv => whnf))
    | (refine zQ rfl ?_ ?_ <;> (conv => whnf))
    | (refine zC rfl ?_ ?_ ?_ <;> (conv => whnf))
    | (refine zo rfl ?_ ?_ ?_ ?_ <;> (conv => whnf))
    | (refine zP rfl ?_; (conv => whnf); first | done | rfl)
  ·conv => whnf
   refine ⟨(t, (⟨a1, a2, a3, a4, a5, a6, a7, ss⟩ : Cfg)), ⟨ht, hc⟩, ?_⟩
   conv => whnf
   first | done | rfl
end Go.H.S
namespace Go.H.S
open Go Go.Proofs Go.H
attribute [local irreducible] Tri z6 zV zU zj
def gAt (grads : List Int) (r : Int) : Int := (grads[r.toNat]?).getD 0
def sumR (grads : List Int) : List Int → Int
 | [] => 0
 | r :: rs => gAt grads r + sumR grads rs
theorem z9h (grads : List Int) : ∀ (rs : List Int) (r : Int), sumR grads (rs ++ [r]) = sumR grads rs + gAt grads r
 | [], r => by simp [sumR]
 | x :: rs, r => by simp only [List.cons_append, sumR, z9h grads rs r]; omega
theorem zEg {grads rows : List Int} {k : Nat} {x : Int} (h : rows[k]? = some x) : sumR grads (rows.take (k + 1)) = sumR grads (rows.take k) + gAt grads x := by
 rw [List.take_add_one, h, Option.toList_some, z9h]
def z6o (grads : List Int) : Prop := ∀ x ∈ grads, -2199023255552 ≤ x ∧ x ≤ 2199023255552
theorem gAt_in {grads : List Int} (h : z6o grads) (r : Int) : -2199023255552 ≤ gAt grads r ∧ gAt grads r ≤ 2199023255552 := by
 unfold gAt
 cases hr : grads[r.toNat]? with
 | none => simp
 | some x => exact h x (List.mem_of_getElem? hr)
theorem z3r {grads : List Int} (h : z6o grads) : ∀ rs : List Int, -2199023255552 * (rs.length : Int) ≤ sumR grads rs ∧ sumR grads rs ≤ 2199023255552 * (rs.length : Int)
 | [] => by simp [sumR]
 | r :: rs => by
  have h1 := gAt_in h r
  have h2 := z3r h rs
  simp only [sumR, List.length_cons]
  omega
theorem z3Q (grads rows : List Int) (hg : z6o grads) (hl : rows.length ≤ 40) (hr : ∀ r ∈ rows, 0 ≤ r ∧ r < (grads.length : Int)) :
  z6 PR zDR [aIs grads, aIs rows] (aB (rows.length, sumR grads rows)) [] 0 := by
 refine z6.intro hT (pf Tryz.func91) rfl (by kernel_rfl) Tryz.ntmps91 rfl ?_
 conv => whnf
 refine zB hT [0, 1, 4, 5, 6] (α := Nat) (fun x => { t := [(0, aIs grads), (1, aIs rows), (4, .c (.ptr 0 0)), (5, .c (.ptr 1 0)), (6, ai x)], h := [(0, .box yA (cB (0, 0))), (1, .box yA (cB (x, sumR grads (rows.take x))))], n := 2, N := 29 })
  (fun x => x ≤ rows.length) (fun x => rows.length - x) 0 (by first | ((conv => whnf); done) | ((conv => whnf); rfl)) (Nat.zero_le _) ?_
 intro k hk
 conv => whnf
 rw [show nInt (dLen (eL cI rows)) = (rows.length : Int) by simp]
 refine zK (fun h1 => ?_) (fun h1 => ?_) <;> (conv => whnf) <;> simp only [eH] at h1
 ·obtain ⟨x, hx⟩ := zH (show k < rows.length by omega)
  have hxr := hr x (List.mem_of_getElem? hx)
  obtain ⟨y, hy⟩ := zH (show x.toNat < grads.length by omega)
  have hxn : x = (x.toNat : Int) := by omega
  have hs := zEg (grads := grads) hx
  have hgx : gAt grads x = y := by unfold gAt; rw [hy]; rfl
  have hb := z3r hg (rows.take k)
  have hy2 := hg y (List.mem_of_getElem? hy)
  rw [List.length_take] at hb
  have e1 : wAdd .i64 (k : Int) 1 = ((k + 1 : Nat) : Int) := by rw [y1] <;> omega
  have e2 : wAdd .i64 (sumR grads (rows.take k)) y = sumR grads (rows.take (k + 1)) := by rw [hs, hgx, y1] <;> omega
  refine zO hT hmix [0, 1, 4, 5, 6] { t := [(0, aIs grads), (1, aIs rows), (4, .c (.ptr 0 0)), (5, .c (.ptr 1 0)), (6, ai k)], h := [(0, .box yA (cB (0, 0))), (1, .box yA (cB ((k + 1 : Nat), sumR grads (rows.take (k + 1)))))], n := 2, N := 29 } rfl ?_ ?_
  ·repeat' first
    | (refine zR rfl ?_; (conv => whnf))
    | (refine zQ rfl ?_ ?_ <;> (conv => whnf))
    | (refine zC rfl ?_ ?_ ?_ <;> (conv => whnf))
    | (refine zo rfl ?_ ?_ ?_ ?_ <;> (conv => whnf))
    | (refine zE rfl hx ?_; (conv => whnf))
    | (refine zE hxn hy ?_; (conv => whnf))
    | (refine zP rfl ?_; (conv => whnf); first | done | rfl | (rw [e1, e2]; done) | (rw [e1, e2]; rfl))
  conv => whnf
  refine ⟨k + 1, by omega, by omega, ?_⟩
  ((conv => whnf); simp only [eS, e1])
 ·obtain rfl : k = rows.length := by omega
  rw [List.take_length]
theorem z3T (grads rows : List Int) (hg : z6o grads) (hl : rows.length ≤ 40) (hr : ∀ r ∈ rows, 0 ≤ r ∧ r < (grads.length : Int)) :
  z6 PR zDq [aIs grads, aIs rows] (aB (rows.length, sumR grads rows)) [] 0 := by
 refine z6.intro hT (pf Tryz.func99) rfl (by kernel_rfl) Tryz.ntmps99 rfl ?_
 conv => whnf
 refine zB hT [0, 4, 5, 11, 12, 13] (α := Nat) (fun x => { t := [(0, aIs grads), (4, .c (.ptr 0 0)), (5, .c (.ptr 1 0)), (11, aIs rows), (12, ai (nInt (dLen (eL cI rows)))), (13, ai x)], h := [(0, .box yA (cB (0, 0))), (1, .box yA (cB (nInt (dLen (eL cI rows)), sumR grads (rows.take x))))], n := 2, N := 27 })
  (fun x => x ≤ rows.length) (fun x => rows.length - x) 0 (by first | ((conv => whnf); done) | ((conv => whnf); rfl)) (Nat.zero_le _) ?_
 intro k hk
 conv => whnf
 refine zK (fun h1 => ?_) (fun h1 => ?_) <;> (conv => whnf) <;> simp only [eH] at h1
 ·obtain ⟨x, hx⟩ := zH (show k < rows.length by omega)
  have hxr := hr x (List.mem_of_getElem? hx)
  obtain ⟨y, hy⟩ := zH (show x.toNat < grads.length by omega)
  have hxn : x = (x.toNat : Int) := by omega
  have hs := zEg (grads := grads) hx
  have hgx : gAt grads x = y := by unfold gAt; rw [hy]; rfl
  have hb := z3r hg (rows.take k)
  have hy2 := hg y (List.mem_of_getElem? hy)
  rw [List.length_take] at hb
  have e1 : wAdd .i64 (k : Int) 1 = ((k + 1 : Nat) : Int) := by rw [y1] <;> omega
  have e2 : wAdd .i64 (sumR grads (rows.take k)) y = sumR grads (rows.take (k + 1)) := by rw [hs, hgx, y1] <;> omega
  refine zE rfl hx ?_
  conv => whnf
  refine zO hT hmix [0, 4, 5, 11, 12, 13] { t := [(0, aIs grads), (4, .c (.ptr 0 0)), (5, .c (.ptr 1 0)), (11, aIs rows), (12, ai (nInt (dLen (eL cI rows)))), (13, ai k)], h := [(0, .box yA (cB (0, 0))), (1, .box yA (cB (nInt (dLen (eL cI rows)), sumR grads (rows.take (k + 1)))))], n := 2, N := 27 } rfl ?_ ?_
  ·repeat' first
    | (refine zR rfl ?_; (conv => whnf))
    | (refine zQ rfl ?_ ?_ <;> (conv => whnf))
    | (refine zC rfl ?_ ?_ ?_ <;> (conv => whnf))
    | (refine zo rfl ?_ ?_ ?_ ?_ <;> (conv => whnf))
    | (refine zE hxn hy ?_; (conv => whnf))
    | (refine zP rfl ?_; (conv => whnf); first | done | rfl | (rw [e2]; done) | (rw [e2]; rfl))
  conv => whnf
  refine ⟨k + 1, by omega, by omega, ?_⟩
  ((conv => whnf); simp only [eS, e1])
 ·obtain rfl : k = rows.length := by omega
  rw [List.take_length, show nInt (dLen (eL cI rows)) = (rows.length : Int) by simp]
def z2W (c : Cfg) : List Int := [c.rounds, c.depth, c.bins, c.lambda, c.rows]
def z8S : List Int := [1, 0, 2, 1, 1]
def z4P : List Int := [8, 4, 8, 100, 20]
def cfgP (c : Cfg) : Prop := (∀ (k : Nat) (x lo hi : Int), (z2W c)[k]? = some x → z8S[k]? = some lo → z4P[k]? = some hi → lo ≤ x ∧ x ≤ hi) ∧ (∀ s ∈ c.signs, -1 ≤ s ∧ s ≤ 1) ∧ (1 ≤ c.den ∧ c.den ≤ 1000) ∧ (1 ≤ c.num ∧ c.num ≤ c.den) ∧ c.signs.length ≤ 4
noncomputable def z0v (c : Cfg) : Bool := @decide (cfgP c) (Classical.propDecidable _)
theorem z3P {c : Cfg} (h : cfgP c) : z0v c = true := by unfold z0v; exact @decide_eq_true _ (Classical.propDecidable _) h
theorem z09 {c : Cfg} (h : ¬ cfgP c) : z0v c = false := by unfold z0v; exact @decide_eq_false _ (Classical.propDecidable _) h
theorem z0u {c : Cfg} : z0v c = true ↔ cfgP c := by
 constructor
 ·intro h
  rcases Classical.em (cfgP c) with q | q
  ·exact q
  ·rw [z09 q] at h; cases h
 ·exact z3P
theorem wS (c : Cfg) : (∀ (k : Nat) (x lo hi : Int), (z2W c)[k]? = some x → z8S[k]? = some lo → z4P[k]? = some hi → lo ≤ x ∧ x ≤ hi) ↔ ((1 ≤ c.rounds ∧ c.rounds ≤ 8) ∧ (0 ≤ c.depth ∧ c.depth ≤ 4) ∧ (2 ≤ c.bins ∧ c.bins ≤ 8) ∧ (1 ≤ c.lambda ∧ c.lambda ≤ 100) ∧ (1 ≤ c.rows ∧ c.rows ≤ 20)) := by
 constructor
 ·intro h
  exact ⟨h 0 _ _ _ rfl rfl rfl, h 1 _ _ _ rfl rfl rfl, h 2 _ _ _ rfl rfl rfl, h 3 _ _ _ rfl rfl rfl, h 4 _ _ _ rfl rfl rfl⟩
 ·rintro ⟨h0, h1, h2, h3, h4⟩ k x lo hi hx hl hh
  match k with
  | 0 => cases hx; cases hl; cases hh; exact h0
  | 1 => cases hx; cases hl; cases hh; exact h1
  | 2 => cases hx; cases hl; cases hh; exact h2
  | 3 => cases hx; cases hl; cases hh; exact h3
  | 4 => cases hx; cases hl; cases hh; exact h4
  | k + 5 => simp [z2W] at hx
theorem z4t (x : Int) : z6 PR z2u [ai x] (ab (bNot (decide (-1 ≤ x ∧ x ≤ 1)))) [] 0 := by
 refine z6.intro hT (pf Tryz.func231) rfl (by kernel_rfl) Tryz.ntmps231 rfl ?_
 conv => whnf
 refine .inl ⟨_, _, _, z3V _, rfl, ?_⟩
 conv => whnf
theorem yb (c : Cfg) (hl : c.signs.length ≤ 1048576) : z6 PR zAm [aCf c] (ab (z0v c)) [] 0 := by
 refine z6.intro hT (pf Tryz.func119) rfl (by kernel_rfl) Tryz.ntmps119 rfl ?_
 conv => whnf
 refine .inl ⟨_, _, _, zG _ _ _, rfl, ?_⟩
 cases h0 : decide (1 ≤ c.rounds ∧ c.rounds ≤ 8)
 ·conv => whnf
  rw [decide_eq_false_iff_not] at h0
  rw [z09 (fun q => h0 ((wS c).1 q.1).1)]
 rw [decide_eq_true_iff] at h0
 conv => whnf
 refine .inl ⟨_, _, _, zG _ _ _, rfl, ?_⟩
 cases h1 : decide (0 ≤ c.depth ∧ c.depth ≤ 4)
 ·conv => whnf
  rw [decide_eq_false_iff_not] at h1
  rw [z09 (fun q => h1 ((wS c).1 q.1).2.1)]
 rw [decide_eq_true_iff] at h1
 conv => whnf
 refine .inl ⟨_, _, _, zG _ _ _, rfl, ?_⟩
 cases h2 : decide (2 ≤ c.bins ∧ c.bins ≤ 8)
 ·conv => whnf
  rw [decide_eq_false_iff_not] at h2
  rw [z09 (fun q => h2 ((wS c).1 q.1).2.2.1)]
 rw [decide_eq_true_iff] at h2
 conv => whnf
 refine .inl ⟨_, _, _, zG _ _ _, rfl, ?_⟩
 cases h3 : decide (1 ≤ c.lambda ∧ c.lambda ≤ 100)
 ·conv => whnf
  rw [decide_eq_false_iff_not] at h3
  rw [z09 (fun q => h3 ((wS c).1 q.1).2.2.2.1)]
 rw [decide_eq_true_iff] at h3
 conv => whnf
 refine .inl ⟨_, _, _, zG _ _ _, rfl, ?_⟩
 cases h4 : decide (1 ≤ c.rows ∧ c.rows ≤ 20)
 ·conv => whnf
  rw [decide_eq_false_iff_not] at h4
  rw [z09 (fun q => h4 ((wS c).1 q.1).2.2.2.2)]
 rw [decide_eq_true_iff] at h4
 conv => whnf
 refine .inl ⟨_, _, _, zG _ _ _, rfl, ?_⟩
 cases h5 : decide (1 ≤ c.den ∧ c.den ≤ 1000)
 ·conv => whnf
  rw [decide_eq_false_iff_not] at h5
  rw [z09 (fun q => h5 q.2.2.1)]
 rw [decide_eq_true_iff] at h5
 conv => whnf
 refine .inl ⟨_, _, _, zG _ _ _, rfl, ?_⟩
 cases h6 : decide (1 ≤ c.num ∧ c.num ≤ c.den)
 ·conv => whnf
  rw [decide_eq_false_iff_not] at h6
  rw [z09 (fun q => h6 q.2.2.2.1)]
 rw [decide_eq_true_iff] at h6
 conv => whnf
 rw [show nInt (dLen (eL cI c.signs)) = (c.signs.length : Int) by simp]
 cases h7 : iLe (c.signs.length : Int) 4
 ·conv => whnf
  simp at h7
  rw [z09 (fun q => by have := q.2.2.2.2; omega)]
 simp at h7
 conv => whnf
 refine .inl ⟨_, _, _, y6 c.signs z2u (fun x => bNot (decide (-1 ≤ x ∧ x ≤ 1))) (fun x _ => z4t x) (by omega), rfl, ?_⟩
 conv => whnf
 cases h8 : c.signs.any fun x => bNot (decide (-1 ≤ x ∧ x ≤ 1))
 ·rw [List.any_eq_false] at h8
  rw [z3P ⟨(wS c).2 ⟨h0, h1, h2, h3, h4⟩, fun s hs => by have := h8 s hs; simpa [bNot] using this, h5, h6, by omega⟩]
  rfl
 ·rw [List.any_eq_true] at h8
  obtain ⟨s, hs1, hs2⟩ := h8
  rw [z09 (fun q => by have := q.2.1 s hs1; simp [bNot] at hs2; omega)]
  rfl
theorem z5R (c : Cfg) : z6 PR z9C [aCf c] (.c (.ref 0 0 none)) [(0, .arr zW 1 0 .own (eL cI (z2W c)))] 1 := by
 refine z6.intro hT (pf Tryz.func162) rfl (by kernel_rfl) Tryz.ntmps162 rfl ?_
 conv => whnf
 simp only [z2W, z4L, zg]
 rfl
theorem z7E : z6 PR zBN [] (.c (.ref 0 0 none)) [(0, .arr zW 1 0 .own (eL cI z8S))] 1 := by
 refine z6.intro hT (pf Tryz.func163) rfl (by kernel_rfl) Tryz.ntmps163 rfl ?_
 conv => whnf
 simp only [z8S, z4L, zg]
 rfl
theorem z8X : z6 PR zDL [] (.c (.ref 0 0 none)) [(0, .arr zW 1 0 .own (eL cI z4P))] 1 := by
 refine z6.intro hT (pf Tryz.func164) rfl (by kernel_rfl) Tryz.ntmps164 rfl ?_
 conv => whnf
 simp only [z4P, z4L, zg]
 rfl
theorem ya (c : Cfg) (hl : c.signs.length ≤ 1048576) : z6 PR zAb [aCf c] (ab (z0v c)) [] 0 := by
 refine z6.intro hT (pf Tryz.func64) rfl (by kernel_rfl) Tryz.ntmps64 rfl ?_
 conv => whnf
 refine .inl ⟨_, _, _, z5R c, rfl, ?_⟩
 conv => whnf
 refine zZ 0 ?_
 conv => whnf
 have hnl : (z2W c).length = 5 := rfl
 have l1 : z8S.length = 5 := rfl
 have l2 : z4P.length = 5 := rfl
 refine zB hT [1, 3, 4] (α := Nat) (fun x => { t := [(1, .c (.d (.rp [.int .i64 c.rounds, .int .i64 c.depth, .int .i64 c.bins, .int .i64 c.lambda, .int .i64 c.rows, .int .i64 c.num, .int .i64 c.den, .sl 1 (eL cI c.signs)]))), (3, aIs (z2W c)), (4, ai x)], h := [], n := 0, N := 56 })
  (fun x => x ≤ 5 ∧ ∀ (k : Nat) (x' lo hi : Int), k < x → (z2W c)[k]? = some x' → z8S[k]? = some lo → z4P[k]? = some hi → lo ≤ x' ∧ x' ≤ hi) (fun x => 5 - x) 0 (by first | ((conv => whnf); done) | ((conv => whnf); rfl)) ⟨Nat.zero_le _, fun k _ _ _ h => by omega⟩ ?_
 intro k ⟨hk, hr⟩
 conv => whnf
 refine zK (fun h1 => ?_) (fun h1 => ?_) <;> (conv => whnf) <;> simp only [eH] at h1
 ·obtain ⟨x, hx⟩ := zH (show k < (z2W c).length by rw [hnl]; omega)
  obtain ⟨lo, hlo⟩ := zH (show k < z8S.length by rw [show z8S.length = 5 from rfl]; omega)
  obtain ⟨hi, hhi⟩ := zH (show k < z4P.length by rw [show z4P.length = 5 from rfl]; omega)
  refine zO hT hmix [1, 3, 4, 25] { t := [(1, .c (.d (.rp [.int .i64 c.rounds, .int .i64 c.depth, .int .i64 c.bins, .int .i64 c.lambda, .int .i64 c.rows, .int .i64 c.num, .int .i64 c.den, .sl 1 (eL cI c.signs)]))), (3, aIs (z2W c)), (4, ai k), (25, ab (bNot (decide (lo ≤ x ∧ x ≤ hi))))], h := [], n := 0, N := 56 } rfl ?_ ?_
  ·repeat' first
    | (refine zR rfl ?_; (conv => whnf))
    | (refine zQ rfl ?_ ?_ <;> (conv => whnf))
    | (refine zC rfl ?_ ?_ ?_ <;> (conv => whnf))
    | (refine zE rfl hx ?_; (conv => whnf))
    | (refine .inl ⟨_, _, _, z7E, rfl, ?_⟩; (conv => whnf))
    | (refine .inl ⟨_, _, _, z8X, rfl, ?_⟩; (conv => whnf))
    | (refine yF (k := k) rfl (by first | omega | (simp only [zF, l1]; omega) | (simp only [zF, l2]; omega) | (simp [l1, l2]; omega)) ?_; (conv => whnf))
    | (refine wK (by simp) hlo ?_; (conv => whnf))
    | (refine wK (by simp) hhi ?_; (conv => whnf))
    | (refine .inl ⟨_, _, _, zM _ _ _, rfl, ?_⟩; (conv => whnf))
    | (refine zP rfl ?_; (conv => whnf); first | done | rfl)
  conv => whnf
  cases h2 : decide (lo ≤ x ∧ x ≤ hi)
  ·rw [decide_eq_false_iff_not] at h2
   conv => whnf
   rw [z09 (fun q => h2 (q.1 k x lo hi hx hlo hhi))]
  ·rw [decide_eq_true_iff] at h2
   conv => whnf
   refine ⟨k + 1, by omega, ⟨by omega, fun j x' lo' hi' hj a1 a2 a3 => ?_⟩, ?_⟩
   ·rcases Nat.lt_or_ge j k with q | q
    ·exact hr j x' lo' hi' q a1 a2 a3
    ·obtain rfl : j = k := by omega
     rw [hx] at a1; rw [hlo] at a2; rw [hhi] at a3
     cases a1; cases a2; cases a3
     exact h2
   have e1 : wAdd .i64 (k : Int) 1 = ((k + 1 : Nat) : Int) := by rw [y1] <;> omega
   ((conv => whnf); simp only [eS, e1])
 ·obtain rfl : k = 5 := by omega
  have h5 := (wS c).1 (fun j x lo hi a1 a2 a3 => hr j x lo hi (by have := (List.getElem?_eq_some_iff.1 a1).1; omega) a1 a2 a3)
  refine zB hT [1, 5] (α := Nat) (fun x => { t := [(1, .c (.d (.rp [.int .i64 c.rounds, .int .i64 c.depth, .int .i64 c.bins, .int .i64 c.lambda, .int .i64 c.rows, .int .i64 c.num, .int .i64 c.den, .sl 1 (eL cI c.signs)]))), (5, ai x)], h := [], n := 0, N := 56 })
   (fun x => x ≤ c.signs.length ∧ ∀ (j : Nat) (y : Int), j < x → c.signs[j]? = some y → -1 ≤ y ∧ y ≤ 1) (fun x => c.signs.length - x) 0 (by first | ((conv => whnf); done) | ((conv => whnf); rfl)) ⟨Nat.zero_le _, fun k _ h => by omega⟩ ?_
  intro i ⟨hi, hq⟩
  conv => whnf
  rw [show nInt (dLen (eL cI c.signs)) = (c.signs.length : Int) by simp]
  refine zK (fun h6 => ?_) (fun h6 => ?_) <;> (conv => whnf) <;> simp only [eH] at h6
  ·obtain ⟨y, hy⟩ := zH (show i < c.signs.length by omega)
   refine zE rfl hy ?_
   conv => whnf
   refine .inl ⟨_, _, _, zM _ _ _, rfl, ?_⟩
   conv => whnf
   cases h7 : decide (-1 ≤ y ∧ y ≤ 1)
   ·rw [decide_eq_false_iff_not] at h7
    conv => whnf
    rw [z09 (fun q => h7 (q.2.1 y (List.mem_of_getElem? hy)))]
   ·rw [decide_eq_true_iff] at h7
    conv => whnf
    refine ⟨i + 1, by omega, ⟨by omega, fun j z hj hz => ?_⟩, ?_⟩
    ·rcases Nat.lt_or_ge j i with q | q
     ·exact hq j z q hz
     ·obtain rfl : j = i := by omega
      rw [hy] at hz; cases hz; exact h7
    have e1 : wAdd .i64 (i : Int) 1 = ((i + 1 : Nat) : Int) := by rw [y1] <;> omega
    ((conv => whnf); simp only [eS, e1])
  ·obtain rfl : i = c.signs.length := by omega
   have h8 : ∀ s ∈ c.signs, -1 ≤ s ∧ s ≤ 1 := fun s hs => by
    obtain ⟨j, hj⟩ := List.mem_iff_getElem?.1 hs
    exact hq j s (List.getElem?_eq_some_iff.1 hj).1 hj
   refine .inl ⟨_, _, _, zM _ _ _, rfl, ?_⟩
   cases h9 : decide (1 ≤ c.den ∧ c.den ≤ 1000)
   ·rw [decide_eq_false_iff_not] at h9
    conv => whnf
    rw [z09 (fun q => h9 q.2.2.1)]
   rw [decide_eq_true_iff] at h9
   conv => whnf
   refine .inl ⟨_, _, _, zM _ _ _, rfl, ?_⟩
   cases h10 : decide (1 ≤ c.num ∧ c.num ≤ c.den)
   ·rw [decide_eq_false_iff_not] at h10
    conv => whnf
    rw [z09 (fun q => h10 q.2.2.2.1)]
   rw [decide_eq_true_iff] at h10
   conv => whnf
   rw [show nInt (dLen (eL cI c.signs)) = (c.signs.length : Int) by simp]
   cases h11 : iLe (c.signs.length : Int) 4
   ·simp at h11
    rw [z09 (fun q => by have := q.2.2.2.2; omega)]
   ·simp at h11
    rw [z3P ⟨(wS c).2 h5, h8, h9, h10, by omega⟩]
def wg (g : Grd) (grads : List Int) (c : Cfg) : Prop := zDG g ∧ cfgP c ∧ grads.length = yS g ∧ z6o grads
noncomputable def zCA (g : Grd) (grads : List Int) (c : Cfg) : Bool := @decide (wg g grads c) (Classical.propDecidable _)
theorem z4V {g : Grd} {grads : List Int} {c : Cfg} (h : wg g grads c) : zCA g grads c = true := by unfold zCA; exact @decide_eq_true _ (Classical.propDecidable _) h
theorem z25 {g : Grd} {grads : List Int} {c : Cfg} (h : ¬ wg g grads c) : zCA g grads c = false := by unfold zCA; exact @decide_eq_false _ (Classical.propDecidable _) h
theorem z6a (x : Int) : z6 PR z4I [ai x] (ab (bNot (decide (-2199023255552 ≤ x ∧ x ≤ 2199023255552)))) [] 0 := by
 refine z6.intro hT (pf Tryz.func121) rfl (by kernel_rfl) Tryz.ntmps121 rfl ?_
 conv => whnf
 refine .inl ⟨_, _, _, zG _ _ _, rfl, ?_⟩
 conv => whnf
theorem z3Z (g : Grd) (grads : List Int) (c : Cfg) (hg : smG g) (hr : grads.length ≤ 1048576) (hc : c.signs.length ≤ 1048576) : z6 PR zDw [aG g, aIs grads, aCf c] (ab (zCA g grads c)) [] 0 := by
 refine z6.intro hT (pf Tryz.func34) rfl (by kernel_rfl) Tryz.ntmps34 rfl ?_
 conv => whnf
 refine .inl ⟨_, _, _, z16 g hg, rfl, ?_⟩
 cases h1 : z1q g
 ·conv => whnf
  rw [z25 (fun q => by rw [z2I q.1] at h1; cases h1)]
 rw [z4b] at h1
 conv => whnf
 refine .inl ⟨_, _, _, yb c hc, rfl, ?_⟩
 cases h2 : z0v c
 ·conv => whnf
  rw [z25 (fun q => by rw [z3P q.2.1] at h2; cases h2)]
 rw [z0u] at h2
 conv => whnf
 refine .inl ⟨_, _, _, wM g, rfl, ?_⟩
 rw [show nInt (dLen (eL cI grads)) = (grads.length : Int) by simp]
 conv => whnf
 cases h3 : iEq (grads.length : Int) (yS g : Int)
 ·conv => whnf
  simp at h3
  rw [z25 (fun q => by have := q.2.2.1; omega)]
 simp at h3
 conv => whnf
 refine .inl ⟨_, _, _, y6 grads z4I (fun x => bNot (decide (-2199023255552 ≤ x ∧ x ≤ 2199023255552))) (fun x _ => z6a x) (by omega), rfl, ?_⟩
 conv => whnf
 cases h8 : grads.any fun x => bNot (decide (-2199023255552 ≤ x ∧ x ≤ 2199023255552))
 ·rw [List.any_eq_false] at h8
  rw [z4V ⟨h1, h2, by omega, fun s hs => by have := h8 s hs; simpa [bNot] using this⟩]
  rfl
 ·rw [List.any_eq_true] at h8
  obtain ⟨s, hs1, hs2⟩ := h8
  rw [z25 (fun q => by have := q.2.2.2 s hs1; simp [bNot] at hs2; omega)]
  rfl
theorem z3R (g : Grd) (grads : List Int) (c : Cfg) (hg : smG g) (hr : grads.length ≤ 1048576) (hc : c.signs.length ≤ 1048576) : z6 PR zDW [aG g, aIs grads, aCf c] (ab (zCA g grads c)) [] 0 := by
 refine z6.intro hT (pf Tryz.func111) rfl (by kernel_rfl) Tryz.ntmps111 rfl ?_
 conv => whnf
 refine .inl ⟨_, _, _, z12 g hg, rfl, ?_⟩
 cases h1 : z1q g
 ·conv => whnf
  rw [z25 (fun q => by rw [z2I q.1] at h1; cases h1)]
 rw [z4b] at h1
 conv => whnf
 refine .inl ⟨_, _, _, ya c hc, rfl, ?_⟩
 cases h2 : z0v c
 ·conv => whnf
  rw [z25 (fun q => by rw [z3P q.2.1] at h2; cases h2)]
 rw [z0u] at h2
 conv => whnf
 refine .inl ⟨_, _, _, wx g, rfl, ?_⟩
 rw [show nInt (dLen (eL cI grads)) = (grads.length : Int) by simp]
 conv => whnf
 cases h3 : iEq (grads.length : Int) (yS g : Int)
 ·conv => whnf
  simp at h3
  rw [z25 (fun q => by have := q.2.2.1; omega)]
 simp at h3
 conv => whnf
 refine zB hT [1, 7] (α := Nat) (fun x => { t := [(1, aIs grads), (7, ai x)], h := [], n := 0, N := 35 })
  (fun x => x ≤ grads.length ∧ ∀ (j : Nat) (y : Int), j < x → grads[j]? = some y → -2199023255552 ≤ y ∧ y ≤ 2199023255552) (fun x => grads.length - x) 0 (by first | ((conv => whnf); done) | ((conv => whnf); rfl)) ⟨Nat.zero_le _, fun k _ h => by omega⟩ ?_
 intro i ⟨hi, hq⟩
 conv => whnf
 rw [show nInt (dLen (eL cI grads)) = (grads.length : Int) by simp]
 refine zK (fun h6 => ?_) (fun h6 => ?_) <;> (conv => whnf) <;> simp only [eH] at h6
 ·obtain ⟨y, hy⟩ := zH (show i < grads.length by omega)
  refine zE rfl hy ?_
  conv => whnf
  refine .inl ⟨_, _, _, zM _ _ _, rfl, ?_⟩
  conv => whnf
  cases h7 : decide (-2199023255552 ≤ y ∧ y ≤ 2199023255552)
  ·rw [decide_eq_false_iff_not] at h7
   conv => whnf
   rw [z25 (fun q => h7 (q.2.2.2 y (List.mem_of_getElem? hy)))]
  ·rw [decide_eq_true_iff] at h7
   conv => whnf
   refine ⟨i + 1, by omega, ⟨by omega, fun j z hj hz => ?_⟩, ?_⟩
   ·rcases Nat.lt_or_ge j i with q | q
    ·exact hq j z q hz
    ·obtain rfl : j = i := by omega
     rw [hy] at hz; cases hz; exact h7
   have e1 : wAdd .i64 (i : Int) 1 = ((i + 1 : Nat) : Int) := by rw [y1] <;> omega
   ((conv => whnf); simp only [eS, e1])
 ·obtain rfl : i = grads.length := by omega
  rw [z4V ⟨h1, h2, by omega, fun s hs => by
   obtain ⟨j, hj⟩ := List.mem_iff_getElem?.1 hs
   exact hq j s (List.getElem?_eq_some_iff.1 hj).1 hj⟩]
end Go.H.S
namespace Go.H.S
open Go Go.Proofs Go.H
theorem zFk (x : Int) : IntKind.wrap .u64 x = x % 18446744073709551616 := by simp [IntKind.wrap, IntKind.bits, IntKind.signed]
theorem wAddU {x y : Int} (h1 : 0 ≤ x + y) (h2 : x + y < 18446744073709551616) : wAdd .u64 x y = x + y := by unfold wAdd; rw [zFk]; omega
theorem z5x (x y : Int) : wAdd .u64 x y = (x + y) % 18446744073709551616 := by unfold wAdd; rw [zFk]
theorem zEX (x y : Int) : wMul .u64 x y = (x * y) % 18446744073709551616 := by unfold wMul; rw [zFk]
theorem zHw (x : Int) : wNeg .u64 x = (0 - x) % 18446744073709551616 := by unfold wNeg; rw [zFk]
theorem z4T (x : Int) : z8U .u64 x = x % 18446744073709551616 := by unfold z8U; rw [zFk]
theorem z5N (x : Nat) (h : x < 18446744073709551616) : wAnd .u64 (x : Int) 4294967295 = ((x % 4294967296 : Nat) : Int) := by
 have h127 : (BitVec.ofInt 64 4294967295).toNat = 2 ^ 32 - 1 := by decide
 have key : (BitVec.ofInt 64 (x : Int) &&& BitVec.ofInt 64 4294967295).toNat = x % 4294967296 := by
  rw [BitVec.toNat_and, BitVec.toNat_ofInt, h127, Nat.and_two_pow_sub_one_eq_mod]
  omega
 unfold wAnd z2z
 show IntKind.u64.wrap ((BitVec.ofInt 64 (x : Int) &&& BitVec.ofInt 64 4294967295).toNat : Nat) = _
 rw [key, zFk]
 omega
theorem z2N (x : Nat) : wShr .u64 (x : Int) 32 = ((x / 4294967296 : Nat) : Int) := by
 unfold wShr
 show (x : Int).fdiv (2 ^ 32) = _
 rw [Int.fdiv_eq_ediv_of_nonneg _ (by decide)]; rfl
theorem zLC (x : Nat) : wShl .u64 (x : Int) 32 = ((x * 4294967296 % 18446744073709551616 : Nat) : Int) := by
 unfold wShl
 show IntKind.u64.wrap ((x : Int) * 2 ^ 32) = _
 rw [zFk]
 omega
theorem zEY (x y : Nat) (h : x * y < 18446744073709551616) : wMul .u64 (x : Int) (y : Int) = ((x * y : Nat) : Int) := by
 rw [zEX, show (x : Int) * (y : Int) = ((x * y : Nat) : Int) by simp]; omega
theorem zHx (x y : Nat) : wMul .u64 (x : Int) (y : Int) = ((x * y % 18446744073709551616 : Nat) : Int) := by
 rw [zEX, show (x : Int) * (y : Int) = ((x * y : Nat) : Int) by simp]; omega
theorem wu (x y : Nat) (h : x + y < 18446744073709551616) : wAdd .u64 (x : Int) (y : Int) = ((x + y : Nat) : Int) := by
 rw [wAddU] <;> omega
theorem zKJ (x y : Nat) (hx : x < 18446744073709551616) (hy : y < 18446744073709551616) :
  (((x / 4294967296) * (y % 4294967296) + (x % 4294967296) * (y % 4294967296) / 4294967296) % 4294967296 + (x % 4294967296) * (y / 4294967296)) % 4294967296 * 4294967296 +
   (x % 4294967296) * (y % 4294967296) % 4294967296 = x * y % 18446744073709551616 := by
 have e : x * y = (x / 4294967296) * (y / 4294967296) * (4294967296 * 4294967296) + ((x / 4294967296) * (y % 4294967296) + (x % 4294967296) * (y / 4294967296)) * 4294967296 + (x % 4294967296) * (y % 4294967296) := by
  rw [← Go.Lib.split_mul, Nat.div_add_mod' x 4294967296, Nat.div_add_mod' y 4294967296]
 rw [e]
 generalize (x / 4294967296) * (y / 4294967296) = a at *
 generalize (x / 4294967296) * (y % 4294967296) = b at *
 generalize (x % 4294967296) * (y / 4294967296) = c at *
 generalize (x % 4294967296) * (y % 4294967296) = d at *
 omega
def hiU (n : Int) : Int := ((n.natAbs / 18446744073709551616 : Nat) : Int)
def loU (n : Int) : Int := ((n.natAbs % 18446744073709551616 : Nat) : Int)
theorem hl (n : Int) : (n.natAbs : Int) = hiU n * 18446744073709551616 + loU n ∧ 0 ≤ loU n ∧ loU n < 18446744073709551616 ∧ 0 ≤ hiU n := by unfold hiU loU; omega
abbrev cW (n : Int) : List CV := [.d (.bool (decide (n < 0))), .d (.int .u64 (hiU n)), .d (.int .u64 (loU n))]
abbrev aW (n : Int) : AV := .agg (cW n)
def sgnI (n : Int) : Int := if n < 0 then -1 else if n = 0 then 0 else 1
abbrev zLE (a b : Nat) : AV := .tup [(false, [.d (.int .u64 (a : Int))]), (false, [.d (.int .u64 (b : Int))])]
end Go.H.S
namespace Go.H.S
open Go Go.Proofs Go.H
def cSl (s : Int × Int) : List D := [.int .i64 s.1, .int .i64 s.2]
def cHs (h : List (Int × Int)) : List D := [.sl 2 (eL cSl h)]
structure Cd where
 f : Int
 b : Int
 l : Int × Int
 r : Int × Int
 deriving DecidableEq
def cCd (c : Cd) : List D := [.int .i64 c.f, .int .i64 c.b, .int .i64 c.l.1, .int .i64 c.l.2, .int .i64 c.r.1, .int .i64 c.r.2]
abbrev cCV (c : Cd) : List CV := [.d (.int .i64 c.f), .d (.int .i64 c.b), .d (.int .i64 c.l.1), .d (.int .i64 c.l.2), .d (.int .i64 c.r.1), .d (.int .i64 c.r.2)]
abbrev aCd (c : Cd) : AV := .agg (cCV c)
def noCd : Cd := ⟨0, 0, (0, 0), (0, 0)⟩
def addS (a b : Int × Int) : Int × Int := (a.1 + b.1, a.2 + b.2)
def subS (a b : Int × Int) : Int × Int := (a.1 - b.1, a.2 - b.2)
def slB (s : Int × Int) : Prop := (-1152921504606846976 ≤ s.1 ∧ s.1 ≤ 1152921504606846976) ∧ (-1152921504606846976 ≤ s.2 ∧ s.2 ≤ 1152921504606846976)
def wV (grads rows : List Int) : Int × Int := ((rows.length : Int), sumR grads rows)
def ws (bins : List Int) (r : Int) : Int := (bins[r.toNat]?).getD 0
def z07 (bins grads rows : List Int) (n : Nat) : List (Int × Int) := (List.range n).map fun (b : Nat) => wV grads (rows.filter fun r => decide (ws bins r = (b : Int)))
theorem ww (bins grads rows : List Int) (n : Nat) : (z07 bins grads rows n).length = n := by simp [z07]
theorem zFB (bins grads : List Int) (n : Nat) : z07 bins grads [] n = List.replicate n (0, 0) := by
 apply List.ext_getElem?
 intro i
 rw [z07, List.getElem?_map, List.getElem?_replicate]
 by_cases h : i < n
 ·rw [List.getElem?_range h, if_pos h]; rfl
 ·rw [List.getElem?_eq_none (by simp; omega), if_neg h]; rfl
theorem zHR (grads rs : List Int) (r : Int) : wV grads (rs ++ [r]) = addS (wV grads rs) (1, gAt grads r) := by
 simp only [wV, addS, z9h, List.length_append, List.length_cons, List.length_nil]
 rw [show ((rs.length + (0 + 1) : Nat) : Int) = (rs.length : Int) + 1 by omega]
theorem z9b (bins grads rows : List Int) {n b : Nat} (h : b < n) : (z07 bins grads rows n)[b]? = some (wV grads (rows.filter fun r => decide (ws bins r = (b : Int)))) := by
 rw [z07, List.getElem?_map, List.getElem?_range h]; rfl
theorem zCS {bins grads rows : List Int} {n k b : Nat} {x : Int} (hx : rows[k]? = some x) (hb : ws bins x = (b : Int)) (h : b < n) :
  z07 bins grads (rows.take (k + 1)) n = (z07 bins grads (rows.take k) n).set b (addS (wV grads ((rows.take k).filter fun r => decide (ws bins r = (b : Int)))) (1, gAt grads x)) := by
 apply List.ext_getElem?
 intro i
 by_cases hi : i < n
 ·rw [z9b bins grads _ hi, List.getElem?_set]
  have ht : (rows.take (k + 1)).filter (fun r => decide (ws bins r = (i : Int))) = (rows.take k).filter (fun r => decide (ws bins r = (i : Int))) ++ (if decide (ws bins x = (i : Int)) then [x] else []) := by
   rw [List.take_add_one, hx, List.filter_append]
   simp only [Option.toList_some, List.filter_cons, List.filter_nil]
  rw [ht]
  by_cases hbi : b = i
  ·subst hbi
   rw [if_pos (decide_eq_true hb), if_pos rfl, if_pos (by rw [ww]; exact h), zHR]
  ·rw [if_neg hbi, z9b bins grads _ hi, decide_eq_false (by omega)]
   simp
 ·rw [List.getElem?_eq_none (by rw [ww]; omega), List.getElem?_eq_none (by rw [List.length_set, ww]; omega)]
theorem zGg {grads : List Int} (hg : z6o grads) (rs : List Int) : 0 ≤ (wV grads rs).1 ∧ -2199023255552 * (wV grads rs).1 ≤ (wV grads rs).2 ∧ (wV grads rs).2 ≤ 2199023255552 * (wV grads rs).1 := by
 have := z3r hg rs
 simp only [wV]
 omega
def wq : Int × Int → List (Int × Int) → List (Int × Int)
 | _, [] => []
 | a, s :: r => addS a s :: wq (addS a s) r
theorem z2k : ∀ (l : List (Int × Int)) (a : Int × Int), (wq a l).length = l.length
 | [], a => rfl
 | s :: r, a => by simp [wq, z2k r]
def z1M (f : Nat) (least : Int) (sums : List (Int × Int)) (n : Nat) : List Cd := (List.range n).filterMap fun (b : Nat) =>
 let l := (sums[b]?).getD (0, 0)
 let r := subS ((sums[sums.length - 1]?).getD (0, 0)) l
 if least ≤ l.1 ∧ least ≤ r.1 then some ⟨(f : Int), (b : Int), l, r⟩ else none
def z0c (hists : List (List (Int × Int))) (least : Int) (n : Nat) : List Cd := (List.range n).flatMap fun (f : Nat) => let sums := wq (0, 0) ((hists[f]?).getD []); z1M f least sums (sums.length - 1)
theorem zB0 (f : Nat) (least : Int) (sums : List (Int × Int)) (b : Nat) {l z : Int × Int} (hl : sums[b]? = some l) (hz : sums[sums.length - 1]? = some z) :
  z1M f least sums (b + 1) = z1M f least sums b ++ (if least ≤ l.1 ∧ least ≤ (subS z l).1 then [⟨(f : Int), (b : Int), l, subS z l⟩] else []) := by
 unfold z1M
 rw [List.range_succ, List.filterMap_append]
 simp only [List.filterMap_cons, List.filterMap_nil, hl, hz, Option.getD_some]
 by_cases q : least ≤ l.1 ∧ least ≤ (subS z l).1
 ·rw [if_pos q, if_pos q]
 ·rw [if_neg q, if_neg q]
theorem z5t (hists : List (List (Int × Int))) (least : Int) (f : Nat) {h : List (Int × Int)} (hh : hists[f]? = some h) :
  z0c hists least (f + 1) = z0c hists least f ++ z1M f least (wq (0, 0) h) ((wq (0, 0) h).length - 1) := by
 unfold z0c
 rw [List.range_succ, List.flatMap_append]
 simp [hh]
def zAL (s : Int × Int) (lam : Int) : Int × Int := (s.2 * s.2, s.1 + lam)
def z6q (c : Cd) (lam : Int) : Int × Int := (c.l.2 * c.l.2 * (c.r.1 + lam) + c.r.2 * c.r.2 * (c.l.1 + lam), (c.l.1 + lam) * (c.r.1 + lam))
def cmpF (a b : Int × Int) : Int := sgnI (a.1 * b.2 - b.1 * a.2)
def impr (c : Cd) (lam : Int) : Bool := decide (0 < cmpF (z6q c lam) (zAL (addS c.l c.r) lam))
def zAy (a b : Cd) : Bool := decide (a.f < b.f ∨ a.f = b.f ∧ a.b < b.b)
def z3j (a b : Cd) (lam : Int) : Bool := decide (0 < cmpF (z6q a lam) (z6q b lam)) || (decide (cmpF (z6q a lam) (z6q b lam) = 0) && zAy a b)
def zBA (sign x y : Int) : Bool := decide ((sign = 1 → x ≤ y) ∧ (sign = -1 → y ≤ x))
def z1P (cfg : Cfg) (b : Int × Int) (c : Cd) : Int := z3k c.l.1 c.l.2 cfg.lambda b
def z1O (cfg : Cfg) (b : Int × Int) (c : Cd) : Int := z3k c.r.1 c.r.2 cfg.lambda b
def ym (cfg : Cfg) (b : Int × Int) (c : Cd) : Bool := decide (cfg.rows ≤ c.l.1) && (decide (cfg.rows ≤ c.r.1) && (zBA (yj cfg c.f) (z1P cfg b c) (z1O cfg b c) && impr c cfg.lambda))
def zB5 (cfg : Cfg) (b : Int × Int) (list : List Cd) : Option Cd := (list.filter (ym cfg b)).find? fun c => (list.filter (ym cfg b)).all fun o => !z3j o c cfg.lambda
theorem zGR (c : Cd) (lam : Int) : z3j c c lam = false := by
 unfold z3j cmpF
 rw [Int.sub_self]
 simp [sgnI, zAy]
def slP (s : Int × Int) : Prop := (0 ≤ s.1 ∧ s.1 ≤ 40) ∧ (-140737488355328 ≤ s.2 ∧ s.2 ≤ 140737488355328)
def cdP (c : Cd) : Prop := slP c.l ∧ slP c.r ∧ slP (addS c.l c.r) ∧ (0 ≤ c.f ∧ c.f ≤ 1000) ∧ (0 ≤ c.b ∧ c.b ≤ 1000)
theorem zK6 {x A : Int} (h : -A ≤ x ∧ x ≤ A) : 0 ≤ x * x ∧ x * x ≤ A * A := by
 have h1 : 0 ≤ x * x := by
  rcases Int.le_total 0 x with q | q
  ·exact Int.mul_nonneg q q
  ·exact Int.mul_nonneg_of_nonpos_of_nonpos q q
 refine ⟨h1, ?_⟩
 rcases Int.le_total 0 x with q | q
 ·exact Int.mul_le_mul h.2 h.2 q (by omega)
 ·rw [show x * x = (-x) * (-x) by rw [Int.neg_mul_neg]]
  exact Int.mul_le_mul (by omega) (by omega) (by omega) (by omega)
theorem zF7 {x y A B : Int} (hx : 0 ≤ x ∧ x ≤ A) (hy : 0 ≤ y ∧ y ≤ B) : 0 ≤ x * y ∧ x * y ≤ A * B :=
 ⟨Int.mul_nonneg hx.1 hy.1, Int.mul_le_mul hx.2 hy.2 hy.1 (by omega)⟩
def frP (f : Int × Int) : Prop := (0 ≤ f.1 ∧ f.1 ≤ 20282409603651670423947251286016) ∧ (1 ≤ f.2 ∧ f.2 ≤ 19600)
theorem zDH {s : Int × Int} {lam : Int} (hs : slP s) (hl : 1 ≤ lam ∧ lam ≤ 100) : (0 ≤ s.2 * s.2 ∧ s.2 * s.2 ≤ 19807040628566084398385987584) ∧ (1 ≤ s.1 + lam ∧ s.1 + lam ≤ 140) := by
 have := zK6 (x := s.2) (A := 140737488355328) hs.2
 have := hs.1
 omega
theorem z9c {s : Int × Int} {lam : Int} (hs : slP s) (hl : 1 ≤ lam ∧ lam ≤ 100) : frP (zAL s lam) := by
 have := zDH hs hl
 unfold frP zAL
 dsimp only
 omega
theorem zH5 {c : Cd} {lam : Int} (hs : slP c.l) (ht : slP c.r) (hl : 1 ≤ lam ∧ lam ≤ 100) : (0 ≤ c.l.2 * c.l.2 * (c.r.1 + lam) ∧ c.l.2 * c.l.2 * (c.r.1 + lam) ≤ 2772985687999251815774038261760) ∧ (0 ≤ c.r.2 * c.r.2 * (c.l.1 + lam) ∧ c.r.2 * c.r.2 * (c.l.1 + lam) ≤ 2772985687999251815774038261760) ∧ (1 ≤ (c.l.1 + lam) * (c.r.1 + lam) ∧ (c.l.1 + lam) * (c.r.1 + lam) ≤ 19600) := by
 have h1 := zDH hs hl
 have h2 := zDH ht hl
 have h3 := zF7 (x := c.l.2 * c.l.2) (y := c.r.1 + lam) h1.1 ⟨by omega, h2.2.2⟩
 have h4 := zF7 (x := c.r.2 * c.r.2) (y := c.l.1 + lam) h2.1 ⟨by omega, h1.2.2⟩
 have h5 := zF7 (x := c.l.1 + lam) (y := c.r.1 + lam) ⟨by omega, h1.2.2⟩ ⟨by omega, h2.2.2⟩
 have h6 : 0 < (c.l.1 + lam) * (c.r.1 + lam) := Int.mul_pos (by omega) (by omega)
 omega
theorem z4c {c : Cd} {lam : Int} (hs : slP c.l) (ht : slP c.r) (hl : 1 ≤ lam ∧ lam ≤ 100) : frP (z6q c lam) := by
 have := zH5 hs ht hl
 unfold frP z6q
 dsimp only
 omega
end Go.H.S
namespace Go.H.S
open Go Go.Proofs Go.H
attribute [local irreducible] Tri z6 zV zU zj zX
theorem zH1 (x y : Nat) (hx : x < 18446744073709551616) (hy : y < 18446744073709551616) : (x % 4294967296) * (y % 4294967296) < 18446744073709551616 ∧ (x / 4294967296) * (y % 4294967296) < 18446744073709551616 ∧ (x % 4294967296) * (y / 4294967296) < 18446744073709551616 ∧
  (x / 4294967296) * (y / 4294967296) < 18446744073709551616 ∧ x * y / 18446744073709551616 < 18446744073709551616 := by
 have ha := Go.Lib.half_mul_le (a := x / 4294967296) (b := y / 4294967296) (by omega) (by omega)
 have hb := Go.Lib.half_mul_le (a := x / 4294967296) (b := y % 4294967296) (by omega) (by omega)
 have hc := Go.Lib.half_mul_le (a := x % 4294967296) (b := y / 4294967296) (by omega) (by omega)
 have hd := Go.Lib.half_mul_le (a := x % 4294967296) (b := y % 4294967296) (by omega) (by omega)
 have he : x * y ≤ 18446744073709551615 * 18446744073709551615 := Nat.mul_le_mul (by omega) (by omega)
 omega
theorem z1v (x y : Nat) (hx : x < 18446744073709551616) (hy : y < 18446744073709551616) : z6 PR z7z [.c (.d (.int .u64 x)), .c (.d (.int .u64 y))] (zLE (x * y / 18446744073709551616) (x * y % 18446744073709551616)) [] 0 := by
 have ⟨h1, h2, h3, h4⟩ := Go.Lib.mul64_hi x y hx hy
 have ⟨g1, g2, g3, g4, g5⟩ := zH1 x y hx hy
 refine z6.intro hT (pf Tryz.func265) rfl (by kernel_rfl) Tryz.ntmps265 rfl ?_
 conv => whnf
 repeat (refine And.intro (by unfold NN; omega) ?_; (conv => whnf))
 rw [z2N x, z2N y, z5N x hx, z5N y hy, zEY _ _ g1, z2N, zEY _ _ g2, wu _ _ h2, z2N, z5N _ h2, zEY _ _ g3, wu _ _ h3, z2N, zEY _ _ g4, wu _ _ (by omega), wu _ _ (by omega), zHx, h4]
theorem z2Q (n : Int) (h : i64 n) : z6 PR zG7 [ai n] (.c (.d (.int .u64 (n.natAbs : Int)))) [] 0 := by
 have h' : -9223372036854775808 ≤ n ∧ n ≤ 9223372036854775807 := h
 refine z6.intro hT (pf Tryz.func264) rfl (by kernel_rfl) Tryz.ntmps264 rfl ?_
 conv => whnf
 refine zK (fun g => ?_) (fun g => ?_) <;> (conv => whnf) <;> simp only [eH] at g
 ·rw [zHw, z4T, show (0 - n % 18446744073709551616) % 18446744073709551616 = (n.natAbs : Int) by omega]
 ·rw [z4T, show n % 18446744073709551616 = (n.natAbs : Int) by omega]
theorem z1c (n : Int) (h : i64 n) : z6 PR zFH [ai n] (.c (.d (.int .u64 (n.natAbs : Int)))) [] 0 := by
 have h' : -9223372036854775808 ≤ n ∧ n ≤ 9223372036854775807 := h
 refine z6.intro hT (pf Tryz.func300) rfl (by kernel_rfl) Tryz.ntmps300 rfl ?_
 conv => whnf
 refine zK (fun g => ?_) (fun g => ?_) <;> (conv => whnf) <;> simp only [eH] at g
 ·have e1 : wNeg .i64 (wAdd .i64 n 1) = -(n + 1) := by rw [y1 (by omega) (by omega)]; unfold wNeg; rw [z8F (by omega) (by omega)]; omega
  rw [e1, z5x, z4T, show (-(n + 1) % 18446744073709551616 + 1) % 18446744073709551616 = (n.natAbs : Int) by omega]
 ·rw [z4T, show n % 18446744073709551616 = (n.natAbs : Int) by omega]
theorem z03 (x y : Nat) (hx : x < 18446744073709551616) (hy : y < 18446744073709551616) : z6 PR z9D [.c (.d (.int .u64 x)), .c (.d (.int .u64 y))] (zLE (x * y / 18446744073709551616) (x * y % 18446744073709551616)) [] 0 := by
 have ⟨h1, h2, h3, h4⟩ := Go.Lib.mul64_hi x y hx hy
 have ⟨g1, g2, g3, g4, g5⟩ := zH1 x y hx hy
 have h5 := zKJ x y hx hy
 refine z6.intro hT (pf Tryz.func299) rfl (by kernel_rfl) Tryz.ntmps299 rfl ?_
 conv => whnf
 repeat (refine And.intro (by unfold NN; omega) ?_; (conv => whnf))
 rw [z2N x, z2N y, z5N x hx, z5N y hy, zEY _ _ g1, z2N, zEY _ _ g2, wu _ _ h2, z2N, z5N _ h2, zEY _ _ g3, wu _ _ (by omega), z2N, zEY _ _ g4, wu _ _ (by omega), wu _ _ (by omega), zLC, z5N _ g1, wu _ _ (by omega)]
 rw [show x % 4294967296 * (y / 4294967296) + (x / 4294967296 * (y % 4294967296) + x % 4294967296 * (y % 4294967296) / 4294967296) % 4294967296 = (x / 4294967296 * (y % 4294967296) + x % 4294967296 * (y % 4294967296) / 4294967296) % 4294967296 + x % 4294967296 * (y / 4294967296) from Nat.add_comm _ _, h4]
 rw [show ∀ m : Nat, m * 4294967296 % 18446744073709551616 = m % 4294967296 * 4294967296 from fun m => by omega, h5]
theorem z8t (n : Int) (b : Bool) (a c : Int) (hb : n ≠ 0 → b = decide (n < 0)) (ha : a = hiU n) (hc : c = loU n) : z6 PR z1R [ab b, .c (.d (.int .u64 a)), .c (.d (.int .u64 c))] (aW n) [] 0 := by
 have h := hl n
 subst ha; subst hc
 have h0 : n = 0 → decide (n < 0) = false := fun q => by subst q; rfl
 show z6 PR z1R [ab b, .c (.d (.int .u64 (hiU n))), .c (.d (.int .u64 (loU n)))] (.agg [.d (.bool (decide (n < 0))), .d (.int .u64 (hiU n)), .d (.int .u64 (loU n))]) [] 0
 generalize decide (n < 0) = d at *
 refine z6.intro hT (pf Tryz.func262) rfl (by kernel_rfl) Tryz.ntmps262 rfl ?_
 conv => whnf
 cases b <;> (conv => whnf)
 ·have : d = false := by
   rcases Int.lt_trichotomy n 0 with q | q | q
   ·exact (hb (by omega)).symm
   ·exact h0 q
   ·exact (hb (by omega)).symm
  rw [this]
 ·cases h1 : iLt 0 (hiU n)
  ·conv => whnf
   simp only [eH] at h1
   cases h2 : iLt 0 (loU n)
   ·simp only [eH] at h2
    conv => whnf
    rw [h0 (by omega)]
   ·simp only [eH] at h2
    conv => whnf
    rw [← hb (by omega)]
  ·simp only [eH] at h1
   conv => whnf
   rw [← hb (by omega)]
theorem z6O {a b : Int} (ha : i64 a) (hb : i64 b) : a.natAbs < 18446744073709551616 ∧ b.natAbs < 18446744073709551616 := by
 have ha : -9223372036854775808 ≤ a ∧ a ≤ 9223372036854775807 := ha
 have hb : -9223372036854775808 ≤ b ∧ b ≤ 9223372036854775807 := hb
 omega
theorem zL0 (a b : Int) : hiU (a * b) = ((a.natAbs * b.natAbs / 18446744073709551616 : Nat) : Int) ∧ loU (a * b) = ((a.natAbs * b.natAbs % 18446744073709551616 : Nat) : Int) := by
 unfold hiU loU
 rw [Int.natAbs_mul]; exact ⟨rfl, rfl⟩
theorem args3 {w : World} {F : Nat → Prop} {vals : List Value} {x y z : Int} {k : IntKind} (h : z8E w F [.c (.d (.int k x)), .c (.d (.int k y)), .c (.d (.int k z))] vals) : vals = [.int k x, .int k y, .int k z] := by
 obtain ⟨hl, hv⟩ := h
 match vals, hl with
 | [a, b, c], _ =>
  have h0 := hv 0 _ a rfl rfl
  have h1 := hv 1 _ b rfl rfl
  have h2 := hv 2 _ c rfl rfl
  cases h0; cases h1; cases h2; rfl
theorem z1w (x y c : Nat) (hc : c ≤ 1) : zU PR z80 [.c (.d (.int .u64 x)), .c (.d (.int .u64 y)), .c (.d (.int .u64 c))] Unit (fun _ => True) (fun _ => zLE ((x + y + c) % 18446744073709551616) ((x + y + c) / 18446744073709551616)) (fun _ => []) (fun _ => 0) := by
 refine zU.ext fun F w vals h => ?_
 rw [args3 h]
 refine ⟨(), .tuple #[.int .u64 (((x + y + c) % 18446744073709551616 : Nat) : Int), .int .u64 (((x + y + c) / 18446744073709551616 : Nat) : Int)], trivial, ?_, rfl, rfl, rfl, ?_⟩
 ·refine (run_callFunc_extern (pf Tryz.func263) (by kernel_rfl) (by kernel_rfl) (by kernel_rfl) (e := add64Entry) (by kernel_rfl) _ w).trans ?_
  have e := run_add64 (P := PR) (x : Int) (y : Int) (c : Int) (by omega) (by omega) (by omega) (by omega) w
  rw [e]
  simp only [Result.andThen]
  congr 5 <;> omega
 ·refine ⟨[.int .u64 _, .int .u64 _], rfl, rfl, fun j p u hj hu => ?_⟩
  match j, hj, hu with
  | 0, hj, hu => cases hj; cases hu; exact ⟨rfl, fun j c u hj hu => by match j, hj, hu with | 0, hj, hu => (cases hj; cases hu; exact .int _ _)⟩
  | 1, hj, hu => cases hj; cases hu; exact ⟨rfl, fun j c u hj hu => by match j, hj, hu with | 0, hj, hu => (cases hj; cases hu; exact .int _ _)⟩
abbrev cV (n : Int) : List CV := [.d (.bool false), .d (.int .u64 (hiU n)), .d (.int .u64 (loU n))]
abbrev aV (n : Int) : AV := .agg (cV n)
theorem aW_pos {n : Int} (h : 0 ≤ n) : aW n = aV n := by
 show AV.agg [.d (.bool (decide (n < 0))), .d (.int .u64 (hiU n)), .d (.int .u64 (loU n))] = _
 rw [decide_eq_false (by omega)]
abbrev zK1 (n : Int) (b : Bool) : AV := .tup [(true, cV n), (false, [.d (.bool b)])]
theorem hlp {n : Int} (h : 0 ≤ n) : n = hiU n * 18446744073709551616 + loU n ∧ 0 ≤ loU n ∧ loU n < 18446744073709551616 ∧ 0 ≤ hiU n := by
 have := hl n; omega
theorem zA7 (n : Int) (h : 0 ≤ n) (a c : Int) (ha : a = hiU n) (hc : c = loU n) : z6 PR z1R [ab false, .c (.d (.int .u64 a)), .c (.d (.int .u64 c))] (aV n) [] 0 := by
 have := z8t n false a c (fun _ => (decide_eq_false (by omega)).symm) ha hc
 rwa [aW_pos h] at this
theorem zAD (a : Int) (ha : i64 a) : z6 PR zBs [ai a, ai a] (aV (a * a)) [] 0 := by
 have hn := (z6O ha ha).1
 have hh := zL0 a a
 have hp : 0 ≤ a * a := (zK6 (A := 9223372036854775808) (by have : -9223372036854775808 ≤ a ∧ a ≤ 9223372036854775807 := ha; omega)).1
 refine z6.intro hT (pf Tryz.func257) rfl (by kernel_rfl) Tryz.ntmps257 rfl ?_
 conv => whnf
 refine .inl ⟨_, _, _, z2Q a ha, rfl, ?_⟩
 conv => whnf
 refine .inl ⟨_, _, _, z2Q a ha, rfl, ?_⟩
 conv => whnf
 refine .inl ⟨_, _, _, z1v _ _ hn hn, rfl, ?_⟩
 conv => whnf
 rw [show bNot (bEq (iLt a 0) (iLt a 0)) = false by cases iLt a 0 <;> rfl]
 conv => whnf
 refine .inl ⟨_, _, _, zA7 (a * a) hp _ _ hh.1.symm hh.2.symm, rfl, ?_⟩
 conv => whnf
theorem z9n (a : Int) (ha : i64 a) : z6 PR zBb [ai a, ai a] (aV (a * a)) [] 0 := by
 have hn := (z6O ha ha).1
 have hh := zL0 a a
 refine z6.intro hT (pf Tryz.func250) rfl (by kernel_rfl) Tryz.ntmps250 rfl ?_
 conv => whnf
 refine .inl ⟨_, _, _, z1c a ha, rfl, ?_⟩
 conv => whnf
 refine .inl ⟨_, _, _, z1c a ha, rfl, ?_⟩
 conv => whnf
 refine .inl ⟨_, _, _, z03 _ _ hn hn, rfl, ?_⟩
 conv => whnf
 rw [show bNot (bEq (iLt a 0) (iLt a 0)) = false by cases iLt a 0 <;> rfl]
 conv => whnf
 rw [← hh.1, ← hh.2]
theorem hi_lt {n : Int} (h : 0 ≤ n) (h2 : n < 170141183460469231731687303715884105728) : hiU n < 9223372036854775808 := by
 have := hlp h
 omega
abbrev rawW (hi lo : Int) : AV := .agg [.d (.bool false), .d (.int .u64 hi), .d (.int .u64 lo)]
theorem zIw {n : Int} (h : 0 ≤ n) (h2 : n < 170141183460469231731687303715884105728) : ∃ hi lo : Nat, hiU n = hi ∧ loU n = lo ∧ n = (hi : Int) * 18446744073709551616 + lo ∧ lo < 18446744073709551616 ∧ hi < 9223372036854775808 := by
 have h3 := hlp h
 have h4 := hi_lt h h2
 exact ⟨(hiU n).toNat, (loU n).toNat, by omega, by omega, by omega, by omega, by omega⟩
theorem zLf {n : Int} {hi lo : Nat} (h : n = (hi : Int) * 18446744073709551616 + lo) (hl : lo < 18446744073709551616) : hiU n = hi ∧ loU n = lo := by unfold hiU loU; omega
theorem w9 (hi lo : Int) (h : hi < 9223372036854775808) : z6 PR zDv [rawW hi lo] (ab true) [] 0 := by
 refine z6.intro hT (pf Tryz.func259) rfl (by kernel_rfl) Tryz.ntmps259 rfl ?_
 conv => whnf
 rw [show iLt hi 9223372036854775808 = true from decide_eq_true (by omega)]
 conv => whnf
theorem yX (hi lo : Int) (h : hi < 9223372036854775808) : z6 PR zDU [rawW hi lo] (ab true) [] 0 := by
 refine z6.intro hT (pf Tryz.func180) rfl (by kernel_rfl) Tryz.ntmps180 rfl ?_
 conv => whnf
 rw [show iLt hi 9223372036854775808 = true from decide_eq_true (by omega)]
 conv => whnf
theorem z1k (hi lo : Int) : z6 PR z1R [ab false, .c (.d (.int .u64 hi)), .c (.d (.int .u64 lo))] (rawW hi lo) [] 0 := by
 refine z6.intro hT (pf Tryz.func262) rfl (by kernel_rfl) Tryz.ntmps262 rfl ?_
 conv => whnf
theorem z99 (ah al bh bl : Nat) (h1 : ah < 9223372036854775808) (h2 : al < 18446744073709551616) (h3 : bh < 9223372036854775808) (h4 : bl < 18446744073709551616) (h5 : (ah + bh + (al + bl) / 18446744073709551616) < 9223372036854775808) :
  z6 PR z5B [rawW ah al, rawW bh bl] (.tup [(true, [.d (.bool false), .d (.int .u64 ((ah + bh + (al + bl) / 18446744073709551616 : Nat) : Int)), .d (.int .u64 (((al + bl) % 18446744073709551616 : Nat) : Int))]), (false, [.d (.bool true)])]) [] 0 := by
 refine z6.intro hT (pf Tryz.func170) rfl (by kernel_rfl) Tryz.ntmps170 rfl ?_
 conv => whnf
 refine .inl ⟨_, _, _, w9 _ _ (by omega), rfl, ?_⟩
 conv => whnf
 refine .inl ⟨_, _, _, w9 _ _ (by omega), rfl, ?_⟩
 conv => whnf
 refine .inr ⟨_, _, _, _, _, z1w al bl 0 (by omega), fun _ _ => ⟨rfl, ?_⟩⟩
 conv => whnf
 rw [Nat.add_zero]
 refine .inr ⟨_, _, _, _, _, z1w ah bh ((al + bl) / 18446744073709551616) (by omega), fun _ _ => ⟨rfl, ?_⟩⟩
 conv => whnf
 rw [Nat.mod_eq_of_lt (show ah + bh + (al + bl) / 18446744073709551616 < 18446744073709551616 by omega)]
 refine .inl ⟨_, _, _, z1k _ _, rfl, ?_⟩
 conv => whnf
 refine .inl ⟨_, _, _, w9 _ _ (by omega), rfl, ?_⟩
 conv => whnf
theorem z9A (a b : Int) (ha : 0 ≤ a) (hb : 0 ≤ b) (h : a + b < 170141183460469231731687303715884105728) : z6 PR z5B [aV a, aV b] (zK1 (a + b) true) [] 0 := by
 obtain ⟨ah, al, a1, a2, a3, a4, a5⟩ := zIw ha (by omega)
 obtain ⟨bh, bl, b1, b2, b3, b4, b5⟩ := zIw hb (by omega)
 have hs : a + b = ((ah + bh + (al + bl) / 18446744073709551616 : Nat) : Int) * 18446744073709551616 + ((al + bl) % 18446744073709551616 : Nat) := by omega
 have hq := zLf hs (by omega)
 have := z99 ah al bh bl a5 a4 b5 b4 (by omega)
 rw [← a1, ← a2, ← b1, ← b2, ← hq.1, ← hq.2] at this
 exact this
theorem z8q (ah al bh bl : Nat) (h1 : ah < 9223372036854775808) (h2 : al < 18446744073709551616) (h3 : bh < 9223372036854775808) (h4 : bl < 18446744073709551616) (h5 : (ah + bh + (al + bl) / 18446744073709551616) < 9223372036854775808) :
  z6 PR z59 [rawW ah al, rawW bh bl] (.tup [(true, [.d (.bool false), .d (.int .u64 ((ah + bh + (al + bl) / 18446744073709551616 : Nat) : Int)), .d (.int .u64 (((al + bl) % 18446744073709551616 : Nat) : Int))]), (false, [.d (.bool true)])]) [] 0 := by
 have e1 : wAdd .u64 (al : Int) (bl : Int) = (((al + bl) % 18446744073709551616 : Nat) : Int) := by rw [z5x]; omega
 have e2 : wAdd .u64 (ah : Int) (bh : Int) = ((ah + bh : Nat) : Int) := by rw [z5x]; omega
 have e3 : wAdd .u64 ((ah + bh : Nat) : Int) 1 = ((ah + bh + 1 : Nat) : Int) := by rw [z5x]; omega
 refine z6.intro hT (pf Tryz.func71) rfl (by kernel_rfl) Tryz.ntmps71 rfl ?_
 conv => whnf
 refine .inl ⟨_, _, _, yX _ _ (by omega), rfl, ?_⟩
 conv => whnf
 refine .inl ⟨_, _, _, yX _ _ (by omega), rfl, ?_⟩
 conv => whnf
 rw [e1, e2]
 refine zK (fun g => ?_) (fun g => ?_) <;> (conv => whnf) <;> simp only [eH] at g
 ·rw [e3]
  rw [show ah + bh + (al + bl) / 18446744073709551616 = ah + bh + 1 by omega]
  refine .inl ⟨_, _, _, yX _ _ (by omega), rfl, ?_⟩
  conv => whnf
 ·rw [show ah + bh + (al + bl) / 18446744073709551616 = ah + bh by omega]
  refine .inl ⟨_, _, _, yX _ _ (by omega), rfl, ?_⟩
  conv => whnf
theorem z8r (a b : Int) (ha : 0 ≤ a) (hb : 0 ≤ b) (h : a + b < 170141183460469231731687303715884105728) : z6 PR z59 [aV a, aV b] (zK1 (a + b) true) [] 0 := by
 obtain ⟨ah, al, a1, a2, a3, a4, a5⟩ := zIw ha (by omega)
 obtain ⟨bh, bl, b1, b2, b3, b4, b5⟩ := zIw hb (by omega)
 have hs : a + b = ((ah + bh + (al + bl) / 18446744073709551616 : Nat) : Int) * 18446744073709551616 + ((al + bl) % 18446744073709551616 : Nat) := by omega
 have hq := zLf hs (by omega)
 have := z8q ah al bh bl a5 a4 b5 b4 (by omega)
 rw [← a1, ← a2, ← b1, ← b2, ← hq.1, ← hq.2] at this
 exact this
end Go.H.S
namespace Go.H.S
open Go Go.Proofs Go.H
attribute [local irreducible] Tri z6 zV zU zj zX
structure Scaled (hi lo k : Nat) : Prop where
 lo_lt : lo < 18446744073709551616
 k_lt : k < 18446744073709551616
 hi_lt : hi < 9223372036854775808
 room : hi * k + lo * k / 18446744073709551616 < 9223372036854775808
abbrev zIL (hi lo k : Nat) : AV := .tup [(true, [.d (.bool false), .d (.int .u64 ((hi * k + lo * k / 18446744073709551616 : Nat) : Int)), .d (.int .u64 ((lo * k % 18446744073709551616 : Nat) : Int))]), (false, [.d (.bool true)])]
theorem zEp {n k : Int} (hn : 0 ≤ n) (hk : 0 ≤ k ∧ k ≤ 9223372036854775807) (h : n * k < 170141183460469231731687303715884105728) (h2 : n < 170141183460469231731687303715884105728) :
  ∃ hi lo k' : Nat, hiU n = hi ∧ loU n = lo ∧ k = k' ∧ Scaled hi lo k' ∧ hiU (n * k) = ((hi * k' + lo * k' / 18446744073709551616 : Nat) : Int) ∧ loU (n * k) = ((lo * k' % 18446744073709551616 : Nat) : Int) := by
 obtain ⟨hi, lo, e1, e2, e3, e4, e5⟩ := zIw hn h2
 obtain ⟨k', rfl⟩ : ∃ k' : Nat, k = k' := ⟨k.toNat, by omega⟩
 have hp : n * (k' : Int) = ((hi * k' : Nat) : Int) * 18446744073709551616 + ((lo * k' : Nat) : Int) := by
  rw [e3, Int.add_mul, Int.natCast_mul, Int.natCast_mul, Int.mul_right_comm]
 have hs : n * (k' : Int) = ((hi * k' + lo * k' / 18446744073709551616 : Nat) : Int) * 18446744073709551616 + ((lo * k' % 18446744073709551616 : Nat) : Int) := by
  rw [hp]; generalize hi * k' = p; generalize lo * k' = q; omega
 have hq := zLf hs (by generalize lo * k' = q; omega)
 refine ⟨hi, lo, k', e1, e2, rfl, ⟨e4, by omega, e5, ?_⟩, hq.1, hq.2⟩
 rw [hs] at h
 generalize hi * k' + lo * k' / 18446744073709551616 = p at *
 generalize lo * k' % 18446744073709551616 = q at *
 omega
theorem z6c (hi lo k : Nat) (hk : k ≤ 9223372036854775807) (h : Scaled hi lo k) : z6 PR z1C [rawW hi lo, ai k] (zIL hi lo k) [] 0 := by
 have r := h.room
 have e1 : hi * k / 18446744073709551616 = 0 := by generalize hi * k = p at *; omega
 have e2 : hi * k % 18446744073709551616 = hi * k := by generalize hi * k = p at *; omega
 have hi1 := h.hi_lt; have lo1 := h.lo_lt; have k1 := h.k_lt
 have hlo : lo * k / 18446744073709551616 < 18446744073709551616 := (zH1 lo k lo1 k1).2.2.2.2
 refine z6.intro hT (pf Tryz.func173) rfl (by kernel_rfl) Tryz.ntmps173 rfl ?_
 conv => whnf
 refine .inl ⟨_, _, _, w9 _ _ (by omega), rfl, ?_⟩
 conv => whnf
 refine .inl ⟨_, _, _, z2Q k (show i64 k from ⟨by omega, by omega⟩), rfl, ?_⟩
 conv => whnf
 rw [Int.natAbs_natCast]
 refine .inl ⟨_, _, _, z1v hi k (by omega) k1, rfl, ?_⟩
 conv => whnf
 refine .inl ⟨_, _, _, z1v lo k lo1 k1, rfl, ?_⟩
 conv => whnf
 refine .inr ⟨_, _, _, _, _, z1w (hi * k % 18446744073709551616) (lo * k / 18446744073709551616) 0 (by omega), fun _ _ => ⟨rfl, ?_⟩⟩
 conv => whnf
 rw [show iLt (k : Int) 0 = false from decide_eq_false (by omega)]
 conv => whnf
 have e3 : (hi * k % 18446744073709551616 + lo * k / 18446744073709551616 + 0) % 18446744073709551616 = hi * k + lo * k / 18446744073709551616 := by
  rw [e2]; generalize hi * k = p at *; generalize lo * k / 18446744073709551616 = q at *; omega
 have e4 : (hi * k % 18446744073709551616 + lo * k / 18446744073709551616 + 0) / 18446744073709551616 = 0 := by
  rw [e2]; generalize hi * k = p at *; generalize lo * k / 18446744073709551616 = q at *; omega
 rw [e3, e4, e1]
 refine .inl ⟨_, _, _, z1k _ _, rfl, ?_⟩
 conv => whnf
 refine .inl ⟨_, _, _, w9 _ _ (by omega), rfl, ?_⟩
 conv => whnf
theorem z2H (n k : Int) (hn : 0 ≤ n) (hk : 0 ≤ k ∧ k ≤ 9223372036854775807) (h : n * k < 170141183460469231731687303715884105728) (h2 : n < 170141183460469231731687303715884105728) :
  z6 PR z1C [aV n, ai k] (zK1 (n * k) true) [] 0 := by
 obtain ⟨hi, lo, k', e1, e2, rfl, hs, e3, e4⟩ := zEp hn hk h h2
 have := z6c hi lo k' (by omega) hs
 rw [← e1, ← e2] at this
 show z6 PR z1C [aV n, ai k'] (.tup [(true, [.d (.bool false), .d (.int .u64 (hiU (n * k'))), .d (.int .u64 (loU (n * k')))]), (false, [.d (.bool true)])]) [] 0
 rw [e3, e4]
 exact this
theorem z9j (hi lo : Int) : z6 PR zDO [rawW hi lo] (ab (decide (hi = 0 ∧ lo = 0))) [] 0 := by
 refine z6.intro hT (pf Tryz.func182) rfl (by kernel_rfl) Tryz.ntmps182 rfl ?_
 conv => whnf
 cases h : iEq hi 0
 ·conv => whnf
  simp only [eH] at h
  rw [decide_eq_false (fun q : hi = 0 ∧ lo = 0 => h q.1)]
 ·simp only [eH] at h
  conv => whnf
  rw [show decide (hi = 0 ∧ lo = 0) = iEq lo 0 from decide_eq_decide.2 (show (hi = 0 ∧ lo = 0) ↔ lo = 0 from ⟨fun q => q.2, fun q => ⟨h, q⟩⟩)]
theorem z66 (hi lo k : Nat) (hk : k ≤ 9223372036854775807) (h : Scaled hi lo k) : z6 PR z18 [rawW hi lo, ai k] (zIL hi lo k) [] 0 := by
 have r := h.room
 have e1 : hi * k / 18446744073709551616 = 0 := by generalize hi * k = p at *; omega
 have e2 : hi * k % 18446744073709551616 = hi * k := by generalize hi * k = p at *; omega
 have hi1 := h.hi_lt; have lo1 := h.lo_lt; have k1 := h.k_lt
 have hlo : lo * k / 18446744073709551616 < 18446744073709551616 := (zH1 lo k lo1 k1).2.2.2.2
 have e3 : wAdd .u64 ((hi * k : Nat) : Int) ((lo * k / 18446744073709551616 : Nat) : Int) = ((hi * k + lo * k / 18446744073709551616 : Nat) : Int) := by
  rw [wu]; generalize hi * k = p at *; generalize lo * k / 18446744073709551616 = q at *; omega
 refine z6.intro hT (pf Tryz.func365) rfl (by kernel_rfl) Tryz.ntmps365 rfl ?_
 conv => whnf
 refine .inl ⟨_, _, _, yX _ _ (by omega), rfl, ?_⟩
 conv => whnf
 refine .inl ⟨_, _, _, z1c k (show i64 k from ⟨by omega, by omega⟩), rfl, ?_⟩
 conv => whnf
 rw [Int.natAbs_natCast]
 refine .inl ⟨_, _, _, z03 hi k (by omega) k1, rfl, ?_⟩
 conv => whnf
 refine .inl ⟨_, _, _, z03 lo k lo1 k1, rfl, ?_⟩
 conv => whnf
 rw [show iLt (k : Int) 0 = false from decide_eq_false (by omega), e1, e2, e3]
 conv => whnf
 refine .inl ⟨_, _, _, z9j _ _, rfl, ?_⟩
 conv => whnf
 have e5 : iLt ((hi * k + lo * k / 18446744073709551616 : Nat) : Int) ((hi * k : Nat) : Int) = false := decide_eq_false (by generalize hi * k = p at *; generalize lo * k / 18446744073709551616 = q at *; omega)
 refine zK (fun g => ?_) (fun g => ?_) <;> (conv => whnf)
 ·rw [e5]
  conv => whnf
  refine .inl ⟨_, _, _, yX _ _ (by omega), rfl, ?_⟩
  conv => whnf
 ·rw [e5]
  conv => whnf
  rw [show bNot (bEq false false) = false from rfl]
  refine .inl ⟨_, _, _, yX _ _ (by omega), rfl, ?_⟩
  conv => whnf
theorem z2A (n k : Int) (hn : 0 ≤ n) (hk : 0 ≤ k ∧ k ≤ 9223372036854775807) (h : n * k < 170141183460469231731687303715884105728) (h2 : n < 170141183460469231731687303715884105728) :
  z6 PR z18 [aV n, ai k] (zK1 (n * k) true) [] 0 := by
 obtain ⟨hi, lo, k', e1, e2, rfl, hs, e3, e4⟩ := zEp hn hk h h2
 have := z66 hi lo k' (by omega) hs
 rw [← e1, ← e2] at this
 show z6 PR z18 [aV n, ai k'] (.tup [(true, [.d (.bool false), .d (.int .u64 (hiU (n * k'))), .d (.int .u64 (loU (n * k')))]), (false, [.d (.bool true)])]) [] 0
 rw [e3, e4]
 exact this
def cmpI (x y : Int) : Int := if x < y then -1 else if y < x then 1 else 0
def lexI (ah al bh bl : Int) : Int := if cmpI ah bh ≠ 0 then cmpI ah bh else cmpI al bl
theorem zIf {a b : Int} (ha : 0 ≤ a) (hb : 0 ≤ b) : lexI (hiU a) (loU a) (hiU b) (loU b) = sgnI (a - b) := by
 have ga := hlp ha
 have gb := hlp hb
 generalize hiU a = ah at *
 generalize loU a = al at *
 generalize hiU b = bh at *
 generalize loU b = bl at *
 unfold lexI sgnI
 rcases Int.lt_trichotomy ah bh with q | q | q
 ·rw [show cmpI ah bh = -1 from if_pos q, if_pos (by decide), if_pos (by omega)]
 ·subst q
  rw [show cmpI ah ah = 0 by unfold cmpI; rw [if_neg (Int.lt_irrefl _), if_neg (Int.lt_irrefl _)], if_neg (by simp)]
  unfold cmpI
  split
  ·rw [if_pos (by omega)]
  ·split
   ·rw [if_neg (by omega), if_neg (by omega)]
   ·rw [if_neg (by omega), if_pos (by omega)]
 ·rw [show cmpI ah bh = 1 by unfold cmpI; rw [if_neg (by omega), if_pos q], if_pos (by decide), if_neg (by omega), if_neg (by omega)]
theorem z0t (x : Int) : z6 PR z71 [.c (.d (.int .u64 x))] (ab false) [] 0 := by
 refine z6.intro hT (pf Tryz.func334) rfl (by kernel_rfl) Tryz.ntmps334 rfl ?_
 conv => whnf
 rw [show iEq x x = true from decide_eq_true rfl]
 rfl
theorem z3N (x y : Int) : z6 PR z4w [.c (.d (.int .u64 x)), .c (.d (.int .u64 y))] (ai (cmpI x y)) [] 0 := by
 refine z6.intro hT (pf Tryz.func306) rfl (by kernel_rfl) Tryz.ntmps306 rfl ?_
 conv => whnf
 refine .inl ⟨_, _, _, z0t x, rfl, ?_⟩
 conv => whnf
 refine .inl ⟨_, _, _, z0t y, rfl, ?_⟩
 conv => whnf
 unfold cmpI
 refine zK (fun g => ?_) (fun g => ?_) <;> (conv => whnf) <;> simp only [eH] at g
 ·rw [if_pos g]
 ·refine zK (fun g2 => ?_) (fun g2 => ?_) <;> (conv => whnf) <;> simp only [eH] at g2
  ·rw [if_neg (by omega), if_pos g2]
  ·rw [if_neg (by omega), if_neg (by omega)]
theorem zC1 (x y : Int) : z6 PR z8P [aIs [x, y]] (ai (if x ≠ 0 then x else y)) [] 0 := by
 refine z6.intro hT (pf Tryz.func305) rfl (by kernel_rfl) Tryz.ntmps305 rfl ?_
 conv => whnf
 refine zB hT [3, 6, 7, 8] (α := Nat) (fun k => { t := [(3, ai 0), (6, aIs [x, y]), (7, ai 2), (8, ai k)], h := [], n := 0, N := 18 })
  (fun k => k ≤ 2 ∧ (1 ≤ k → x = 0) ∧ (2 ≤ k → y = 0)) (fun k => 2 - k) 0 (by (conv => whnf); simp [eL]) ⟨Nat.zero_le _, fun h => by omega, fun h => by omega⟩ ?_
 intro k ⟨hk, h1, h2⟩
 conv => whnf
 refine zK (fun g => ?_) (fun g => ?_) <;> (conv => whnf) <;> simp only [eH] at g
 ·have hz : ∃ z, [x, y][k]? = some z ∧ (k = 0 → z = x) ∧ (k = 1 → z = y) := by
   match k, g with
   | 0, _ => exact ⟨x, rfl, fun _ => rfl, fun q => (by omega)⟩
   | 1, _ => exact ⟨y, rfl, fun q => (by omega), fun _ => rfl⟩
   | k + 2, g => omega
  obtain ⟨z, hz, z0, z1⟩ := hz
  refine zE (by simp) hz ?_
  conv => whnf
  refine zK (fun g2 => ?_) (fun g2 => ?_) <;> (conv => whnf) <;> simp only [eH] at g2
  ·rcases (show k = 0 ∨ k = 1 by omega) with q | q
   ·rw [if_pos (by rw [← z0 q]; exact g2), z0 q]
   ·rw [if_neg (by simp [h1 (by omega)]), z1 q]
  ·refine ⟨k + 1, by omega, ⟨by omega, fun q => ?_, fun q => ?_⟩, ?_⟩
   ·rcases (show k = 0 ∨ k = 1 by omega) with q | q
    ·rw [← z0 q]; exact g2
    ·exact h1 (by omega)
   ·rw [← z1 (by omega)]; exact g2
   ·((conv => whnf); simp only [eS, wI (show k < 2 by omega) (by omega)])
 ·rw [if_neg (by simp [h1 (by omega)]), h2 (by omega)]
theorem z5J (x y : Int) : z6 PR z8P [.c (.d (.sl 1 [[.int .i64 x], [.int .i64 y]]))] (ai (if x ≠ 0 then x else y)) [] 0 := by
 have := zC1 x y
 have e : eL cI [x, y] = [[D.int .i64 x], [D.int .i64 y]] := by simp [eL, cI]
 unfold aIs at this
 rw [e] at this
 exact this
theorem z47 (ah al bh bl : Int) : z6 PR z5m [rawW ah al, rawW bh bl] (ai (lexI ah al bh bl)) [] 0 := by
 refine z6.intro hT (pf Tryz.func260) rfl (by kernel_rfl) Tryz.ntmps260 rfl ?_
 conv => whnf
 refine zZ 0 ?_
 conv => whnf
 refine zZ 1 ?_
 conv => whnf
 refine zO hT hmix [4] { t := [(4, ai (lexI ah al bh bl))], h := [], n := 0, N := 17 } rfl ?_ ?_
 ·repeat' first
   | (refine zR rfl ?_; (conv => whnf))
   | (refine zQ rfl ?_ ?_ <;> (conv => whnf))
   | (refine zC rfl ?_ ?_ ?_ <;> (conv => whnf))
   | (refine .inl ⟨_, _, _, z3N _ _, rfl, ?_⟩; (conv => whnf))
   | (refine .inl ⟨_, _, _, z5J _ _, rfl, ?_⟩; (conv => whnf))
   | (refine zP rfl ?_; (conv => whnf); first | done | rfl)
 conv => whnf
theorem zIg {ah al bh bl : Int} (h : ah < bh) : lexI ah al bh bl = -1 := by unfold lexI; rw [show cmpI ah bh = -1 from if_pos h, if_pos (by decide)]
theorem zIh {ah al bh bl : Int} (h : bh < ah) : lexI ah al bh bl = 1 := by unfold lexI; rw [show cmpI ah bh = 1 by unfold cmpI; rw [if_neg (by omega), if_pos h], if_pos (by decide)]
theorem zIi {a al bl : Int} : lexI a al a bl = cmpI al bl := by unfold lexI; rw [show cmpI a a = 0 by unfold cmpI; rw [if_neg (Int.lt_irrefl _), if_neg (Int.lt_irrefl _)], if_neg (by simp)]
theorem z8a (ah al bh bl : Int) : z6 PR zBR [rawW ah al, rawW bh bl] (ai (lexI ah al bh bl)) [] 0 := by
 refine z6.intro hT (pf Tryz.func181) rfl (by kernel_rfl) Tryz.ntmps181 rfl ?_
 conv => whnf
 cases g1 : iLt ah bh <;> simp only [eH] at g1 <;> (conv => whnf)
 ·cases g2 : iEq ah bh <;> simp only [eH] at g2 <;> (conv => whnf)
  ·rw [show iLt bh ah = true from decide_eq_true (by omega)]
   conv => whnf
   rw [zIh (by omega)]
  ·subst g2
   rw [zIi]
   unfold cmpI
   cases g3 : iLt al bl <;> simp only [eH] at g3 <;> (conv => whnf)
   ·rw [show iLt ah ah = false from decide_eq_false (by omega)]
    conv => whnf
    cases g4 : iLt bl al <;> simp only [eH] at g4 <;> (conv => whnf)
    ·rw [if_neg (by omega), if_neg (by omega)]
    ·rw [if_neg (by omega), if_pos g4]
   ·rw [if_pos g3]
 ·rw [zIg g1]
theorem z4n (ah al bh bl : Int) : z6 PR z2J [rawW ah al, rawW bh bl] (ai (lexI ah al bh bl)) [] 0 := by
 refine z6.intro hT (pf Tryz.func72) rfl (by kernel_rfl) Tryz.ntmps72 rfl ?_
 conv => whnf
 refine .inl ⟨_, _, _, z8a _ _ _ _, rfl, ?_⟩
 conv => whnf
theorem z4o (a b : Int) (ha : 0 ≤ a) (hb : 0 ≤ b) : z6 PR z2J [aV a, aV b] (ai (sgnI (a - b))) [] 0 := by
 rw [← zIf ha hb]
 exact z4n _ _ _ _
abbrev cFr (f : Int × Int) : List CV := [.d (.bool false), .d (.int .u64 (hiU f.1)), .d (.int .u64 (loU f.1)), .d (.int .i64 f.2)]
abbrev aFr (f : Int × Int) : AV := .agg (cFr f)
abbrev rawF (hi lo d : Int) : AV := .agg [.d (.bool false), .d (.int .u64 hi), .d (.int .u64 lo), .d (.int .i64 d)]
abbrev zCm (f : Int × Int) (b : Bool) : AV := .tup [(true, cFr f), (false, [.d (.bool b)])]
theorem zAE (hi lo d : Int) (h : hi < 9223372036854775808) (hd : 1 ≤ d ∧ d ≤ 1000000) : z6 PR z6z [rawF hi lo d] (ab true) [] 0 := by
 refine z6.intro hT (pf Tryz.func368) rfl (by kernel_rfl) Tryz.ntmps368 rfl ?_
 conv => whnf
 refine .inl ⟨_, _, _, w9 _ _ h, rfl, ?_⟩
 conv => whnf
 refine .inl ⟨_, _, _, zG _ _ _, rfl, ?_⟩
 conv => whnf
 rw [decide_eq_true hd]
theorem z9o (hi lo d : Int) (h : hi < 9223372036854775808) (hd : 1 ≤ d ∧ d ≤ 1000000) : z6 PR z6t [rawF hi lo d] (ab true) [] 0 := by
 refine z6.intro hT (pf Tryz.func364) rfl (by kernel_rfl) Tryz.ntmps364 rfl ?_
 conv => whnf
 refine .inl ⟨_, _, _, yX _ _ h, rfl, ?_⟩
 conv => whnf
 refine .inl ⟨_, _, _, zM _ _ _, rfl, ?_⟩
 conv => whnf
 rw [decide_eq_true hd]
end Go.H.S
