/- Library, part QR: bent tables drawn. -/
import Derived.Test.YtdolkacinfjhcaaGreatLQO
import Derived.Test.YtdolkacinfjhcaaGreatLY
import Derived.Lib.Mul64
import Derived.Test.YtdolkacinfjhcaaGreatH29
set_option maxRecDepth 100000
set_option linter.unusedSimpArgs false
set_option linter.unusedVariables false
namespace Go.H.S
open Go Go.Proofs Go.H
attribute [local irreducible] Tri FnSpec FnSpecM FnSpecX FnSpecJ FnSpecB
structure smT (t : Tbl) : Prop where
 names : t.names.length ≤ 3
 texts : ∀ s ∈ t.names, s.size ≤ 100
 target : t.target.size ≤ 100
 rows : t.rows.length ≤ 41
 cols : ∀ r ∈ t.rows, r.length ≤ 4
 ys : t.ys.length ≤ 41
theorem mem_set {α : Type} {Q : α → Prop} {xs : List α} {k : Nat} {y : α} (h : ∀ c ∈ xs, Q c) (hy : Q y) : ∀ c ∈ xs.set k y, Q c := fun c hc => (List.mem_or_eq_of_mem_set hc).elim (h c) (fun e => e ▸ hy)
theorem mem_snoc {α : Type} {Q : α → Prop} {xs : List α} {y : α} (h : ∀ c ∈ xs, Q c) (hy : Q y) : ∀ c ∈ xs ++ [y], Q c := fun c hc => (List.mem_append.1 hc).elim (h c) (fun e => by simp at e; exact e ▸ hy)
set_option maxHeartbeats 4000000 in
theorem spec_l9Bent_spec (code : List Int) (i0 u0 : Int) (hi0 : inCur code (i0, u0)) (hl : code.length ≤ 1048576) : FnSpecB PR f_spec_l9Bent [.c (.ptr 0 0)] t_spec_l1Cur (cur code i0 u0) (Tbl × Int × Int)
  (fun x => smT x.1 ∧ inCur code x.2) (fun x => aTb x.1) (fun x => cur code x.2.1 x.2.2) (fun _ => []) (fun _ => 1) := by
 refine FnSpecB.intro hTn 0 (pf Tryz.func276) rfl (by kernel_rfl) Tryz.ntmps276 rfl rfl ?_
 intro v0
 conv => whnf
 refine .inr (.inr (.inr (.inr (.inl ⟨0, ?_⟩))))
 conv => whnf
 refine ⟨_, _, _, _, _, _, spec_l9Right_nst code i0 u0 hi0 hl, fun ⟨t, i1, u1⟩ ⟨ht, hi1⟩ => ⟨rfl, ?_⟩⟩
 dsimp only at ht hi1
 obtain ⟨hn1, hn, hns, htg, hr1, hrl, hrc0, hyl0, _, _, _, _⟩ := ht
 obtain ⟨ns, tg, rs, ys⟩ := t
 dsimp only at hn1 hn hns htg hr1 hrl hrc0 hyl0
 have hrc : ∀ r ∈ rs, r.length ≤ 4 := fun r hr => by rw [hrc0 r hr]; omega
 have hyl : ys.length ≤ 41 := by omega
 have hr40 : rs.length ≤ 40 := hrl
 replace hrl : rs.length ≤ 41 := by omega
 conv => whnf
 rw [show nInt (lenRE (eL cIs rs) none) = (rs.length : Int) by simp]
 refine .inr (.inr (.inr (.inr (.inl ⟨0, ?_⟩))))
 conv => whnf
 refine ⟨_, _, _, _, _, _, spec_l1Below_spec code i1 u1 _ hi1 hl, fun ⟨f, i2, u2⟩ ⟨hf, hi2⟩ => ⟨rfl, ?_⟩⟩
 dsimp only at hf hi2
 have hf2 := hf.2.1 (by omega)
 obtain ⟨f, rfl⟩ : ∃ n : Nat, f = n := ⟨f.toNat, by omega⟩
 obtain ⟨rf, hrf⟩ := get_lt (show f < rs.length by omega)
 obtain ⟨yf, hyf⟩ := get_lt (show f < ys.length by omega)
 have hrfl := hrc0 rf (List.mem_of_getElem? hrf)
 conv => whnf
 refine .inr (.inr (.inr (.inr (.inl ⟨0, ?_⟩))))
 conv => whnf
 refine ⟨_, _, _, _, _, _, spec_l1Below_spec code i2 u2 14 hi2 hl, fun ⟨k, i3, u3⟩ ⟨hk, hi3⟩ => ⟨rfl, ?_⟩⟩
 dsimp only at hk hi3
 conv => whnf
 refine ifB_i (fun q0 => ?_) (fun q0 => ?_) <;> (conv => whnf)
 ·obtain ⟨n0, hn0⟩ := get_lt (show 0 < ns.length by omega)
  refine tri_everyX hTn hmix [0, 2, 3] (Y := ByteArray × Int × Int) (fun y => y.1.size ≤ 100 ∧ inCur code y.2) (fun y => { t := [(0, .w (.ptr 0 0) v0), (2, .c (.ptr 1 0)), (3, .c (.ptr 2 0))], h := [(0, .box t_spec_l1Cur (cur code y.2.1 y.2.2)), (1, .box t_impl_Table [.nl 1, .d (.str ⟨#[]⟩), .nl 1, .nl 1]), (2, .box t_impl_Table [.ref 3 0 none, .d (.str tg), .ref 4 0 none, .ref 5 0 none]), (3, .arr t_string 1 0 .own (eL cS (ns.set 0 y.1))), (4, rowIs rs), (5, .arr t_int 1 0 .own (eL cI ys))], n := 6, N := 100 }) rfl ?_ ?_
  ·repeat' first
    | (refine anyV_one rfl ?_; (conv => whnf))
    | (refine anyV_two rfl ?_ ?_ <;> (conv => whnf))
    | (refine anyV_three rfl ?_ ?_ ?_ <;> (conv => whnf))
    | (refine anyV_four rfl ?_ ?_ ?_ ?_ <;> (conv => whnf))
    | (refine .inr (.inr (.inr (.inr (.inl ⟨0, ?_⟩)))); (conv => whnf); refine ⟨_, _, _, _, _, _, spec_l1Pick_of code i3 u3 _ [⟨#[]⟩, ⟨#[65]⟩, ⟨#[49, 97]⟩, ⟨#[121]⟩, ⟨#[97, 98, 99, 100, 101, 102, 103, 104, 105, 106, 107, 108]⟩, ⟨#[97, 98, 99, 100, 101, 102, 103, 104, 105, 106, 107, 108, 109]⟩, ⟨#[98]⟩] (by simp [eL, cS]) hi3 hl (by simp) (by simp), fun ⟨z, ib, ub⟩ ⟨hz, hib⟩ => ⟨rfl, ?_⟩⟩; dsimp only at hz hib; (conv => whnf))
    | (refine ref_at (k := 0) rfl (by simp [dLen_len, dSet, eL_length]; omega) ?_; (conv => whnf))
    | (refine st_at (k := 0) (by simp) hn0 (by simp [cS]) ?_; (conv => whnf))
   all_goals
    refine anyV_end rfl ?_
    have hz1 : z.size ≤ 100 := by simp at hz; rcases hz with rfl | rfl | rfl | rfl | rfl | rfl | rfl <;> decide
    refine ⟨(z, ib, ub), ⟨hz1, hib⟩, ?_⟩
    conv => whnf
    dsimp only
    rw [show dSet (eL cS ns) (nAdd (offR none) (nOf 0)) (dOver (cS n0) 0 [.str z]) = eL cS (ns.set 0 z) from by rw [show nAdd (offR none) (nOf 0) = 0 by simp [nAdd_eq], show dOver (cS n0) 0 [.str z] = cS z by rw [dOver]; rfl]; exact eL_set cS ns 0 z]
  intro ⟨z, ib, ub⟩ ⟨hz, hib⟩
  dsimp only at hz hib
  conv => whnf
  refine ⟨(⟨ns.set 0 z, tg, rs, ys⟩, ib, ub), ⟨⟨by simp; omega, mem_set hns hz, htg, hrl, hrc, hyl⟩, by assumption⟩, ?_⟩
  conv => whnf
  first | done | rfl | (simp only [partOf_none]; done) | (simp only [partOf_none]; rfl)
 refine ifB_i (fun q1 => ?_) (fun q1 => ?_) <;> (conv => whnf)
 ·refine .inr (.inr (.inr (.inr (.inl ⟨0, ?_⟩))))
  conv => whnf
  refine ⟨_, _, _, _, _, _, spec_l1Pick_of code i3 u3 _ [⟨#[]⟩, ⟨#[97]⟩, ⟨#[121, 45]⟩] (by simp [eL, cS]) hi3 hl (by simp) (by simp), fun ⟨z, ib, ub⟩ ⟨hz, hib⟩ => ⟨rfl, ?_⟩⟩
  dsimp only at hz hib
  have hz1 : z.size ≤ 100 := by simp at hz; rcases hz with rfl | rfl | rfl <;> decide
  conv => whnf
  refine ⟨(⟨ns, z, rs, ys⟩, ib, ub), ⟨⟨hn, hns, hz1, hrl, hrc, hyl⟩, by assumption⟩, ?_⟩
  conv => whnf
  first | done | rfl | (simp only [partOf_none]; done) | (simp only [partOf_none]; rfl)
 refine ifB_i (fun q2 => ?_) (fun q2 => ?_) <;> (conv => whnf)
 ·refine tri_every hTn hmix [0, 2, 3] { t := [(0, .w (.ptr 0 0) v0), (2, .c (.ptr 1 0)), (3, .c (.ptr 2 0))], h := [(0, .box t_spec_l1Cur (cur code i3 u3)), (1, .box t_impl_Table [.nl 1, .d (.str ⟨#[]⟩), .nl 1, .nl 1]), (2, .box t_impl_Table [.ref 3 0 none, .d (.str tg), .ref 4 0 none, .ref 5 0 none]), (3, .arr t_string 1 0 .own (eL cS ns)), (4, rowIs (rs.set f (rf ++ [0]))), (5, .arr t_int 1 0 .own (eL cI ys))], n := 6, N := 100 } rfl ?_ ?_
  ·repeat' first
    | (refine anyV_one rfl ?_; (conv => whnf))
    | (refine anyV_two rfl ?_ ?_ <;> (conv => whnf))
    | (refine anyV_three rfl ?_ ?_ ?_ <;> (conv => whnf))
    | (refine anyV_four rfl ?_ ?_ ?_ ?_ <;> (conv => whnf))
    | (refine ref_at (k := f) rfl (by simp [dLen_len, dSet, eL_length]; omega) ?_; (conv => whnf))
    | (refine ld_at (by simp) hrf ?_; (conv => whnf))
    | (refine take_at (k := f) (by simp) hrf ?_; (conv => whnf))
    | (refine hole_at (by simp) hrf ?_; (conv => whnf))
    | (refine And.intro (by simp; omega) ?_; (conv => whnf))
    | (refine And.intro (flat_snoc _ _) ?_; (conv => whnf))
   all_goals
    refine anyV_end rfl ?_
    conv => whnf
    simp only [partOf_none, nAdd_eq, offR_none, Nat.zero_add, nOf_eq, Int.toNat_natCast]
    rw [show dApp (eL cI rf) [[D.int IntKind.i64 0]] = eL cI (rf ++ [0]) from eL_app cI rf 0, hole_fill]
  conv => whnf
  refine ⟨(⟨ns, tg, rs.set f (rf ++ [0]), ys⟩, i3, u3), ⟨⟨hn, hns, htg, by simp; omega, mem_set hrc (by simp; omega), hyl⟩, by assumption⟩, ?_⟩
  conv => whnf
  first | done | rfl | (simp only [partOf_none]; done) | (simp only [partOf_none]; rfl)
 refine ifB_i (fun q3 => ?_) (fun q3 => ?_) <;> (conv => whnf)
 ·refine tri_everyX hTn hmix [0, 2, 3] (Y := Int × Int × Int) (fun y => inCur code y.2) (fun y => { t := [(0, .w (.ptr 0 0) v0), (2, .c (.ptr 1 0)), (3, .c (.ptr 2 0))], h := [(0, .box t_spec_l1Cur (cur code y.2.1 y.2.2)), (1, .box t_impl_Table [.nl 1, .d (.str ⟨#[]⟩), .nl 1, .nl 1]), (2, .box t_impl_Table [.ref 3 0 none, .d (.str tg), .ref 4 0 none, .ref 5 0 none]), (3, .arr t_string 1 0 .own (eL cS ns)), (4, rowIs (rs.set f (rf.set 0 y.1))), (5, .arr t_int 1 0 .own (eL cI ys))], n := 6, N := 100 }) rfl ?_ ?_
  ·repeat' first
    | (refine anyV_one rfl ?_; (conv => whnf))
    | (refine anyV_two rfl ?_ ?_ <;> (conv => whnf))
    | (refine anyV_three rfl ?_ ?_ ?_ <;> (conv => whnf))
    | (refine anyV_four rfl ?_ ?_ ?_ ?_ <;> (conv => whnf))
    | (refine .inr (.inr (.inr (.inr (.inl ⟨0, ?_⟩)))); (conv => whnf); refine ⟨_, _, _, _, _, _, spec_l1PickInt_of code i3 u3 _ [2147483647, 2147483648, -2147483648] (by simp [eL, cI]) hi3 hl (by simp) (by simp), fun ⟨z, ib, ub⟩ ⟨hz, hib⟩ => ⟨rfl, ?_⟩⟩; dsimp only at hz hib; (conv => whnf))
    | (refine ref_at (k := f) rfl (by simp [dLen_len, dSet, eL_length]; omega) ?_; (conv => whnf))
    | (refine ld_at (by simp) hrf ?_; (conv => whnf))
    | (refine nidx_at (q := 0) (by simp) hrf rfl (by omega) ?_; (conv => whnf))
    | (refine nst_at (by simp) hrf (by simp; omega) ?_; (conv => whnf))
   all_goals
    refine anyV_end rfl ?_
    refine ⟨(z, ib, ub), hib, ?_⟩
    conv => whnf
    rw [show nOf 0 = 0 by simp, nst_set]
  intro ⟨z, ib, ub⟩ hib
  dsimp only at hib
  conv => whnf
  refine ⟨(⟨ns, tg, rs.set f (rf.set 0 z), ys⟩, ib, ub), ⟨⟨hn, hns, htg, by simp; omega, mem_set hrc (by simp; omega), hyl⟩, by assumption⟩, ?_⟩
  conv => whnf
  first | done | rfl | (simp only [partOf_none]; done) | (simp only [partOf_none]; rfl)
 refine ifB_i (fun q4 => ?_) (fun q4 => ?_) <;> (conv => whnf)
 ·refine tri_everyX hTn hmix [0, 2, 3] (Y := Int × Int × Int) (fun y => inCur code y.2) (fun y => { t := [(0, .w (.ptr 0 0) v0), (2, .c (.ptr 1 0)), (3, .c (.ptr 2 0))], h := [(0, .box t_spec_l1Cur (cur code y.2.1 y.2.2)), (1, .box t_impl_Table [.nl 1, .d (.str ⟨#[]⟩), .nl 1, .nl 1]), (2, .box t_impl_Table [.ref 3 0 none, .d (.str tg), .ref 4 0 none, .ref 5 0 none]), (3, .arr t_string 1 0 .own (eL cS ns)), (4, rowIs rs), (5, .arr t_int 1 0 .own (eL cI (ys.set f y.1)))], n := 6, N := 100 }) rfl ?_ ?_
  ·repeat' first
    | (refine anyV_one rfl ?_; (conv => whnf))
    | (refine anyV_two rfl ?_ ?_ <;> (conv => whnf))
    | (refine anyV_three rfl ?_ ?_ ?_ <;> (conv => whnf))
    | (refine anyV_four rfl ?_ ?_ ?_ ?_ <;> (conv => whnf))
    | (refine .inr (.inr (.inr (.inr (.inl ⟨0, ?_⟩)))); (conv => whnf); refine ⟨_, _, _, _, _, _, spec_l1Whole_spec code i3 u3 hi3 hl, fun ⟨z, ib, ub⟩ hib => ⟨rfl, ?_⟩⟩; dsimp only at hib; (conv => whnf))
    | (refine ref_at (k := f) rfl (by simp [dLen_len, dSet, eL_length]; omega) ?_; (conv => whnf))
    | (refine st_at (k := f) (by simp) hyf (by simp [cI]) ?_; (conv => whnf))
   all_goals
    refine anyV_end rfl ?_
    refine ⟨(z, ib, ub), by first | exact hib | exact hib.2, ?_⟩
    conv => whnf
    dsimp only
    rw [show dSet (eL cI ys) (nAdd (offR none) (nOf (f : Int))) (dOver (cI yf) 0 [.int .i64 z]) = eL cI (ys.set f z) from by rw [show nAdd (offR none) (nOf (f : Int)) = f by simp [nAdd_eq], show dOver (cI yf) 0 [.int .i64 z] = cI z by rw [dOver]; rfl]; exact eL_set cI ys f z]
  intro ⟨z, ib, ub⟩ hib
  dsimp only at hib
  conv => whnf
  refine ⟨(⟨ns, tg, rs, ys.set f z⟩, ib, ub), ⟨⟨hn, hns, htg, hrl, hrc, by simp; omega⟩, by assumption⟩, ?_⟩
  conv => whnf
  first | done | rfl | (simp only [partOf_none]; done) | (simp only [partOf_none]; rfl)
 refine ifB_i (fun q5 => ?_) (fun q5 => ?_) <;> (conv => whnf)
 ·refine And.intro (by simp [partOf_none]; omega) ?_
  conv => whnf
  refine ⟨(⟨ns, tg, rs, ys ++ [1]⟩, i3, u3), ⟨⟨hn, hns, htg, hrl, hrc, by simp; omega⟩, by assumption⟩, ?_⟩
  conv => whnf
  simp only [partOf_none]
  rw [show dApp (eL cI ys) [[D.int IntKind.i64 1]] = eL cI (ys ++ [1]) from eL_app cI ys 1]
 refine ifB_i (fun q6 => ?_) (fun q6 => ?_) <;> (conv => whnf)
 ·refine ref_at (k := f) rfl (by simp [dLen_len, dSet, eL_length]; omega) ?_
  conv => whnf
  refine And.intro (fun c hc => by simp at hc) ?_
  refine st_at (f := cIs) (k := f) (by simp) hrf (by simp [cIs]) ?_
  conv => whnf
  refine ⟨(⟨ns, tg, rs.set f [], ys⟩, i3, u3), ⟨⟨hn, hns, htg, by simp; omega, mem_set hrc (by simp), hyl⟩, by assumption⟩, ?_⟩
  conv => whnf
  simp only [partOf_none, nAdd_eq, offR_none, Nat.zero_add, nOf_eq, Int.toNat_natCast]
  rw [show dSet (eL cIs rs) f (dOver (cIs rf) 0 [D.sl 1 []]) = eL cIs (rs.set f []) from by have := cIs_set f rs rf []; rw [eL_nil] at this; exact this]
 obtain ⟨r0, hr0⟩ := get_lt (show 0 < rs.length by omega)
 have hr04 := hrc r0 (List.mem_of_getElem? hr0)
 refine ifB_i (fun q7 => ?_) (fun q7 => ?_) <;> (conv => whnf)
 ·refine tri_loop hTn [0, 2, 3] (α := List (List Int) × List Int × Int × Int) (fun x => { t := [(0, .w (.ptr 0 0) v0), (2, .c (.ptr 1 0)), (3, .c (.ptr 2 0))], h := [(0, .box t_spec_l1Cur (cur code x.2.2.1 x.2.2.2)), (1, .box t_impl_Table [.nl 1, .d (.str ⟨#[]⟩), .nl 1, .nl 1]), (2, .box t_impl_Table [.ref 3 0 none, .d (.str tg), .ref 4 0 none, .ref 5 0 none]), (3, .arr t_string 1 0 .own (eL cS ns)), (4, rowIs x.1), (5, .arr t_int 1 0 .own (eL cI x.2.1))], n := 6, N := 100 })
   (fun x => (1 ≤ x.1.length ∧ x.1.length ≤ 41) ∧ x.1[0]? = some r0 ∧ (∀ r ∈ x.1, r.length ≤ 4) ∧ x.2.1.length = x.1.length ∧ inCur code x.2.2) (fun x => 41 - x.1.length) (rs, ys, i3, u3) (by (conv => whnf); first | done | rfl) ⟨⟨hr1, hrl⟩, hr0, hrc, hyl0, hi3⟩ ?_
  intro ⟨rs1, ys1, i4, u4⟩ ⟨⟨hq1, hq2⟩, hq0, hqc, hqy, hi4⟩
  dsimp only at hq1 hq2 hq0 hqc hqy hi4
  conv => whnf
  refine tri_everyX hTn hmix [0, 2, 3, 82] (Y := Int × Int × Int) (fun y => (0 ≤ y.1 ∧ y.1 < 2) ∧ inCur code y.2) (fun y => { t := [(0, .w (.ptr 0 0) v0), (2, .c (.ptr 1 0)), (3, .c (.ptr 2 0)), (82, ab (iLt (rs1.length : Int) (wAdd .i64 40 y.1)))], h := [(0, .box t_spec_l1Cur (cur code y.2.1 y.2.2)), (1, .box t_impl_Table [.nl 1, .d (.str ⟨#[]⟩), .nl 1, .nl 1]), (2, .box t_impl_Table [.ref 3 0 none, .d (.str tg), .ref 4 0 none, .ref 5 0 none]), (3, .arr t_string 1 0 .own (eL cS ns)), (4, rowIs rs1), (5, .arr t_int 1 0 .own (eL cI ys1))], n := 6, N := 100 }) rfl ?_ ?_
  ·repeat' first
    | (refine anyV_one rfl ?_; (conv => whnf))
    | (refine anyV_two rfl ?_ ?_ <;> (conv => whnf))
    | (refine anyV_three rfl ?_ ?_ ?_ <;> (conv => whnf))
    | (refine anyV_four rfl ?_ ?_ ?_ ?_ <;> (conv => whnf))
    | (refine .inr (.inr (.inr (.inr (.inl ⟨0, ?_⟩)))); (conv => whnf); refine ⟨_, _, _, _, _, _, spec_l1Below_spec code i4 u4 2 hi4 hl, fun ⟨z, ib, ub⟩ ⟨hz, hib⟩ => ⟨rfl, ?_⟩⟩; dsimp only at hz hib; (conv => whnf))
   all_goals
    refine anyV_end rfl ?_
    refine ⟨(z, ib, ub), ⟨⟨hz.1, hz.2.1 (by decide)⟩, hib⟩, ?_⟩
    conv => whnf
    first | done | (simp; done) | rfl
  intro ⟨z, i5, u5⟩ ⟨hz, hi5⟩
  dsimp only at hz hi5
  conv => whnf
  rw [show wAdd .i64 40 z = 40 + z from wAdd64 (by omega) (by omega)]
  refine ifB_i (fun h7 => ?_) (fun h7 => ?_) <;> (conv => whnf) <;> simp [iLt] at h7
  ·refine tri_every hTn hmix [0, 2, 3] { t := [(0, .w (.ptr 0 0) v0), (2, .c (.ptr 1 0)), (3, .c (.ptr 2 0))], h := [(0, .box t_spec_l1Cur (cur code i5 u5)), (1, .box t_impl_Table [.nl 1, .d (.str ⟨#[]⟩), .nl 1, .nl 1]), (2, .box t_impl_Table [.ref 3 0 none, .d (.str tg), .ref 4 0 none, .ref 5 0 none]), (3, .arr t_string 1 0 .own (eL cS ns)), (4, rowIs (rs1 ++ [r0])), (5, .arr t_int 1 0 .own (eL cI ys1))], n := 6, N := 100 } rfl ?_ ?_
   ·repeat' first
     | (refine anyV_one rfl ?_; (conv => whnf))
     | (refine anyV_two rfl ?_ ?_ <;> (conv => whnf))
     | (refine anyV_three rfl ?_ ?_ ?_ <;> (conv => whnf))
     | (refine anyV_four rfl ?_ ?_ ?_ ?_ <;> (conv => whnf))
     | (refine ref_at (k := 0) rfl (by simp [dLen_len, dSet, eL_length]; omega) ?_; (conv => whnf))
     | (refine ld_at (by simp) hq0 ?_; (conv => whnf))
     | (refine nyd_at (by simp) hq0 ?_; (conv => whnf))
     | (refine And.intro (by simp [eL_length, dLen_len]; omega) ?_; (conv => whnf))
     | (refine And.intro (by have := flat_cI r0; simp only [dApp, List.nil_append]; exact this) ?_; (conv => whnf))
    all_goals
     refine anyV_end rfl ?_
     conv => whnf
     rw [show dApp (eL cIs rs1) [[D.sl 1 (dApp [] (eL cI r0))]] = eL cIs (rs1 ++ [r0]) from by rw [show dApp [] (eL cI r0) = eL cI r0 by simp [dApp]]; exact eL_app cIs rs1 r0]
   conv => whnf
   refine And.intro (by simp [partOf_none, eL_length, dLen_len]; omega) ?_
   conv => whnf
   refine ⟨(rs1 ++ [r0], ys1 ++ [0], i5, u5), by simp; omega, ⟨⟨by simp, by simp; omega⟩, by rw [List.getElem?_append_left (by omega)]; exact hq0, mem_snoc hqc hr04, by simp; omega, hi5⟩, ?_⟩
   conv => whnf
   simp only [partOf_none]
   rw [show dApp (eL cI ys1) [[D.int IntKind.i64 0]] = eL cI (ys1 ++ [0]) from eL_app cI ys1 0]
  ·refine ⟨(⟨ns, tg, rs1, ys1⟩, i5, u5), ⟨⟨hn, hns, htg, hq2, hqc, by show ys1.length ≤ 41; omega⟩, by assumption⟩, ?_⟩
   conv => whnf
   first | done | rfl
 ·refine ⟨(⟨ns, tg, rs, ys⟩, i3, u3), ⟨⟨hn, hns, htg, hrl, hrc, hyl⟩, by assumption⟩, ?_⟩
  conv => whnf
  first | done | rfl | (simp only [partOf_none]; done) | (simp only [partOf_none]; rfl)
end Go.H.S
namespace Go.H.S
open Go Go.Proofs Go.H
attribute [local irreducible] Tri FnSpec FnSpecM FnSpecX FnSpecJ FnSpecB
theorem drawn_sm {t : Tbl} (h : drawnT t) : smT t := ⟨h.names, h.texts, h.target, by have := h.rows; omega, fun r hr => by rw [h.cols r hr]; have := h.names; omega, by rw [h.ys]; have := h.rows; omega⟩
abbrev cTb0 : List CV := [.nl 1, .d (.str ⟨#[]⟩), .nl 1, .nl 1]
abbrev cC0 : List CV := [.d (.int .i64 0), .d (.int .i64 0), .d (.int .i64 0), .d (.int .i64 0), .d (.int .i64 0), .d (.int .i64 0), .d (.int .i64 0), .nl 1]
set_option maxHeartbeats 4000000 in
theorem spec_l22Args_spec (code : List Int) (hl : code.length ≤ 1048576) : FnSpecX PR f_spec_l22Args [.c (.d (.sl 1 (eL cU code)))] (Tbl × Cfg × Int × Int) (fun x => smT x.1 ∧ x.2.1.signs.length ≤ 5 ∧ inCur code x.2.2)
  (fun x => .tup [(false, [.ptr 0 0]), (true, cTb x.1), (true, cCf x.2.1)]) (fun x => [(0, .box t_spec_l1Cur (cur code x.2.2.1 x.2.2.2))]) (fun _ => 1) := by
 refine FnSpecX.introT hT (pf Tryz.func188) rfl (by kernel_rfl) Tryz.ntmps188 rfl ?_
 refine tri_then hT ?_
 conv => whnf
 refine tri_then hT ?_
 conv => whnf
 refine .inr ⟨_, _, _, _, _, spec_l1New_spec code hl, fun u0 _ => ⟨rfl, ?_⟩⟩
 conv => whnf
 refine tri_then hT ?_
 conv => whnf
 refine .inr (.inr (.inr (.inr (.inl ⟨2, ?_⟩))))
 conv => whnf
 refine ⟨_, _, _, _, _, _, spec_l9Right_spec code 0 u0 ⟨Int.le_refl _, by dsimp only; omega⟩ hl, fun ⟨t, i1, u1⟩ ⟨ht, hi1⟩ => ⟨rfl, ?_⟩⟩
 dsimp only at ht hi1
 have hs := drawn_sm ht
 clear ht
 conv => whnf
 refine tri_fz 7 0 ?_
 conv => whnf
 refine tri_fz 7 2 ?_
 conv => whnf
 refine tri_fz 7 3 ?_
 conv => whnf
 refine tri_then hT ?_
 conv => whnf
 refine .inr (.inr (.inr (.inr (.inl ⟨2, ?_⟩))))
 conv => whnf
 refine ⟨_, _, _, _, _, _, spec_l8Right_spec code i1 u1 hi1 hl, fun ⟨c, i2, u2⟩ ⟨hc, hi2⟩ => ⟨rfl, ?_⟩⟩
 dsimp only at hc hi2
 obtain ⟨a1, a2, a3, a4, a5, a6, a7, ss⟩ := c
 dsimp only at hc
 conv => whnf
 refine tri_cut hT [3, 4, 5, 6, 7] (α := Tbl × Int × Int) (fun x => { t := [(3, .c (.ptr 0 0)), (4, .c (.ptr 1 0)), (5, .c (.ptr 2 0)), (6, .c (.ptr 3 0)), (7, .c (.ptr 4 0))], h := [(0, .box t_impl_Table cTb0), (1, .box t_impl_Config cC0), (2, .box t_spec_l1Cur (cur code x.2.1 x.2.2)), (3, .box t_impl_Table (cTb x.1)), (4, .box t_impl_Config [.d (.int .i64 (⟨a1, a2, a3, a4, a5, a6, a7, ss⟩ : Cfg).rounds), .d (.int .i64 (⟨a1, a2, a3, a4, a5, a6, a7, ss⟩ : Cfg).depth), .d (.int .i64 (⟨a1, a2, a3, a4, a5, a6, a7, ss⟩ : Cfg).bins), .d (.int .i64 (⟨a1, a2, a3, a4, a5, a6, a7, ss⟩ : Cfg).lambda), .d (.int .i64 (⟨a1, a2, a3, a4, a5, a6, a7, ss⟩ : Cfg).rows), .d (.int .i64 (⟨a1, a2, a3, a4, a5, a6, a7, ss⟩ : Cfg).num), .d (.int .i64 (⟨a1, a2, a3, a4, a5, a6, a7, ss⟩ : Cfg).den), .ref 5 0 none]), (5, .arr t_int 1 0 .own (eL cI (⟨a1, a2, a3, a4, a5, a6, a7, ss⟩ : Cfg).signs))], n := 6, N := 25 })
  (fun x => smT x.1 ∧ inCur code x.2) ?_ ?_
 ·conv => whnf
  refine .inr (.inr (.inr (.inr (.inl ⟨2, ?_⟩))))
  conv => whnf
  refine ⟨_, _, _, _, _, _, spec_l1Once_spec code i2 u2 16 hi2 hl, fun ⟨b, i3, u3⟩ hi3 => ⟨rfl, ?_⟩⟩
  dsimp only at hi3
  cases b with
  | true =>
   conv => whnf
   refine .inr (.inr (.inr (.inr (.inl ⟨2, ?_⟩))))
   conv => whnf
   refine ⟨_, _, _, _, _, _, spec_l9Bent_spec code i3 u3 hi3 hl, fun ⟨t2, i4, u4⟩ ⟨ht2, hi4⟩ => ⟨rfl, ?_⟩⟩
   dsimp only at ht2 hi4
   conv => whnf
   refine ⟨(t2, i4, u4), ⟨ht2, hi4⟩, ?_⟩
   conv => whnf
   first | done | rfl
  | false =>
   conv => whnf
   refine ⟨(t, i3, u3), ⟨hs, hi3⟩, ?_⟩
   conv => whnf
   first | done | rfl
 clear hs hi2
 intro ⟨t2, i3, u3⟩ ⟨ht2, hi3⟩
 dsimp only at ht2 hi3
 refine tri_cut hT [3, 4, 5, 6, 7] (α := Cfg × Int × Int) (fun x => { t := [(3, .c (.ptr 0 0)), (4, .c (.ptr 1 0)), (5, .c (.ptr 2 0)), (6, .c (.ptr 3 0)), (7, .c (.ptr 4 0))], h := [(0, .box t_impl_Table cTb0), (1, .box t_impl_Config cC0), (2, .box t_spec_l1Cur (cur code x.2.1 x.2.2)), (3, .box t_impl_Table (cTb t2)), (4, .box t_impl_Config [.d (.int .i64 x.1.rounds), .d (.int .i64 x.1.depth), .d (.int .i64 x.1.bins), .d (.int .i64 x.1.lambda), .d (.int .i64 x.1.rows), .d (.int .i64 x.1.num), .d (.int .i64 x.1.den), .ref 5 0 none]), (5, .arr t_int 1 0 .own (eL cI x.1.signs))], n := 6, N := 25 })
  (fun x => x.1.signs.length ≤ 5 ∧ inCur code x.2) ?_ ?_
 ·conv => whnf
  refine .inr (.inr (.inr (.inr (.inl ⟨2, ?_⟩))))
  conv => whnf
  refine ⟨_, _, _, _, _, _, spec_l1Once_spec code i3 u3 16 hi3 hl, fun ⟨b, i4, u4⟩ hi4 => ⟨rfl, ?_⟩⟩
  dsimp only at hi4
  cases b with
  | true =>
   conv => whnf
   refine .inr (.inr (.inr (.inr (.inl ⟨2, ?_⟩))))
   conv => whnf
   refine ⟨_, _, _, _, _, _, spec_l8Bent_spec code i4 u4 hi4 hl, fun ⟨⟨b1, b2, b3, b4, b5, b6, b7, ss2⟩, i5, u5⟩ ⟨hc2, hi5⟩ => ⟨rfl, ?_⟩⟩
   dsimp only at hc2 hi5
   conv => whnf
   refine ⟨(⟨b1, b2, b3, b4, b5, b6, b7, ss2⟩, i5, u5), ⟨hc2, hi5⟩, ?_⟩
   conv => whnf
   first | done | rfl
  | false =>
   conv => whnf
   refine ⟨(⟨a1, a2, a3, a4, a5, a6, a7, ss⟩, i4, u4), ⟨by dsimp only; omega, hi4⟩, ?_⟩
   conv => whnf
   first | done | rfl
 clear hc hi3
 intro ⟨c, i4, u4⟩ ⟨hc, hi4⟩
 dsimp only at hc hi4
 refine tri_fz 4 7 ?_
 conv => whnf
 refine tri_rp 3 ?_
 conv => whnf
 refine tri_rp 4 ?_
 conv => whnf
 refine tri_then hT ?_
 conv => whnf
 refine tri_every hT hmix [2, 3, 4] { t := [(2, .c (.ptr 0 0)), (3, .c (.ptr 1 0)), (4, .c (.ptr 2 0))], h := [(0, .box t_spec_l1Cur (cur code i4 u4)), (1, .box t_impl_Table (cTb t2)), (2, .box t_impl_Config (cCf c))], n := 3, N := 25 } rfl ?_ ?_
 ·repeat' first
   | (refine anyV_one rfl ?_; (conv => whnf))
   | (refine anyV_two rfl ?_ ?_ <;> (conv => whnf))
   | (refine anyV_three rfl ?_ ?_ ?_ <;> (conv => whnf))
   | (refine anyV_four rfl ?_ ?_ ?_ ?_ <;> (conv => whnf))
   | (refine anyV_end rfl ?_; (conv => whnf); first | done | rfl)
 ·refine wpH_sound hT _ _ _ ?_
  conv => whnf
  refine ⟨(t2, c, i4, u4), ⟨ht2, hc, hi4⟩, ?_⟩
  conv => whnf
  first | done | rfl
set_option maxHeartbeats 4000000 in
theorem spec_l26Signs_spec (code : List Int) (i0 u0 : Int) (n : Nat) (hi0 : inCur code (i0, u0)) (hl : code.length ≤ 1048576) (hn : n ≤ 1000) : FnSpecB PR f_spec_l26Signs [.c (.ptr 0 0), ai n] t_spec_l1Cur (cur code i0 u0) (List Int × Int × Int)
  (fun x => x.1.length ≤ n ∧ inCur code x.2) (fun x => .c (.ref 1 0 none)) (fun x => cur code x.2.1 x.2.2) (fun x => [(1, .arr t_int 1 0 .own (eL cI x.1))]) (fun _ => 2) := by
 refine FnSpecB.intro hT 0 (pf Tryz.func190) rfl (by kernel_rfl) Tryz.ntmps190 rfl rfl ?_
 intro v0
 conv => whnf
 refine .inr (.inr (.inr (.inr (.inl ⟨0, ?_⟩))))
 conv => whnf
 refine ⟨_, _, _, _, _, _, spec_l1Once_spec code i0 u0 2 hi0 hl, fun ⟨b, i1, u1⟩ hi1 => ⟨rfl, ?_⟩⟩
 dsimp only at hi1
 cases b with
 | true =>
  conv => whnf
  refine ⟨([], i1, u1), ⟨by simp, hi1⟩, ?_⟩
  conv => whnf
  simp only [eL_nil]
 | false =>
  conv => whnf
  refine tri_loop hT [0, 1, 5, 6] (α := List Int × Int × Int) (fun x => { t := [(0, .w (.ptr 0 0) v0), (1, ai n), (5, .c (.ref 1 0 none)), (6, ai x.1.length)], h := [(0, .box t_spec_l1Cur (cur code x.2.1 x.2.2)), (1, .arr t_int 1 0 .own (eL cI x.1))], n := 2, N := 23 })
   (fun x => x.1.length ≤ n ∧ inCur code x.2) (fun x => n - x.1.length) ([], i1, u1) (by (conv => whnf); simp only [eL_nil]; rfl) ⟨Nat.zero_le _, hi1⟩ ?_
  intro ⟨ss, i2, u2⟩ ⟨hs, hi2⟩
  dsimp only at hs hi2
  conv => whnf
  refine ifB_i (fun h1 => ?_) (fun h1 => ?_) <;> (conv => whnf) <;> simp only [eH] at h1
  ·refine .inr (.inr (.inr (.inr (.inl ⟨0, ?_⟩))))
   conv => whnf
   refine ⟨_, _, _, _, _, _, spec_l1Below_spec code i2 u2 3 hi2 hl, fun ⟨z, i3, u3⟩ ⟨hz, hi3⟩ => ⟨rfl, ?_⟩⟩
   dsimp only at hz hi3
   conv => whnf
   refine And.intro (by simp [partOf_none]; omega) ?_
   conv => whnf
   refine ⟨(ss ++ [wSub .i64 z 1], i3, u3), by simp; omega, ⟨by simp; omega, hi3⟩, ?_⟩
   ((conv => whnf); simp only [eS, wI (show ss.length < 1000 by omega) (by omega)])
   simp only [partOf_none, List.length_append, List.length_cons, List.length_nil]
   rw [← eL_app]
   first | exact ⟨rfl, trivial⟩ | exact ⟨trivial, rfl⟩ | exact ⟨rfl, rfl⟩ | rfl
  ·refine ⟨(ss, i2, u2), ⟨hs, hi2⟩, ?_⟩
   conv => whnf
   first | done | rfl
set_option maxHeartbeats 4000000 in
theorem spec_DrawTrainModel_spec (code : List Int) (hl : code.length ≤ 1048576) : FnSpecX PR f_spec_DrawTrainModel [.c (.d (.sl 1 (eL cU code)))] (Tbl × Cfg) (fun x => smT x.1 ∧ x.2.signs.length ≤ 5)
  (fun x => .tup [(true, cTb x.1), (true, cCf x.2)]) (fun _ => []) (fun _ => 0) := by
 refine FnSpecX.intro hT (pf Tryz.func74) rfl (by kernel_rfl) Tryz.ntmps74 rfl ?_
 conv => whnf
 refine .inr ⟨_, _, _, _, _, spec_l22Args_spec code hl, fun ⟨t, c, i1, u1⟩ ⟨ht, hc, hi1⟩ => ⟨rfl, ?_⟩⟩
 dsimp only at ht hc hi1
 obtain ⟨a1, a2, a3, a4, a5, a6, a7, ss⟩ := c
 dsimp only at hc
 conv => whnf
 refine ifB_i (fun h1 => ?_) (fun h1 => ?_) <;> (conv => whnf)
 ·refine .inr (.inr (.inr (.inr (.inl ⟨2, ?_⟩))))
  conv => whnf
  refine ⟨_, _, _, _, _, _, spec_l1Once_spec code i1 u1 8 hi1 hl, fun ⟨b, i2, u2⟩ hi2 => ⟨rfl, ?_⟩⟩
  dsimp only at hi2
  cases b with
  | true =>
   conv => whnf
   refine tri_rp 3 ?_
   conv => whnf
   refine tri_rp 4 ?_
   conv => whnf
   refine tri_every hT hmix [2, 3] { t := [(2, .c (.ptr 0 0)), (3, .c (.ptr 1 0))], h := [(0, .box t_impl_Table (cTb t)), (1, .box t_impl_Config (cCf (⟨a1, a2, a3, a4, a5, a6, a7, ss⟩ : Cfg)))], n := 2, N := 30 } rfl ?_ ?_
   ·repeat' first
     | (refine anyV_one rfl ?_; (conv => whnf))
     | (refine anyV_two rfl ?_ ?_ <;> (conv => whnf))
     | (refine anyV_three rfl ?_ ?_ ?_ <;> (conv => whnf))
     | (refine anyV_four rfl ?_ ?_ ?_ ?_ <;> (conv => whnf))
     | (refine anyV_end rfl ?_; (conv => whnf); first | done | rfl)
   ·conv => whnf
    refine ⟨(t, (⟨a1, a2, a3, a4, a5, a6, a7, ss⟩ : Cfg)), ⟨ht, hc⟩, ?_⟩
    conv => whnf
    first | done | rfl
  | false =>
   conv => whnf
   rw [show nInt (dLen (eL cS t.names)) = (t.names.length : Int) by simp]
   refine .inr (.inr (.inr (.inr (.inl ⟨2, ?_⟩))))
   conv => whnf
   refine ⟨_, _, _, _, _, _, spec_l26Signs_spec code i2 u2 t.names.length hi2 hl (by have := ht.names; omega), fun ⟨s2, i3, u3⟩ ⟨hs2, hi3⟩ => ⟨rfl, ?_⟩⟩
   dsimp only at hs2 hi3
   conv => whnf
   refine tri_fz 4 7 ?_
   conv => whnf
   refine tri_rp 3 ?_
   conv => whnf
   refine tri_rp 4 ?_
   conv => whnf
   refine tri_every hT hmix [2, 3] { t := [(2, .c (.ptr 0 0)), (3, .c (.ptr 1 0))], h := [(0, .box t_impl_Table (cTb t)), (1, .box t_impl_Config (cCf (⟨a1, a2, a3, a4, a5, a6, a7, s2⟩ : Cfg)))], n := 2, N := 30 } rfl ?_ ?_
   ·repeat' first
     | (refine anyV_one rfl ?_; (conv => whnf))
     | (refine anyV_two rfl ?_ ?_ <;> (conv => whnf))
     | (refine anyV_three rfl ?_ ?_ ?_ <;> (conv => whnf))
     | (refine anyV_four rfl ?_ ?_ ?_ ?_ <;> (conv => whnf))
     | (refine anyV_end rfl ?_; (conv => whnf); first | done | rfl)
   ·conv => whnf
    refine ⟨(t, (⟨a1, a2, a3, a4, a5, a6, a7, s2⟩ : Cfg)), ⟨ht, by have := ht.names; dsimp only; omega⟩, ?_⟩
    conv => whnf
    first | done | rfl
 ·refine tri_rp 3 ?_
  conv => whnf
  refine tri_rp 4 ?_
  conv => whnf
  refine tri_every hT hmix [2, 3] { t := [(2, .c (.ptr 0 0)), (3, .c (.ptr 1 0))], h := [(0, .box t_impl_Table (cTb t)), (1, .box t_impl_Config (cCf (⟨a1, a2, a3, a4, a5, a6, a7, ss⟩ : Cfg)))], n := 2, N := 30 } rfl ?_ ?_
  ·repeat' first
    | (refine anyV_one rfl ?_; (conv => whnf))
    | (refine anyV_two rfl ?_ ?_ <;> (conv => whnf))
    | (refine anyV_three rfl ?_ ?_ ?_ <;> (conv => whnf))
    | (refine anyV_four rfl ?_ ?_ ?_ ?_ <;> (conv => whnf))
    | (refine anyV_end rfl ?_; (conv => whnf); first | done | rfl)
  ·conv => whnf
   refine ⟨(t, (⟨a1, a2, a3, a4, a5, a6, a7, ss⟩ : Cfg)), ⟨ht, hc⟩, ?_⟩
   conv => whnf
   first | done | rfl
end Go.H.S
namespace Go.H.S
open Go Go.Proofs Go.H
attribute [local irreducible] Tri FnSpec FnSpecM FnSpecX FnSpecJ
def gAt (grads : List Int) (r : Int) : Int := (grads[r.toNat]?).getD 0
def sumR (grads : List Int) : List Int → Int
 | [] => 0
 | r :: rs => gAt grads r + sumR grads rs
theorem sumR_snoc (grads : List Int) : ∀ (rs : List Int) (r : Int), sumR grads (rs ++ [r]) = sumR grads rs + gAt grads r
 | [], r => by simp [sumR]
 | x :: rs, r => by simp only [List.cons_append, sumR, sumR_snoc grads rs r]; omega
theorem sumR_take {grads rows : List Int} {k : Nat} {x : Int} (h : rows[k]? = some x) : sumR grads (rows.take (k + 1)) = sumR grads (rows.take k) + gAt grads x := by
 rw [List.take_add_one, h, Option.toList_some, sumR_snoc]
def gradsP (grads : List Int) : Prop := ∀ x ∈ grads, -2199023255552 ≤ x ∧ x ≤ 2199023255552
theorem gAt_in {grads : List Int} (h : gradsP grads) (r : Int) : -2199023255552 ≤ gAt grads r ∧ gAt grads r ≤ 2199023255552 := by
 unfold gAt
 cases hr : grads[r.toNat]? with
 | none => simp
 | some x => exact h x (List.mem_of_getElem? hr)
theorem sumR_in {grads : List Int} (h : gradsP grads) : ∀ rs : List Int, -2199023255552 * (rs.length : Int) ≤ sumR grads rs ∧ sumR grads rs ≤ 2199023255552 * (rs.length : Int)
 | [] => by simp [sumR]
 | r :: rs => by
  have h1 := gAt_in h r
  have h2 := sumR_in h rs
  simp only [sumR, List.length_cons]
  omega
theorem spec_l19Sum_spec (grads rows : List Int) (hg : gradsP grads) (hl : rows.length ≤ 40) (hr : ∀ r ∈ rows, 0 ≤ r ∧ r < (grads.length : Int)) :
  FnSpec PR f_spec_l19Sum [aIs grads, aIs rows] (aB (rows.length, sumR grads rows)) [] 0 := by
 refine FnSpec.intro hT (pf Tryz.func91) rfl (by kernel_rfl) Tryz.ntmps91 rfl ?_
 conv => whnf
 refine tri_loop hT [0, 1, 4, 5, 6] (α := Nat) (fun x => { t := [(0, aIs grads), (1, aIs rows), (4, .c (.ptr 0 0)), (5, .c (.ptr 1 0)), (6, ai x)], h := [(0, .box t_impl_Slot (cB (0, 0))), (1, .box t_impl_Slot (cB (x, sumR grads (rows.take x))))], n := 2, N := 29 })
  (fun x => x ≤ rows.length) (fun x => rows.length - x) 0 (by first | ((conv => whnf); done) | ((conv => whnf); rfl)) (Nat.zero_le _) ?_
 intro k hk
 conv => whnf
 rw [show nInt (dLen (eL cI rows)) = (rows.length : Int) by simp]
 refine ifB_i (fun h1 => ?_) (fun h1 => ?_) <;> (conv => whnf) <;> simp only [eH] at h1
 ·obtain ⟨x, hx⟩ := get_lt (show k < rows.length by omega)
  have hxr := hr x (List.mem_of_getElem? hx)
  obtain ⟨y, hy⟩ := get_lt (show x.toNat < grads.length by omega)
  have hxn : x = (x.toNat : Int) := by omega
  have hs := sumR_take (grads := grads) hx
  have hgx : gAt grads x = y := by unfold gAt; rw [hy]; rfl
  have hb := sumR_in hg (rows.take k)
  have hy2 := hg y (List.mem_of_getElem? hy)
  rw [List.length_take] at hb
  have e1 : wAdd .i64 (k : Int) 1 = ((k + 1 : Nat) : Int) := by rw [wAdd64] <;> omega
  have e2 : wAdd .i64 (sumR grads (rows.take k)) y = sumR grads (rows.take (k + 1)) := by rw [hs, hgx, wAdd64] <;> omega
  refine tri_every hT hmix [0, 1, 4, 5, 6] { t := [(0, aIs grads), (1, aIs rows), (4, .c (.ptr 0 0)), (5, .c (.ptr 1 0)), (6, ai k)], h := [(0, .box t_impl_Slot (cB (0, 0))), (1, .box t_impl_Slot (cB ((k + 1 : Nat), sumR grads (rows.take (k + 1)))))], n := 2, N := 29 } rfl ?_ ?_
  ·repeat' first
    | (refine anyV_one rfl ?_; (conv => whnf))
    | (refine anyV_two rfl ?_ ?_ <;> (conv => whnf))
    | (refine anyV_three rfl ?_ ?_ ?_ <;> (conv => whnf))
    | (refine anyV_four rfl ?_ ?_ ?_ ?_ <;> (conv => whnf))
    | (refine idx_at rfl hx ?_; (conv => whnf))
    | (refine idx_at hxn hy ?_; (conv => whnf))
    | (refine anyV_end rfl ?_; (conv => whnf); first | done | rfl | (rw [e1, e2]; done) | (rw [e1, e2]; rfl))
  conv => whnf
  refine ⟨k + 1, by omega, by omega, ?_⟩
  ((conv => whnf); simp only [eS, e1])
 ·obtain rfl : k = rows.length := by omega
  rw [List.take_length]
def cfgNums (c : Cfg) : List Int := [c.rounds, c.depth, c.bins, c.lambda, c.rows]
def cfgLow : List Int := [1, 0, 2, 1, 1]
def cfgHigh : List Int := [8, 4, 8, 100, 20]
def cfgP (c : Cfg) : Prop := (∀ (k : Nat) (x lo hi : Int), (cfgNums c)[k]? = some x → cfgLow[k]? = some lo → cfgHigh[k]? = some hi → lo ≤ x ∧ x ≤ hi) ∧ (∀ s ∈ c.signs, -1 ≤ s ∧ s ≤ 1) ∧ (1 ≤ c.den ∧ c.den ≤ 1000) ∧ (1 ≤ c.num ∧ c.num ≤ c.den) ∧ c.signs.length ≤ 4
noncomputable def cfgOk (c : Cfg) : Bool := @decide (cfgP c) (Classical.propDecidable _)
theorem cfgOk_t {c : Cfg} (h : cfgP c) : cfgOk c = true := by unfold cfgOk; exact @decide_eq_true _ (Classical.propDecidable _) h
theorem cfgOk_f {c : Cfg} (h : ¬ cfgP c) : cfgOk c = false := by unfold cfgOk; exact @decide_eq_false _ (Classical.propDecidable _) h
theorem cfgOk_iff {c : Cfg} : cfgOk c = true ↔ cfgP c := by
 constructor
 ·intro h
  rcases Classical.em (cfgP c) with q | q
  ·exact q
  ·rw [cfgOk_f q] at h; cases h
 ·exact cfgOk_t
theorem cfg_five (c : Cfg) : (∀ (k : Nat) (x lo hi : Int), (cfgNums c)[k]? = some x → cfgLow[k]? = some lo → cfgHigh[k]? = some hi → lo ≤ x ∧ x ≤ hi) ↔ ((1 ≤ c.rounds ∧ c.rounds ≤ 8) ∧ (0 ≤ c.depth ∧ c.depth ≤ 4) ∧ (2 ≤ c.bins ∧ c.bins ≤ 8) ∧ (1 ≤ c.lambda ∧ c.lambda ≤ 100) ∧ (1 ≤ c.rows ∧ c.rows ≤ 20)) := by
 constructor
 ·intro h
  exact ⟨h 0 _ _ _ rfl rfl rfl, h 1 _ _ _ rfl rfl rfl, h 2 _ _ _ rfl rfl rfl, h 3 _ _ _ rfl rfl rfl, h 4 _ _ _ rfl rfl rfl⟩
 ·rintro ⟨h0, h1, h2, h3, h4⟩ k x lo hi hx hl hh
  match k with
  | 0 => cases hx; cases hl; cases hh; exact h0
  | 1 => cases hx; cases hl; cases hh; exact h1
  | 2 => cases hx; cases hl; cases hh; exact h2
  | 3 => cases hx; cases hl; cases hh; exact h3
  | 4 => cases hx; cases hl; cases hh; exact h4
  | k + 5 => simp [cfgNums] at hx
theorem spec_l8Numbers_spec (c : Cfg) : FnSpec PR f_spec_l8Numbers [aCf c] (.c (.ref 0 0 none)) [(0, .arr t_int 1 0 .own (eL cI (cfgNums c)))] 1 := by
 refine FnSpec.intro hT (pf Tryz.func162) rfl (by kernel_rfl) Tryz.ntmps162 rfl ?_
 conv => whnf
 simp only [cfgNums, eL_cons, eL_nil]
 rfl
theorem spec_l8Least_spec : FnSpec PR f_spec_l8Least [] (.c (.ref 0 0 none)) [(0, .arr t_int 1 0 .own (eL cI cfgLow))] 1 := by
 refine FnSpec.intro hT (pf Tryz.func163) rfl (by kernel_rfl) Tryz.ntmps163 rfl ?_
 conv => whnf
 simp only [cfgLow, eL_cons, eL_nil]
 rfl
theorem spec_l8Most_spec : FnSpec PR f_spec_l8Most [] (.c (.ref 0 0 none)) [(0, .arr t_int 1 0 .own (eL cI cfgHigh))] 1 := by
 refine FnSpec.intro hT (pf Tryz.func164) rfl (by kernel_rfl) Tryz.ntmps164 rfl ?_
 conv => whnf
 simp only [cfgHigh, eL_cons, eL_nil]
 rfl
theorem spec_ConfigOk_spec (c : Cfg) (hl : c.signs.length ≤ 1048576) : FnSpec PR f_spec_ConfigOk [aCf c] (ab (cfgOk c)) [] 0 := by
 refine FnSpec.intro hT (pf Tryz.func64) rfl (by kernel_rfl) Tryz.ntmps64 rfl ?_
 conv => whnf
 refine .inl ⟨_, _, _, spec_l8Numbers_spec c, rfl, ?_⟩
 conv => whnf
 refine tri_rp 0 ?_
 conv => whnf
 have hnl : (cfgNums c).length = 5 := rfl
 have l1 : cfgLow.length = 5 := rfl
 have l2 : cfgHigh.length = 5 := rfl
 refine tri_loop hT [1, 3, 4] (α := Nat) (fun x => { t := [(1, .c (.d (.rp [.int .i64 c.rounds, .int .i64 c.depth, .int .i64 c.bins, .int .i64 c.lambda, .int .i64 c.rows, .int .i64 c.num, .int .i64 c.den, .sl 1 (eL cI c.signs)]))), (3, aIs (cfgNums c)), (4, ai x)], h := [], n := 0, N := 56 })
  (fun x => x ≤ 5 ∧ ∀ (k : Nat) (x' lo hi : Int), k < x → (cfgNums c)[k]? = some x' → cfgLow[k]? = some lo → cfgHigh[k]? = some hi → lo ≤ x' ∧ x' ≤ hi) (fun x => 5 - x) 0 (by first | ((conv => whnf); done) | ((conv => whnf); rfl)) ⟨Nat.zero_le _, fun k _ _ _ h => by omega⟩ ?_
 intro k ⟨hk, hr⟩
 conv => whnf
 refine ifB_i (fun h1 => ?_) (fun h1 => ?_) <;> (conv => whnf) <;> simp only [eH] at h1
 ·obtain ⟨x, hx⟩ := get_lt (show k < (cfgNums c).length by rw [hnl]; omega)
  obtain ⟨lo, hlo⟩ := get_lt (show k < cfgLow.length by rw [show cfgLow.length = 5 from rfl]; omega)
  obtain ⟨hi, hhi⟩ := get_lt (show k < cfgHigh.length by rw [show cfgHigh.length = 5 from rfl]; omega)
  refine tri_every hT hmix [1, 3, 4, 25] { t := [(1, .c (.d (.rp [.int .i64 c.rounds, .int .i64 c.depth, .int .i64 c.bins, .int .i64 c.lambda, .int .i64 c.rows, .int .i64 c.num, .int .i64 c.den, .sl 1 (eL cI c.signs)]))), (3, aIs (cfgNums c)), (4, ai k), (25, ab (bNot (decide (lo ≤ x ∧ x ≤ hi))))], h := [], n := 0, N := 56 } rfl ?_ ?_
  ·repeat' first
    | (refine anyV_one rfl ?_; (conv => whnf))
    | (refine anyV_two rfl ?_ ?_ <;> (conv => whnf))
    | (refine anyV_three rfl ?_ ?_ ?_ <;> (conv => whnf))
    | (refine idx_at rfl hx ?_; (conv => whnf))
    | (refine .inl ⟨_, _, _, spec_l8Least_spec, rfl, ?_⟩; (conv => whnf))
    | (refine .inl ⟨_, _, _, spec_l8Most_spec, rfl, ?_⟩; (conv => whnf))
    | (refine ref_at (k := k) rfl (by first | omega | (simp only [eL_length, l1]; omega) | (simp only [eL_length, l2]; omega) | (simp [l1, l2]; omega)) ?_; (conv => whnf))
    | (refine ld_at (by simp) hlo ?_; (conv => whnf))
    | (refine ld_at (by simp) hhi ?_; (conv => whnf))
    | (refine .inl ⟨_, _, _, spec_l1In_spec _ _ _, rfl, ?_⟩; (conv => whnf))
    | (refine anyV_end rfl ?_; (conv => whnf); first | done | rfl)
  conv => whnf
  cases h2 : decide (lo ≤ x ∧ x ≤ hi)
  ·rw [decide_eq_false_iff_not] at h2
   conv => whnf
   rw [cfgOk_f (fun q => h2 (q.1 k x lo hi hx hlo hhi))]
  ·rw [decide_eq_true_iff] at h2
   conv => whnf
   refine ⟨k + 1, by omega, ⟨by omega, fun j x' lo' hi' hj a1 a2 a3 => ?_⟩, ?_⟩
   ·rcases Nat.lt_or_ge j k with q | q
    ·exact hr j x' lo' hi' q a1 a2 a3
    ·obtain rfl : j = k := by omega
     rw [hx] at a1; rw [hlo] at a2; rw [hhi] at a3
     cases a1; cases a2; cases a3
     exact h2
   have e1 : wAdd .i64 (k : Int) 1 = ((k + 1 : Nat) : Int) := by rw [wAdd64] <;> omega
   ((conv => whnf); simp only [eS, e1])
 ·obtain rfl : k = 5 := by omega
  have h5 := (cfg_five c).1 (fun j x lo hi a1 a2 a3 => hr j x lo hi (by have := (List.getElem?_eq_some_iff.1 a1).1; omega) a1 a2 a3)
  refine tri_loop hT [1, 5] (α := Nat) (fun x => { t := [(1, .c (.d (.rp [.int .i64 c.rounds, .int .i64 c.depth, .int .i64 c.bins, .int .i64 c.lambda, .int .i64 c.rows, .int .i64 c.num, .int .i64 c.den, .sl 1 (eL cI c.signs)]))), (5, ai x)], h := [], n := 0, N := 56 })
   (fun x => x ≤ c.signs.length ∧ ∀ (j : Nat) (y : Int), j < x → c.signs[j]? = some y → -1 ≤ y ∧ y ≤ 1) (fun x => c.signs.length - x) 0 (by first | ((conv => whnf); done) | ((conv => whnf); rfl)) ⟨Nat.zero_le _, fun k _ h => by omega⟩ ?_
  intro i ⟨hi, hq⟩
  conv => whnf
  rw [show nInt (dLen (eL cI c.signs)) = (c.signs.length : Int) by simp]
  refine ifB_i (fun h6 => ?_) (fun h6 => ?_) <;> (conv => whnf) <;> simp only [eH] at h6
  ·obtain ⟨y, hy⟩ := get_lt (show i < c.signs.length by omega)
   refine idx_at rfl hy ?_
   conv => whnf
   refine .inl ⟨_, _, _, spec_l1In_spec _ _ _, rfl, ?_⟩
   conv => whnf
   cases h7 : decide (-1 ≤ y ∧ y ≤ 1)
   ·rw [decide_eq_false_iff_not] at h7
    conv => whnf
    rw [cfgOk_f (fun q => h7 (q.2.1 y (List.mem_of_getElem? hy)))]
   ·rw [decide_eq_true_iff] at h7
    conv => whnf
    refine ⟨i + 1, by omega, ⟨by omega, fun j z hj hz => ?_⟩, ?_⟩
    ·rcases Nat.lt_or_ge j i with q | q
     ·exact hq j z q hz
     ·obtain rfl : j = i := by omega
      rw [hy] at hz; cases hz; exact h7
    have e1 : wAdd .i64 (i : Int) 1 = ((i + 1 : Nat) : Int) := by rw [wAdd64] <;> omega
    ((conv => whnf); simp only [eS, e1])
  ·obtain rfl : i = c.signs.length := by omega
   have h8 : ∀ s ∈ c.signs, -1 ≤ s ∧ s ≤ 1 := fun s hs => by
    obtain ⟨j, hj⟩ := List.mem_iff_getElem?.1 hs
    exact hq j s (List.getElem?_eq_some_iff.1 hj).1 hj
   refine .inl ⟨_, _, _, spec_l1In_spec _ _ _, rfl, ?_⟩
   cases h9 : decide (1 ≤ c.den ∧ c.den ≤ 1000)
   ·rw [decide_eq_false_iff_not] at h9
    conv => whnf
    rw [cfgOk_f (fun q => h9 q.2.2.1)]
   rw [decide_eq_true_iff] at h9
   conv => whnf
   refine .inl ⟨_, _, _, spec_l1In_spec _ _ _, rfl, ?_⟩
   cases h10 : decide (1 ≤ c.num ∧ c.num ≤ c.den)
   ·rw [decide_eq_false_iff_not] at h10
    conv => whnf
    rw [cfgOk_f (fun q => h10 q.2.2.2.1)]
   rw [decide_eq_true_iff] at h10
   conv => whnf
   rw [show nInt (dLen (eL cI c.signs)) = (c.signs.length : Int) by simp]
   cases h11 : iLe (c.signs.length : Int) 4
   ·simp at h11
    rw [cfgOk_f (fun q => by have := q.2.2.2.2; omega)]
   ·simp at h11
    rw [cfgOk_t ⟨(cfg_five c).2 h5, h8, h9, h10, by omega⟩]
def taskP (g : Grd) (grads : List Int) (c : Cfg) : Prop := gridP g ∧ cfgP c ∧ grads.length = rowsIn g ∧ gradsP grads
noncomputable def taskOk (g : Grd) (grads : List Int) (c : Cfg) : Bool := @decide (taskP g grads c) (Classical.propDecidable _)
theorem taskOk_t {g : Grd} {grads : List Int} {c : Cfg} (h : taskP g grads c) : taskOk g grads c = true := by unfold taskOk; exact @decide_eq_true _ (Classical.propDecidable _) h
theorem taskOk_f {g : Grd} {grads : List Int} {c : Cfg} (h : ¬ taskP g grads c) : taskOk g grads c = false := by unfold taskOk; exact @decide_eq_false _ (Classical.propDecidable _) h
theorem spec_TaskOk_spec (g : Grd) (grads : List Int) (c : Cfg) (hg : smG g) (hr : grads.length ≤ 1048576) (hc : c.signs.length ≤ 1048576) : FnSpec PR f_spec_TaskOk [aG g, aIs grads, aCf c] (ab (taskOk g grads c)) [] 0 := by
 refine FnSpec.intro hT (pf Tryz.func111) rfl (by kernel_rfl) Tryz.ntmps111 rfl ?_
 conv => whnf
 refine .inl ⟨_, _, _, spec_GridOk_spec g hg, rfl, ?_⟩
 cases h1 : gridOk g
 ·conv => whnf
  rw [taskOk_f (fun q => by rw [gridOk_t q.1] at h1; cases h1)]
 rw [gridOk_iff] at h1
 conv => whnf
 refine .inl ⟨_, _, _, spec_ConfigOk_spec c hc, rfl, ?_⟩
 cases h2 : cfgOk c
 ·conv => whnf
  rw [taskOk_f (fun q => by rw [cfgOk_t q.2.1] at h2; cases h2)]
 rw [cfgOk_iff] at h2
 conv => whnf
 refine .inl ⟨_, _, _, spec_RowsIn_spec g, rfl, ?_⟩
 rw [show nInt (dLen (eL cI grads)) = (grads.length : Int) by simp]
 conv => whnf
 cases h3 : iEq (grads.length : Int) (rowsIn g : Int)
 ·conv => whnf
  simp at h3
  rw [taskOk_f (fun q => by have := q.2.2.1; omega)]
 simp at h3
 conv => whnf
 refine tri_loop hT [1, 7] (α := Nat) (fun x => { t := [(1, aIs grads), (7, ai x)], h := [], n := 0, N := 35 })
  (fun x => x ≤ grads.length ∧ ∀ (j : Nat) (y : Int), j < x → grads[j]? = some y → -2199023255552 ≤ y ∧ y ≤ 2199023255552) (fun x => grads.length - x) 0 (by first | ((conv => whnf); done) | ((conv => whnf); rfl)) ⟨Nat.zero_le _, fun k _ h => by omega⟩ ?_
 intro i ⟨hi, hq⟩
 conv => whnf
 rw [show nInt (dLen (eL cI grads)) = (grads.length : Int) by simp]
 refine ifB_i (fun h6 => ?_) (fun h6 => ?_) <;> (conv => whnf) <;> simp only [eH] at h6
 ·obtain ⟨y, hy⟩ := get_lt (show i < grads.length by omega)
  refine idx_at rfl hy ?_
  conv => whnf
  refine .inl ⟨_, _, _, spec_l1In_spec _ _ _, rfl, ?_⟩
  conv => whnf
  cases h7 : decide (-2199023255552 ≤ y ∧ y ≤ 2199023255552)
  ·rw [decide_eq_false_iff_not] at h7
   conv => whnf
   rw [taskOk_f (fun q => h7 (q.2.2.2 y (List.mem_of_getElem? hy)))]
  ·rw [decide_eq_true_iff] at h7
   conv => whnf
   refine ⟨i + 1, by omega, ⟨by omega, fun j z hj hz => ?_⟩, ?_⟩
   ·rcases Nat.lt_or_ge j i with q | q
    ·exact hq j z q hz
    ·obtain rfl : j = i := by omega
     rw [hy] at hz; cases hz; exact h7
   have e1 : wAdd .i64 (i : Int) 1 = ((i + 1 : Nat) : Int) := by rw [wAdd64] <;> omega
   ((conv => whnf); simp only [eS, e1])
 ·obtain rfl : i = grads.length := by omega
  rw [taskOk_t ⟨h1, h2, by omega, fun s hs => by
   obtain ⟨j, hj⟩ := List.mem_iff_getElem?.1 hs
   exact hq j s (List.getElem?_eq_some_iff.1 hj).1 hj⟩]
end Go.H.S
namespace Go.H.S
open Go Go.Proofs Go.H
theorem wrapU (x : Int) : IntKind.wrap .u64 x = x % 18446744073709551616 := by simp [IntKind.wrap, IntKind.bits, IntKind.signed]
theorem wAddU {x y : Int} (h1 : 0 ≤ x + y) (h2 : x + y < 18446744073709551616) : wAdd .u64 x y = x + y := by unfold wAdd; rw [wrapU]; omega
theorem wAddU_mod (x y : Int) : wAdd .u64 x y = (x + y) % 18446744073709551616 := by unfold wAdd; rw [wrapU]
theorem wMulU_mod (x y : Int) : wMul .u64 x y = (x * y) % 18446744073709551616 := by unfold wMul; rw [wrapU]
theorem wConvU_mod (x : Int) : wConv .u64 x = x % 18446744073709551616 := by unfold wConv; rw [wrapU]
theorem wAndU32 (x : Nat) (h : x < 18446744073709551616) : wAnd .u64 (x : Int) 4294967295 = ((x % 4294967296 : Nat) : Int) := by
 have h127 : (BitVec.ofInt 64 4294967295).toNat = 2 ^ 32 - 1 := by decide
 have key : (BitVec.ofInt 64 (x : Int) &&& BitVec.ofInt 64 4294967295).toNat = x % 4294967296 := by
  rw [BitVec.toNat_and, BitVec.toNat_ofInt, h127, Nat.and_two_pow_sub_one_eq_mod]
  omega
 unfold wAnd wrapB
 show IntKind.u64.wrap ((BitVec.ofInt 64 (x : Int) &&& BitVec.ofInt 64 4294967295).toNat : Nat) = _
 rw [key, wrapU]
 omega
theorem wShrU32 (x : Nat) : wShr .u64 (x : Int) 32 = ((x / 4294967296 : Nat) : Int) := by
 unfold wShr
 show (x : Int).fdiv (2 ^ 32) = _
 rw [Int.fdiv_eq_ediv_of_nonneg _ (by decide)]; rfl
theorem wShlU32 (x : Nat) : wShl .u64 (x : Int) 32 = ((x * 4294967296 % 18446744073709551616 : Nat) : Int) := by
 unfold wShl
 show IntKind.u64.wrap ((x : Int) * 2 ^ 32) = _
 rw [wrapU]
 omega
theorem wMulU (x y : Nat) (h : x * y < 18446744073709551616) : wMul .u64 (x : Int) (y : Int) = ((x * y : Nat) : Int) := by
 rw [wMulU_mod, show (x : Int) * (y : Int) = ((x * y : Nat) : Int) by simp]; omega
theorem wAddU_nat (x y : Nat) (h : x + y < 18446744073709551616) : wAdd .u64 (x : Int) (y : Int) = ((x + y : Nat) : Int) := by
 rw [wAddU] <;> omega
theorem mul64_lo (x y : Nat) (hx : x < 18446744073709551616) (hy : y < 18446744073709551616) :
  (((x / 4294967296) * (y % 4294967296) + (x % 4294967296) * (y % 4294967296) / 4294967296) % 4294967296 + (x % 4294967296) * (y / 4294967296)) % 4294967296 * 4294967296 +
   (x % 4294967296) * (y % 4294967296) % 4294967296 = x * y % 18446744073709551616 := by
 have e : x * y = (x / 4294967296) * (y / 4294967296) * (4294967296 * 4294967296) + ((x / 4294967296) * (y % 4294967296) + (x % 4294967296) * (y / 4294967296)) * 4294967296 + (x % 4294967296) * (y % 4294967296) := by
  rw [← Go.Lib.split_mul, Nat.div_add_mod' x 4294967296, Nat.div_add_mod' y 4294967296]
 rw [e]
 generalize (x / 4294967296) * (y / 4294967296) = a at *
 generalize (x / 4294967296) * (y % 4294967296) = b at *
 generalize (x % 4294967296) * (y / 4294967296) = c at *
 generalize (x % 4294967296) * (y % 4294967296) = d at *
 omega
def hiU (n : Int) : Int := ((n.natAbs / 18446744073709551616 : Nat) : Int)
def loU (n : Int) : Int := ((n.natAbs % 18446744073709551616 : Nat) : Int)
theorem hl (n : Int) : (n.natAbs : Int) = hiU n * 18446744073709551616 + loU n ∧ 0 ≤ loU n ∧ loU n < 18446744073709551616 ∧ 0 ≤ hiU n := by unfold hiU loU; omega
def sgnI (n : Int) : Int := if n < 0 then -1 else if n = 0 then 0 else 1
abbrev tupUU (a b : Nat) : AV := .tup [(false, [.d (.int .u64 (a : Int))]), (false, [.d (.int .u64 (b : Int))])]
end Go.H.S
namespace Go.H.S
open Go Go.Proofs Go.H
def cSl (s : Int × Int) : List D := [.int .i64 s.1, .int .i64 s.2]
def cHs (h : List (Int × Int)) : List D := [.sl 2 (eL cSl h)]
structure Cd where
 f : Int
 b : Int
 l : Int × Int
 r : Int × Int
 deriving DecidableEq
def cCd (c : Cd) : List D := [.int .i64 c.f, .int .i64 c.b, .int .i64 c.l.1, .int .i64 c.l.2, .int .i64 c.r.1, .int .i64 c.r.2]
abbrev cCV (c : Cd) : List CV := [.d (.int .i64 c.f), .d (.int .i64 c.b), .d (.int .i64 c.l.1), .d (.int .i64 c.l.2), .d (.int .i64 c.r.1), .d (.int .i64 c.r.2)]
abbrev aCd (c : Cd) : AV := .agg (cCV c)
def noCd : Cd := ⟨0, 0, (0, 0), (0, 0)⟩
def addS (a b : Int × Int) : Int × Int := (a.1 + b.1, a.2 + b.2)
def subS (a b : Int × Int) : Int × Int := (a.1 - b.1, a.2 - b.2)
def slB (s : Int × Int) : Prop := (-1152921504606846976 ≤ s.1 ∧ s.1 ≤ 1152921504606846976) ∧ (-1152921504606846976 ≤ s.2 ∧ s.2 ≤ 1152921504606846976)
def slotR (grads rows : List Int) : Int × Int := ((rows.length : Int), sumR grads rows)
def binAt (bins : List Int) (r : Int) : Int := (bins[r.toNat]?).getD 0
def histL (bins grads rows : List Int) (n : Nat) : List (Int × Int) := (List.range n).map fun (b : Nat) => slotR grads (rows.filter fun r => decide (binAt bins r = (b : Int)))
theorem histL_len (bins grads rows : List Int) (n : Nat) : (histL bins grads rows n).length = n := by simp [histL]
theorem histL_nil (bins grads : List Int) (n : Nat) : histL bins grads [] n = List.replicate n (0, 0) := by
 apply List.ext_getElem?
 intro i
 rw [histL, List.getElem?_map, List.getElem?_replicate]
 by_cases h : i < n
 ·rw [List.getElem?_range h, if_pos h]; rfl
 ·rw [List.getElem?_eq_none (by simp; omega), if_neg h]; rfl
theorem slotR_snoc (grads rs : List Int) (r : Int) : slotR grads (rs ++ [r]) = addS (slotR grads rs) (1, gAt grads r) := by
 simp only [slotR, addS, sumR_snoc, List.length_append, List.length_cons, List.length_nil]
 rw [show ((rs.length + (0 + 1) : Nat) : Int) = (rs.length : Int) + 1 by omega]
theorem histL_at (bins grads rows : List Int) {n b : Nat} (h : b < n) : (histL bins grads rows n)[b]? = some (slotR grads (rows.filter fun r => decide (binAt bins r = (b : Int)))) := by
 rw [histL, List.getElem?_map, List.getElem?_range h]; rfl
theorem histL_step {bins grads rows : List Int} {n k b : Nat} {x : Int} (hx : rows[k]? = some x) (hb : binAt bins x = (b : Int)) (h : b < n) :
  histL bins grads (rows.take (k + 1)) n = (histL bins grads (rows.take k) n).set b (addS (slotR grads ((rows.take k).filter fun r => decide (binAt bins r = (b : Int)))) (1, gAt grads x)) := by
 apply List.ext_getElem?
 intro i
 by_cases hi : i < n
 ·rw [histL_at bins grads _ hi, List.getElem?_set]
  have ht : (rows.take (k + 1)).filter (fun r => decide (binAt bins r = (i : Int))) = (rows.take k).filter (fun r => decide (binAt bins r = (i : Int))) ++ (if decide (binAt bins x = (i : Int)) then [x] else []) := by
   rw [List.take_add_one, hx, List.filter_append]
   simp only [Option.toList_some, List.filter_cons, List.filter_nil]
  rw [ht]
  by_cases hbi : b = i
  ·subst hbi
   rw [if_pos (decide_eq_true hb), if_pos rfl, if_pos (by rw [histL_len]; exact h), slotR_snoc]
  ·rw [if_neg hbi, histL_at bins grads _ hi, decide_eq_false (by omega)]
   simp
 ·rw [List.getElem?_eq_none (by rw [histL_len]; omega), List.getElem?_eq_none (by rw [List.length_set, histL_len]; omega)]
theorem slotR_in {grads : List Int} (hg : gradsP grads) (rs : List Int) : 0 ≤ (slotR grads rs).1 ∧ -2199023255552 * (slotR grads rs).1 ≤ (slotR grads rs).2 ∧ (slotR grads rs).2 ≤ 2199023255552 * (slotR grads rs).1 := by
 have := sumR_in hg rs
 simp only [slotR]
 omega
def prefS : Int × Int → List (Int × Int) → List (Int × Int)
 | _, [] => []
 | a, s :: r => addS a s :: prefS (addS a s) r
theorem prefS_len : ∀ (l : List (Int × Int)) (a : Int × Int), (prefS a l).length = l.length
 | [], a => rfl
 | s :: r, a => by simp [prefS, prefS_len r]
def candsF (f : Nat) (least : Int) (sums : List (Int × Int)) (n : Nat) : List Cd := (List.range n).filterMap fun (b : Nat) =>
 let l := (sums[b]?).getD (0, 0)
 let r := subS ((sums[sums.length - 1]?).getD (0, 0)) l
 if least ≤ l.1 ∧ least ≤ r.1 then some ⟨(f : Int), (b : Int), l, r⟩ else none
def candsH (hists : List (List (Int × Int))) (least : Int) (n : Nat) : List Cd := (List.range n).flatMap fun (f : Nat) => let sums := prefS (0, 0) ((hists[f]?).getD []); candsF f least sums (sums.length - 1)
theorem candsF_step (f : Nat) (least : Int) (sums : List (Int × Int)) (b : Nat) {l z : Int × Int} (hl : sums[b]? = some l) (hz : sums[sums.length - 1]? = some z) :
  candsF f least sums (b + 1) = candsF f least sums b ++ (if least ≤ l.1 ∧ least ≤ (subS z l).1 then [⟨(f : Int), (b : Int), l, subS z l⟩] else []) := by
 unfold candsF
 rw [List.range_succ, List.filterMap_append]
 simp only [List.filterMap_cons, List.filterMap_nil, hl, hz, Option.getD_some]
 by_cases q : least ≤ l.1 ∧ least ≤ (subS z l).1
 ·rw [if_pos q, if_pos q]
 ·rw [if_neg q, if_neg q]
theorem candsH_step (hists : List (List (Int × Int))) (least : Int) (f : Nat) {h : List (Int × Int)} (hh : hists[f]? = some h) :
  candsH hists least (f + 1) = candsH hists least f ++ candsF f least (prefS (0, 0) h) ((prefS (0, 0) h).length - 1) := by
 unfold candsH
 rw [List.range_succ, List.flatMap_append]
 simp [hh]
def gainS (s : Int × Int) (lam : Int) : Int × Int := (s.2 * s.2, s.1 + lam)
def gainC (c : Cd) (lam : Int) : Int × Int := (c.l.2 * c.l.2 * (c.r.1 + lam) + c.r.2 * c.r.2 * (c.l.1 + lam), (c.l.1 + lam) * (c.r.1 + lam))
def cmpF (a b : Int × Int) : Int := sgnI (a.1 * b.2 - b.1 * a.2)
def impr (c : Cd) (lam : Int) : Bool := decide (0 < cmpF (gainC c lam) (gainS (addS c.l c.r) lam))
def cdLess (a b : Cd) : Bool := decide (a.f < b.f ∨ a.f = b.f ∧ a.b < b.b)
def better (a b : Cd) (lam : Int) : Bool := decide (0 < cmpF (gainC a lam) (gainC b lam)) || (decide (cmpF (gainC a lam) (gainC b lam) = 0) && cdLess a b)
def agrees (sign x y : Int) : Bool := decide ((sign = 1 → x ≤ y) ∧ (sign = -1 → y ≤ x))
def sideL (cfg : Cfg) (b : Int × Int) (c : Cd) : Int := leafV c.l.1 c.l.2 cfg.lambda b
def sideR (cfg : Cfg) (b : Int × Int) (c : Cd) : Int := leafV c.r.1 c.r.2 cfg.lambda b
def mayPart (cfg : Cfg) (b : Int × Int) (c : Cd) : Bool := decide (cfg.rows ≤ c.l.1) && (decide (cfg.rows ≤ c.r.1) && (agrees (signFor cfg c.f) (sideL cfg b c) (sideR cfg b c) && impr c cfg.lambda))
def bestL (cfg : Cfg) (b : Int × Int) (list : List Cd) : Option Cd := (list.filter (mayPart cfg b)).find? fun c => (list.filter (mayPart cfg b)).all fun o => !better o c cfg.lambda
def slP (s : Int × Int) : Prop := (0 ≤ s.1 ∧ s.1 ≤ 40) ∧ (-140737488355328 ≤ s.2 ∧ s.2 ≤ 140737488355328)
def cdP (c : Cd) : Prop := slP c.l ∧ slP c.r ∧ slP (addS c.l c.r) ∧ (0 ≤ c.f ∧ c.f ≤ 1000) ∧ (0 ≤ c.b ∧ c.b ≤ 1000)
theorem sq_in {x A : Int} (h : -A ≤ x ∧ x ≤ A) : 0 ≤ x * x ∧ x * x ≤ A * A := by
 have h1 : 0 ≤ x * x := by
  rcases Int.le_total 0 x with q | q
  ·exact Int.mul_nonneg q q
  ·exact Int.mul_nonneg_of_nonpos_of_nonpos q q
 refine ⟨h1, ?_⟩
 rcases Int.le_total 0 x with q | q
 ·exact Int.mul_le_mul h.2 h.2 q (by omega)
 ·rw [show x * x = (-x) * (-x) by rw [Int.neg_mul_neg]]
  exact Int.mul_le_mul (by omega) (by omega) (by omega) (by omega)
theorem mul_in {x y A B : Int} (hx : 0 ≤ x ∧ x ≤ A) (hy : 0 ≤ y ∧ y ≤ B) : 0 ≤ x * y ∧ x * y ≤ A * B :=
 ⟨Int.mul_nonneg hx.1 hy.1, Int.mul_le_mul hx.2 hy.2 hy.1 (by omega)⟩
def frP (f : Int × Int) : Prop := (0 ≤ f.1 ∧ f.1 ≤ 20282409603651670423947251286016) ∧ (1 ≤ f.2 ∧ f.2 ≤ 19600)
theorem gainS_in {s : Int × Int} {lam : Int} (hs : slP s) (hl : 1 ≤ lam ∧ lam ≤ 100) : (0 ≤ s.2 * s.2 ∧ s.2 * s.2 ≤ 19807040628566084398385987584) ∧ (1 ≤ s.1 + lam ∧ s.1 + lam ≤ 140) := by
 have := sq_in (x := s.2) (A := 140737488355328) hs.2
 have := hs.1
 omega
theorem gainS_fr {s : Int × Int} {lam : Int} (hs : slP s) (hl : 1 ≤ lam ∧ lam ≤ 100) : frP (gainS s lam) := by
 have := gainS_in hs hl
 unfold frP gainS
 dsimp only
 omega
theorem gainC_in {c : Cd} {lam : Int} (hs : slP c.l) (ht : slP c.r) (hl : 1 ≤ lam ∧ lam ≤ 100) : (0 ≤ c.l.2 * c.l.2 * (c.r.1 + lam) ∧ c.l.2 * c.l.2 * (c.r.1 + lam) ≤ 2772985687999251815774038261760) ∧ (0 ≤ c.r.2 * c.r.2 * (c.l.1 + lam) ∧ c.r.2 * c.r.2 * (c.l.1 + lam) ≤ 2772985687999251815774038261760) ∧ (1 ≤ (c.l.1 + lam) * (c.r.1 + lam) ∧ (c.l.1 + lam) * (c.r.1 + lam) ≤ 19600) := by
 have h1 := gainS_in hs hl
 have h2 := gainS_in ht hl
 have h3 := mul_in (x := c.l.2 * c.l.2) (y := c.r.1 + lam) h1.1 ⟨by omega, h2.2.2⟩
 have h4 := mul_in (x := c.r.2 * c.r.2) (y := c.l.1 + lam) h2.1 ⟨by omega, h1.2.2⟩
 have h5 := mul_in (x := c.l.1 + lam) (y := c.r.1 + lam) ⟨by omega, h1.2.2⟩ ⟨by omega, h2.2.2⟩
 have h6 : 0 < (c.l.1 + lam) * (c.r.1 + lam) := Int.mul_pos (by omega) (by omega)
 omega
theorem gainC_fr {c : Cd} {lam : Int} (hs : slP c.l) (ht : slP c.r) (hl : 1 ≤ lam ∧ lam ≤ 100) : frP (gainC c lam) := by
 have := gainC_in hs ht hl
 unfold frP gainC
 dsimp only
 omega
end Go.H.S
namespace Go.H.S
open Go Go.Proofs Go.H
attribute [local irreducible] Tri FnSpec FnSpecM FnSpecX FnSpecJ FnSpecB
theorem halves (x y : Nat) (hx : x < 18446744073709551616) (hy : y < 18446744073709551616) : (x % 4294967296) * (y % 4294967296) < 18446744073709551616 ∧ (x / 4294967296) * (y % 4294967296) < 18446744073709551616 ∧ (x % 4294967296) * (y / 4294967296) < 18446744073709551616 ∧
  (x / 4294967296) * (y / 4294967296) < 18446744073709551616 ∧ x * y / 18446744073709551616 < 18446744073709551616 := by
 have ha := Go.Lib.half_mul_le (a := x / 4294967296) (b := y / 4294967296) (by omega) (by omega)
 have hb := Go.Lib.half_mul_le (a := x / 4294967296) (b := y % 4294967296) (by omega) (by omega)
 have hc := Go.Lib.half_mul_le (a := x % 4294967296) (b := y / 4294967296) (by omega) (by omega)
 have hd := Go.Lib.half_mul_le (a := x % 4294967296) (b := y % 4294967296) (by omega) (by omega)
 have he : x * y ≤ 18446744073709551615 * 18446744073709551615 := Nat.mul_le_mul (by omega) (by omega)
 omega
theorem spec_l3Abs_spec (n : Int) (h : i64 n) : FnSpec PR f_spec_l3Abs [ai n] (.c (.d (.int .u64 (n.natAbs : Int)))) [] 0 := by
 have h' : -9223372036854775808 ≤ n ∧ n ≤ 9223372036854775807 := h
 refine FnSpec.intro hT (pf Tryz.func300) rfl (by kernel_rfl) Tryz.ntmps300 rfl ?_
 conv => whnf
 refine ifB_i (fun g => ?_) (fun g => ?_) <;> (conv => whnf) <;> simp only [eH] at g
 ·have e1 : wNeg .i64 (wAdd .i64 n 1) = -(n + 1) := by rw [wAdd64 (by omega) (by omega)]; unfold wNeg; rw [wrap64 (by omega) (by omega)]; omega
  rw [e1, wAddU_mod, wConvU_mod, show (-(n + 1) % 18446744073709551616 + 1) % 18446744073709551616 = (n.natAbs : Int) by omega]
 ·rw [wConvU_mod, show n % 18446744073709551616 = (n.natAbs : Int) by omega]
theorem spec_l3Product_spec (x y : Nat) (hx : x < 18446744073709551616) (hy : y < 18446744073709551616) : FnSpec PR f_spec_l3Product [.c (.d (.int .u64 x)), .c (.d (.int .u64 y))] (tupUU (x * y / 18446744073709551616) (x * y % 18446744073709551616)) [] 0 := by
 have ⟨h1, h2, h3, h4⟩ := Go.Lib.mul64_hi x y hx hy
 have ⟨g1, g2, g3, g4, g5⟩ := halves x y hx hy
 have h5 := mul64_lo x y hx hy
 refine FnSpec.intro hT (pf Tryz.func299) rfl (by kernel_rfl) Tryz.ntmps299 rfl ?_
 conv => whnf
 repeat (refine And.intro (by unfold NN; omega) ?_; (conv => whnf))
 rw [wShrU32 x, wShrU32 y, wAndU32 x hx, wAndU32 y hy, wMulU _ _ g1, wShrU32, wMulU _ _ g2, wAddU_nat _ _ h2, wShrU32, wAndU32 _ h2, wMulU _ _ g3, wAddU_nat _ _ (by omega), wShrU32, wMulU _ _ g4, wAddU_nat _ _ (by omega), wAddU_nat _ _ (by omega), wShlU32, wAndU32 _ g1, wAddU_nat _ _ (by omega)]
 rw [show x % 4294967296 * (y / 4294967296) + (x / 4294967296 * (y % 4294967296) + x % 4294967296 * (y % 4294967296) / 4294967296) % 4294967296 = (x / 4294967296 * (y % 4294967296) + x % 4294967296 * (y % 4294967296) / 4294967296) % 4294967296 + x % 4294967296 * (y / 4294967296) from Nat.add_comm _ _, h4]
 rw [show ∀ m : Nat, m * 4294967296 % 18446744073709551616 = m % 4294967296 * 4294967296 from fun m => by omega, h5]
theorem natAbs_mul_lt {a b : Int} (ha : i64 a) (hb : i64 b) : a.natAbs < 18446744073709551616 ∧ b.natAbs < 18446744073709551616 := by
 have ha : -9223372036854775808 ≤ a ∧ a ≤ 9223372036854775807 := ha
 have hb : -9223372036854775808 ≤ b ∧ b ≤ 9223372036854775807 := hb
 omega
theorem hl_mul (a b : Int) : hiU (a * b) = ((a.natAbs * b.natAbs / 18446744073709551616 : Nat) : Int) ∧ loU (a * b) = ((a.natAbs * b.natAbs % 18446744073709551616 : Nat) : Int) := by
 unfold hiU loU
 rw [Int.natAbs_mul]; exact ⟨rfl, rfl⟩
abbrev cV (n : Int) : List CV := [.d (.bool false), .d (.int .u64 (hiU n)), .d (.int .u64 (loU n))]
abbrev aV (n : Int) : AV := .agg (cV n)
abbrev tupVB (n : Int) (b : Bool) : AV := .tup [(true, cV n), (false, [.d (.bool b)])]
theorem hlp {n : Int} (h : 0 ≤ n) : n = hiU n * 18446744073709551616 + loU n ∧ 0 ≤ loU n ∧ loU n < 18446744073709551616 ∧ 0 ≤ hiU n := by
 have := hl n; omega
theorem spec_MulWide_sq (a : Int) (ha : i64 a) : FnSpec PR f_spec_MulWide [ai a, ai a] (aV (a * a)) [] 0 := by
 have hn := (natAbs_mul_lt ha ha).1
 have hh := hl_mul a a
 refine FnSpec.intro hT (pf Tryz.func250) rfl (by kernel_rfl) Tryz.ntmps250 rfl ?_
 conv => whnf
 refine .inl ⟨_, _, _, spec_l3Abs_spec a ha, rfl, ?_⟩
 conv => whnf
 refine .inl ⟨_, _, _, spec_l3Abs_spec a ha, rfl, ?_⟩
 conv => whnf
 refine .inl ⟨_, _, _, spec_l3Product_spec _ _ hn hn, rfl, ?_⟩
 conv => whnf
 rw [show bNot (bEq (iLt a 0) (iLt a 0)) = false by cases iLt a 0 <;> rfl]
 conv => whnf
 rw [← hh.1, ← hh.2]
theorem hi_lt {n : Int} (h : 0 ≤ n) (h2 : n < 170141183460469231731687303715884105728) : hiU n < 9223372036854775808 := by
 have := hlp h
 omega
abbrev rawW (hi lo : Int) : AV := .agg [.d (.bool false), .d (.int .u64 hi), .d (.int .u64 lo)]
theorem hn_of {n : Int} (h : 0 ≤ n) (h2 : n < 170141183460469231731687303715884105728) : ∃ hi lo : Nat, hiU n = hi ∧ loU n = lo ∧ n = (hi : Int) * 18446744073709551616 + lo ∧ lo < 18446744073709551616 ∧ hi < 9223372036854775808 := by
 have h3 := hlp h
 have h4 := hi_lt h h2
 exact ⟨(hiU n).toNat, (loU n).toNat, by omega, by omega, by omega, by omega, by omega⟩
theorem hn_eq {n : Int} {hi lo : Nat} (h : n = (hi : Int) * 18446744073709551616 + lo) (hl : lo < 18446744073709551616) : hiU n = hi ∧ loU n = lo := by unfold hiU loU; omega
theorem spec_WideOk_raw (hi lo : Int) (h : hi < 9223372036854775808) : FnSpec PR f_spec_WideOk [rawW hi lo] (ab true) [] 0 := by
 refine FnSpec.intro hT (pf Tryz.func180) rfl (by kernel_rfl) Tryz.ntmps180 rfl ?_
 conv => whnf
 rw [show iLt hi 9223372036854775808 = true from decide_eq_true (by omega)]
 conv => whnf
theorem spec_AddWide_raw (ah al bh bl : Nat) (h1 : ah < 9223372036854775808) (h2 : al < 18446744073709551616) (h3 : bh < 9223372036854775808) (h4 : bl < 18446744073709551616) (h5 : (ah + bh + (al + bl) / 18446744073709551616) < 9223372036854775808) :
  FnSpec PR f_spec_AddWide [rawW ah al, rawW bh bl] (.tup [(true, [.d (.bool false), .d (.int .u64 ((ah + bh + (al + bl) / 18446744073709551616 : Nat) : Int)), .d (.int .u64 (((al + bl) % 18446744073709551616 : Nat) : Int))]), (false, [.d (.bool true)])]) [] 0 := by
 have e1 : wAdd .u64 (al : Int) (bl : Int) = (((al + bl) % 18446744073709551616 : Nat) : Int) := by rw [wAddU_mod]; omega
 have e2 : wAdd .u64 (ah : Int) (bh : Int) = ((ah + bh : Nat) : Int) := by rw [wAddU_mod]; omega
 have e3 : wAdd .u64 ((ah + bh : Nat) : Int) 1 = ((ah + bh + 1 : Nat) : Int) := by rw [wAddU_mod]; omega
 refine FnSpec.intro hT (pf Tryz.func71) rfl (by kernel_rfl) Tryz.ntmps71 rfl ?_
 conv => whnf
 refine .inl ⟨_, _, _, spec_WideOk_raw _ _ (by omega), rfl, ?_⟩
 conv => whnf
 refine .inl ⟨_, _, _, spec_WideOk_raw _ _ (by omega), rfl, ?_⟩
 conv => whnf
 rw [e1, e2]
 refine ifB_i (fun g => ?_) (fun g => ?_) <;> (conv => whnf) <;> simp only [eH] at g
 ·rw [e3]
  rw [show ah + bh + (al + bl) / 18446744073709551616 = ah + bh + 1 by omega]
  refine .inl ⟨_, _, _, spec_WideOk_raw _ _ (by omega), rfl, ?_⟩
  conv => whnf
 ·rw [show ah + bh + (al + bl) / 18446744073709551616 = ah + bh by omega]
  refine .inl ⟨_, _, _, spec_WideOk_raw _ _ (by omega), rfl, ?_⟩
  conv => whnf
theorem spec_AddWide_pos (a b : Int) (ha : 0 ≤ a) (hb : 0 ≤ b) (h : a + b < 170141183460469231731687303715884105728) : FnSpec PR f_spec_AddWide [aV a, aV b] (tupVB (a + b) true) [] 0 := by
 obtain ⟨ah, al, a1, a2, a3, a4, a5⟩ := hn_of ha (by omega)
 obtain ⟨bh, bl, b1, b2, b3, b4, b5⟩ := hn_of hb (by omega)
 have hs : a + b = ((ah + bh + (al + bl) / 18446744073709551616 : Nat) : Int) * 18446744073709551616 + ((al + bl) % 18446744073709551616 : Nat) := by omega
 have hq := hn_eq hs (by omega)
 have := spec_AddWide_raw ah al bh bl a5 a4 b5 b4 (by omega)
 rw [← a1, ← a2, ← b1, ← b2, ← hq.1, ← hq.2] at this
 exact this
end Go.H.S
namespace Go.H.S
open Go Go.Proofs Go.H
attribute [local irreducible] Tri FnSpec FnSpecM FnSpecX FnSpecJ FnSpecB
structure Scaled (hi lo k : Nat) : Prop where
 lo_lt : lo < 18446744073709551616
 k_lt : k < 18446744073709551616
 hi_lt : hi < 9223372036854775808
 room : hi * k + lo * k / 18446744073709551616 < 9223372036854775808
abbrev scaledR (hi lo k : Nat) : AV := .tup [(true, [.d (.bool false), .d (.int .u64 ((hi * k + lo * k / 18446744073709551616 : Nat) : Int)), .d (.int .u64 ((lo * k % 18446744073709551616 : Nat) : Int))]), (false, [.d (.bool true)])]
theorem scaled_of {n k : Int} (hn : 0 ≤ n) (hk : 0 ≤ k ∧ k ≤ 9223372036854775807) (h : n * k < 170141183460469231731687303715884105728) (h2 : n < 170141183460469231731687303715884105728) :
  ∃ hi lo k' : Nat, hiU n = hi ∧ loU n = lo ∧ k = k' ∧ Scaled hi lo k' ∧ hiU (n * k) = ((hi * k' + lo * k' / 18446744073709551616 : Nat) : Int) ∧ loU (n * k) = ((lo * k' % 18446744073709551616 : Nat) : Int) := by
 obtain ⟨hi, lo, e1, e2, e3, e4, e5⟩ := hn_of hn h2
 obtain ⟨k', rfl⟩ : ∃ k' : Nat, k = k' := ⟨k.toNat, by omega⟩
 have hp : n * (k' : Int) = ((hi * k' : Nat) : Int) * 18446744073709551616 + ((lo * k' : Nat) : Int) := by
  rw [e3, Int.add_mul, Int.natCast_mul, Int.natCast_mul, Int.mul_right_comm]
 have hs : n * (k' : Int) = ((hi * k' + lo * k' / 18446744073709551616 : Nat) : Int) * 18446744073709551616 + ((lo * k' % 18446744073709551616 : Nat) : Int) := by
  rw [hp]; generalize hi * k' = p; generalize lo * k' = q; omega
 have hq := hn_eq hs (by generalize lo * k' = q; omega)
 refine ⟨hi, lo, k', e1, e2, rfl, ⟨e4, by omega, e5, ?_⟩, hq.1, hq.2⟩
 rw [hs] at h
 generalize hi * k' + lo * k' / 18446744073709551616 = p at *
 generalize lo * k' % 18446744073709551616 = q at *
 omega
theorem spec_l3Zero_raw (hi lo : Int) : FnSpec PR f_spec_l3Zero [rawW hi lo] (ab (decide (hi = 0 ∧ lo = 0))) [] 0 := by
 refine FnSpec.intro hT (pf Tryz.func182) rfl (by kernel_rfl) Tryz.ntmps182 rfl ?_
 conv => whnf
 cases h : iEq hi 0
 ·conv => whnf
  simp only [eH] at h
  rw [decide_eq_false (fun q : hi = 0 ∧ lo = 0 => h q.1)]
 ·simp only [eH] at h
  conv => whnf
  rw [show decide (hi = 0 ∧ lo = 0) = iEq lo 0 from decide_eq_decide.2 (show (hi = 0 ∧ lo = 0) ↔ lo = 0 from ⟨fun q => q.2, fun q => ⟨h, q⟩⟩)]
theorem spec_ScaleWide_raw (hi lo k : Nat) (hk : k ≤ 9223372036854775807) (h : Scaled hi lo k) : FnSpec PR f_spec_ScaleWide [rawW hi lo, ai k] (scaledR hi lo k) [] 0 := by
 have r := h.room
 have e1 : hi * k / 18446744073709551616 = 0 := by generalize hi * k = p at *; omega
 have e2 : hi * k % 18446744073709551616 = hi * k := by generalize hi * k = p at *; omega
 have hi1 := h.hi_lt; have lo1 := h.lo_lt; have k1 := h.k_lt
 have hlo : lo * k / 18446744073709551616 < 18446744073709551616 := (halves lo k lo1 k1).2.2.2.2
 have e3 : wAdd .u64 ((hi * k : Nat) : Int) ((lo * k / 18446744073709551616 : Nat) : Int) = ((hi * k + lo * k / 18446744073709551616 : Nat) : Int) := by
  rw [wAddU_nat]; generalize hi * k = p at *; generalize lo * k / 18446744073709551616 = q at *; omega
 refine FnSpec.intro hT (pf Tryz.func365) rfl (by kernel_rfl) Tryz.ntmps365 rfl ?_
 conv => whnf
 refine .inl ⟨_, _, _, spec_WideOk_raw _ _ (by omega), rfl, ?_⟩
 conv => whnf
 refine .inl ⟨_, _, _, spec_l3Abs_spec k (show i64 k from ⟨by omega, by omega⟩), rfl, ?_⟩
 conv => whnf
 rw [Int.natAbs_natCast]
 refine .inl ⟨_, _, _, spec_l3Product_spec hi k (by omega) k1, rfl, ?_⟩
 conv => whnf
 refine .inl ⟨_, _, _, spec_l3Product_spec lo k lo1 k1, rfl, ?_⟩
 conv => whnf
 rw [show iLt (k : Int) 0 = false from decide_eq_false (by omega), e1, e2, e3]
 conv => whnf
 refine .inl ⟨_, _, _, spec_l3Zero_raw _ _, rfl, ?_⟩
 conv => whnf
 have e5 : iLt ((hi * k + lo * k / 18446744073709551616 : Nat) : Int) ((hi * k : Nat) : Int) = false := decide_eq_false (by generalize hi * k = p at *; generalize lo * k / 18446744073709551616 = q at *; omega)
 refine ifB_i (fun g => ?_) (fun g => ?_) <;> (conv => whnf)
 ·rw [e5]
  conv => whnf
  refine .inl ⟨_, _, _, spec_WideOk_raw _ _ (by omega), rfl, ?_⟩
  conv => whnf
 ·rw [e5]
  conv => whnf
  rw [show bNot (bEq false false) = false from rfl]
  refine .inl ⟨_, _, _, spec_WideOk_raw _ _ (by omega), rfl, ?_⟩
  conv => whnf
theorem spec_ScaleWide_pos (n k : Int) (hn : 0 ≤ n) (hk : 0 ≤ k ∧ k ≤ 9223372036854775807) (h : n * k < 170141183460469231731687303715884105728) (h2 : n < 170141183460469231731687303715884105728) :
  FnSpec PR f_spec_ScaleWide [aV n, ai k] (tupVB (n * k) true) [] 0 := by
 obtain ⟨hi, lo, k', e1, e2, rfl, hs, e3, e4⟩ := scaled_of hn hk h h2
 have := spec_ScaleWide_raw hi lo k' (by omega) hs
 rw [← e1, ← e2] at this
 show FnSpec PR f_spec_ScaleWide [aV n, ai k'] (.tup [(true, [.d (.bool false), .d (.int .u64 (hiU (n * k'))), .d (.int .u64 (loU (n * k')))]), (false, [.d (.bool true)])]) [] 0
 rw [e3, e4]
 exact this
def cmpI (x y : Int) : Int := if x < y then -1 else if y < x then 1 else 0
def lexI (ah al bh bl : Int) : Int := if cmpI ah bh ≠ 0 then cmpI ah bh else cmpI al bl
theorem lex_sgn {a b : Int} (ha : 0 ≤ a) (hb : 0 ≤ b) : lexI (hiU a) (loU a) (hiU b) (loU b) = sgnI (a - b) := by
 have ga := hlp ha
 have gb := hlp hb
 generalize hiU a = ah at *
 generalize loU a = al at *
 generalize hiU b = bh at *
 generalize loU b = bl at *
 unfold lexI sgnI
 rcases Int.lt_trichotomy ah bh with q | q | q
 ·rw [show cmpI ah bh = -1 from if_pos q, if_pos (by decide), if_pos (by omega)]
 ·subst q
  rw [show cmpI ah ah = 0 by unfold cmpI; rw [if_neg (Int.lt_irrefl _), if_neg (Int.lt_irrefl _)], if_neg (by simp)]
  unfold cmpI
  split
  ·rw [if_pos (by omega)]
  ·split
   ·rw [if_neg (by omega), if_neg (by omega)]
   ·rw [if_neg (by omega), if_pos (by omega)]
 ·rw [show cmpI ah bh = 1 by unfold cmpI; rw [if_neg (by omega), if_pos q], if_pos (by decide), if_neg (by omega), if_neg (by omega)]
theorem lexI_lt {ah al bh bl : Int} (h : ah < bh) : lexI ah al bh bl = -1 := by unfold lexI; rw [show cmpI ah bh = -1 from if_pos h, if_pos (by decide)]
theorem lexI_gt {ah al bh bl : Int} (h : bh < ah) : lexI ah al bh bl = 1 := by unfold lexI; rw [show cmpI ah bh = 1 by unfold cmpI; rw [if_neg (by omega), if_pos h], if_pos (by decide)]
theorem lexI_eq {a al bl : Int} : lexI a al a bl = cmpI al bl := by unfold lexI; rw [show cmpI a a = 0 by unfold cmpI; rw [if_neg (Int.lt_irrefl _), if_neg (Int.lt_irrefl _)], if_neg (by simp)]
theorem spec_l3Order_raw (ah al bh bl : Int) : FnSpec PR f_spec_l3Order [rawW ah al, rawW bh bl] (ai (lexI ah al bh bl)) [] 0 := by
 refine FnSpec.intro hT (pf Tryz.func181) rfl (by kernel_rfl) Tryz.ntmps181 rfl ?_
 conv => whnf
 cases g1 : iLt ah bh <;> simp only [eH] at g1 <;> (conv => whnf)
 ·cases g2 : iEq ah bh <;> simp only [eH] at g2 <;> (conv => whnf)
  ·rw [show iLt bh ah = true from decide_eq_true (by omega)]
   conv => whnf
   rw [lexI_gt (by omega)]
  ·subst g2
   rw [lexI_eq]
   unfold cmpI
   cases g3 : iLt al bl <;> simp only [eH] at g3 <;> (conv => whnf)
   ·rw [show iLt ah ah = false from decide_eq_false (by omega)]
    conv => whnf
    cases g4 : iLt bl al <;> simp only [eH] at g4 <;> (conv => whnf)
    ·rw [if_neg (by omega), if_neg (by omega)]
    ·rw [if_neg (by omega), if_pos g4]
   ·rw [if_pos g3]
 ·rw [lexI_lt g1]
theorem spec_CompareWide_raw (ah al bh bl : Int) : FnSpec PR f_spec_CompareWide [rawW ah al, rawW bh bl] (ai (lexI ah al bh bl)) [] 0 := by
 refine FnSpec.intro hT (pf Tryz.func72) rfl (by kernel_rfl) Tryz.ntmps72 rfl ?_
 conv => whnf
 refine .inl ⟨_, _, _, spec_l3Order_raw _ _ _ _, rfl, ?_⟩
 conv => whnf
theorem spec_CompareWide_pos (a b : Int) (ha : 0 ≤ a) (hb : 0 ≤ b) : FnSpec PR f_spec_CompareWide [aV a, aV b] (ai (sgnI (a - b))) [] 0 := by
 rw [← lex_sgn ha hb]
 exact spec_CompareWide_raw _ _ _ _
abbrev cFr (f : Int × Int) : List CV := [.d (.bool false), .d (.int .u64 (hiU f.1)), .d (.int .u64 (loU f.1)), .d (.int .i64 f.2)]
abbrev aFr (f : Int × Int) : AV := .agg (cFr f)
abbrev rawF (hi lo d : Int) : AV := .agg [.d (.bool false), .d (.int .u64 hi), .d (.int .u64 lo), .d (.int .i64 d)]
abbrev tupFr (f : Int × Int) (b : Bool) : AV := .tup [(true, cFr f), (false, [.d (.bool b)])]
theorem spec_FracOk_raw (hi lo d : Int) (h : hi < 9223372036854775808) (hd : 1 ≤ d ∧ d ≤ 1000000) : FnSpec PR f_spec_FracOk [rawF hi lo d] (ab true) [] 0 := by
 refine FnSpec.intro hT (pf Tryz.func364) rfl (by kernel_rfl) Tryz.ntmps364 rfl ?_
 conv => whnf
 refine .inl ⟨_, _, _, spec_WideOk_raw _ _ h, rfl, ?_⟩
 conv => whnf
 refine .inl ⟨_, _, _, spec_l1In_spec _ _ _, rfl, ?_⟩
 conv => whnf
 rw [decide_eq_true hd]
end Go.H.S
