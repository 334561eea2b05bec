/- Library, part W: TreeOk of the program; it is the reference's. -/
import Derived.Test.YtdolkacinfjhcaaGreatLV
set_option maxRecDepth 100000
set_option linter.unusedSimpArgs false
set_option linter.unusedVariables false
namespace Go.H.S
open Go Go.Proofs Go.H
attribute [local irreducible] Tri FnSpec FnSpecM FnSpecX
theorem impl_isDecimal_spec (x : Int) : FnSpec PR f_impl_isDecimal [ai x] (ab (decide (-2147483647 ≤ x ∧ x ≤ 2147483647))) [] 0 := by
 refine FnSpec.intro hT (pf Tryz.func235) rfl (by kernel_rfl) Tryz.ntmps235 rfl ?_
 conv => whnf
 refine .inl ⟨_, _, _, impl_within_spec _ _ _, rfl, ?_⟩
 conv => whnf
theorem impl_isLeafValue_spec (x : Int) : FnSpec PR f_impl_isLeafValue [ai x] (ab (decide (-1099511627776 ≤ x ∧ x ≤ 1099511627776))) [] 0 := by
 refine FnSpec.intro hT (pf Tryz.func234) rfl (by kernel_rfl) Tryz.ntmps234 rfl ?_
 conv => whnf
 refine .inl ⟨_, _, _, impl_within_spec _ _ _, rfl, ?_⟩
 conv => whnf
theorem impl_LevelOf_spec (t : List Nd) (node : Int) (hl : t.length ≤ 9223372036854775807) : FnSpec PR f_impl_LevelOf [aT t, ai node] (ai ((wayL t node).length - 1)) [] 0 := by
 have hw := wayL_len t node
 refine FnSpec.intro hT (pf Tryz.func96) rfl (by kernel_rfl) Tryz.ntmps96 rfl ?_
 conv => whnf
 refine .inl ⟨_, _, _, impl_wayTo_spec t node hl, rfl, ?_⟩
 ((conv => whnf); simp only [eS, lenRE_none])
 exact wSub64 (by omega) (by omega)
theorem impl_shapeOk_spec (t : List Nd) (ft : Int) (hft : 0 ≤ ft ∧ ft ≤ 4) (hl : t.length ≤ 1048576) : FnSpec PR f_impl_shapeOk [aT t, ai ft] (ab (shapeOk t ft)) [] 0 := by
 refine FnSpec.intro hT (pf Tryz.func123) rfl (by kernel_rfl) Tryz.ntmps123 rfl ?_
 conv => whnf
 refine tri_loop hT [1, 2, 5, 9, 10, 11] (α := Nat × Nat) (fun x => { t := [(1, ai ft), (2, .c (.ptr 0 0)), (5, ai x.2), (9, aNs t), (10, ai t.length), (11, ai x.1)], h := [(0, .box t_impl_Tree (cTr t))], n := 1, N := 72 })
  (fun x => x.1 ≤ t.length ∧ x.2 ≤ 2 * x.1 + 1 ∧ shapeL ft (t.drop x.1) x.1 x.2 = shapeL ft t 0 1) (fun x => t.length - x.1) (0, 1) (by ((conv => whnf); simp only [eS]); rfl) ⟨Nat.zero_le _, by simp, by simp⟩ ?_
 intro ⟨k, nx⟩ ⟨hk, hx, hs⟩
 dsimp only at hk hx hs
 conv => whnf
 refine ifB_i (fun h1 => ?_) (fun h1 => ?_) <;> (conv => whnf) <;> simp at h1
 ·obtain ⟨n, hn⟩ := get_lt h1
  rw [drop_at hn, shapeL] at hs
  refine idx_at (by simp) hn ?_
  conv => whnf
  refine .inl ⟨_, _, _, impl_isLeaf_spec n, rfl, ?_⟩
  conv => whnf
  refine ifB_i (fun h2 => ?_) (fun h2 => ?_) <;> (conv => whnf) <;> simp only [eH] at h2
  ·rw [if_pos h2] at hs
   generalize hb : bNot (bAnd (iEq n.f (-1)) (bAnd (iEq n.c 0) (bAnd (iEq n.l 0) (bAnd (iEq n.r 0) (bAnd (iEq n.v n.v) true))))) = b
   cases b <;> (conv => whnf)
   ·refine .inl ⟨_, _, _, impl_isLeafValue_spec n.v, rfl, ?_⟩
    conv => whnf
    generalize hb2 : decide (-1099511627776 ≤ n.v ∧ n.v ≤ 1099511627776) = b2
    cases b2 <;> (conv => whnf)
    ·have hlb : leafBad n = true := by simp [leafBad, hb2]
     rw [if_pos hlb] at hs
     rw [shape_bad hs]
    ·have hlb : leafBad n = false := by
      obtain ⟨f, c, l, r, v⟩ := n
      simp only [leafBad, hb2]
      simp_all [bNot, bAnd, iEq]
     rw [hlb] at hs
     refine ⟨(k + 1, nx), by dsimp only; omega, ⟨h1, by dsimp only; omega, by simpa using hs⟩, ?_⟩
     ((conv => whnf); simp only [eS, wI h1 (by omega)])
   ·have hlb : leafBad n = true := by
     obtain ⟨f, c, l, r, v⟩ := n
     simp only [leafBad]
     simp_all [bNot, bAnd, iEq]
    rw [if_pos hlb] at hs
    rw [shape_bad hs]
  ·rw [if_neg h2] at hs
   refine .inl ⟨_, _, _, impl_within_spec _ _ _, rfl, ?_⟩
   rw [show wSub .i64 ft 1 = ft - 1 from wSub64 (by omega) (by omega)]
   conv => whnf
   generalize hb1 : decide (0 ≤ n.f ∧ n.f ≤ ft - 1) = b1
   cases b1 <;> (conv => whnf)
   ·have hib : innerBad n ft k nx = true := by
     have : ¬ (0 ≤ n.f ∧ n.f ≤ ft - 1) := by simpa using hb1
     simp [innerBad, this]
    rw [if_pos hib] at hs
    rw [shape_bad hs]
   ·refine .inl ⟨_, _, _, impl_isDecimal_spec _, rfl, ?_⟩
    conv => whnf
    generalize hb2 : decide (-2147483647 ≤ n.c ∧ n.c ≤ 2147483647) = b2
    cases b2 <;> (conv => whnf)
    ·have hib : innerBad n ft k nx = true := by
      have : ¬ (-2147483647 ≤ n.c ∧ n.c ≤ 2147483647) := by simpa using hb2
      simp [innerBad, this]
     rw [if_pos hib] at hs
     rw [shape_bad hs]
    ·generalize hb3 : iEq n.v 0 = b3
     cases b3 <;> (conv => whnf)
     ·have hib : innerBad n ft k nx = true := by
       have : ¬ n.v = 0 := by simpa [iEq] using hb3
       simp [innerBad, this]
      rw [if_pos hib] at hs
      rw [shape_bad hs]
     generalize hb4 : iEq n.l (nx : Int) = b4
     cases b4 <;> (conv => whnf)
     ·have hib : innerBad n ft k nx = true := by
       have : ¬ n.l = nx := by simpa [iEq] using hb4
       simp [innerBad, this]
      rw [if_pos hib] at hs
      rw [shape_bad hs]
     rw [show wAdd .i64 (nx : Int) 1 = nx + 1 from wAdd64 (by omega) (by omega)]
     generalize hb5 : iEq n.r ((nx : Int) + 1) = b5
     cases b5 <;> (conv => whnf)
     ·have hib : innerBad n ft k nx = true := by
       have : ¬ n.r = nx + 1 := by simpa [iEq] using hb5
       simp [innerBad, this]
      rw [if_pos hib] at hs
      rw [shape_bad hs]
     have q4 : n.l = nx := by simpa [iEq] using hb4
     generalize hb6 : iLe (nx : Int) ((k, nx).fst : Int) = b6
     dsimp only at hb6
     cases b6 <;> (conv => whnf)
     rotate_left
     ·have hib : innerBad n ft k nx = true := by
       have : (nx : Int) ≤ k := by simpa [iLe] using hb6
       simp [innerBad, q4]
       omega
      rw [if_pos hib] at hs
      rw [shape_bad hs]
     have hib : innerBad n ft k nx = false := by
      have q3 : n.v = 0 := by simpa [iEq] using hb3
      have q5 : n.r = nx + 1 := by simpa [iEq] using hb5
      have q6 : ¬ (nx : Int) ≤ k := by simpa [iLe] using hb6
      have q1 : 0 ≤ n.f ∧ n.f ≤ ft - 1 := by simpa using hb1
      have q2 : -2147483647 ≤ n.c ∧ n.c ≤ 2147483647 := by simpa using hb2
      simp [innerBad, q1, q2, q3, q4, q5]
      omega
     rw [hib] at hs
     refine ⟨(k + 1, nx + 2), by dsimp only; omega, ⟨h1, by dsimp only; omega, by simpa using hs⟩, ?_⟩
     ((conv => whnf); simp only [eS, wI h1 (by omega), wAdd64 (show -9223372036854775808 ≤ (nx : Int) + 2 by omega) (by omega), Int.natCast_add, Int.cast_ofNat_Int])
 ·obtain rfl : k = t.length := by omega
  simp only [List.drop_length, shapeL] at hs
  ((conv => whnf); simp only [eS])
  simp only [shapeOk, ← hs, iEq, Option.some.injEq]
def wayBad (t : List Nd) (n : Nd) : List Int → Bool
 | a :: b :: r => badP t n a b || wayBad t n (b :: r)
 | _ => false
def implBad (t : List Nd) (k : Int) (n : Nd) : Bool :=
 if n.f = -1 then decide (4 < ((wayL t k).length : Int) - 1) else wayBad t n (wayL t k)
def implBads (t : List Nd) : List Nd → Nat → Bool
 | [], _ => false
 | n :: r, k => implBad t k n || implBads t r (k + 1)
def treeOkI (t : List Nd) (ft : Int) : Bool :=
 decide (1 ≤ (t.length : Int) ∧ (t.length : Int) ≤ 31) && (decide (0 ≤ ft ∧ ft ≤ 4) && (shapeOk t ft && !implBads t t 0))
set_option maxHeartbeats 1000000 in
theorem impl_TreeOk_one (t : List Nd) (ft : Int) (hl : t.length ≤ 1048576) : FnSpec PR f_impl_TreeOk [aT t, ai ft] (ab (treeOkI t ft)) [] 0 := by
 refine FnSpec.intro hT (pf Tryz.func36) rfl (by kernel_rfl) Tryz.ntmps36 rfl ?_
 conv => whnf
 refine .inl ⟨_, _, _, impl_within_spec _ _ _, rfl, ?_⟩
 conv => whnf
 refine ifB_i (fun h2 => ?_) (fun h2 => ?_) <;> (conv => whnf) <;> simp only [eH] at h2
 ·have : decide (0 ≤ ft ∧ ft ≤ 4) = false := by simpa using h2
  simp [treeOkI, this]
 refine .inl ⟨_, _, _, impl_within_spec _ _ _, rfl, ?_⟩
 conv => whnf
 refine ifB_i (fun h1 => ?_) (fun h1 => ?_) <;> (conv => whnf) <;> simp only [eH] at h1
 ·simp [treeOkI, h1]
 have h1' := of_decide_eq_true h1
 have h2' := of_decide_eq_true h2
 refine .inl ⟨_, _, _, impl_shapeOk_spec t ft h2' (by omega), rfl, ?_⟩
 conv => whnf
 refine ifB_i (fun h3 => ?_) (fun h3 => ?_) <;> (conv => whnf) <;> simp only [eH] at h3
 ·simp [treeOkI, h3]
 have hto : treeOkI t ft = !implBads t t 0 := by simp [treeOkI, h1, h2, h3]
 rw [hto]
 refine tri_loop hT [2, 28, 29, 30] (α := Nat) (fun x => { t := [(2, .c (.ptr 0 0)), (28, aNs t), (29, ai t.length), (30, ai x)], h := [(0, .box t_impl_Tree (cTr t))], n := 1, N := 99 })
  (fun x => x ≤ t.length ∧ implBads t (t.drop x) x = implBads t t 0) (fun x => t.length - x) 0 (by ((conv => whnf); simp only [eS])) ⟨Nat.zero_le _, by simp⟩ ?_
 intro k ⟨hk, hw⟩
 conv => whnf
 refine ifB_i (fun h4 => ?_) (fun h4 => ?_) <;> (conv => whnf) <;> simp at h4
 ·obtain ⟨n, hn⟩ := get_lt h4
  rw [drop_at hn, implBads] at hw
  refine idx_at (by simp) hn ?_
  conv => whnf
  refine .inl ⟨_, _, _, impl_isLeaf_spec n, rfl, ?_⟩
  conv => whnf
  refine ifB_i (fun h5 => ?_) (fun h5 => ?_) <;> (conv => whnf) <;> simp only [eH] at h5
  ·refine .inl ⟨_, _, _, impl_LevelOf_spec t k (by omega), rfl, ?_⟩
   conv => whnf
   refine ifB_i (fun h6 => ?_) (fun h6 => ?_) <;> (conv => whnf) <;> simp only [eH] at h6
   ·have : implBad t k n = true := by simp only [implBad, if_pos h5]; exact decide_eq_true h6
    rw [← hw, this]
    rfl
   ·have : implBad t k n = false := by simp only [implBad, if_pos h5]; exact decide_eq_false (by omega)
    rw [this, Bool.false_or] at hw
    refine ⟨k + 1, by omega, ⟨h4, hw⟩, ?_⟩
    ((conv => whnf); simp only [eS, wI h4 (by omega)])
  ·have hib : implBad t k n = wayBad t n (wayL t k) := by simp only [implBad, if_neg h5]
   rw [hib] at hw
   obtain ⟨l0, hl0, _⟩ := steps_anc h3 31 k (by omega)
   have hway : wayL t k = l0.reverse := by unfold wayL; rw [if_pos (by omega), hl0]
   have hlen : 1 ≤ (wayL t k).length := by
    rw [hway, steps] at *
    simp only [Option.map_eq_some_iff] at hl0
    obtain ⟨r, _, rfl⟩ := hl0
    simp
   have hlt : ∀ y ∈ wayL t k, 0 ≤ y ∧ y < t.length := fun y hy => steps_lt t 32 k l0 (by omega) hl0 y (by rw [hway] at hy; simpa using hy)
   refine .inl ⟨_, _, _, impl_wayTo_spec t k (by omega), rfl, ?_⟩
   generalize wayL t k = w at *
   conv => whnf
   have hwl : w.length ≤ 32 := by rw [hway]; have := steps_len t 32 k l0 hl0; simpa using this
   obtain ⟨m, hm⟩ : ∃ m, w.length = m + 1 := ⟨w.length - 1, by omega⟩
   have e1 : wSub .i64 (nInt (lenRE (eL cI w) none)) 1 = (m : Int) := by
    rw [wSub64] <;> simp <;> omega
   rw [e1]
   refine ⟨by simp [InS]; omega, ?_⟩
   conv => whnf
   refine tri_loop hT [2, 6, 7, 28, 29, 30, 48, 49, 50] (α := Nat) (fun x => { t := [(2, .c (.ptr 0 0)), (6, .c (.ptr 1 0)), (7, .c (.ref 2 0 none)), (28, aNs t), (29, ai t.length), (30, ai k), (48, .c (.ref 2 0 (some (true, 0, m)))), (49, ai m), (50, ai x)], h := [(0, .box t_impl_Tree (cTr t)), (1, .box t_impl_Node (cNd n)), (2, .arr t_int 1 0 .own (eL cI w))], n := 3, N := 99 })
    (fun x => x ≤ m ∧ wayBad t n (w.drop x) = wayBad t n w) (fun x => m - x) 0 (by ((conv => whnf); simp only [eS]); simp) ⟨Nat.zero_le _, by simp⟩ ?_
   intro j ⟨g1, g2⟩
   conv => whnf
   refine ifB_i (fun g3 => ?_) (fun g3 => ?_) <;> (conv => whnf) <;> simp at g3
   ·obtain ⟨a, ha⟩ := get_lt (show j < w.length by omega)
    obtain ⟨b, hb⟩ := get_lt (show j + 1 < w.length by omega)
    refine ref_at (k := j) (by simp) (by simp; omega) ?_
    conv => whnf
    refine ld_at (by simp) ha ?_
    conv => whnf
    obtain ⟨i, hi⟩ : ∃ i : Nat, a = i := ⟨a.toNat, by have := hlt a (List.mem_of_getElem? ha); omega⟩
    subst hi
    have hil := (hlt _ (List.mem_of_getElem? ha)).2
    obtain ⟨x, hx⟩ := get_lt (show i < t.length by omega)
    refine idx_at (by simp) hx ?_
    conv => whnf
    rw [drop_at ha, drop_at hb, wayBad] at g2
    have hin : ∀ v0, (iEq x.f n.f && (iEq b x.r && iLe n.c x.c || iEq b x.l && iLe x.c n.c)) = v0 → badP t n i b = v0 := by
     rintro _ rfl
     simp only [badP, Int.toNat_natCast, hx, iEq, eq_comm]
    refine ifB_i (fun g4 => ?_) (fun g4 => ?_) <;> (conv => whnf) <;> simp only [eH] at g4
    ·rw [hin false (by simp [iEq, g4]), Bool.false_or] at g2
     refine ⟨j + 1, by omega, ⟨by omega, by rw [← g2, drop_at hb]⟩, ?_⟩
     ((conv => whnf); simp only [eS, wI g3 (by omega)])
    ·have g4' : iEq x.f n.f = true := by simpa [iEq] using g4
     refine tri_conf hT hmix (by kernel_rfl) ?_
     conv => whnf
     repeat' (first | (refine And.intro (fun q => ?_) (fun q => ?_) <;> cases q <;> (conv => whnf)) | (refine ref_at (wI g3 (by omega)) (by simp; omega) ?_; (conv => whnf)) | (refine ld_at (by simp [wI g3 (show m ≤ 9223372036854775807 by omega)]) hb ?_; (conv => whnf)) | fail)
     generalize e3 : iEq b x.l = c3
     cases c3
     ·repeat' (first | (refine And.intro (fun q => ?_) (fun q => ?_) <;> cases q <;> (conv => whnf)) | (refine ref_at (wI g3 (by omega)) (by simp; omega) ?_; (conv => whnf)) | (refine ld_at (by simp [wI g3 (show m ≤ 9223372036854775807 by omega)]) hb ?_; (conv => whnf)) | fail)
      generalize e2 : iEq b x.r = c2
      cases c2
      ·repeat' (first | (refine And.intro (fun q => ?_) (fun q => ?_) <;> cases q <;> (conv => whnf)) | (refine ref_at (wI g3 (by omega)) (by simp; omega) ?_; (conv => whnf)) | (refine ld_at (by simp [wI g3 (show m ≤ 9223372036854775807 by omega)]) hb ?_; (conv => whnf)) | fail)
       rw [hin false (by first | (simp [e2, e3]; done) | (simp [e2, e5]; done) | (simp [e3, e4]; done) | (simp [e4, e5]; done)), Bool.false_or] at g2
       refine ⟨j + 1, by omega, ⟨by omega, by rw [← g2, drop_at hb]⟩, ?_⟩
       ((conv => whnf); simp only [eS, wI g3 (by omega)])
      ·repeat' (first | (refine And.intro (fun q => ?_) (fun q => ?_) <;> cases q <;> (conv => whnf)) | (refine ref_at (wI g3 (by omega)) (by simp; omega) ?_; (conv => whnf)) | (refine ld_at (by simp [wI g3 (show m ≤ 9223372036854775807 by omega)]) hb ?_; (conv => whnf)) | fail)
       generalize e4 : iLe n.c x.c = c4
       cases c4
       ·repeat' (first | (refine And.intro (fun q => ?_) (fun q => ?_) <;> cases q <;> (conv => whnf)) | (refine ref_at (wI g3 (by omega)) (by simp; omega) ?_; (conv => whnf)) | (refine ld_at (by simp [wI g3 (show m ≤ 9223372036854775807 by omega)]) hb ?_; (conv => whnf)) | fail)
        rw [hin false (by first | (simp [e2, e3]; done) | (simp [e2, e5]; done) | (simp [e3, e4]; done) | (simp [e4, e5]; done)), Bool.false_or] at g2
        refine ⟨j + 1, by omega, ⟨by omega, by rw [← g2, drop_at hb]⟩, ?_⟩
        ((conv => whnf); simp only [eS, wI g3 (by omega)])
       ·repeat' (first | (refine And.intro (fun q => ?_) (fun q => ?_) <;> cases q <;> (conv => whnf)) | (refine ref_at (wI g3 (by omega)) (by simp; omega) ?_; (conv => whnf)) | (refine ld_at (by simp [wI g3 (show m ≤ 9223372036854775807 by omega)]) hb ?_; (conv => whnf)) | fail)
        rw [hin true (by first | (simp [g4', e2, e4]; done) | (simp [g4', e3, e5]; done))] at g2
        rw [← g2] at hw
        rw [← hw]
        rfl
     ·repeat' (first | (refine And.intro (fun q => ?_) (fun q => ?_) <;> cases q <;> (conv => whnf)) | (refine ref_at (wI g3 (by omega)) (by simp; omega) ?_; (conv => whnf)) | (refine ld_at (by simp [wI g3 (show m ≤ 9223372036854775807 by omega)]) hb ?_; (conv => whnf)) | fail)
      generalize e5 : iLe x.c n.c = c5
      cases c5
      ·repeat' (first | (refine And.intro (fun q => ?_) (fun q => ?_) <;> cases q <;> (conv => whnf)) | (refine ref_at (wI g3 (by omega)) (by simp; omega) ?_; (conv => whnf)) | (refine ld_at (by simp [wI g3 (show m ≤ 9223372036854775807 by omega)]) hb ?_; (conv => whnf)) | fail)
       generalize e2 : iEq b x.r = c2
       cases c2
       ·repeat' (first | (refine And.intro (fun q => ?_) (fun q => ?_) <;> cases q <;> (conv => whnf)) | (refine ref_at (wI g3 (by omega)) (by simp; omega) ?_; (conv => whnf)) | (refine ld_at (by simp [wI g3 (show m ≤ 9223372036854775807 by omega)]) hb ?_; (conv => whnf)) | fail)
        rw [hin false (by first | (simp [e2, e3]; done) | (simp [e2, e5]; done) | (simp [e3, e4]; done) | (simp [e4, e5]; done)), Bool.false_or] at g2
        refine ⟨j + 1, by omega, ⟨by omega, by rw [← g2, drop_at hb]⟩, ?_⟩
        ((conv => whnf); simp only [eS, wI g3 (by omega)])
       ·repeat' (first | (refine And.intro (fun q => ?_) (fun q => ?_) <;> cases q <;> (conv => whnf)) | (refine ref_at (wI g3 (by omega)) (by simp; omega) ?_; (conv => whnf)) | (refine ld_at (by simp [wI g3 (show m ≤ 9223372036854775807 by omega)]) hb ?_; (conv => whnf)) | fail)
        generalize e4 : iLe n.c x.c = c4
        cases c4
        ·repeat' (first | (refine And.intro (fun q => ?_) (fun q => ?_) <;> cases q <;> (conv => whnf)) | (refine ref_at (wI g3 (by omega)) (by simp; omega) ?_; (conv => whnf)) | (refine ld_at (by simp [wI g3 (show m ≤ 9223372036854775807 by omega)]) hb ?_; (conv => whnf)) | fail)
         rw [hin false (by first | (simp [e2, e3]; done) | (simp [e2, e5]; done) | (simp [e3, e4]; done) | (simp [e4, e5]; done)), Bool.false_or] at g2
         refine ⟨j + 1, by omega, ⟨by omega, by rw [← g2, drop_at hb]⟩, ?_⟩
         ((conv => whnf); simp only [eS, wI g3 (by omega)])
        ·repeat' (first | (refine And.intro (fun q => ?_) (fun q => ?_) <;> cases q <;> (conv => whnf)) | (refine ref_at (wI g3 (by omega)) (by simp; omega) ?_; (conv => whnf)) | (refine ld_at (by simp [wI g3 (show m ≤ 9223372036854775807 by omega)]) hb ?_; (conv => whnf)) | fail)
         rw [hin true (by first | (simp [g4', e2, e4]; done) | (simp [g4', e3, e5]; done))] at g2
         rw [← g2] at hw
         rw [← hw]
         rfl
      ·repeat' (first | (refine And.intro (fun q => ?_) (fun q => ?_) <;> cases q <;> (conv => whnf)) | (refine ref_at (wI g3 (by omega)) (by simp; omega) ?_; (conv => whnf)) | (refine ld_at (by simp [wI g3 (show m ≤ 9223372036854775807 by omega)]) hb ?_; (conv => whnf)) | fail)
       rw [hin true (by first | (simp [g4', e2, e4]; done) | (simp [g4', e3, e5]; done))] at g2
       rw [← g2] at hw
       rw [← hw]
       rfl
   ·refine ⟨k + 1, by omega, ⟨h4, ?_⟩, ?_⟩
    ·obtain rfl : j = m := by omega
     obtain ⟨a, ha⟩ := get_lt (show j < w.length by omega)
     have hd : w.drop (j + 1) = [] := List.drop_eq_nil_of_le (by omega)
     rw [drop_at ha, hd] at g2
     rw [← g2] at hw
     exact hw
    ·((conv => whnf); simp only [eS, wI h4 (by omega)])
 ·obtain rfl : k = t.length := by omega
  simp only [List.drop_length, implBads] at hw
  conv => whnf
  rw [← hw]
  rfl
theorem steps_more {t : List Nd} : ∀ {n : Nat} {x : Int} {l : List Int}, steps t n x = some l → steps t (n + 1) x = some l
 | 0, x, l, h => by simp [steps] at h
 | n + 1, x, l, h => by
  rw [steps] at h ⊢
  split
  ·rw [if_pos (by assumption)] at h; exact h
  ·rw [if_neg (by assumption)] at h
   simp only [Option.map_eq_some_iff] at h ⊢
   obtain ⟨r, h1, h2⟩ := h
   exact ⟨r, steps_more h1, h2⟩
theorem chain_iff (t : List Nd) (n : Nd) : ∀ l : List Int, chainBad t n l = true ↔ ∃ (j : Nat) (a b : Int), l[j]? = some a ∧ l[j + 1]? = some b ∧ badP t n b a = true
 | [] => by simp [chainBad]
 | [a] => by simp [chainBad]
 | a :: b :: r => by
  simp only [chainBad, Bool.or_eq_true, chain_iff t n (b :: r)]
  constructor
  ·rintro (h | ⟨j, x, y, h1, h2, h3⟩)
   ·exact ⟨0, a, b, rfl, rfl, h⟩
   ·exact ⟨j + 1, x, y, by simpa using h1, by simpa using h2, h3⟩
  ·rintro ⟨j, x, y, h1, h2, h3⟩
   cases j with
   | zero => simp at h1 h2; subst h1; subst h2; exact .inl h3
   | succ j => exact .inr ⟨j, x, y, by simpa using h1, by simpa using h2, h3⟩
theorem way_iff (t : List Nd) (n : Nd) : ∀ l : List Int, wayBad t n l = true ↔ ∃ (j : Nat) (a b : Int), l[j]? = some a ∧ l[j + 1]? = some b ∧ badP t n a b = true
 | [] => by simp [wayBad]
 | [a] => by simp [wayBad]
 | a :: b :: r => by
  simp only [wayBad, Bool.or_eq_true, way_iff t n (b :: r)]
  constructor
  ·rintro (h | ⟨j, x, y, h1, h2, h3⟩)
   ·exact ⟨0, a, b, rfl, rfl, h⟩
   ·exact ⟨j + 1, x, y, by simpa using h1, by simpa using h2, h3⟩
  ·rintro ⟨j, x, y, h1, h2, h3⟩
   cases j with
   | zero => simp at h1 h2; subst h1; subst h2; exact .inl h3
   | succ j => exact .inr ⟨j, x, y, by simpa using h1, by simpa using h2, h3⟩
theorem way_rev (t : List Nd) (n : Nd) (l : List Int) : wayBad t n l.reverse = chainBad t n l := by
 rw [Bool.eq_iff_iff, way_iff, chain_iff]
 constructor
 ·rintro ⟨j, a, b, h1, h2, h3⟩
  have hj : j + 1 < l.length := by simpa using (List.getElem?_eq_some_iff.1 h2).1
  rw [List.getElem?_reverse (by omega)] at h1
  rw [List.getElem?_reverse (by omega)] at h2
  exact ⟨l.length - 1 - (j + 1), b, a, h2, by rw [← h1]; congr 1; omega, h3⟩
 ·rintro ⟨j, a, b, h1, h2, h3⟩
  have hj : j + 1 < l.length := (List.getElem?_eq_some_iff.1 h2).1
  refine ⟨l.length - 1 - (j + 1), b, a, ?_, ?_, h3⟩
  ·rw [List.getElem?_reverse (by omega), ← h2]; congr 1; omega
  ·rw [List.getElem?_reverse (by omega), ← h1]; congr 1; omega
theorem implBads_iff (t : List Nd) : ∀ (l : List Nd) (k : Nat), implBads t l k = true ↔ ∃ (j : Nat) (n : Nd), l[j]? = some n ∧ implBad t ((k + j : Nat) : Int) n = true
 | [], k => by simp [implBads]
 | n :: r, k => by
  simp only [implBads, Bool.or_eq_true, implBads_iff t r (k + 1)]
  constructor
  ·rintro (h | ⟨j, x, h1, h2⟩)
   ·exact ⟨0, n, rfl, h⟩
   ·exact ⟨j + 1, x, by simpa using h1, by rw [show k + (j + 1) = k + 1 + j by omega]; exact h2⟩
  ·rintro ⟨j, x, h1, h2⟩
   cases j with
   | zero => simp at h1; subst h1; exact .inl h2
   | succ j => exact .inr ⟨j, x, by simpa using h1, by rw [show k + 1 + j = k + (j + 1) by omega]; exact h2⟩
theorem waysBad_iff (t : List Nd) : ∀ (l : List Nd) (k : Nat), waysBad t l k = true ↔ ∃ (j : Nat) (n : Nd), l[j]? = some n ∧ nodeBad t ((k + j : Nat) : Int) n = true
 | [], k => by simp [waysBad]
 | n :: r, k => by
  simp only [waysBad, Bool.or_eq_true, waysBad_iff t r (k + 1)]
  constructor
  ·rintro (h | ⟨j, x, h1, h2⟩)
   ·exact ⟨0, n, rfl, h⟩
   ·exact ⟨j + 1, x, by simpa using h1, by rw [show k + (j + 1) = k + 1 + j by omega]; exact h2⟩
  ·rintro ⟨j, x, h1, h2⟩
   cases j with
   | zero => simp at h1; subst h1; exact .inl h2
   | succ j => exact .inr ⟨j, x, by simpa using h1, by rw [show k + 1 + j = k + (j + 1) by omega]; exact h2⟩
theorem depthK_le (t : List Nd) (c : Int) (hc : -1 ≤ c) : ∀ m : Nat, depthK t m ≤ c ↔ ∀ j : Nat, j < m → levelL t j ≤ c
 | 0 => by simp [depthK, hc]
 | m + 1 => by
  simp only [depthK]
  rw [show max (depthK t m) (levelL t m) ≤ c ↔ depthK t m ≤ c ∧ levelL t m ≤ c by omega, depthK_le t c hc m]
  constructor
  ·rintro ⟨h1, h2⟩ j hj
   rcases Nat.lt_or_ge j m with q | q
   ·exact h1 j q
   ·obtain rfl : j = m := by omega
    exact h2
  ·intro h
   exact ⟨fun j hj => h j (by omega), h m (by omega)⟩
theorem level_way {t : List Nd} {j : Nat} {l : List Int} (hj : j < t.length) (hs : steps t 32 j = some l) : levelL t j = (l.length : Int) - 1 := by
 unfold levelL lvl
 rw [if_pos (by omega)]
 simp only [hs, Int.add_zero]
theorem level_kid {t : List Nd} {ft : Int} (h : shapeOk t ft = true) (hl : t.length ≤ 31) {j c : Nat} (hj : j < t.length) (hc : c < t.length) (hu : up t c = j) : levelL t c = levelL t j + 1 := by
 obtain ⟨lc, h1, _⟩ := steps_anc h 31 c (by omega)
 obtain ⟨lj, h2, _⟩ := steps_anc h 31 j (by omega)
 have h1' := h1
 rw [steps, if_neg (by omega), hu] at h1'
 simp only [Option.map_eq_some_iff] at h1'
 obtain ⟨r, h3, rfl⟩ := h1'
 have h4 := steps_more h3
 rw [h2] at h4
 cases h4
 rw [level_way hc h1, level_way hj h2]
 simp
theorem levels_leaf {t : List Nd} {ft : Int} (h : shapeOk t ft = true) (hl : t.length ≤ 31) (hleaf : ∀ (j : Nat) (n : Nd), t[j]? = some n → n.f = -1 → levelL t j ≤ 4) : ∀ (d : Nat) (j : Nat), t.length - j = d → j < t.length → levelL t j ≤ 4 := by
 intro d
 induction d using Nat.strongRecOn with
 | _ d ih =>
  intro j hd hj
  obtain ⟨n, hn⟩ := get_lt hj
  by_cases hf : n.f = -1
  ·exact hleaf j n hn hf
  ·have hk := shape_kids h hn hf
   have hu := up_kid h hn hf (.inl rfl)
   obtain ⟨c, hc⟩ : ∃ c : Nat, n.l = c := ⟨n.l.toNat, by omega⟩
   rw [hc] at hu hk
   have := level_kid h hl hj (show c < t.length by omega) hu
   have := ih (t.length - c) (by omega) c rfl (by omega)
   omega
theorem treeOk_same (t : List Nd) (ft : Int) : treeOkI t ft = treeOk t ft := by
 unfold treeOkI treeOk
 by_cases h1 : 1 ≤ (t.length : Int) ∧ (t.length : Int) ≤ 31
 ·rw [decide_eq_true h1, Bool.true_and, Bool.true_and]
  congr 1
  cases h3 : shapeOk t ft with
  | false => rfl
  | true =>
   rw [Bool.true_and, Bool.true_and]
   have hst : ∀ j : Nat, j < t.length → ∃ l, steps t 32 j = some l ∧ wayL t j = l.reverse := fun j hj => by
    obtain ⟨l, hl, _⟩ := steps_anc h3 31 j (by omega)
    exact ⟨l, hl, by unfold wayL; rw [if_pos (by omega), hl]⟩
   rw [Bool.eq_iff_iff]
   simp only [Bool.not_eq_true', Bool.and_eq_true, decide_eq_true_eq]
   rw [depthK_le t 4 (by omega)]
   have n1 := implBads_iff t t 0
   have n2 := waysBad_iff t t 0
   simp only [Nat.zero_add] at n1 n2
   constructor
   ·intro hb
    have hno : ∀ (j : Nat) (n : Nd), t[j]? = some n → implBad t j n = false := fun j n hn => by
     cases hq : implBad t j n with
     | false => rfl
     | true => rw [n1.2 ⟨j, n, hn, hq⟩] at hb; cases hb
    refine ⟨fun j hj => levels_leaf h3 (by omega) (fun j n hn hf => ?_) _ j rfl hj, ?_⟩
    ·have := hno j n hn
     simp only [implBad, if_pos hf, decide_eq_false_iff_not] at this
     have hj := (List.getElem?_eq_some_iff.1 hn).1
     obtain ⟨l, hl, hw⟩ := hst j hj
     rw [level_way hj hl]
     rw [hw] at this
     simp at this
     omega
    ·cases hq : waysBad t t 0 with
     | false => rfl
     | true =>
      obtain ⟨j, n, hn, hbad⟩ := n2.1 hq
      have hj := (List.getElem?_eq_some_iff.1 hn).1
      obtain ⟨l, hl, hw⟩ := hst j hj
      simp only [nodeBad, hl, bAnd, Bool.and_eq_true, bNot, Bool.not_eq_true', iEq, decide_eq_false_iff_not] at hbad
      have := hno j n hn
      simp only [implBad, if_neg hbad.1, hw, way_rev] at this
      rw [hbad.2] at this
      cases this
   ·rintro ⟨hd, hw⟩
    cases hq : implBads t t 0 with
    | false => rfl
    | true =>
     obtain ⟨j, n, hn, hbad⟩ := n1.1 hq
     have hj := (List.getElem?_eq_some_iff.1 hn).1
     obtain ⟨l, hl, hwy⟩ := hst j hj
     have hlev := hd j hj
     rw [level_way hj hl] at hlev
     by_cases hf : n.f = -1
     ·simp only [implBad, if_pos hf, decide_eq_true_eq, hwy, List.length_reverse] at hbad
      omega
     ·simp only [implBad, if_neg hf, hwy, way_rev] at hbad
      have : nodeBad t j n = true := by simp [nodeBad, hl, bAnd, bNot, iEq, hf, hbad]
      rw [n2.2 ⟨j, n, hn, this⟩] at hw
      cases hw
 ·rw [decide_eq_false h1]; rfl
theorem impl_TreeOk_spec (t : List Nd) (ft : Int) (hl : t.length ≤ 1048576) : FnSpec PR f_impl_TreeOk [aT t, ai ft] (ab (treeOk t ft)) [] 0 := treeOk_same t ft ▸ impl_TreeOk_one t ft hl
end Go.H.S
namespace Go.H.S
open Go Go.Proofs Go.H
attribute [local irreducible] Tri FnSpec FnSpecM FnSpecX FnSpecJ FnSpecB
def cU (n : Int) : List D := [.int .u8 n]
abbrev cur (code : List Int) (i h : Int) : List CV := [.d (.sl 1 (eL cU code)), .d (.int .i64 i), .d (.int .i64 h)]
end Go.H.S
namespace Go.H.S
open Go Go.Proofs Go.H
attribute [local irreducible] Tri FnSpec FnSpecM FnSpecX FnSpecJ FnSpecB
structure KidsOk (N : List Nd) : Prop where
 kid : ∀ {j : Nat} {n : Nd}, N[j]? = some n → n.f ≠ -1 → (j : Int) < n.l ∧ n.r = n.l + 1 ∧ n.r < N.length
 one : ∀ {j j' : Nat} {n n' : Nd}, N[j]? = some n → N[j']? = some n' → n.f ≠ -1 → n'.f ≠ -1 → ∀ x : Int, (n.l = x ∨ n.r = x) → (n'.l = x ∨ n'.r = x) → j = j'
theorem nodup_len : ∀ (M : Nat) (l : List Int), l.Nodup → (∀ x ∈ l, 0 ≤ x ∧ x < M) → l.length ≤ M
 | 0, l, hn, hl => by
  cases l with
  | nil => simp
  | cons x r => have := hl x (by simp); omega
 | M + 1, l, hn, hl => by
  have h1 := nodup_len M (l.erase (M : Int)) (hn.erase _) (fun x hx => by
   have hm := List.mem_of_mem_erase hx
   have hne : x ≠ (M : Int) := fun e => by
    subst e
    exact (List.Nodup.not_mem_erase hn) hx
   have := hl x hm
   omega)
  have h2 : l.length ≤ (l.erase (M : Int)).length + 1 := by
   rw [List.length_erase]
   split <;> omega
  omega
structure LvInv (N : List Nd) (i : Nat) (R : List Int) : Prop where
 le : i ≤ R.length
 nd : R.Nodup
 mem : ∀ x ∈ R, 0 ≤ x ∧ x < N.length
 src : ∀ x ∈ R, x = 0 ∨ ∃ (j p : Nat) (n : Nd), j < i ∧ R[j]? = some (p : Int) ∧ N[p]? = some n ∧ n.f ≠ -1 ∧ (n.l = x ∨ n.r = x)
theorem LvInv.len {N : List Nd} {i : Nat} {R : List Int} (h : LvInv N i R) : R.length ≤ N.length := nodup_len _ _ h.nd h.mem
theorem LvInv.leaf {N : List Nd} {i : Nat} {R : List Int} (h : LvInv N i R) (hi : i < R.length) : LvInv N (i + 1) R :=
 ⟨hi, h.nd, h.mem, fun x hx => (h.src x hx).imp id fun ⟨j, p, n, h1, h2⟩ => ⟨j, p, n, by omega, h2⟩⟩
end Go.H.S
namespace Go.H.S
open Go Go.Proofs Go.H
attribute [local irreducible] Tri FnSpec FnSpecM FnSpecX FnSpecJ FnSpecB
end Go.H.S
namespace Go.H.S
open Go Go.Proofs Go.H
attribute [local irreducible] Tri FnSpec FnSpecM FnSpecX FnSpecJ FnSpecB
end Go.H.S
namespace Go.H.S
open Go Go.Proofs Go.H
theorem hplain : ∀ t ti, Tp t = some ti → plainT Tp ti = true := plain_tab (tab := ptab) (by kernel_rfl)
def i64 (x : Int) : Prop := -9223372036854775808 ≤ x ∧ x ≤ 9223372036854775807
theorem wf_i64 {x : Int} (h : (Lit.int .i64 x).wf = true) : i64 x := by
 unfold Lit.wf at h
 simp only [Bool.and_eq_true, decide_eq_true_eq] at h
 exact ⟨h.1, h.2⟩
theorem ty_str {n : Nat} {c : List D} (h : TyD Tp n t_string c) : ∃ x, c = cS x ∧ x.size ≤ 9223372036854775807 := h.str rfl rfl
theorem ty_int {n : Nat} {c : List D} (h : TyD Tp n t_int c) : ∃ x, c = cI x ∧ i64 x := by
 obtain ⟨x, h1, h2⟩ := h.int rfl rfl
 exact ⟨x, h1, wf_i64 h2⟩
theorem ty_ints {n : Nat} {c : List D} (h : TyD Tp n t_Lint c) : ∃ x, c = cIs x ∧ (x.length ≤ 9223372036854775807 ∧ ∀ y ∈ x, i64 y) := by
 obtain ⟨es, e, b, f⟩ := h.slice rfl rfl rfl
 obtain ⟨l, rfl, q, k⟩ := eL_of (f := cI) (fun c hc => (let ⟨_, hm⟩ := f c hc; ty_int hm))
 exact ⟨l, by rw [e]; rfl, by omega, k⟩
theorem ty_strs {n : Nat} {c : List D} (h : TyD Tp n t_Lstring c) : ∃ x, c = cSs x ∧ (x.length ≤ 9223372036854775807 ∧ ∀ y ∈ x, y.size ≤ 9223372036854775807) := by
 obtain ⟨es, e, b, f⟩ := h.slice rfl rfl rfl
 obtain ⟨l, rfl, q, k⟩ := eL_of (f := cS) (fun c hc => (let ⟨_, hm⟩ := f c hc; ty_str hm))
 exact ⟨l, by rw [e]; rfl, by omega, k⟩
def rgConfig (x : Cfg) : Prop := i64 x.rounds ∧ i64 x.depth ∧ i64 x.bins ∧ i64 x.lambda ∧ i64 x.rows ∧ i64 x.num ∧ i64 x.den ∧ ∀ y ∈ x.signs, i64 y
theorem ty_config {n : Nat} {c : List D} (h : TyD Tp n t_laws_Config c) : ∃ x : Cfg, (okConfig x ∧ rgConfig x) ∧ c = [.int .i64 x.rounds, .int .i64 x.depth, .int .i64 x.bins, .int .i64 x.lambda, .int .i64 x.rows, .int .i64 x.num, .int .i64 x.den, .sl 1 (eL cI x.signs)] := by
 obtain ⟨hl, hf⟩ := h.struct (ti := _) rfl rfl
 obtain ⟨_, g0⟩ := hf (0, t_int) (by simp) _ rfl
 obtain ⟨_, g1⟩ := hf (1, t_int) (by simp) _ rfl
 obtain ⟨_, g2⟩ := hf (2, t_int) (by simp) _ rfl
 obtain ⟨_, g3⟩ := hf (3, t_int) (by simp) _ rfl
 obtain ⟨_, g4⟩ := hf (4, t_int) (by simp) _ rfl
 obtain ⟨_, g5⟩ := hf (5, t_int) (by simp) _ rfl
 obtain ⟨_, g6⟩ := hf (6, t_int) (by simp) _ rfl
 obtain ⟨_, g7⟩ := hf (7, t_Lint) (by simp) _ rfl
 obtain ⟨x0, e0, r0⟩ := ty_int g0
 obtain ⟨x1, e1, r1⟩ := ty_int g1
 obtain ⟨x2, e2, r2⟩ := ty_int g2
 obtain ⟨x3, e3, r3⟩ := ty_int g3
 obtain ⟨x4, e4, r4⟩ := ty_int g4
 obtain ⟨x5, e5, r5⟩ := ty_int g5
 obtain ⟨x6, e6, r6⟩ := ty_int g6
 obtain ⟨l7, e7, q7, k7⟩ := ty_ints g7
 refine ⟨⟨x0, x1, x2, x3, x4, x5, x6, l7⟩, ⟨q7, r0, r1, r2, r3, r4, r5, r6, k7⟩, ?_⟩
 match c, hl with
 | [c0, c1, c2, c3, c4, c5, c6, c7], _ =>
  simp [cIs, cI] at e0 e1 e2 e3 e4 e5 e6 e7
  simp [e0, e1, e2, e3, e4, e5, e6, e7]
end Go.H.S
namespace Go.H.S
open Go Go.Proofs Go.H
attribute [local irreducible] Tri FnSpec FnSpecM
theorem cost_len {α : Type} (f : α → Nat) (l : List α) : l.length ≤ cost f l := by rw [cost_eq]; omega
theorem cost_costL {α : Type} (f : α → Nat) (l : List α) : costL f l ≤ cost f l := by rw [cost_eq]; omega
theorem bud_ok {c : Nat} (h : 0 ≤ bud 1048576 c) : c ≤ 1048576 := by have := (bud_pos h).1; omega
end Go.H.S
namespace Go.H.S
open Go Go.Proofs Go.H
attribute [local irreducible] Tri FnSpec FnSpecM FnSpecX FnSpecJ
theorem flat_cS (xs : List ByteArray) : FlatR (eL cS xs) := fun c hc d hd => by
 rw [eL] at hc
 obtain ⟨x, _, rfl⟩ := List.mem_map.1 hc
 simp [cS] at hd
 subst hd; rfl
theorem wRem_ten {n : Nat} : wRem (n : Int) 10 = ((n % 10 : Nat) : Int) := by
 unfold wRem
 rw [Int.tmod_eq_emod_of_nonneg (by omega)]
 omega
theorem wQuo_ten {n : Nat} (h : n ≤ 9223372036854775807) : wQuo .i64 (n : Int) 10 = ((n / 10 : Nat) : Int) := by
 unfold wQuo
 rw [Int.tdiv_eq_ediv_of_nonneg (by omega), wrap64 (by omega) (by omega)]
 omega
def marks (k : Int) : Nat → List Int
 | 0 => []
 | n + 1 => k :: marks (k + 1) n
theorem marks_len : ∀ (n : Nat) (k : Int), (marks k n).length = n
 | 0, _ => rfl
 | n + 1, k => by simp [marks, marks_len n]
theorem marks_get : ∀ (n : Nat) (k : Int) (j : Nat), j < n → (marks k n)[j]? = some (k + j)
 | 0, _, _, h => by omega
 | n + 1, k, 0, _ => by simp [marks]
 | n + 1, k, j + 1, h => by simp only [marks, List.getElem?_cons_succ]; rw [marks_get n (k + 1) j (by omega)]; congr 1; omega
theorem markIntS_spec (xs : List Int) (k : Int) (hk : 0 ≤ k ∧ k ≤ 1000000000000) (hx : xs.length ≤ 1000000000) : FnSpecM PR f_laws_markIntS [.c (.ref 0 0 none), ai k] t_int 1 (eL cI xs) (ai (k + xs.length)) (eL cI (marks k xs.length)) := by
 refine FnSpecM.intro hT 0 (pf Tryz.func141) rfl (by kernel_rfl) Tryz.ntmps141 rfl rfl (by simp [eL_length, marks_len]) rfl (flat_cI _) ?_
 intro v0
 conv => whnf
 refine tri_loop hT [0, 1, 5] (α := Nat × List Int) (fun x => { t := [(0, .w (.ref 0 0 none) v0), (1, ai (k + x.1)), (5, ai x.1)], h := [(0, .arr t_int 1 0 .own (eL cI x.2))], n := 1, N := 19 })
  (fun x => x.1 ≤ xs.length ∧ x.2.length = xs.length ∧ ∀ j, j < x.1 → x.2[j]? = some (k + j)) (fun x => xs.length - x.1) (0, xs) (by ((conv => whnf); simp only [eS, Int.add_zero])) ⟨Nat.zero_le _, rfl, fun j hj => by omega⟩ ?_
 intro ⟨i, ys⟩ ⟨hi, hl, hj⟩
 dsimp only at hi hl hj
 conv => whnf
 refine ifB_i (fun h1 => ?_) (fun h1 => ?_) <;> (conv => whnf) <;> simp at h1
 ·obtain ⟨y, hy⟩ := get_lt h1
  refine ref_at (k := i) (by simp) (by simp; omega) ?_
  conv => whnf
  refine st_at (by simp) hy (by simp [cI]) ?_
  conv => whnf
  refine ⟨(i + 1, ys.set i (k + i)), by dsimp only; omega, ⟨by dsimp only; omega, by simp [hl], fun j hlt => ?_⟩, ?_⟩
  ·dsimp only at hlt ⊢
   rw [List.getElem?_set]
   split
   ·rename_i he; subst he; simp [hl, h1]
   ·exact hj j (by omega)
  ·((conv => whnf); simp only [eS])
   refine ⟨⟨by rw [wAdd64] <;> omega, wI h1 (by omega)⟩, ?_⟩
   have := cI_set ys i y (k + i)
   simpa using this
 ·obtain rfl : i = xs.length := by omega
  have : ys = marks k xs.length := by
   apply List.ext_getElem?
   intro j
   rcases Nat.lt_or_ge j xs.length with q | q
   ·rw [hj j q, marks_get _ _ _ q]
   ·rw [List.getElem?_eq_none (by omega), List.getElem?_eq_none (by rw [marks_len]; omega)]
  subst this
  conv => whnf
def digs : Nat → Nat → ByteArray → ByteArray
 | 0, _, s => s
 | m + 1, n, s => if n = 0 then s else digs m (n / 10) (sApp ⟨#[UInt8.ofNat (48 + n % 10)]⟩ s)
def mtext (k : Int) : ByteArray := sApp ⟨#[109]⟩ (digs 20 k.toNat ⟨#[]⟩)
theorem markText_spec (k : Int) (hk : 0 < k ∧ k ≤ 1000000000000) : FnSpec PR f_laws_markText [ai k] (aS (mtext k)) [] 0 := by
 refine FnSpec.intro hT (pf Tryz.func241) rfl (by kernel_rfl) Tryz.ntmps241 rfl ?_
 conv => whnf
 rw [show iLe k 0 = false by simp; omega]
 conv => whnf
 obtain ⟨n, rfl⟩ : ∃ n : Nat, k = n := ⟨k.toNat, by omega⟩
 refine tri_loop hT [0, 3] (α := Nat × Nat × ByteArray) (fun x => { t := [(0, ai x.2.1), (3, aS x.2.2)], h := [], n := 0, N := 20 })
  (fun x => x.2.1 < 10 ^ x.1 ∧ x.1 ≤ 20 ∧ x.2.1 ≤ 1000000000000 ∧ x.2.2.size + x.1 ≤ 20 ∧ digs x.1 x.2.1 x.2.2 = digs 20 n ⟨#[]⟩) (fun x => x.1) (20, n, ⟨#[]⟩) (by (conv => whnf)) ⟨Nat.lt_of_le_of_lt (show n ≤ 1000000000000 by omega) (show 1000000000000 < 10 ^ 20 by decide), Nat.le_refl _, by dsimp only; omega, Nat.le_refl _, rfl⟩ ?_
 intro ⟨m, i, s⟩ ⟨h1, h2, h3, h4, h5⟩
 dsimp only at h1 h2 h3 h4 h5
 conv => whnf
 refine ifB_i (fun g => ?_) (fun g => ?_) <;> (conv => whnf) <;> simp only [eH] at g
 ·obtain ⟨m, rfl⟩ : ∃ m', m = m' + 1 := ⟨m - 1, by rcases m with _ | m <;> simp_all <;> omega⟩
  refine And.intro (by simp [NZ]) ?_
  conv => whnf
  rw [wRem_ten]
  have e1 : wAdd .i64 48 ((i % 10 : Nat) : Int) = ((48 + i % 10 : Nat) : Int) := by rw [wAdd64] <;> omega
  rw [e1]
  have e2 : wConv .u8 ((48 + i % 10 : Nat) : Int) = ((48 + i % 10 : Nat) : Int) := by
   unfold wConv
   have : ∀ j, j < 10 → IntKind.u8.wrap ((48 + j : Nat) : Int) = ((48 + j : Nat) : Int) := by decide
   exact this _ (Nat.mod_lt _ (by decide))
  rw [e2]
  conv => whnf
  refine ⟨⟨#[UInt8.ofNat (48 + i % 10)]⟩, ?_, ?_⟩
  ·simp only [encB, partOf, lenR, offR]
   have : ∀ j, j < 10 → (UInt8.ofNat (48 + j)).toNat = 48 + j := by decide
   have h6 := this (i % 10) (Nat.mod_lt _ (by decide))
   simp [h6]
   try omega
  conv => whnf
  refine And.intro (by unfold FitsS; have : (⟨#[UInt8.ofNat (48 + i % 10)]⟩ : ByteArray).size = 1 := rfl; dsimp only; omega) ?_
  conv => whnf
  refine And.intro (by simp [NZ]) ?_
  conv => whnf
  rw [wQuo_ten (by dsimp only; omega)]
  conv => whnf
  refine ⟨(m, i / 10, sApp ⟨#[UInt8.ofNat (48 + i % 10)]⟩ s), by dsimp only; omega, ⟨?_, by dsimp only; omega, by dsimp only; omega, ?_, ?_⟩, ?_⟩
  ·dsimp only
   rw [Nat.pow_succ] at h1
   omega
  ·dsimp only
   have : (sApp ⟨#[UInt8.ofNat (48 + i % 10)]⟩ s).size = 1 + s.size := by unfold sApp; rw [ByteArray.size_append]; rfl
   omega
  ·dsimp only
   rw [← h5, digs, if_neg (by omega)]
  conv => whnf
 ·have : digs m i s = s := by
   cases m with
   | zero => rfl
   | succ m => rw [digs, if_pos (by omega)]
  rw [this] at h5
  refine And.intro (by unfold FitsS; have : (⟨#[109]⟩ : ByteArray).size = 1 := rfl; dsimp only; omega) ?_
  conv => whnf
  rw [show mtext (n : Int) = sApp ⟨#[109]⟩ s by rw [h5]; rfl]
def marksS (k : Int) : Nat → List ByteArray
 | 0 => []
 | n + 1 => mtext k :: marksS (k + 1) n
theorem marksS_len : ∀ (n : Nat) (k : Int), (marksS k n).length = n
 | 0, _ => rfl
 | n + 1, k => by simp [marksS, marksS_len n]
theorem marksS_get : ∀ (n : Nat) (k : Int) (j : Nat), j < n → (marksS k n)[j]? = some (mtext (k + j))
 | 0, _, _, h => by omega
 | n + 1, k, 0, _ => by simp [marksS]
 | n + 1, k, j + 1, h => by simp only [marksS, List.getElem?_cons_succ]; rw [marksS_get n (k + 1) j (by omega)]; congr 2; omega
theorem cS_set (xs : List ByteArray) (k : Nat) (x y : ByteArray) : dSet (eL cS xs) k (dOver (cS x) 0 [.str y]) = eL cS (xs.set k y) := by
 rw [dOver_all (by rfl)]; exact eL_set cS xs k y
theorem markStringS_spec (xs : List ByteArray) (k : Int) (hk : 0 < k ∧ k + xs.length ≤ 1000000000000) (hx : xs.length ≤ 1000000000) : FnSpecM PR f_laws_markStringS [.c (.ref 0 0 none), ai k] t_string 1 (eL cS xs) (ai (k + xs.length)) (eL cS (marksS k xs.length)) := by
 refine FnSpecM.intro hT 0 (pf Tryz.func139) rfl (by kernel_rfl) Tryz.ntmps139 rfl rfl (by simp [eL_length, marksS_len]) rfl (flat_cS _) ?_
 intro v0
 conv => whnf
 refine tri_loop hT [0, 1, 5] (α := Nat × List ByteArray) (fun x => { t := [(0, .w (.ref 0 0 none) v0), (1, ai (k + x.1)), (5, ai x.1)], h := [(0, .arr t_string 1 0 .own (eL cS x.2))], n := 1, N := 20 })
  (fun x => x.1 ≤ xs.length ∧ x.2.length = xs.length ∧ ∀ j, j < x.1 → x.2[j]? = some (mtext (k + j))) (fun x => xs.length - x.1) (0, xs) (by ((conv => whnf); simp only [eS, Int.add_zero])) ⟨Nat.zero_le _, rfl, fun j hj => by omega⟩ ?_
 intro ⟨i, ys⟩ ⟨hi, hl, hj⟩
 dsimp only at hi hl hj
 conv => whnf
 refine ifB_i (fun h1 => ?_) (fun h1 => ?_) <;> (conv => whnf) <;> simp at h1
 ·obtain ⟨y, hy⟩ := get_lt h1
  have hms := markText_spec (k + i) (by omega)
  refine .inl ⟨_, _, _, hms, rfl, ?_⟩
  conv => whnf
  refine ref_at (k := i) (by simp) (by simp; omega) ?_
  conv => whnf
  refine st_at (by simp) hy (by simp [cS]) ?_
  conv => whnf
  refine ⟨(i + 1, ys.set i (mtext (k + i))), by dsimp only; omega, ⟨by dsimp only; omega, by simp [hl], fun j hlt => ?_⟩, ?_⟩
  ·dsimp only at hlt ⊢
   rw [List.getElem?_set]
   split
   ·rename_i he; subst he; simp [hl, h1]
   ·exact hj j (by omega)
  ·((conv => whnf); simp only [eS])
   refine ⟨⟨by rw [wAdd64] <;> omega, wI h1 (by omega)⟩, ?_⟩
   have := cS_set ys i y (mtext (k + i))
   simpa using this
 ·obtain rfl : i = xs.length := by omega
  have : ys = marksS k xs.length := by
   apply List.ext_getElem?
   intro j
   rcases Nat.lt_or_ge j xs.length with q | q
   ·rw [hj j q, marksS_get _ _ _ q]
   ·rw [List.getElem?_eq_none (by omega), List.getElem?_eq_none (by rw [marksS_len]; omega)]
  subst this
  conv => whnf
end Go.H.S
namespace Go.H.S
open Go Go.Proofs Go.H
attribute [local irreducible] Tri FnSpec FnSpecM FnSpecX FnSpecJ
theorem eL_set2 {α : Type} (f : α → List D) (xs : List α) (i : Nat) (y : α) : (eL f xs).set i (f y) = eL f (xs.set i y) := by rw [← eL_set]; unfold dSet; rfl
theorem set_keep {α : Type} {xs : List α} {i j : Nat} {y : α} (h : j ≠ i) : (xs.set i y)[j]? = xs[j]? := by rw [List.getElem?_set, if_neg (fun q => h q.symm)]
theorem costL_take {α : Type} (f : α → Nat) : ∀ (xs : List α) (i : Nat) (x : α), xs[i]? = some x → costL f (xs.take (i + 1)) = costL f (xs.take i) + f x
 | [], i, x, h => by simp at h
 | y :: r, 0, x, h => by simp at h; subst h; simp [costL]
 | y :: r, i + 1, x, h => by
  simp only [List.getElem?_cons_succ] at h
  simp only [List.take_succ_cons, costL]
  rw [costL_take f r i x h]
  omega
theorem costL_take_le {α : Type} (f : α → Nat) : ∀ (xs : List α) (i : Nat), costL f (xs.take i) ≤ costL f xs
 | [], i => by simp
 | y :: r, 0 => by simp [costL]
 | y :: r, i + 1 => by
  simp only [List.take_succ_cons, costL]
  have := costL_take_le f r i
  omega
theorem toIntSS_nest (xs : List (List Int)) (hx : xs.length ≤ 4000000000) (hs : ∀ s ∈ xs, s.length ≤ 4000000000) :
  FnSpec PR f_laws_toIntSS [.c (.d (.sl 1 (eL cIs xs)))] (.c (.ref 0 0 none)) [(0, .arr t_Lint 1 0 (.nest [t_int]) (eL cIs xs))] 1 := by
 refine FnSpec.intro hTn (pf Tryz.func93) rfl (by kernel_rfl) Tryz.ntmps93 rfl ?_
 conv => whnf
 refine ⟨by simp; omega, ?_⟩
 conv => whnf
 refine tri_loop hTn [0, 3, 4] (α := Nat × List (List D)) (fun x => { t := [(0, .c (.d (.sl 1 (eL cIs xs)))), (3, .c (.ref 0 0 none)), (4, ai (nInt x.1))], h := [(0, .arr t_Lint 1 0 (.nest [t_int]) x.2)], n := 1, N := 23 })
  (fun x => x.1 ≤ xs.length ∧ Fill cIs 1 xs x.1 x.2) (fun x => xs.length - x.1) (0, _) (by ((conv => whnf); simp only [eS]); rfl) ⟨by omega, Fill.start cIs xs rfl⟩ ?_
 intro ⟨k, es⟩ ⟨hk, hf⟩
 dsimp only at hk hf
 have hl := hf.len
 conv => whnf
 refine ifB_i (fun h1 => ?_) (fun h1 => ?_) <;> (conv => whnf) <;> simp at h1
 ·obtain ⟨s, hs'⟩ := get_lt h1
  refine idx_at (by simp) hs' ?_
  conv => whnf
  refine .inl ⟨_, _, _, toIntS_spec s (hs s (List.mem_of_getElem? hs')), rfl, ?_⟩
  conv => whnf
  refine ⟨by simp only [lenRE_none, dLen_len, hl, InB_eq, nInt_eq]; omega, ?_⟩
  conv => whnf
  refine ⟨flat_cI s, fun c' hc' => ?_⟩
  have hr := hf.room hc'
  refine ⟨by simp; omega, ?_⟩
  rw [dOver_all (by rw [hr]; rfl)]
  conv => whnf
  refine ⟨(k + 1, dSet es k (cIs s)), by dsimp only; omega, ⟨h1, hf.step hs' rfl⟩, ?_⟩
  ((conv => whnf); simp only [eS, wI h1 (by omega), nAdd_eq, nOf_eq, Int.toNat_natCast, offR, Nat.zero_add])
  rfl
 ·obtain rfl : k = xs.length := by omega
  rw [hf.done]
theorem markIntSS_lost (xs : List (List Int)) (k : Int) (hk : 0 < k ∧ k + costL List.length xs ≤ 1000000000000) (hx : xs.length ≤ 1000000000) (hxs : ∀ t ∈ xs, t.length ≤ 1000000000) :
  FnSpecJ PR f_laws_markIntSS [.c (.ref 0 0 none), ai k] [(0, .arr t_Lint 1 0 (.nest [t_int]) (eL cIs xs))] 1 (ai (k + costL List.length xs)) := by
 refine FnSpecJ.intro hTn (pf Tryz.func140) rfl (by kernel_rfl) Tryz.ntmps140 rfl rfl rfl ?_
 conv => whnf
 refine tri_loop hTn [0, 1, 5] (α := Nat × List (List Int)) (fun x => { t := [(0, .c (.ref 0 0 none)), (1, ai (k + costL List.length (xs.take x.1))), (5, ai x.1)], h := [(0, .arr t_Lint 1 0 (.nest [t_int]) (eL cIs x.2))], n := 1, N := 19 })
  (fun x => x.1 ≤ xs.length ∧ x.2.length = xs.length ∧ ∀ j, x.1 ≤ j → x.2[j]? = xs[j]?) (fun x => xs.length - x.1) (0, xs) (by ((conv => whnf); simp only [eS]); simp [costL]) ⟨Nat.zero_le _, rfl, fun j _ => rfl⟩ ?_
 intro ⟨i, ys⟩ ⟨hi, hl, hj⟩
 dsimp only at hi hl hj
 conv => whnf
 refine ifB_i (fun h1 => ?_) (fun h1 => ?_) <;> (conv => whnf) <;> simp at h1
 ·obtain ⟨y, hy⟩ := get_lt h1
  have hyx : xs[i]? = some y := by rw [← hj i (Nat.le_refl _)]; exact hy
  have hyl := hxs y (List.mem_of_getElem? hyx)
  have hc := costL_take List.length xs i y hyx
  have hc2 := costL_take_le List.length xs (i + 1)
  refine ref_at (k := i) (by simp) (by simp; omega) ?_
  conv => whnf
  refine ld_at (k := i) (by simp) hy ?_
  conv => whnf
  refine ⟨i, 0, cIs y, 1, eL cI y, t_int, by simp, by decide, by rw [eL_get, hy]; rfl, rfl, rfl, _, _, markIntS_spec y _ (by dsimp only; omega) hyl, ?_⟩
  conv => whnf
  rw [show (eL cIs ys).set i ((cIs y).set 0 (.sl 1 (eL cI (marks (k + costL List.length (xs.take i)) y.length)))) = eL cIs (ys.set i (marks (k + costL List.length (xs.take i)) y.length)) from eL_set2 cIs ys i _]
  conv => whnf
  refine ⟨(i + 1, ys.set i (marks (k + costL List.length (xs.take i)) y.length)), by dsimp only; omega, ⟨by dsimp only; omega, by simp [hl], fun j hlt => ?_⟩, ?_⟩
  ·dsimp only at hlt ⊢
   rw [set_keep (by omega)]
   exact hj j (by omega)
  ·((conv => whnf); simp only [eS, wI h1 (by omega)])
   rw [hc]; omega
 ·obtain rfl : i = xs.length := by omega
  rw [show xs.take xs.length = xs by simp]
end Go.H.S
namespace Go.H.S
open Go Go.Proofs Go.H
attribute [local irreducible] Tri FnSpec FnSpecM FnSpecX FnSpecJ
theorem clone_strs_spec (xs : List ByteArray) (hx : xs.length ≤ 1000000000) : FnSpec PR f_slices_Clone_Lstring_string [aSs xs] (.c (.ref 0 0 none)) [(0, .arr t_string 1 0 .own (eL cS xs))] 1 := by
 refine FnSpec.intro hT (pf Tryz.func244) rfl (by kernel_rfl) Tryz.ntmps244 rfl ?_
 conv => whnf
 intro b hb
 cases b
 ·conv => whnf
  refine And.intro (by simp [eL_length, dLen_len]; omega) ?_
  conv => whnf
  ((conv => whnf); simp only [eS, dApp_nil])
  done
 ·have : xs = [] := by
   have := congrArg List.length (hb rfl)
   rw [eL_length] at this
   exact List.eq_nil_of_length_eq_zero this
  subst this
  conv => whnf
  ((conv => whnf); simp only [eS, eL_nil])
  done
theorem clone_nodes_spec (xs : List Nd) (hx : xs.length ≤ 1000000000) : FnSpec PR f_slices_Clone_Limpl_Node_impl_Node [aNs xs] (.c (.ref 0 0 none)) [(0, .arr t_impl_Node 5 0 .own (eL cN xs))] 1 := by
 refine FnSpec.intro hT (pf Tryz.func310) rfl (by kernel_rfl) Tryz.ntmps310 rfl ?_
 conv => whnf
 intro b hb
 cases b
 ·conv => whnf
  refine And.intro (by simp [eL_length, dLen_len]; omega) ?_
  conv => whnf
  ((conv => whnf); simp only [eS, dApp_nil])
  done
 ·have : xs = [] := by
   have := congrArg List.length (hb rfl)
   rw [eL_length] at this
   exact List.eq_nil_of_length_eq_zero this
  subst this
  conv => whnf
  ((conv => whnf); simp only [eS, eL_nil])
  done
theorem impl_copyTree_spec (t : List Nd) (hl : t.length ≤ 1000000000) : FnSpec PR f_impl_copyTree [aT t] (.agg [.ref 0 0 none]) [(0, .arr t_impl_Node 5 0 .own (eL cN t))] 1 := by
 refine FnSpec.intro hT (pf Tryz.func267) rfl (by kernel_rfl) Tryz.ntmps267 rfl ?_
 conv => whnf
 refine .inl ⟨_, _, _, clone_nodes_spec t hl, rfl, ?_⟩
 conv => whnf
theorem spec_l17Copy_spec (t : List Nd) (hl : t.length ≤ 1000000000) : FnSpec PR f_spec_l17Copy [aT t] (.agg [.ref 0 0 none]) [(0, .arr t_impl_Node 5 0 .own (eL cN t))] 1 := by
 refine FnSpec.intro hT (pf Tryz.func272) rfl (by kernel_rfl) Tryz.ntmps272 rfl ?_
 conv => whnf
 refine And.intro (by simp [eL_length, dLen_len]; omega) ?_
 conv => whnf
 ((conv => whnf); simp only [eS, dApp_nil])
 done
structure smM (m : Mdl) : Prop where
 names : m.names.length ≤ 1000000000
 signs : m.signs.length ≤ 1000000000
 trees : m.trees.length ≤ 1000000000
 nodes : ∀ t ∈ m.trees, t.length ≤ 1000000000
theorem impl_Brought_spec (x lo hi : Int) : FnSpec PR f_impl_Brought [ai x, ai lo, ai hi] (ai (brought x lo hi)) [] 0 := by
 refine FnSpec.intro hT (pf Tryz.func217) rfl (by kernel_rfl) Tryz.ntmps217 rfl ?_
 conv => whnf
 refine ifB_i (fun h => ?_) (fun h => ?_) <;> (conv => whnf) <;> simp only [eH] at h
 ·((conv => whnf); simp only [eS])
  simp only [brought]
  rw [if_pos (by omega)]
 ·refine ifB_i (fun h2 => ?_) (fun h2 => ?_) <;> (conv => whnf) <;> simp only [eH] at h2 <;> ((conv => whnf); simp only [eS]) <;> simp only [brought]
  ·rw [if_neg (by omega), if_pos (by omega)]
  ·rw [if_neg (by omega), if_neg (by omega)]
end Go.H.S
