/- Library, part W: TreeOk of the program; it is the reference's. -/
import Derived.Test.YtbclkplebkencaaLV
namespace Go.H.S
open Go Go.Proofs Go.H
attribute [local irreducible] Tri FnSpec FnSpecM FnSpecX
set_option maxRecDepth 100000
set_option linter.unusedSimpArgs false
set_option linter.unusedVariables false


theorem impl_isDecimal_spec (x : Int) : FnSpec PR f_impl_isDecimal [ai x] (ab (decide (-2147483647 ≤ x ∧ x ≤ 2147483647))) [] 0 := by
  refine FnSpec.intro hT p_impl_isDecimal rfl (by kernel_rfl) n_impl_isDecimal rfl ?_
  conv => whnf
  refine .inl ⟨_, _, _, impl_within_spec _ _ _, rfl, ?_⟩
  (conv => whnf)

theorem impl_isLeafValue_spec (x : Int) : FnSpec PR f_impl_isLeafValue [ai x] (ab (decide (-1099511627776 ≤ x ∧ x ≤ 1099511627776))) [] 0 := by
  refine FnSpec.intro hT p_impl_isLeafValue rfl (by kernel_rfl) n_impl_isLeafValue rfl ?_
  conv => whnf
  refine .inl ⟨_, _, _, impl_within_spec _ _ _, rfl, ?_⟩
  (conv => whnf)

theorem impl_LevelOf_spec (t : List Nd) (node : Int) (hl : t.length ≤ 9223372036854775807) : FnSpec PR f_impl_LevelOf [aT t, ai node] (ai ((wayL t node).length - 1)) [] 0 := by
  have hw := wayL_len t node
  refine FnSpec.intro hT p_impl_LevelOf rfl (by kernel_rfl) n_impl_LevelOf rfl ?_
  conv => whnf
  refine .inl ⟨_, _, _, impl_wayTo_spec t node hl, rfl, ?_⟩
  ((conv => whnf); simp only [St.mk.injEq, List.cons.injEq, Prod.mk.injEq, AV.c.injEq, AV.agg.injEq, AV.tup.injEq, CV.d.injEq, D.int.injEq, D.bool.injEq, D.str.injEq, D.sl.injEq, Ent.arr.injEq, Ent.box.injEq, true_and, and_true, and_self, nInt_eq, Int.natCast_zero, dLen_eL, sLen_eq, lenRE_none])
  exact wSub64 (by omega) (by omega)

theorem impl_shapeOk_spec (t : List Nd) (ft : Int) (hft : 0 ≤ ft ∧ ft ≤ 4) (hl : t.length ≤ 1048576) : FnSpec PR f_impl_shapeOk [aT t, ai ft] (ab (shapeOk t ft)) [] 0 := by
  refine FnSpec.intro hT p_impl_shapeOk rfl (by kernel_rfl) n_impl_shapeOk rfl ?_
  conv => whnf
  refine tri_loop hT [1, 2, 5, 9, 10, 11] (α := Nat × Nat) (fun x => { t := [(1, ai ft), (2, .c (.ptr 0 0)), (5, ai x.2), (9, aNs t), (10, ai t.length), (11, ai x.1)], h := [(0, .box t_impl_Tree (cTr t))], n := 1, N := 72 })
    (fun x => x.1 ≤ t.length ∧ x.2 ≤ 2 * x.1 + 1 ∧ shapeL ft (t.drop x.1) x.1 x.2 = shapeL ft t 0 1) (fun x => t.length - x.1) (0, 1) (by ((conv => whnf); simp only [St.mk.injEq, List.cons.injEq, Prod.mk.injEq, AV.c.injEq, AV.agg.injEq, AV.tup.injEq, CV.d.injEq, D.int.injEq, D.bool.injEq, D.str.injEq, D.sl.injEq, Ent.arr.injEq, Ent.box.injEq, true_and, and_true, and_self, nInt_eq, Int.natCast_zero, dLen_eL, sLen_eq]); rfl) ⟨Nat.zero_le _, by simp, by simp⟩ ?_
  intro ⟨k, nx⟩ ⟨hk, hx, hs⟩
  dsimp only at hk hx hs
  (conv => whnf)
  refine ifB_i (fun h1 => ?_) (fun h1 => ?_) <;> (conv => whnf) <;> simp at h1
  · obtain ⟨n, hn⟩ := get_lt h1
    rw [drop_at hn, shapeL] at hs
    refine idx_at (by simp) hn ?_
    (conv => whnf)
    refine .inl ⟨_, _, _, impl_isLeaf_spec n, rfl, ?_⟩
    (conv => whnf)
    refine ifB_i (fun h2 => ?_) (fun h2 => ?_) <;> (conv => whnf) <;> simp only [nInt_eq, Int.natCast_zero, dLen_eL, sLen_eq, nOf_eq, Int.toNat_natCast, nAdd_eq, nSub_eq, dLen_nil, dLen_cons, iLt_t, iLt_f, iLe_t, iLe_f, iEq_t, iEq_f, sEq_t, sEq_f, bNot_t, bNot_f, bAnd_t, bEq_t, bEq_f, Bool.not_eq_true, Bool.not_eq_false, Bool.true_eq_false, Bool.false_eq_true] at h2
    · rw [if_pos h2] at hs
      generalize hb : bNot (bAnd (iEq n.f (-1)) (bAnd (iEq n.c 0) (bAnd (iEq n.l 0) (bAnd (iEq n.r 0) (bAnd (iEq n.v n.v) true))))) = b
      cases b <;> (conv => whnf)
      · refine .inl ⟨_, _, _, impl_isLeafValue_spec n.v, rfl, ?_⟩
        (conv => whnf)
        generalize hb2 : decide (-1099511627776 ≤ n.v ∧ n.v ≤ 1099511627776) = b2
        cases b2 <;> (conv => whnf)
        · have hlb : leafBad n = true := by simp [leafBad, hb2]
          rw [if_pos hlb] at hs
          rw [shape_bad hs]
        · have hlb : leafBad n = false := by
            obtain ⟨f, c, l, r, v⟩ := n
            simp only [leafBad, hb2]
            simp_all [bNot, bAnd, iEq]
          rw [hlb] at hs
          refine ⟨(k + 1, nx), by dsimp only; omega, ⟨h1, by dsimp only; omega, by simpa using hs⟩, ?_⟩
          ((conv => whnf); simp only [St.mk.injEq, List.cons.injEq, Prod.mk.injEq, AV.c.injEq, AV.agg.injEq, AV.tup.injEq, CV.d.injEq, D.int.injEq, D.bool.injEq, D.str.injEq, D.sl.injEq, Ent.arr.injEq, Ent.box.injEq, true_and, and_true, and_self, nInt_eq, Int.natCast_zero, dLen_eL, sLen_eq, wI h1 (by omega)])
      · have hlb : leafBad n = true := by
          obtain ⟨f, c, l, r, v⟩ := n
          simp only [leafBad]
          simp_all [bNot, bAnd, iEq]
        rw [if_pos hlb] at hs
        rw [shape_bad hs]
    · rw [if_neg h2] at hs
      refine .inl ⟨_, _, _, impl_within_spec _ _ _, rfl, ?_⟩
      rw [show wSub .i64 ft 1 = ft - 1 from wSub64 (by omega) (by omega)]
      (conv => whnf)
      generalize hb1 : decide (0 ≤ n.f ∧ n.f ≤ ft - 1) = b1
      cases b1 <;> (conv => whnf)
      · have hib : innerBad n ft k nx = true := by
          have : ¬ (0 ≤ n.f ∧ n.f ≤ ft - 1) := by simpa using hb1
          simp [innerBad, this]
        rw [if_pos hib] at hs
        rw [shape_bad hs]
      · refine .inl ⟨_, _, _, impl_isDecimal_spec _, rfl, ?_⟩
        (conv => whnf)
        generalize hb2 : decide (-2147483647 ≤ n.c ∧ n.c ≤ 2147483647) = b2
        cases b2 <;> (conv => whnf)
        · have hib : innerBad n ft k nx = true := by
            have : ¬ (-2147483647 ≤ n.c ∧ n.c ≤ 2147483647) := by simpa using hb2
            simp [innerBad, this]
          rw [if_pos hib] at hs
          rw [shape_bad hs]
        · generalize hb3 : iEq n.v 0 = b3
          cases b3 <;> (conv => whnf)
          · have hib : innerBad n ft k nx = true := by
              have : ¬ n.v = 0 := by simpa [iEq] using hb3
              simp [innerBad, this]
            rw [if_pos hib] at hs
            rw [shape_bad hs]
          generalize hb4 : iEq n.l (nx : Int) = b4
          cases b4 <;> (conv => whnf)
          · have hib : innerBad n ft k nx = true := by
              have : ¬ n.l = nx := by simpa [iEq] using hb4
              simp [innerBad, this]
            rw [if_pos hib] at hs
            rw [shape_bad hs]
          rw [show wAdd .i64 (nx : Int) 1 = nx + 1 from wAdd64 (by omega) (by omega)]
          generalize hb5 : iEq n.r ((nx : Int) + 1) = b5
          cases b5 <;> (conv => whnf)
          · have hib : innerBad n ft k nx = true := by
              have : ¬ n.r = nx + 1 := by simpa [iEq] using hb5
              simp [innerBad, this]
            rw [if_pos hib] at hs
            rw [shape_bad hs]
          have q4 : n.l = nx := by simpa [iEq] using hb4
          generalize hb6 : iLe (nx : Int) ((k, nx).fst : Int) = b6
          dsimp only at hb6
          cases b6 <;> (conv => whnf)
          rotate_left
          · have hib : innerBad n ft k nx = true := by
              have : (nx : Int) ≤ k := by simpa [iLe] using hb6
              simp [innerBad, q4]
              omega
            rw [if_pos hib] at hs
            rw [shape_bad hs]
          have hib : innerBad n ft k nx = false := by
            have q3 : n.v = 0 := by simpa [iEq] using hb3
            have q5 : n.r = nx + 1 := by simpa [iEq] using hb5
            have q6 : ¬ (nx : Int) ≤ k := by simpa [iLe] using hb6
            have q1 : 0 ≤ n.f ∧ n.f ≤ ft - 1 := by simpa using hb1
            have q2 : -2147483647 ≤ n.c ∧ n.c ≤ 2147483647 := by simpa using hb2
            simp [innerBad, q1, q2, q3, q4, q5]
            omega
          rw [hib] at hs
          refine ⟨(k + 1, nx + 2), by dsimp only; omega, ⟨h1, by dsimp only; omega, by simpa using hs⟩, ?_⟩
          ((conv => whnf); simp only [St.mk.injEq, List.cons.injEq, Prod.mk.injEq, AV.c.injEq, AV.agg.injEq, AV.tup.injEq, CV.d.injEq, D.int.injEq, D.bool.injEq, D.str.injEq, D.sl.injEq, Ent.arr.injEq, Ent.box.injEq, true_and, and_true, and_self, nInt_eq, Int.natCast_zero, dLen_eL, sLen_eq, wI h1 (by omega), wAdd64 (show -9223372036854775808 ≤ (nx : Int) + 2 by omega) (by omega), Int.natCast_add, Int.cast_ofNat_Int])
  · obtain rfl : k = t.length := by omega
    simp only [List.drop_length, shapeL] at hs
    ((conv => whnf); simp only [St.mk.injEq, List.cons.injEq, Prod.mk.injEq, AV.c.injEq, AV.agg.injEq, AV.tup.injEq, CV.d.injEq, D.int.injEq, D.bool.injEq, D.str.injEq, D.sl.injEq, Ent.arr.injEq, Ent.box.injEq, true_and, and_true, and_self, nInt_eq, Int.natCast_zero, dLen_eL, sLen_eq])
    simp only [shapeOk, ← hs, iEq, Option.some.injEq]

def wayBad (t : List Nd) (n : Nd) : List Int → Bool
  | a :: b :: r => badP t n a b || wayBad t n (b :: r)
  | _ => false
def implBad (t : List Nd) (k : Int) (n : Nd) : Bool :=
  if n.f = -1 then decide (4 < ((wayL t k).length : Int) - 1) else wayBad t n (wayL t k)
def implBads (t : List Nd) : List Nd → Nat → Bool
  | [], _ => false
  | n :: r, k => implBad t k n || implBads t r (k + 1)

def treeOkI (t : List Nd) (ft : Int) : Bool :=
  decide (1 ≤ (t.length : Int) ∧ (t.length : Int) ≤ 31) && (decide (0 ≤ ft ∧ ft ≤ 4) && (shapeOk t ft && !implBads t t 0))
set_option maxHeartbeats 1000000 in
theorem impl_TreeOk_one (t : List Nd) (ft : Int) (hl : t.length ≤ 1048576) : FnSpec PR f_impl_TreeOk [aT t, ai ft] (ab (treeOkI t ft)) [] 0 := by
  refine FnSpec.intro hT p_impl_TreeOk rfl (by kernel_rfl) n_impl_TreeOk rfl ?_
  conv => whnf
  refine .inl ⟨_, _, _, impl_within_spec _ _ _, rfl, ?_⟩
  (conv => whnf)
  refine ifB_i (fun h2 => ?_) (fun h2 => ?_) <;> (conv => whnf) <;> simp only [nInt_eq, Int.natCast_zero, dLen_eL, sLen_eq, nOf_eq, Int.toNat_natCast, nAdd_eq, nSub_eq, dLen_nil, dLen_cons, iLt_t, iLt_f, iLe_t, iLe_f, iEq_t, iEq_f, sEq_t, sEq_f, bNot_t, bNot_f, bAnd_t, bEq_t, bEq_f, Bool.not_eq_true, Bool.not_eq_false, Bool.true_eq_false, Bool.false_eq_true] at h2
  · have : decide (0 ≤ ft ∧ ft ≤ 4) = false := by simpa using h2
    simp [treeOkI, this]
  refine .inl ⟨_, _, _, impl_within_spec _ _ _, rfl, ?_⟩
  (conv => whnf)
  refine ifB_i (fun h1 => ?_) (fun h1 => ?_) <;> (conv => whnf) <;> simp only [nInt_eq, Int.natCast_zero, dLen_eL, sLen_eq, nOf_eq, Int.toNat_natCast, nAdd_eq, nSub_eq, dLen_nil, dLen_cons, iLt_t, iLt_f, iLe_t, iLe_f, iEq_t, iEq_f, sEq_t, sEq_f, bNot_t, bNot_f, bAnd_t, bEq_t, bEq_f, Bool.not_eq_true, Bool.not_eq_false, Bool.true_eq_false, Bool.false_eq_true] at h1
  · simp [treeOkI, h1]
  have h1' := of_decide_eq_true h1
  have h2' := of_decide_eq_true h2
  refine .inl ⟨_, _, _, impl_shapeOk_spec t ft h2' (by omega), rfl, ?_⟩
  (conv => whnf)
  refine ifB_i (fun h3 => ?_) (fun h3 => ?_) <;> (conv => whnf) <;> simp only [nInt_eq, Int.natCast_zero, dLen_eL, sLen_eq, nOf_eq, Int.toNat_natCast, nAdd_eq, nSub_eq, dLen_nil, dLen_cons, iLt_t, iLt_f, iLe_t, iLe_f, iEq_t, iEq_f, sEq_t, sEq_f, bNot_t, bNot_f, bAnd_t, bEq_t, bEq_f, Bool.not_eq_true, Bool.not_eq_false, Bool.true_eq_false, Bool.false_eq_true] at h3
  · simp [treeOkI, h3]
  have hto : treeOkI t ft = !implBads t t 0 := by simp [treeOkI, h1, h2, h3]
  rw [hto]
  refine tri_loop hT [2, 28, 29, 30] (α := Nat) (fun x => { t := [(2, .c (.ptr 0 0)), (28, aNs t), (29, ai t.length), (30, ai x)], h := [(0, .box t_impl_Tree (cTr t))], n := 1, N := 99 })
    (fun x => x ≤ t.length ∧ implBads t (t.drop x) x = implBads t t 0) (fun x => t.length - x) 0 (by ((conv => whnf); simp only [St.mk.injEq, List.cons.injEq, Prod.mk.injEq, AV.c.injEq, AV.agg.injEq, AV.tup.injEq, CV.d.injEq, D.int.injEq, D.bool.injEq, D.str.injEq, D.sl.injEq, Ent.arr.injEq, Ent.box.injEq, true_and, and_true, and_self, nInt_eq, Int.natCast_zero, dLen_eL, sLen_eq])) ⟨Nat.zero_le _, by simp⟩ ?_
  intro k ⟨hk, hw⟩
  (conv => whnf)
  refine ifB_i (fun h4 => ?_) (fun h4 => ?_) <;> (conv => whnf) <;> simp at h4
  · obtain ⟨n, hn⟩ := get_lt h4
    rw [drop_at hn, implBads] at hw
    refine idx_at (by simp) hn ?_
    (conv => whnf)
    refine .inl ⟨_, _, _, impl_isLeaf_spec n, rfl, ?_⟩
    (conv => whnf)
    refine ifB_i (fun h5 => ?_) (fun h5 => ?_) <;> (conv => whnf) <;> simp only [nInt_eq, Int.natCast_zero, dLen_eL, sLen_eq, nOf_eq, Int.toNat_natCast, nAdd_eq, nSub_eq, dLen_nil, dLen_cons, iLt_t, iLt_f, iLe_t, iLe_f, iEq_t, iEq_f, sEq_t, sEq_f, bNot_t, bNot_f, bAnd_t, bEq_t, bEq_f, Bool.not_eq_true, Bool.not_eq_false, Bool.true_eq_false, Bool.false_eq_true] at h5
    · refine .inl ⟨_, _, _, impl_LevelOf_spec t k (by omega), rfl, ?_⟩
      (conv => whnf)
      refine ifB_i (fun h6 => ?_) (fun h6 => ?_) <;> (conv => whnf) <;> simp only [nInt_eq, Int.natCast_zero, dLen_eL, sLen_eq, nOf_eq, Int.toNat_natCast, nAdd_eq, nSub_eq, dLen_nil, dLen_cons, iLt_t, iLt_f, iLe_t, iLe_f, iEq_t, iEq_f, sEq_t, sEq_f, bNot_t, bNot_f, bAnd_t, bEq_t, bEq_f, Bool.not_eq_true, Bool.not_eq_false, Bool.true_eq_false, Bool.false_eq_true] at h6
      · have : implBad t k n = true := by simp only [implBad, if_pos h5]; exact decide_eq_true h6
        rw [← hw, this]
        rfl
      · have : implBad t k n = false := by simp only [implBad, if_pos h5]; exact decide_eq_false (by omega)
        rw [this, Bool.false_or] at hw
        refine ⟨k + 1, by omega, ⟨h4, hw⟩, ?_⟩
        ((conv => whnf); simp only [St.mk.injEq, List.cons.injEq, Prod.mk.injEq, AV.c.injEq, AV.agg.injEq, AV.tup.injEq, CV.d.injEq, D.int.injEq, D.bool.injEq, D.str.injEq, D.sl.injEq, Ent.arr.injEq, Ent.box.injEq, true_and, and_true, and_self, nInt_eq, Int.natCast_zero, dLen_eL, sLen_eq, wI h4 (by omega)])
    · have hib : implBad t k n = wayBad t n (wayL t k) := by simp only [implBad, if_neg h5]
      rw [hib] at hw
      obtain ⟨l0, hl0, _⟩ := steps_anc h3 31 k (by omega)
      have hway : wayL t k = l0.reverse := by unfold wayL; rw [if_pos (by omega), hl0]
      have hlen : 1 ≤ (wayL t k).length := by
        rw [hway, steps] at *
        simp only [Option.map_eq_some_iff] at hl0
        obtain ⟨r, _, rfl⟩ := hl0
        simp
      have hlt : ∀ y ∈ wayL t k, 0 ≤ y ∧ y < t.length := fun y hy => steps_lt t 32 k l0 (by omega) hl0 y (by rw [hway] at hy; simpa using hy)
      refine .inl ⟨_, _, _, impl_wayTo_spec t k (by omega), rfl, ?_⟩
      generalize wayL t k = w at *
      (conv => whnf)
      have hwl : w.length ≤ 32 := by rw [hway]; have := steps_len t 32 k l0 hl0; simpa using this
      obtain ⟨m, hm⟩ : ∃ m, w.length = m + 1 := ⟨w.length - 1, by omega⟩
      have e1 : wSub .i64 (nInt (lenRE (eL cI w) none)) 1 = (m : Int) := by
        rw [wSub64] <;> simp <;> omega
      rw [e1]
      refine ⟨by simp [InS]; omega, ?_⟩
      (conv => whnf)
      refine tri_loop hT [2, 6, 7, 28, 29, 30, 48, 49, 50] (α := Nat) (fun x => { t := [(2, .c (.ptr 0 0)), (6, .c (.ptr 1 0)), (7, .c (.ref 2 0 none)), (28, aNs t), (29, ai t.length), (30, ai k), (48, .c (.ref 2 0 (some (true, 0, m)))), (49, ai m), (50, ai x)], h := [(0, .box t_impl_Tree (cTr t)), (1, .box t_impl_Node (cNd n)), (2, .arr t_int 1 0 .own (eL cI w))], n := 3, N := 99 })
        (fun x => x ≤ m ∧ wayBad t n (w.drop x) = wayBad t n w) (fun x => m - x) 0 (by ((conv => whnf); simp only [St.mk.injEq, List.cons.injEq, Prod.mk.injEq, AV.c.injEq, AV.agg.injEq, AV.tup.injEq, CV.d.injEq, D.int.injEq, D.bool.injEq, D.str.injEq, D.sl.injEq, Ent.arr.injEq, Ent.box.injEq, true_and, and_true, and_self, nInt_eq, Int.natCast_zero, dLen_eL, sLen_eq]); simp) ⟨Nat.zero_le _, by simp⟩ ?_
      intro j ⟨g1, g2⟩
      (conv => whnf)
      refine ifB_i (fun g3 => ?_) (fun g3 => ?_) <;> (conv => whnf) <;> simp at g3
      · obtain ⟨a, ha⟩ := get_lt (show j < w.length by omega)
        obtain ⟨b, hb⟩ := get_lt (show j + 1 < w.length by omega)
        refine ref_at (k := j) (by simp) (by simp; omega) ?_
        (conv => whnf)
        refine ld_at (by simp) ha ?_
        (conv => whnf)
        obtain ⟨i, hi⟩ : ∃ i : Nat, a = i := ⟨a.toNat, by have := hlt a (List.mem_of_getElem? ha); omega⟩
        subst hi
        have hil := (hlt _ (List.mem_of_getElem? ha)).2
        obtain ⟨x, hx⟩ := get_lt (show i < t.length by omega)
        refine idx_at (by simp) hx ?_
        (conv => whnf)
        rw [drop_at ha, drop_at hb, wayBad] at g2
        have hin : ∀ v0, (iEq x.f n.f && (iEq b x.r && iLe n.c x.c || iEq b x.l && iLe x.c n.c)) = v0 → badP t n i b = v0 := by
          rintro _ rfl
          simp only [badP, Int.toNat_natCast, hx, iEq, eq_comm]
        refine ifB_i (fun g4 => ?_) (fun g4 => ?_) <;> (conv => whnf) <;> simp only [nInt_eq, Int.natCast_zero, dLen_eL, sLen_eq, nOf_eq, Int.toNat_natCast, nAdd_eq, nSub_eq, dLen_nil, dLen_cons, iLt_t, iLt_f, iLe_t, iLe_f, iEq_t, iEq_f, sEq_t, sEq_f, bNot_t, bNot_f, bAnd_t, bEq_t, bEq_f, Bool.not_eq_true, Bool.not_eq_false, Bool.true_eq_false, Bool.false_eq_true] at g4
        · rw [hin false (by simp [iEq, g4]), Bool.false_or] at g2
          refine ⟨j + 1, by omega, ⟨by omega, by rw [← g2, drop_at hb]⟩, ?_⟩
          ((conv => whnf); simp only [St.mk.injEq, List.cons.injEq, Prod.mk.injEq, AV.c.injEq, AV.agg.injEq, AV.tup.injEq, CV.d.injEq, D.int.injEq, D.bool.injEq, D.str.injEq, D.sl.injEq, Ent.arr.injEq, Ent.box.injEq, true_and, and_true, and_self, nInt_eq, Int.natCast_zero, dLen_eL, sLen_eq, wI g3 (by omega)])
        · have g4' : iEq x.f n.f = true := by simpa [iEq] using g4
          refine tri_conf hT hmix (by kernel_rfl) ?_
          (conv => whnf)
          repeat' (first | (refine And.intro (fun q => ?_) (fun q => ?_) <;> cases q <;> (conv => whnf)) | (refine ref_at (wI g3 (by omega)) (by simp; omega) ?_; (conv => whnf)) | (refine ld_at (by simp [wI g3 (show m ≤ 9223372036854775807 by omega)]) hb ?_; (conv => whnf)) | fail)
          generalize e3 : iEq b x.l = c3
          cases c3
          · repeat' (first | (refine And.intro (fun q => ?_) (fun q => ?_) <;> cases q <;> (conv => whnf)) | (refine ref_at (wI g3 (by omega)) (by simp; omega) ?_; (conv => whnf)) | (refine ld_at (by simp [wI g3 (show m ≤ 9223372036854775807 by omega)]) hb ?_; (conv => whnf)) | fail)
            generalize e2 : iEq b x.r = c2
            cases c2
            · repeat' (first | (refine And.intro (fun q => ?_) (fun q => ?_) <;> cases q <;> (conv => whnf)) | (refine ref_at (wI g3 (by omega)) (by simp; omega) ?_; (conv => whnf)) | (refine ld_at (by simp [wI g3 (show m ≤ 9223372036854775807 by omega)]) hb ?_; (conv => whnf)) | fail)
              rw [hin false (by first | (simp [e2, e3]; done) | (simp [e2, e5]; done) | (simp [e3, e4]; done) | (simp [e4, e5]; done)), Bool.false_or] at g2
              refine ⟨j + 1, by omega, ⟨by omega, by rw [← g2, drop_at hb]⟩, ?_⟩
              ((conv => whnf); simp only [St.mk.injEq, List.cons.injEq, Prod.mk.injEq, AV.c.injEq, AV.agg.injEq, AV.tup.injEq, CV.d.injEq, D.int.injEq, D.bool.injEq, D.str.injEq, D.sl.injEq, Ent.arr.injEq, Ent.box.injEq, true_and, and_true, and_self, nInt_eq, Int.natCast_zero, dLen_eL, sLen_eq, wI g3 (by omega)])
            · repeat' (first | (refine And.intro (fun q => ?_) (fun q => ?_) <;> cases q <;> (conv => whnf)) | (refine ref_at (wI g3 (by omega)) (by simp; omega) ?_; (conv => whnf)) | (refine ld_at (by simp [wI g3 (show m ≤ 9223372036854775807 by omega)]) hb ?_; (conv => whnf)) | fail)
              generalize e4 : iLe n.c x.c = c4
              cases c4
              · repeat' (first | (refine And.intro (fun q => ?_) (fun q => ?_) <;> cases q <;> (conv => whnf)) | (refine ref_at (wI g3 (by omega)) (by simp; omega) ?_; (conv => whnf)) | (refine ld_at (by simp [wI g3 (show m ≤ 9223372036854775807 by omega)]) hb ?_; (conv => whnf)) | fail)
                rw [hin false (by first | (simp [e2, e3]; done) | (simp [e2, e5]; done) | (simp [e3, e4]; done) | (simp [e4, e5]; done)), Bool.false_or] at g2
                refine ⟨j + 1, by omega, ⟨by omega, by rw [← g2, drop_at hb]⟩, ?_⟩
                ((conv => whnf); simp only [St.mk.injEq, List.cons.injEq, Prod.mk.injEq, AV.c.injEq, AV.agg.injEq, AV.tup.injEq, CV.d.injEq, D.int.injEq, D.bool.injEq, D.str.injEq, D.sl.injEq, Ent.arr.injEq, Ent.box.injEq, true_and, and_true, and_self, nInt_eq, Int.natCast_zero, dLen_eL, sLen_eq, wI g3 (by omega)])
              · repeat' (first | (refine And.intro (fun q => ?_) (fun q => ?_) <;> cases q <;> (conv => whnf)) | (refine ref_at (wI g3 (by omega)) (by simp; omega) ?_; (conv => whnf)) | (refine ld_at (by simp [wI g3 (show m ≤ 9223372036854775807 by omega)]) hb ?_; (conv => whnf)) | fail)
                rw [hin true (by first | (simp [g4', e2, e4]; done) | (simp [g4', e3, e5]; done))] at g2
                rw [← g2] at hw
                rw [← hw]
                rfl
          · repeat' (first | (refine And.intro (fun q => ?_) (fun q => ?_) <;> cases q <;> (conv => whnf)) | (refine ref_at (wI g3 (by omega)) (by simp; omega) ?_; (conv => whnf)) | (refine ld_at (by simp [wI g3 (show m ≤ 9223372036854775807 by omega)]) hb ?_; (conv => whnf)) | fail)
            generalize e5 : iLe x.c n.c = c5
            cases c5
            · repeat' (first | (refine And.intro (fun q => ?_) (fun q => ?_) <;> cases q <;> (conv => whnf)) | (refine ref_at (wI g3 (by omega)) (by simp; omega) ?_; (conv => whnf)) | (refine ld_at (by simp [wI g3 (show m ≤ 9223372036854775807 by omega)]) hb ?_; (conv => whnf)) | fail)
              generalize e2 : iEq b x.r = c2
              cases c2
              · repeat' (first | (refine And.intro (fun q => ?_) (fun q => ?_) <;> cases q <;> (conv => whnf)) | (refine ref_at (wI g3 (by omega)) (by simp; omega) ?_; (conv => whnf)) | (refine ld_at (by simp [wI g3 (show m ≤ 9223372036854775807 by omega)]) hb ?_; (conv => whnf)) | fail)
                rw [hin false (by first | (simp [e2, e3]; done) | (simp [e2, e5]; done) | (simp [e3, e4]; done) | (simp [e4, e5]; done)), Bool.false_or] at g2
                refine ⟨j + 1, by omega, ⟨by omega, by rw [← g2, drop_at hb]⟩, ?_⟩
                ((conv => whnf); simp only [St.mk.injEq, List.cons.injEq, Prod.mk.injEq, AV.c.injEq, AV.agg.injEq, AV.tup.injEq, CV.d.injEq, D.int.injEq, D.bool.injEq, D.str.injEq, D.sl.injEq, Ent.arr.injEq, Ent.box.injEq, true_and, and_true, and_self, nInt_eq, Int.natCast_zero, dLen_eL, sLen_eq, wI g3 (by omega)])
              · repeat' (first | (refine And.intro (fun q => ?_) (fun q => ?_) <;> cases q <;> (conv => whnf)) | (refine ref_at (wI g3 (by omega)) (by simp; omega) ?_; (conv => whnf)) | (refine ld_at (by simp [wI g3 (show m ≤ 9223372036854775807 by omega)]) hb ?_; (conv => whnf)) | fail)
                generalize e4 : iLe n.c x.c = c4
                cases c4
                · repeat' (first | (refine And.intro (fun q => ?_) (fun q => ?_) <;> cases q <;> (conv => whnf)) | (refine ref_at (wI g3 (by omega)) (by simp; omega) ?_; (conv => whnf)) | (refine ld_at (by simp [wI g3 (show m ≤ 9223372036854775807 by omega)]) hb ?_; (conv => whnf)) | fail)
                  rw [hin false (by first | (simp [e2, e3]; done) | (simp [e2, e5]; done) | (simp [e3, e4]; done) | (simp [e4, e5]; done)), Bool.false_or] at g2
                  refine ⟨j + 1, by omega, ⟨by omega, by rw [← g2, drop_at hb]⟩, ?_⟩
                  ((conv => whnf); simp only [St.mk.injEq, List.cons.injEq, Prod.mk.injEq, AV.c.injEq, AV.agg.injEq, AV.tup.injEq, CV.d.injEq, D.int.injEq, D.bool.injEq, D.str.injEq, D.sl.injEq, Ent.arr.injEq, Ent.box.injEq, true_and, and_true, and_self, nInt_eq, Int.natCast_zero, dLen_eL, sLen_eq, wI g3 (by omega)])
                · repeat' (first | (refine And.intro (fun q => ?_) (fun q => ?_) <;> cases q <;> (conv => whnf)) | (refine ref_at (wI g3 (by omega)) (by simp; omega) ?_; (conv => whnf)) | (refine ld_at (by simp [wI g3 (show m ≤ 9223372036854775807 by omega)]) hb ?_; (conv => whnf)) | fail)
                  rw [hin true (by first | (simp [g4', e2, e4]; done) | (simp [g4', e3, e5]; done))] at g2
                  rw [← g2] at hw
                  rw [← hw]
                  rfl
            · repeat' (first | (refine And.intro (fun q => ?_) (fun q => ?_) <;> cases q <;> (conv => whnf)) | (refine ref_at (wI g3 (by omega)) (by simp; omega) ?_; (conv => whnf)) | (refine ld_at (by simp [wI g3 (show m ≤ 9223372036854775807 by omega)]) hb ?_; (conv => whnf)) | fail)
              rw [hin true (by first | (simp [g4', e2, e4]; done) | (simp [g4', e3, e5]; done))] at g2
              rw [← g2] at hw
              rw [← hw]
              rfl
      · refine ⟨k + 1, by omega, ⟨h4, ?_⟩, ?_⟩
        · obtain rfl : j = m := by omega
          obtain ⟨a, ha⟩ := get_lt (show j < w.length by omega)
          have hd : w.drop (j + 1) = [] := List.drop_eq_nil_of_le (by omega)
          rw [drop_at ha, hd] at g2
          rw [← g2] at hw
          exact hw
        · ((conv => whnf); simp only [St.mk.injEq, List.cons.injEq, Prod.mk.injEq, AV.c.injEq, AV.agg.injEq, AV.tup.injEq, CV.d.injEq, D.int.injEq, D.bool.injEq, D.str.injEq, D.sl.injEq, Ent.arr.injEq, Ent.box.injEq, true_and, and_true, and_self, nInt_eq, Int.natCast_zero, dLen_eL, sLen_eq, wI h4 (by omega)])
  · obtain rfl : k = t.length := by omega
    simp only [List.drop_length, implBads] at hw
    (conv => whnf)
    rw [← hw]
    rfl

theorem steps_more {t : List Nd} : ∀ {n : Nat} {x : Int} {l : List Int}, steps t n x = some l → steps t (n + 1) x = some l
  | 0, x, l, h => by simp [steps] at h
  | n + 1, x, l, h => by
    rw [steps] at h ⊢
    split
    · rw [if_pos (by assumption)] at h; exact h
    · rw [if_neg (by assumption)] at h
      simp only [Option.map_eq_some_iff] at h ⊢
      obtain ⟨r, h1, h2⟩ := h
      exact ⟨r, steps_more h1, h2⟩
theorem chain_iff (t : List Nd) (n : Nd) : ∀ l : List Int, chainBad t n l = true ↔ ∃ (j : Nat) (a b : Int), l[j]? = some a ∧ l[j + 1]? = some b ∧ badP t n b a = true
  | [] => by simp [chainBad]
  | [a] => by simp [chainBad]
  | a :: b :: r => by
    simp only [chainBad, Bool.or_eq_true, chain_iff t n (b :: r)]
    constructor
    · rintro (h | ⟨j, x, y, h1, h2, h3⟩)
      · exact ⟨0, a, b, rfl, rfl, h⟩
      · exact ⟨j + 1, x, y, by simpa using h1, by simpa using h2, h3⟩
    · rintro ⟨j, x, y, h1, h2, h3⟩
      cases j with
      | zero => simp at h1 h2; subst h1; subst h2; exact .inl h3
      | succ j => exact .inr ⟨j, x, y, by simpa using h1, by simpa using h2, h3⟩
theorem way_iff (t : List Nd) (n : Nd) : ∀ l : List Int, wayBad t n l = true ↔ ∃ (j : Nat) (a b : Int), l[j]? = some a ∧ l[j + 1]? = some b ∧ badP t n a b = true
  | [] => by simp [wayBad]
  | [a] => by simp [wayBad]
  | a :: b :: r => by
    simp only [wayBad, Bool.or_eq_true, way_iff t n (b :: r)]
    constructor
    · rintro (h | ⟨j, x, y, h1, h2, h3⟩)
      · exact ⟨0, a, b, rfl, rfl, h⟩
      · exact ⟨j + 1, x, y, by simpa using h1, by simpa using h2, h3⟩
    · rintro ⟨j, x, y, h1, h2, h3⟩
      cases j with
      | zero => simp at h1 h2; subst h1; subst h2; exact .inl h3
      | succ j => exact .inr ⟨j, x, y, by simpa using h1, by simpa using h2, h3⟩
theorem way_rev (t : List Nd) (n : Nd) (l : List Int) : wayBad t n l.reverse = chainBad t n l := by
  rw [Bool.eq_iff_iff, way_iff, chain_iff]
  constructor
  · rintro ⟨j, a, b, h1, h2, h3⟩
    have hj : j + 1 < l.length := by simpa using (List.getElem?_eq_some_iff.1 h2).1
    rw [List.getElem?_reverse (by omega)] at h1
    rw [List.getElem?_reverse (by omega)] at h2
    exact ⟨l.length - 1 - (j + 1), b, a, h2, by rw [← h1]; congr 1; omega, h3⟩
  · rintro ⟨j, a, b, h1, h2, h3⟩
    have hj : j + 1 < l.length := (List.getElem?_eq_some_iff.1 h2).1
    refine ⟨l.length - 1 - (j + 1), b, a, ?_, ?_, h3⟩
    · rw [List.getElem?_reverse (by omega), ← h2]; congr 1; omega
    · rw [List.getElem?_reverse (by omega), ← h1]; congr 1; omega
theorem implBads_iff (t : List Nd) : ∀ (l : List Nd) (k : Nat), implBads t l k = true ↔ ∃ (j : Nat) (n : Nd), l[j]? = some n ∧ implBad t ((k + j : Nat) : Int) n = true
  | [], k => by simp [implBads]
  | n :: r, k => by
    simp only [implBads, Bool.or_eq_true, implBads_iff t r (k + 1)]
    constructor
    · rintro (h | ⟨j, x, h1, h2⟩)
      · exact ⟨0, n, rfl, h⟩
      · exact ⟨j + 1, x, by simpa using h1, by rw [show k + (j + 1) = k + 1 + j by omega]; exact h2⟩
    · rintro ⟨j, x, h1, h2⟩
      cases j with
      | zero => simp at h1; subst h1; exact .inl h2
      | succ j => exact .inr ⟨j, x, by simpa using h1, by rw [show k + 1 + j = k + (j + 1) by omega]; exact h2⟩
theorem waysBad_iff (t : List Nd) : ∀ (l : List Nd) (k : Nat), waysBad t l k = true ↔ ∃ (j : Nat) (n : Nd), l[j]? = some n ∧ nodeBad t ((k + j : Nat) : Int) n = true
  | [], k => by simp [waysBad]
  | n :: r, k => by
    simp only [waysBad, Bool.or_eq_true, waysBad_iff t r (k + 1)]
    constructor
    · rintro (h | ⟨j, x, h1, h2⟩)
      · exact ⟨0, n, rfl, h⟩
      · exact ⟨j + 1, x, by simpa using h1, by rw [show k + (j + 1) = k + 1 + j by omega]; exact h2⟩
    · rintro ⟨j, x, h1, h2⟩
      cases j with
      | zero => simp at h1; subst h1; exact .inl h2
      | succ j => exact .inr ⟨j, x, by simpa using h1, by rw [show k + 1 + j = k + (j + 1) by omega]; exact h2⟩
theorem depthK_le (t : List Nd) (c : Int) (hc : -1 ≤ c) : ∀ m : Nat, depthK t m ≤ c ↔ ∀ j : Nat, j < m → levelL t j ≤ c
  | 0 => by simp [depthK, hc]
  | m + 1 => by
    simp only [depthK]
    rw [show max (depthK t m) (levelL t m) ≤ c ↔ depthK t m ≤ c ∧ levelL t m ≤ c by omega, depthK_le t c hc m]
    constructor
    · rintro ⟨h1, h2⟩ j hj
      rcases Nat.lt_or_ge j m with q | q
      · exact h1 j q
      · obtain rfl : j = m := by omega
        exact h2
    · intro h
      exact ⟨fun j hj => h j (by omega), h m (by omega)⟩
theorem level_way {t : List Nd} {j : Nat} {l : List Int} (hj : j < t.length) (hs : steps t 32 j = some l) : levelL t j = (l.length : Int) - 1 := by
  unfold levelL lvl
  rw [if_pos (by omega)]
  simp only [hs, Int.add_zero]
theorem level_kid {t : List Nd} {ft : Int} (h : shapeOk t ft = true) (hl : t.length ≤ 31) {j c : Nat} (hj : j < t.length) (hc : c < t.length) (hu : up t c = j) : levelL t c = levelL t j + 1 := by
  obtain ⟨lc, h1, _⟩ := steps_anc h 31 c (by omega)
  obtain ⟨lj, h2, _⟩ := steps_anc h 31 j (by omega)
  have h1' := h1
  rw [steps, if_neg (by omega), hu] at h1'
  simp only [Option.map_eq_some_iff] at h1'
  obtain ⟨r, h3, rfl⟩ := h1'
  have h4 := steps_more h3
  rw [h2] at h4
  cases h4
  rw [level_way hc h1, level_way hj h2]
  simp
theorem levels_leaf {t : List Nd} {ft : Int} (h : shapeOk t ft = true) (hl : t.length ≤ 31) (hleaf : ∀ (j : Nat) (n : Nd), t[j]? = some n → n.f = -1 → levelL t j ≤ 4) : ∀ (d : Nat) (j : Nat), t.length - j = d → j < t.length → levelL t j ≤ 4 := by
  intro d
  induction d using Nat.strongRecOn with
  | _ d ih =>
    intro j hd hj
    obtain ⟨n, hn⟩ := get_lt hj
    by_cases hf : n.f = -1
    · exact hleaf j n hn hf
    · have hk := shape_kids h hn hf
      have hu := up_kid h hn hf (.inl rfl)
      obtain ⟨c, hc⟩ : ∃ c : Nat, n.l = c := ⟨n.l.toNat, by omega⟩
      rw [hc] at hu hk
      have := level_kid h hl hj (show c < t.length by omega) hu
      have := ih (t.length - c) (by omega) c rfl (by omega)
      omega
theorem treeOk_same (t : List Nd) (ft : Int) : treeOkI t ft = treeOk t ft := by
  unfold treeOkI treeOk
  by_cases h1 : 1 ≤ (t.length : Int) ∧ (t.length : Int) ≤ 31
  · rw [decide_eq_true h1, Bool.true_and, Bool.true_and]
    congr 1
    cases h3 : shapeOk t ft with
    | false => rfl
    | true =>
      rw [Bool.true_and, Bool.true_and]
      have hst : ∀ j : Nat, j < t.length → ∃ l, steps t 32 j = some l ∧ wayL t j = l.reverse := fun j hj => by
        obtain ⟨l, hl, _⟩ := steps_anc h3 31 j (by omega)
        exact ⟨l, hl, by unfold wayL; rw [if_pos (by omega), hl]⟩
      rw [Bool.eq_iff_iff]
      simp only [Bool.not_eq_true', Bool.and_eq_true, decide_eq_true_eq]
      rw [depthK_le t 4 (by omega)]
      have n1 := implBads_iff t t 0
      have n2 := waysBad_iff t t 0
      simp only [Nat.zero_add] at n1 n2
      constructor
      · intro hb
        have hno : ∀ (j : Nat) (n : Nd), t[j]? = some n → implBad t j n = false := fun j n hn => by
          cases hq : implBad t j n with
          | false => rfl
          | true => rw [n1.2 ⟨j, n, hn, hq⟩] at hb; cases hb
        refine ⟨fun j hj => levels_leaf h3 (by omega) (fun j n hn hf => ?_) _ j rfl hj, ?_⟩
        · have := hno j n hn
          simp only [implBad, if_pos hf, decide_eq_false_iff_not] at this
          have hj := (List.getElem?_eq_some_iff.1 hn).1
          obtain ⟨l, hl, hw⟩ := hst j hj
          rw [level_way hj hl]
          rw [hw] at this
          simp at this
          omega
        · cases hq : waysBad t t 0 with
          | false => rfl
          | true =>
            obtain ⟨j, n, hn, hbad⟩ := n2.1 hq
            have hj := (List.getElem?_eq_some_iff.1 hn).1
            obtain ⟨l, hl, hw⟩ := hst j hj
            simp only [nodeBad, hl, bAnd, Bool.and_eq_true, bNot, Bool.not_eq_true', iEq, decide_eq_false_iff_not] at hbad
            have := hno j n hn
            simp only [implBad, if_neg hbad.1, hw, way_rev] at this
            rw [hbad.2] at this
            cases this
      · rintro ⟨hd, hw⟩
        cases hq : implBads t t 0 with
        | false => rfl
        | true =>
          obtain ⟨j, n, hn, hbad⟩ := n1.1 hq
          have hj := (List.getElem?_eq_some_iff.1 hn).1
          obtain ⟨l, hl, hwy⟩ := hst j hj
          have hlev := hd j hj
          rw [level_way hj hl] at hlev
          by_cases hf : n.f = -1
          · simp only [implBad, if_pos hf, decide_eq_true_eq, hwy, List.length_reverse] at hbad
            omega
          · simp only [implBad, if_neg hf, hwy, way_rev] at hbad
            have : nodeBad t j n = true := by simp [nodeBad, hl, bAnd, bNot, iEq, hf, hbad]
            rw [n2.2 ⟨j, n, hn, this⟩] at hw
            cases hw
  · rw [decide_eq_false h1]; rfl
theorem impl_TreeOk_spec (t : List Nd) (ft : Int) (hl : t.length ≤ 1048576) : FnSpec PR f_impl_TreeOk [aT t, ai ft] (ab (treeOk t ft)) [] 0 := treeOk_same t ft ▸ impl_TreeOk_one t ft hl
end Go.H.S
