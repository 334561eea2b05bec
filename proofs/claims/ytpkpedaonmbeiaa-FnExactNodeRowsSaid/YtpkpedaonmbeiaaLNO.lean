/- Library, part W: TreeOk of the program; it is the reference's. -/
import Derived.Test.YtpkpedaonmbeiaaLV
import Derived.Test.YtpkpedaonmbeiaaLG
namespace Go.H.S
open Go Go.Proofs Go.H
attribute [local irreducible] Tri FnSpec FnSpecM FnSpecX
set_option maxRecDepth 100000
set_option linter.unusedSimpArgs false
set_option linter.unusedVariables false


theorem impl_isDecimal_spec (x : Int) : FnSpec PR f_impl_isDecimal [ai x] (ab (decide (-2147483647 ≤ x ∧ x ≤ 2147483647))) [] 0 := by
  refine FnSpec.intro hT p_impl_isDecimal rfl (by kernel_rfl) n_impl_isDecimal rfl ?_
  conv => whnf
  refine .inl ⟨_, _, _, impl_within_spec _ _ _, rfl, ?_⟩
  (conv => whnf)

theorem impl_isLeafValue_spec (x : Int) : FnSpec PR f_impl_isLeafValue [ai x] (ab (decide (-1099511627776 ≤ x ∧ x ≤ 1099511627776))) [] 0 := by
  refine FnSpec.intro hT p_impl_isLeafValue rfl (by kernel_rfl) n_impl_isLeafValue rfl ?_
  conv => whnf
  refine .inl ⟨_, _, _, impl_within_spec _ _ _, rfl, ?_⟩
  (conv => whnf)

theorem impl_LevelOf_spec (t : List Nd) (node : Int) (hl : t.length ≤ 9223372036854775807) : FnSpec PR f_impl_LevelOf [aT t, ai node] (ai ((wayL t node).length - 1)) [] 0 := by
  have hw := wayL_len t node
  refine FnSpec.intro hT p_impl_LevelOf rfl (by kernel_rfl) n_impl_LevelOf rfl ?_
  conv => whnf
  refine .inl ⟨_, _, _, impl_wayTo_spec t node hl, rfl, ?_⟩
  ((conv => whnf); simp only [St.mk.injEq, List.cons.injEq, Prod.mk.injEq, AV.c.injEq, AV.agg.injEq, AV.tup.injEq, CV.d.injEq, D.int.injEq, D.bool.injEq, D.str.injEq, D.sl.injEq, Ent.arr.injEq, Ent.box.injEq, true_and, and_true, and_self, nInt_eq, Int.natCast_zero, dLen_eL, sLen_eq, lenRE_none])
  exact wSub64 (by omega) (by omega)

theorem impl_shapeOk_spec (t : List Nd) (ft : Int) (hft : 0 ≤ ft ∧ ft ≤ 4) (hl : t.length ≤ 1048576) : FnSpec PR f_impl_shapeOk [aT t, ai ft] (ab (shapeOk t ft)) [] 0 := by
  refine FnSpec.intro hT p_impl_shapeOk rfl (by kernel_rfl) n_impl_shapeOk rfl ?_
  conv => whnf
  refine tri_loop hT [1, 2, 5, 9, 10, 11] (α := Nat × Nat) (fun x => { t := [(1, ai ft), (2, .c (.ptr 0 0)), (5, ai x.2), (9, aNs t), (10, ai t.length), (11, ai x.1)], h := [(0, .box t_impl_Tree (cTr t))], n := 1, N := 72 })
    (fun x => x.1 ≤ t.length ∧ x.2 ≤ 2 * x.1 + 1 ∧ shapeL ft (t.drop x.1) x.1 x.2 = shapeL ft t 0 1) (fun x => t.length - x.1) (0, 1) (by ((conv => whnf); simp only [St.mk.injEq, List.cons.injEq, Prod.mk.injEq, AV.c.injEq, AV.agg.injEq, AV.tup.injEq, CV.d.injEq, D.int.injEq, D.bool.injEq, D.str.injEq, D.sl.injEq, Ent.arr.injEq, Ent.box.injEq, true_and, and_true, and_self, nInt_eq, Int.natCast_zero, dLen_eL, sLen_eq]); rfl) ⟨Nat.zero_le _, by simp, by simp⟩ ?_
  intro ⟨k, nx⟩ ⟨hk, hx, hs⟩
  dsimp only at hk hx hs
  (conv => whnf)
  refine ifB_i (fun h1 => ?_) (fun h1 => ?_) <;> (conv => whnf) <;> simp at h1
  · obtain ⟨n, hn⟩ := get_lt h1
    rw [drop_at hn, shapeL] at hs
    refine idx_at (by simp) hn ?_
    (conv => whnf)
    refine .inl ⟨_, _, _, impl_isLeaf_spec n, rfl, ?_⟩
    (conv => whnf)
    refine ifB_i (fun h2 => ?_) (fun h2 => ?_) <;> (conv => whnf) <;> simp only [nInt_eq, Int.natCast_zero, dLen_eL, sLen_eq, nOf_eq, Int.toNat_natCast, nAdd_eq, nSub_eq, dLen_nil, dLen_cons, iLt_t, iLt_f, iLe_t, iLe_f, iEq_t, iEq_f, sEq_t, sEq_f, bNot_t, bNot_f, bAnd_t, bEq_t, bEq_f, Bool.not_eq_true, Bool.not_eq_false, Bool.true_eq_false, Bool.false_eq_true] at h2
    · rw [if_pos h2] at hs
      generalize hb : bNot (bAnd (iEq n.f (-1)) (bAnd (iEq n.c 0) (bAnd (iEq n.l 0) (bAnd (iEq n.r 0) (bAnd (iEq n.v n.v) true))))) = b
      cases b <;> (conv => whnf)
      · refine .inl ⟨_, _, _, impl_isLeafValue_spec n.v, rfl, ?_⟩
        (conv => whnf)
        generalize hb2 : decide (-1099511627776 ≤ n.v ∧ n.v ≤ 1099511627776) = b2
        cases b2 <;> (conv => whnf)
        · have hlb : leafBad n = true := by simp [leafBad, hb2]
          rw [if_pos hlb] at hs
          rw [shape_bad hs]
        · have hlb : leafBad n = false := by
            obtain ⟨f, c, l, r, v⟩ := n
            simp only [leafBad, hb2]
            simp_all [bNot, bAnd, iEq]
          rw [hlb] at hs
          refine ⟨(k + 1, nx), by dsimp only; omega, ⟨h1, by dsimp only; omega, by simpa using hs⟩, ?_⟩
          ((conv => whnf); simp only [St.mk.injEq, List.cons.injEq, Prod.mk.injEq, AV.c.injEq, AV.agg.injEq, AV.tup.injEq, CV.d.injEq, D.int.injEq, D.bool.injEq, D.str.injEq, D.sl.injEq, Ent.arr.injEq, Ent.box.injEq, true_and, and_true, and_self, nInt_eq, Int.natCast_zero, dLen_eL, sLen_eq, wI h1 (by omega)])
      · have hlb : leafBad n = true := by
          obtain ⟨f, c, l, r, v⟩ := n
          simp only [leafBad]
          simp_all [bNot, bAnd, iEq]
        rw [if_pos hlb] at hs
        rw [shape_bad hs]
    · rw [if_neg h2] at hs
      refine .inl ⟨_, _, _, impl_within_spec _ _ _, rfl, ?_⟩
      rw [show wSub .i64 ft 1 = ft - 1 from wSub64 (by omega) (by omega)]
      (conv => whnf)
      generalize hb1 : decide (0 ≤ n.f ∧ n.f ≤ ft - 1) = b1
      cases b1 <;> (conv => whnf)
      · have hib : innerBad n ft k nx = true := by
          have : ¬ (0 ≤ n.f ∧ n.f ≤ ft - 1) := by simpa using hb1
          simp [innerBad, this]
        rw [if_pos hib] at hs
        rw [shape_bad hs]
      · refine .inl ⟨_, _, _, impl_isDecimal_spec _, rfl, ?_⟩
        (conv => whnf)
        generalize hb2 : decide (-2147483647 ≤ n.c ∧ n.c ≤ 2147483647) = b2
        cases b2 <;> (conv => whnf)
        · have hib : innerBad n ft k nx = true := by
            have : ¬ (-2147483647 ≤ n.c ∧ n.c ≤ 2147483647) := by simpa using hb2
            simp [innerBad, this]
          rw [if_pos hib] at hs
          rw [shape_bad hs]
        · generalize hb3 : iEq n.v 0 = b3
          cases b3 <;> (conv => whnf)
          · have hib : innerBad n ft k nx = true := by
              have : ¬ n.v = 0 := by simpa [iEq] using hb3
              simp [innerBad, this]
            rw [if_pos hib] at hs
            rw [shape_bad hs]
          generalize hb4 : iEq n.l (nx : Int) = b4
          cases b4 <;> (conv => whnf)
          · have hib : innerBad n ft k nx = true := by
              have : ¬ n.l = nx := by simpa [iEq] using hb4
              simp [innerBad, this]
            rw [if_pos hib] at hs
            rw [shape_bad hs]
          rw [show wAdd .i64 (nx : Int) 1 = nx + 1 from wAdd64 (by omega) (by omega)]
          generalize hb5 : iEq n.r ((nx : Int) + 1) = b5
          cases b5 <;> (conv => whnf)
          · have hib : innerBad n ft k nx = true := by
              have : ¬ n.r = nx + 1 := by simpa [iEq] using hb5
              simp [innerBad, this]
            rw [if_pos hib] at hs
            rw [shape_bad hs]
          have q4 : n.l = nx := by simpa [iEq] using hb4
          generalize hb6 : iLe (nx : Int) ((k, nx).fst : Int) = b6
          dsimp only at hb6
          cases b6 <;> (conv => whnf)
          rotate_left
          · have hib : innerBad n ft k nx = true := by
              have : (nx : Int) ≤ k := by simpa [iLe] using hb6
              simp [innerBad, q4]
              omega
            rw [if_pos hib] at hs
            rw [shape_bad hs]
          have hib : innerBad n ft k nx = false := by
            have q3 : n.v = 0 := by simpa [iEq] using hb3
            have q5 : n.r = nx + 1 := by simpa [iEq] using hb5
            have q6 : ¬ (nx : Int) ≤ k := by simpa [iLe] using hb6
            have q1 : 0 ≤ n.f ∧ n.f ≤ ft - 1 := by simpa using hb1
            have q2 : -2147483647 ≤ n.c ∧ n.c ≤ 2147483647 := by simpa using hb2
            simp [innerBad, q1, q2, q3, q4, q5]
            omega
          rw [hib] at hs
          refine ⟨(k + 1, nx + 2), by dsimp only; omega, ⟨h1, by dsimp only; omega, by simpa using hs⟩, ?_⟩
          ((conv => whnf); simp only [St.mk.injEq, List.cons.injEq, Prod.mk.injEq, AV.c.injEq, AV.agg.injEq, AV.tup.injEq, CV.d.injEq, D.int.injEq, D.bool.injEq, D.str.injEq, D.sl.injEq, Ent.arr.injEq, Ent.box.injEq, true_and, and_true, and_self, nInt_eq, Int.natCast_zero, dLen_eL, sLen_eq, wI h1 (by omega), wAdd64 (show -9223372036854775808 ≤ (nx : Int) + 2 by omega) (by omega), Int.natCast_add, Int.cast_ofNat_Int])
  · obtain rfl : k = t.length := by omega
    simp only [List.drop_length, shapeL] at hs
    ((conv => whnf); simp only [St.mk.injEq, List.cons.injEq, Prod.mk.injEq, AV.c.injEq, AV.agg.injEq, AV.tup.injEq, CV.d.injEq, D.int.injEq, D.bool.injEq, D.str.injEq, D.sl.injEq, Ent.arr.injEq, Ent.box.injEq, true_and, and_true, and_self, nInt_eq, Int.natCast_zero, dLen_eL, sLen_eq])
    simp only [shapeOk, ← hs, iEq, Option.some.injEq]

def wayBad (t : List Nd) (n : Nd) : List Int → Bool
  | a :: b :: r => badP t n a b || wayBad t n (b :: r)
  | _ => false
def implBad (t : List Nd) (k : Int) (n : Nd) : Bool :=
  if n.f = -1 then decide (4 < ((wayL t k).length : Int) - 1) else wayBad t n (wayL t k)
def implBads (t : List Nd) : List Nd → Nat → Bool
  | [], _ => false
  | n :: r, k => implBad t k n || implBads t r (k + 1)

def treeOkI (t : List Nd) (ft : Int) : Bool :=
  decide (1 ≤ (t.length : Int) ∧ (t.length : Int) ≤ 31) && (decide (0 ≤ ft ∧ ft ≤ 4) && (shapeOk t ft && !implBads t t 0))
set_option maxHeartbeats 1000000 in
theorem impl_TreeOk_one (t : List Nd) (ft : Int) (hl : t.length ≤ 1048576) : FnSpec PR f_impl_TreeOk [aT t, ai ft] (ab (treeOkI t ft)) [] 0 := by
  refine FnSpec.intro hT p_impl_TreeOk rfl (by kernel_rfl) n_impl_TreeOk rfl ?_
  conv => whnf
  refine .inl ⟨_, _, _, impl_within_spec _ _ _, rfl, ?_⟩
  (conv => whnf)
  refine ifB_i (fun h2 => ?_) (fun h2 => ?_) <;> (conv => whnf) <;> simp only [nInt_eq, Int.natCast_zero, dLen_eL, sLen_eq, nOf_eq, Int.toNat_natCast, nAdd_eq, nSub_eq, dLen_nil, dLen_cons, iLt_t, iLt_f, iLe_t, iLe_f, iEq_t, iEq_f, sEq_t, sEq_f, bNot_t, bNot_f, bAnd_t, bEq_t, bEq_f, Bool.not_eq_true, Bool.not_eq_false, Bool.true_eq_false, Bool.false_eq_true] at h2
  · have : decide (0 ≤ ft ∧ ft ≤ 4) = false := by simpa using h2
    simp [treeOkI, this]
  refine .inl ⟨_, _, _, impl_within_spec _ _ _, rfl, ?_⟩
  (conv => whnf)
  refine ifB_i (fun h1 => ?_) (fun h1 => ?_) <;> (conv => whnf) <;> simp only [nInt_eq, Int.natCast_zero, dLen_eL, sLen_eq, nOf_eq, Int.toNat_natCast, nAdd_eq, nSub_eq, dLen_nil, dLen_cons, iLt_t, iLt_f, iLe_t, iLe_f, iEq_t, iEq_f, sEq_t, sEq_f, bNot_t, bNot_f, bAnd_t, bEq_t, bEq_f, Bool.not_eq_true, Bool.not_eq_false, Bool.true_eq_false, Bool.false_eq_true] at h1
  · simp [treeOkI, h1]
  have h1' := of_decide_eq_true h1
  have h2' := of_decide_eq_true h2
  refine .inl ⟨_, _, _, impl_shapeOk_spec t ft h2' (by omega), rfl, ?_⟩
  (conv => whnf)
  refine ifB_i (fun h3 => ?_) (fun h3 => ?_) <;> (conv => whnf) <;> simp only [nInt_eq, Int.natCast_zero, dLen_eL, sLen_eq, nOf_eq, Int.toNat_natCast, nAdd_eq, nSub_eq, dLen_nil, dLen_cons, iLt_t, iLt_f, iLe_t, iLe_f, iEq_t, iEq_f, sEq_t, sEq_f, bNot_t, bNot_f, bAnd_t, bEq_t, bEq_f, Bool.not_eq_true, Bool.not_eq_false, Bool.true_eq_false, Bool.false_eq_true] at h3
  · simp [treeOkI, h3]
  have hto : treeOkI t ft = !implBads t t 0 := by simp [treeOkI, h1, h2, h3]
  rw [hto]
  refine tri_loop hT [2, 28, 29, 30] (α := Nat) (fun x => { t := [(2, .c (.ptr 0 0)), (28, aNs t), (29, ai t.length), (30, ai x)], h := [(0, .box t_impl_Tree (cTr t))], n := 1, N := 99 })
    (fun x => x ≤ t.length ∧ implBads t (t.drop x) x = implBads t t 0) (fun x => t.length - x) 0 (by ((conv => whnf); simp only [St.mk.injEq, List.cons.injEq, Prod.mk.injEq, AV.c.injEq, AV.agg.injEq, AV.tup.injEq, CV.d.injEq, D.int.injEq, D.bool.injEq, D.str.injEq, D.sl.injEq, Ent.arr.injEq, Ent.box.injEq, true_and, and_true, and_self, nInt_eq, Int.natCast_zero, dLen_eL, sLen_eq])) ⟨Nat.zero_le _, by simp⟩ ?_
  intro k ⟨hk, hw⟩
  (conv => whnf)
  refine ifB_i (fun h4 => ?_) (fun h4 => ?_) <;> (conv => whnf) <;> simp at h4
  · obtain ⟨n, hn⟩ := get_lt h4
    rw [drop_at hn, implBads] at hw
    refine idx_at (by simp) hn ?_
    (conv => whnf)
    refine .inl ⟨_, _, _, impl_isLeaf_spec n, rfl, ?_⟩
    (conv => whnf)
    refine ifB_i (fun h5 => ?_) (fun h5 => ?_) <;> (conv => whnf) <;> simp only [nInt_eq, Int.natCast_zero, dLen_eL, sLen_eq, nOf_eq, Int.toNat_natCast, nAdd_eq, nSub_eq, dLen_nil, dLen_cons, iLt_t, iLt_f, iLe_t, iLe_f, iEq_t, iEq_f, sEq_t, sEq_f, bNot_t, bNot_f, bAnd_t, bEq_t, bEq_f, Bool.not_eq_true, Bool.not_eq_false, Bool.true_eq_false, Bool.false_eq_true] at h5
    · refine .inl ⟨_, _, _, impl_LevelOf_spec t k (by omega), rfl, ?_⟩
      (conv => whnf)
      refine ifB_i (fun h6 => ?_) (fun h6 => ?_) <;> (conv => whnf) <;> simp only [nInt_eq, Int.natCast_zero, dLen_eL, sLen_eq, nOf_eq, Int.toNat_natCast, nAdd_eq, nSub_eq, dLen_nil, dLen_cons, iLt_t, iLt_f, iLe_t, iLe_f, iEq_t, iEq_f, sEq_t, sEq_f, bNot_t, bNot_f, bAnd_t, bEq_t, bEq_f, Bool.not_eq_true, Bool.not_eq_false, Bool.true_eq_false, Bool.false_eq_true] at h6
      · have : implBad t k n = true := by simp only [implBad, if_pos h5]; exact decide_eq_true h6
        rw [← hw, this]
        rfl
      · have : implBad t k n = false := by simp only [implBad, if_pos h5]; exact decide_eq_false (by omega)
        rw [this, Bool.false_or] at hw
        refine ⟨k + 1, by omega, ⟨h4, hw⟩, ?_⟩
        ((conv => whnf); simp only [St.mk.injEq, List.cons.injEq, Prod.mk.injEq, AV.c.injEq, AV.agg.injEq, AV.tup.injEq, CV.d.injEq, D.int.injEq, D.bool.injEq, D.str.injEq, D.sl.injEq, Ent.arr.injEq, Ent.box.injEq, true_and, and_true, and_self, nInt_eq, Int.natCast_zero, dLen_eL, sLen_eq, wI h4 (by omega)])
    · have hib : implBad t k n = wayBad t n (wayL t k) := by simp only [implBad, if_neg h5]
      rw [hib] at hw
      obtain ⟨l0, hl0, _⟩ := steps_anc h3 31 k (by omega)
      have hway : wayL t k = l0.reverse := by unfold wayL; rw [if_pos (by omega), hl0]
      have hlen : 1 ≤ (wayL t k).length := by
        rw [hway, steps] at *
        simp only [Option.map_eq_some_iff] at hl0
        obtain ⟨r, _, rfl⟩ := hl0
        simp
      have hlt : ∀ y ∈ wayL t k, 0 ≤ y ∧ y < t.length := fun y hy => steps_lt t 32 k l0 (by omega) hl0 y (by rw [hway] at hy; simpa using hy)
      refine .inl ⟨_, _, _, impl_wayTo_spec t k (by omega), rfl, ?_⟩
      generalize wayL t k = w at *
      (conv => whnf)
      have hwl : w.length ≤ 32 := by rw [hway]; have := steps_len t 32 k l0 hl0; simpa using this
      obtain ⟨m, hm⟩ : ∃ m, w.length = m + 1 := ⟨w.length - 1, by omega⟩
      have e1 : wSub .i64 (nInt (lenRE (eL cI w) none)) 1 = (m : Int) := by
        rw [wSub64] <;> simp <;> omega
      rw [e1]
      refine ⟨by simp [InS]; omega, ?_⟩
      (conv => whnf)
      refine tri_loop hT [2, 6, 7, 28, 29, 30, 48, 49, 50] (α := Nat) (fun x => { t := [(2, .c (.ptr 0 0)), (6, .c (.ptr 1 0)), (7, .c (.ref 2 0 none)), (28, aNs t), (29, ai t.length), (30, ai k), (48, .c (.ref 2 0 (some (true, 0, m)))), (49, ai m), (50, ai x)], h := [(0, .box t_impl_Tree (cTr t)), (1, .box t_impl_Node (cNd n)), (2, .arr t_int 1 0 .own (eL cI w))], n := 3, N := 99 })
        (fun x => x ≤ m ∧ wayBad t n (w.drop x) = wayBad t n w) (fun x => m - x) 0 (by ((conv => whnf); simp only [St.mk.injEq, List.cons.injEq, Prod.mk.injEq, AV.c.injEq, AV.agg.injEq, AV.tup.injEq, CV.d.injEq, D.int.injEq, D.bool.injEq, D.str.injEq, D.sl.injEq, Ent.arr.injEq, Ent.box.injEq, true_and, and_true, and_self, nInt_eq, Int.natCast_zero, dLen_eL, sLen_eq]); simp) ⟨Nat.zero_le _, by simp⟩ ?_
      intro j ⟨g1, g2⟩
      (conv => whnf)
      refine ifB_i (fun g3 => ?_) (fun g3 => ?_) <;> (conv => whnf) <;> simp at g3
      · obtain ⟨a, ha⟩ := get_lt (show j < w.length by omega)
        obtain ⟨b, hb⟩ := get_lt (show j + 1 < w.length by omega)
        refine ref_at (k := j) (by simp) (by simp; omega) ?_
        (conv => whnf)
        refine ld_at (by simp) ha ?_
        (conv => whnf)
        obtain ⟨i, hi⟩ : ∃ i : Nat, a = i := ⟨a.toNat, by have := hlt a (List.mem_of_getElem? ha); omega⟩
        subst hi
        have hil := (hlt _ (List.mem_of_getElem? ha)).2
        obtain ⟨x, hx⟩ := get_lt (show i < t.length by omega)
        refine idx_at (by simp) hx ?_
        (conv => whnf)
        rw [drop_at ha, drop_at hb, wayBad] at g2
        have hin : ∀ v0, (iEq x.f n.f && (iEq b x.r && iLe n.c x.c || iEq b x.l && iLe x.c n.c)) = v0 → badP t n i b = v0 := by
          rintro _ rfl
          simp only [badP, Int.toNat_natCast, hx, iEq, eq_comm]
        refine ifB_i (fun g4 => ?_) (fun g4 => ?_) <;> (conv => whnf) <;> simp only [nInt_eq, Int.natCast_zero, dLen_eL, sLen_eq, nOf_eq, Int.toNat_natCast, nAdd_eq, nSub_eq, dLen_nil, dLen_cons, iLt_t, iLt_f, iLe_t, iLe_f, iEq_t, iEq_f, sEq_t, sEq_f, bNot_t, bNot_f, bAnd_t, bEq_t, bEq_f, Bool.not_eq_true, Bool.not_eq_false, Bool.true_eq_false, Bool.false_eq_true] at g4
        · rw [hin false (by simp [iEq, g4]), Bool.false_or] at g2
          refine ⟨j + 1, by omega, ⟨by omega, by rw [← g2, drop_at hb]⟩, ?_⟩
          ((conv => whnf); simp only [St.mk.injEq, List.cons.injEq, Prod.mk.injEq, AV.c.injEq, AV.agg.injEq, AV.tup.injEq, CV.d.injEq, D.int.injEq, D.bool.injEq, D.str.injEq, D.sl.injEq, Ent.arr.injEq, Ent.box.injEq, true_and, and_true, and_self, nInt_eq, Int.natCast_zero, dLen_eL, sLen_eq, wI g3 (by omega)])
        · have g4' : iEq x.f n.f = true := by simpa [iEq] using g4
          refine tri_conf hT hmix (by kernel_rfl) ?_
          (conv => whnf)
          repeat' (first | (refine And.intro (fun q => ?_) (fun q => ?_) <;> cases q <;> (conv => whnf)) | (refine ref_at (wI g3 (by omega)) (by simp; omega) ?_; (conv => whnf)) | (refine ld_at (by simp [wI g3 (show m ≤ 9223372036854775807 by omega)]) hb ?_; (conv => whnf)) | fail)
          generalize e3 : iEq b x.l = c3
          cases c3
          · repeat' (first | (refine And.intro (fun q => ?_) (fun q => ?_) <;> cases q <;> (conv => whnf)) | (refine ref_at (wI g3 (by omega)) (by simp; omega) ?_; (conv => whnf)) | (refine ld_at (by simp [wI g3 (show m ≤ 9223372036854775807 by omega)]) hb ?_; (conv => whnf)) | fail)
            generalize e2 : iEq b x.r = c2
            cases c2
            · repeat' (first | (refine And.intro (fun q => ?_) (fun q => ?_) <;> cases q <;> (conv => whnf)) | (refine ref_at (wI g3 (by omega)) (by simp; omega) ?_; (conv => whnf)) | (refine ld_at (by simp [wI g3 (show m ≤ 9223372036854775807 by omega)]) hb ?_; (conv => whnf)) | fail)
              rw [hin false (by first | (simp [e2, e3]; done) | (simp [e2, e5]; done) | (simp [e3, e4]; done) | (simp [e4, e5]; done)), Bool.false_or] at g2
              refine ⟨j + 1, by omega, ⟨by omega, by rw [← g2, drop_at hb]⟩, ?_⟩
              ((conv => whnf); simp only [St.mk.injEq, List.cons.injEq, Prod.mk.injEq, AV.c.injEq, AV.agg.injEq, AV.tup.injEq, CV.d.injEq, D.int.injEq, D.bool.injEq, D.str.injEq, D.sl.injEq, Ent.arr.injEq, Ent.box.injEq, true_and, and_true, and_self, nInt_eq, Int.natCast_zero, dLen_eL, sLen_eq, wI g3 (by omega)])
            · repeat' (first | (refine And.intro (fun q => ?_) (fun q => ?_) <;> cases q <;> (conv => whnf)) | (refine ref_at (wI g3 (by omega)) (by simp; omega) ?_; (conv => whnf)) | (refine ld_at (by simp [wI g3 (show m ≤ 9223372036854775807 by omega)]) hb ?_; (conv => whnf)) | fail)
              generalize e4 : iLe n.c x.c = c4
              cases c4
              · repeat' (first | (refine And.intro (fun q => ?_) (fun q => ?_) <;> cases q <;> (conv => whnf)) | (refine ref_at (wI g3 (by omega)) (by simp; omega) ?_; (conv => whnf)) | (refine ld_at (by simp [wI g3 (show m ≤ 9223372036854775807 by omega)]) hb ?_; (conv => whnf)) | fail)
                rw [hin false (by first | (simp [e2, e3]; done) | (simp [e2, e5]; done) | (simp [e3, e4]; done) | (simp [e4, e5]; done)), Bool.false_or] at g2
                refine ⟨j + 1, by omega, ⟨by omega, by rw [← g2, drop_at hb]⟩, ?_⟩
                ((conv => whnf); simp only [St.mk.injEq, List.cons.injEq, Prod.mk.injEq, AV.c.injEq, AV.agg.injEq, AV.tup.injEq, CV.d.injEq, D.int.injEq, D.bool.injEq, D.str.injEq, D.sl.injEq, Ent.arr.injEq, Ent.box.injEq, true_and, and_true, and_self, nInt_eq, Int.natCast_zero, dLen_eL, sLen_eq, wI g3 (by omega)])
              · repeat' (first | (refine And.intro (fun q => ?_) (fun q => ?_) <;> cases q <;> (conv => whnf)) | (refine ref_at (wI g3 (by omega)) (by simp; omega) ?_; (conv => whnf)) | (refine ld_at (by simp [wI g3 (show m ≤ 9223372036854775807 by omega)]) hb ?_; (conv => whnf)) | fail)
                rw [hin true (by first | (simp [g4', e2, e4]; done) | (simp [g4', e3, e5]; done))] at g2
                rw [← g2] at hw
                rw [← hw]
                rfl
          · repeat' (first | (refine And.intro (fun q => ?_) (fun q => ?_) <;> cases q <;> (conv => whnf)) | (refine ref_at (wI g3 (by omega)) (by simp; omega) ?_; (conv => whnf)) | (refine ld_at (by simp [wI g3 (show m ≤ 9223372036854775807 by omega)]) hb ?_; (conv => whnf)) | fail)
            generalize e5 : iLe x.c n.c = c5
            cases c5
            · repeat' (first | (refine And.intro (fun q => ?_) (fun q => ?_) <;> cases q <;> (conv => whnf)) | (refine ref_at (wI g3 (by omega)) (by simp; omega) ?_; (conv => whnf)) | (refine ld_at (by simp [wI g3 (show m ≤ 9223372036854775807 by omega)]) hb ?_; (conv => whnf)) | fail)
              generalize e2 : iEq b x.r = c2
              cases c2
              · repeat' (first | (refine And.intro (fun q => ?_) (fun q => ?_) <;> cases q <;> (conv => whnf)) | (refine ref_at (wI g3 (by omega)) (by simp; omega) ?_; (conv => whnf)) | (refine ld_at (by simp [wI g3 (show m ≤ 9223372036854775807 by omega)]) hb ?_; (conv => whnf)) | fail)
                rw [hin false (by first | (simp [e2, e3]; done) | (simp [e2, e5]; done) | (simp [e3, e4]; done) | (simp [e4, e5]; done)), Bool.false_or] at g2
                refine ⟨j + 1, by omega, ⟨by omega, by rw [← g2, drop_at hb]⟩, ?_⟩
                ((conv => whnf); simp only [St.mk.injEq, List.cons.injEq, Prod.mk.injEq, AV.c.injEq, AV.agg.injEq, AV.tup.injEq, CV.d.injEq, D.int.injEq, D.bool.injEq, D.str.injEq, D.sl.injEq, Ent.arr.injEq, Ent.box.injEq, true_and, and_true, and_self, nInt_eq, Int.natCast_zero, dLen_eL, sLen_eq, wI g3 (by omega)])
              · repeat' (first | (refine And.intro (fun q => ?_) (fun q => ?_) <;> cases q <;> (conv => whnf)) | (refine ref_at (wI g3 (by omega)) (by simp; omega) ?_; (conv => whnf)) | (refine ld_at (by simp [wI g3 (show m ≤ 9223372036854775807 by omega)]) hb ?_; (conv => whnf)) | fail)
                generalize e4 : iLe n.c x.c = c4
                cases c4
                · repeat' (first | (refine And.intro (fun q => ?_) (fun q => ?_) <;> cases q <;> (conv => whnf)) | (refine ref_at (wI g3 (by omega)) (by simp; omega) ?_; (conv => whnf)) | (refine ld_at (by simp [wI g3 (show m ≤ 9223372036854775807 by omega)]) hb ?_; (conv => whnf)) | fail)
                  rw [hin false (by first | (simp [e2, e3]; done) | (simp [e2, e5]; done) | (simp [e3, e4]; done) | (simp [e4, e5]; done)), Bool.false_or] at g2
                  refine ⟨j + 1, by omega, ⟨by omega, by rw [← g2, drop_at hb]⟩, ?_⟩
                  ((conv => whnf); simp only [St.mk.injEq, List.cons.injEq, Prod.mk.injEq, AV.c.injEq, AV.agg.injEq, AV.tup.injEq, CV.d.injEq, D.int.injEq, D.bool.injEq, D.str.injEq, D.sl.injEq, Ent.arr.injEq, Ent.box.injEq, true_and, and_true, and_self, nInt_eq, Int.natCast_zero, dLen_eL, sLen_eq, wI g3 (by omega)])
                · repeat' (first | (refine And.intro (fun q => ?_) (fun q => ?_) <;> cases q <;> (conv => whnf)) | (refine ref_at (wI g3 (by omega)) (by simp; omega) ?_; (conv => whnf)) | (refine ld_at (by simp [wI g3 (show m ≤ 9223372036854775807 by omega)]) hb ?_; (conv => whnf)) | fail)
                  rw [hin true (by first | (simp [g4', e2, e4]; done) | (simp [g4', e3, e5]; done))] at g2
                  rw [← g2] at hw
                  rw [← hw]
                  rfl
            · repeat' (first | (refine And.intro (fun q => ?_) (fun q => ?_) <;> cases q <;> (conv => whnf)) | (refine ref_at (wI g3 (by omega)) (by simp; omega) ?_; (conv => whnf)) | (refine ld_at (by simp [wI g3 (show m ≤ 9223372036854775807 by omega)]) hb ?_; (conv => whnf)) | fail)
              rw [hin true (by first | (simp [g4', e2, e4]; done) | (simp [g4', e3, e5]; done))] at g2
              rw [← g2] at hw
              rw [← hw]
              rfl
      · refine ⟨k + 1, by omega, ⟨h4, ?_⟩, ?_⟩
        · obtain rfl : j = m := by omega
          obtain ⟨a, ha⟩ := get_lt (show j < w.length by omega)
          have hd : w.drop (j + 1) = [] := List.drop_eq_nil_of_le (by omega)
          rw [drop_at ha, hd] at g2
          rw [← g2] at hw
          exact hw
        · ((conv => whnf); simp only [St.mk.injEq, List.cons.injEq, Prod.mk.injEq, AV.c.injEq, AV.agg.injEq, AV.tup.injEq, CV.d.injEq, D.int.injEq, D.bool.injEq, D.str.injEq, D.sl.injEq, Ent.arr.injEq, Ent.box.injEq, true_and, and_true, and_self, nInt_eq, Int.natCast_zero, dLen_eL, sLen_eq, wI h4 (by omega)])
  · obtain rfl : k = t.length := by omega
    simp only [List.drop_length, implBads] at hw
    (conv => whnf)
    rw [← hw]
    rfl

theorem steps_more {t : List Nd} : ∀ {n : Nat} {x : Int} {l : List Int}, steps t n x = some l → steps t (n + 1) x = some l
  | 0, x, l, h => by simp [steps] at h
  | n + 1, x, l, h => by
    rw [steps] at h ⊢
    split
    · rw [if_pos (by assumption)] at h; exact h
    · rw [if_neg (by assumption)] at h
      simp only [Option.map_eq_some_iff] at h ⊢
      obtain ⟨r, h1, h2⟩ := h
      exact ⟨r, steps_more h1, h2⟩
theorem chain_iff (t : List Nd) (n : Nd) : ∀ l : List Int, chainBad t n l = true ↔ ∃ (j : Nat) (a b : Int), l[j]? = some a ∧ l[j + 1]? = some b ∧ badP t n b a = true
  | [] => by simp [chainBad]
  | [a] => by simp [chainBad]
  | a :: b :: r => by
    simp only [chainBad, Bool.or_eq_true, chain_iff t n (b :: r)]
    constructor
    · rintro (h | ⟨j, x, y, h1, h2, h3⟩)
      · exact ⟨0, a, b, rfl, rfl, h⟩
      · exact ⟨j + 1, x, y, by simpa using h1, by simpa using h2, h3⟩
    · rintro ⟨j, x, y, h1, h2, h3⟩
      cases j with
      | zero => simp at h1 h2; subst h1; subst h2; exact .inl h3
      | succ j => exact .inr ⟨j, x, y, by simpa using h1, by simpa using h2, h3⟩
theorem way_iff (t : List Nd) (n : Nd) : ∀ l : List Int, wayBad t n l = true ↔ ∃ (j : Nat) (a b : Int), l[j]? = some a ∧ l[j + 1]? = some b ∧ badP t n a b = true
  | [] => by simp [wayBad]
  | [a] => by simp [wayBad]
  | a :: b :: r => by
    simp only [wayBad, Bool.or_eq_true, way_iff t n (b :: r)]
    constructor
    · rintro (h | ⟨j, x, y, h1, h2, h3⟩)
      · exact ⟨0, a, b, rfl, rfl, h⟩
      · exact ⟨j + 1, x, y, by simpa using h1, by simpa using h2, h3⟩
    · rintro ⟨j, x, y, h1, h2, h3⟩
      cases j with
      | zero => simp at h1 h2; subst h1; subst h2; exact .inl h3
      | succ j => exact .inr ⟨j, x, y, by simpa using h1, by simpa using h2, h3⟩
theorem way_rev (t : List Nd) (n : Nd) (l : List Int) : wayBad t n l.reverse = chainBad t n l := by
  rw [Bool.eq_iff_iff, way_iff, chain_iff]
  constructor
  · rintro ⟨j, a, b, h1, h2, h3⟩
    have hj : j + 1 < l.length := by simpa using (List.getElem?_eq_some_iff.1 h2).1
    rw [List.getElem?_reverse (by omega)] at h1
    rw [List.getElem?_reverse (by omega)] at h2
    exact ⟨l.length - 1 - (j + 1), b, a, h2, by rw [← h1]; congr 1; omega, h3⟩
  · rintro ⟨j, a, b, h1, h2, h3⟩
    have hj : j + 1 < l.length := (List.getElem?_eq_some_iff.1 h2).1
    refine ⟨l.length - 1 - (j + 1), b, a, ?_, ?_, h3⟩
    · rw [List.getElem?_reverse (by omega), ← h2]; congr 1; omega
    · rw [List.getElem?_reverse (by omega), ← h1]; congr 1; omega
theorem implBads_iff (t : List Nd) : ∀ (l : List Nd) (k : Nat), implBads t l k = true ↔ ∃ (j : Nat) (n : Nd), l[j]? = some n ∧ implBad t ((k + j : Nat) : Int) n = true
  | [], k => by simp [implBads]
  | n :: r, k => by
    simp only [implBads, Bool.or_eq_true, implBads_iff t r (k + 1)]
    constructor
    · rintro (h | ⟨j, x, h1, h2⟩)
      · exact ⟨0, n, rfl, h⟩
      · exact ⟨j + 1, x, by simpa using h1, by rw [show k + (j + 1) = k + 1 + j by omega]; exact h2⟩
    · rintro ⟨j, x, h1, h2⟩
      cases j with
      | zero => simp at h1; subst h1; exact .inl h2
      | succ j => exact .inr ⟨j, x, by simpa using h1, by rw [show k + 1 + j = k + (j + 1) by omega]; exact h2⟩
theorem waysBad_iff (t : List Nd) : ∀ (l : List Nd) (k : Nat), waysBad t l k = true ↔ ∃ (j : Nat) (n : Nd), l[j]? = some n ∧ nodeBad t ((k + j : Nat) : Int) n = true
  | [], k => by simp [waysBad]
  | n :: r, k => by
    simp only [waysBad, Bool.or_eq_true, waysBad_iff t r (k + 1)]
    constructor
    · rintro (h | ⟨j, x, h1, h2⟩)
      · exact ⟨0, n, rfl, h⟩
      · exact ⟨j + 1, x, by simpa using h1, by rw [show k + (j + 1) = k + 1 + j by omega]; exact h2⟩
    · rintro ⟨j, x, h1, h2⟩
      cases j with
      | zero => simp at h1; subst h1; exact .inl h2
      | succ j => exact .inr ⟨j, x, by simpa using h1, by rw [show k + 1 + j = k + (j + 1) by omega]; exact h2⟩
theorem depthK_le (t : List Nd) (c : Int) (hc : -1 ≤ c) : ∀ m : Nat, depthK t m ≤ c ↔ ∀ j : Nat, j < m → levelL t j ≤ c
  | 0 => by simp [depthK, hc]
  | m + 1 => by
    simp only [depthK]
    rw [show max (depthK t m) (levelL t m) ≤ c ↔ depthK t m ≤ c ∧ levelL t m ≤ c by omega, depthK_le t c hc m]
    constructor
    · rintro ⟨h1, h2⟩ j hj
      rcases Nat.lt_or_ge j m with q | q
      · exact h1 j q
      · obtain rfl : j = m := by omega
        exact h2
    · intro h
      exact ⟨fun j hj => h j (by omega), h m (by omega)⟩
theorem level_way {t : List Nd} {j : Nat} {l : List Int} (hj : j < t.length) (hs : steps t 32 j = some l) : levelL t j = (l.length : Int) - 1 := by
  unfold levelL lvl
  rw [if_pos (by omega)]
  simp only [hs, Int.add_zero]
theorem level_kid {t : List Nd} {ft : Int} (h : shapeOk t ft = true) (hl : t.length ≤ 31) {j c : Nat} (hj : j < t.length) (hc : c < t.length) (hu : up t c = j) : levelL t c = levelL t j + 1 := by
  obtain ⟨lc, h1, _⟩ := steps_anc h 31 c (by omega)
  obtain ⟨lj, h2, _⟩ := steps_anc h 31 j (by omega)
  have h1' := h1
  rw [steps, if_neg (by omega), hu] at h1'
  simp only [Option.map_eq_some_iff] at h1'
  obtain ⟨r, h3, rfl⟩ := h1'
  have h4 := steps_more h3
  rw [h2] at h4
  cases h4
  rw [level_way hc h1, level_way hj h2]
  simp
theorem levels_leaf {t : List Nd} {ft : Int} (h : shapeOk t ft = true) (hl : t.length ≤ 31) (hleaf : ∀ (j : Nat) (n : Nd), t[j]? = some n → n.f = -1 → levelL t j ≤ 4) : ∀ (d : Nat) (j : Nat), t.length - j = d → j < t.length → levelL t j ≤ 4 := by
  intro d
  induction d using Nat.strongRecOn with
  | _ d ih =>
    intro j hd hj
    obtain ⟨n, hn⟩ := get_lt hj
    by_cases hf : n.f = -1
    · exact hleaf j n hn hf
    · have hk := shape_kids h hn hf
      have hu := up_kid h hn hf (.inl rfl)
      obtain ⟨c, hc⟩ : ∃ c : Nat, n.l = c := ⟨n.l.toNat, by omega⟩
      rw [hc] at hu hk
      have := level_kid h hl hj (show c < t.length by omega) hu
      have := ih (t.length - c) (by omega) c rfl (by omega)
      omega
theorem treeOk_same (t : List Nd) (ft : Int) : treeOkI t ft = treeOk t ft := by
  unfold treeOkI treeOk
  by_cases h1 : 1 ≤ (t.length : Int) ∧ (t.length : Int) ≤ 31
  · rw [decide_eq_true h1, Bool.true_and, Bool.true_and]
    congr 1
    cases h3 : shapeOk t ft with
    | false => rfl
    | true =>
      rw [Bool.true_and, Bool.true_and]
      have hst : ∀ j : Nat, j < t.length → ∃ l, steps t 32 j = some l ∧ wayL t j = l.reverse := fun j hj => by
        obtain ⟨l, hl, _⟩ := steps_anc h3 31 j (by omega)
        exact ⟨l, hl, by unfold wayL; rw [if_pos (by omega), hl]⟩
      rw [Bool.eq_iff_iff]
      simp only [Bool.not_eq_true', Bool.and_eq_true, decide_eq_true_eq]
      rw [depthK_le t 4 (by omega)]
      have n1 := implBads_iff t t 0
      have n2 := waysBad_iff t t 0
      simp only [Nat.zero_add] at n1 n2
      constructor
      · intro hb
        have hno : ∀ (j : Nat) (n : Nd), t[j]? = some n → implBad t j n = false := fun j n hn => by
          cases hq : implBad t j n with
          | false => rfl
          | true => rw [n1.2 ⟨j, n, hn, hq⟩] at hb; cases hb
        refine ⟨fun j hj => levels_leaf h3 (by omega) (fun j n hn hf => ?_) _ j rfl hj, ?_⟩
        · have := hno j n hn
          simp only [implBad, if_pos hf, decide_eq_false_iff_not] at this
          have hj := (List.getElem?_eq_some_iff.1 hn).1
          obtain ⟨l, hl, hw⟩ := hst j hj
          rw [level_way hj hl]
          rw [hw] at this
          simp at this
          omega
        · cases hq : waysBad t t 0 with
          | false => rfl
          | true =>
            obtain ⟨j, n, hn, hbad⟩ := n2.1 hq
            have hj := (List.getElem?_eq_some_iff.1 hn).1
            obtain ⟨l, hl, hw⟩ := hst j hj
            simp only [nodeBad, hl, bAnd, Bool.and_eq_true, bNot, Bool.not_eq_true', iEq, decide_eq_false_iff_not] at hbad
            have := hno j n hn
            simp only [implBad, if_neg hbad.1, hw, way_rev] at this
            rw [hbad.2] at this
            cases this
      · rintro ⟨hd, hw⟩
        cases hq : implBads t t 0 with
        | false => rfl
        | true =>
          obtain ⟨j, n, hn, hbad⟩ := n1.1 hq
          have hj := (List.getElem?_eq_some_iff.1 hn).1
          obtain ⟨l, hl, hwy⟩ := hst j hj
          have hlev := hd j hj
          rw [level_way hj hl] at hlev
          by_cases hf : n.f = -1
          · simp only [implBad, if_pos hf, decide_eq_true_eq, hwy, List.length_reverse] at hbad
            omega
          · simp only [implBad, if_neg hf, hwy, way_rev] at hbad
            have : nodeBad t j n = true := by simp [nodeBad, hl, bAnd, bNot, iEq, hf, hbad]
            rw [n2.2 ⟨j, n, hn, this⟩] at hw
            cases hw
  · rw [decide_eq_false h1]; rfl
theorem impl_TreeOk_spec (t : List Nd) (ft : Int) (hl : t.length ≤ 1048576) : FnSpec PR f_impl_TreeOk [aT t, ai ft] (ab (treeOk t ft)) [] 0 := treeOk_same t ft ▸ impl_TreeOk_one t ft hl
end Go.H.S
namespace Go.H.S
open Go Go.Proofs Go.H
attribute [local irreducible] Tri FnSpec FnSpecM FnSpecX FnSpecJ
set_option maxRecDepth 100000
set_option linter.unusedSimpArgs false
set_option linter.unusedVariables false


def binOfL : List Int → Int → Nat
  | [], _ => 0
  | c :: r, v => (if c < v then 1 else 0) + binOfL r v
theorem binOfL_le : ∀ (l : List Int) (v : Int), binOfL l v ≤ l.length
  | [], v => by simp [binOfL]
  | c :: r, v => by
    have := binOfL_le r v
    simp only [binOfL, List.length_cons]
    split <;> omega

theorem impl_BinOf_spec (cuts : List Int) (v : Int) (hl : cuts.length ≤ 1048576) : FnSpec PR f_impl_BinOf [aIs cuts, ai v] (ai (binOfL cuts v)) [] 0 := by
  have hle := binOfL_le cuts v
  refine FnSpec.intro hT p_impl_BinOf rfl (by kernel_rfl) n_impl_BinOf rfl ?_
  conv => whnf
  refine tri_loop hT [1, 5, 8, 9, 10] (α := Nat × Nat) (fun x => { t := [(1, ai v), (5, ai x.2), (8, aIs cuts), (9, ai cuts.length), (10, ai x.1)], h := [], n := 0, N := 21 })
    (fun x => x.1 ≤ cuts.length ∧ x.2 + binOfL (cuts.drop x.1) v = binOfL cuts v) (fun x => cuts.length - x.1) (0, 0) (by ((conv => whnf); simp only [St.mk.injEq, List.cons.injEq, Prod.mk.injEq, AV.c.injEq, AV.agg.injEq, AV.tup.injEq, CV.d.injEq, D.int.injEq, D.bool.injEq, D.str.injEq, D.sl.injEq, Ent.arr.injEq, Ent.box.injEq, true_and, and_true, and_self, nInt_eq, Int.natCast_zero, dLen_eL, sLen_eq])) ⟨Nat.zero_le _, by simp⟩ ?_
  intro ⟨k, c⟩ ⟨hk, hc⟩
  dsimp only at hk hc
  (conv => whnf)
  refine ifB_i (fun h1 => ?_) (fun h1 => ?_) <;> (conv => whnf) <;> simp at h1
  · obtain ⟨x, hx⟩ := get_lt h1
    rw [drop_at hx, binOfL] at hc
    refine idx_at (by simp) hx ?_
    (conv => whnf)
    refine ifB_i (fun h2 => ?_) (fun h2 => ?_) <;> (conv => whnf) <;> simp only [nInt_eq, Int.natCast_zero, dLen_eL, sLen_eq, nOf_eq, Int.toNat_natCast, nAdd_eq, nSub_eq, dLen_nil, dLen_cons, iLt_t, iLt_f, iLe_t, iLe_f, iEq_t, iEq_f, sEq_t, sEq_f, bNot_t, bNot_f, bAnd_t, bEq_t, bEq_f, Bool.not_eq_true, Bool.not_eq_false, Bool.true_eq_false, Bool.false_eq_true] at h2
    · rw [if_pos h2] at hc
      refine ⟨(k + 1, c + 1), by dsimp only; omega, ⟨h1, by dsimp only; omega⟩, ?_⟩
      ((conv => whnf); simp only [St.mk.injEq, List.cons.injEq, Prod.mk.injEq, AV.c.injEq, AV.agg.injEq, AV.tup.injEq, CV.d.injEq, D.int.injEq, D.bool.injEq, D.str.injEq, D.sl.injEq, Ent.arr.injEq, Ent.box.injEq, true_and, and_true, and_self, nInt_eq, Int.natCast_zero, dLen_eL, sLen_eq, wI h1 (by omega), wI (show c < 1048577 by omega) (by omega)])
    · rw [if_neg (by omega)] at hc
      refine ⟨(k + 1, c), by dsimp only; omega, ⟨h1, by dsimp only; omega⟩, ?_⟩
      ((conv => whnf); simp only [St.mk.injEq, List.cons.injEq, Prod.mk.injEq, AV.c.injEq, AV.agg.injEq, AV.tup.injEq, CV.d.injEq, D.int.injEq, D.bool.injEq, D.str.injEq, D.sl.injEq, Ent.arr.injEq, Ent.box.injEq, true_and, and_true, and_self, nInt_eq, Int.natCast_zero, dLen_eL, sLen_eq, wI h1 (by omega)])
  · obtain rfl : k = cuts.length := by omega
    simp [binOfL] at hc
    rw [hc]

theorem spec_BinOf_spec (cuts : List Int) (v : Int) (hl : cuts.length ≤ 1048576) : FnSpec PR f_spec_BinOf [aIs cuts, ai v] (ai (binOfL cuts v)) [] 0 := by
  have hle := binOfL_le cuts v
  refine FnSpec.intro hT p_spec_BinOf rfl (by kernel_rfl) n_spec_BinOf rfl ?_
  conv => whnf
  refine tri_loop hT [0, 1, 5, 6] (α := Nat × Nat) (fun x => { t := [(0, aIs cuts), (1, ai v), (5, ai x.2), (6, ai x.1)], h := [], n := 0, N := 22 })
    (fun x => x.1 ≤ cuts.length ∧ x.2 + binOfL (cuts.drop x.1) v = binOfL cuts v) (fun x => cuts.length - x.1) (0, 0) (by ((conv => whnf); simp only [St.mk.injEq, List.cons.injEq, Prod.mk.injEq, AV.c.injEq, AV.agg.injEq, AV.tup.injEq, CV.d.injEq, D.int.injEq, D.bool.injEq, D.str.injEq, D.sl.injEq, Ent.arr.injEq, Ent.box.injEq, true_and, and_true, and_self, nInt_eq, Int.natCast_zero, dLen_eL, sLen_eq])) ⟨Nat.zero_le _, by simp⟩ ?_
  intro ⟨k, c⟩ ⟨hk, hc⟩
  dsimp only at hk hc
  (conv => whnf)
  refine ifB_i (fun h1 => ?_) (fun h1 => ?_) <;> (conv => whnf) <;> simp at h1
  · obtain ⟨x, hx⟩ := get_lt h1
    rw [drop_at hx, binOfL] at hc
    refine idx_at (by simp) hx ?_
    (conv => whnf)
    refine ifB_i (fun h2 => ?_) (fun h2 => ?_) <;> (conv => whnf) <;> simp only [nInt_eq, Int.natCast_zero, dLen_eL, sLen_eq, nOf_eq, Int.toNat_natCast, nAdd_eq, nSub_eq, dLen_nil, dLen_cons, iLt_t, iLt_f, iLe_t, iLe_f, iEq_t, iEq_f, sEq_t, sEq_f, bNot_t, bNot_f, bAnd_t, bEq_t, bEq_f, Bool.not_eq_true, Bool.not_eq_false, Bool.true_eq_false, Bool.false_eq_true] at h2
    · rw [if_pos h2] at hc
      refine ⟨(k + 1, c + 1), by dsimp only; omega, ⟨h1, by dsimp only; omega⟩, ?_⟩
      ((conv => whnf); simp only [St.mk.injEq, List.cons.injEq, Prod.mk.injEq, AV.c.injEq, AV.agg.injEq, AV.tup.injEq, CV.d.injEq, D.int.injEq, D.bool.injEq, D.str.injEq, D.sl.injEq, Ent.arr.injEq, Ent.box.injEq, true_and, and_true, and_self, nInt_eq, Int.natCast_zero, dLen_eL, sLen_eq, wI h1 (by omega), wI (show c < 1048577 by omega) (by omega)])
    · rw [if_neg (by omega)] at hc
      refine ⟨(k + 1, c), by dsimp only; omega, ⟨h1, by dsimp only; omega⟩, ?_⟩
      ((conv => whnf); simp only [St.mk.injEq, List.cons.injEq, Prod.mk.injEq, AV.c.injEq, AV.agg.injEq, AV.tup.injEq, CV.d.injEq, D.int.injEq, D.bool.injEq, D.str.injEq, D.sl.injEq, Ent.arr.injEq, Ent.box.injEq, true_and, and_true, and_self, nInt_eq, Int.natCast_zero, dLen_eL, sLen_eq, wI h1 (by omega)])
  · obtain rfl : k = cuts.length := by omega
    simp [binOfL] at hc
    rw [hc]

def upTo (n : Nat) : List Int := (List.range n).map fun (i : Nat) => (i : Int)
theorem upTo_len (n : Nat) : (upTo n).length = n := by simp [upTo]
theorem upTo_succ (n : Nat) : upTo (n + 1) = upTo n ++ [(n : Int)] := by simp [upTo, List.range_succ]
def allRowsL (n : Int) : List Int := if 1 ≤ n ∧ n ≤ 40 then upTo n.toNat else []

theorem impl_AllRows_spec (n : Int) : FnSpec PR f_impl_AllRows [ai n] (.c (.ref 0 0 none)) [(0, .arr t_int 1 0 .own (eL cI (allRowsL n)))] 1 := by
  refine FnSpec.intro hT p_impl_AllRows rfl (by kernel_rfl) n_impl_AllRows rfl ?_
  conv => whnf
  refine .inl ⟨_, _, _, impl_within_spec _ _ _, rfl, ?_⟩
  (conv => whnf)
  by_cases h : 1 ≤ n ∧ n ≤ 40
  · rw [show decide (1 ≤ n ∧ n ≤ 40) = true from decide_eq_true h]
    (conv => whnf)
    have he : allRowsL n = upTo n.toNat := by rw [allRowsL, if_pos h]
    rw [he]
    obtain ⟨m, rfl⟩ : ∃ m : Nat, n = m := ⟨n.toNat, by omega⟩
    simp only [Int.toNat_natCast]
    refine tri_loop hT [3, 10, 11] (α := Nat) (fun x => { t := [(3, .c (.ref 0 0 none)), (10, ai m), (11, ai x)], h := [(0, .arr t_int 1 0 .own (eL cI (upTo x)))], n := 1, N := 20 })
      (fun x => x ≤ m) (fun x => m - x) 0 (by (conv => whnf); rw [show upTo 0 = [] from rfl, eL_nil]; rfl) (Nat.zero_le _) ?_
    intro k hk
    (conv => whnf)
    refine ifB_i (fun h1 => ?_) (fun h1 => ?_) <;> (conv => whnf) <;> simp at h1
    · refine And.intro (by simp [eL_length, dLen_len, upTo_len]; omega) ?_
      (conv => whnf)
      refine ⟨k + 1, by omega, h1, ?_⟩
      ((conv => whnf); simp only [St.mk.injEq, List.cons.injEq, Prod.mk.injEq, AV.c.injEq, AV.agg.injEq, AV.tup.injEq, CV.d.injEq, D.int.injEq, D.bool.injEq, D.str.injEq, D.sl.injEq, Ent.arr.injEq, Ent.box.injEq, true_and, and_true, and_self, nInt_eq, Int.natCast_zero, dLen_eL, sLen_eq, wI h1 (by omega)])
      rw [upTo_succ, ← eL_app]
      rfl
    · obtain rfl : k = m := by omega
      (conv => whnf)
  · rw [show decide (1 ≤ n ∧ n ≤ 40) = false from decide_eq_false h]
    (conv => whnf)
    rw [allRowsL, if_neg h, eL_nil]

theorem spec_AllRows_spec (n : Int) : FnSpec PR f_spec_AllRows [ai n] (.c (.ref 0 0 none)) [(0, .arr t_int 1 0 .own (eL cI (allRowsL n)))] 1 := by
  refine FnSpec.intro hT p_spec_AllRows rfl (by kernel_rfl) n_spec_AllRows rfl ?_
  conv => whnf
  refine tri_loop hT [0, 3, 4] (α := Nat) (fun x => { t := [(0, ai n), (3, .c (.ref 0 0 none)), (4, ai x)], h := [(0, .arr t_int 1 0 .own (eL cI (upTo x)))], n := 1, N := 20 })
    (fun x => x = 0 ∨ (n ≤ 40 ∧ x ≤ n)) (fun x => 40 - x) 0 (by (conv => whnf); rw [show upTo 0 = [] from rfl, eL_nil]; rfl) (.inl rfl) ?_
  intro k hk
  (conv => whnf)
  refine ifB_i (fun h1 => ?_) (fun h1 => ?_) <;> (conv => whnf) <;> simp only [nInt_eq, Int.natCast_zero, dLen_eL, sLen_eq, nOf_eq, Int.toNat_natCast, nAdd_eq, nSub_eq, dLen_nil, dLen_cons, iLt_t, iLt_f, iLe_t, iLe_f, iEq_t, iEq_f, sEq_t, sEq_f, bNot_t, bNot_f, bAnd_t, bEq_t, bEq_f, Bool.not_eq_true, Bool.not_eq_false, Bool.true_eq_false, Bool.false_eq_true] at h1
  · refine ifB_i (fun h2 => ?_) (fun h2 => ?_) <;> (conv => whnf) <;> simp only [nInt_eq, Int.natCast_zero, dLen_eL, sLen_eq, nOf_eq, Int.toNat_natCast, nAdd_eq, nSub_eq, dLen_nil, dLen_cons, iLt_t, iLt_f, iLe_t, iLe_f, iEq_t, iEq_f, sEq_t, sEq_f, bNot_t, bNot_f, bAnd_t, bEq_t, bEq_f, Bool.not_eq_true, Bool.not_eq_false, Bool.true_eq_false, Bool.false_eq_true] at h2
    · refine And.intro (by simp [eL_length, dLen_len, upTo_len]; omega) ?_
      (conv => whnf)
      refine ⟨k + 1, by omega, .inr (by omega), ?_⟩
      ((conv => whnf); simp only [St.mk.injEq, List.cons.injEq, Prod.mk.injEq, AV.c.injEq, AV.agg.injEq, AV.tup.injEq, CV.d.injEq, D.int.injEq, D.bool.injEq, D.str.injEq, D.sl.injEq, Ent.arr.injEq, Ent.box.injEq, true_and, and_true, and_self, nInt_eq, Int.natCast_zero, dLen_eL, sLen_eq, wI (show k < 40 by omega) (by omega)])
      rw [upTo_succ, ← eL_app]
      rfl
    · obtain rfl : k = 0 := by omega
      rw [allRowsL, if_neg (by omega)]
      rfl
  · rcases hk with rfl | hk
    · rw [allRowsL, if_neg (by omega)]
      rfl
    · have : n = k := by omega
      subst this
      by_cases h0 : 1 ≤ (k : Int)
      · rw [allRowsL, if_pos (by omega), Int.toNat_natCast]
      · obtain rfl : k = 0 := by omega
        rw [allRowsL, if_neg (by omega)]
        rfl

def atBin (bins : List Int) (b : Int) (r : Int) : Option Bool := if 0 ≤ r ∧ r ≤ (bins.length : Int) - 1 then (bins[r.toNat]?).map fun x => decide (x ≤ b) else none
def splitL (bins rows : List Int) (b : Int) : List Int × List Int := (rows.filter fun r => decide (atBin bins b r = some true), rows.filter fun r => decide (atBin bins b r = some false))
abbrev tupRR : AV := .tup [(false, [.ref 0 0 none]), (false, [.ref 1 0 none])]
theorem splitL_len (bins rows : List Int) (b : Int) : (splitL bins rows b).1.length ≤ rows.length ∧ (splitL bins rows b).2.length ≤ rows.length := ⟨List.length_filter_le _ _, List.length_filter_le _ _⟩
theorem filter_take_step {p : Int → Bool} {xs : List Int} {k : Nat} {x : Int} (h : xs[k]? = some x) : (xs.take (k + 1)).filter p = (xs.take k).filter p ++ (if p x then [x] else []) := by
  rw [List.take_add_one, h, List.filter_append]
  simp only [Option.toList_some, List.filter_cons, List.filter_nil]

theorem impl_SplitRows_spec (bins rows : List Int) (b : Int) (hb : bins.length ≤ 1048576) (hr : rows.length ≤ 1048576) : FnSpec PR f_impl_SplitRows [aIs bins, aIs rows, ai b] tupRR [(0, .arr t_int 1 0 .own (eL cI (splitL bins rows b).1)), (1, .arr t_int 1 0 .own (eL cI (splitL bins rows b).2))] 2 := by
  have e1 : wSub .i64 (nInt (dLen (eL cI bins))) 1 = (bins.length : Int) - 1 := by rw [show nInt (dLen (eL cI bins)) = (bins.length : Int) by simp]; exact wSub64 (by omega) (by omega)
  refine FnSpec.intro hT p_impl_SplitRows rfl (by kernel_rfl) n_impl_SplitRows rfl ?_
  conv => whnf
  refine tri_loop hT [0, 2, 8, 9, 14, 15, 16] (α := Nat) (fun x => { t := [(0, aIs bins), (2, ai b), (8, .c (.ref 0 0 none)), (9, .c (.ref 1 0 none)), (14, aIs rows), (15, ai rows.length), (16, ai x)], h := [(0, .arr t_int 1 0 .own (eL cI (splitL bins (rows.take x) b).1)), (1, .arr t_int 1 0 .own (eL cI (splitL bins (rows.take x) b).2))], n := 2, N := 45 })
    (fun x => x ≤ rows.length) (fun x => rows.length - x) 0 (by ((conv => whnf); simp only [St.mk.injEq, List.cons.injEq, Prod.mk.injEq, AV.c.injEq, AV.agg.injEq, AV.tup.injEq, CV.d.injEq, D.int.injEq, D.bool.injEq, D.str.injEq, D.sl.injEq, Ent.arr.injEq, Ent.box.injEq, true_and, and_true, and_self, nInt_eq, Int.natCast_zero, dLen_eL, sLen_eq, splitL, List.take_zero, List.filter_nil, eL_nil])) (Nat.zero_le _) ?_
  intro k hk
  (conv => whnf)
  refine ifB_i (fun h1 => ?_) (fun h1 => ?_) <;> (conv => whnf) <;> simp at h1
  · obtain ⟨x, hx⟩ := get_lt h1
    have hl := splitL_len bins (rows.take k) b
    have htl : (rows.take k).length = k := by simp; omega
    refine idx_at (by simp) hx ?_
    (conv => whnf)
    rw [e1]
    refine .inl ⟨_, _, _, impl_within_spec _ _ _, rfl, ?_⟩
    (conv => whnf)
    have f1 : (splitL bins (rows.take (k + 1)) b).1 = (splitL bins (rows.take k) b).1 ++ (if decide (atBin bins b x = some true) then [x] else []) := filter_take_step hx
    have f2 : (splitL bins (rows.take (k + 1)) b).2 = (splitL bins (rows.take k) b).2 ++ (if decide (atBin bins b x = some false) then [x] else []) := filter_take_step hx
    by_cases hin : 0 ≤ x ∧ x ≤ (bins.length : Int) - 1
    · rw [show decide (0 ≤ x ∧ x ≤ (bins.length : Int) - 1) = true from decide_eq_true hin]
      (conv => whnf)
      obtain ⟨i, rfl⟩ : ∃ i : Nat, x = i := ⟨x.toNat, by omega⟩
      obtain ⟨y, hy⟩ := get_lt (show i < bins.length by omega)
      refine idx_at (by simp) hy ?_
      (conv => whnf)
      refine ifB_i (fun h2 => ?_) (fun h2 => ?_) <;> (conv => whnf) <;> simp only [nInt_eq, Int.natCast_zero, dLen_eL, sLen_eq, nOf_eq, Int.toNat_natCast, nAdd_eq, nSub_eq, dLen_nil, dLen_cons, iLt_t, iLt_f, iLe_t, iLe_f, iEq_t, iEq_f, sEq_t, sEq_f, bNot_t, bNot_f, bAnd_t, bEq_t, bEq_f, Bool.not_eq_true, Bool.not_eq_false, Bool.true_eq_false, Bool.false_eq_true] at h2
      · have ha : atBin bins b i = some true := by simp [atBin, hin, hy, h2]
        rw [ha] at f1 f2
        simp at f1 f2
        refine And.intro (by simp [eL_length, dLen_len]; omega) ?_
        (conv => whnf)
        refine ⟨k + 1, by omega, h1, ?_⟩
        ((conv => whnf); simp only [St.mk.injEq, List.cons.injEq, Prod.mk.injEq, AV.c.injEq, AV.agg.injEq, AV.tup.injEq, CV.d.injEq, D.int.injEq, D.bool.injEq, D.str.injEq, D.sl.injEq, Ent.arr.injEq, Ent.box.injEq, true_and, and_true, and_self, nInt_eq, Int.natCast_zero, dLen_eL, sLen_eq, wI h1 (by omega)])
        rw [f1, f2, ← eL_app]
        exact ⟨rfl, rfl⟩
      · have ha : atBin bins b i = some false := by simp [atBin, hin, hy]; omega
        rw [ha] at f1 f2
        simp at f1 f2
        refine And.intro (by simp [eL_length, dLen_len]; omega) ?_
        (conv => whnf)
        refine ⟨k + 1, by omega, h1, ?_⟩
        ((conv => whnf); simp only [St.mk.injEq, List.cons.injEq, Prod.mk.injEq, AV.c.injEq, AV.agg.injEq, AV.tup.injEq, CV.d.injEq, D.int.injEq, D.bool.injEq, D.str.injEq, D.sl.injEq, Ent.arr.injEq, Ent.box.injEq, true_and, and_true, and_self, nInt_eq, Int.natCast_zero, dLen_eL, sLen_eq, wI h1 (by omega)])
        rw [f1, f2, ← eL_app]
        exact ⟨rfl, rfl⟩
    · rw [show decide (0 ≤ x ∧ x ≤ (bins.length : Int) - 1) = false from decide_eq_false hin]
      (conv => whnf)
      have ha : atBin bins b x = none := by simp only [atBin]; rw [if_neg hin]
      rw [ha] at f1 f2
      simp at f1 f2
      refine ⟨k + 1, by omega, h1, ?_⟩
      ((conv => whnf); simp only [St.mk.injEq, List.cons.injEq, Prod.mk.injEq, AV.c.injEq, AV.agg.injEq, AV.tup.injEq, CV.d.injEq, D.int.injEq, D.bool.injEq, D.str.injEq, D.sl.injEq, Ent.arr.injEq, Ent.box.injEq, true_and, and_true, and_self, nInt_eq, Int.natCast_zero, dLen_eL, sLen_eq, wI h1 (by omega)])
      rw [f1, f2]
      exact ⟨rfl, rfl⟩
  · obtain rfl : k = rows.length := by omega
    rw [List.take_length]

theorem spec_SplitRows_spec (bins rows : List Int) (b : Int) (hb : bins.length ≤ 1048576) (hr : rows.length ≤ 1048576) : FnSpec PR f_spec_SplitRows [aIs bins, aIs rows, ai b] tupRR [(0, .arr t_int 1 0 .own (eL cI (splitL bins rows b).1)), (1, .arr t_int 1 0 .own (eL cI (splitL bins rows b).2))] 2 := by
  have e1 : wSub .i64 (nInt (dLen (eL cI bins))) 1 = (bins.length : Int) - 1 := by rw [show nInt (dLen (eL cI bins)) = (bins.length : Int) by simp]; exact wSub64 (by omega) (by omega)
  refine FnSpec.intro hT p_spec_SplitRows rfl (by kernel_rfl) n_spec_SplitRows rfl ?_
  conv => whnf
  refine tri_loop hT [0, 1, 2, 8, 9, 10] (α := Nat) (fun x => { t := [(0, aIs bins), (1, aIs rows), (2, ai b), (8, .c (.ref 0 0 none)), (9, .c (.ref 1 0 none)), (10, ai x)], h := [(0, .arr t_int 1 0 .own (eL cI (splitL bins (rows.take x) b).1)), (1, .arr t_int 1 0 .own (eL cI (splitL bins (rows.take x) b).2))], n := 2, N := 55 })
    (fun x => x ≤ rows.length) (fun x => rows.length - x) 0 (by ((conv => whnf); simp only [St.mk.injEq, List.cons.injEq, Prod.mk.injEq, AV.c.injEq, AV.agg.injEq, AV.tup.injEq, CV.d.injEq, D.int.injEq, D.bool.injEq, D.str.injEq, D.sl.injEq, Ent.arr.injEq, Ent.box.injEq, true_and, and_true, and_self, nInt_eq, Int.natCast_zero, dLen_eL, sLen_eq, splitL, List.take_zero, List.filter_nil, eL_nil])) (Nat.zero_le _) ?_
  intro k hk
  (conv => whnf)
  refine ifB_i (fun h1 => ?_) (fun h1 => ?_) <;> (conv => whnf) <;> simp at h1
  · obtain ⟨x, hx⟩ := get_lt h1
    have hl := splitL_len bins (rows.take k) b
    have htl : (rows.take k).length = k := by simp; omega
    refine idx_at (by simp) hx ?_
    (conv => whnf)
    rw [e1]
    refine .inl ⟨_, _, _, spec_l1In_spec _ _ _, rfl, ?_⟩
    (conv => whnf)
    have f1 : (splitL bins (rows.take (k + 1)) b).1 = (splitL bins (rows.take k) b).1 ++ (if decide (atBin bins b x = some true) then [x] else []) := filter_take_step hx
    have f2 : (splitL bins (rows.take (k + 1)) b).2 = (splitL bins (rows.take k) b).2 ++ (if decide (atBin bins b x = some false) then [x] else []) := filter_take_step hx
    by_cases hin : 0 ≤ x ∧ x ≤ (bins.length : Int) - 1
    · rw [show decide (0 ≤ x ∧ x ≤ (bins.length : Int) - 1) = true from decide_eq_true hin]
      (conv => whnf)
      obtain ⟨i, rfl⟩ : ∃ i : Nat, x = i := ⟨x.toNat, by omega⟩
      obtain ⟨y, hy⟩ := get_lt (show i < bins.length by omega)
      refine idx_at (by simp) hx ?_
      (conv => whnf)
      refine idx_at (by simp) hy ?_
      (conv => whnf)
      refine ifB_i (fun h2 => ?_) (fun h2 => ?_) <;> (conv => whnf) <;> simp only [nInt_eq, Int.natCast_zero, dLen_eL, sLen_eq, nOf_eq, Int.toNat_natCast, nAdd_eq, nSub_eq, dLen_nil, dLen_cons, iLt_t, iLt_f, iLe_t, iLe_f, iEq_t, iEq_f, sEq_t, sEq_f, bNot_t, bNot_f, bAnd_t, bEq_t, bEq_f, Bool.not_eq_true, Bool.not_eq_false, Bool.true_eq_false, Bool.false_eq_true] at h2
      · have ha : atBin bins b i = some true := by simp [atBin, hin, hy, h2]
        rw [ha] at f1 f2
        simp at f1 f2
        refine idx_at (by simp) hx ?_
        (conv => whnf)
        refine And.intro (by simp [eL_length, dLen_len]; omega) ?_
        (conv => whnf)
        refine ⟨k + 1, by omega, h1, ?_⟩
        ((conv => whnf); simp only [St.mk.injEq, List.cons.injEq, Prod.mk.injEq, AV.c.injEq, AV.agg.injEq, AV.tup.injEq, CV.d.injEq, D.int.injEq, D.bool.injEq, D.str.injEq, D.sl.injEq, Ent.arr.injEq, Ent.box.injEq, true_and, and_true, and_self, nInt_eq, Int.natCast_zero, dLen_eL, sLen_eq, wI h1 (by omega)])
        rw [f1, f2, ← eL_app]
        exact ⟨rfl, rfl⟩
      · have ha : atBin bins b i = some false := by simp [atBin, hin, hy]; omega
        rw [ha] at f1 f2
        simp at f1 f2
        refine idx_at (by simp) hx ?_
        (conv => whnf)
        refine And.intro (by simp [eL_length, dLen_len]; omega) ?_
        (conv => whnf)
        refine ⟨k + 1, by omega, h1, ?_⟩
        ((conv => whnf); simp only [St.mk.injEq, List.cons.injEq, Prod.mk.injEq, AV.c.injEq, AV.agg.injEq, AV.tup.injEq, CV.d.injEq, D.int.injEq, D.bool.injEq, D.str.injEq, D.sl.injEq, Ent.arr.injEq, Ent.box.injEq, true_and, and_true, and_self, nInt_eq, Int.natCast_zero, dLen_eL, sLen_eq, wI h1 (by omega)])
        rw [f1, f2, ← eL_app]
        exact ⟨rfl, rfl⟩
    · rw [show decide (0 ≤ x ∧ x ≤ (bins.length : Int) - 1) = false from decide_eq_false hin]
      (conv => whnf)
      have ha : atBin bins b x = none := by simp only [atBin]; rw [if_neg hin]
      rw [ha] at f1 f2
      simp at f1 f2
      refine ⟨k + 1, by omega, h1, ?_⟩
      ((conv => whnf); simp only [St.mk.injEq, List.cons.injEq, Prod.mk.injEq, AV.c.injEq, AV.agg.injEq, AV.tup.injEq, CV.d.injEq, D.int.injEq, D.bool.injEq, D.str.injEq, D.sl.injEq, Ent.arr.injEq, Ent.box.injEq, true_and, and_true, and_self, nInt_eq, Int.natCast_zero, dLen_eL, sLen_eq, wI h1 (by omega)])
      rw [f1, f2]
      exact ⟨rfl, rfl⟩
  · obtain rfl : k = rows.length := by omega
    rw [List.take_length]

def rowsIn (g : Grd) : Nat := match g.bins with | [] => 0 | x :: _ => x.length

theorem impl_RowsIn_spec (g : Grd) : FnSpec PR f_impl_RowsIn [aG g] (ai (rowsIn g)) [] 0 := by
  refine FnSpec.intro hT p_impl_RowsIn rfl (by kernel_rfl) n_impl_RowsIn rfl ?_
  conv => whnf
  cases hb : g.bins with
  | nil =>
    refine ifB_i (fun h1 => ?_) (fun h1 => ?_) <;> (conv => whnf) <;> simp only [nInt_eq, Int.natCast_zero, dLen_eL, sLen_eq, nOf_eq, Int.toNat_natCast, nAdd_eq, nSub_eq, dLen_nil, dLen_cons, iLt_t, iLt_f, iLe_t, iLe_f, iEq_t, iEq_f, sEq_t, sEq_f, bNot_t, bNot_f, bAnd_t, bEq_t, bEq_f, Bool.not_eq_true, Bool.not_eq_false, Bool.true_eq_false, Bool.false_eq_true, eL_nil] at h1
    · simp [rowsIn, hb]
    · simp [eL_nil] at h1
  | cons x r =>
    refine ifB_i (fun h1 => ?_) (fun h1 => ?_) <;> (conv => whnf) <;> simp only [nInt_eq, Int.natCast_zero, dLen_eL, sLen_eq, nOf_eq, Int.toNat_natCast, nAdd_eq, nSub_eq, dLen_nil, dLen_cons, iLt_t, iLt_f, iLe_t, iLe_f, iEq_t, iEq_f, sEq_t, sEq_f, bNot_t, bNot_f, bAnd_t, bEq_t, bEq_f, Bool.not_eq_true, Bool.not_eq_false, Bool.true_eq_false, Bool.false_eq_true, eL_cons] at h1
    · omega
    · refine idx_at (by simp) (show (x :: r)[0]? = some x from rfl) ?_
      (conv => whnf)
      simp [rowsIn, hb]

theorem spec_RowsIn_spec (g : Grd) : FnSpec PR f_spec_RowsIn [aG g] (ai (rowsIn g)) [] 0 := by
  refine FnSpec.intro hT p_spec_RowsIn rfl (by kernel_rfl) n_spec_RowsIn rfl ?_
  conv => whnf
  cases hb : g.bins with
  | nil =>
    refine ifB_i (fun h1 => ?_) (fun h1 => ?_) <;> (conv => whnf) <;> simp only [nInt_eq, Int.natCast_zero, dLen_eL, sLen_eq, nOf_eq, Int.toNat_natCast, nAdd_eq, nSub_eq, dLen_nil, dLen_cons, iLt_t, iLt_f, iLe_t, iLe_f, iEq_t, iEq_f, sEq_t, sEq_f, bNot_t, bNot_f, bAnd_t, bEq_t, bEq_f, Bool.not_eq_true, Bool.not_eq_false, Bool.true_eq_false, Bool.false_eq_true, eL_nil] at h1
    · simp [rowsIn, hb]
    · simp [eL_nil] at h1
  | cons x r =>
    refine ifB_i (fun h1 => ?_) (fun h1 => ?_) <;> (conv => whnf) <;> simp only [nInt_eq, Int.natCast_zero, dLen_eL, sLen_eq, nOf_eq, Int.toNat_natCast, nAdd_eq, nSub_eq, dLen_nil, dLen_cons, iLt_t, iLt_f, iLe_t, iLe_f, iEq_t, iEq_f, sEq_t, sEq_f, bNot_t, bNot_f, bAnd_t, bEq_t, bEq_f, Bool.not_eq_true, Bool.not_eq_false, Bool.true_eq_false, Bool.false_eq_true, eL_cons] at h1
    · omega
    · refine idx_at (by simp) (show (x :: r)[0]? = some x from rfl) ?_
      (conv => whnf)
      simp [rowsIn, hb]
end Go.H.S
namespace Go.H.S
open Go Go.Proofs Go.H
attribute [local irreducible] Tri FnSpec FnSpecM FnSpecX FnSpecJ
set_option maxRecDepth 100000
set_option linter.unusedSimpArgs false
set_option linter.unusedVariables false


def decP (x : Int) : Prop := -2147483647 ≤ x ∧ x ≤ 2147483647
def cutsP (cuts : List Int) : Prop := (∀ (j : Nat) (a b : Int), cuts[j]? = some a → cuts[j + 1]? = some b → a < b) ∧ cuts.length ≤ 7 ∧ ∀ c ∈ cuts, decP c
noncomputable def cutsOk (cuts : List Int) : Bool := @decide (cutsP cuts) (Classical.propDecidable _)
theorem cutsOk_t {cuts : List Int} (h : cutsP cuts) : cutsOk cuts = true := by unfold cutsOk; exact @decide_eq_true _ (Classical.propDecidable _) h
theorem cutsOk_f {cuts : List Int} (h : ¬ cutsP cuts) : cutsOk cuts = false := by unfold cutsOk; exact @decide_eq_false _ (Classical.propDecidable _) h
theorem cutsOk_iff {cuts : List Int} : cutsOk cuts = true ↔ cutsP cuts := by
  constructor
  · intro h
    rcases Classical.em (cutsP cuts) with q | q
    · exact q
    · rw [cutsOk_f q] at h; cases h
  · exact cutsOk_t

theorem impl_areDecimals_1_spec (x : Int) : FnSpec PR f_impl_areDecimals_1 [ai x] (ab (bNot (decide (-2147483647 ≤ x ∧ x ≤ 2147483647)))) [] 0 := by
  refine FnSpec.intro hT p_impl_areDecimals_1 rfl (by kernel_rfl) n_impl_areDecimals_1 rfl ?_
  conv => whnf
  refine .inl ⟨_, _, _, impl_isDecimal_spec x, rfl, ?_⟩
  (conv => whnf)
theorem impl_areDecimals_spec (xs : List Int) (hl : xs.length ≤ 1048576) : FnSpec PR f_impl_areDecimals [aIs xs] (ab (bNot (xs.any fun x => bNot (decide (-2147483647 ≤ x ∧ x ≤ 2147483647))))) [] 0 := by
  refine FnSpec.intro hT p_impl_areDecimals rfl (by kernel_rfl) n_impl_areDecimals rfl ?_
  conv => whnf
  refine .inl ⟨_, _, _, slices_ContainsFunc_Lint_int_0 xs f_impl_areDecimals_1 (fun x => bNot (decide (-2147483647 ≤ x ∧ x ≤ 2147483647))) (fun x _ => impl_areDecimals_1_spec x) (by omega), rfl, ?_⟩
  (conv => whnf)

theorem impl_CutsOk_spec (cuts : List Int) (hl : cuts.length ≤ 1048576) : FnSpec PR f_impl_CutsOk [aIs cuts] (ab (cutsOk cuts)) [] 0 := by
  refine FnSpec.intro hT p_impl_CutsOk rfl (by kernel_rfl) n_impl_CutsOk rfl ?_
  conv => whnf
  refine tri_loop hT [0, 3] (α := Nat) (fun x => { t := [(0, aIs cuts), (3, ai (x + 1 : Nat))], h := [], n := 0, N := 27 })
    (fun x => (x + 1 ≤ cuts.length ∨ x = 0) ∧ ∀ (j : Nat) (a b : Int), j < x → cuts[j]? = some a → cuts[j + 1]? = some b → a < b) (fun x => cuts.length - x) 0 (by first | ((conv => whnf); done) | ((conv => whnf); rfl)) ⟨.inr rfl, fun j a b h => by omega⟩ ?_
  intro k ⟨hk, hr⟩
  (conv => whnf)
  refine ifB_i (fun h1 => ?_) (fun h1 => ?_) <;> (conv => whnf) <;> simp only [nInt_eq, Int.natCast_zero, dLen_eL, sLen_eq, nOf_eq, Int.toNat_natCast, nAdd_eq, nSub_eq, dLen_nil, dLen_cons, iLt_t, iLt_f, iLe_t, iLe_f, iEq_t, iEq_f, sEq_t, sEq_f, bNot_t, bNot_f, bAnd_t, bEq_t, bEq_f, Bool.not_eq_true, Bool.not_eq_false, Bool.true_eq_false, Bool.false_eq_true] at h1
  · obtain ⟨x, hx⟩ := get_lt (show k < cuts.length by omega)
    obtain ⟨y, hy⟩ := get_lt (show k + 1 < cuts.length by omega)
    have e1 : wSub .i64 ((k + 1 : Nat) : Int) 1 = (k : Int) := by rw [wSub64] <;> omega
    refine tri_every hT hmix [0, 3, 19] { t := [(0, aIs cuts), (3, ai (k + 1 : Nat)), (19, ab (iLe y x))], h := [], n := 0, N := 27 } rfl ?_ ?_
    · repeat' first
        | (refine anyV_one rfl ?_; (conv => whnf))
        | (refine anyV_two rfl ?_ ?_ <;> (conv => whnf))
        | (rw [e1]; (conv => whnf))
        | (refine idx_at (k := k + 1) rfl hy ?_; (conv => whnf))
        | (refine idx_at (k := k) rfl hx ?_; (conv => whnf))
        | (refine anyV_end rfl ?_; (conv => whnf); done)
    (conv => whnf)
    refine ifB_i (fun h2 => ?_) (fun h2 => ?_) <;> (conv => whnf) <;> simp only [nInt_eq, Int.natCast_zero, dLen_eL, sLen_eq, nOf_eq, Int.toNat_natCast, nAdd_eq, nSub_eq, dLen_nil, dLen_cons, iLt_t, iLt_f, iLe_t, iLe_f, iEq_t, iEq_f, sEq_t, sEq_f, bNot_t, bNot_f, bAnd_t, bEq_t, bEq_f, Bool.not_eq_true, Bool.not_eq_false, Bool.true_eq_false, Bool.false_eq_true] at h2
    · rw [cutsOk_f (fun hc => by have := hc.1 k x y hx hy; omega)]
    · refine ⟨k + 1, by omega, ⟨.inl (by omega), fun j a b hj ha hb => ?_⟩, ?_⟩
      · rcases Nat.lt_or_ge j k with q | q
        · exact hr j a b q ha hb
        · obtain rfl : j = k := by omega
          rw [hx] at ha; rw [hy] at hb
          cases ha; cases hb
          omega
      ((conv => whnf); simp only [St.mk.injEq, List.cons.injEq, Prod.mk.injEq, AV.c.injEq, AV.agg.injEq, AV.tup.injEq, CV.d.injEq, D.int.injEq, D.bool.injEq, D.str.injEq, D.sl.injEq, Ent.arr.injEq, Ent.box.injEq, true_and, and_true, and_self, nInt_eq, Int.natCast_zero, dLen_eL, sLen_eq, wI (show k + 1 < cuts.length by omega) (by omega)])
  · have hr2 : ∀ (j : Nat) (a b : Int), cuts[j]? = some a → cuts[j + 1]? = some b → a < b := fun j a b ha hb => hr j a b (by have := (List.getElem?_eq_some_iff.1 hb).1; omega) ha hb
    rw [show nInt (dLen (eL cI cuts)) = (cuts.length : Int) by simp]
    cases h7 : iLe (cuts.length : Int) 7
    · (conv => whnf)
      simp at h7
      rw [cutsOk_f (fun hc => by have := hc.2.1; omega)]
    · (conv => whnf)
      simp at h7
      refine .inl ⟨_, _, _, impl_areDecimals_spec cuts hl, rfl, ?_⟩
      (conv => whnf)
      rw [show cutsOk cuts = bNot (cuts.any fun x => bNot (decide (-2147483647 ≤ x ∧ x ≤ 2147483647))) from ?_]
      cases ha : cuts.any fun x => bNot (decide (-2147483647 ≤ x ∧ x ≤ 2147483647))
      · refine cutsOk_t ⟨hr2, by omega, fun c hc => ?_⟩
        rw [List.any_eq_false] at ha
        have := ha c hc
        simp [bNot] at this
        exact ⟨by omega, by omega⟩
      · refine cutsOk_f fun hc => ?_
        rw [List.any_eq_true] at ha
        obtain ⟨c, hc1, hc2⟩ := ha
        have := hc.2.2 c hc1
        simp [bNot] at hc2
        unfold decP at this
        omega

theorem spec_CutsOk_spec (cuts : List Int) (hl : cuts.length ≤ 1048576) : FnSpec PR f_spec_CutsOk [aIs cuts] (ab (cutsOk cuts)) [] 0 := by
  refine FnSpec.intro hT p_spec_CutsOk rfl (by kernel_rfl) n_spec_CutsOk rfl ?_
  conv => whnf
  refine tri_loop hT [0, 3] (α := Nat) (fun x => { t := [(0, aIs cuts), (3, ai x)], h := [], n := 0, N := 35 })
    (fun x => x ≤ cuts.length ∧ (∀ (j : Nat) (a b : Int), j + 1 < x → cuts[j]? = some a → cuts[j + 1]? = some b → a < b) ∧ ∀ (j : Nat) (a : Int), j < x → cuts[j]? = some a → decP a) (fun x => cuts.length - x) 0 (by first | ((conv => whnf); done) | ((conv => whnf); rfl)) ⟨Nat.zero_le _, fun j a b h => by omega, fun j a h => by omega⟩ ?_
  intro k ⟨hk, hr, hd⟩
  (conv => whnf)
  refine ifB_i (fun h1 => ?_) (fun h1 => ?_) <;> (conv => whnf) <;> simp only [nInt_eq, Int.natCast_zero, dLen_eL, sLen_eq, nOf_eq, Int.toNat_natCast, nAdd_eq, nSub_eq, dLen_nil, dLen_cons, iLt_t, iLt_f, iLe_t, iLe_f, iEq_t, iEq_f, sEq_t, sEq_f, bNot_t, bNot_f, bAnd_t, bEq_t, bEq_f, Bool.not_eq_true, Bool.not_eq_false, Bool.true_eq_false, Bool.false_eq_true] at h1
  · obtain ⟨x, hx⟩ := get_lt (show k < cuts.length by omega)
    refine tri_conf hT hmix (by kernel_rfl) ?_
    (conv => whnf)
    refine idx_at rfl hx ?_
    (conv => whnf)
    refine ⟨_, _, spec_l6Value_spec x, rfl, ?_⟩
    cases hd1 : decide (-2147483647 ≤ x ∧ x ≤ 2147483647)
    · have hdx : ¬ decP x := by unfold decP; simpa using hd1
      (conv => whnf)
      repeat' (first | (refine And.intro (fun q => ?_) (fun q => ?_) <;> cases q <;> (conv => whnf)) | fail)
      rw [cutsOk_f (fun hc => hdx (hc.2.2 x (List.mem_of_getElem? hx)))]
    · have hdx : decP x := by unfold decP; simpa using hd1
      have hd' : ∀ (j : Nat) (a : Int), j < k + 1 → cuts[j]? = some a → decP a := fun j a hj ha => by
        rcases Nat.lt_or_ge j k with q | q
        · exact hd j a q ha
        · obtain rfl : j = k := by omega
          rw [hx] at ha; cases ha; exact hdx
      (conv => whnf)
      cases k with
      | zero =>
        repeat' (first | (refine And.intro (fun q => ?_) (fun q => ?_) <;> cases q <;> (conv => whnf)) | fail)
        rw [show iLt 0 ((0 : Nat) : Int) = false from rfl]
        repeat' (first | (refine And.intro (fun q => ?_) (fun q => ?_) <;> cases q <;> (conv => whnf)) | fail)
        refine ⟨1, by omega, ⟨by omega, fun j a b h => by omega, hd'⟩, ?_⟩
        ((conv => whnf); simp only [St.mk.injEq, List.cons.injEq, Prod.mk.injEq, AV.c.injEq, AV.agg.injEq, AV.tup.injEq, CV.d.injEq, D.int.injEq, D.bool.injEq, D.str.injEq, D.sl.injEq, Ent.arr.injEq, Ent.box.injEq, true_and, and_true, and_self, nInt_eq, Int.natCast_zero, dLen_eL, sLen_eq])
        show wAdd .i64 ((0 : Nat) : Int) 1 = ((1 : Nat) : Int)
        rw [wAdd64] <;> omega
      | succ i =>
        repeat' (first | (refine And.intro (fun q => ?_) (fun q => ?_) <;> cases q <;> (conv => whnf)) | fail)
        rw [show iLt 0 ((i + 1 : Nat) : Int) = true from decide_eq_true (by omega)]
        obtain ⟨y, hy⟩ := get_lt (show i < cuts.length by omega)
        have e1 : wSub .i64 ((i + 1 : Nat) : Int) 1 = (i : Int) := by rw [wSub64] <;> omega
        repeat' (first | (refine And.intro (fun q => ?_) (fun q => ?_) <;> cases q <;> (conv => whnf)) | fail)
        refine idx_at e1 hy ?_
        (conv => whnf)
        repeat' (first | (refine And.intro (fun q => ?_) (fun q => ?_) <;> cases q <;> (conv => whnf)) | fail)
        refine idx_at rfl hx ?_
        (conv => whnf)
        repeat' (first | (refine And.intro (fun q => ?_) (fun q => ?_) <;> cases q <;> (conv => whnf)) | fail)
        cases h3 : iLe x y
        · simp at h3
          repeat' (first | (refine And.intro (fun q => ?_) (fun q => ?_) <;> cases q <;> (conv => whnf)) | fail)
          refine ⟨i + 1 + 1, by omega, ⟨by omega, fun j a b hj ha hb => ?_, hd'⟩, ?_⟩
          · rcases Nat.lt_or_ge (j + 1) (i + 1) with q | q
            · exact hr j a b q ha hb
            · obtain rfl : j = i := by omega
              rw [hy] at ha; rw [hx] at hb
              cases ha; cases hb
              exact h3
          ((conv => whnf); simp only [St.mk.injEq, List.cons.injEq, Prod.mk.injEq, AV.c.injEq, AV.agg.injEq, AV.tup.injEq, CV.d.injEq, D.int.injEq, D.bool.injEq, D.str.injEq, D.sl.injEq, Ent.arr.injEq, Ent.box.injEq, true_and, and_true, and_self, nInt_eq, Int.natCast_zero, dLen_eL, sLen_eq, wI (show i + 1 < cuts.length by omega) (by omega)])
        · simp at h3
          repeat' (first | (refine And.intro (fun q => ?_) (fun q => ?_) <;> cases q <;> (conv => whnf)) | fail)
          (conv => whnf)
          rw [cutsOk_f (fun hc => by have := hc.1 i y x hy hx; omega)]
  · obtain rfl : k = cuts.length := by omega
    rw [show nInt (dLen (eL cI cuts)) = (cuts.length : Int) by simp]
    (conv => whnf)
    cases h7 : iLe (cuts.length : Int) 7
    · simp at h7
      rw [cutsOk_f (fun hc => by have := hc.2.1; omega)]
    · simp at h7
      rw [cutsOk_t ⟨fun j a b ha hb => hr j a b (by have := (List.getElem?_eq_some_iff.1 hb).1; omega) ha hb, by omega, fun c hc => by
        obtain ⟨j, hj⟩ := List.mem_iff_getElem?.1 hc
        exact hd j c (List.getElem?_eq_some_iff.1 hj).1 hj⟩]

def smG (g : Grd) : Prop := g.cuts.length ≤ 1048576 ∧ g.bins.length ≤ 1048576 ∧ (∀ c ∈ g.cuts, c.length ≤ 1048576) ∧ ∀ b ∈ g.bins, b.length ≤ 1048576
def gridAt (g : Grd) (k : Nat) : Prop := ∀ c b, g.cuts[k]? = some c → g.bins[k]? = some b → cutsP c ∧ b.length = rowsIn g ∧ ∀ x ∈ b, 0 ≤ x ∧ x ≤ (c.length : Int)
def gridP (g : Grd) : Prop := (1 ≤ g.cuts.length ∧ g.cuts.length ≤ 4) ∧ g.bins.length = g.cuts.length ∧ (1 ≤ rowsIn g ∧ rowsIn g ≤ 40) ∧ ∀ k, gridAt g k
noncomputable def gridOk (g : Grd) : Bool := @decide (gridP g) (Classical.propDecidable _)
theorem gridOk_t {g : Grd} (h : gridP g) : gridOk g = true := by unfold gridOk; exact @decide_eq_true _ (Classical.propDecidable _) h
theorem gridOk_f {g : Grd} (h : ¬ gridP g) : gridOk g = false := by unfold gridOk; exact @decide_eq_false _ (Classical.propDecidable _) h
theorem gridOk_iff {g : Grd} : gridOk g = true ↔ gridP g := by
  constructor
  · intro h
    rcases Classical.em (gridP g) with q | q
    · exact q
    · rw [gridOk_f q] at h; cases h
  · exact gridOk_t

theorem impl_GridOk_1_spec (x : Int) (c : List Int) (hl : c.length ≤ 1048576) : FnSpec PR f_impl_GridOk_1 [ai x, .c (.d (.rp [.sl 1 (eL cI c)]))] (ab (bNot (decide (0 ≤ x ∧ x ≤ (c.length : Int))))) [] 0 := by
  refine FnSpec.intro hT p_impl_GridOk_1 rfl (by kernel_rfl) n_impl_GridOk_1 rfl ?_
  conv => whnf
  refine .inl ⟨_, _, _, impl_within_spec _ _ _, rfl, ?_⟩
  (conv => whnf)
  rw [show nInt (dLen (eL cI c)) = (c.length : Int) by simp]
theorem impl_GridOk_spec (g : Grd) (hg : smG g) : FnSpec PR f_impl_GridOk [aG g] (ab (gridOk g)) [] 0 := by
  obtain ⟨z1, z2, z3, z4⟩ := hg
  refine FnSpec.intro hT p_impl_GridOk rfl (by kernel_rfl) n_impl_GridOk rfl ?_
  conv => whnf
  refine .inl ⟨_, _, _, impl_within_spec _ _ _, rfl, ?_⟩
  (conv => whnf)
  rw [show nInt (dLen (eL cIs g.cuts)) = (g.cuts.length : Int) by simp]
  cases h1 : decide (1 ≤ (g.cuts.length : Int) ∧ (g.cuts.length : Int) ≤ 4)
  · (conv => whnf)
    rw [decide_eq_false_iff_not] at h1
    rw [gridOk_f (fun hc => h1 ⟨by have := hc.1; omega, by have := hc.1; omega⟩)]
  rw [decide_eq_true_iff] at h1
  (conv => whnf)
  rw [show nInt (dLen (eL cIs g.bins)) = (g.bins.length : Int) by simp, show nInt (dLen (eL cIs g.cuts)) = (g.cuts.length : Int) by simp]
  cases h2 : iEq (g.bins.length : Int) (g.cuts.length : Int)
  · (conv => whnf)
    rw [gridOk_f (fun hc => by have := hc.2.1; simp at h2; omega)]
  have h2 : g.bins.length = g.cuts.length := by simp at h2; omega
  (conv => whnf)
  refine .inl ⟨_, _, _, impl_RowsIn_spec g, rfl, ?_⟩
  (conv => whnf)
  refine .inl ⟨_, _, _, impl_within_spec _ _ _, rfl, ?_⟩
  (conv => whnf)
  cases h3 : decide (1 ≤ (rowsIn g : Int) ∧ (rowsIn g : Int) ≤ 40)
  · (conv => whnf)
    rw [decide_eq_false_iff_not] at h3
    rw [gridOk_f (fun hc => h3 ⟨by have := hc.2.2.1; omega, by have := hc.2.2.1; omega⟩)]
  rw [decide_eq_true_iff] at h3
  (conv => whnf)
  refine tri_rp 0 ?_
  (conv => whnf)
  refine tri_loop hT [1, 26, 27, 28] (α := Nat) (fun x => { t := [(1, .c (.d (.rp [.sl 1 (eL cIs g.cuts), .sl 1 (eL cIs g.bins)]))), (26, aIss g.cuts), (27, ai (nInt (dLen (eL cIs g.cuts)))), (28, ai x)], h := [], n := 0, N := 57 })
    (fun x => x ≤ g.cuts.length ∧ ∀ j, j < x → gridAt g j) (fun x => g.cuts.length - x) 0 (by first | ((conv => whnf); done) | ((conv => whnf); rfl)) ⟨Nat.zero_le _, fun j h => by omega⟩ ?_
  intro k ⟨hk, hr⟩
  (conv => whnf)
  refine ifB_i (fun h4 => ?_) (fun h4 => ?_) <;> (conv => whnf) <;> simp only [nInt_eq, Int.natCast_zero, dLen_eL, sLen_eq, nOf_eq, Int.toNat_natCast, nAdd_eq, nSub_eq, dLen_nil, dLen_cons, iLt_t, iLt_f, iLe_t, iLe_f, iEq_t, iEq_f, sEq_t, sEq_f, bNot_t, bNot_f, bAnd_t, bEq_t, bEq_f, Bool.not_eq_true, Bool.not_eq_false, Bool.true_eq_false, Bool.false_eq_true] at h4
  · obtain ⟨c, hc⟩ := get_lt (show k < g.cuts.length by omega)
    obtain ⟨b, hb⟩ := get_lt (show k < g.bins.length by omega)
    refine idx_at rfl hc ?_
    (conv => whnf)
    have hcl := z3 c (List.mem_of_getElem? hc)
    have hbl := z4 b (List.mem_of_getElem? hb)
    refine tri_rp 0 ?_
    (conv => whnf)
    refine tri_conf hT hmix (by kernel_rfl) ?_
    (conv => whnf)
    refine ⟨_, _, impl_CutsOk_spec c hcl, rfl, ?_⟩
    cases h5 : cutsOk c
    · (conv => whnf)
      repeat' (first | (refine And.intro (fun q => ?_) (fun q => ?_) <;> cases q <;> (conv => whnf)) | fail)
      rw [gridOk_f (fun hp => by rw [cutsOk_t (hp.2.2.2 k c b hc hb).1] at h5; cases h5)]
    have h5' := cutsOk_iff.1 h5
    (conv => whnf)
    repeat' (first | (refine And.intro (fun q => ?_) (fun q => ?_) <;> cases q <;> (conv => whnf)) | fail)
    refine idx_at rfl hb ?_
    (conv => whnf)
    repeat' (first | (refine And.intro (fun q => ?_) (fun q => ?_) <;> cases q <;> (conv => whnf)) | fail)
    refine ⟨_, _, impl_RowsIn_spec g, rfl, ?_⟩
    (conv => whnf)
    repeat' (first | (refine And.intro (fun q => ?_) (fun q => ?_) <;> cases q <;> (conv => whnf)) | fail)
    rw [show nInt (dLen (eL cI b)) = (b.length : Int) by simp]
    cases h6 : iEq (b.length : Int) (rowsIn g : Int)
    · (conv => whnf)
      repeat' (first | (refine And.intro (fun q => ?_) (fun q => ?_) <;> cases q <;> (conv => whnf)) | fail)
      rw [gridOk_f (fun hp => by have := (hp.2.2.2 k c b hc hb).2.1; simp at h6; omega)]
    have h6' : b.length = rowsIn g := by simp at h6; omega
    (conv => whnf)
    repeat' (first | (refine And.intro (fun q => ?_) (fun q => ?_) <;> cases q <;> (conv => whnf)) | fail)
    refine idx_at rfl hb ?_
    (conv => whnf)
    repeat' (first | (refine And.intro (fun q => ?_) (fun q => ?_) <;> cases q <;> (conv => whnf)) | fail)
    refine ⟨_, _, slices_ContainsFunc_Lint_int_1 b f_impl_GridOk_1 (.rp [.sl 1 (eL cI c)]) (fun x => bNot (decide (0 ≤ x ∧ x ≤ (c.length : Int)))) (fun x _ => impl_GridOk_1_spec x c hcl) (by omega), rfl, ?_⟩
    (conv => whnf)
    repeat' (first | (refine And.intro (fun q => ?_) (fun q => ?_) <;> cases q <;> (conv => whnf)) | fail)
    refine ifB_i (fun h7 => ?_) (fun h7 => ?_) <;> (conv => whnf)
    · rw [gridOk_f (fun hp => ?_)]
      rw [List.any_eq_true] at h7
      obtain ⟨x, hx1, hx2⟩ := h7
      have := (hp.2.2.2 k c b hc hb).2.2 x hx1
      simp [bNot] at hx2
      omega
    · refine ⟨k + 1, by omega, ⟨by omega, fun j hj => ?_⟩, ?_⟩
      · rcases Nat.lt_or_ge j k with q | q
        · exact hr j q
        · obtain rfl : j = k := by omega
          intro c' b' hc' hb'
          rw [hc] at hc'; rw [hb] at hb'
          cases hc'; cases hb'
          refine ⟨h5', h6', fun x hx => ?_⟩
          rw [List.any_eq_false] at h7
          have h7 := h7 x hx
          simp [bNot] at h7
          exact h7
      ((conv => whnf); simp only [St.mk.injEq, List.cons.injEq, Prod.mk.injEq, AV.c.injEq, AV.agg.injEq, AV.tup.injEq, CV.d.injEq, D.int.injEq, D.bool.injEq, D.str.injEq, D.sl.injEq, Ent.arr.injEq, Ent.box.injEq, true_and, and_true, and_self, nInt_eq, Int.natCast_zero, dLen_eL, sLen_eq, wI (show k < g.cuts.length by omega) (by omega)])
  · obtain rfl : k = g.cuts.length := by omega
    rw [gridOk_t ⟨by omega, h2, by omega, fun j => ?_⟩]
    rcases Nat.lt_or_ge j g.cuts.length with q | q
    · exact hr j q
    · intro c b hc
      rw [List.getElem?_eq_none q] at hc
      cases hc

theorem spec_GridOk_spec (g : Grd) (hg : smG g) : FnSpec PR f_spec_GridOk [aG g] (ab (gridOk g)) [] 0 := by
  obtain ⟨z1, z2, z3, z4⟩ := hg
  refine FnSpec.intro hT p_spec_GridOk rfl (by kernel_rfl) n_spec_GridOk rfl ?_
  conv => whnf
  refine .inl ⟨_, _, _, spec_l1In_spec _ _ _, rfl, ?_⟩
  (conv => whnf)
  rw [show nInt (dLen (eL cIs g.cuts)) = (g.cuts.length : Int) by simp]
  cases h1 : decide (1 ≤ (g.cuts.length : Int) ∧ (g.cuts.length : Int) ≤ 4)
  · (conv => whnf)
    rw [decide_eq_false_iff_not] at h1
    rw [gridOk_f (fun hc => h1 ⟨by have := hc.1; omega, by have := hc.1; omega⟩)]
  rw [decide_eq_true_iff] at h1
  (conv => whnf)
  rw [show nInt (dLen (eL cIs g.bins)) = (g.bins.length : Int) by simp, show nInt (dLen (eL cIs g.cuts)) = (g.cuts.length : Int) by simp]
  cases h2 : iEq (g.bins.length : Int) (g.cuts.length : Int)
  · (conv => whnf)
    rw [gridOk_f (fun hc => by have := hc.2.1; simp at h2; omega)]
  have h2 : g.bins.length = g.cuts.length := by simp at h2; omega
  (conv => whnf)
  refine .inl ⟨_, _, _, spec_RowsIn_spec g, rfl, ?_⟩
  (conv => whnf)
  refine .inl ⟨_, _, _, spec_l1In_spec _ _ _, rfl, ?_⟩
  (conv => whnf)
  cases h3 : decide (1 ≤ (rowsIn g : Int) ∧ (rowsIn g : Int) ≤ 40)
  · (conv => whnf)
    rw [decide_eq_false_iff_not] at h3
    rw [gridOk_f (fun hc => h3 ⟨by have := hc.2.2.1; omega, by have := hc.2.2.1; omega⟩)]
  rw [decide_eq_true_iff] at h3
  (conv => whnf)
  refine tri_rp 0 ?_
  (conv => whnf)
  refine tri_loop hT [1, 3] (α := Nat) (fun x => { t := [(1, .c (.d (.rp [.sl 1 (eL cIs g.cuts), .sl 1 (eL cIs g.bins)]))), (3, ai x)], h := [], n := 0, N := 76 })
    (fun x => x ≤ g.cuts.length ∧ ∀ j, j < x → gridAt g j) (fun x => g.cuts.length - x) 0 (by first | ((conv => whnf); done) | ((conv => whnf); rfl)) ⟨Nat.zero_le _, fun j h => by omega⟩ ?_
  intro k ⟨hk, hr⟩
  (conv => whnf)
  rw [show nInt (dLen (eL cIs g.cuts)) = (g.cuts.length : Int) by simp]
  refine ifB_i (fun h4 => ?_) (fun h4 => ?_) <;> (conv => whnf) <;> simp only [nInt_eq, Int.natCast_zero, dLen_eL, sLen_eq, nOf_eq, Int.toNat_natCast, nAdd_eq, nSub_eq, dLen_nil, dLen_cons, iLt_t, iLt_f, iLe_t, iLe_f, iEq_t, iEq_f, sEq_t, sEq_f, bNot_t, bNot_f, bAnd_t, bEq_t, bEq_f, Bool.not_eq_true, Bool.not_eq_false, Bool.true_eq_false, Bool.false_eq_true] at h4
  · obtain ⟨c, hc⟩ := get_lt (show k < g.cuts.length by omega)
    obtain ⟨b, hb⟩ := get_lt (show k < g.bins.length by omega)
    have hcl := z3 c (List.mem_of_getElem? hc)
    have hbl := z4 b (List.mem_of_getElem? hb)
    refine tri_conf hT hmix (by kernel_rfl) ?_
    (conv => whnf)
    refine idx_at rfl hc ?_
    (conv => whnf)
    refine ⟨_, _, spec_CutsOk_spec c hcl, rfl, ?_⟩
    cases h5 : cutsOk c
    · (conv => whnf)
      repeat' (first | (refine And.intro (fun q => ?_) (fun q => ?_) <;> cases q <;> (conv => whnf)) | fail)
      rw [gridOk_f (fun hp => by rw [cutsOk_t (hp.2.2.2 k c b hc hb).1] at h5; cases h5)]
    have h5' := cutsOk_iff.1 h5
    (conv => whnf)
    repeat' (first | (refine And.intro (fun q => ?_) (fun q => ?_) <;> cases q <;> (conv => whnf)) | fail)
    refine idx_at rfl hb ?_
    (conv => whnf)
    repeat' (first | (refine And.intro (fun q => ?_) (fun q => ?_) <;> cases q <;> (conv => whnf)) | fail)
    refine ⟨_, _, spec_RowsIn_spec g, rfl, ?_⟩
    (conv => whnf)
    repeat' (first | (refine And.intro (fun q => ?_) (fun q => ?_) <;> cases q <;> (conv => whnf)) | fail)
    rw [show nInt (dLen (eL cI b)) = (b.length : Int) by simp]
    cases h6 : iEq (b.length : Int) (rowsIn g : Int)
    · (conv => whnf)
      repeat' (first | (refine And.intro (fun q => ?_) (fun q => ?_) <;> cases q <;> (conv => whnf)) | fail)
      rw [gridOk_f (fun hp => by have := (hp.2.2.2 k c b hc hb).2.1; simp at h6; omega)]
    have h6' : b.length = rowsIn g := by simp at h6; omega
    (conv => whnf)
    repeat' (first | (refine And.intro (fun q => ?_) (fun q => ?_) <;> cases q <;> (conv => whnf)) | fail)
    refine tri_loop hT [1, 3, 4] (α := Nat) (fun x => { t := [(1, .c (.d (.rp [.sl 1 (eL cIs g.cuts), .sl 1 (eL cIs g.bins)]))), (3, ai k), (4, ai x)], h := [], n := 0, N := 76 })
      (fun x => x ≤ b.length ∧ ∀ (j : Nat) (y : Int), j < x → b[j]? = some y → 0 ≤ y ∧ y ≤ (c.length : Int)) (fun x => b.length - x) 0 (by first | ((conv => whnf); done) | ((conv => whnf); rfl)) ⟨Nat.zero_le _, fun j y h => by omega⟩ ?_
    intro i ⟨hi, hq⟩
    (conv => whnf)
    refine idx_at rfl hb ?_
    (conv => whnf)
    rw [show nInt (dLen (eL cI b)) = (b.length : Int) by simp]
    refine ifB_i (fun h7 => ?_) (fun h7 => ?_) <;> (conv => whnf) <;> simp only [nInt_eq, Int.natCast_zero, dLen_eL, sLen_eq, nOf_eq, Int.toNat_natCast, nAdd_eq, nSub_eq, dLen_nil, dLen_cons, iLt_t, iLt_f, iLe_t, iLe_f, iEq_t, iEq_f, sEq_t, sEq_f, bNot_t, bNot_f, bAnd_t, bEq_t, bEq_f, Bool.not_eq_true, Bool.not_eq_false, Bool.true_eq_false, Bool.false_eq_true] at h7
    · obtain ⟨y, hy⟩ := get_lt (show i < b.length by omega)
      refine tri_conf hT hmix (by kernel_rfl) ?_
      (conv => whnf)
      refine idx_at rfl hb ?_
      (conv => whnf)
      refine idx_at rfl hy ?_
      (conv => whnf)
      refine idx_at rfl hc ?_
      (conv => whnf)
      refine ⟨_, _, spec_l1In_spec _ _ _, rfl, ?_⟩
      (conv => whnf)
      rw [show nInt (dLen (eL cI c)) = (c.length : Int) by simp]
      cases h8 : decide (0 ≤ y ∧ y ≤ (c.length : Int))
      · (conv => whnf)
        rw [decide_eq_false_iff_not] at h8
        rw [gridOk_f (fun hp => h8 ((hp.2.2.2 k c b hc hb).2.2 y (List.mem_of_getElem? hy)))]
      · rw [decide_eq_true_iff] at h8
        (conv => whnf)
        refine ⟨i + 1, by omega, ⟨by omega, fun j x hj hx => ?_⟩, ?_⟩
        · rcases Nat.lt_or_ge j i with q | q
          · exact hq j x q hx
          · obtain rfl : j = i := by omega
            rw [hy] at hx; cases hx; exact h8
        ((conv => whnf); simp only [St.mk.injEq, List.cons.injEq, Prod.mk.injEq, AV.c.injEq, AV.agg.injEq, AV.tup.injEq, CV.d.injEq, D.int.injEq, D.bool.injEq, D.str.injEq, D.sl.injEq, Ent.arr.injEq, Ent.box.injEq, true_and, and_true, and_self, nInt_eq, Int.natCast_zero, dLen_eL, sLen_eq, wI (show i < b.length by omega) (by omega)])
    · refine ⟨k + 1, by omega, ⟨by omega, fun j hj => ?_⟩, ?_⟩
      · rcases Nat.lt_or_ge j k with q | q
        · exact hr j q
        · obtain rfl : j = k := by omega
          intro c' b' hc' hb'
          rw [hc] at hc'; rw [hb] at hb'
          cases hc'; cases hb'
          refine ⟨h5', h6', fun x hx => ?_⟩
          obtain ⟨j', hj'⟩ := List.mem_iff_getElem?.1 hx
          exact hq j' x (by have := (List.getElem?_eq_some_iff.1 hj').1; omega) hj'
      ((conv => whnf); simp only [St.mk.injEq, List.cons.injEq, Prod.mk.injEq, AV.c.injEq, AV.agg.injEq, AV.tup.injEq, CV.d.injEq, D.int.injEq, D.bool.injEq, D.str.injEq, D.sl.injEq, Ent.arr.injEq, Ent.box.injEq, true_and, and_true, and_self, nInt_eq, Int.natCast_zero, dLen_eL, sLen_eq, wI (show k < g.cuts.length by omega) (by omega)])
  · obtain rfl : k = g.cuts.length := by omega
    rw [gridOk_t ⟨by omega, h2, by omega, fun j => ?_⟩]
    rcases Nat.lt_or_ge j g.cuts.length with q | q
    · exact hr j q
    · intro c b hc
      rw [List.getElem?_eq_none q] at hc
      cases hc

theorem treeOk_shp {t : List Nd} {ft : Int} (h : treeOk t ft = true) : shapeOk t ft = true ∧ 1 ≤ t.length ∧ t.length ≤ 31 := by
  simp only [treeOk, Bool.and_eq_true, decide_eq_true_eq] at h
  exact ⟨h.2.2.1, by omega, by omega⟩
theorem steps_next (t : List Nd) : ∀ (n : Nat) (x : Int) (l : List Int), steps t n x = some l → ∀ (j : Nat) (a b : Int), l[j]? = some a → l[j + 1]? = some b → 0 ≤ up t a ∧ b = up t a
  | 0, x, l, h => by simp [steps] at h
  | n + 1, x, l, h => by
    simp only [steps, Option.map_eq_some_iff] at h
    obtain ⟨r, h1, rfl⟩ := h
    intro j a b ha hb
    split at h1
    · cases h1; simp at hb
    · rename_i hq
      cases j with
      | zero =>
        simp at ha hb
        subst ha
        refine ⟨by omega, ?_⟩
        cases n with
        | zero => simp [steps] at h1
        | succ n =>
          simp only [steps, Option.map_eq_some_iff] at h1
          obtain ⟨r', h2, rfl⟩ := h1
          simpa using hb.symm
      | succ j => exact steps_next t n _ r h1 j a b (by simpa using ha) (by simpa using hb)
theorem way_next {t : List Nd} {ft : Int} (h : shapeOk t ft = true) {x : Int} {i : Nat} {z z' : Int} (hz : (wayL t x)[i]? = some z) (hz' : (wayL t x)[i + 1]? = some z') :
    ∃ (j : Nat) (n : Nd), z = (j : Int) ∧ t[j]? = some n ∧ n.f ≠ -1 ∧ (n.l = z' ∨ n.r = z') := by
  unfold wayL at hz hz'
  split at hz
  · rename_i hx
    rw [if_pos hx] at hz'
    split at hz
    · rename_i l hl
      rw [hl] at hz'
      have hi := (List.getElem?_eq_some_iff.1 hz').1
      rw [List.length_reverse] at hi
      rw [List.getElem?_reverse (by omega)] at hz hz'
      have := steps_next t 32 x l hl (l.length - 1 - (i + 1)) z' z hz' (by rw [show l.length - 1 - (i + 1) + 1 = l.length - 1 - i by omega]; exact hz)
      obtain ⟨j, n, h1, h2, h3, h4, _⟩ := up_at h this.1
      exact ⟨j, n, by rw [this.2, h1], h2, h3, h4⟩
    · cases hz
  · cases hz

theorem allRowsL_len (n : Int) : (allRowsL n).length ≤ 40 := by
  unfold allRowsL
  split
  · simp [upTo]; omega
  · simp
def nrStep (g : Grd) (t : List Nd) (rows : List Int) (z z' : Int) : List Int := match t[z.toNat]? with
  | none => rows
  | some n => match g.cuts[n.f.toNat]?, g.bins[n.f.toNat]? with
    | some c, some b => if n.l = z' then (splitL b rows (binOfL c n.c)).1 else (splitL b rows (binOfL c n.c)).2
    | _, _ => rows
def nrWay (g : Grd) (t : List Nd) : List Int → List Int → List Int
  | rows, z :: z' :: w => nrWay g t (nrStep g t rows z z') (z' :: w)
  | rows, [_] => rows
  | rows, [] => rows
def nodeRowsL (g : Grd) (t : List Nd) (node : Int) : List Int := nrWay g t (allRowsL (rowsIn g)) (wayL t node)
noncomputable def nodeRowsR (g : Grd) (t : List Nd) (node : Int) : List Int := if gridOk g = true ∧ treeOk t g.cuts.length = true ∧ 0 ≤ node ∧ node ≤ (t.length : Int) - 1 then nodeRowsL g t node else []
theorem nrWay_two {g : Grd} {t : List Nd} {rows w : List Int} {i : Nat} {z z' : Int} (h : w[i]? = some z) (h' : w[i + 1]? = some z') : nrWay g t rows (w.drop i) = nrWay g t (nrStep g t rows z z') (w.drop (i + 1)) := by
  rw [drop_at h, drop_at h', nrWay]
theorem nrWay_end {g : Grd} {t : List Nd} {rows w : List Int} {i : Nat} (h : ¬ i + 1 < w.length) : nrWay g t rows (w.drop i) = rows := by
  have : (w.drop i).length ≤ 1 := by simp; omega
  match hd : w.drop i, this with
  | [], _ => rw [nrWay]
  | [x], _ => rw [nrWay]

theorem impl_nodeRows_spec (g : Grd) (t : List Nd) (node : Int) (hg : smG g) (hl : t.length ≤ 1048576) (h1 : gridOk g = true) (h2 : treeOk t g.cuts.length = true) :
    FnSpec PR f_impl_nodeRows [aG g, aT t, ai node] (.c (.ref 0 0 none)) [(0, .arr t_int 1 0 .own (eL cI (nodeRowsL g t node)))] 1 := by
  obtain ⟨z1, z2, z3, z4⟩ := hg
  have hG := gridOk_iff.1 h1
  have hS := (treeOk_shp h2).1
  refine FnSpec.intro hT p_impl_nodeRows rfl (by kernel_rfl) n_impl_nodeRows rfl ?_
  conv => whnf
  refine tri_rp 0 ?_
  (conv => whnf)
  refine tri_rp 1 ?_
  (conv => whnf)
  refine tri_every hT hmix [3, 4, 7, 8] { t := [(3, .c (.d (.rp [.sl 1 (eL cIs g.cuts), .sl 1 (eL cIs g.bins)]))), (4, .c (.d (.rp [.sl 5 (eL cN t)]))), (7, .c (.ref 0 0 none)), (8, .c (.ref 1 0 none))], h := [(0, .arr t_int 1 0 .own (eL cI (allRowsL (rowsIn g)))), (1, .arr t_int 1 0 .own (eL cI (wayL t node)))], n := 2, N := 65 } rfl ?_ ?_
  · repeat' first
      | (refine anyV_one rfl ?_; (conv => whnf))
      | (refine anyV_two rfl ?_ ?_ <;> (conv => whnf))
      | (refine .inl ⟨_, _, _, impl_RowsIn_spec g, rfl, ?_⟩; (conv => whnf))
      | (refine .inl ⟨_, _, _, impl_AllRows_spec _, rfl, ?_⟩; (conv => whnf))
      | (refine .inl ⟨_, _, _, impl_wayTo_spec t node (by omega), rfl, ?_⟩; (conv => whnf))
      | (refine anyV_end rfl ?_; (conv => whnf); first | done | (simp only [partOf_none]; done) | (simp only [partOf_none]; rfl))
  (conv => whnf)
  refine tri_loop hT [3, 4, 7, 8, 9] (α := Nat × List Int) (fun x => { t := [(3, .c (.d (.rp [.sl 1 (eL cIs g.cuts), .sl 1 (eL cIs g.bins)]))), (4, .c (.d (.rp [.sl 5 (eL cN t)]))), (7, .c (.ref 0 0 none)), (8, .c (.ref 1 0 none)), (9, ai x.1)], h := [(0, .arr t_int 1 0 .own (eL cI x.2)), (1, .arr t_int 1 0 .own (eL cI (wayL t node)))], n := 2, N := 65 })
    (fun x => (x.1 + 1 ≤ (wayL t node).length ∨ x.1 = 0) ∧ x.2.length ≤ 1048576 ∧ nrWay g t x.2 ((wayL t node).drop x.1) = nodeRowsL g t node) (fun x => (wayL t node).length - x.1) (0, allRowsL (rowsIn g)) (by first | ((conv => whnf); done) | ((conv => whnf); rfl)) ⟨.inr rfl, by have := allRowsL_len (rowsIn g); dsimp only; omega, rfl⟩ ?_
  intro ⟨k, rs⟩ ⟨hk, hr, hw⟩
  dsimp only at hk hr hw
  have hwl := wayL_len t node
  (conv => whnf)
  rw [show wAdd .i64 (k : Int) 1 = ((k + 1 : Nat) : Int) from by rw [wAdd64] <;> omega]
  refine ifB_i (fun h3 => ?_) (fun h3 => ?_) <;> (conv => whnf) <;> simp only [nInt_eq, Int.natCast_zero, dLen_eL, sLen_eq, nOf_eq, Int.toNat_natCast, nAdd_eq, nSub_eq, dLen_nil, dLen_cons, iLt_t, iLt_f, iLe_t, iLe_f, iEq_t, iEq_f, sEq_t, sEq_f, bNot_t, bNot_f, bAnd_t, bEq_t, bEq_f, Bool.not_eq_true, Bool.not_eq_false, Bool.true_eq_false, Bool.false_eq_true, lenRE_none] at h3
  · obtain ⟨z, hz⟩ := get_lt (show k < (wayL t node).length by omega)
    obtain ⟨z', hz'⟩ := get_lt (show k + 1 < (wayL t node).length by omega)
    obtain ⟨j, n, rfl, hn, hf, hlr⟩ := way_next hS hz hz'
    obtain ⟨k1, k2, k3, k4, k5, k6, k7, k8⟩ := shape_kids hS hn hf
    obtain ⟨c, hc⟩ := get_lt (show n.f.toNat < g.cuts.length by omega)
    obtain ⟨b, hb⟩ := get_lt (show n.f.toNat < g.bins.length by have := hG.2.1; omega)
    have hcl := z3 c (List.mem_of_getElem? hc)
    have hbl := z4 b (List.mem_of_getElem? hb)
    have hfn : n.f = (n.f.toNat : Int) := by omega
    rw [nrWay_two hz hz'] at hw
    have hst : nrStep g t rs (j : Int) z' = if n.l = z' then (splitL b rs (binOfL c n.c)).1 else (splitL b rs (binOfL c n.c)).2 := by simp only [nrStep, Int.toNat_natCast, hn, hc, hb]
    have hsl := splitL_len b rs (binOfL c n.c)
    refine tri_every hT hmix [3, 4, 7, 8, 9, 10] { t := [(3, .c (.d (.rp [.sl 1 (eL cIs g.cuts), .sl 1 (eL cIs g.bins)]))), (4, .c (.d (.rp [.sl 5 (eL cN t)]))), (7, .c (.ref 0 0 none)), (8, .c (.ref 1 0 none)), (9, ai k), (10, .c (.ptr 2 0))], h := [(0, .arr t_int 1 0 .own (eL cI rs)), (1, .arr t_int 1 0 .own (eL cI (wayL t node))), (2, .box t_impl_Node (cNd n))], n := 3, N := 65 } rfl ?_ ?_
    · repeat' first
        | (refine anyV_one rfl ?_; (conv => whnf))
        | (refine anyV_two rfl ?_ ?_ <;> (conv => whnf))
        | (refine anyV_three rfl ?_ ?_ ?_ <;> (conv => whnf))
        | (refine ref_at (k := k) rfl (by first | omega | (simp only [eL_length]; omega) | (simp; omega)) ?_; (conv => whnf))
        | (refine ld_at (by simp) hz ?_; (conv => whnf))
        | (refine idx_at (k := j) rfl hn ?_; (conv => whnf))
        | (refine anyV_end rfl ?_; (conv => whnf); first | done | (simp only [partOf_none]; done) | (simp only [partOf_none]; rfl))
    (conv => whnf)
    refine tri_rp 2 ?_
    (conv => whnf)
    refine tri_every hT hmix [3, 4, 8, 9, 10, 11, 12] { t := [(3, .c (.d (.rp [.sl 1 (eL cIs g.cuts), .sl 1 (eL cIs g.bins)]))), (4, .c (.d (.rp [.sl 5 (eL cN t)]))), (8, .c (.ref 0 0 none)), (9, ai k), (10, .c (.d (.rp (cN n)))), (11, .c (.ref 1 0 none)), (12, .c (.ref 2 0 none))], h := [(0, .arr t_int 1 0 .own (eL cI (wayL t node))), (1, .arr t_int 1 0 .own (eL cI (splitL b rs (binOfL c n.c)).1)), (2, .arr t_int 1 0 .own (eL cI (splitL b rs (binOfL c n.c)).2))], n := 3, N := 65 } rfl ?_ ?_
    · repeat' first
        | (refine anyV_one rfl ?_; (conv => whnf))
        | (refine anyV_two rfl ?_ ?_ <;> (conv => whnf))
        | (refine anyV_three rfl ?_ ?_ ?_ <;> (conv => whnf))
        | (refine idx_at hfn hc ?_; (conv => whnf))
        | (refine idx_at hfn hb ?_; (conv => whnf))
        | (refine .inl ⟨_, _, _, impl_BinOf_spec c n.c hcl, rfl, ?_⟩; (conv => whnf))
        | (refine .inl ⟨_, _, _, impl_SplitRows_spec b rs (binOfL c n.c) hbl hr, rfl, ?_⟩; (conv => whnf))
        | (refine anyV_end rfl ?_; (conv => whnf); first | done | (simp only [partOf_none]; done) | (simp only [partOf_none]; rfl))
    (conv => whnf)
    refine tri_every hT hmix [3, 4, 8, 9, 11, 12, 61] { t := [(3, .c (.d (.rp [.sl 1 (eL cIs g.cuts), .sl 1 (eL cIs g.bins)]))), (4, .c (.d (.rp [.sl 5 (eL cN t)]))), (8, .c (.ref 0 0 none)), (9, ai k), (11, .c (.ref 1 0 none)), (12, .c (.ref 2 0 none)), (61, ab (iEq z' n.l))], h := [(0, .arr t_int 1 0 .own (eL cI (wayL t node))), (1, .arr t_int 1 0 .own (eL cI (splitL b rs (binOfL c n.c)).1)), (2, .arr t_int 1 0 .own (eL cI (splitL b rs (binOfL c n.c)).2))], n := 3, N := 65 } rfl ?_ ?_
    · repeat' first
        | (refine anyV_one rfl ?_; (conv => whnf))
        | (refine anyV_two rfl ?_ ?_ <;> (conv => whnf))
        | (refine anyV_three rfl ?_ ?_ ?_ <;> (conv => whnf))
        | (refine ref_at (k := k + 1) (by rw [wAdd64] <;> omega) (by first | omega | (simp only [eL_length]; omega) | (simp; omega)) ?_; (conv => whnf))
        | (refine ld_at (by first | rfl | (rw [wAdd64] <;> first | omega | (simp <;> omega))) hz' ?_; (conv => whnf))
        | (refine anyV_end rfl ?_; (conv => whnf); first | done | (simp only [partOf_none]; done) | (simp only [partOf_none]; rfl))
    (conv => whnf)
    refine ifB_i (fun h4 => ?_) (fun h4 => ?_) <;> (conv => whnf) <;> simp only [nInt_eq, Int.natCast_zero, dLen_eL, sLen_eq, nOf_eq, Int.toNat_natCast, nAdd_eq, nSub_eq, dLen_nil, dLen_cons, iLt_t, iLt_f, iLe_t, iLe_f, iEq_t, iEq_f, sEq_t, sEq_f, bNot_t, bNot_f, bAnd_t, bEq_t, bEq_f, Bool.not_eq_true, Bool.not_eq_false, Bool.true_eq_false, Bool.false_eq_true] at h4
    · rw [hst, if_pos h4.symm] at hw
      refine ⟨(k + 1, (splitL b rs (binOfL c n.c)).1), by dsimp only; omega, ⟨by dsimp only; omega, by dsimp only; omega, hw⟩, ?_⟩
      ((conv => whnf); simp only [St.mk.injEq, List.cons.injEq, Prod.mk.injEq, AV.c.injEq, AV.agg.injEq, AV.tup.injEq, CV.d.injEq, D.int.injEq, D.bool.injEq, D.str.injEq, D.sl.injEq, Ent.arr.injEq, Ent.box.injEq, true_and, and_true, and_self, nInt_eq, Int.natCast_zero, dLen_eL, sLen_eq, wI (show k < 32 by omega) (by omega), partOf_none])
    · rw [hst, if_neg (fun q => h4 q.symm)] at hw
      refine ⟨(k + 1, (splitL b rs (binOfL c n.c)).2), by dsimp only; omega, ⟨by dsimp only; omega, by dsimp only; omega, hw⟩, ?_⟩
      ((conv => whnf); simp only [St.mk.injEq, List.cons.injEq, Prod.mk.injEq, AV.c.injEq, AV.agg.injEq, AV.tup.injEq, CV.d.injEq, D.int.injEq, D.bool.injEq, D.str.injEq, D.sl.injEq, Ent.arr.injEq, Ent.box.injEq, true_and, and_true, and_self, nInt_eq, Int.natCast_zero, dLen_eL, sLen_eq, wI (show k < 32 by omega) (by omega), partOf_none])
  · rw [nrWay_end (by omega)] at hw
    ((conv => whnf); simp only [St.mk.injEq, List.cons.injEq, Prod.mk.injEq, AV.c.injEq, AV.agg.injEq, AV.tup.injEq, CV.d.injEq, D.int.injEq, D.bool.injEq, D.str.injEq, D.sl.injEq, Ent.arr.injEq, Ent.box.injEq, true_and, and_true, and_self, nInt_eq, Int.natCast_zero, dLen_eL, sLen_eq, hw])

theorem nodeRowsR_no {g : Grd} {t : List Nd} {node : Int} (h : ¬ (gridOk g = true ∧ treeOk t g.cuts.length = true ∧ 0 ≤ node ∧ node ≤ (t.length : Int) - 1)) : nodeRowsR g t node = [] := if_neg h
theorem nodeRowsR_yes {g : Grd} {t : List Nd} {node : Int} (h : gridOk g = true ∧ treeOk t g.cuts.length = true ∧ 0 ≤ node ∧ node ≤ (t.length : Int) - 1) : nodeRowsR g t node = nodeRowsL g t node := if_pos h

theorem impl_NodeRows_spec (g : Grd) (t : List Nd) (node : Int) (hg : smG g) (hl : t.length ≤ 1048576) :
    FnSpec PR f_impl_NodeRows [aG g, aT t, ai node] (.c (.ref 0 0 none)) [(0, .arr t_int 1 0 .own (eL cI (nodeRowsR g t node)))] 1 := by
  have z1 := hg.1
  refine FnSpec.intro hT p_impl_NodeRows rfl (by kernel_rfl) n_impl_NodeRows rfl ?_
  conv => whnf
  refine .inl ⟨_, _, _, impl_GridOk_spec g hg, rfl, ?_⟩
  cases h1 : gridOk g
  · (conv => whnf)
    rw [nodeRowsR_no (fun q => by rw [h1] at q; exact absurd q.1 (by simp)), eL_nil]
  (conv => whnf)
  refine .inl ⟨_, _, _, impl_TreeOk_spec t (nInt (dLen (eL cIs g.cuts))) hl, rfl, ?_⟩
  rw [show nInt (dLen (eL cIs g.cuts)) = (g.cuts.length : Int) by simp]
  cases h2 : treeOk t g.cuts.length
  · (conv => whnf)
    rw [nodeRowsR_no (fun q => by rw [h2] at q; exact absurd q.2.1 (by simp)), eL_nil]
  (conv => whnf)
  refine .inl ⟨_, _, _, impl_within_spec _ _ _, rfl, ?_⟩
  (conv => whnf)
  rw [show wSub .i64 (nInt (dLen (eL cN t))) 1 = (t.length : Int) - 1 from by rw [show nInt (dLen (eL cN t)) = (t.length : Int) by simp, wSub64] <;> omega]
  cases h3 : decide (0 ≤ node ∧ node ≤ (t.length : Int) - 1)
  · (conv => whnf)
    rw [decide_eq_false_iff_not] at h3
    rw [nodeRowsR_no (fun q => h3 q.2.2), eL_nil]
  rw [decide_eq_true_iff] at h3
  rw [nodeRowsR_yes ⟨h1, h2, h3⟩]
  (conv => whnf)
  refine .inl ⟨_, _, _, impl_nodeRows_spec g t node hg hl h1 h2, rfl, ?_⟩
  (conv => whnf)

theorem spec_NodeRows_spec (g : Grd) (t : List Nd) (node : Int) (hg : smG g) (hl : t.length ≤ 1048576) :
    FnSpec PR f_spec_NodeRows [aG g, aT t, ai node] (.c (.ref 0 0 none)) [(0, .arr t_int 1 0 .own (eL cI (nodeRowsR g t node)))] 1 := by
  have hg' := hg
  obtain ⟨z1, z2, z3, z4⟩ := hg
  refine FnSpec.intro hT p_spec_NodeRows rfl (by kernel_rfl) n_spec_NodeRows rfl ?_
  conv => whnf
  refine .inl ⟨_, _, _, spec_GridOk_spec g hg', rfl, ?_⟩
  cases h1 : gridOk g
  · (conv => whnf)
    rw [nodeRowsR_no (fun q => by rw [h1] at q; exact absurd q.1 (by simp)), eL_nil]
  (conv => whnf)
  refine .inl ⟨_, _, _, spec_TreeOk_spec t (nInt (dLen (eL cIs g.cuts))) hl, rfl, ?_⟩
  rw [show nInt (dLen (eL cIs g.cuts)) = (g.cuts.length : Int) by simp]
  cases h2 : treeOk t g.cuts.length
  · (conv => whnf)
    rw [nodeRowsR_no (fun q => by rw [h2] at q; exact absurd q.2.1 (by simp)), eL_nil]
  (conv => whnf)
  refine .inl ⟨_, _, _, spec_l1In_spec _ _ _, rfl, ?_⟩
  (conv => whnf)
  rw [show wSub .i64 (nInt (dLen (eL cN t))) 1 = (t.length : Int) - 1 from by rw [show nInt (dLen (eL cN t)) = (t.length : Int) by simp, wSub64] <;> omega]
  cases h3 : decide (0 ≤ node ∧ node ≤ (t.length : Int) - 1)
  · (conv => whnf)
    rw [decide_eq_false_iff_not] at h3
    rw [nodeRowsR_no (fun q => h3 q.2.2), eL_nil]
  rw [decide_eq_true_iff] at h3
  rw [nodeRowsR_yes ⟨h1, h2, h3⟩]
  have hG := gridOk_iff.1 h1
  have hS := (treeOk_shp h2).1
  (conv => whnf)
  refine .inl ⟨_, _, _, spec_RowsIn_spec g, rfl, ?_⟩
  (conv => whnf)
  refine .inl ⟨_, _, _, spec_AllRows_spec _, rfl, ?_⟩
  (conv => whnf)
  refine .inl ⟨_, _, _, spec_WayTo_spec t node (by omega), rfl, ?_⟩
  (conv => whnf)
  refine tri_rp 0 ?_
  (conv => whnf)
  refine tri_rp 1 ?_
  (conv => whnf)
  refine tri_loop hT [3, 4, 7, 8, 9] (α := Nat × List Int) (fun x => { t := [(3, .c (.d (.rp [.sl 1 (eL cIs g.cuts), .sl 1 (eL cIs g.bins)]))), (4, .c (.d (.rp [.sl 5 (eL cN t)]))), (7, .c (.ref 0 0 none)), (8, .c (.ref 1 0 none)), (9, ai x.1)], h := [(0, .arr t_int 1 0 .own (eL cI x.2)), (1, .arr t_int 1 0 .own (eL cI (wayL t node)))], n := 2, N := 86 })
    (fun x => (x.1 + 1 ≤ (wayL t node).length ∨ x.1 = 0) ∧ x.2.length ≤ 1048576 ∧ nrWay g t x.2 ((wayL t node).drop x.1) = nodeRowsL g t node) (fun x => (wayL t node).length - x.1) (0, allRowsL (rowsIn g)) (by first | ((conv => whnf); done) | ((conv => whnf); rfl)) ⟨.inr rfl, by have := allRowsL_len (rowsIn g); dsimp only; omega, rfl⟩ ?_
  intro ⟨k, rs⟩ ⟨hk, hr, hw⟩
  dsimp only at hk hr hw
  have hwl := wayL_len t node
  (conv => whnf)
  rw [show wAdd .i64 (k : Int) 1 = ((k + 1 : Nat) : Int) from by rw [wAdd64] <;> omega]
  refine ifB_i (fun h3 => ?_) (fun h3 => ?_) <;> (conv => whnf) <;> simp only [nInt_eq, Int.natCast_zero, dLen_eL, sLen_eq, nOf_eq, Int.toNat_natCast, nAdd_eq, nSub_eq, dLen_nil, dLen_cons, iLt_t, iLt_f, iLe_t, iLe_f, iEq_t, iEq_f, sEq_t, sEq_f, bNot_t, bNot_f, bAnd_t, bEq_t, bEq_f, Bool.not_eq_true, Bool.not_eq_false, Bool.true_eq_false, Bool.false_eq_true, lenRE_none] at h3
  · obtain ⟨z, hz⟩ := get_lt (show k < (wayL t node).length by omega)
    obtain ⟨z', hz'⟩ := get_lt (show k + 1 < (wayL t node).length by omega)
    obtain ⟨j, n, rfl, hn, hf, hlr⟩ := way_next hS hz hz'
    obtain ⟨k1, k2, k3, k4, k5, k6, k7, k8⟩ := shape_kids hS hn hf
    obtain ⟨c, hc⟩ := get_lt (show n.f.toNat < g.cuts.length by omega)
    obtain ⟨b, hb⟩ := get_lt (show n.f.toNat < g.bins.length by have := hG.2.1; omega)
    have hcl := z3 c (List.mem_of_getElem? hc)
    have hbl := z4 b (List.mem_of_getElem? hb)
    have hfn : n.f = (n.f.toNat : Int) := by omega
    rw [nrWay_two hz hz'] at hw
    have hst : nrStep g t rs (j : Int) z' = if n.l = z' then (splitL b rs (binOfL c n.c)).1 else (splitL b rs (binOfL c n.c)).2 := by simp only [nrStep, Int.toNat_natCast, hn, hc, hb]
    have hsl := splitL_len b rs (binOfL c n.c)
    refine tri_every hT hmix [3, 4, 7, 8, 9, 10] { t := [(3, .c (.d (.rp [.sl 1 (eL cIs g.cuts), .sl 1 (eL cIs g.bins)]))), (4, .c (.d (.rp [.sl 5 (eL cN t)]))), (7, .c (.ref 0 0 none)), (8, .c (.ref 1 0 none)), (9, ai k), (10, .c (.ptr 2 0))], h := [(0, .arr t_int 1 0 .own (eL cI rs)), (1, .arr t_int 1 0 .own (eL cI (wayL t node))), (2, .box t_impl_Node (cNd n))], n := 3, N := 86 } rfl ?_ ?_
    · repeat' first
        | (refine anyV_one rfl ?_; (conv => whnf))
        | (refine anyV_two rfl ?_ ?_ <;> (conv => whnf))
        | (refine anyV_three rfl ?_ ?_ ?_ <;> (conv => whnf))
        | (refine ref_at (k := k) rfl (by first | omega | (simp only [eL_length]; omega) | (simp; omega)) ?_; (conv => whnf))
        | (refine ld_at (by simp) hz ?_; (conv => whnf))
        | (refine idx_at (k := j) rfl hn ?_; (conv => whnf))
        | (refine anyV_end rfl ?_; (conv => whnf); first | done | (simp only [partOf_none]; done) | (simp only [partOf_none]; rfl))
    (conv => whnf)
    refine tri_rp 2 ?_
    (conv => whnf)
    refine tri_every hT hmix [3, 4, 8, 9, 10, 11, 12] { t := [(3, .c (.d (.rp [.sl 1 (eL cIs g.cuts), .sl 1 (eL cIs g.bins)]))), (4, .c (.d (.rp [.sl 5 (eL cN t)]))), (8, .c (.ref 0 0 none)), (9, ai k), (10, .c (.d (.rp (cN n)))), (11, .c (.ref 1 0 none)), (12, .c (.ref 2 0 none))], h := [(0, .arr t_int 1 0 .own (eL cI (wayL t node))), (1, .arr t_int 1 0 .own (eL cI (splitL b rs (binOfL c n.c)).1)), (2, .arr t_int 1 0 .own (eL cI (splitL b rs (binOfL c n.c)).2))], n := 3, N := 86 } rfl ?_ ?_
    · repeat' first
        | (refine anyV_one rfl ?_; (conv => whnf))
        | (refine anyV_two rfl ?_ ?_ <;> (conv => whnf))
        | (refine anyV_three rfl ?_ ?_ ?_ <;> (conv => whnf))
        | (refine idx_at hfn hc ?_; (conv => whnf))
        | (refine idx_at hfn hb ?_; (conv => whnf))
        | (refine .inl ⟨_, _, _, spec_BinOf_spec c n.c hcl, rfl, ?_⟩; (conv => whnf))
        | (refine .inl ⟨_, _, _, spec_SplitRows_spec b rs (binOfL c n.c) hbl hr, rfl, ?_⟩; (conv => whnf))
        | (refine anyV_end rfl ?_; (conv => whnf); first | done | (simp only [partOf_none]; done) | (simp only [partOf_none]; rfl))
    (conv => whnf)
    refine tri_every hT hmix [3, 4, 7, 8, 9, 11, 83] { t := [(3, .c (.d (.rp [.sl 1 (eL cIs g.cuts), .sl 1 (eL cIs g.bins)]))), (4, .c (.d (.rp [.sl 5 (eL cN t)]))), (7, .c (.ref 0 0 none)), (8, .c (.ref 1 0 none)), (9, ai k), (11, .c (.ref 2 0 none)), (83, ab (iEq n.l z'))], h := [(0, .arr t_int 1 0 .own (eL cI (splitL b rs (binOfL c n.c)).2)), (1, .arr t_int 1 0 .own (eL cI (wayL t node))), (2, .arr t_int 1 0 .own (eL cI (splitL b rs (binOfL c n.c)).1))], n := 3, N := 86 } rfl ?_ ?_
    · repeat' first
        | (refine anyV_one rfl ?_; (conv => whnf))
        | (refine anyV_two rfl ?_ ?_ <;> (conv => whnf))
        | (refine anyV_three rfl ?_ ?_ ?_ <;> (conv => whnf))
        | (refine ref_at (k := k + 1) (by rw [wAdd64] <;> omega) (by first | omega | (simp only [eL_length]; omega) | (simp; omega)) ?_; (conv => whnf))
        | (refine ld_at (by first | rfl | (rw [wAdd64] <;> first | omega | (simp <;> omega))) hz' ?_; (conv => whnf))
        | (refine anyV_end rfl ?_; (conv => whnf); first | done | (simp only [partOf_none]; done) | (simp only [partOf_none]; rfl))
    (conv => whnf)
    refine ifB_i (fun h4 => ?_) (fun h4 => ?_) <;> (conv => whnf) <;> simp only [nInt_eq, Int.natCast_zero, dLen_eL, sLen_eq, nOf_eq, Int.toNat_natCast, nAdd_eq, nSub_eq, dLen_nil, dLen_cons, iLt_t, iLt_f, iLe_t, iLe_f, iEq_t, iEq_f, sEq_t, sEq_f, bNot_t, bNot_f, bAnd_t, bEq_t, bEq_f, Bool.not_eq_true, Bool.not_eq_false, Bool.true_eq_false, Bool.false_eq_true] at h4
    · rw [hst, if_pos h4] at hw
      refine ⟨(k + 1, (splitL b rs (binOfL c n.c)).1), by dsimp only; omega, ⟨by dsimp only; omega, by dsimp only; omega, hw⟩, ?_⟩
      ((conv => whnf); simp only [St.mk.injEq, List.cons.injEq, Prod.mk.injEq, AV.c.injEq, AV.agg.injEq, AV.tup.injEq, CV.d.injEq, D.int.injEq, D.bool.injEq, D.str.injEq, D.sl.injEq, Ent.arr.injEq, Ent.box.injEq, true_and, and_true, and_self, nInt_eq, Int.natCast_zero, dLen_eL, sLen_eq, wI (show k < 32 by omega) (by omega), partOf_none])
    · rw [hst, if_neg h4] at hw
      refine ⟨(k + 1, (splitL b rs (binOfL c n.c)).2), by dsimp only; omega, ⟨by dsimp only; omega, by dsimp only; omega, hw⟩, ?_⟩
      ((conv => whnf); simp only [St.mk.injEq, List.cons.injEq, Prod.mk.injEq, AV.c.injEq, AV.agg.injEq, AV.tup.injEq, CV.d.injEq, D.int.injEq, D.bool.injEq, D.str.injEq, D.sl.injEq, Ent.arr.injEq, Ent.box.injEq, true_and, and_true, and_self, nInt_eq, Int.natCast_zero, dLen_eL, sLen_eq, wI (show k < 32 by omega) (by omega), partOf_none])
  · rw [nrWay_end (by omega)] at hw
    ((conv => whnf); simp only [St.mk.injEq, List.cons.injEq, Prod.mk.injEq, AV.c.injEq, AV.agg.injEq, AV.tup.injEq, CV.d.injEq, D.int.injEq, D.bool.injEq, D.str.injEq, D.sl.injEq, Ent.arr.injEq, Ent.box.injEq, true_and, and_true, and_self, nInt_eq, Int.natCast_zero, dLen_eL, sLen_eq, hw])
end Go.H.S
namespace Go.H.S
open Go Go.Proofs Go.H
attribute [local irreducible] Tri FnSpec FnSpecM FnSpecX FnSpecJ
set_option maxRecDepth 100000
set_option linter.unusedSimpArgs false
set_option linter.unusedVariables false


theorem grid_small2 {g : Grd} (h : costGrid g ≤ 1048576) : smGrid g ∧ smG g ∧ costL List.length g.cuts ≤ 1048576 ∧ costL List.length g.bins ≤ 1048576 := by
  unfold costGrid at h
  have h1 := cost_len List.length g.cuts
  have h2 := cost_len List.length g.bins
  have h5 := cost_costL List.length g.cuts
  have h6 := cost_costL List.length g.bins
  have h3 : ∀ c ∈ g.cuts, c.length ≤ 1048576 := fun c hc => by have := costL_mem List.length hc; omega
  have h4 : ∀ c ∈ g.bins, c.length ≤ 1048576 := fun c hc => by have := costL_mem List.length hc; omega
  exact ⟨⟨⟨by omega, fun c hc => by have := h3 c hc; omega⟩, by omega, fun c hc => by have := h4 c hc; omega⟩, ⟨by omega, by omega, h3, h4⟩, by omega, by omega⟩
theorem nodeRowsR_len (g : Grd) (t : List Nd) (node : Int) : (nodeRowsR g t node).length ≤ 40 := by
  have nr : ∀ rows z z', (nrStep g t rows z z').length ≤ rows.length := fun rows z z' => by
    unfold nrStep
    split
    · exact Nat.le_refl _
    · split
      · split
        · exact List.length_filter_le _ _
        · exact List.length_filter_le _ _
      · exact Nat.le_refl _
  have nw : ∀ (w rows : List Int), (nrWay g t rows w).length ≤ rows.length := by
    intro w
    induction w with
    | nil => intro rows; rw [nrWay]; exact Nat.le_refl _
    | cons z w ih =>
      intro rows
      cases w with
      | nil => rw [nrWay]; exact Nat.le_refl _
      | cons z' w =>
        rw [nrWay]
        have := ih (nrStep g t rows z z')
        have := nr rows z z'
        omega
  unfold nodeRowsR
  split
  · have := nw (wayL t node) (allRowsL (rowsIn g))
    have := allRowsL_len (rowsIn g)
    unfold nodeRowsL
    omega
  · simp
abbrev rpG' (g : Grd) : AV := .c (.d (.rp [.sl 1 (eL cIs g.cuts), .sl 1 (eL cIs g.bins)]))
abbrev rpT' (t : List Nd) : AV := .c (.d (.rp [.sl 5 (eL cN t)]))

set_option maxHeartbeats 4000000 in
theorem law_FnExactNodeRows (g : Grd) (t : List Nd) (node : Int) (hg : okGrid g ∧ rgGrid g) (ht : t.length ≤ 9223372036854775807 ∧ ∀ n ∈ t, rgN n) (_ : i64 node) :
    FnSpec PR f_laws_FnExactNodeRows [aG g, aT t, ai node] (ab true) [] 0 := by
  refine FnSpec.intro hTn p_laws_FnExactNodeRows rfl (by kernel_rfl) n_laws_FnExactNodeRows rfl ?_
  conv => whnf
  refine .inl ⟨_, _, _, szGrid_spec g 1048576 (by omega) (by omega) hg.1, rfl, ?_⟩
  (conv => whnf)
  refine ifB_i (fun h1 => ?_) (fun h1 => ?_) <;> (conv => whnf) <;> simp only [nInt_eq, Int.natCast_zero, dLen_eL, sLen_eq, nOf_eq, Int.toNat_natCast, nAdd_eq, nSub_eq, dLen_nil, dLen_cons, iLt_t, iLt_f, iLe_t, iLe_f, iEq_t, iEq_f, sEq_t, sEq_f, bNot_t, bNot_f, bAnd_t, bEq_t, bEq_f, Bool.not_eq_true, Bool.not_eq_false, Bool.true_eq_false, Bool.false_eq_true] at h1
  rw [show bud 1048576 (costGrid g) = ((1048576 - costGrid g : Nat) : Int) from by have := bud_ok h1; rw [bud_le] <;> omega]
  have hcg := bud_ok h1
  obtain ⟨hsg, hzg, hcc, hcb⟩ := grid_small2 hcg
  refine .inl ⟨_, _, _, szTree_spec t _ (by omega) (by omega) ht.1, rfl, ?_⟩
  (conv => whnf)
  refine ifB_i (fun h3 => ?_) (fun h3 => ?_) <;> (conv => whnf) <;> simp only [nInt_eq, Int.natCast_zero, dLen_eL, sLen_eq, nOf_eq, Int.toNat_natCast, nAdd_eq, nSub_eq, dLen_nil, dLen_cons, iLt_t, iLt_f, iLe_t, iLe_f, iEq_t, iEq_f, sEq_t, sEq_f, bNot_t, bNot_f, bAnd_t, bEq_t, bEq_f, Bool.not_eq_true, Bool.not_eq_false, Bool.true_eq_false, Bool.false_eq_true] at h3
  have hl : t.length ≤ 1048576 := by have := (bud_pos h3).1; unfold costTree at this; omega
  have hsm : smTree t := by unfold smTree; omega
  have hsl := nodeRowsR_len g t node
  have hsp := spec_NodeRows_spec g t node hzg hl
  have him := impl_NodeRows_spec g t node hzg hl
  generalize hss : nodeRowsR g t node = s at *
  refine tri_rp 0 ?_
  (conv => whnf)
  refine tri_rp 1 ?_
  (conv => whnf)
  refine tri_every hTn hmix [2, 3, 4, 8] { t := [(2, ai node), (3, rpG' g), (4, rpT' t), (8, .c (.ref 0 0 none))], h := [(0, .arr t_int 1 0 .own (eL cI s))], n := 1, N := 97 } rfl ?_ ?_
  · repeat' first
      | (refine anyV_one rfl ?_; (conv => whnf))
      | (refine anyV_two rfl ?_ ?_ <;> (conv => whnf))
      | (refine .inl ⟨_, _, _, toGrid_spec g hsg, rfl, ?_⟩; (conv => whnf))
      | (refine .inl ⟨_, _, _, toTree_spec t hsm, rfl, ?_⟩; (conv => whnf))
      | (refine .inl ⟨_, _, _, hsp, rfl, ?_⟩; (conv => whnf))
      | (refine anyV_end rfl ?_; (conv => whnf); first | done | (simp only [partOf_none]; done) | (simp only [partOf_none]; rfl))
  (conv => whnf)
  refine .inl ⟨_, _, _, toGrid_nest g hsg, rfl, ?_⟩
  (conv => whnf)
  refine .inl ⟨_, _, _, toTree_spec t hsm, rfl, ?_⟩
  (conv => whnf)
  refine .inr (.inl ⟨_, _, _, him, rfl, ⟨flat_cI _, trivial⟩, ?_⟩)
  (conv => whnf)
  refine .inr (.inl ⟨_, _, _, eqIntS_spec s (by omega), rfl, trivial, ?_⟩)
  (conv => whnf)
  refine tri_every hTn hmix [2, 3, 4, 8, 9, 10, 11, 48] { t := [(2, ai node), (3, rpG' g), (4, rpT' t), (8, .c (.ref 0 0 none)), (9, .c (.ptr 1 0)), (10, .c (.ptr 4 0)), (11, .c (.ref 6 0 none)), (48, ab (bNot true))], h := [(0, .arr t_int 1 0 .own (eL cI s)), (1, .box t_impl_Grid [.ref 2 0 none, .ref 3 0 none]), (2, .arr t_Lint 1 0 (.nest [t_int]) (eL cIs g.cuts)), (3, .arr t_Lint 1 0 (.nest [t_int]) (eL cIs g.bins)), (4, .box t_impl_Tree [.ref 5 0 none]), (5, .arr t_impl_Node 5 0 .own (eL cN t)), (6, .arr t_int 1 0 .own (eL cI s))], n := 7, N := 97 } rfl ?_ ?_
  · repeat' first
      | (refine anyV_one rfl ?_; (conv => whnf))
      | (refine anyV_two rfl ?_ ?_ <;> (conv => whnf))
      | (refine anyV_end rfl ?_; (conv => whnf); first | done | (simp only [partOf_none]; done) | (simp only [partOf_none]; rfl))
      | (refine .inl ⟨_, _, _, toGrid_spec g hsg, rfl, ?_⟩; (conv => whnf))
      | (refine .inr (.inl ⟨_, _, _, eqGrid_spec g hg.1, rfl, trivial, ?_⟩); (conv => whnf))
  (conv => whnf)
  refine tri_every hTn hmix [2, 3, 4, 8, 9, 10, 11, 53] { t := [(2, ai node), (3, rpG' g), (4, rpT' t), (8, .c (.ref 0 0 none)), (9, .c (.ptr 1 0)), (10, .c (.ptr 4 0)), (11, .c (.ref 6 0 none)), (53, ab (bNot true))], h := [(0, .arr t_int 1 0 .own (eL cI s)), (1, .box t_impl_Grid [.ref 2 0 none, .ref 3 0 none]), (2, .arr t_Lint 1 0 (.nest [t_int]) (eL cIs g.cuts)), (3, .arr t_Lint 1 0 (.nest [t_int]) (eL cIs g.bins)), (4, .box t_impl_Tree [.ref 5 0 none]), (5, .arr t_impl_Node 5 0 .own (eL cN t)), (6, .arr t_int 1 0 .own (eL cI s))], n := 7, N := 97 } rfl ?_ ?_
  · repeat' first
      | (refine anyV_one rfl ?_; (conv => whnf))
      | (refine anyV_two rfl ?_ ?_ <;> (conv => whnf))
      | (refine anyV_end rfl ?_; (conv => whnf); first | done | (simp only [partOf_none]; done) | (simp only [partOf_none]; rfl))
      | (refine .inl ⟨_, _, _, toTree_spec t hsm, rfl, ?_⟩; (conv => whnf))
      | (refine .inr (.inl ⟨_, _, _, eqTree_spec t ht.1, rfl, trivial, ?_⟩); (conv => whnf))
  (conv => whnf)
  refine .inr (.inr (.inr (.inl ⟨[(2, 0), (3, 1)], ?_⟩)))
  (conv => whnf)
  refine ⟨[.agg [.ref 0 0 none, .ref 1 0 none], ai 1], _, ⟨rfl, rfl, rfl⟩, markGrid_lost g hzg.1 hzg.2.1 hcc hcb, ?_⟩
  (conv => whnf)
  obtain ⟨K, hK⟩ : ∃ K : Int, K = 1 + (costL List.length g.cuts : Int) + costL List.length g.bins := ⟨_, rfl⟩
  rw [← hK]
  have hK2 : 0 < K ∧ K ≤ 100000000 := by omega
  refine .inr (.inr (.inr (.inl ⟨[(5, 0)], ?_⟩)))
  (conv => whnf)
  refine ⟨[.agg [.ref 0 0 none], ai K], _, ⟨rfl, rfl, rfl⟩, markTree_lost t K (by omega) (by omega), ?_⟩
  (conv => whnf)
  rw [show iLt (K + 5 * (t.length : Int)) 0 = false by simp; omega]
  (conv => whnf)
  refine .inr (.inl ⟨_, _, _, eqIntS_spec s (by omega), rfl, trivial, ?_⟩)
  (conv => whnf)
  refine .inr (.inr (.inl ⟨6, ?_⟩))
  (conv => whnf)
  refine .inl ⟨_, _, markIntS_spec s 1 (by omega) (by omega), ?_⟩
  (conv => whnf)
  refine .inr (.inl ⟨_, _, _, heldIntS_spec 1 s.length (by omega) (by omega), rfl, trivial, ?_⟩)
  (conv => whnf)
  rw [show iEq (1 + (s.length : Int)) (1 + s.length) = true from decide_eq_true rfl]
  (conv => whnf)
  refine tri_every hTn hmix [8, 11, 13, 15] { t := [(8, .c (.ref 0 0 none)), (11, .c (.ref 1 0 none)), (13, ai (1 + s.length)), (15, .c (.ref 2 0 none))], h := [(0, .arr t_int 1 0 .own (eL cI s)), (1, .arr t_int 1 0 .own (eL cI (marks 1 s.length))), (2, .arr t_int 1 0 .own (eL cI s))], n := 3, N := 97 } rfl ?_ ?_
  · repeat' first
      | (refine anyV_one rfl ?_; (conv => whnf))
      | (refine anyV_two rfl ?_ ?_ <;> (conv => whnf))
      | (refine .inl ⟨_, _, _, toGrid_spec g hsg, rfl, ?_⟩; (conv => whnf))
      | (refine .inl ⟨_, _, _, toTree_spec t hsm, rfl, ?_⟩; (conv => whnf))
      | (refine .inl ⟨_, _, _, him, rfl, ?_⟩; (conv => whnf))
      | (refine anyV_end rfl ?_; (conv => whnf); first | done | (simp only [partOf_none]; done) | (simp only [partOf_none]; rfl))
  (conv => whnf)
  refine .inr (.inl ⟨_, _, _, eqIntS_spec s (by omega), rfl, trivial, ?_⟩)
  (conv => whnf)
  refine .inr (.inl ⟨_, _, _, heldIntS_spec 1 s.length (by omega) (by omega), rfl, trivial, ?_⟩)
  (conv => whnf)
  rw [show iEq (1 + (s.length : Int)) (1 + s.length) = true from decide_eq_true rfl]
  (conv => whnf)
end Go.H.S
