/- Library, part C: nodes, counts, leaves. -/
import Derived.Test.YtpkpedaonmbeiaaLB
namespace Go.H.S
open Go Go.Proofs Go.H
attribute [local irreducible] Tri FnSpec FnSpecM
set_option maxRecDepth 100000
set_option linter.unusedSimpArgs false
set_option linter.unusedVariables false


def usesL (p : Nd → Bool) : List (List Nd) → Nat
  | [] => 0
  | t :: r => t.countP p + usesL p r
def isF (f : Int) (n : Nd) : Bool := decide (n.f ≠ -1) && decide (n.f = f)
theorem countP_le (p : Nd → Bool) (t : List Nd) : t.countP p ≤ t.length := List.countP_le_length
theorem usesL_le (p : Nd → Bool) : ∀ ts : List (List Nd), usesL p ts ≤ costL List.length ts
  | [] => Nat.le_refl _
  | t :: r => by have h1 := usesL_le p r; have h2 := countP_le p t; simp only [usesL, costL]; omega
theorem costL_mem {α : Type} (f : α → Nat) : ∀ {l : List α} {x : α}, x ∈ l → f x ≤ costL f l
  | y :: r, x, h => by
    simp only [costL]
    rcases List.mem_cons.1 h with rfl | h
    · omega
    · have := costL_mem f h; omega
theorem costTree_len : ∀ ts : List (List Nd), costL costTree ts = costL List.length ts
  | [] => rfl
  | t :: r => by simp only [costL, costTree_len r, costTree]


theorem spec_l17Inner_spec (n : Nd) : FnSpec PR f_spec_l17Inner [aN n] (ab (bNot (iEq n.f (-1)))) [] 0 := by
  refine FnSpec.intro hT p_spec_l17Inner rfl (by kernel_rfl) n_spec_l17Inner rfl ?_
  conv => whnf

theorem impl_isLeaf_spec (n : Nd) : FnSpec PR f_impl_isLeaf [aN n] (ab (iEq n.f (-1))) [] 0 := by
  refine FnSpec.intro hT p_impl_isLeaf rfl (by kernel_rfl) n_impl_isLeaf rfl ?_
  conv => whnf

theorem impl_within_spec (x lo hi : Int) : FnSpec PR f_impl_within [ai x, ai lo, ai hi] (ab (decide (lo ≤ x ∧ x ≤ hi))) [] 0 := by
  refine FnSpec.intro hT p_impl_within rfl (by kernel_rfl) n_impl_within rfl ?_
  conv => whnf
  refine ifB_i (fun h => ?_) (fun h => ?_) <;> (conv => whnf) <;> simp only [nInt_eq, Int.natCast_zero, dLen_eL, sLen_eq, nOf_eq, Int.toNat_natCast, nAdd_eq, nSub_eq, dLen_nil, dLen_cons, iLt_t, iLt_f, iLe_t, iLe_f, iEq_t, iEq_f, sEq_t, sEq_f, bNot_t, bNot_f, bAnd_t, bEq_t, bEq_f, Bool.not_eq_true, Bool.not_eq_false, Bool.true_eq_false, Bool.false_eq_true] at h
  · ((conv => whnf); simp only [St.mk.injEq, List.cons.injEq, Prod.mk.injEq, AV.c.injEq, AV.agg.injEq, AV.tup.injEq, CV.d.injEq, D.int.injEq, D.bool.injEq, D.str.injEq, D.sl.injEq, Ent.arr.injEq, Ent.box.injEq, true_and, and_true, and_self, nInt_eq, Int.natCast_zero, dLen_eL, sLen_eq])
    simp [iLe, h]
  · ((conv => whnf); simp only [St.mk.injEq, List.cons.injEq, Prod.mk.injEq, AV.c.injEq, AV.agg.injEq, AV.tup.injEq, CV.d.injEq, D.int.injEq, D.bool.injEq, D.str.injEq, D.sl.injEq, Ent.arr.injEq, Ent.box.injEq, true_and, and_true, and_self, nInt_eq, Int.natCast_zero, dLen_eL, sLen_eq])
    simp
    omega

theorem spec_l1In_spec (x lo hi : Int) : FnSpec PR f_spec_l1In [ai x, ai lo, ai hi] (ab (decide (lo ≤ x ∧ x ≤ hi))) [] 0 := by
  refine FnSpec.intro hT p_spec_l1In rfl (by kernel_rfl) n_spec_l1In rfl ?_
  conv => whnf
  refine ifB_i (fun h => ?_) (fun h => ?_) <;> (conv => whnf) <;> simp only [nInt_eq, Int.natCast_zero, dLen_eL, sLen_eq, nOf_eq, Int.toNat_natCast, nAdd_eq, nSub_eq, dLen_nil, dLen_cons, iLt_t, iLt_f, iLe_t, iLe_f, iEq_t, iEq_f, sEq_t, sEq_f, bNot_t, bNot_f, bAnd_t, bEq_t, bEq_f, Bool.not_eq_true, Bool.not_eq_false, Bool.true_eq_false, Bool.false_eq_true] at h
  · ((conv => whnf); simp only [St.mk.injEq, List.cons.injEq, Prod.mk.injEq, AV.c.injEq, AV.agg.injEq, AV.tup.injEq, CV.d.injEq, D.int.injEq, D.bool.injEq, D.str.injEq, D.sl.injEq, Ent.arr.injEq, Ent.box.injEq, true_and, and_true, and_self, nInt_eq, Int.natCast_zero, dLen_eL, sLen_eq])
    simp [iLe, h]
  · ((conv => whnf); simp only [St.mk.injEq, List.cons.injEq, Prod.mk.injEq, AV.c.injEq, AV.agg.injEq, AV.tup.injEq, CV.d.injEq, D.int.injEq, D.bool.injEq, D.str.injEq, D.sl.injEq, Ent.arr.injEq, Ent.box.injEq, true_and, and_true, and_self, nInt_eq, Int.natCast_zero, dLen_eL, sLen_eq])
    simp
    omega

theorem spec_l1Min_spec (x y : Int) : FnSpec PR f_spec_l1Min [ai x, ai y] (ai (min x y)) [] 0 := by
  refine FnSpec.intro hT p_spec_l1Min rfl (by kernel_rfl) n_spec_l1Min rfl ?_
  conv => whnf
  refine ifB_i (fun h => ?_) (fun h => ?_) <;> (conv => whnf) <;> simp only [nInt_eq, Int.natCast_zero, dLen_eL, sLen_eq, nOf_eq, Int.toNat_natCast, nAdd_eq, nSub_eq, dLen_nil, dLen_cons, iLt_t, iLt_f, iLe_t, iLe_f, iEq_t, iEq_f, sEq_t, sEq_f, bNot_t, bNot_f, bAnd_t, bEq_t, bEq_f, Bool.not_eq_true, Bool.not_eq_false, Bool.true_eq_false, Bool.false_eq_true] at h <;> ((conv => whnf); simp only [St.mk.injEq, List.cons.injEq, Prod.mk.injEq, AV.c.injEq, AV.agg.injEq, AV.tup.injEq, CV.d.injEq, D.int.injEq, D.bool.injEq, D.str.injEq, D.sl.injEq, Ent.arr.injEq, Ent.box.injEq, true_and, and_true, and_self, nInt_eq, Int.natCast_zero, dLen_eL, sLen_eq]) <;> omega

theorem spec_l1Max_spec (x y : Int) : FnSpec PR f_spec_l1Max [ai x, ai y] (ai (max x y)) [] 0 := by
  refine FnSpec.intro hT p_spec_l1Max rfl (by kernel_rfl) n_spec_l1Max rfl ?_
  conv => whnf
  refine ifB_i (fun h => ?_) (fun h => ?_) <;> (conv => whnf) <;> simp only [nInt_eq, Int.natCast_zero, dLen_eL, sLen_eq, nOf_eq, Int.toNat_natCast, nAdd_eq, nSub_eq, dLen_nil, dLen_cons, iLt_t, iLt_f, iLe_t, iLe_f, iEq_t, iEq_f, sEq_t, sEq_f, bNot_t, bNot_f, bAnd_t, bEq_t, bEq_f, Bool.not_eq_true, Bool.not_eq_false, Bool.true_eq_false, Bool.false_eq_true] at h <;> ((conv => whnf); simp only [St.mk.injEq, List.cons.injEq, Prod.mk.injEq, AV.c.injEq, AV.agg.injEq, AV.tup.injEq, CV.d.injEq, D.int.injEq, D.bool.injEq, D.str.injEq, D.sl.injEq, Ent.arr.injEq, Ent.box.injEq, true_and, and_true, and_self, nInt_eq, Int.natCast_zero, dLen_eL, sLen_eq]) <;> omega

theorem spec_NodesIn_spec (m : Mdl) (hm : costL List.length m.trees ≤ 1048576) (hl : m.trees.length ≤ 1048576) : FnSpec PR f_spec_NodesIn [aM m] (ai (costL List.length m.trees)) [] 0 := by
  refine FnSpec.intro hT p_spec_NodesIn rfl (by kernel_rfl) n_spec_NodesIn rfl ?_
  conv => whnf
  refine tri_loop hT [1, 3, 4] (α := Nat × Nat) (fun x => { t := [(1, .c (.ptr 0 0)), (3, ai x.2), (4, ai x.1)], h := [(0, .box t_impl_Model (cM m))], n := 1, N := 22 })
    (fun x => x.1 ≤ m.trees.length ∧ x.2 + costL List.length (m.trees.drop x.1) = costL List.length m.trees) (fun x => m.trees.length - x.1) (0, 0) (by ((conv => whnf); simp only [St.mk.injEq, List.cons.injEq, Prod.mk.injEq, AV.c.injEq, AV.agg.injEq, AV.tup.injEq, CV.d.injEq, D.int.injEq, D.bool.injEq, D.str.injEq, D.sl.injEq, Ent.arr.injEq, Ent.box.injEq, true_and, and_true, and_self, nInt_eq, Int.natCast_zero, dLen_eL, sLen_eq])) ⟨Nat.zero_le _, by simp⟩ ?_
  intro ⟨k, c⟩ ⟨hk, hc⟩
  dsimp only at hk hc
  (conv => whnf)
  refine ifB_i (fun h1 => ?_) (fun h1 => ?_) <;> (conv => whnf) <;> simp at h1
  · obtain ⟨s, hs⟩ := get_lt h1
    refine idx_at (by simp) hs ?_
    (conv => whnf)
    rw [drop_at hs, costL] at hc
    refine ⟨(k + 1, c + s.length), by dsimp only; omega, ⟨h1, by dsimp only; omega⟩, ?_⟩
    ((conv => whnf); simp only [St.mk.injEq, List.cons.injEq, Prod.mk.injEq, AV.c.injEq, AV.agg.injEq, AV.tup.injEq, CV.d.injEq, D.int.injEq, D.bool.injEq, D.str.injEq, D.sl.injEq, Ent.arr.injEq, Ent.box.injEq, true_and, and_true, and_self, nInt_eq, Int.natCast_zero, dLen_eL, sLen_eq, wI h1 (by omega), wAdd64 (show -9223372036854775808 ≤ (c : Int) + s.length by omega) (by omega), Int.natCast_add])
  · obtain rfl : k = m.trees.length := by omega
    simp only [List.drop_length, costL] at hc
    ((conv => whnf); simp only [St.mk.injEq, List.cons.injEq, Prod.mk.injEq, AV.c.injEq, AV.agg.injEq, AV.tup.injEq, CV.d.injEq, D.int.injEq, D.bool.injEq, D.str.injEq, D.sl.injEq, Ent.arr.injEq, Ent.box.injEq, true_and, and_true, and_self, nInt_eq, Int.natCast_zero, dLen_eL, sLen_eq])
    omega

theorem impl_NodesIn_spec (m : Mdl) (hm : costL List.length m.trees ≤ 1048576) (hl : m.trees.length ≤ 1048576) : FnSpec PR f_impl_NodesIn [aM m] (ai (costL List.length m.trees)) [] 0 := by
  refine FnSpec.intro hT p_impl_NodesIn rfl (by kernel_rfl) n_impl_NodesIn rfl ?_
  conv => whnf
  refine tri_loop hT [3, 7, 8, 9] (α := Nat × Nat) (fun x => { t := [(3, ai x.2), (7, aTs m.trees), (8, ai m.trees.length), (9, ai x.1)], h := [], n := 0, N := 20 })
    (fun x => x.1 ≤ m.trees.length ∧ x.2 + costL List.length (m.trees.drop x.1) = costL List.length m.trees) (fun x => m.trees.length - x.1) (0, 0) (by ((conv => whnf); simp only [St.mk.injEq, List.cons.injEq, Prod.mk.injEq, AV.c.injEq, AV.agg.injEq, AV.tup.injEq, CV.d.injEq, D.int.injEq, D.bool.injEq, D.str.injEq, D.sl.injEq, Ent.arr.injEq, Ent.box.injEq, true_and, and_true, and_self, nInt_eq, Int.natCast_zero, dLen_eL, sLen_eq])) ⟨Nat.zero_le _, by simp⟩ ?_
  intro ⟨k, c⟩ ⟨hk, hc⟩
  dsimp only at hk hc
  (conv => whnf)
  refine ifB_i (fun h1 => ?_) (fun h1 => ?_) <;> (conv => whnf) <;> simp at h1
  · obtain ⟨s, hs⟩ := get_lt h1
    refine idx_at (by simp) hs ?_
    (conv => whnf)
    rw [drop_at hs, costL] at hc
    refine ⟨(k + 1, c + s.length), by dsimp only; omega, ⟨h1, by dsimp only; omega⟩, ?_⟩
    ((conv => whnf); simp only [St.mk.injEq, List.cons.injEq, Prod.mk.injEq, AV.c.injEq, AV.agg.injEq, AV.tup.injEq, CV.d.injEq, D.int.injEq, D.bool.injEq, D.str.injEq, D.sl.injEq, Ent.arr.injEq, Ent.box.injEq, true_and, and_true, and_self, nInt_eq, Int.natCast_zero, dLen_eL, sLen_eq, wI h1 (by omega), wAdd64 (show -9223372036854775808 ≤ (c : Int) + s.length by omega) (by omega), Int.natCast_add])
  · obtain rfl : k = m.trees.length := by omega
    simp only [List.drop_length, costL] at hc
    ((conv => whnf); simp only [St.mk.injEq, List.cons.injEq, Prod.mk.injEq, AV.c.injEq, AV.agg.injEq, AV.tup.injEq, CV.d.injEq, D.int.injEq, D.bool.injEq, D.str.injEq, D.sl.injEq, Ent.arr.injEq, Ent.box.injEq, true_and, and_true, and_self, nInt_eq, Int.natCast_zero, dLen_eL, sLen_eq])
    omega

theorem spec_UsesOf_spec (m : Mdl) (f : Int) (hm : costL List.length m.trees ≤ 1048576) (hl : m.trees.length ≤ 1048576) : FnSpec PR f_spec_UsesOf [aM m, ai f] (ai (usesL (isF f) m.trees)) [] 0 := by
  have hu := usesL_le (isF f) m.trees
  refine FnSpec.intro hT p_spec_UsesOf rfl (by kernel_rfl) n_spec_UsesOf rfl ?_
  conv => whnf
  refine tri_loop hT [1, 2, 5, 6] (α := Nat × Nat) (fun x => { t := [(1, ai f), (2, .c (.ptr 0 0)), (5, ai x.2), (6, ai x.1)], h := [(0, .box t_impl_Model (cM m))], n := 1, N := 47 })
    (fun x => x.1 ≤ m.trees.length ∧ x.2 + usesL (isF f) (m.trees.drop x.1) = usesL (isF f) m.trees) (fun x => m.trees.length - x.1) (0, 0) (by ((conv => whnf); simp only [St.mk.injEq, List.cons.injEq, Prod.mk.injEq, AV.c.injEq, AV.agg.injEq, AV.tup.injEq, CV.d.injEq, D.int.injEq, D.bool.injEq, D.str.injEq, D.sl.injEq, Ent.arr.injEq, Ent.box.injEq, true_and, and_true, and_self, nInt_eq, Int.natCast_zero, dLen_eL, sLen_eq])) ⟨Nat.zero_le _, by simp⟩ ?_
  intro ⟨k, c⟩ ⟨hk, hc⟩
  dsimp only at hk hc
  (conv => whnf)
  refine ifB_i (fun h1 => ?_) (fun h1 => ?_) <;> (conv => whnf) <;> simp at h1
  · obtain ⟨s, hs⟩ := get_lt h1
    rw [drop_at hs, usesL] at hc
    have hsl := costL_mem List.length (List.mem_of_getElem? hs)
    refine tri_loop hT [1, 2, 5, 6, 7] (α := Nat × Nat) (fun x => { t := [(1, ai f), (2, .c (.ptr 0 0)), (5, ai x.2), (6, ai k), (7, ai x.1)], h := [(0, .box t_impl_Model (cM m))], n := 1, N := 47 })
      (fun x => x.1 ≤ s.length ∧ x.2 + (s.drop x.1).countP (isF f) = c + s.countP (isF f)) (fun x => s.length - x.1) (0, c) (by ((conv => whnf); simp only [St.mk.injEq, List.cons.injEq, Prod.mk.injEq, AV.c.injEq, AV.agg.injEq, AV.tup.injEq, CV.d.injEq, D.int.injEq, D.bool.injEq, D.str.injEq, D.sl.injEq, Ent.arr.injEq, Ent.box.injEq, true_and, and_true, and_self, nInt_eq, Int.natCast_zero, dLen_eL, sLen_eq])) ⟨Nat.zero_le _, by simp⟩ ?_
    intro ⟨j, d⟩ ⟨hj, hd⟩
    dsimp only at hj hd
    (conv => whnf)
    refine idx_at (by simp) hs ?_
    (conv => whnf)
    refine ifB_i (fun h2 => ?_) (fun h2 => ?_) <;> (conv => whnf) <;> simp at h2
    · obtain ⟨n, hn⟩ := get_lt h2
      refine idx_at (by simp) hs ?_
      (conv => whnf)
      refine idx_at (by simp) hn ?_
      (conv => whnf)
      rw [drop_at hn, List.countP_cons] at hd
      refine ⟨_, _, _, spec_l17Inner_spec n, rfl, ?_⟩
      (conv => whnf)
      refine ifB_i (fun h3 => ?_) (fun h3 => ?_) <;> (conv => whnf)
      all_goals try (refine ifB_i (fun h4 => ?_) (fun h4 => ?_) <;> (conv => whnf))
      all_goals
        first | (have hb : isF f n = true := by simp_all [isF, bNot, iEq]) | (have hb : isF f n = false := by simp_all [isF, bNot, iEq])
        rw [hb] at hd
        simp at hd
        first
        | refine ⟨(j + 1, d + 1), by dsimp only; omega, ⟨h2, by dsimp only; omega⟩, ?_⟩
          ((conv => whnf); simp only [St.mk.injEq, List.cons.injEq, Prod.mk.injEq, AV.c.injEq, AV.agg.injEq, AV.tup.injEq, CV.d.injEq, D.int.injEq, D.bool.injEq, D.str.injEq, D.sl.injEq, Ent.arr.injEq, Ent.box.injEq, true_and, and_true, and_self, nInt_eq, Int.natCast_zero, dLen_eL, sLen_eq, wI h2 (by omega), wAdd64 (show -9223372036854775808 ≤ (d : Int) + 1 by omega) (by omega), Int.natCast_add, Int.cast_ofNat_Int])
          done
        | refine ⟨(j + 1, d), by dsimp only; omega, ⟨h2, by dsimp only; omega⟩, ?_⟩
          ((conv => whnf); simp only [St.mk.injEq, List.cons.injEq, Prod.mk.injEq, AV.c.injEq, AV.agg.injEq, AV.tup.injEq, CV.d.injEq, D.int.injEq, D.bool.injEq, D.str.injEq, D.sl.injEq, Ent.arr.injEq, Ent.box.injEq, true_and, and_true, and_self, nInt_eq, Int.natCast_zero, dLen_eL, sLen_eq, wI h2 (by omega)])
    · obtain rfl : j = s.length := by omega
      simp at hd
      refine ⟨(k + 1, d), by dsimp only; omega, ⟨h1, by dsimp only; omega⟩, ?_⟩
      ((conv => whnf); simp only [St.mk.injEq, List.cons.injEq, Prod.mk.injEq, AV.c.injEq, AV.agg.injEq, AV.tup.injEq, CV.d.injEq, D.int.injEq, D.bool.injEq, D.str.injEq, D.sl.injEq, Ent.arr.injEq, Ent.box.injEq, true_and, and_true, and_self, nInt_eq, Int.natCast_zero, dLen_eL, sLen_eq, wI h1 (by omega)])
  · obtain rfl : k = m.trees.length := by omega
    simp only [List.drop_length, usesL] at hc
    ((conv => whnf); simp only [St.mk.injEq, List.cons.injEq, Prod.mk.injEq, AV.c.injEq, AV.agg.injEq, AV.tup.injEq, CV.d.injEq, D.int.injEq, D.bool.injEq, D.str.injEq, D.sl.injEq, Ent.arr.injEq, Ent.box.injEq, true_and, and_true, and_self, nInt_eq, Int.natCast_zero, dLen_eL, sLen_eq])
    omega

theorem impl_UsesOf_spec (m : Mdl) (f : Int) (hm : costL List.length m.trees ≤ 1048576) (hl : m.trees.length ≤ 1048576) : FnSpec PR f_impl_UsesOf [aM m, ai f] (ai (usesL (isF f) m.trees)) [] 0 := by
  have hu := usesL_le (isF f) m.trees
  refine FnSpec.intro hT p_impl_UsesOf rfl (by kernel_rfl) n_impl_UsesOf rfl ?_
  conv => whnf
  refine tri_loop hT [1, 5, 11, 12, 13] (α := Nat × Nat) (fun x => { t := [(1, ai f), (5, ai x.2), (11, aTs m.trees), (12, ai m.trees.length), (13, ai x.1)], h := [], n := 0, N := 38 })
    (fun x => x.1 ≤ m.trees.length ∧ x.2 + usesL (isF f) (m.trees.drop x.1) = usesL (isF f) m.trees) (fun x => m.trees.length - x.1) (0, 0) (by ((conv => whnf); simp only [St.mk.injEq, List.cons.injEq, Prod.mk.injEq, AV.c.injEq, AV.agg.injEq, AV.tup.injEq, CV.d.injEq, D.int.injEq, D.bool.injEq, D.str.injEq, D.sl.injEq, Ent.arr.injEq, Ent.box.injEq, true_and, and_true, and_self, nInt_eq, Int.natCast_zero, dLen_eL, sLen_eq])) ⟨Nat.zero_le _, by simp⟩ ?_
  intro ⟨k, c⟩ ⟨hk, hc⟩
  dsimp only at hk hc
  (conv => whnf)
  refine ifB_i (fun h1 => ?_) (fun h1 => ?_) <;> (conv => whnf) <;> simp at h1
  · obtain ⟨s, hs⟩ := get_lt h1
    rw [drop_at hs, usesL] at hc
    have hsl := costL_mem List.length (List.mem_of_getElem? hs)
    refine idx_at (by simp) hs ?_
    (conv => whnf)
    refine tri_loop hT [1, 5, 11, 12, 13, 18, 19, 20] (α := Nat × Nat) (fun x => { t := [(1, ai f), (5, ai x.2), (11, aTs m.trees), (12, ai m.trees.length), (13, ai k), (18, aNs s), (19, ai s.length), (20, ai x.1)], h := [], n := 0, N := 38 })
      (fun x => x.1 ≤ s.length ∧ x.2 + (s.drop x.1).countP (isF f) = c + s.countP (isF f)) (fun x => s.length - x.1) (0, c) (by ((conv => whnf); simp only [St.mk.injEq, List.cons.injEq, Prod.mk.injEq, AV.c.injEq, AV.agg.injEq, AV.tup.injEq, CV.d.injEq, D.int.injEq, D.bool.injEq, D.str.injEq, D.sl.injEq, Ent.arr.injEq, Ent.box.injEq, true_and, and_true, and_self, nInt_eq, Int.natCast_zero, dLen_eL, sLen_eq])) ⟨Nat.zero_le _, by simp⟩ ?_
    intro ⟨j, d⟩ ⟨hj, hd⟩
    dsimp only at hj hd
    (conv => whnf)
    refine ifB_i (fun h2 => ?_) (fun h2 => ?_) <;> (conv => whnf) <;> simp at h2
    · obtain ⟨n, hn⟩ := get_lt h2
      refine idx_at (by simp) hn ?_
      (conv => whnf)
      rw [drop_at hn, List.countP_cons] at hd
      refine ⟨_, _, _, impl_isLeaf_spec n, rfl, ?_⟩
      (conv => whnf)
      refine ifB_i (fun h3 => ?_) (fun h3 => ?_) <;> (conv => whnf)
      all_goals try (refine ifB_i (fun h4 => ?_) (fun h4 => ?_) <;> (conv => whnf))
      all_goals
        first | (have hb : isF f n = true := by simp_all [isF, bNot, iEq]) | (have hb : isF f n = false := by simp_all [isF, bNot, iEq])
        rw [hb] at hd
        simp at hd
        first
        | refine ⟨(j + 1, d + 1), by dsimp only; omega, ⟨h2, by dsimp only; omega⟩, ?_⟩
          ((conv => whnf); simp only [St.mk.injEq, List.cons.injEq, Prod.mk.injEq, AV.c.injEq, AV.agg.injEq, AV.tup.injEq, CV.d.injEq, D.int.injEq, D.bool.injEq, D.str.injEq, D.sl.injEq, Ent.arr.injEq, Ent.box.injEq, true_and, and_true, and_self, nInt_eq, Int.natCast_zero, dLen_eL, sLen_eq, wI h2 (by omega), wAdd64 (show -9223372036854775808 ≤ (d : Int) + 1 by omega) (by omega), Int.natCast_add, Int.cast_ofNat_Int])
          done
        | refine ⟨(j + 1, d), by dsimp only; omega, ⟨h2, by dsimp only; omega⟩, ?_⟩
          ((conv => whnf); simp only [St.mk.injEq, List.cons.injEq, Prod.mk.injEq, AV.c.injEq, AV.agg.injEq, AV.tup.injEq, CV.d.injEq, D.int.injEq, D.bool.injEq, D.str.injEq, D.sl.injEq, Ent.arr.injEq, Ent.box.injEq, true_and, and_true, and_self, nInt_eq, Int.natCast_zero, dLen_eL, sLen_eq, wI h2 (by omega)])
    · obtain rfl : j = s.length := by omega
      simp at hd
      refine ⟨(k + 1, d), by dsimp only; omega, ⟨h1, by dsimp only; omega⟩, ?_⟩
      ((conv => whnf); simp only [St.mk.injEq, List.cons.injEq, Prod.mk.injEq, AV.c.injEq, AV.agg.injEq, AV.tup.injEq, CV.d.injEq, D.int.injEq, D.bool.injEq, D.str.injEq, D.sl.injEq, Ent.arr.injEq, Ent.box.injEq, true_and, and_true, and_self, nInt_eq, Int.natCast_zero, dLen_eL, sLen_eq, wI h1 (by omega)])
  · obtain rfl : k = m.trees.length := by omega
    simp only [List.drop_length, usesL] at hc
    ((conv => whnf); simp only [St.mk.injEq, List.cons.injEq, Prod.mk.injEq, AV.c.injEq, AV.agg.injEq, AV.tup.injEq, CV.d.injEq, D.int.injEq, D.bool.injEq, D.str.injEq, D.sl.injEq, Ent.arr.injEq, Ent.box.injEq, true_and, and_true, and_self, nInt_eq, Int.natCast_zero, dLen_eL, sLen_eq])
    omega
end Go.H.S
