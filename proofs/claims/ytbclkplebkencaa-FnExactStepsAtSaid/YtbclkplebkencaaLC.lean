/- Library, part C: nodes, counts, leaves. -/
import Derived.Test.YtbclkplebkencaaLB
namespace Go.H.S
open Go Go.Proofs Go.H
attribute [local irreducible] Tri FnSpec FnSpecM
set_option maxRecDepth 100000
set_option linter.unusedSimpArgs false
set_option linter.unusedVariables false


def usesL (p : Nd → Bool) : List (List Nd) → Nat
  | [] => 0
  | t :: r => t.countP p + usesL p r
def isF (f : Int) (n : Nd) : Bool := decide (n.f ≠ -1) && decide (n.f = f)
theorem countP_le (p : Nd → Bool) (t : List Nd) : t.countP p ≤ t.length := List.countP_le_length
theorem usesL_le (p : Nd → Bool) : ∀ ts : List (List Nd), usesL p ts ≤ costL List.length ts
  | [] => Nat.le_refl _
  | t :: r => by have h1 := usesL_le p r; have h2 := countP_le p t; simp only [usesL, costL]; omega
theorem costL_mem {α : Type} (f : α → Nat) : ∀ {l : List α} {x : α}, x ∈ l → f x ≤ costL f l
  | y :: r, x, h => by
    simp only [costL]
    rcases List.mem_cons.1 h with rfl | h
    · omega
    · have := costL_mem f h; omega
theorem costTree_len : ∀ ts : List (List Nd), costL costTree ts = costL List.length ts
  | [] => rfl
  | t :: r => by simp only [costL, costTree_len r, costTree]


theorem spec_l17Inner_spec (n : Nd) : FnSpec PR f_spec_l17Inner [aN n] (ab (bNot (iEq n.f (-1)))) [] 0 := by
  refine FnSpec.intro hT p_spec_l17Inner rfl (by kernel_rfl) n_spec_l17Inner rfl ?_
  conv => whnf

theorem impl_isLeaf_spec (n : Nd) : FnSpec PR f_impl_isLeaf [aN n] (ab (iEq n.f (-1))) [] 0 := by
  refine FnSpec.intro hT p_impl_isLeaf rfl (by kernel_rfl) n_impl_isLeaf rfl ?_
  conv => whnf

theorem impl_within_spec (x lo hi : Int) : FnSpec PR f_impl_within [ai x, ai lo, ai hi] (ab (decide (lo ≤ x ∧ x ≤ hi))) [] 0 := by
  refine FnSpec.intro hT p_impl_within rfl (by kernel_rfl) n_impl_within rfl ?_
  conv => whnf
  refine ifB_i (fun h => ?_) (fun h => ?_) <;> (conv => whnf) <;> simp only [nInt_eq, Int.natCast_zero, dLen_eL, sLen_eq, nOf_eq, Int.toNat_natCast, nAdd_eq, nSub_eq, dLen_nil, dLen_cons, iLt_t, iLt_f, iLe_t, iLe_f, iEq_t, iEq_f, sEq_t, sEq_f, bNot_t, bNot_f, bAnd_t, bEq_t, bEq_f, Bool.not_eq_true, Bool.not_eq_false, Bool.true_eq_false, Bool.false_eq_true] at h
  · ((conv => whnf); simp only [St.mk.injEq, List.cons.injEq, Prod.mk.injEq, AV.c.injEq, AV.agg.injEq, AV.tup.injEq, CV.d.injEq, D.int.injEq, D.bool.injEq, D.str.injEq, D.sl.injEq, Ent.arr.injEq, Ent.box.injEq, true_and, and_true, and_self, nInt_eq, Int.natCast_zero, dLen_eL, sLen_eq])
    simp [iLe, h]
  · ((conv => whnf); simp only [St.mk.injEq, List.cons.injEq, Prod.mk.injEq, AV.c.injEq, AV.agg.injEq, AV.tup.injEq, CV.d.injEq, D.int.injEq, D.bool.injEq, D.str.injEq, D.sl.injEq, Ent.arr.injEq, Ent.box.injEq, true_and, and_true, and_self, nInt_eq, Int.natCast_zero, dLen_eL, sLen_eq])
    simp
    omega

theorem spec_l1In_spec (x lo hi : Int) : FnSpec PR f_spec_l1In [ai x, ai lo, ai hi] (ab (decide (lo ≤ x ∧ x ≤ hi))) [] 0 := by
  refine FnSpec.intro hT p_spec_l1In rfl (by kernel_rfl) n_spec_l1In rfl ?_
  conv => whnf
  refine ifB_i (fun h => ?_) (fun h => ?_) <;> (conv => whnf) <;> simp only [nInt_eq, Int.natCast_zero, dLen_eL, sLen_eq, nOf_eq, Int.toNat_natCast, nAdd_eq, nSub_eq, dLen_nil, dLen_cons, iLt_t, iLt_f, iLe_t, iLe_f, iEq_t, iEq_f, sEq_t, sEq_f, bNot_t, bNot_f, bAnd_t, bEq_t, bEq_f, Bool.not_eq_true, Bool.not_eq_false, Bool.true_eq_false, Bool.false_eq_true] at h
  · ((conv => whnf); simp only [St.mk.injEq, List.cons.injEq, Prod.mk.injEq, AV.c.injEq, AV.agg.injEq, AV.tup.injEq, CV.d.injEq, D.int.injEq, D.bool.injEq, D.str.injEq, D.sl.injEq, Ent.arr.injEq, Ent.box.injEq, true_and, and_true, and_self, nInt_eq, Int.natCast_zero, dLen_eL, sLen_eq])
    simp [iLe, h]
  · ((conv => whnf); simp only [St.mk.injEq, List.cons.injEq, Prod.mk.injEq, AV.c.injEq, AV.agg.injEq, AV.tup.injEq, CV.d.injEq, D.int.injEq, D.bool.injEq, D.str.injEq, D.sl.injEq, Ent.arr.injEq, Ent.box.injEq, true_and, and_true, and_self, nInt_eq, Int.natCast_zero, dLen_eL, sLen_eq])
    simp
    omega

theorem spec_l1Max_spec (x y : Int) : FnSpec PR f_spec_l1Max [ai x, ai y] (ai (max x y)) [] 0 := by
  refine FnSpec.intro hT p_spec_l1Max rfl (by kernel_rfl) n_spec_l1Max rfl ?_
  conv => whnf
  refine ifB_i (fun h => ?_) (fun h => ?_) <;> (conv => whnf) <;> simp only [nInt_eq, Int.natCast_zero, dLen_eL, sLen_eq, nOf_eq, Int.toNat_natCast, nAdd_eq, nSub_eq, dLen_nil, dLen_cons, iLt_t, iLt_f, iLe_t, iLe_f, iEq_t, iEq_f, sEq_t, sEq_f, bNot_t, bNot_f, bAnd_t, bEq_t, bEq_f, Bool.not_eq_true, Bool.not_eq_false, Bool.true_eq_false, Bool.false_eq_true] at h <;> ((conv => whnf); simp only [St.mk.injEq, List.cons.injEq, Prod.mk.injEq, AV.c.injEq, AV.agg.injEq, AV.tup.injEq, CV.d.injEq, D.int.injEq, D.bool.injEq, D.str.injEq, D.sl.injEq, Ent.arr.injEq, Ent.box.injEq, true_and, and_true, and_self, nInt_eq, Int.natCast_zero, dLen_eL, sLen_eq]) <;> omega
end Go.H.S
