/- Library, part K: equality of rows (printed by gen/eq.py). -/
import Derived.Test.YtpkpedaonmbeiaaLI
namespace Go.H.S
open Go Go.Proofs Go.H
attribute [local irreducible] Tri FnSpec FnSpecM
set_option maxRecDepth 100000
set_option linter.unusedSimpArgs false
set_option linter.unusedVariables false


theorem eq_drop {α : Type} [DecidableEq α] {a b : List α} {k : Nat} {x y : α} (hx : a[k]? = some x) (hy : b[k]? = some y) : decide (a.drop k = b.drop k) = (decide (x = y) && decide (a.drop (k + 1) = b.drop (k + 1))) := by
  rw [drop_at hx, drop_at hy, Bool.eq_iff_iff]
  simp
theorem eq_len {α : Type} [DecidableEq α] {a b : List α} (h : a.length ≠ b.length) : decide (a = b) = false := by
  rw [decide_eq_false_iff_not]
  intro e; rw [e] at h; exact h rfl
theorem eqNd_b (x y : Nd) : bAnd (iEq x.f y.f) (bAnd (iEq x.c y.c) (bAnd (iEq x.l y.l) (bAnd (iEq x.r y.r) (bAnd (iEq x.v y.v) true)))) = decide (x = y) := by
  rw [Bool.eq_iff_iff]
  cases x; cases y
  simp

theorem h0_len {a b : Nat} (h : (a : Int) = b) : a = b := by omega

theorem slices_Equal_Lstring_string_spec (a b : List ByteArray) (ha : a.length ≤ 9223372036854775807) : FnSpec PR f_slices_Equal_Lstring_string [aSs a, aSs b] (ab (decide (a = b))) [] 0 := by
  refine FnSpec.intro hT p_slices_Equal_Lstring_string rfl (by kernel_rfl) n_slices_Equal_Lstring_string rfl ?_
  conv => whnf
  refine ifB_i (fun h0 => ?_) (fun h0 => ?_) <;> (conv => whnf) <;> simp only [nInt_eq, Int.natCast_zero, dLen_eL, sLen_eq, nOf_eq, Int.toNat_natCast, nAdd_eq, nSub_eq, dLen_nil, dLen_cons, iLt_t, iLt_f, iLe_t, iLe_f, iEq_t, iEq_f, sEq_t, sEq_f, bNot_t, bNot_f, bAnd_t, bEq_t, bEq_f, Bool.not_eq_true, Bool.not_eq_false, Bool.true_eq_false, Bool.false_eq_true] at h0
  · rw [eq_len (by omega)]
  refine tri_loop hT [0, 1, 12, 13] (α := Nat) (fun x => { t := [(0, aSs a), (1, aSs b), (12, ai a.length), (13, ai x)], h := [], n := 0, N := 26 })
    (fun x => x ≤ a.length ∧ decide (a.drop x = b.drop x) = decide (a = b)) (fun x => a.length - x) 0 (by ((conv => whnf); simp only [St.mk.injEq, List.cons.injEq, Prod.mk.injEq, AV.c.injEq, AV.agg.injEq, AV.tup.injEq, CV.d.injEq, D.int.injEq, D.bool.injEq, D.str.injEq, D.sl.injEq, Ent.arr.injEq, Ent.box.injEq, true_and, and_true, and_self, nInt_eq, Int.natCast_zero, dLen_eL, sLen_eq])) ⟨Nat.zero_le _, rfl⟩ ?_
  intro k ⟨hk, hi⟩
  (conv => whnf)
  refine ifB_i (fun h1 => ?_) (fun h1 => ?_) <;> (conv => whnf) <;> simp at h1
  · obtain ⟨s, hs⟩ := get_lt h1
    obtain ⟨u, hu⟩ := get_lt (l := b) (k := k) (by omega)
    rw [eq_drop hs hu] at hi
    have ht : sEq s u = decide (s = u) := by rw [Bool.eq_iff_iff]; simp
    refine tri_conf hT hmix (by kernel_rfl) ?_
    (conv => whnf)
    refine idx_at (by simp) hs ?_
    (conv => whnf)
    refine idx_at (by simp) hu ?_
    (conv => whnf)
    refine ifB_i (fun h2 => ?_) (fun h2 => ?_) <;> (conv => whnf)
    · have h3 : decide (s = u) = false := by rw [← ht]; exact (bNot_t _).mp h2
      rw [h3] at hi
      simp only [Bool.false_and] at hi
      rw [← hi]
    · have h3 : decide (s = u) = true := by rw [← ht]; exact (bNot_f _).mp h2
      rw [h3] at hi
      refine ⟨k + 1, by omega, ⟨h1, by rw [← hi, Bool.true_and]⟩, ?_⟩
      ((conv => whnf); simp only [St.mk.injEq, List.cons.injEq, Prod.mk.injEq, AV.c.injEq, AV.agg.injEq, AV.tup.injEq, CV.d.injEq, D.int.injEq, D.bool.injEq, D.str.injEq, D.sl.injEq, Ent.arr.injEq, Ent.box.injEq, true_and, and_true, and_self, nInt_eq, Int.natCast_zero, dLen_eL, sLen_eq, wI h1 ha])
  · obtain rfl : k = a.length := by omega
    have : decide (a.drop a.length = b.drop a.length) = true := by simp [List.drop_of_length_le (show b.length ≤ a.length by omega)]
    rw [this] at hi
    rw [← hi]


theorem slices_Equal_Lint_int_spec (a b : List Int) (ha : a.length ≤ 9223372036854775807) : FnSpec PR f_slices_Equal_Lint_int [aIs a, aIs b] (ab (decide (a = b))) [] 0 := by
  refine FnSpec.intro hT p_slices_Equal_Lint_int rfl (by kernel_rfl) n_slices_Equal_Lint_int rfl ?_
  conv => whnf
  refine ifB_i (fun h0 => ?_) (fun h0 => ?_) <;> (conv => whnf) <;> simp only [nInt_eq, Int.natCast_zero, dLen_eL, sLen_eq, nOf_eq, Int.toNat_natCast, nAdd_eq, nSub_eq, dLen_nil, dLen_cons, iLt_t, iLt_f, iLe_t, iLe_f, iEq_t, iEq_f, sEq_t, sEq_f, bNot_t, bNot_f, bAnd_t, bEq_t, bEq_f, Bool.not_eq_true, Bool.not_eq_false, Bool.true_eq_false, Bool.false_eq_true] at h0
  · rw [eq_len (by omega)]
  refine tri_loop hT [0, 1, 12, 13] (α := Nat) (fun x => { t := [(0, aIs a), (1, aIs b), (12, ai a.length), (13, ai x)], h := [], n := 0, N := 26 })
    (fun x => x ≤ a.length ∧ decide (a.drop x = b.drop x) = decide (a = b)) (fun x => a.length - x) 0 (by ((conv => whnf); simp only [St.mk.injEq, List.cons.injEq, Prod.mk.injEq, AV.c.injEq, AV.agg.injEq, AV.tup.injEq, CV.d.injEq, D.int.injEq, D.bool.injEq, D.str.injEq, D.sl.injEq, Ent.arr.injEq, Ent.box.injEq, true_and, and_true, and_self, nInt_eq, Int.natCast_zero, dLen_eL, sLen_eq])) ⟨Nat.zero_le _, rfl⟩ ?_
  intro k ⟨hk, hi⟩
  (conv => whnf)
  refine ifB_i (fun h1 => ?_) (fun h1 => ?_) <;> (conv => whnf) <;> simp at h1
  · obtain ⟨s, hs⟩ := get_lt h1
    obtain ⟨u, hu⟩ := get_lt (l := b) (k := k) (by omega)
    rw [eq_drop hs hu] at hi
    have ht : iEq s u = decide (s = u) := rfl
    refine tri_conf hT hmix (by kernel_rfl) ?_
    (conv => whnf)
    refine idx_at (by simp) hs ?_
    (conv => whnf)
    refine idx_at (by simp) hu ?_
    (conv => whnf)
    refine ifB_i (fun h2 => ?_) (fun h2 => ?_) <;> (conv => whnf)
    · have h3 : decide (s = u) = false := by rw [← ht]; exact (bNot_t _).mp h2
      rw [h3] at hi
      simp only [Bool.false_and] at hi
      rw [← hi]
    · have h3 : decide (s = u) = true := by rw [← ht]; exact (bNot_f _).mp h2
      rw [h3] at hi
      refine ⟨k + 1, by omega, ⟨h1, by rw [← hi, Bool.true_and]⟩, ?_⟩
      ((conv => whnf); simp only [St.mk.injEq, List.cons.injEq, Prod.mk.injEq, AV.c.injEq, AV.agg.injEq, AV.tup.injEq, CV.d.injEq, D.int.injEq, D.bool.injEq, D.str.injEq, D.sl.injEq, Ent.arr.injEq, Ent.box.injEq, true_and, and_true, and_self, nInt_eq, Int.natCast_zero, dLen_eL, sLen_eq, wI h1 ha])
  · obtain rfl : k = a.length := by omega
    have : decide (a.drop a.length = b.drop a.length) = true := by simp [List.drop_of_length_le (show b.length ≤ a.length by omega)]
    rw [this] at hi
    rw [← hi]


theorem slices_Equal_Limpl_Node_impl_Node_spec (a b : List Nd) (ha : a.length ≤ 9223372036854775807) : FnSpec PR f_slices_Equal_Limpl_Node_impl_Node [aNs a, aNs b] (ab (decide (a = b))) [] 0 := by
  refine FnSpec.intro hT p_slices_Equal_Limpl_Node_impl_Node rfl (by kernel_rfl) n_slices_Equal_Limpl_Node_impl_Node rfl ?_
  conv => whnf
  refine ifB_i (fun h0 => ?_) (fun h0 => ?_) <;> (conv => whnf) <;> simp only [nInt_eq, Int.natCast_zero, dLen_eL, sLen_eq, nOf_eq, Int.toNat_natCast, nAdd_eq, nSub_eq, dLen_nil, dLen_cons, iLt_t, iLt_f, iLe_t, iLe_f, iEq_t, iEq_f, sEq_t, sEq_f, bNot_t, bNot_f, bAnd_t, bEq_t, bEq_f, Bool.not_eq_true, Bool.not_eq_false, Bool.true_eq_false, Bool.false_eq_true] at h0
  · rw [eq_len (by omega)]
  refine tri_loop hT [0, 1, 12, 13] (α := Nat) (fun x => { t := [(0, aNs a), (1, aNs b), (12, ai a.length), (13, ai x)], h := [], n := 0, N := 26 })
    (fun x => x ≤ a.length ∧ decide (a.drop x = b.drop x) = decide (a = b)) (fun x => a.length - x) 0 (by ((conv => whnf); simp only [St.mk.injEq, List.cons.injEq, Prod.mk.injEq, AV.c.injEq, AV.agg.injEq, AV.tup.injEq, CV.d.injEq, D.int.injEq, D.bool.injEq, D.str.injEq, D.sl.injEq, Ent.arr.injEq, Ent.box.injEq, true_and, and_true, and_self, nInt_eq, Int.natCast_zero, dLen_eL, sLen_eq])) ⟨Nat.zero_le _, rfl⟩ ?_
  intro k ⟨hk, hi⟩
  (conv => whnf)
  refine ifB_i (fun h1 => ?_) (fun h1 => ?_) <;> (conv => whnf) <;> simp at h1
  · obtain ⟨s, hs⟩ := get_lt h1
    obtain ⟨u, hu⟩ := get_lt (l := b) (k := k) (by omega)
    rw [eq_drop hs hu] at hi
    have ht := eqNd_b s u
    refine tri_conf hT hmix (by kernel_rfl) ?_
    (conv => whnf)
    refine idx_at (by simp) hs ?_
    (conv => whnf)
    refine idx_at (by simp) hu ?_
    (conv => whnf)
    refine ifB_i (fun h2 => ?_) (fun h2 => ?_) <;> (conv => whnf)
    · have h3 : decide (s = u) = false := by rw [← ht]; exact (bNot_t _).mp h2
      rw [h3] at hi
      simp only [Bool.false_and] at hi
      rw [← hi]
    · have h3 : decide (s = u) = true := by rw [← ht]; exact (bNot_f _).mp h2
      rw [h3] at hi
      refine ⟨k + 1, by omega, ⟨h1, by rw [← hi, Bool.true_and]⟩, ?_⟩
      ((conv => whnf); simp only [St.mk.injEq, List.cons.injEq, Prod.mk.injEq, AV.c.injEq, AV.agg.injEq, AV.tup.injEq, CV.d.injEq, D.int.injEq, D.bool.injEq, D.str.injEq, D.sl.injEq, Ent.arr.injEq, Ent.box.injEq, true_and, and_true, and_self, nInt_eq, Int.natCast_zero, dLen_eL, sLen_eq, wI h1 ha])
  · obtain rfl : k = a.length := by omega
    have : decide (a.drop a.length = b.drop a.length) = true := by simp [List.drop_of_length_le (show b.length ≤ a.length by omega)]
    rw [this] at hi
    rw [← hi]


theorem spec_l8Ints_spec (a b : List Int) (ha : a.length ≤ 9223372036854775807) : FnSpec PR f_spec_l8Ints [aIs a, aIs b] (ab (decide (a = b))) [] 0 := by
  refine FnSpec.intro hT p_spec_l8Ints rfl (by kernel_rfl) n_spec_l8Ints rfl ?_
  conv => whnf
  refine ifB_i (fun h0 => ?_) (fun h0 => ?_) <;> (conv => whnf) <;> simp only [nInt_eq, Int.natCast_zero, dLen_eL, sLen_eq, nOf_eq, Int.toNat_natCast, nAdd_eq, nSub_eq, dLen_nil, dLen_cons, iLt_t, iLt_f, iLe_t, iLe_f, iEq_t, iEq_f, sEq_t, sEq_f, bNot_t, bNot_f, bAnd_t, bEq_t, bEq_f, Bool.not_eq_true, Bool.not_eq_false, Bool.true_eq_false, Bool.false_eq_true] at h0
  · rw [eq_len (by omega)]
  refine tri_loop hT [0, 1, 5] (α := Nat) (fun x => { t := [(0, aIs a), (1, aIs b), (5, ai x)], h := [], n := 0, N := 26 })
    (fun x => x ≤ a.length ∧ decide (a.drop x = b.drop x) = decide (a = b)) (fun x => a.length - x) 0 (by ((conv => whnf); simp only [St.mk.injEq, List.cons.injEq, Prod.mk.injEq, AV.c.injEq, AV.agg.injEq, AV.tup.injEq, CV.d.injEq, D.int.injEq, D.bool.injEq, D.str.injEq, D.sl.injEq, Ent.arr.injEq, Ent.box.injEq, true_and, and_true, and_self, nInt_eq, Int.natCast_zero, dLen_eL, sLen_eq])) ⟨Nat.zero_le _, rfl⟩ ?_
  intro k ⟨hk, hi⟩
  (conv => whnf)
  refine ifB_i (fun h1 => ?_) (fun h1 => ?_) <;> (conv => whnf) <;> simp at h1
  · obtain ⟨s, hs⟩ := get_lt h1
    obtain ⟨u, hu⟩ := get_lt (l := b) (k := k) (by omega)
    rw [eq_drop hs hu] at hi
    have ht : iEq s u = decide (s = u) := rfl
    refine tri_conf hT hmix (by kernel_rfl) ?_
    (conv => whnf)
    refine idx_at (by simp) hs ?_
    (conv => whnf)
    refine idx_at (by simp) hu ?_
    (conv => whnf)
    refine ifB_i (fun h2 => ?_) (fun h2 => ?_) <;> (conv => whnf)
    · have h3 : decide (s = u) = false := by rw [← ht]; exact (bNot_t _).mp h2
      rw [h3] at hi
      simp only [Bool.false_and] at hi
      rw [← hi]
    · have h3 : decide (s = u) = true := by rw [← ht]; exact (bNot_f _).mp h2
      rw [h3] at hi
      refine ⟨k + 1, by omega, ⟨h1, by rw [← hi, Bool.true_and]⟩, ?_⟩
      ((conv => whnf); simp only [St.mk.injEq, List.cons.injEq, Prod.mk.injEq, AV.c.injEq, AV.agg.injEq, AV.tup.injEq, CV.d.injEq, D.int.injEq, D.bool.injEq, D.str.injEq, D.sl.injEq, Ent.arr.injEq, Ent.box.injEq, true_and, and_true, and_self, nInt_eq, Int.natCast_zero, dLen_eL, sLen_eq, wI h1 ha])
  · obtain rfl : k = a.length := by omega
    have : decide (a.drop a.length = b.drop a.length) = true := by simp [List.drop_of_length_le (show b.length ≤ a.length by omega)]
    rw [this] at hi
    rw [← hi]

theorem spec_SameTree_spec (a b : List Nd) (ha : a.length ≤ 9223372036854775807) : FnSpec PR f_spec_SameTree [aT a, aT b] (ab (decide (a = b))) [] 0 := by
  refine FnSpec.intro hT p_spec_SameTree rfl (by kernel_rfl) n_spec_SameTree rfl ?_
  conv => whnf
  refine ifB_i (fun h0 => ?_) (fun h0 => ?_) <;> (conv => whnf) <;> simp only [nInt_eq, Int.natCast_zero, dLen_eL, sLen_eq, nOf_eq, Int.toNat_natCast, nAdd_eq, nSub_eq, dLen_nil, dLen_cons, iLt_t, iLt_f, iLe_t, iLe_f, iEq_t, iEq_f, sEq_t, sEq_f, bNot_t, bNot_f, bAnd_t, bEq_t, bEq_f, Bool.not_eq_true, Bool.not_eq_false, Bool.true_eq_false, Bool.false_eq_true] at h0
  · rw [eq_len (by omega)]
  refine tri_loop hT [2, 3, 5] (α := Nat) (fun x => { t := [(2, .c (.ptr 0 0)), (3, .c (.ptr 1 0)), (5, ai x)], h := [(0, .box t_impl_Tree (cTr a)), (1, .box t_impl_Tree (cTr b))], n := 2, N := 31 })
    (fun x => x ≤ a.length ∧ decide (a.drop x = b.drop x) = decide (a = b)) (fun x => a.length - x) 0 (by ((conv => whnf); simp only [St.mk.injEq, List.cons.injEq, Prod.mk.injEq, AV.c.injEq, AV.agg.injEq, AV.tup.injEq, CV.d.injEq, D.int.injEq, D.bool.injEq, D.str.injEq, D.sl.injEq, Ent.arr.injEq, Ent.box.injEq, true_and, and_true, and_self, nInt_eq, Int.natCast_zero, dLen_eL, sLen_eq])) ⟨Nat.zero_le _, rfl⟩ ?_
  intro k ⟨hk, hi⟩
  (conv => whnf)
  refine ifB_i (fun h1 => ?_) (fun h1 => ?_) <;> (conv => whnf) <;> simp at h1
  · obtain ⟨s, hs⟩ := get_lt h1
    obtain ⟨u, hu⟩ := get_lt (l := b) (k := k) (by omega)
    rw [eq_drop hs hu] at hi
    have ht := eqNd_b s u
    refine tri_conf hT hmix (by kernel_rfl) ?_
    (conv => whnf)
    refine idx_at (by simp) hs ?_
    (conv => whnf)
    refine idx_at (by simp) hu ?_
    (conv => whnf)
    refine ifB_i (fun h2 => ?_) (fun h2 => ?_) <;> (conv => whnf)
    · have h3 : decide (s = u) = false := by rw [← ht]; exact (bNot_t _).mp h2
      rw [h3] at hi
      simp only [Bool.false_and] at hi
      rw [← hi]
    · have h3 : decide (s = u) = true := by rw [← ht]; exact (bNot_f _).mp h2
      rw [h3] at hi
      refine ⟨k + 1, by omega, ⟨h1, by rw [← hi, Bool.true_and]⟩, ?_⟩
      ((conv => whnf); simp only [St.mk.injEq, List.cons.injEq, Prod.mk.injEq, AV.c.injEq, AV.agg.injEq, AV.tup.injEq, CV.d.injEq, D.int.injEq, D.bool.injEq, D.str.injEq, D.sl.injEq, Ent.arr.injEq, Ent.box.injEq, true_and, and_true, and_self, nInt_eq, Int.natCast_zero, dLen_eL, sLen_eq, wI h1 ha])
  · obtain rfl : k = a.length := by omega
    have : decide (a.drop a.length = b.drop a.length) = true := by simp [List.drop_of_length_le (show b.length ≤ a.length by omega)]
    rw [this] at hi
    rw [← hi]

theorem impl_SameTree_spec (a b : List Nd) (ha : a.length ≤ 9223372036854775807) : FnSpec PR f_impl_SameTree [aT a, aT b] (ab (decide (a = b))) [] 0 := by
  refine FnSpec.intro hT p_impl_SameTree rfl (by kernel_rfl) n_impl_SameTree rfl ?_
  conv => whnf
  refine ⟨_, _, _, slices_Equal_Limpl_Node_impl_Node_spec a b ha, rfl, ?_⟩
  (conv => whnf)
end Go.H.S
