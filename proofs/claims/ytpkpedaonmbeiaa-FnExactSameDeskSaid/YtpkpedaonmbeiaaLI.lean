/- Library, part I: searches of the package slices (printed by gen/idx.py). -/
import Derived.Test.YtpkpedaonmbeiaaLF
namespace Go.H.S
open Go Go.Proofs Go.H
attribute [local irreducible] Tri FnSpec FnSpecM
set_option maxRecDepth 100000
set_option linter.unusedSimpArgs false
set_option linter.unusedVariables false


theorem idxL_any {α : Type} (p : α → Bool) : ∀ (l : List α) (k : Nat), (0 ≤ idxL p l k) ↔ l.any p = true
  | [], k => by simp [idxL]
  | y :: r, k => by
    simp only [idxL, List.any_cons]
    have ih := idxL_any p r (k + 1)
    cases h : p y
    · simpa using ih
    · simp


theorem slices_IndexFunc_Limpl_Tree_impl_Tree_0 (xs : List (List Nd)) (g : FuncId) (p : List Nd → Bool) (hp : ∀ x ∈ xs, FnSpec PR g [aT x] (ab (p x)) [] 0) (hl : xs.length ≤ 9223372036854775807) :
    FnSpec PR f_slices_IndexFunc_Limpl_Tree_impl_Tree [aTs xs, .c (.d (.fn g []))] (ai (idxL p xs 0)) [] 0 := by
  refine FnSpec.intro hT p_slices_IndexFunc_Limpl_Tree_impl_Tree rfl (by kernel_rfl) n_slices_IndexFunc_Limpl_Tree_impl_Tree rfl ?_
  conv => whnf
  refine tri_loop hT [0, 1, 7, 8] (α := Nat) (fun k => { t := [(0, aTs xs), (1, .c (.d (.fn g []))), (7, ai xs.length), (8, ai k)], h := [], n := 0, N := 19 })
    (fun k => k ≤ xs.length ∧ idxL p (xs.drop k) k = idxL p xs 0) (fun k => xs.length - k) 0 (by ((conv => whnf); simp only [St.mk.injEq, List.cons.injEq, Prod.mk.injEq, AV.c.injEq, AV.agg.injEq, AV.tup.injEq, CV.d.injEq, D.int.injEq, D.bool.injEq, D.str.injEq, D.sl.injEq, Ent.arr.injEq, Ent.box.injEq, true_and, and_true, and_self, nInt_eq, Int.natCast_zero, dLen_eL, sLen_eq])) ⟨Nat.zero_le _, rfl⟩ ?_
  intro k ⟨hk, hi⟩
  (conv => whnf)
  refine ifB_i (fun h1 => ?_) (fun h1 => ?_) <;> (conv => whnf) <;> simp at h1
  · obtain ⟨s, hs⟩ := get_lt h1
    rw [drop_at hs, idxL] at hi
    refine idx_at (by simp) hs ?_
    (conv => whnf)
    refine ⟨_, _, _, hp s (List.mem_of_getElem? hs), rfl, ?_⟩
    (conv => whnf)
    refine ifB_i (fun h2 => ?_) (fun h2 => ?_) <;> (conv => whnf)
    · rw [if_pos h2] at hi
      ((conv => whnf); simp only [St.mk.injEq, List.cons.injEq, Prod.mk.injEq, AV.c.injEq, AV.agg.injEq, AV.tup.injEq, CV.d.injEq, D.int.injEq, D.bool.injEq, D.str.injEq, D.sl.injEq, Ent.arr.injEq, Ent.box.injEq, true_and, and_true, and_self, nInt_eq, Int.natCast_zero, dLen_eL, sLen_eq, hi])
    · rw [if_neg (by simp [h2])] at hi
      refine ⟨k + 1, by omega, ⟨h1, hi⟩, ?_⟩
      ((conv => whnf); simp only [St.mk.injEq, List.cons.injEq, Prod.mk.injEq, AV.c.injEq, AV.agg.injEq, AV.tup.injEq, CV.d.injEq, D.int.injEq, D.bool.injEq, D.str.injEq, D.sl.injEq, Ent.arr.injEq, Ent.box.injEq, true_and, and_true, and_self, nInt_eq, Int.natCast_zero, dLen_eL, sLen_eq, wI h1 hl])
  · obtain rfl : k = xs.length := by omega
    simp only [List.drop_length, idxL] at hi
    ((conv => whnf); simp only [St.mk.injEq, List.cons.injEq, Prod.mk.injEq, AV.c.injEq, AV.agg.injEq, AV.tup.injEq, CV.d.injEq, D.int.injEq, D.bool.injEq, D.str.injEq, D.sl.injEq, Ent.arr.injEq, Ent.box.injEq, true_and, and_true, and_self, nInt_eq, Int.natCast_zero, dLen_eL, sLen_eq, ← hi])


theorem slices_ContainsFunc_Limpl_Tree_impl_Tree_0 (xs : List (List Nd)) (g : FuncId) (p : List Nd → Bool) (hp : ∀ x ∈ xs, FnSpec PR g [aT x] (ab (p x)) [] 0) (hl : xs.length ≤ 9223372036854775807) :
    FnSpec PR f_slices_ContainsFunc_Limpl_Tree_impl_Tree [aTs xs, .c (.d (.fn g []))] (ab (xs.any p)) [] 0 := by
  refine FnSpec.intro hT p_slices_ContainsFunc_Limpl_Tree_impl_Tree rfl (by kernel_rfl) n_slices_ContainsFunc_Limpl_Tree_impl_Tree rfl ?_
  conv => whnf
  refine ⟨_, _, _, slices_IndexFunc_Limpl_Tree_impl_Tree_0 xs g  p hp hl, rfl, ?_⟩
  (conv => whnf)
  have h := idxL_any p xs 0
  cases hb : xs.any p
  · rw [hb] at h
    ((conv => whnf); simp only [St.mk.injEq, List.cons.injEq, Prod.mk.injEq, AV.c.injEq, AV.agg.injEq, AV.tup.injEq, CV.d.injEq, D.int.injEq, D.bool.injEq, D.str.injEq, D.sl.injEq, Ent.arr.injEq, Ent.box.injEq, true_and, and_true, and_self, nInt_eq, Int.natCast_zero, dLen_eL, sLen_eq, iLe])
    simpa using h
  · rw [hb] at h
    ((conv => whnf); simp only [St.mk.injEq, List.cons.injEq, Prod.mk.injEq, AV.c.injEq, AV.agg.injEq, AV.tup.injEq, CV.d.injEq, D.int.injEq, D.bool.injEq, D.str.injEq, D.sl.injEq, Ent.arr.injEq, Ent.box.injEq, true_and, and_true, and_self, nInt_eq, Int.natCast_zero, dLen_eL, sLen_eq, iLe])
    simpa using h


theorem slices_IndexFunc_Limpl_Tree_impl_Tree_1 (xs : List (List Nd)) (g : FuncId) (d0 : D) (p : List Nd → Bool) (hp : ∀ x ∈ xs, FnSpec PR g [aT x, .c (.d d0)] (ab (p x)) [] 0) (hl : xs.length ≤ 9223372036854775807) :
    FnSpec PR f_slices_IndexFunc_Limpl_Tree_impl_Tree [aTs xs, .c (.d (.fn g [d0]))] (ai (idxL p xs 0)) [] 0 := by
  refine FnSpec.intro hT p_slices_IndexFunc_Limpl_Tree_impl_Tree rfl (by kernel_rfl) n_slices_IndexFunc_Limpl_Tree_impl_Tree rfl ?_
  conv => whnf
  refine tri_loop hT [0, 1, 7, 8] (α := Nat) (fun k => { t := [(0, aTs xs), (1, .c (.d (.fn g [d0]))), (7, ai xs.length), (8, ai k)], h := [], n := 0, N := 19 })
    (fun k => k ≤ xs.length ∧ idxL p (xs.drop k) k = idxL p xs 0) (fun k => xs.length - k) 0 (by ((conv => whnf); simp only [St.mk.injEq, List.cons.injEq, Prod.mk.injEq, AV.c.injEq, AV.agg.injEq, AV.tup.injEq, CV.d.injEq, D.int.injEq, D.bool.injEq, D.str.injEq, D.sl.injEq, Ent.arr.injEq, Ent.box.injEq, true_and, and_true, and_self, nInt_eq, Int.natCast_zero, dLen_eL, sLen_eq])) ⟨Nat.zero_le _, rfl⟩ ?_
  intro k ⟨hk, hi⟩
  (conv => whnf)
  refine ifB_i (fun h1 => ?_) (fun h1 => ?_) <;> (conv => whnf) <;> simp at h1
  · obtain ⟨s, hs⟩ := get_lt h1
    rw [drop_at hs, idxL] at hi
    refine idx_at (by simp) hs ?_
    (conv => whnf)
    refine ⟨_, _, _, hp s (List.mem_of_getElem? hs), rfl, ?_⟩
    (conv => whnf)
    refine ifB_i (fun h2 => ?_) (fun h2 => ?_) <;> (conv => whnf)
    · rw [if_pos h2] at hi
      ((conv => whnf); simp only [St.mk.injEq, List.cons.injEq, Prod.mk.injEq, AV.c.injEq, AV.agg.injEq, AV.tup.injEq, CV.d.injEq, D.int.injEq, D.bool.injEq, D.str.injEq, D.sl.injEq, Ent.arr.injEq, Ent.box.injEq, true_and, and_true, and_self, nInt_eq, Int.natCast_zero, dLen_eL, sLen_eq, hi])
    · rw [if_neg (by simp [h2])] at hi
      refine ⟨k + 1, by omega, ⟨h1, hi⟩, ?_⟩
      ((conv => whnf); simp only [St.mk.injEq, List.cons.injEq, Prod.mk.injEq, AV.c.injEq, AV.agg.injEq, AV.tup.injEq, CV.d.injEq, D.int.injEq, D.bool.injEq, D.str.injEq, D.sl.injEq, Ent.arr.injEq, Ent.box.injEq, true_and, and_true, and_self, nInt_eq, Int.natCast_zero, dLen_eL, sLen_eq, wI h1 hl])
  · obtain rfl : k = xs.length := by omega
    simp only [List.drop_length, idxL] at hi
    ((conv => whnf); simp only [St.mk.injEq, List.cons.injEq, Prod.mk.injEq, AV.c.injEq, AV.agg.injEq, AV.tup.injEq, CV.d.injEq, D.int.injEq, D.bool.injEq, D.str.injEq, D.sl.injEq, Ent.arr.injEq, Ent.box.injEq, true_and, and_true, and_self, nInt_eq, Int.natCast_zero, dLen_eL, sLen_eq, ← hi])


theorem slices_ContainsFunc_Limpl_Tree_impl_Tree_1 (xs : List (List Nd)) (g : FuncId) (d0 : D) (p : List Nd → Bool) (hp : ∀ x ∈ xs, FnSpec PR g [aT x, .c (.d d0)] (ab (p x)) [] 0) (hl : xs.length ≤ 9223372036854775807) :
    FnSpec PR f_slices_ContainsFunc_Limpl_Tree_impl_Tree [aTs xs, .c (.d (.fn g [d0]))] (ab (xs.any p)) [] 0 := by
  refine FnSpec.intro hT p_slices_ContainsFunc_Limpl_Tree_impl_Tree rfl (by kernel_rfl) n_slices_ContainsFunc_Limpl_Tree_impl_Tree rfl ?_
  conv => whnf
  refine ⟨_, _, _, slices_IndexFunc_Limpl_Tree_impl_Tree_1 xs g d0 p hp hl, rfl, ?_⟩
  (conv => whnf)
  have h := idxL_any p xs 0
  cases hb : xs.any p
  · rw [hb] at h
    ((conv => whnf); simp only [St.mk.injEq, List.cons.injEq, Prod.mk.injEq, AV.c.injEq, AV.agg.injEq, AV.tup.injEq, CV.d.injEq, D.int.injEq, D.bool.injEq, D.str.injEq, D.sl.injEq, Ent.arr.injEq, Ent.box.injEq, true_and, and_true, and_self, nInt_eq, Int.natCast_zero, dLen_eL, sLen_eq, iLe])
    simpa using h
  · rw [hb] at h
    ((conv => whnf); simp only [St.mk.injEq, List.cons.injEq, Prod.mk.injEq, AV.c.injEq, AV.agg.injEq, AV.tup.injEq, CV.d.injEq, D.int.injEq, D.bool.injEq, D.str.injEq, D.sl.injEq, Ent.arr.injEq, Ent.box.injEq, true_and, and_true, and_self, nInt_eq, Int.natCast_zero, dLen_eL, sLen_eq, iLe])
    simpa using h


theorem slices_IndexFunc_Limpl_Tree_impl_Tree_2 (xs : List (List Nd)) (g : FuncId) (d0 d1 : D) (p : List Nd → Bool) (hp : ∀ x ∈ xs, FnSpec PR g [aT x, .c (.d d0), .c (.d d1)] (ab (p x)) [] 0) (hl : xs.length ≤ 9223372036854775807) :
    FnSpec PR f_slices_IndexFunc_Limpl_Tree_impl_Tree [aTs xs, .c (.d (.fn g [d0, d1]))] (ai (idxL p xs 0)) [] 0 := by
  refine FnSpec.intro hT p_slices_IndexFunc_Limpl_Tree_impl_Tree rfl (by kernel_rfl) n_slices_IndexFunc_Limpl_Tree_impl_Tree rfl ?_
  conv => whnf
  refine tri_loop hT [0, 1, 7, 8] (α := Nat) (fun k => { t := [(0, aTs xs), (1, .c (.d (.fn g [d0, d1]))), (7, ai xs.length), (8, ai k)], h := [], n := 0, N := 19 })
    (fun k => k ≤ xs.length ∧ idxL p (xs.drop k) k = idxL p xs 0) (fun k => xs.length - k) 0 (by ((conv => whnf); simp only [St.mk.injEq, List.cons.injEq, Prod.mk.injEq, AV.c.injEq, AV.agg.injEq, AV.tup.injEq, CV.d.injEq, D.int.injEq, D.bool.injEq, D.str.injEq, D.sl.injEq, Ent.arr.injEq, Ent.box.injEq, true_and, and_true, and_self, nInt_eq, Int.natCast_zero, dLen_eL, sLen_eq])) ⟨Nat.zero_le _, rfl⟩ ?_
  intro k ⟨hk, hi⟩
  (conv => whnf)
  refine ifB_i (fun h1 => ?_) (fun h1 => ?_) <;> (conv => whnf) <;> simp at h1
  · obtain ⟨s, hs⟩ := get_lt h1
    rw [drop_at hs, idxL] at hi
    refine idx_at (by simp) hs ?_
    (conv => whnf)
    refine ⟨_, _, _, hp s (List.mem_of_getElem? hs), rfl, ?_⟩
    (conv => whnf)
    refine ifB_i (fun h2 => ?_) (fun h2 => ?_) <;> (conv => whnf)
    · rw [if_pos h2] at hi
      ((conv => whnf); simp only [St.mk.injEq, List.cons.injEq, Prod.mk.injEq, AV.c.injEq, AV.agg.injEq, AV.tup.injEq, CV.d.injEq, D.int.injEq, D.bool.injEq, D.str.injEq, D.sl.injEq, Ent.arr.injEq, Ent.box.injEq, true_and, and_true, and_self, nInt_eq, Int.natCast_zero, dLen_eL, sLen_eq, hi])
    · rw [if_neg (by simp [h2])] at hi
      refine ⟨k + 1, by omega, ⟨h1, hi⟩, ?_⟩
      ((conv => whnf); simp only [St.mk.injEq, List.cons.injEq, Prod.mk.injEq, AV.c.injEq, AV.agg.injEq, AV.tup.injEq, CV.d.injEq, D.int.injEq, D.bool.injEq, D.str.injEq, D.sl.injEq, Ent.arr.injEq, Ent.box.injEq, true_and, and_true, and_self, nInt_eq, Int.natCast_zero, dLen_eL, sLen_eq, wI h1 hl])
  · obtain rfl : k = xs.length := by omega
    simp only [List.drop_length, idxL] at hi
    ((conv => whnf); simp only [St.mk.injEq, List.cons.injEq, Prod.mk.injEq, AV.c.injEq, AV.agg.injEq, AV.tup.injEq, CV.d.injEq, D.int.injEq, D.bool.injEq, D.str.injEq, D.sl.injEq, Ent.arr.injEq, Ent.box.injEq, true_and, and_true, and_self, nInt_eq, Int.natCast_zero, dLen_eL, sLen_eq, ← hi])


theorem slices_ContainsFunc_Limpl_Tree_impl_Tree_2 (xs : List (List Nd)) (g : FuncId) (d0 d1 : D) (p : List Nd → Bool) (hp : ∀ x ∈ xs, FnSpec PR g [aT x, .c (.d d0), .c (.d d1)] (ab (p x)) [] 0) (hl : xs.length ≤ 9223372036854775807) :
    FnSpec PR f_slices_ContainsFunc_Limpl_Tree_impl_Tree [aTs xs, .c (.d (.fn g [d0, d1]))] (ab (xs.any p)) [] 0 := by
  refine FnSpec.intro hT p_slices_ContainsFunc_Limpl_Tree_impl_Tree rfl (by kernel_rfl) n_slices_ContainsFunc_Limpl_Tree_impl_Tree rfl ?_
  conv => whnf
  refine ⟨_, _, _, slices_IndexFunc_Limpl_Tree_impl_Tree_2 xs g d0 d1 p hp hl, rfl, ?_⟩
  (conv => whnf)
  have h := idxL_any p xs 0
  cases hb : xs.any p
  · rw [hb] at h
    ((conv => whnf); simp only [St.mk.injEq, List.cons.injEq, Prod.mk.injEq, AV.c.injEq, AV.agg.injEq, AV.tup.injEq, CV.d.injEq, D.int.injEq, D.bool.injEq, D.str.injEq, D.sl.injEq, Ent.arr.injEq, Ent.box.injEq, true_and, and_true, and_self, nInt_eq, Int.natCast_zero, dLen_eL, sLen_eq, iLe])
    simpa using h
  · rw [hb] at h
    ((conv => whnf); simp only [St.mk.injEq, List.cons.injEq, Prod.mk.injEq, AV.c.injEq, AV.agg.injEq, AV.tup.injEq, CV.d.injEq, D.int.injEq, D.bool.injEq, D.str.injEq, D.sl.injEq, Ent.arr.injEq, Ent.box.injEq, true_and, and_true, and_self, nInt_eq, Int.natCast_zero, dLen_eL, sLen_eq, iLe])
    simpa using h


theorem slices_IndexFunc_Lint_int_0 (xs : List (Int)) (g : FuncId) (p : Int → Bool) (hp : ∀ x ∈ xs, FnSpec PR g [ai x] (ab (p x)) [] 0) (hl : xs.length ≤ 9223372036854775807) :
    FnSpec PR f_slices_IndexFunc_Lint_int [aIs xs, .c (.d (.fn g []))] (ai (idxL p xs 0)) [] 0 := by
  refine FnSpec.intro hT p_slices_IndexFunc_Lint_int rfl (by kernel_rfl) n_slices_IndexFunc_Lint_int rfl ?_
  conv => whnf
  refine tri_loop hT [0, 1, 7, 8] (α := Nat) (fun k => { t := [(0, aIs xs), (1, .c (.d (.fn g []))), (7, ai xs.length), (8, ai k)], h := [], n := 0, N := 19 })
    (fun k => k ≤ xs.length ∧ idxL p (xs.drop k) k = idxL p xs 0) (fun k => xs.length - k) 0 (by ((conv => whnf); simp only [St.mk.injEq, List.cons.injEq, Prod.mk.injEq, AV.c.injEq, AV.agg.injEq, AV.tup.injEq, CV.d.injEq, D.int.injEq, D.bool.injEq, D.str.injEq, D.sl.injEq, Ent.arr.injEq, Ent.box.injEq, true_and, and_true, and_self, nInt_eq, Int.natCast_zero, dLen_eL, sLen_eq])) ⟨Nat.zero_le _, rfl⟩ ?_
  intro k ⟨hk, hi⟩
  (conv => whnf)
  refine ifB_i (fun h1 => ?_) (fun h1 => ?_) <;> (conv => whnf) <;> simp at h1
  · obtain ⟨s, hs⟩ := get_lt h1
    rw [drop_at hs, idxL] at hi
    refine idx_at (by simp) hs ?_
    (conv => whnf)
    refine ⟨_, _, _, hp s (List.mem_of_getElem? hs), rfl, ?_⟩
    (conv => whnf)
    refine ifB_i (fun h2 => ?_) (fun h2 => ?_) <;> (conv => whnf)
    · rw [if_pos h2] at hi
      ((conv => whnf); simp only [St.mk.injEq, List.cons.injEq, Prod.mk.injEq, AV.c.injEq, AV.agg.injEq, AV.tup.injEq, CV.d.injEq, D.int.injEq, D.bool.injEq, D.str.injEq, D.sl.injEq, Ent.arr.injEq, Ent.box.injEq, true_and, and_true, and_self, nInt_eq, Int.natCast_zero, dLen_eL, sLen_eq, hi])
    · rw [if_neg (by simp [h2])] at hi
      refine ⟨k + 1, by omega, ⟨h1, hi⟩, ?_⟩
      ((conv => whnf); simp only [St.mk.injEq, List.cons.injEq, Prod.mk.injEq, AV.c.injEq, AV.agg.injEq, AV.tup.injEq, CV.d.injEq, D.int.injEq, D.bool.injEq, D.str.injEq, D.sl.injEq, Ent.arr.injEq, Ent.box.injEq, true_and, and_true, and_self, nInt_eq, Int.natCast_zero, dLen_eL, sLen_eq, wI h1 hl])
  · obtain rfl : k = xs.length := by omega
    simp only [List.drop_length, idxL] at hi
    ((conv => whnf); simp only [St.mk.injEq, List.cons.injEq, Prod.mk.injEq, AV.c.injEq, AV.agg.injEq, AV.tup.injEq, CV.d.injEq, D.int.injEq, D.bool.injEq, D.str.injEq, D.sl.injEq, Ent.arr.injEq, Ent.box.injEq, true_and, and_true, and_self, nInt_eq, Int.natCast_zero, dLen_eL, sLen_eq, ← hi])


theorem slices_ContainsFunc_Lint_int_0 (xs : List (Int)) (g : FuncId) (p : Int → Bool) (hp : ∀ x ∈ xs, FnSpec PR g [ai x] (ab (p x)) [] 0) (hl : xs.length ≤ 9223372036854775807) :
    FnSpec PR f_slices_ContainsFunc_Lint_int [aIs xs, .c (.d (.fn g []))] (ab (xs.any p)) [] 0 := by
  refine FnSpec.intro hT p_slices_ContainsFunc_Lint_int rfl (by kernel_rfl) n_slices_ContainsFunc_Lint_int rfl ?_
  conv => whnf
  refine ⟨_, _, _, slices_IndexFunc_Lint_int_0 xs g  p hp hl, rfl, ?_⟩
  (conv => whnf)
  have h := idxL_any p xs 0
  cases hb : xs.any p
  · rw [hb] at h
    ((conv => whnf); simp only [St.mk.injEq, List.cons.injEq, Prod.mk.injEq, AV.c.injEq, AV.agg.injEq, AV.tup.injEq, CV.d.injEq, D.int.injEq, D.bool.injEq, D.str.injEq, D.sl.injEq, Ent.arr.injEq, Ent.box.injEq, true_and, and_true, and_self, nInt_eq, Int.natCast_zero, dLen_eL, sLen_eq, iLe])
    simpa using h
  · rw [hb] at h
    ((conv => whnf); simp only [St.mk.injEq, List.cons.injEq, Prod.mk.injEq, AV.c.injEq, AV.agg.injEq, AV.tup.injEq, CV.d.injEq, D.int.injEq, D.bool.injEq, D.str.injEq, D.sl.injEq, Ent.arr.injEq, Ent.box.injEq, true_and, and_true, and_self, nInt_eq, Int.natCast_zero, dLen_eL, sLen_eq, iLe])
    simpa using h


theorem slices_IndexFunc_Lint_int_1 (xs : List (Int)) (g : FuncId) (d0 : D) (p : Int → Bool) (hp : ∀ x ∈ xs, FnSpec PR g [ai x, .c (.d d0)] (ab (p x)) [] 0) (hl : xs.length ≤ 9223372036854775807) :
    FnSpec PR f_slices_IndexFunc_Lint_int [aIs xs, .c (.d (.fn g [d0]))] (ai (idxL p xs 0)) [] 0 := by
  refine FnSpec.intro hT p_slices_IndexFunc_Lint_int rfl (by kernel_rfl) n_slices_IndexFunc_Lint_int rfl ?_
  conv => whnf
  refine tri_loop hT [0, 1, 7, 8] (α := Nat) (fun k => { t := [(0, aIs xs), (1, .c (.d (.fn g [d0]))), (7, ai xs.length), (8, ai k)], h := [], n := 0, N := 19 })
    (fun k => k ≤ xs.length ∧ idxL p (xs.drop k) k = idxL p xs 0) (fun k => xs.length - k) 0 (by ((conv => whnf); simp only [St.mk.injEq, List.cons.injEq, Prod.mk.injEq, AV.c.injEq, AV.agg.injEq, AV.tup.injEq, CV.d.injEq, D.int.injEq, D.bool.injEq, D.str.injEq, D.sl.injEq, Ent.arr.injEq, Ent.box.injEq, true_and, and_true, and_self, nInt_eq, Int.natCast_zero, dLen_eL, sLen_eq])) ⟨Nat.zero_le _, rfl⟩ ?_
  intro k ⟨hk, hi⟩
  (conv => whnf)
  refine ifB_i (fun h1 => ?_) (fun h1 => ?_) <;> (conv => whnf) <;> simp at h1
  · obtain ⟨s, hs⟩ := get_lt h1
    rw [drop_at hs, idxL] at hi
    refine idx_at (by simp) hs ?_
    (conv => whnf)
    refine ⟨_, _, _, hp s (List.mem_of_getElem? hs), rfl, ?_⟩
    (conv => whnf)
    refine ifB_i (fun h2 => ?_) (fun h2 => ?_) <;> (conv => whnf)
    · rw [if_pos h2] at hi
      ((conv => whnf); simp only [St.mk.injEq, List.cons.injEq, Prod.mk.injEq, AV.c.injEq, AV.agg.injEq, AV.tup.injEq, CV.d.injEq, D.int.injEq, D.bool.injEq, D.str.injEq, D.sl.injEq, Ent.arr.injEq, Ent.box.injEq, true_and, and_true, and_self, nInt_eq, Int.natCast_zero, dLen_eL, sLen_eq, hi])
    · rw [if_neg (by simp [h2])] at hi
      refine ⟨k + 1, by omega, ⟨h1, hi⟩, ?_⟩
      ((conv => whnf); simp only [St.mk.injEq, List.cons.injEq, Prod.mk.injEq, AV.c.injEq, AV.agg.injEq, AV.tup.injEq, CV.d.injEq, D.int.injEq, D.bool.injEq, D.str.injEq, D.sl.injEq, Ent.arr.injEq, Ent.box.injEq, true_and, and_true, and_self, nInt_eq, Int.natCast_zero, dLen_eL, sLen_eq, wI h1 hl])
  · obtain rfl : k = xs.length := by omega
    simp only [List.drop_length, idxL] at hi
    ((conv => whnf); simp only [St.mk.injEq, List.cons.injEq, Prod.mk.injEq, AV.c.injEq, AV.agg.injEq, AV.tup.injEq, CV.d.injEq, D.int.injEq, D.bool.injEq, D.str.injEq, D.sl.injEq, Ent.arr.injEq, Ent.box.injEq, true_and, and_true, and_self, nInt_eq, Int.natCast_zero, dLen_eL, sLen_eq, ← hi])


theorem slices_ContainsFunc_Lint_int_1 (xs : List (Int)) (g : FuncId) (d0 : D) (p : Int → Bool) (hp : ∀ x ∈ xs, FnSpec PR g [ai x, .c (.d d0)] (ab (p x)) [] 0) (hl : xs.length ≤ 9223372036854775807) :
    FnSpec PR f_slices_ContainsFunc_Lint_int [aIs xs, .c (.d (.fn g [d0]))] (ab (xs.any p)) [] 0 := by
  refine FnSpec.intro hT p_slices_ContainsFunc_Lint_int rfl (by kernel_rfl) n_slices_ContainsFunc_Lint_int rfl ?_
  conv => whnf
  refine ⟨_, _, _, slices_IndexFunc_Lint_int_1 xs g d0 p hp hl, rfl, ?_⟩
  (conv => whnf)
  have h := idxL_any p xs 0
  cases hb : xs.any p
  · rw [hb] at h
    ((conv => whnf); simp only [St.mk.injEq, List.cons.injEq, Prod.mk.injEq, AV.c.injEq, AV.agg.injEq, AV.tup.injEq, CV.d.injEq, D.int.injEq, D.bool.injEq, D.str.injEq, D.sl.injEq, Ent.arr.injEq, Ent.box.injEq, true_and, and_true, and_self, nInt_eq, Int.natCast_zero, dLen_eL, sLen_eq, iLe])
    simpa using h
  · rw [hb] at h
    ((conv => whnf); simp only [St.mk.injEq, List.cons.injEq, Prod.mk.injEq, AV.c.injEq, AV.agg.injEq, AV.tup.injEq, CV.d.injEq, D.int.injEq, D.bool.injEq, D.str.injEq, D.sl.injEq, Ent.arr.injEq, Ent.box.injEq, true_and, and_true, and_self, nInt_eq, Int.natCast_zero, dLen_eL, sLen_eq, iLe])
    simpa using h


theorem slices_IndexFunc_Lint_int_2 (xs : List (Int)) (g : FuncId) (d0 d1 : D) (p : Int → Bool) (hp : ∀ x ∈ xs, FnSpec PR g [ai x, .c (.d d0), .c (.d d1)] (ab (p x)) [] 0) (hl : xs.length ≤ 9223372036854775807) :
    FnSpec PR f_slices_IndexFunc_Lint_int [aIs xs, .c (.d (.fn g [d0, d1]))] (ai (idxL p xs 0)) [] 0 := by
  refine FnSpec.intro hT p_slices_IndexFunc_Lint_int rfl (by kernel_rfl) n_slices_IndexFunc_Lint_int rfl ?_
  conv => whnf
  refine tri_loop hT [0, 1, 7, 8] (α := Nat) (fun k => { t := [(0, aIs xs), (1, .c (.d (.fn g [d0, d1]))), (7, ai xs.length), (8, ai k)], h := [], n := 0, N := 19 })
    (fun k => k ≤ xs.length ∧ idxL p (xs.drop k) k = idxL p xs 0) (fun k => xs.length - k) 0 (by ((conv => whnf); simp only [St.mk.injEq, List.cons.injEq, Prod.mk.injEq, AV.c.injEq, AV.agg.injEq, AV.tup.injEq, CV.d.injEq, D.int.injEq, D.bool.injEq, D.str.injEq, D.sl.injEq, Ent.arr.injEq, Ent.box.injEq, true_and, and_true, and_self, nInt_eq, Int.natCast_zero, dLen_eL, sLen_eq])) ⟨Nat.zero_le _, rfl⟩ ?_
  intro k ⟨hk, hi⟩
  (conv => whnf)
  refine ifB_i (fun h1 => ?_) (fun h1 => ?_) <;> (conv => whnf) <;> simp at h1
  · obtain ⟨s, hs⟩ := get_lt h1
    rw [drop_at hs, idxL] at hi
    refine idx_at (by simp) hs ?_
    (conv => whnf)
    refine ⟨_, _, _, hp s (List.mem_of_getElem? hs), rfl, ?_⟩
    (conv => whnf)
    refine ifB_i (fun h2 => ?_) (fun h2 => ?_) <;> (conv => whnf)
    · rw [if_pos h2] at hi
      ((conv => whnf); simp only [St.mk.injEq, List.cons.injEq, Prod.mk.injEq, AV.c.injEq, AV.agg.injEq, AV.tup.injEq, CV.d.injEq, D.int.injEq, D.bool.injEq, D.str.injEq, D.sl.injEq, Ent.arr.injEq, Ent.box.injEq, true_and, and_true, and_self, nInt_eq, Int.natCast_zero, dLen_eL, sLen_eq, hi])
    · rw [if_neg (by simp [h2])] at hi
      refine ⟨k + 1, by omega, ⟨h1, hi⟩, ?_⟩
      ((conv => whnf); simp only [St.mk.injEq, List.cons.injEq, Prod.mk.injEq, AV.c.injEq, AV.agg.injEq, AV.tup.injEq, CV.d.injEq, D.int.injEq, D.bool.injEq, D.str.injEq, D.sl.injEq, Ent.arr.injEq, Ent.box.injEq, true_and, and_true, and_self, nInt_eq, Int.natCast_zero, dLen_eL, sLen_eq, wI h1 hl])
  · obtain rfl : k = xs.length := by omega
    simp only [List.drop_length, idxL] at hi
    ((conv => whnf); simp only [St.mk.injEq, List.cons.injEq, Prod.mk.injEq, AV.c.injEq, AV.agg.injEq, AV.tup.injEq, CV.d.injEq, D.int.injEq, D.bool.injEq, D.str.injEq, D.sl.injEq, Ent.arr.injEq, Ent.box.injEq, true_and, and_true, and_self, nInt_eq, Int.natCast_zero, dLen_eL, sLen_eq, ← hi])


theorem slices_ContainsFunc_Lint_int_2 (xs : List (Int)) (g : FuncId) (d0 d1 : D) (p : Int → Bool) (hp : ∀ x ∈ xs, FnSpec PR g [ai x, .c (.d d0), .c (.d d1)] (ab (p x)) [] 0) (hl : xs.length ≤ 9223372036854775807) :
    FnSpec PR f_slices_ContainsFunc_Lint_int [aIs xs, .c (.d (.fn g [d0, d1]))] (ab (xs.any p)) [] 0 := by
  refine FnSpec.intro hT p_slices_ContainsFunc_Lint_int rfl (by kernel_rfl) n_slices_ContainsFunc_Lint_int rfl ?_
  conv => whnf
  refine ⟨_, _, _, slices_IndexFunc_Lint_int_2 xs g d0 d1 p hp hl, rfl, ?_⟩
  (conv => whnf)
  have h := idxL_any p xs 0
  cases hb : xs.any p
  · rw [hb] at h
    ((conv => whnf); simp only [St.mk.injEq, List.cons.injEq, Prod.mk.injEq, AV.c.injEq, AV.agg.injEq, AV.tup.injEq, CV.d.injEq, D.int.injEq, D.bool.injEq, D.str.injEq, D.sl.injEq, Ent.arr.injEq, Ent.box.injEq, true_and, and_true, and_self, nInt_eq, Int.natCast_zero, dLen_eL, sLen_eq, iLe])
    simpa using h
  · rw [hb] at h
    ((conv => whnf); simp only [St.mk.injEq, List.cons.injEq, Prod.mk.injEq, AV.c.injEq, AV.agg.injEq, AV.tup.injEq, CV.d.injEq, D.int.injEq, D.bool.injEq, D.str.injEq, D.sl.injEq, Ent.arr.injEq, Ent.box.injEq, true_and, and_true, and_self, nInt_eq, Int.natCast_zero, dLen_eL, sLen_eq, iLe])
    simpa using h


theorem slices_IndexFunc_LLint_Lint_0 (xs : List (List Int)) (g : FuncId) (p : List Int → Bool) (hp : ∀ x ∈ xs, FnSpec PR g [aIs x] (ab (p x)) [] 0) (hl : xs.length ≤ 9223372036854775807) :
    FnSpec PR f_slices_IndexFunc_LLint_Lint [aIss xs, .c (.d (.fn g []))] (ai (idxL p xs 0)) [] 0 := by
  refine FnSpec.intro hT p_slices_IndexFunc_LLint_Lint rfl (by kernel_rfl) n_slices_IndexFunc_LLint_Lint rfl ?_
  conv => whnf
  refine tri_loop hT [0, 1, 7, 8] (α := Nat) (fun k => { t := [(0, aIss xs), (1, .c (.d (.fn g []))), (7, ai xs.length), (8, ai k)], h := [], n := 0, N := 19 })
    (fun k => k ≤ xs.length ∧ idxL p (xs.drop k) k = idxL p xs 0) (fun k => xs.length - k) 0 (by ((conv => whnf); simp only [St.mk.injEq, List.cons.injEq, Prod.mk.injEq, AV.c.injEq, AV.agg.injEq, AV.tup.injEq, CV.d.injEq, D.int.injEq, D.bool.injEq, D.str.injEq, D.sl.injEq, Ent.arr.injEq, Ent.box.injEq, true_and, and_true, and_self, nInt_eq, Int.natCast_zero, dLen_eL, sLen_eq])) ⟨Nat.zero_le _, rfl⟩ ?_
  intro k ⟨hk, hi⟩
  (conv => whnf)
  refine ifB_i (fun h1 => ?_) (fun h1 => ?_) <;> (conv => whnf) <;> simp at h1
  · obtain ⟨s, hs⟩ := get_lt h1
    rw [drop_at hs, idxL] at hi
    refine idx_at (by simp) hs ?_
    (conv => whnf)
    refine ⟨_, _, _, hp s (List.mem_of_getElem? hs), rfl, ?_⟩
    (conv => whnf)
    refine ifB_i (fun h2 => ?_) (fun h2 => ?_) <;> (conv => whnf)
    · rw [if_pos h2] at hi
      ((conv => whnf); simp only [St.mk.injEq, List.cons.injEq, Prod.mk.injEq, AV.c.injEq, AV.agg.injEq, AV.tup.injEq, CV.d.injEq, D.int.injEq, D.bool.injEq, D.str.injEq, D.sl.injEq, Ent.arr.injEq, Ent.box.injEq, true_and, and_true, and_self, nInt_eq, Int.natCast_zero, dLen_eL, sLen_eq, hi])
    · rw [if_neg (by simp [h2])] at hi
      refine ⟨k + 1, by omega, ⟨h1, hi⟩, ?_⟩
      ((conv => whnf); simp only [St.mk.injEq, List.cons.injEq, Prod.mk.injEq, AV.c.injEq, AV.agg.injEq, AV.tup.injEq, CV.d.injEq, D.int.injEq, D.bool.injEq, D.str.injEq, D.sl.injEq, Ent.arr.injEq, Ent.box.injEq, true_and, and_true, and_self, nInt_eq, Int.natCast_zero, dLen_eL, sLen_eq, wI h1 hl])
  · obtain rfl : k = xs.length := by omega
    simp only [List.drop_length, idxL] at hi
    ((conv => whnf); simp only [St.mk.injEq, List.cons.injEq, Prod.mk.injEq, AV.c.injEq, AV.agg.injEq, AV.tup.injEq, CV.d.injEq, D.int.injEq, D.bool.injEq, D.str.injEq, D.sl.injEq, Ent.arr.injEq, Ent.box.injEq, true_and, and_true, and_self, nInt_eq, Int.natCast_zero, dLen_eL, sLen_eq, ← hi])


theorem slices_ContainsFunc_LLint_Lint_0 (xs : List (List Int)) (g : FuncId) (p : List Int → Bool) (hp : ∀ x ∈ xs, FnSpec PR g [aIs x] (ab (p x)) [] 0) (hl : xs.length ≤ 9223372036854775807) :
    FnSpec PR f_slices_ContainsFunc_LLint_Lint [aIss xs, .c (.d (.fn g []))] (ab (xs.any p)) [] 0 := by
  refine FnSpec.intro hT p_slices_ContainsFunc_LLint_Lint rfl (by kernel_rfl) n_slices_ContainsFunc_LLint_Lint rfl ?_
  conv => whnf
  refine ⟨_, _, _, slices_IndexFunc_LLint_Lint_0 xs g  p hp hl, rfl, ?_⟩
  (conv => whnf)
  have h := idxL_any p xs 0
  cases hb : xs.any p
  · rw [hb] at h
    ((conv => whnf); simp only [St.mk.injEq, List.cons.injEq, Prod.mk.injEq, AV.c.injEq, AV.agg.injEq, AV.tup.injEq, CV.d.injEq, D.int.injEq, D.bool.injEq, D.str.injEq, D.sl.injEq, Ent.arr.injEq, Ent.box.injEq, true_and, and_true, and_self, nInt_eq, Int.natCast_zero, dLen_eL, sLen_eq, iLe])
    simpa using h
  · rw [hb] at h
    ((conv => whnf); simp only [St.mk.injEq, List.cons.injEq, Prod.mk.injEq, AV.c.injEq, AV.agg.injEq, AV.tup.injEq, CV.d.injEq, D.int.injEq, D.bool.injEq, D.str.injEq, D.sl.injEq, Ent.arr.injEq, Ent.box.injEq, true_and, and_true, and_self, nInt_eq, Int.natCast_zero, dLen_eL, sLen_eq, iLe])
    simpa using h


theorem slices_IndexFunc_LLint_Lint_1 (xs : List (List Int)) (g : FuncId) (d0 : D) (p : List Int → Bool) (hp : ∀ x ∈ xs, FnSpec PR g [aIs x, .c (.d d0)] (ab (p x)) [] 0) (hl : xs.length ≤ 9223372036854775807) :
    FnSpec PR f_slices_IndexFunc_LLint_Lint [aIss xs, .c (.d (.fn g [d0]))] (ai (idxL p xs 0)) [] 0 := by
  refine FnSpec.intro hT p_slices_IndexFunc_LLint_Lint rfl (by kernel_rfl) n_slices_IndexFunc_LLint_Lint rfl ?_
  conv => whnf
  refine tri_loop hT [0, 1, 7, 8] (α := Nat) (fun k => { t := [(0, aIss xs), (1, .c (.d (.fn g [d0]))), (7, ai xs.length), (8, ai k)], h := [], n := 0, N := 19 })
    (fun k => k ≤ xs.length ∧ idxL p (xs.drop k) k = idxL p xs 0) (fun k => xs.length - k) 0 (by ((conv => whnf); simp only [St.mk.injEq, List.cons.injEq, Prod.mk.injEq, AV.c.injEq, AV.agg.injEq, AV.tup.injEq, CV.d.injEq, D.int.injEq, D.bool.injEq, D.str.injEq, D.sl.injEq, Ent.arr.injEq, Ent.box.injEq, true_and, and_true, and_self, nInt_eq, Int.natCast_zero, dLen_eL, sLen_eq])) ⟨Nat.zero_le _, rfl⟩ ?_
  intro k ⟨hk, hi⟩
  (conv => whnf)
  refine ifB_i (fun h1 => ?_) (fun h1 => ?_) <;> (conv => whnf) <;> simp at h1
  · obtain ⟨s, hs⟩ := get_lt h1
    rw [drop_at hs, idxL] at hi
    refine idx_at (by simp) hs ?_
    (conv => whnf)
    refine ⟨_, _, _, hp s (List.mem_of_getElem? hs), rfl, ?_⟩
    (conv => whnf)
    refine ifB_i (fun h2 => ?_) (fun h2 => ?_) <;> (conv => whnf)
    · rw [if_pos h2] at hi
      ((conv => whnf); simp only [St.mk.injEq, List.cons.injEq, Prod.mk.injEq, AV.c.injEq, AV.agg.injEq, AV.tup.injEq, CV.d.injEq, D.int.injEq, D.bool.injEq, D.str.injEq, D.sl.injEq, Ent.arr.injEq, Ent.box.injEq, true_and, and_true, and_self, nInt_eq, Int.natCast_zero, dLen_eL, sLen_eq, hi])
    · rw [if_neg (by simp [h2])] at hi
      refine ⟨k + 1, by omega, ⟨h1, hi⟩, ?_⟩
      ((conv => whnf); simp only [St.mk.injEq, List.cons.injEq, Prod.mk.injEq, AV.c.injEq, AV.agg.injEq, AV.tup.injEq, CV.d.injEq, D.int.injEq, D.bool.injEq, D.str.injEq, D.sl.injEq, Ent.arr.injEq, Ent.box.injEq, true_and, and_true, and_self, nInt_eq, Int.natCast_zero, dLen_eL, sLen_eq, wI h1 hl])
  · obtain rfl : k = xs.length := by omega
    simp only [List.drop_length, idxL] at hi
    ((conv => whnf); simp only [St.mk.injEq, List.cons.injEq, Prod.mk.injEq, AV.c.injEq, AV.agg.injEq, AV.tup.injEq, CV.d.injEq, D.int.injEq, D.bool.injEq, D.str.injEq, D.sl.injEq, Ent.arr.injEq, Ent.box.injEq, true_and, and_true, and_self, nInt_eq, Int.natCast_zero, dLen_eL, sLen_eq, ← hi])


theorem slices_ContainsFunc_LLint_Lint_1 (xs : List (List Int)) (g : FuncId) (d0 : D) (p : List Int → Bool) (hp : ∀ x ∈ xs, FnSpec PR g [aIs x, .c (.d d0)] (ab (p x)) [] 0) (hl : xs.length ≤ 9223372036854775807) :
    FnSpec PR f_slices_ContainsFunc_LLint_Lint [aIss xs, .c (.d (.fn g [d0]))] (ab (xs.any p)) [] 0 := by
  refine FnSpec.intro hT p_slices_ContainsFunc_LLint_Lint rfl (by kernel_rfl) n_slices_ContainsFunc_LLint_Lint rfl ?_
  conv => whnf
  refine ⟨_, _, _, slices_IndexFunc_LLint_Lint_1 xs g d0 p hp hl, rfl, ?_⟩
  (conv => whnf)
  have h := idxL_any p xs 0
  cases hb : xs.any p
  · rw [hb] at h
    ((conv => whnf); simp only [St.mk.injEq, List.cons.injEq, Prod.mk.injEq, AV.c.injEq, AV.agg.injEq, AV.tup.injEq, CV.d.injEq, D.int.injEq, D.bool.injEq, D.str.injEq, D.sl.injEq, Ent.arr.injEq, Ent.box.injEq, true_and, and_true, and_self, nInt_eq, Int.natCast_zero, dLen_eL, sLen_eq, iLe])
    simpa using h
  · rw [hb] at h
    ((conv => whnf); simp only [St.mk.injEq, List.cons.injEq, Prod.mk.injEq, AV.c.injEq, AV.agg.injEq, AV.tup.injEq, CV.d.injEq, D.int.injEq, D.bool.injEq, D.str.injEq, D.sl.injEq, Ent.arr.injEq, Ent.box.injEq, true_and, and_true, and_self, nInt_eq, Int.natCast_zero, dLen_eL, sLen_eq, iLe])
    simpa using h


theorem slices_IndexFunc_LLint_Lint_2 (xs : List (List Int)) (g : FuncId) (d0 d1 : D) (p : List Int → Bool) (hp : ∀ x ∈ xs, FnSpec PR g [aIs x, .c (.d d0), .c (.d d1)] (ab (p x)) [] 0) (hl : xs.length ≤ 9223372036854775807) :
    FnSpec PR f_slices_IndexFunc_LLint_Lint [aIss xs, .c (.d (.fn g [d0, d1]))] (ai (idxL p xs 0)) [] 0 := by
  refine FnSpec.intro hT p_slices_IndexFunc_LLint_Lint rfl (by kernel_rfl) n_slices_IndexFunc_LLint_Lint rfl ?_
  conv => whnf
  refine tri_loop hT [0, 1, 7, 8] (α := Nat) (fun k => { t := [(0, aIss xs), (1, .c (.d (.fn g [d0, d1]))), (7, ai xs.length), (8, ai k)], h := [], n := 0, N := 19 })
    (fun k => k ≤ xs.length ∧ idxL p (xs.drop k) k = idxL p xs 0) (fun k => xs.length - k) 0 (by ((conv => whnf); simp only [St.mk.injEq, List.cons.injEq, Prod.mk.injEq, AV.c.injEq, AV.agg.injEq, AV.tup.injEq, CV.d.injEq, D.int.injEq, D.bool.injEq, D.str.injEq, D.sl.injEq, Ent.arr.injEq, Ent.box.injEq, true_and, and_true, and_self, nInt_eq, Int.natCast_zero, dLen_eL, sLen_eq])) ⟨Nat.zero_le _, rfl⟩ ?_
  intro k ⟨hk, hi⟩
  (conv => whnf)
  refine ifB_i (fun h1 => ?_) (fun h1 => ?_) <;> (conv => whnf) <;> simp at h1
  · obtain ⟨s, hs⟩ := get_lt h1
    rw [drop_at hs, idxL] at hi
    refine idx_at (by simp) hs ?_
    (conv => whnf)
    refine ⟨_, _, _, hp s (List.mem_of_getElem? hs), rfl, ?_⟩
    (conv => whnf)
    refine ifB_i (fun h2 => ?_) (fun h2 => ?_) <;> (conv => whnf)
    · rw [if_pos h2] at hi
      ((conv => whnf); simp only [St.mk.injEq, List.cons.injEq, Prod.mk.injEq, AV.c.injEq, AV.agg.injEq, AV.tup.injEq, CV.d.injEq, D.int.injEq, D.bool.injEq, D.str.injEq, D.sl.injEq, Ent.arr.injEq, Ent.box.injEq, true_and, and_true, and_self, nInt_eq, Int.natCast_zero, dLen_eL, sLen_eq, hi])
    · rw [if_neg (by simp [h2])] at hi
      refine ⟨k + 1, by omega, ⟨h1, hi⟩, ?_⟩
      ((conv => whnf); simp only [St.mk.injEq, List.cons.injEq, Prod.mk.injEq, AV.c.injEq, AV.agg.injEq, AV.tup.injEq, CV.d.injEq, D.int.injEq, D.bool.injEq, D.str.injEq, D.sl.injEq, Ent.arr.injEq, Ent.box.injEq, true_and, and_true, and_self, nInt_eq, Int.natCast_zero, dLen_eL, sLen_eq, wI h1 hl])
  · obtain rfl : k = xs.length := by omega
    simp only [List.drop_length, idxL] at hi
    ((conv => whnf); simp only [St.mk.injEq, List.cons.injEq, Prod.mk.injEq, AV.c.injEq, AV.agg.injEq, AV.tup.injEq, CV.d.injEq, D.int.injEq, D.bool.injEq, D.str.injEq, D.sl.injEq, Ent.arr.injEq, Ent.box.injEq, true_and, and_true, and_self, nInt_eq, Int.natCast_zero, dLen_eL, sLen_eq, ← hi])


theorem slices_ContainsFunc_LLint_Lint_2 (xs : List (List Int)) (g : FuncId) (d0 d1 : D) (p : List Int → Bool) (hp : ∀ x ∈ xs, FnSpec PR g [aIs x, .c (.d d0), .c (.d d1)] (ab (p x)) [] 0) (hl : xs.length ≤ 9223372036854775807) :
    FnSpec PR f_slices_ContainsFunc_LLint_Lint [aIss xs, .c (.d (.fn g [d0, d1]))] (ab (xs.any p)) [] 0 := by
  refine FnSpec.intro hT p_slices_ContainsFunc_LLint_Lint rfl (by kernel_rfl) n_slices_ContainsFunc_LLint_Lint rfl ?_
  conv => whnf
  refine ⟨_, _, _, slices_IndexFunc_LLint_Lint_2 xs g d0 d1 p hp hl, rfl, ?_⟩
  (conv => whnf)
  have h := idxL_any p xs 0
  cases hb : xs.any p
  · rw [hb] at h
    ((conv => whnf); simp only [St.mk.injEq, List.cons.injEq, Prod.mk.injEq, AV.c.injEq, AV.agg.injEq, AV.tup.injEq, CV.d.injEq, D.int.injEq, D.bool.injEq, D.str.injEq, D.sl.injEq, Ent.arr.injEq, Ent.box.injEq, true_and, and_true, and_self, nInt_eq, Int.natCast_zero, dLen_eL, sLen_eq, iLe])
    simpa using h
  · rw [hb] at h
    ((conv => whnf); simp only [St.mk.injEq, List.cons.injEq, Prod.mk.injEq, AV.c.injEq, AV.agg.injEq, AV.tup.injEq, CV.d.injEq, D.int.injEq, D.bool.injEq, D.str.injEq, D.sl.injEq, Ent.arr.injEq, Ent.box.injEq, true_and, and_true, and_self, nInt_eq, Int.natCast_zero, dLen_eL, sLen_eq, iLe])
    simpa using h


theorem slices_IndexFunc_Limpl_Node_impl_Node_0 (xs : List (Nd)) (g : FuncId) (p : Nd → Bool) (hp : ∀ x ∈ xs, FnSpec PR g [aN x] (ab (p x)) [] 0) (hl : xs.length ≤ 9223372036854775807) :
    FnSpec PR f_slices_IndexFunc_Limpl_Node_impl_Node [aNs xs, .c (.d (.fn g []))] (ai (idxL p xs 0)) [] 0 := by
  refine FnSpec.intro hT p_slices_IndexFunc_Limpl_Node_impl_Node rfl (by kernel_rfl) n_slices_IndexFunc_Limpl_Node_impl_Node rfl ?_
  conv => whnf
  refine tri_loop hT [0, 1, 7, 8] (α := Nat) (fun k => { t := [(0, aNs xs), (1, .c (.d (.fn g []))), (7, ai xs.length), (8, ai k)], h := [], n := 0, N := 19 })
    (fun k => k ≤ xs.length ∧ idxL p (xs.drop k) k = idxL p xs 0) (fun k => xs.length - k) 0 (by ((conv => whnf); simp only [St.mk.injEq, List.cons.injEq, Prod.mk.injEq, AV.c.injEq, AV.agg.injEq, AV.tup.injEq, CV.d.injEq, D.int.injEq, D.bool.injEq, D.str.injEq, D.sl.injEq, Ent.arr.injEq, Ent.box.injEq, true_and, and_true, and_self, nInt_eq, Int.natCast_zero, dLen_eL, sLen_eq])) ⟨Nat.zero_le _, rfl⟩ ?_
  intro k ⟨hk, hi⟩
  (conv => whnf)
  refine ifB_i (fun h1 => ?_) (fun h1 => ?_) <;> (conv => whnf) <;> simp at h1
  · obtain ⟨s, hs⟩ := get_lt h1
    rw [drop_at hs, idxL] at hi
    refine idx_at (by simp) hs ?_
    (conv => whnf)
    refine ⟨_, _, _, hp s (List.mem_of_getElem? hs), rfl, ?_⟩
    (conv => whnf)
    refine ifB_i (fun h2 => ?_) (fun h2 => ?_) <;> (conv => whnf)
    · rw [if_pos h2] at hi
      ((conv => whnf); simp only [St.mk.injEq, List.cons.injEq, Prod.mk.injEq, AV.c.injEq, AV.agg.injEq, AV.tup.injEq, CV.d.injEq, D.int.injEq, D.bool.injEq, D.str.injEq, D.sl.injEq, Ent.arr.injEq, Ent.box.injEq, true_and, and_true, and_self, nInt_eq, Int.natCast_zero, dLen_eL, sLen_eq, hi])
    · rw [if_neg (by simp [h2])] at hi
      refine ⟨k + 1, by omega, ⟨h1, hi⟩, ?_⟩
      ((conv => whnf); simp only [St.mk.injEq, List.cons.injEq, Prod.mk.injEq, AV.c.injEq, AV.agg.injEq, AV.tup.injEq, CV.d.injEq, D.int.injEq, D.bool.injEq, D.str.injEq, D.sl.injEq, Ent.arr.injEq, Ent.box.injEq, true_and, and_true, and_self, nInt_eq, Int.natCast_zero, dLen_eL, sLen_eq, wI h1 hl])
  · obtain rfl : k = xs.length := by omega
    simp only [List.drop_length, idxL] at hi
    ((conv => whnf); simp only [St.mk.injEq, List.cons.injEq, Prod.mk.injEq, AV.c.injEq, AV.agg.injEq, AV.tup.injEq, CV.d.injEq, D.int.injEq, D.bool.injEq, D.str.injEq, D.sl.injEq, Ent.arr.injEq, Ent.box.injEq, true_and, and_true, and_self, nInt_eq, Int.natCast_zero, dLen_eL, sLen_eq, ← hi])


theorem slices_IndexFunc_Limpl_Node_impl_Node_1 (xs : List (Nd)) (g : FuncId) (d0 : D) (p : Nd → Bool) (hp : ∀ x ∈ xs, FnSpec PR g [aN x, .c (.d d0)] (ab (p x)) [] 0) (hl : xs.length ≤ 9223372036854775807) :
    FnSpec PR f_slices_IndexFunc_Limpl_Node_impl_Node [aNs xs, .c (.d (.fn g [d0]))] (ai (idxL p xs 0)) [] 0 := by
  refine FnSpec.intro hT p_slices_IndexFunc_Limpl_Node_impl_Node rfl (by kernel_rfl) n_slices_IndexFunc_Limpl_Node_impl_Node rfl ?_
  conv => whnf
  refine tri_loop hT [0, 1, 7, 8] (α := Nat) (fun k => { t := [(0, aNs xs), (1, .c (.d (.fn g [d0]))), (7, ai xs.length), (8, ai k)], h := [], n := 0, N := 19 })
    (fun k => k ≤ xs.length ∧ idxL p (xs.drop k) k = idxL p xs 0) (fun k => xs.length - k) 0 (by ((conv => whnf); simp only [St.mk.injEq, List.cons.injEq, Prod.mk.injEq, AV.c.injEq, AV.agg.injEq, AV.tup.injEq, CV.d.injEq, D.int.injEq, D.bool.injEq, D.str.injEq, D.sl.injEq, Ent.arr.injEq, Ent.box.injEq, true_and, and_true, and_self, nInt_eq, Int.natCast_zero, dLen_eL, sLen_eq])) ⟨Nat.zero_le _, rfl⟩ ?_
  intro k ⟨hk, hi⟩
  (conv => whnf)
  refine ifB_i (fun h1 => ?_) (fun h1 => ?_) <;> (conv => whnf) <;> simp at h1
  · obtain ⟨s, hs⟩ := get_lt h1
    rw [drop_at hs, idxL] at hi
    refine idx_at (by simp) hs ?_
    (conv => whnf)
    refine ⟨_, _, _, hp s (List.mem_of_getElem? hs), rfl, ?_⟩
    (conv => whnf)
    refine ifB_i (fun h2 => ?_) (fun h2 => ?_) <;> (conv => whnf)
    · rw [if_pos h2] at hi
      ((conv => whnf); simp only [St.mk.injEq, List.cons.injEq, Prod.mk.injEq, AV.c.injEq, AV.agg.injEq, AV.tup.injEq, CV.d.injEq, D.int.injEq, D.bool.injEq, D.str.injEq, D.sl.injEq, Ent.arr.injEq, Ent.box.injEq, true_and, and_true, and_self, nInt_eq, Int.natCast_zero, dLen_eL, sLen_eq, hi])
    · rw [if_neg (by simp [h2])] at hi
      refine ⟨k + 1, by omega, ⟨h1, hi⟩, ?_⟩
      ((conv => whnf); simp only [St.mk.injEq, List.cons.injEq, Prod.mk.injEq, AV.c.injEq, AV.agg.injEq, AV.tup.injEq, CV.d.injEq, D.int.injEq, D.bool.injEq, D.str.injEq, D.sl.injEq, Ent.arr.injEq, Ent.box.injEq, true_and, and_true, and_self, nInt_eq, Int.natCast_zero, dLen_eL, sLen_eq, wI h1 hl])
  · obtain rfl : k = xs.length := by omega
    simp only [List.drop_length, idxL] at hi
    ((conv => whnf); simp only [St.mk.injEq, List.cons.injEq, Prod.mk.injEq, AV.c.injEq, AV.agg.injEq, AV.tup.injEq, CV.d.injEq, D.int.injEq, D.bool.injEq, D.str.injEq, D.sl.injEq, Ent.arr.injEq, Ent.box.injEq, true_and, and_true, and_self, nInt_eq, Int.natCast_zero, dLen_eL, sLen_eq, ← hi])


theorem slices_IndexFunc_Limpl_Node_impl_Node_2 (xs : List (Nd)) (g : FuncId) (d0 d1 : D) (p : Nd → Bool) (hp : ∀ x ∈ xs, FnSpec PR g [aN x, .c (.d d0), .c (.d d1)] (ab (p x)) [] 0) (hl : xs.length ≤ 9223372036854775807) :
    FnSpec PR f_slices_IndexFunc_Limpl_Node_impl_Node [aNs xs, .c (.d (.fn g [d0, d1]))] (ai (idxL p xs 0)) [] 0 := by
  refine FnSpec.intro hT p_slices_IndexFunc_Limpl_Node_impl_Node rfl (by kernel_rfl) n_slices_IndexFunc_Limpl_Node_impl_Node rfl ?_
  conv => whnf
  refine tri_loop hT [0, 1, 7, 8] (α := Nat) (fun k => { t := [(0, aNs xs), (1, .c (.d (.fn g [d0, d1]))), (7, ai xs.length), (8, ai k)], h := [], n := 0, N := 19 })
    (fun k => k ≤ xs.length ∧ idxL p (xs.drop k) k = idxL p xs 0) (fun k => xs.length - k) 0 (by ((conv => whnf); simp only [St.mk.injEq, List.cons.injEq, Prod.mk.injEq, AV.c.injEq, AV.agg.injEq, AV.tup.injEq, CV.d.injEq, D.int.injEq, D.bool.injEq, D.str.injEq, D.sl.injEq, Ent.arr.injEq, Ent.box.injEq, true_and, and_true, and_self, nInt_eq, Int.natCast_zero, dLen_eL, sLen_eq])) ⟨Nat.zero_le _, rfl⟩ ?_
  intro k ⟨hk, hi⟩
  (conv => whnf)
  refine ifB_i (fun h1 => ?_) (fun h1 => ?_) <;> (conv => whnf) <;> simp at h1
  · obtain ⟨s, hs⟩ := get_lt h1
    rw [drop_at hs, idxL] at hi
    refine idx_at (by simp) hs ?_
    (conv => whnf)
    refine ⟨_, _, _, hp s (List.mem_of_getElem? hs), rfl, ?_⟩
    (conv => whnf)
    refine ifB_i (fun h2 => ?_) (fun h2 => ?_) <;> (conv => whnf)
    · rw [if_pos h2] at hi
      ((conv => whnf); simp only [St.mk.injEq, List.cons.injEq, Prod.mk.injEq, AV.c.injEq, AV.agg.injEq, AV.tup.injEq, CV.d.injEq, D.int.injEq, D.bool.injEq, D.str.injEq, D.sl.injEq, Ent.arr.injEq, Ent.box.injEq, true_and, and_true, and_self, nInt_eq, Int.natCast_zero, dLen_eL, sLen_eq, hi])
    · rw [if_neg (by simp [h2])] at hi
      refine ⟨k + 1, by omega, ⟨h1, hi⟩, ?_⟩
      ((conv => whnf); simp only [St.mk.injEq, List.cons.injEq, Prod.mk.injEq, AV.c.injEq, AV.agg.injEq, AV.tup.injEq, CV.d.injEq, D.int.injEq, D.bool.injEq, D.str.injEq, D.sl.injEq, Ent.arr.injEq, Ent.box.injEq, true_and, and_true, and_self, nInt_eq, Int.natCast_zero, dLen_eL, sLen_eq, wI h1 hl])
  · obtain rfl : k = xs.length := by omega
    simp only [List.drop_length, idxL] at hi
    ((conv => whnf); simp only [St.mk.injEq, List.cons.injEq, Prod.mk.injEq, AV.c.injEq, AV.agg.injEq, AV.tup.injEq, CV.d.injEq, D.int.injEq, D.bool.injEq, D.str.injEq, D.sl.injEq, Ent.arr.injEq, Ent.box.injEq, true_and, and_true, and_self, nInt_eq, Int.natCast_zero, dLen_eL, sLen_eq, ← hi])
end Go.H.S
