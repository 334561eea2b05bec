/- Library, part I: searches of the package slices (printed by gen/idx.py). -/
import Derived.Test.YtdolkacinfjhcaaGreatLNA
namespace Go.H.S
open Go Go.Proofs Go.H
attribute [local irreducible] Tri FnSpec FnSpecM
set_option maxRecDepth 100000
set_option linter.unusedSimpArgs false
set_option linter.unusedVariables false


theorem idxL_any {α : Type} (p : α → Bool) : ∀ (l : List α) (k : Nat), (0 ≤ idxL p l k) ↔ l.any p = true
  | [], k => by simp [idxL]
  | y :: r, k => by
    simp only [idxL, List.any_cons]
    have ih := idxL_any p r (k + 1)
    cases h : p y
    · simpa using ih
    · simp


theorem slices_IndexFunc_Lint_int_0 (xs : List (Int)) (g : FuncId) (p : Int → Bool) (hp : ∀ x ∈ xs, FnSpec PR g [ai x] (ab (p x)) [] 0) (hl : xs.length ≤ 9223372036854775807) :
    FnSpec PR f_slices_IndexFunc_Lint_int [aIs xs, .c (.d (.fn g []))] (ai (idxL p xs 0)) [] 0 := by
  refine FnSpec.intro hT p_slices_IndexFunc_Lint_int rfl (by kernel_rfl) n_slices_IndexFunc_Lint_int rfl ?_
  conv => whnf
  refine tri_loop hT [0, 1, 7, 8] (α := Nat) (fun k => { t := [(0, aIs xs), (1, .c (.d (.fn g []))), (7, ai xs.length), (8, ai k)], h := [], n := 0, N := 19 })
    (fun k => k ≤ xs.length ∧ idxL p (xs.drop k) k = idxL p xs 0) (fun k => xs.length - k) 0 (by ((conv => whnf); simp only [St.mk.injEq, List.cons.injEq, Prod.mk.injEq, AV.c.injEq, AV.agg.injEq, AV.tup.injEq, CV.d.injEq, D.int.injEq, D.bool.injEq, D.str.injEq, D.sl.injEq, Ent.arr.injEq, Ent.box.injEq, true_and, and_true, and_self, nInt_eq, Int.natCast_zero, dLen_eL, sLen_eq])) ⟨Nat.zero_le _, rfl⟩ ?_
  intro k ⟨hk, hi⟩
  (conv => whnf)
  refine ifB_i (fun h1 => ?_) (fun h1 => ?_) <;> (conv => whnf) <;> simp at h1
  · obtain ⟨s, hs⟩ := get_lt h1
    rw [drop_at hs, idxL] at hi
    refine idx_at (by simp) hs ?_
    (conv => whnf)
    refine .inl ⟨_, _, _, hp s (List.mem_of_getElem? hs), rfl, ?_⟩
    (conv => whnf)
    refine ifB_i (fun h2 => ?_) (fun h2 => ?_) <;> (conv => whnf)
    · rw [if_pos h2] at hi
      ((conv => whnf); simp only [St.mk.injEq, List.cons.injEq, Prod.mk.injEq, AV.c.injEq, AV.agg.injEq, AV.tup.injEq, CV.d.injEq, D.int.injEq, D.bool.injEq, D.str.injEq, D.sl.injEq, Ent.arr.injEq, Ent.box.injEq, true_and, and_true, and_self, nInt_eq, Int.natCast_zero, dLen_eL, sLen_eq, hi])
    · rw [if_neg (by simp [h2])] at hi
      refine ⟨k + 1, by omega, ⟨h1, hi⟩, ?_⟩
      ((conv => whnf); simp only [St.mk.injEq, List.cons.injEq, Prod.mk.injEq, AV.c.injEq, AV.agg.injEq, AV.tup.injEq, CV.d.injEq, D.int.injEq, D.bool.injEq, D.str.injEq, D.sl.injEq, Ent.arr.injEq, Ent.box.injEq, true_and, and_true, and_self, nInt_eq, Int.natCast_zero, dLen_eL, sLen_eq, wI h1 hl])
  · obtain rfl : k = xs.length := by omega
    simp only [List.drop_length, idxL] at hi
    ((conv => whnf); simp only [St.mk.injEq, List.cons.injEq, Prod.mk.injEq, AV.c.injEq, AV.agg.injEq, AV.tup.injEq, CV.d.injEq, D.int.injEq, D.bool.injEq, D.str.injEq, D.sl.injEq, Ent.arr.injEq, Ent.box.injEq, true_and, and_true, and_self, nInt_eq, Int.natCast_zero, dLen_eL, sLen_eq, ← hi])


theorem slices_ContainsFunc_Lint_int_0 (xs : List (Int)) (g : FuncId) (p : Int → Bool) (hp : ∀ x ∈ xs, FnSpec PR g [ai x] (ab (p x)) [] 0) (hl : xs.length ≤ 9223372036854775807) :
    FnSpec PR f_slices_ContainsFunc_Lint_int [aIs xs, .c (.d (.fn g []))] (ab (xs.any p)) [] 0 := by
  refine FnSpec.intro hT p_slices_ContainsFunc_Lint_int rfl (by kernel_rfl) n_slices_ContainsFunc_Lint_int rfl ?_
  conv => whnf
  refine .inl ⟨_, _, _, slices_IndexFunc_Lint_int_0 xs g  p hp hl, rfl, ?_⟩
  (conv => whnf)
  have h := idxL_any p xs 0
  cases hb : xs.any p
  · rw [hb] at h
    ((conv => whnf); simp only [St.mk.injEq, List.cons.injEq, Prod.mk.injEq, AV.c.injEq, AV.agg.injEq, AV.tup.injEq, CV.d.injEq, D.int.injEq, D.bool.injEq, D.str.injEq, D.sl.injEq, Ent.arr.injEq, Ent.box.injEq, true_and, and_true, and_self, nInt_eq, Int.natCast_zero, dLen_eL, sLen_eq, iLe])
    simpa using h
  · rw [hb] at h
    ((conv => whnf); simp only [St.mk.injEq, List.cons.injEq, Prod.mk.injEq, AV.c.injEq, AV.agg.injEq, AV.tup.injEq, CV.d.injEq, D.int.injEq, D.bool.injEq, D.str.injEq, D.sl.injEq, Ent.arr.injEq, Ent.box.injEq, true_and, and_true, and_self, nInt_eq, Int.natCast_zero, dLen_eL, sLen_eq, iLe])
    simpa using h


theorem slices_IndexFunc_Lint_int_1 (xs : List (Int)) (g : FuncId) (d0 : D) (p : Int → Bool) (hp : ∀ x ∈ xs, FnSpec PR g [ai x, .c (.d d0)] (ab (p x)) [] 0) (hl : xs.length ≤ 9223372036854775807) :
    FnSpec PR f_slices_IndexFunc_Lint_int [aIs xs, .c (.d (.fn g [d0]))] (ai (idxL p xs 0)) [] 0 := by
  refine FnSpec.intro hT p_slices_IndexFunc_Lint_int rfl (by kernel_rfl) n_slices_IndexFunc_Lint_int rfl ?_
  conv => whnf
  refine tri_loop hT [0, 1, 7, 8] (α := Nat) (fun k => { t := [(0, aIs xs), (1, .c (.d (.fn g [d0]))), (7, ai xs.length), (8, ai k)], h := [], n := 0, N := 19 })
    (fun k => k ≤ xs.length ∧ idxL p (xs.drop k) k = idxL p xs 0) (fun k => xs.length - k) 0 (by ((conv => whnf); simp only [St.mk.injEq, List.cons.injEq, Prod.mk.injEq, AV.c.injEq, AV.agg.injEq, AV.tup.injEq, CV.d.injEq, D.int.injEq, D.bool.injEq, D.str.injEq, D.sl.injEq, Ent.arr.injEq, Ent.box.injEq, true_and, and_true, and_self, nInt_eq, Int.natCast_zero, dLen_eL, sLen_eq])) ⟨Nat.zero_le _, rfl⟩ ?_
  intro k ⟨hk, hi⟩
  (conv => whnf)
  refine ifB_i (fun h1 => ?_) (fun h1 => ?_) <;> (conv => whnf) <;> simp at h1
  · obtain ⟨s, hs⟩ := get_lt h1
    rw [drop_at hs, idxL] at hi
    refine idx_at (by simp) hs ?_
    (conv => whnf)
    refine .inl ⟨_, _, _, hp s (List.mem_of_getElem? hs), rfl, ?_⟩
    (conv => whnf)
    refine ifB_i (fun h2 => ?_) (fun h2 => ?_) <;> (conv => whnf)
    · rw [if_pos h2] at hi
      ((conv => whnf); simp only [St.mk.injEq, List.cons.injEq, Prod.mk.injEq, AV.c.injEq, AV.agg.injEq, AV.tup.injEq, CV.d.injEq, D.int.injEq, D.bool.injEq, D.str.injEq, D.sl.injEq, Ent.arr.injEq, Ent.box.injEq, true_and, and_true, and_self, nInt_eq, Int.natCast_zero, dLen_eL, sLen_eq, hi])
    · rw [if_neg (by simp [h2])] at hi
      refine ⟨k + 1, by omega, ⟨h1, hi⟩, ?_⟩
      ((conv => whnf); simp only [St.mk.injEq, List.cons.injEq, Prod.mk.injEq, AV.c.injEq, AV.agg.injEq, AV.tup.injEq, CV.d.injEq, D.int.injEq, D.bool.injEq, D.str.injEq, D.sl.injEq, Ent.arr.injEq, Ent.box.injEq, true_and, and_true, and_self, nInt_eq, Int.natCast_zero, dLen_eL, sLen_eq, wI h1 hl])
  · obtain rfl : k = xs.length := by omega
    simp only [List.drop_length, idxL] at hi
    ((conv => whnf); simp only [St.mk.injEq, List.cons.injEq, Prod.mk.injEq, AV.c.injEq, AV.agg.injEq, AV.tup.injEq, CV.d.injEq, D.int.injEq, D.bool.injEq, D.str.injEq, D.sl.injEq, Ent.arr.injEq, Ent.box.injEq, true_and, and_true, and_self, nInt_eq, Int.natCast_zero, dLen_eL, sLen_eq, ← hi])


theorem slices_ContainsFunc_Lint_int_1 (xs : List (Int)) (g : FuncId) (d0 : D) (p : Int → Bool) (hp : ∀ x ∈ xs, FnSpec PR g [ai x, .c (.d d0)] (ab (p x)) [] 0) (hl : xs.length ≤ 9223372036854775807) :
    FnSpec PR f_slices_ContainsFunc_Lint_int [aIs xs, .c (.d (.fn g [d0]))] (ab (xs.any p)) [] 0 := by
  refine FnSpec.intro hT p_slices_ContainsFunc_Lint_int rfl (by kernel_rfl) n_slices_ContainsFunc_Lint_int rfl ?_
  conv => whnf
  refine .inl ⟨_, _, _, slices_IndexFunc_Lint_int_1 xs g d0 p hp hl, rfl, ?_⟩
  (conv => whnf)
  have h := idxL_any p xs 0
  cases hb : xs.any p
  · rw [hb] at h
    ((conv => whnf); simp only [St.mk.injEq, List.cons.injEq, Prod.mk.injEq, AV.c.injEq, AV.agg.injEq, AV.tup.injEq, CV.d.injEq, D.int.injEq, D.bool.injEq, D.str.injEq, D.sl.injEq, Ent.arr.injEq, Ent.box.injEq, true_and, and_true, and_self, nInt_eq, Int.natCast_zero, dLen_eL, sLen_eq, iLe])
    simpa using h
  · rw [hb] at h
    ((conv => whnf); simp only [St.mk.injEq, List.cons.injEq, Prod.mk.injEq, AV.c.injEq, AV.agg.injEq, AV.tup.injEq, CV.d.injEq, D.int.injEq, D.bool.injEq, D.str.injEq, D.sl.injEq, Ent.arr.injEq, Ent.box.injEq, true_and, and_true, and_self, nInt_eq, Int.natCast_zero, dLen_eL, sLen_eq, iLe])
    simpa using h
end Go.H.S
namespace Go.H.S
open Go Go.Proofs Go.H
attribute [local irreducible] Tri FnSpec FnSpecM
set_option maxRecDepth 100000
set_option linter.unusedSimpArgs false
set_option linter.unusedVariables false

def brought (x lo hi : Int) : Int := if x < lo then lo else if hi < x then hi else x

theorem spec_Brought_spec (x lo hi : Int) : FnSpec PR f_spec_Brought [ai x, ai lo, ai hi] (ai (brought x lo hi)) [] 0 := by
  refine FnSpec.intro hT p_spec_Brought rfl (by kernel_rfl) n_spec_Brought rfl ?_
  conv => whnf
  refine ifB_i (fun h => ?_) (fun h => ?_) <;> (conv => whnf) <;> simp only [nInt_eq, Int.natCast_zero, dLen_eL, sLen_eq, nOf_eq, Int.toNat_natCast, nAdd_eq, nSub_eq, dLen_nil, dLen_cons, iLt_t, iLt_f, iLe_t, iLe_f, iEq_t, iEq_f, sEq_t, sEq_f, bNot_t, bNot_f, bAnd_t, bEq_t, bEq_f, Bool.not_eq_true, Bool.not_eq_false, Bool.true_eq_false, Bool.false_eq_true] at h
  · ((conv => whnf); simp only [St.mk.injEq, List.cons.injEq, Prod.mk.injEq, AV.c.injEq, AV.agg.injEq, AV.tup.injEq, CV.d.injEq, D.int.injEq, D.bool.injEq, D.str.injEq, D.sl.injEq, Ent.arr.injEq, Ent.box.injEq, true_and, and_true, and_self, nInt_eq, Int.natCast_zero, dLen_eL, sLen_eq])
    simp only [brought]
    rw [if_pos (by omega)]
  · refine ifB_i (fun h2 => ?_) (fun h2 => ?_) <;> (conv => whnf) <;> simp only [nInt_eq, Int.natCast_zero, dLen_eL, sLen_eq, nOf_eq, Int.toNat_natCast, nAdd_eq, nSub_eq, dLen_nil, dLen_cons, iLt_t, iLt_f, iLe_t, iLe_f, iEq_t, iEq_f, sEq_t, sEq_f, bNot_t, bNot_f, bAnd_t, bEq_t, bEq_f, Bool.not_eq_true, Bool.not_eq_false, Bool.true_eq_false, Bool.false_eq_true] at h2 <;> ((conv => whnf); simp only [St.mk.injEq, List.cons.injEq, Prod.mk.injEq, AV.c.injEq, AV.agg.injEq, AV.tup.injEq, CV.d.injEq, D.int.injEq, D.bool.injEq, D.str.injEq, D.sl.injEq, Ent.arr.injEq, Ent.box.injEq, true_and, and_true, and_self, nInt_eq, Int.natCast_zero, dLen_eL, sLen_eq]) <;> simp only [brought]
    · rw [if_neg (by omega), if_pos (by omega)]
    · rw [if_neg (by omega), if_neg (by omega)]

def depthK (t : List Nd) : Nat → Int
  | 0 => -1
  | k + 1 => max (depthK t k) (levelL t k)
theorem spec_DepthOf_spec (t : List Nd) (hl : t.length ≤ 1048576) : FnSpec PR f_spec_DepthOf [aT t] (ai (depthK t t.length)) [] 0 := by
  refine FnSpec.intro hT p_spec_DepthOf rfl (by kernel_rfl) n_spec_DepthOf rfl ?_
  conv => whnf
  refine tri_loop hT [1, 3, 4] (α := Nat) (fun x => { t := [(1, .c (.ptr 0 0)), (3, ai (depthK t x)), (4, ai x)], h := [(0, .box t_impl_Tree (cTr t))], n := 1, N := 18 })
    (fun x => x ≤ t.length) (fun x => t.length - x) 0 (by ((conv => whnf); simp only [St.mk.injEq, List.cons.injEq, Prod.mk.injEq, AV.c.injEq, AV.agg.injEq, AV.tup.injEq, CV.d.injEq, D.int.injEq, D.bool.injEq, D.str.injEq, D.sl.injEq, Ent.arr.injEq, Ent.box.injEq, true_and, and_true, and_self, nInt_eq, Int.natCast_zero, dLen_eL, sLen_eq, depthK])) (Nat.zero_le _) ?_
  intro k hk
  (conv => whnf)
  refine ifB_i (fun h1 => ?_) (fun h1 => ?_) <;> (conv => whnf) <;> simp at h1
  · refine .inl ⟨_, _, _, spec_LevelOf_spec t k (by omega), rfl, ?_⟩
    (conv => whnf)
    refine .inl ⟨_, _, _, spec_l1Max_spec _ _, rfl, ?_⟩
    (conv => whnf)
    refine ⟨k + 1, by omega, h1, ?_⟩
    ((conv => whnf); simp only [St.mk.injEq, List.cons.injEq, Prod.mk.injEq, AV.c.injEq, AV.agg.injEq, AV.tup.injEq, CV.d.injEq, D.int.injEq, D.bool.injEq, D.str.injEq, D.sl.injEq, Ent.arr.injEq, Ent.box.injEq, true_and, and_true, and_self, nInt_eq, Int.natCast_zero, dLen_eL, sLen_eq, wI h1 (by omega), depthK])
  · obtain rfl : k = t.length := by omega
    (conv => whnf)

theorem spec_l6Value_spec (x : Int) : FnSpec PR f_spec_l6Value [ai x] (ab (decide (-2147483647 ≤ x ∧ x ≤ 2147483647))) [] 0 := by
  refine FnSpec.intro hT p_spec_l6Value rfl (by kernel_rfl) n_spec_l6Value rfl ?_
  conv => whnf
  refine .inl ⟨_, _, _, spec_l1In_spec _ _ _, rfl, ?_⟩
  (conv => whnf)

theorem spec_l14Leaf_spec (x : Int) : FnSpec PR f_spec_l14Leaf [ai x] (ab (decide (-1099511627776 ≤ x ∧ x ≤ 1099511627776))) [] 0 := by
  refine FnSpec.intro hT p_spec_l14Leaf rfl (by kernel_rfl) n_spec_l14Leaf rfl ?_
  conv => whnf
  refine .inl ⟨_, _, _, spec_l1In_spec _ _ _, rfl, ?_⟩
  (conv => whnf)
end Go.H.S
namespace Go.H.S
open Go Go.Proofs Go.H
attribute [local irreducible] Tri FnSpec FnSpecM
set_option maxRecDepth 100000
set_option linter.unusedSimpArgs false
set_option linter.unusedVariables false


def leafBad (n : Nd) : Bool := decide (n ≠ ⟨-1, 0, 0, 0, n.v⟩) || !decide (-1099511627776 ≤ n.v ∧ n.v ≤ 1099511627776)
def innerBad (n : Nd) (ft i next : Int) : Bool := decide (¬ (0 ≤ n.f ∧ n.f ≤ ft - 1)) || decide (¬ (-2147483647 ≤ n.c ∧ n.c ≤ 2147483647)) || decide (n.v ≠ 0) || decide (n.l ≠ next) || decide (n.r ≠ next + 1) || decide (n.l ≤ i)
def shapeL (ft : Int) : List Nd → Int → Int → Option Int
  | [], i, next => some next
  | n :: r, i, next => if n.f = -1 then (if leafBad n then none else shapeL ft r (i + 1) next) else if innerBad n ft i next then none else shapeL ft r (i + 1) (next + 2)
def shapeOk (t : List Nd) (ft : Int) : Bool := decide (shapeL ft t 0 1 = some (t.length : Int))
theorem shape_bad {t : List Nd} {ft : Int} (h : none = shapeL ft t 0 1) : shapeOk t ft = false := by simp [shapeOk, ← h]
theorem spec_l17Shape_spec (t : List Nd) (ft : Int) (hft : 0 ≤ ft ∧ ft ≤ 4) (hl : t.length ≤ 1048576) : FnSpec PR f_spec_l17Shape [aT t, ai ft] (ab (shapeOk t ft)) [] 0 := by
  refine FnSpec.intro hT p_spec_l17Shape rfl (by kernel_rfl) n_spec_l17Shape rfl ?_
  conv => whnf
  refine tri_loop hT [1, 2, 5, 6] (α := Nat × Nat) (fun x => { t := [(1, ai ft), (2, .c (.ptr 0 0)), (5, ai x.2), (6, ai x.1)], h := [(0, .box t_impl_Tree (cTr t))], n := 1, N := 77 })
    (fun x => x.1 ≤ t.length ∧ x.2 ≤ 2 * x.1 + 1 ∧ shapeL ft (t.drop x.1) x.1 x.2 = shapeL ft t 0 1) (fun x => t.length - x.1) (0, 1) (by ((conv => whnf); simp only [St.mk.injEq, List.cons.injEq, Prod.mk.injEq, AV.c.injEq, AV.agg.injEq, AV.tup.injEq, CV.d.injEq, D.int.injEq, D.bool.injEq, D.str.injEq, D.sl.injEq, Ent.arr.injEq, Ent.box.injEq, true_and, and_true, and_self, nInt_eq, Int.natCast_zero, dLen_eL, sLen_eq]); rfl) ⟨Nat.zero_le _, by simp, by simp⟩ ?_
  intro ⟨k, nx⟩ ⟨hk, hx, hs⟩
  dsimp only at hk hx hs
  (conv => whnf)
  refine ifB_i (fun h1 => ?_) (fun h1 => ?_) <;> (conv => whnf) <;> simp at h1
  · obtain ⟨n, hn⟩ := get_lt h1
    rw [drop_at hn, shapeL] at hs
    refine idx_at (by simp) hn ?_
    (conv => whnf)
    refine .inl ⟨_, _, _, spec_l17Inner_spec n, rfl, ?_⟩
    (conv => whnf)
    refine ifB_i (fun h2 => ?_) (fun h2 => ?_) <;> (conv => whnf) <;> simp only [nInt_eq, Int.natCast_zero, dLen_eL, sLen_eq, nOf_eq, Int.toNat_natCast, nAdd_eq, nSub_eq, dLen_nil, dLen_cons, iLt_t, iLt_f, iLe_t, iLe_f, iEq_t, iEq_f, sEq_t, sEq_f, bNot_t, bNot_f, bAnd_t, bEq_t, bEq_f, Bool.not_eq_true, Bool.not_eq_false, Bool.true_eq_false, Bool.false_eq_true] at h2
    · have hf : n.f = -1 := by simpa [bNot, iEq] using h2
      rw [if_pos hf] at hs
      generalize hb : bNot (bAnd (iEq n.f (-1)) (bAnd (iEq n.c 0) (bAnd (iEq n.l 0) (bAnd (iEq n.r 0) (bAnd (iEq n.v n.v) true))))) = b
      cases b <;> (conv => whnf)
      · refine .inl ⟨_, _, _, spec_l14Leaf_spec n.v, rfl, ?_⟩
        (conv => whnf)
        generalize hb2 : decide (-1099511627776 ≤ n.v ∧ n.v ≤ 1099511627776) = b2
        cases b2 <;> (conv => whnf)
        · have hlb : leafBad n = true := by simp [leafBad, hb2]
          rw [if_pos hlb] at hs
          rw [shape_bad hs]
        · have hlb : leafBad n = false := by
            obtain ⟨f, c, l, r, v⟩ := n
            simp only [leafBad, hb2]
            simp_all [bNot, bAnd, iEq]
          rw [hlb] at hs
          refine ⟨(k + 1, nx), by dsimp only; omega, ⟨h1, by dsimp only; omega, by simpa using hs⟩, ?_⟩
          ((conv => whnf); simp only [St.mk.injEq, List.cons.injEq, Prod.mk.injEq, AV.c.injEq, AV.agg.injEq, AV.tup.injEq, CV.d.injEq, D.int.injEq, D.bool.injEq, D.str.injEq, D.sl.injEq, Ent.arr.injEq, Ent.box.injEq, true_and, and_true, and_self, nInt_eq, Int.natCast_zero, dLen_eL, sLen_eq, wI h1 (by omega)])
      · have hlb : leafBad n = true := by
          obtain ⟨f, c, l, r, v⟩ := n
          simp only [leafBad]
          simp_all [bNot, bAnd, iEq]
        rw [if_pos hlb] at hs
        rw [shape_bad hs]
    · have hf : ¬ n.f = -1 := by simpa [bNot, iEq] using h2
      rw [if_neg hf] at hs
      refine .inl ⟨_, _, _, spec_l1In_spec _ _ _, rfl, ?_⟩
      rw [show wSub .i64 ft 1 = ft - 1 from wSub64 (by omega) (by omega)]
      (conv => whnf)
      generalize hb1 : decide (0 ≤ n.f ∧ n.f ≤ ft - 1) = b1
      cases b1 <;> (conv => whnf)
      · have hib : innerBad n ft k nx = true := by
          have : ¬ (0 ≤ n.f ∧ n.f ≤ ft - 1) := by simpa using hb1
          simp [innerBad, this]
        rw [if_pos hib] at hs
        rw [shape_bad hs]
      · refine .inl ⟨_, _, _, spec_l6Value_spec _, rfl, ?_⟩
        (conv => whnf)
        generalize hb2 : decide (-2147483647 ≤ n.c ∧ n.c ≤ 2147483647) = b2
        cases b2 <;> (conv => whnf)
        · have hib : innerBad n ft k nx = true := by
            have : ¬ (-2147483647 ≤ n.c ∧ n.c ≤ 2147483647) := by simpa using hb2
            simp [innerBad, this]
          rw [if_pos hib] at hs
          rw [shape_bad hs]
        · generalize hb3 : iEq n.v 0 = b3
          cases b3 <;> (conv => whnf)
          · have hib : innerBad n ft k nx = true := by
              have : ¬ n.v = 0 := by simpa [iEq] using hb3
              simp [innerBad, this]
            rw [if_pos hib] at hs
            rw [shape_bad hs]
          generalize hb4 : iEq n.l (nx : Int) = b4
          cases b4 <;> (conv => whnf)
          · have hib : innerBad n ft k nx = true := by
              have : ¬ n.l = nx := by simpa [iEq] using hb4
              simp [innerBad, this]
            rw [if_pos hib] at hs
            rw [shape_bad hs]
          rw [show wAdd .i64 (nx : Int) 1 = nx + 1 from wAdd64 (by omega) (by omega)]
          generalize hb5 : iEq n.r ((nx : Int) + 1) = b5
          cases b5 <;> (conv => whnf)
          · have hib : innerBad n ft k nx = true := by
              have : ¬ n.r = nx + 1 := by simpa [iEq] using hb5
              simp [innerBad, this]
            rw [if_pos hib] at hs
            rw [shape_bad hs]
          generalize hb6 : iLe n.l ((k, nx).fst : Int) = b6
          dsimp only at hb6
          cases b6 <;> (conv => whnf)
          rotate_left
          · have hib : innerBad n ft k nx = true := by
              have : n.l ≤ k := by simpa [iLe] using hb6
              simp [innerBad, this]
            rw [if_pos hib] at hs
            rw [shape_bad hs]
          have hib : innerBad n ft k nx = false := by
            have q3 : n.v = 0 := by simpa [iEq] using hb3
            have q4 : n.l = nx := by simpa [iEq] using hb4
            have q5 : n.r = nx + 1 := by simpa [iEq] using hb5
            have q6 : ¬ n.l ≤ k := by simpa [iLe] using hb6
            have q1 : 0 ≤ n.f ∧ n.f ≤ ft - 1 := by simpa using hb1
            have q2 : -2147483647 ≤ n.c ∧ n.c ≤ 2147483647 := by simpa using hb2
            simp [innerBad, q1, q2, q3, q4, q5]
            omega
          rw [hib] at hs
          refine ⟨(k + 1, nx + 2), by dsimp only; omega, ⟨h1, by dsimp only; omega, by simpa using hs⟩, ?_⟩
          ((conv => whnf); simp only [St.mk.injEq, List.cons.injEq, Prod.mk.injEq, AV.c.injEq, AV.agg.injEq, AV.tup.injEq, CV.d.injEq, D.int.injEq, D.bool.injEq, D.str.injEq, D.sl.injEq, Ent.arr.injEq, Ent.box.injEq, true_and, and_true, and_self, nInt_eq, Int.natCast_zero, dLen_eL, sLen_eq, wI h1 (by omega), wAdd64 (show -9223372036854775808 ≤ (nx : Int) + 2 by omega) (by omega), Int.natCast_add, Int.cast_ofNat_Int])
  · obtain rfl : k = t.length := by omega
    simp only [List.drop_length, shapeL] at hs
    ((conv => whnf); simp only [St.mk.injEq, List.cons.injEq, Prod.mk.injEq, AV.c.injEq, AV.agg.injEq, AV.tup.injEq, CV.d.injEq, D.int.injEq, D.bool.injEq, D.str.injEq, D.sl.injEq, Ent.arr.injEq, Ent.box.injEq, true_and, and_true, and_self, nInt_eq, Int.natCast_zero, dLen_eL, sLen_eq])
    simp only [shapeOk, ← hs, iEq, Option.some.injEq]
end Go.H.S
namespace Go.H.S
open Go Go.Proofs Go.H
set_option linter.unusedSimpArgs false
set_option linter.unusedVariables false


theorem shape_leaf {ft : Int} : ∀ {l : List Nd} {i next m : Int}, shapeL ft l i next = some m → ∀ {j : Nat} {n : Nd}, l[j]? = some n → n.f = -1 → leafBad n = false
  | [], i, next, m, h, j, n, hj, hf => by simp at hj
  | x :: r, i, next, m, h, j, n, hj, hf => by
    simp only [shapeL] at h
    cases j with
    | zero =>
      simp at hj
      subst hj
      rw [if_pos hf] at h
      cases hb : leafBad x with
      | false => rfl
      | true => simp [hb] at h
    | succ j =>
      rw [List.getElem?_cons_succ] at hj
      split at h
      · split at h
        · cases h
        · exact shape_leaf h hj hf
      · split at h
        · cases h
        · exact shape_leaf h hj hf
theorem shape_inner {ft : Int} : ∀ {l : List Nd} {i next m : Int}, shapeL ft l i next = some m → ∀ {j : Nat} {n : Nd}, l[j]? = some n → n.f ≠ -1 → ∃ nx, next ≤ nx ∧ nx + 2 ≤ m ∧ innerBad n ft (i + j) nx = false
  | [], i, next, m, h, j, n, hj, hf => by simp at hj
  | x :: r, i, next, m, h, j, n, hj, hf => by
    have mono : ∀ {l : List Nd} {i a b : Int}, shapeL ft l i a = some b → a ≤ b := by
      intro l
      induction l with
      | nil => intro i a b h; simp [shapeL] at h; omega
      | cons y s ih =>
        intro i a b h
        simp only [shapeL] at h
        split at h
        · split at h
          · cases h
          · exact ih h
        · split at h
          · cases h
          · have := ih h; omega
    simp only [shapeL] at h
    cases j with
    | zero =>
      simp at hj
      subst hj
      rw [if_neg hf] at h
      cases hb : innerBad x ft i next with
      | false =>
        rw [hb] at h
        simp at h
        exact ⟨next, Int.le_refl _, mono h, by simpa using hb⟩
      | true => simp [hb] at h
    | succ j =>
      rw [List.getElem?_cons_succ] at hj
      split at h
      · split at h
        · cases h
        · obtain ⟨nx, h1, h2, h3⟩ := shape_inner h hj hf
          exact ⟨nx, h1, h2, by rw [show i + ((j + 1 : Nat) : Int) = i + 1 + j by omega]; exact h3⟩
      · split at h
        · cases h
        · obtain ⟨nx, h1, h2, h3⟩ := shape_inner h hj hf
          exact ⟨nx, by omega, h2, by rw [show i + ((j + 1 : Nat) : Int) = i + 1 + j by omega]; exact h3⟩
/-- An inner node of a right tree: its children lie behind it, within the tree. -/
theorem shape_kids {t : List Nd} {ft : Int} (h : shapeOk t ft = true) {j : Nat} {n : Nd} (hj : t[j]? = some n) (hf : n.f ≠ -1) :
    0 ≤ n.f ∧ n.f < ft ∧ n.v = 0 ∧ (j : Int) < n.l ∧ n.r = n.l + 1 ∧ n.r < t.length ∧ -2147483647 ≤ n.c ∧ n.c ≤ 2147483647 := by
  have hs : shapeL ft t 0 1 = some (t.length : Int) := by simpa [shapeOk] using h
  obtain ⟨nx, h1, h2, h3⟩ := shape_inner hs hj hf
  simp [innerBad] at h3
  omega
theorem shape_value {t : List Nd} {ft : Int} (h : shapeOk t ft = true) {j : Nat} {n : Nd} (hj : t[j]? = some n) (hf : n.f = -1) :
    -1099511627776 ≤ n.v ∧ n.v ≤ 1099511627776 := by
  have hs : shapeL ft t 0 1 = some (t.length : Int) := by simpa [shapeOk] using h
  have h3 := shape_leaf hs hj hf
  simp [leafBad] at h3
  omega
/-- Children come in order, each once. -/
theorem shape_order {ft : Int} : ∀ {l : List Nd} {i next m : Int}, shapeL ft l i next = some m → ∀ {j j' : Nat} {n n' : Nd}, l[j]? = some n → l[j']? = some n' → n.f ≠ -1 → n'.f ≠ -1 → j < j' → n.l + 2 ≤ n'.l
  | [], i, next, m, h, j, j', n, n', hj, hj', hf, hf', hlt => by simp at hj
  | x :: r, i, next, m, h, j, j', n, n', hj, hj', hf, hf', hlt => by
    obtain ⟨k, rfl⟩ : ∃ k, j' = k + 1 := ⟨j' - 1, by omega⟩
    rw [List.getElem?_cons_succ] at hj'
    simp only [shapeL] at h
    cases j with
    | zero =>
      simp at hj
      subst hj
      rw [if_neg hf] at h
      cases hb : innerBad x ft i next with
      | true => simp [hb] at h
      | false =>
        rw [hb] at h
        simp at h
        obtain ⟨nx, h1, h2, h3⟩ := shape_inner h hj' hf'
        simp [innerBad] at h3 hb
        omega
    | succ j =>
      rw [List.getElem?_cons_succ] at hj
      split at h
      · split at h
        · cases h
        · exact shape_order h hj hj' hf hf' (by omega)
      · split at h
        · cases h
        · exact shape_order h hj hj' hf hf' (by omega)
theorem shape_once {t : List Nd} {ft : Int} (h : shapeOk t ft = true) {j j' : Nat} {n n' : Nd} (hj : t[j]? = some n) (hj' : t[j']? = some n') (hf : n.f ≠ -1) (hf' : n'.f ≠ -1) {x : Int}
    (hx : n.l = x ∨ n.r = x) (hx' : n'.l = x ∨ n'.r = x) : j = j' := by
  have hs : shapeL ft t 0 1 = some (t.length : Int) := by simpa [shapeOk] using h
  have k1 := shape_kids h hj hf
  have k2 := shape_kids h hj' hf'
  rcases Nat.lt_trichotomy j j' with q | q | q
  · have := shape_order hs hj hj' hf hf' q
    omega
  · exact q
  · have := shape_order hs hj' hj hf' hf q
    omega
theorem idxL_at {α : Type} (p : α → Bool) : ∀ (l : List α) (k : Nat), 0 ≤ idxL p l k → ∃ (j : Nat) (x : α), idxL p l k = k + j ∧ l[j]? = some x ∧ p x = true
  | [], k, h => by simp [idxL] at h
  | x :: r, k, h => by
    simp only [idxL] at h ⊢
    split
    · exact ⟨0, x, by simp, rfl, by assumption⟩
    · rename_i hp
      rw [if_neg hp] at h
      obtain ⟨j, y, h1, h2, h3⟩ := idxL_at p r (k + 1) h
      exact ⟨j + 1, y, by rw [h1]; omega, by rw [List.getElem?_cons_succ]; exact h2, h3⟩
theorem idxL_ge {α : Type} (p : α → Bool) : ∀ (l : List α) (k : Nat) {j : Nat} {x : α}, l[j]? = some x → p x = true → 0 ≤ idxL p l k
  | [], k, j, x, h, hp => by simp at h
  | y :: r, k, j, x, h, hp => by
    simp only [idxL]
    split
    · omega
    · cases j with
      | zero => simp at h; subst h; contradiction
      | succ j => rw [List.getElem?_cons_succ] at h; exact idxL_ge p r (k + 1) h hp
/-- The parent, where there is one. -/
theorem up_at {t : List Nd} {ft : Int} (h : shapeOk t ft = true) {x : Int} (hx : 0 ≤ up t x) : ∃ (j : Nat) (n : Nd), up t x = j ∧ t[j]? = some n ∧ n.f ≠ -1 ∧ (n.l = x ∨ n.r = x) ∧ up t x < x := by
  obtain ⟨j, n, h1, h2, h3⟩ := idxL_at _ _ _ hx
  have h3' : n.f ≠ -1 ∧ (n.l = x ∨ n.r = x) := by simpa [pUp] using h3
  have hk := shape_kids h h2 h3'.1
  have hu : up t x = j := by unfold up; rw [h1]; simp
  exact ⟨j, n, hu, h2, h3'.1, h3'.2, by omega⟩
theorem up_kid {t : List Nd} {ft : Int} (h : shapeOk t ft = true) {j : Nat} {n : Nd} (hj : t[j]? = some n) (hf : n.f ≠ -1) {x : Int} (hx : n.l = x ∨ n.r = x) : up t x = j := by
  have h0 : 0 ≤ up t x := idxL_ge _ _ _ hj (by simp only [pUp, Bool.and_eq_true, Bool.or_eq_true, decide_eq_true_eq]; exact ⟨hf, hx⟩)
  obtain ⟨j', n', h1, h2, h3, h4, _⟩ := up_at h h0
  rw [h1, shape_once h h2 hj h3 hf h4 hx]
/-- z lies on the way from x to the root. -/
inductive Anc (t : List Nd) : Int → Int → Prop
  | refl (x : Int) : Anc t x x
  | up {z x : Int} : 0 ≤ up t x → Anc t z (up t x) → Anc t z x
theorem steps_anc {t : List Nd} {ft : Int} (h : shapeOk t ft = true) : ∀ (n : Nat) (x : Int), x < n → ∃ l, steps t (n + 1) x = some l ∧ ∀ z, z ∈ l ↔ Anc t z x := by
  intro n
  induction n with
  | zero =>
    intro x hx
    have hneg : up t x < 0 := by
      rcases Int.lt_or_le (up t x) 0 with q | q
      · exact q
      · obtain ⟨_, _, _, _, _, _, q2⟩ := up_at h q
        omega
    refine ⟨[x], by simp [steps, hneg], fun z => ?_⟩
    constructor
    · intro hz; simp at hz; subst hz; exact .refl _
    · intro hz
      cases hz with
      | refl => simp
      | up q _ => omega
  | succ n ih =>
    intro x hx
    rcases Int.lt_or_le (up t x) 0 with q | q
    · refine ⟨[x], by simp [steps, q], fun z => ?_⟩
      constructor
      · intro hz; simp at hz; subst hz; exact .refl _
      · intro hz
        cases hz with
        | refl => simp
        | up q' _ => omega
    · obtain ⟨_, _, _, _, _, _, q2⟩ := up_at h q
      obtain ⟨l, h1, h2⟩ := ih (up t x) (by omega)
      refine ⟨x :: l, ?_, fun z => ?_⟩
      · rw [steps, if_neg (by omega), h1]; rfl
      · rw [List.mem_cons, h2]
        constructor
        · rintro (rfl | hz)
          · exact .refl _
          · exact .up q hz
        · intro hz
          cases hz with
          | refl => exact .inl rfl
          | up _ hz => exact .inr hz
theorem Anc.trans {t : List Nd} {a b c : Int} (h1 : Anc t a b) (h2 : Anc t b c) : Anc t a c := by
  induction h2 with
  | refl => exact h1
  | up q _ ih => exact .up q ih
theorem anc_below {t : List Nd} {x y : Int} (h : Anc t x y) : x = y ∨ ∃ c, 0 ≤ up t c ∧ up t c = x ∧ Anc t c y := by
  induction h with
  | refl => exact .inl rfl
  | @up y q h ih =>
    rcases ih with e | ⟨c, h1, h2, h3⟩
    · exact .inr ⟨y, q, e.symm, .refl _⟩
    · exact .inr ⟨c, h1, h2, .up q h3⟩
theorem anc_kid {t : List Nd} {ft : Int} (h : shapeOk t ft = true) {j : Nat} {n : Nd} (hj : t[j]? = some n) (hf : n.f ≠ -1) {y : Int} (hy : y ≠ j) : Anc t j y ↔ Anc t n.l y ∨ Anc t n.r y := by
  constructor
  · intro ha
    rcases anc_below ha with e | ⟨c, h1, h2, h3⟩
    · exact absurd e.symm hy
    · obtain ⟨j', n', q1, q2, q3, q4, _⟩ := up_at h h1
      obtain rfl : j' = j := by omega
      rw [hj] at q2
      cases q2
      rcases q4 with rfl | rfl
      · exact .inl h3
      · exact .inr h3
  · have hl : Anc t j n.l := .up (by rw [up_kid h hj hf (.inl rfl)]; omega) (by rw [up_kid h hj hf (.inl rfl)]; exact .refl _)
    have hr : Anc t j n.r := .up (by rw [up_kid h hj hf (.inr rfl)]; omega) (by rw [up_kid h hj hf (.inr rfl)]; exact .refl _)
    rintro (ha | ha)
    · exact hl.trans ha
    · exact hr.trans ha
theorem way_anc {t : List Nd} {ft : Int} (h : shapeOk t ft = true) (hl : t.length ≤ 31) {x : Int} (hx : 0 ≤ x ∧ x < t.length) (z : Int) : z ∈ wayL t x ↔ Anc t z x := by
  obtain ⟨l, h1, h2⟩ := steps_anc h 31 x (by omega)
  unfold wayL
  rw [if_pos (by omega), h1]
  simp [h2]
end Go.H.S
namespace Go.H.S
open Go Go.Proofs Go.H
attribute [local irreducible] Tri FnSpec FnSpecM FnSpecX
set_option maxRecDepth 100000
set_option linter.unusedSimpArgs false
set_option linter.unusedVariables false


/-- On a way: node b lies above a, and asks the same of the feature as n again. -/
def badP (t : List Nd) (n : Nd) (b a : Int) : Bool :=
  match t[b.toNat]? with
  | some x => iEq x.f n.f && (iEq x.r a && iLe n.c x.c || iEq x.l a && iLe x.c n.c)
  | none => false
def chainBad (t : List Nd) (n : Nd) : List Int → Bool
  | a :: b :: r => badP t n b a || chainBad t n (b :: r)
  | _ => false
def nodeBad (t : List Nd) (k : Int) (n : Nd) : Bool :=
  match steps t 32 k with
  | some l => bAnd (bNot (iEq n.f (-1))) (chainBad t n l)
  | none => false
def waysBad (t : List Nd) : List Nd → Nat → Bool
  | [], _ => false
  | n :: r, k => nodeBad t k n || waysBad t r (k + 1)

set_option maxHeartbeats 1000000 in
theorem spec_l17Ways_spec (t : List Nd) (ft : Int) (h : shapeOk t ft = true) (hl : t.length ≤ 31) : FnSpec PR f_spec_l17Ways [aT t] (ab (!waysBad t t 0)) [] 0 := by
  refine FnSpec.intro hT p_spec_l17Ways rfl (by kernel_rfl) n_spec_l17Ways rfl ?_
  conv => whnf
  refine tri_loop hT [1, 3] (α := Nat) (fun x => { t := [(1, .c (.ptr 0 0)), (3, ai x)], h := [(0, .box t_impl_Tree (cTr t))], n := 1, N := 79 })
    (fun x => x ≤ t.length ∧ waysBad t (t.drop x) x = waysBad t t 0) (fun x => t.length - x) 0 (by ((conv => whnf); simp only [St.mk.injEq, List.cons.injEq, Prod.mk.injEq, AV.c.injEq, AV.agg.injEq, AV.tup.injEq, CV.d.injEq, D.int.injEq, D.bool.injEq, D.str.injEq, D.sl.injEq, Ent.arr.injEq, Ent.box.injEq, true_and, and_true, and_self, nInt_eq, Int.natCast_zero, dLen_eL, sLen_eq])) ⟨Nat.zero_le _, by simp⟩ ?_
  intro k ⟨hk, hw⟩
  (conv => whnf)
  refine ifB_i (fun h1 => ?_) (fun h1 => ?_) <;> (conv => whnf) <;> simp at h1
  · obtain ⟨n, hn⟩ := get_lt h1
    rw [drop_at hn, waysBad] at hw
    obtain ⟨l0, hl0, _⟩ := steps_anc h 31 k (by omega)
    have hnb : nodeBad t k n = bAnd (bNot (iEq n.f (-1))) (chainBad t n l0) := by unfold nodeBad; rw [hl0]
    rw [hnb] at hw
    refine idx_at (by simp) hn ?_
    (conv => whnf)
    refine .inl ⟨_, _, _, spec_l17Inner_spec n, rfl, ?_⟩
    (conv => whnf)
    generalize hb : iEq n.f (-1) = b at hw
    cases b <;> (conv => whnf)
    · refine .inl ⟨_, _, _, spec_l17Up_spec t k (by omega), rfl, ?_⟩
      (conv => whnf)
      refine tri_loop hT [1, 3, 4, 5] (α := Int × Nat × List Int) (fun x => { t := [(1, .c (.ptr 0 0)), (3, ai k), (4, ai x.1), (5, ai (up t x.1))], h := [(0, .box t_impl_Tree (cTr t))], n := 1, N := 79 })
        (fun x => 0 ≤ x.1 ∧ x.1 < t.length ∧ steps t (x.2.1 + 1) x.1 = some x.2.2 ∧ chainBad t n x.2.2 = chainBad t n l0) (fun x => x.2.1) (k, 31, l0) (by (conv => whnf)) ⟨by simp, by simpa using h1, hl0, rfl⟩ ?_
      intro ⟨fr, j, l⟩ ⟨g0, g1, g2, g3⟩
      dsimp only at g0 g1 g2 g3
      (conv => whnf)
      refine ifB_i (fun h2 => ?_) (fun h2 => ?_) <;> (conv => whnf) <;> simp only [nInt_eq, Int.natCast_zero, dLen_eL, sLen_eq, nOf_eq, Int.toNat_natCast, nAdd_eq, nSub_eq, dLen_nil, dLen_cons, iLt_t, iLt_f, iLe_t, iLe_f, iEq_t, iEq_f, sEq_t, sEq_f, bNot_t, bNot_f, bAnd_t, bEq_t, bEq_f, Bool.not_eq_true, Bool.not_eq_false, Bool.true_eq_false, Bool.false_eq_true] at h2
      · generalize hup : up t fr = at' at *
        obtain ⟨m, rfl⟩ : ∃ m : Nat, at' = m := ⟨at'.toNat, by omega⟩
        have hmlt := up_lt t fr
        rw [hup] at hmlt
        obtain ⟨x, hx⟩ := get_lt (show m < t.length by omega)
        rw [steps, hup, if_neg (by omega)] at g2
        simp only [Option.map_eq_some_iff] at g2
        obtain ⟨l', g2, rfl⟩ := g2
        cases j with
        | zero => simp [steps] at g2
        | succ j =>
        have hl2 : ∃ l2, l' = (m : Int) :: l2 := by
          rw [steps] at g2
          simp only [Option.map_eq_some_iff] at g2
          obtain ⟨l2, _, rfl⟩ := g2
          exact ⟨l2, rfl⟩
        obtain ⟨l2, rfl⟩ := hl2
        have hcb : chainBad t n (fr :: (m : Int) :: l2) = (badP t n m fr || chainBad t n ((m : Int) :: l2)) := rfl
        rw [hcb] at g3
        refine idx_at (by simp) hx ?_
        (conv => whnf)
        refine tri_conf hT hmix (by kernel_rfl) ?_
        (conv => whnf)
        refine idx_at (by simp) hn ?_
        (conv => whnf)
        have hin : ∀ v0, x.f = n.f ∧ (x.r = fr ∧ n.c ≤ x.c ∨ x.l = fr ∧ x.c ≤ n.c) ∧ v0 = true ∨ ¬ (x.f = n.f ∧ (x.r = fr ∧ n.c ≤ x.c ∨ x.l = fr ∧ x.c ≤ n.c)) ∧ v0 = false → badP t n m fr = v0 := by
          intro v0 hv
          have hb : badP t n m fr = (iEq x.f n.f && (iEq x.r fr && iLe n.c x.c || iEq x.l fr && iLe x.c n.c)) := by simp [badP, hx]
          rw [hb, Bool.eq_iff_iff]
          simp only [Bool.and_eq_true, Bool.or_eq_true, iEq, iLe, decide_eq_true_eq]
          rcases hv with ⟨h1, h2, rfl⟩ | ⟨h1, rfl⟩
          · simp [h1, h2]
          · simp only [Bool.false_eq_true, iff_false]; exact h1
        generalize e1 : iEq x.f n.f = c1
        generalize e2 : iEq x.r fr = c2
        generalize e3 : iEq x.l fr = c3
        generalize e4 : iLe n.c x.c = c4
        generalize e5 : iLe x.c n.c = c5
        cases c1
        · repeat' (first | (refine And.intro (fun q => ?_) (fun q => ?_) <;> cases q <;> (conv => whnf)) | (refine idx_at (by simp) hn ?_; (conv => whnf)) | fail)
          refine .inl ⟨_, _, _, spec_l17Up_spec t m (by omega), rfl, ?_⟩
          (conv => whnf)
          have hbp := hin false (.inr ⟨by simp_all [iEq, iLe], rfl⟩)
          rw [hbp] at g3
          refine ⟨(m, j, (m : Int) :: l2), by dsimp only; omega, ⟨by dsimp only; omega, by dsimp only; omega, g2, g3⟩, ?_⟩
          (conv => whnf)
        · repeat' (first | (refine And.intro (fun q => ?_) (fun q => ?_) <;> cases q <;> (conv => whnf)) | (refine idx_at (by simp) hn ?_; (conv => whnf)) | fail)
          rw [e2]
          cases c2
          · repeat' (first | (refine And.intro (fun q => ?_) (fun q => ?_) <;> cases q <;> (conv => whnf)) | (refine idx_at (by simp) hn ?_; (conv => whnf)) | fail)
            rw [e3]
            cases c3
            · repeat' (first | (refine And.intro (fun q => ?_) (fun q => ?_) <;> cases q <;> (conv => whnf)) | (refine idx_at (by simp) hn ?_; (conv => whnf)) | fail)
              refine .inl ⟨_, _, _, spec_l17Up_spec t m (by omega), rfl, ?_⟩
              (conv => whnf)
              have hbp := hin false (.inr ⟨by simp_all [iEq, iLe], rfl⟩)
              rw [hbp] at g3
              refine ⟨(m, j, (m : Int) :: l2), by dsimp only; omega, ⟨by dsimp only; omega, by dsimp only; omega, g2, g3⟩, ?_⟩
              (conv => whnf)
            · repeat' (first | (refine And.intro (fun q => ?_) (fun q => ?_) <;> cases q <;> (conv => whnf)) | (refine idx_at (by simp) hn ?_; (conv => whnf)) | fail)
              rw [e5]
              cases c5
              · repeat' (first | (refine And.intro (fun q => ?_) (fun q => ?_) <;> cases q <;> (conv => whnf)) | (refine idx_at (by simp) hn ?_; (conv => whnf)) | fail)
                refine .inl ⟨_, _, _, spec_l17Up_spec t m (by omega), rfl, ?_⟩
                (conv => whnf)
                have hbp := hin false (.inr ⟨by simp_all [iEq, iLe], rfl⟩)
                rw [hbp] at g3
                refine ⟨(m, j, (m : Int) :: l2), by dsimp only; omega, ⟨by dsimp only; omega, by dsimp only; omega, g2, g3⟩, ?_⟩
                (conv => whnf)
              · repeat' (first | (refine And.intro (fun q => ?_) (fun q => ?_) <;> cases q <;> (conv => whnf)) | (refine idx_at (by simp) hn ?_; (conv => whnf)) | fail)
                have hbp := hin true (.inl ⟨by simp_all [iEq, iLe], by simp_all [iEq, iLe], rfl⟩)
                rw [hbp] at g3
                rw [← g3] at hw
                (try (conv => whnf))
                rw [← hw]
                
                rfl
          · repeat' (first | (refine And.intro (fun q => ?_) (fun q => ?_) <;> cases q <;> (conv => whnf)) | (refine idx_at (by simp) hn ?_; (conv => whnf)) | fail)
            rw [e4]
            cases c4
            · repeat' (first | (refine And.intro (fun q => ?_) (fun q => ?_) <;> cases q <;> (conv => whnf)) | (refine idx_at (by simp) hn ?_; (conv => whnf)) | fail)
              rw [e3]
              cases c3
              · repeat' (first | (refine And.intro (fun q => ?_) (fun q => ?_) <;> cases q <;> (conv => whnf)) | (refine idx_at (by simp) hn ?_; (conv => whnf)) | fail)
                refine .inl ⟨_, _, _, spec_l17Up_spec t m (by omega), rfl, ?_⟩
                (conv => whnf)
                have hbp := hin false (.inr ⟨by simp_all [iEq, iLe], rfl⟩)
                rw [hbp] at g3
                refine ⟨(m, j, (m : Int) :: l2), by dsimp only; omega, ⟨by dsimp only; omega, by dsimp only; omega, g2, g3⟩, ?_⟩
                (conv => whnf)
              · repeat' (first | (refine And.intro (fun q => ?_) (fun q => ?_) <;> cases q <;> (conv => whnf)) | (refine idx_at (by simp) hn ?_; (conv => whnf)) | fail)
                rw [e5]
                cases c5
                · repeat' (first | (refine And.intro (fun q => ?_) (fun q => ?_) <;> cases q <;> (conv => whnf)) | (refine idx_at (by simp) hn ?_; (conv => whnf)) | fail)
                  refine .inl ⟨_, _, _, spec_l17Up_spec t m (by omega), rfl, ?_⟩
                  (conv => whnf)
                  have hbp := hin false (.inr ⟨by simp_all [iEq, iLe], rfl⟩)
                  rw [hbp] at g3
                  refine ⟨(m, j, (m : Int) :: l2), by dsimp only; omega, ⟨by dsimp only; omega, by dsimp only; omega, g2, g3⟩, ?_⟩
                  (conv => whnf)
                · repeat' (first | (refine And.intro (fun q => ?_) (fun q => ?_) <;> cases q <;> (conv => whnf)) | (refine idx_at (by simp) hn ?_; (conv => whnf)) | fail)
                  have hbp := hin true (.inl ⟨by simp_all [iEq, iLe], by simp_all [iEq, iLe], rfl⟩)
                  rw [hbp] at g3
                  rw [← g3] at hw
                  (try (conv => whnf))
                  rw [← hw]
                  
                  rfl
            · repeat' (first | (refine And.intro (fun q => ?_) (fun q => ?_) <;> cases q <;> (conv => whnf)) | (refine idx_at (by simp) hn ?_; (conv => whnf)) | fail)
              have hbp := hin true (.inl ⟨by simp_all [iEq, iLe], by simp_all [iEq, iLe], rfl⟩)
              rw [hbp] at g3
              rw [← g3] at hw
              (try (conv => whnf))
              rw [← hw]
              
              rfl
      · have hl : l = [fr] := by
          rw [steps, if_pos h2] at g2
          simpa using g2.symm
        rw [hl] at g3
        rw [← g3] at hw
        refine ⟨k + 1, by omega, ⟨h1, hw⟩, ?_⟩
        ((conv => whnf); simp only [St.mk.injEq, List.cons.injEq, Prod.mk.injEq, AV.c.injEq, AV.agg.injEq, AV.tup.injEq, CV.d.injEq, D.int.injEq, D.bool.injEq, D.str.injEq, D.sl.injEq, Ent.arr.injEq, Ent.box.injEq, true_and, and_true, and_self, nInt_eq, Int.natCast_zero, dLen_eL, sLen_eq, wI h1 (by omega)])
    · refine ⟨k + 1, by omega, ⟨h1, hw⟩, ?_⟩
      ((conv => whnf); simp only [St.mk.injEq, List.cons.injEq, Prod.mk.injEq, AV.c.injEq, AV.agg.injEq, AV.tup.injEq, CV.d.injEq, D.int.injEq, D.bool.injEq, D.str.injEq, D.sl.injEq, Ent.arr.injEq, Ent.box.injEq, true_and, and_true, and_self, nInt_eq, Int.natCast_zero, dLen_eL, sLen_eq, wI h1 (by omega)])
  · obtain rfl : k = t.length := by omega
    simp only [List.drop_length, waysBad] at hw
    (conv => whnf)
    rw [← hw]
    rfl


def treeOk (t : List Nd) (ft : Int) : Bool :=
  decide (1 ≤ (t.length : Int) ∧ (t.length : Int) ≤ 31) && (decide (0 ≤ ft ∧ ft ≤ 4) && (shapeOk t ft && (decide (depthK t t.length ≤ 4) && !waysBad t t 0)))

theorem spec_TreeOk_spec (t : List Nd) (ft : Int) (hl : t.length ≤ 1048576) : FnSpec PR f_spec_TreeOk [aT t, ai ft] (ab (treeOk t ft)) [] 0 := by
  refine FnSpec.intro hT p_spec_TreeOk rfl (by kernel_rfl) n_spec_TreeOk rfl ?_
  conv => whnf
  refine .inl ⟨_, _, _, spec_l1In_spec _ _ _, rfl, ?_⟩
  (conv => whnf)
  refine ifB_i (fun h1 => ?_) (fun h1 => ?_) <;> (conv => whnf) <;> simp only [nInt_eq, Int.natCast_zero, dLen_eL, sLen_eq, nOf_eq, Int.toNat_natCast, nAdd_eq, nSub_eq, dLen_nil, dLen_cons, iLt_t, iLt_f, iLe_t, iLe_f, iEq_t, iEq_f, sEq_t, sEq_f, bNot_t, bNot_f, bAnd_t, bEq_t, bEq_f, Bool.not_eq_true, Bool.not_eq_false, Bool.true_eq_false, Bool.false_eq_true] at h1
  rotate_left
  · simp [treeOk, h1]
  refine .inl ⟨_, _, _, spec_l1In_spec _ _ _, rfl, ?_⟩
  (conv => whnf)
  refine ifB_i (fun h2 => ?_) (fun h2 => ?_) <;> (conv => whnf)
  rotate_left
  · simp [treeOk, h2]
  have h1' := of_decide_eq_true h1
  have h2' := of_decide_eq_true h2
  refine .inl ⟨_, _, _, spec_l17Shape_spec t ft h2' (by omega), rfl, ?_⟩
  (conv => whnf)
  refine ifB_i (fun h3 => ?_) (fun h3 => ?_) <;> (conv => whnf)
  rotate_left
  · simp [treeOk, h3]
  refine .inl ⟨_, _, _, spec_DepthOf_spec t (by omega), rfl, ?_⟩
  (conv => whnf)
  refine ifB_i (fun h4 => ?_) (fun h4 => ?_) <;> (conv => whnf) <;> simp only [nInt_eq, Int.natCast_zero, dLen_eL, sLen_eq, nOf_eq, Int.toNat_natCast, nAdd_eq, nSub_eq, dLen_nil, dLen_cons, iLt_t, iLt_f, iLe_t, iLe_f, iEq_t, iEq_f, sEq_t, sEq_f, bNot_t, bNot_f, bAnd_t, bEq_t, bEq_f, Bool.not_eq_true, Bool.not_eq_false, Bool.true_eq_false, Bool.false_eq_true] at h4
  rotate_left
  · have : ¬ depthK t t.length ≤ 4 := by omega
    simp [treeOk, this]
  refine .inl ⟨_, _, _, spec_l17Ways_spec t ft h3 (by omega), rfl, ?_⟩
  (conv => whnf)
  simp [treeOk, h1, h2, h3, h4]
end Go.H.S
namespace Go.H.S
open Go Go.Proofs Go.H
attribute [local irreducible] Tri FnSpec FnSpecM FnSpecX
set_option maxRecDepth 100000
set_option linter.unusedSimpArgs false
set_option linter.unusedVariables false


theorem impl_isDecimal_spec (x : Int) : FnSpec PR f_impl_isDecimal [ai x] (ab (decide (-2147483647 ≤ x ∧ x ≤ 2147483647))) [] 0 := by
  refine FnSpec.intro hT p_impl_isDecimal rfl (by kernel_rfl) n_impl_isDecimal rfl ?_
  conv => whnf
  refine .inl ⟨_, _, _, impl_within_spec _ _ _, rfl, ?_⟩
  (conv => whnf)

theorem impl_isLeafValue_spec (x : Int) : FnSpec PR f_impl_isLeafValue [ai x] (ab (decide (-1099511627776 ≤ x ∧ x ≤ 1099511627776))) [] 0 := by
  refine FnSpec.intro hT p_impl_isLeafValue rfl (by kernel_rfl) n_impl_isLeafValue rfl ?_
  conv => whnf
  refine .inl ⟨_, _, _, impl_within_spec _ _ _, rfl, ?_⟩
  (conv => whnf)

theorem impl_LevelOf_spec (t : List Nd) (node : Int) (hl : t.length ≤ 9223372036854775807) : FnSpec PR f_impl_LevelOf [aT t, ai node] (ai ((wayL t node).length - 1)) [] 0 := by
  have hw := wayL_len t node
  refine FnSpec.intro hT p_impl_LevelOf rfl (by kernel_rfl) n_impl_LevelOf rfl ?_
  conv => whnf
  refine .inl ⟨_, _, _, impl_wayTo_spec t node hl, rfl, ?_⟩
  ((conv => whnf); simp only [St.mk.injEq, List.cons.injEq, Prod.mk.injEq, AV.c.injEq, AV.agg.injEq, AV.tup.injEq, CV.d.injEq, D.int.injEq, D.bool.injEq, D.str.injEq, D.sl.injEq, Ent.arr.injEq, Ent.box.injEq, true_and, and_true, and_self, nInt_eq, Int.natCast_zero, dLen_eL, sLen_eq, lenRE_none])
  exact wSub64 (by omega) (by omega)

theorem impl_shapeOk_spec (t : List Nd) (ft : Int) (hft : 0 ≤ ft ∧ ft ≤ 4) (hl : t.length ≤ 1048576) : FnSpec PR f_impl_shapeOk [aT t, ai ft] (ab (shapeOk t ft)) [] 0 := by
  refine FnSpec.intro hT p_impl_shapeOk rfl (by kernel_rfl) n_impl_shapeOk rfl ?_
  conv => whnf
  refine tri_loop hT [1, 2, 5, 9, 10, 11] (α := Nat × Nat) (fun x => { t := [(1, ai ft), (2, .c (.ptr 0 0)), (5, ai x.2), (9, aNs t), (10, ai t.length), (11, ai x.1)], h := [(0, .box t_impl_Tree (cTr t))], n := 1, N := 72 })
    (fun x => x.1 ≤ t.length ∧ x.2 ≤ 2 * x.1 + 1 ∧ shapeL ft (t.drop x.1) x.1 x.2 = shapeL ft t 0 1) (fun x => t.length - x.1) (0, 1) (by ((conv => whnf); simp only [St.mk.injEq, List.cons.injEq, Prod.mk.injEq, AV.c.injEq, AV.agg.injEq, AV.tup.injEq, CV.d.injEq, D.int.injEq, D.bool.injEq, D.str.injEq, D.sl.injEq, Ent.arr.injEq, Ent.box.injEq, true_and, and_true, and_self, nInt_eq, Int.natCast_zero, dLen_eL, sLen_eq]); rfl) ⟨Nat.zero_le _, by simp, by simp⟩ ?_
  intro ⟨k, nx⟩ ⟨hk, hx, hs⟩
  dsimp only at hk hx hs
  (conv => whnf)
  refine ifB_i (fun h1 => ?_) (fun h1 => ?_) <;> (conv => whnf) <;> simp at h1
  · obtain ⟨n, hn⟩ := get_lt h1
    rw [drop_at hn, shapeL] at hs
    refine idx_at (by simp) hn ?_
    (conv => whnf)
    refine .inl ⟨_, _, _, impl_isLeaf_spec n, rfl, ?_⟩
    (conv => whnf)
    refine ifB_i (fun h2 => ?_) (fun h2 => ?_) <;> (conv => whnf) <;> simp only [nInt_eq, Int.natCast_zero, dLen_eL, sLen_eq, nOf_eq, Int.toNat_natCast, nAdd_eq, nSub_eq, dLen_nil, dLen_cons, iLt_t, iLt_f, iLe_t, iLe_f, iEq_t, iEq_f, sEq_t, sEq_f, bNot_t, bNot_f, bAnd_t, bEq_t, bEq_f, Bool.not_eq_true, Bool.not_eq_false, Bool.true_eq_false, Bool.false_eq_true] at h2
    · rw [if_pos h2] at hs
      generalize hb : bNot (bAnd (iEq n.f (-1)) (bAnd (iEq n.c 0) (bAnd (iEq n.l 0) (bAnd (iEq n.r 0) (bAnd (iEq n.v n.v) true))))) = b
      cases b <;> (conv => whnf)
      · refine .inl ⟨_, _, _, impl_isLeafValue_spec n.v, rfl, ?_⟩
        (conv => whnf)
        generalize hb2 : decide (-1099511627776 ≤ n.v ∧ n.v ≤ 1099511627776) = b2
        cases b2 <;> (conv => whnf)
        · have hlb : leafBad n = true := by simp [leafBad, hb2]
          rw [if_pos hlb] at hs
          rw [shape_bad hs]
        · have hlb : leafBad n = false := by
            obtain ⟨f, c, l, r, v⟩ := n
            simp only [leafBad, hb2]
            simp_all [bNot, bAnd, iEq]
          rw [hlb] at hs
          refine ⟨(k + 1, nx), by dsimp only; omega, ⟨h1, by dsimp only; omega, by simpa using hs⟩, ?_⟩
          ((conv => whnf); simp only [St.mk.injEq, List.cons.injEq, Prod.mk.injEq, AV.c.injEq, AV.agg.injEq, AV.tup.injEq, CV.d.injEq, D.int.injEq, D.bool.injEq, D.str.injEq, D.sl.injEq, Ent.arr.injEq, Ent.box.injEq, true_and, and_true, and_self, nInt_eq, Int.natCast_zero, dLen_eL, sLen_eq, wI h1 (by omega)])
      · have hlb : leafBad n = true := by
          obtain ⟨f, c, l, r, v⟩ := n
          simp only [leafBad]
          simp_all [bNot, bAnd, iEq]
        rw [if_pos hlb] at hs
        rw [shape_bad hs]
    · rw [if_neg h2] at hs
      refine .inl ⟨_, _, _, impl_within_spec _ _ _, rfl, ?_⟩
      rw [show wSub .i64 ft 1 = ft - 1 from wSub64 (by omega) (by omega)]
      (conv => whnf)
      generalize hb1 : decide (0 ≤ n.f ∧ n.f ≤ ft - 1) = b1
      cases b1 <;> (conv => whnf)
      · have hib : innerBad n ft k nx = true := by
          have : ¬ (0 ≤ n.f ∧ n.f ≤ ft - 1) := by simpa using hb1
          simp [innerBad, this]
        rw [if_pos hib] at hs
        rw [shape_bad hs]
      · refine .inl ⟨_, _, _, impl_isDecimal_spec _, rfl, ?_⟩
        (conv => whnf)
        generalize hb2 : decide (-2147483647 ≤ n.c ∧ n.c ≤ 2147483647) = b2
        cases b2 <;> (conv => whnf)
        · have hib : innerBad n ft k nx = true := by
            have : ¬ (-2147483647 ≤ n.c ∧ n.c ≤ 2147483647) := by simpa using hb2
            simp [innerBad, this]
          rw [if_pos hib] at hs
          rw [shape_bad hs]
        · generalize hb3 : iEq n.v 0 = b3
          cases b3 <;> (conv => whnf)
          · have hib : innerBad n ft k nx = true := by
              have : ¬ n.v = 0 := by simpa [iEq] using hb3
              simp [innerBad, this]
            rw [if_pos hib] at hs
            rw [shape_bad hs]
          generalize hb4 : iEq n.l (nx : Int) = b4
          cases b4 <;> (conv => whnf)
          · have hib : innerBad n ft k nx = true := by
              have : ¬ n.l = nx := by simpa [iEq] using hb4
              simp [innerBad, this]
            rw [if_pos hib] at hs
            rw [shape_bad hs]
          rw [show wAdd .i64 (nx : Int) 1 = nx + 1 from wAdd64 (by omega) (by omega)]
          generalize hb5 : iEq n.r ((nx : Int) + 1) = b5
          cases b5 <;> (conv => whnf)
          · have hib : innerBad n ft k nx = true := by
              have : ¬ n.r = nx + 1 := by simpa [iEq] using hb5
              simp [innerBad, this]
            rw [if_pos hib] at hs
            rw [shape_bad hs]
          have q4 : n.l = nx := by simpa [iEq] using hb4
          generalize hb6 : iLe (nx : Int) ((k, nx).fst : Int) = b6
          dsimp only at hb6
          cases b6 <;> (conv => whnf)
          rotate_left
          · have hib : innerBad n ft k nx = true := by
              have : (nx : Int) ≤ k := by simpa [iLe] using hb6
              simp [innerBad, q4]
              omega
            rw [if_pos hib] at hs
            rw [shape_bad hs]
          have hib : innerBad n ft k nx = false := by
            have q3 : n.v = 0 := by simpa [iEq] using hb3
            have q5 : n.r = nx + 1 := by simpa [iEq] using hb5
            have q6 : ¬ (nx : Int) ≤ k := by simpa [iLe] using hb6
            have q1 : 0 ≤ n.f ∧ n.f ≤ ft - 1 := by simpa using hb1
            have q2 : -2147483647 ≤ n.c ∧ n.c ≤ 2147483647 := by simpa using hb2
            simp [innerBad, q1, q2, q3, q4, q5]
            omega
          rw [hib] at hs
          refine ⟨(k + 1, nx + 2), by dsimp only; omega, ⟨h1, by dsimp only; omega, by simpa using hs⟩, ?_⟩
          ((conv => whnf); simp only [St.mk.injEq, List.cons.injEq, Prod.mk.injEq, AV.c.injEq, AV.agg.injEq, AV.tup.injEq, CV.d.injEq, D.int.injEq, D.bool.injEq, D.str.injEq, D.sl.injEq, Ent.arr.injEq, Ent.box.injEq, true_and, and_true, and_self, nInt_eq, Int.natCast_zero, dLen_eL, sLen_eq, wI h1 (by omega), wAdd64 (show -9223372036854775808 ≤ (nx : Int) + 2 by omega) (by omega), Int.natCast_add, Int.cast_ofNat_Int])
  · obtain rfl : k = t.length := by omega
    simp only [List.drop_length, shapeL] at hs
    ((conv => whnf); simp only [St.mk.injEq, List.cons.injEq, Prod.mk.injEq, AV.c.injEq, AV.agg.injEq, AV.tup.injEq, CV.d.injEq, D.int.injEq, D.bool.injEq, D.str.injEq, D.sl.injEq, Ent.arr.injEq, Ent.box.injEq, true_and, and_true, and_self, nInt_eq, Int.natCast_zero, dLen_eL, sLen_eq])
    simp only [shapeOk, ← hs, iEq, Option.some.injEq]

def wayBad (t : List Nd) (n : Nd) : List Int → Bool
  | a :: b :: r => badP t n a b || wayBad t n (b :: r)
  | _ => false
def implBad (t : List Nd) (k : Int) (n : Nd) : Bool :=
  if n.f = -1 then decide (4 < ((wayL t k).length : Int) - 1) else wayBad t n (wayL t k)
def implBads (t : List Nd) : List Nd → Nat → Bool
  | [], _ => false
  | n :: r, k => implBad t k n || implBads t r (k + 1)

def treeOkI (t : List Nd) (ft : Int) : Bool :=
  decide (1 ≤ (t.length : Int) ∧ (t.length : Int) ≤ 31) && (decide (0 ≤ ft ∧ ft ≤ 4) && (shapeOk t ft && !implBads t t 0))
set_option maxHeartbeats 1000000 in
theorem impl_TreeOk_one (t : List Nd) (ft : Int) (hl : t.length ≤ 1048576) : FnSpec PR f_impl_TreeOk [aT t, ai ft] (ab (treeOkI t ft)) [] 0 := by
  refine FnSpec.intro hT p_impl_TreeOk rfl (by kernel_rfl) n_impl_TreeOk rfl ?_
  conv => whnf
  refine .inl ⟨_, _, _, impl_within_spec _ _ _, rfl, ?_⟩
  (conv => whnf)
  refine ifB_i (fun h2 => ?_) (fun h2 => ?_) <;> (conv => whnf) <;> simp only [nInt_eq, Int.natCast_zero, dLen_eL, sLen_eq, nOf_eq, Int.toNat_natCast, nAdd_eq, nSub_eq, dLen_nil, dLen_cons, iLt_t, iLt_f, iLe_t, iLe_f, iEq_t, iEq_f, sEq_t, sEq_f, bNot_t, bNot_f, bAnd_t, bEq_t, bEq_f, Bool.not_eq_true, Bool.not_eq_false, Bool.true_eq_false, Bool.false_eq_true] at h2
  · have : decide (0 ≤ ft ∧ ft ≤ 4) = false := by simpa using h2
    simp [treeOkI, this]
  refine .inl ⟨_, _, _, impl_within_spec _ _ _, rfl, ?_⟩
  (conv => whnf)
  refine ifB_i (fun h1 => ?_) (fun h1 => ?_) <;> (conv => whnf) <;> simp only [nInt_eq, Int.natCast_zero, dLen_eL, sLen_eq, nOf_eq, Int.toNat_natCast, nAdd_eq, nSub_eq, dLen_nil, dLen_cons, iLt_t, iLt_f, iLe_t, iLe_f, iEq_t, iEq_f, sEq_t, sEq_f, bNot_t, bNot_f, bAnd_t, bEq_t, bEq_f, Bool.not_eq_true, Bool.not_eq_false, Bool.true_eq_false, Bool.false_eq_true] at h1
  · simp [treeOkI, h1]
  have h1' := of_decide_eq_true h1
  have h2' := of_decide_eq_true h2
  refine .inl ⟨_, _, _, impl_shapeOk_spec t ft h2' (by omega), rfl, ?_⟩
  (conv => whnf)
  refine ifB_i (fun h3 => ?_) (fun h3 => ?_) <;> (conv => whnf) <;> simp only [nInt_eq, Int.natCast_zero, dLen_eL, sLen_eq, nOf_eq, Int.toNat_natCast, nAdd_eq, nSub_eq, dLen_nil, dLen_cons, iLt_t, iLt_f, iLe_t, iLe_f, iEq_t, iEq_f, sEq_t, sEq_f, bNot_t, bNot_f, bAnd_t, bEq_t, bEq_f, Bool.not_eq_true, Bool.not_eq_false, Bool.true_eq_false, Bool.false_eq_true] at h3
  · simp [treeOkI, h3]
  have hto : treeOkI t ft = !implBads t t 0 := by simp [treeOkI, h1, h2, h3]
  rw [hto]
  refine tri_loop hT [2, 28, 29, 30] (α := Nat) (fun x => { t := [(2, .c (.ptr 0 0)), (28, aNs t), (29, ai t.length), (30, ai x)], h := [(0, .box t_impl_Tree (cTr t))], n := 1, N := 99 })
    (fun x => x ≤ t.length ∧ implBads t (t.drop x) x = implBads t t 0) (fun x => t.length - x) 0 (by ((conv => whnf); simp only [St.mk.injEq, List.cons.injEq, Prod.mk.injEq, AV.c.injEq, AV.agg.injEq, AV.tup.injEq, CV.d.injEq, D.int.injEq, D.bool.injEq, D.str.injEq, D.sl.injEq, Ent.arr.injEq, Ent.box.injEq, true_and, and_true, and_self, nInt_eq, Int.natCast_zero, dLen_eL, sLen_eq])) ⟨Nat.zero_le _, by simp⟩ ?_
  intro k ⟨hk, hw⟩
  (conv => whnf)
  refine ifB_i (fun h4 => ?_) (fun h4 => ?_) <;> (conv => whnf) <;> simp at h4
  · obtain ⟨n, hn⟩ := get_lt h4
    rw [drop_at hn, implBads] at hw
    refine idx_at (by simp) hn ?_
    (conv => whnf)
    refine .inl ⟨_, _, _, impl_isLeaf_spec n, rfl, ?_⟩
    (conv => whnf)
    refine ifB_i (fun h5 => ?_) (fun h5 => ?_) <;> (conv => whnf) <;> simp only [nInt_eq, Int.natCast_zero, dLen_eL, sLen_eq, nOf_eq, Int.toNat_natCast, nAdd_eq, nSub_eq, dLen_nil, dLen_cons, iLt_t, iLt_f, iLe_t, iLe_f, iEq_t, iEq_f, sEq_t, sEq_f, bNot_t, bNot_f, bAnd_t, bEq_t, bEq_f, Bool.not_eq_true, Bool.not_eq_false, Bool.true_eq_false, Bool.false_eq_true] at h5
    · refine .inl ⟨_, _, _, impl_LevelOf_spec t k (by omega), rfl, ?_⟩
      (conv => whnf)
      refine ifB_i (fun h6 => ?_) (fun h6 => ?_) <;> (conv => whnf) <;> simp only [nInt_eq, Int.natCast_zero, dLen_eL, sLen_eq, nOf_eq, Int.toNat_natCast, nAdd_eq, nSub_eq, dLen_nil, dLen_cons, iLt_t, iLt_f, iLe_t, iLe_f, iEq_t, iEq_f, sEq_t, sEq_f, bNot_t, bNot_f, bAnd_t, bEq_t, bEq_f, Bool.not_eq_true, Bool.not_eq_false, Bool.true_eq_false, Bool.false_eq_true] at h6
      · have : implBad t k n = true := by simp only [implBad, if_pos h5]; exact decide_eq_true h6
        rw [← hw, this]
        rfl
      · have : implBad t k n = false := by simp only [implBad, if_pos h5]; exact decide_eq_false (by omega)
        rw [this, Bool.false_or] at hw
        refine ⟨k + 1, by omega, ⟨h4, hw⟩, ?_⟩
        ((conv => whnf); simp only [St.mk.injEq, List.cons.injEq, Prod.mk.injEq, AV.c.injEq, AV.agg.injEq, AV.tup.injEq, CV.d.injEq, D.int.injEq, D.bool.injEq, D.str.injEq, D.sl.injEq, Ent.arr.injEq, Ent.box.injEq, true_and, and_true, and_self, nInt_eq, Int.natCast_zero, dLen_eL, sLen_eq, wI h4 (by omega)])
    · have hib : implBad t k n = wayBad t n (wayL t k) := by simp only [implBad, if_neg h5]
      rw [hib] at hw
      obtain ⟨l0, hl0, _⟩ := steps_anc h3 31 k (by omega)
      have hway : wayL t k = l0.reverse := by unfold wayL; rw [if_pos (by omega), hl0]
      have hlen : 1 ≤ (wayL t k).length := by
        rw [hway, steps] at *
        simp only [Option.map_eq_some_iff] at hl0
        obtain ⟨r, _, rfl⟩ := hl0
        simp
      have hlt : ∀ y ∈ wayL t k, 0 ≤ y ∧ y < t.length := fun y hy => steps_lt t 32 k l0 (by omega) hl0 y (by rw [hway] at hy; simpa using hy)
      refine .inl ⟨_, _, _, impl_wayTo_spec t k (by omega), rfl, ?_⟩
      generalize wayL t k = w at *
      (conv => whnf)
      have hwl : w.length ≤ 32 := by rw [hway]; have := steps_len t 32 k l0 hl0; simpa using this
      obtain ⟨m, hm⟩ : ∃ m, w.length = m + 1 := ⟨w.length - 1, by omega⟩
      have e1 : wSub .i64 (nInt (lenRE (eL cI w) none)) 1 = (m : Int) := by
        rw [wSub64] <;> simp <;> omega
      rw [e1]
      refine ⟨by simp [InS]; omega, ?_⟩
      (conv => whnf)
      refine tri_loop hT [2, 6, 7, 28, 29, 30, 48, 49, 50] (α := Nat) (fun x => { t := [(2, .c (.ptr 0 0)), (6, .c (.ptr 1 0)), (7, .c (.ref 2 0 none)), (28, aNs t), (29, ai t.length), (30, ai k), (48, .c (.ref 2 0 (some (true, 0, m)))), (49, ai m), (50, ai x)], h := [(0, .box t_impl_Tree (cTr t)), (1, .box t_impl_Node (cNd n)), (2, .arr t_int 1 0 .own (eL cI w))], n := 3, N := 99 })
        (fun x => x ≤ m ∧ wayBad t n (w.drop x) = wayBad t n w) (fun x => m - x) 0 (by ((conv => whnf); simp only [St.mk.injEq, List.cons.injEq, Prod.mk.injEq, AV.c.injEq, AV.agg.injEq, AV.tup.injEq, CV.d.injEq, D.int.injEq, D.bool.injEq, D.str.injEq, D.sl.injEq, Ent.arr.injEq, Ent.box.injEq, true_and, and_true, and_self, nInt_eq, Int.natCast_zero, dLen_eL, sLen_eq]); simp) ⟨Nat.zero_le _, by simp⟩ ?_
      intro j ⟨g1, g2⟩
      (conv => whnf)
      refine ifB_i (fun g3 => ?_) (fun g3 => ?_) <;> (conv => whnf) <;> simp at g3
      · obtain ⟨a, ha⟩ := get_lt (show j < w.length by omega)
        obtain ⟨b, hb⟩ := get_lt (show j + 1 < w.length by omega)
        refine ref_at (k := j) (by simp) (by simp; omega) ?_
        (conv => whnf)
        refine ld_at (by simp) ha ?_
        (conv => whnf)
        obtain ⟨i, hi⟩ : ∃ i : Nat, a = i := ⟨a.toNat, by have := hlt a (List.mem_of_getElem? ha); omega⟩
        subst hi
        have hil := (hlt _ (List.mem_of_getElem? ha)).2
        obtain ⟨x, hx⟩ := get_lt (show i < t.length by omega)
        refine idx_at (by simp) hx ?_
        (conv => whnf)
        rw [drop_at ha, drop_at hb, wayBad] at g2
        have hin : ∀ v0, (iEq x.f n.f && (iEq b x.r && iLe n.c x.c || iEq b x.l && iLe x.c n.c)) = v0 → badP t n i b = v0 := by
          rintro _ rfl
          simp only [badP, Int.toNat_natCast, hx, iEq, eq_comm]
        refine ifB_i (fun g4 => ?_) (fun g4 => ?_) <;> (conv => whnf) <;> simp only [nInt_eq, Int.natCast_zero, dLen_eL, sLen_eq, nOf_eq, Int.toNat_natCast, nAdd_eq, nSub_eq, dLen_nil, dLen_cons, iLt_t, iLt_f, iLe_t, iLe_f, iEq_t, iEq_f, sEq_t, sEq_f, bNot_t, bNot_f, bAnd_t, bEq_t, bEq_f, Bool.not_eq_true, Bool.not_eq_false, Bool.true_eq_false, Bool.false_eq_true] at g4
        · rw [hin false (by simp [iEq, g4]), Bool.false_or] at g2
          refine ⟨j + 1, by omega, ⟨by omega, by rw [← g2, drop_at hb]⟩, ?_⟩
          ((conv => whnf); simp only [St.mk.injEq, List.cons.injEq, Prod.mk.injEq, AV.c.injEq, AV.agg.injEq, AV.tup.injEq, CV.d.injEq, D.int.injEq, D.bool.injEq, D.str.injEq, D.sl.injEq, Ent.arr.injEq, Ent.box.injEq, true_and, and_true, and_self, nInt_eq, Int.natCast_zero, dLen_eL, sLen_eq, wI g3 (by omega)])
        · have g4' : iEq x.f n.f = true := by simpa [iEq] using g4
          refine tri_conf hT hmix (by kernel_rfl) ?_
          (conv => whnf)
          repeat' (first | (refine And.intro (fun q => ?_) (fun q => ?_) <;> cases q <;> (conv => whnf)) | (refine ref_at (wI g3 (by omega)) (by simp; omega) ?_; (conv => whnf)) | (refine ld_at (by simp [wI g3 (show m ≤ 9223372036854775807 by omega)]) hb ?_; (conv => whnf)) | fail)
          generalize e3 : iEq b x.l = c3
          cases c3
          · repeat' (first | (refine And.intro (fun q => ?_) (fun q => ?_) <;> cases q <;> (conv => whnf)) | (refine ref_at (wI g3 (by omega)) (by simp; omega) ?_; (conv => whnf)) | (refine ld_at (by simp [wI g3 (show m ≤ 9223372036854775807 by omega)]) hb ?_; (conv => whnf)) | fail)
            generalize e2 : iEq b x.r = c2
            cases c2
            · repeat' (first | (refine And.intro (fun q => ?_) (fun q => ?_) <;> cases q <;> (conv => whnf)) | (refine ref_at (wI g3 (by omega)) (by simp; omega) ?_; (conv => whnf)) | (refine ld_at (by simp [wI g3 (show m ≤ 9223372036854775807 by omega)]) hb ?_; (conv => whnf)) | fail)
              rw [hin false (by first | (simp [e2, e3]; done) | (simp [e2, e5]; done) | (simp [e3, e4]; done) | (simp [e4, e5]; done)), Bool.false_or] at g2
              refine ⟨j + 1, by omega, ⟨by omega, by rw [← g2, drop_at hb]⟩, ?_⟩
              ((conv => whnf); simp only [St.mk.injEq, List.cons.injEq, Prod.mk.injEq, AV.c.injEq, AV.agg.injEq, AV.tup.injEq, CV.d.injEq, D.int.injEq, D.bool.injEq, D.str.injEq, D.sl.injEq, Ent.arr.injEq, Ent.box.injEq, true_and, and_true, and_self, nInt_eq, Int.natCast_zero, dLen_eL, sLen_eq, wI g3 (by omega)])
            · repeat' (first | (refine And.intro (fun q => ?_) (fun q => ?_) <;> cases q <;> (conv => whnf)) | (refine ref_at (wI g3 (by omega)) (by simp; omega) ?_; (conv => whnf)) | (refine ld_at (by simp [wI g3 (show m ≤ 9223372036854775807 by omega)]) hb ?_; (conv => whnf)) | fail)
              generalize e4 : iLe n.c x.c = c4
              cases c4
              · repeat' (first | (refine And.intro (fun q => ?_) (fun q => ?_) <;> cases q <;> (conv => whnf)) | (refine ref_at (wI g3 (by omega)) (by simp; omega) ?_; (conv => whnf)) | (refine ld_at (by simp [wI g3 (show m ≤ 9223372036854775807 by omega)]) hb ?_; (conv => whnf)) | fail)
                rw [hin false (by first | (simp [e2, e3]; done) | (simp [e2, e5]; done) | (simp [e3, e4]; done) | (simp [e4, e5]; done)), Bool.false_or] at g2
                refine ⟨j + 1, by omega, ⟨by omega, by rw [← g2, drop_at hb]⟩, ?_⟩
                ((conv => whnf); simp only [St.mk.injEq, List.cons.injEq, Prod.mk.injEq, AV.c.injEq, AV.agg.injEq, AV.tup.injEq, CV.d.injEq, D.int.injEq, D.bool.injEq, D.str.injEq, D.sl.injEq, Ent.arr.injEq, Ent.box.injEq, true_and, and_true, and_self, nInt_eq, Int.natCast_zero, dLen_eL, sLen_eq, wI g3 (by omega)])
              · repeat' (first | (refine And.intro (fun q => ?_) (fun q => ?_) <;> cases q <;> (conv => whnf)) | (refine ref_at (wI g3 (by omega)) (by simp; omega) ?_; (conv => whnf)) | (refine ld_at (by simp [wI g3 (show m ≤ 9223372036854775807 by omega)]) hb ?_; (conv => whnf)) | fail)
                rw [hin true (by first | (simp [g4', e2, e4]; done) | (simp [g4', e3, e5]; done))] at g2
                rw [← g2] at hw
                rw [← hw]
                rfl
          · repeat' (first | (refine And.intro (fun q => ?_) (fun q => ?_) <;> cases q <;> (conv => whnf)) | (refine ref_at (wI g3 (by omega)) (by simp; omega) ?_; (conv => whnf)) | (refine ld_at (by simp [wI g3 (show m ≤ 9223372036854775807 by omega)]) hb ?_; (conv => whnf)) | fail)
            generalize e5 : iLe x.c n.c = c5
            cases c5
            · repeat' (first | (refine And.intro (fun q => ?_) (fun q => ?_) <;> cases q <;> (conv => whnf)) | (refine ref_at (wI g3 (by omega)) (by simp; omega) ?_; (conv => whnf)) | (refine ld_at (by simp [wI g3 (show m ≤ 9223372036854775807 by omega)]) hb ?_; (conv => whnf)) | fail)
              generalize e2 : iEq b x.r = c2
              cases c2
              · repeat' (first | (refine And.intro (fun q => ?_) (fun q => ?_) <;> cases q <;> (conv => whnf)) | (refine ref_at (wI g3 (by omega)) (by simp; omega) ?_; (conv => whnf)) | (refine ld_at (by simp [wI g3 (show m ≤ 9223372036854775807 by omega)]) hb ?_; (conv => whnf)) | fail)
                rw [hin false (by first | (simp [e2, e3]; done) | (simp [e2, e5]; done) | (simp [e3, e4]; done) | (simp [e4, e5]; done)), Bool.false_or] at g2
                refine ⟨j + 1, by omega, ⟨by omega, by rw [← g2, drop_at hb]⟩, ?_⟩
                ((conv => whnf); simp only [St.mk.injEq, List.cons.injEq, Prod.mk.injEq, AV.c.injEq, AV.agg.injEq, AV.tup.injEq, CV.d.injEq, D.int.injEq, D.bool.injEq, D.str.injEq, D.sl.injEq, Ent.arr.injEq, Ent.box.injEq, true_and, and_true, and_self, nInt_eq, Int.natCast_zero, dLen_eL, sLen_eq, wI g3 (by omega)])
              · repeat' (first | (refine And.intro (fun q => ?_) (fun q => ?_) <;> cases q <;> (conv => whnf)) | (refine ref_at (wI g3 (by omega)) (by simp; omega) ?_; (conv => whnf)) | (refine ld_at (by simp [wI g3 (show m ≤ 9223372036854775807 by omega)]) hb ?_; (conv => whnf)) | fail)
                generalize e4 : iLe n.c x.c = c4
                cases c4
                · repeat' (first | (refine And.intro (fun q => ?_) (fun q => ?_) <;> cases q <;> (conv => whnf)) | (refine ref_at (wI g3 (by omega)) (by simp; omega) ?_; (conv => whnf)) | (refine ld_at (by simp [wI g3 (show m ≤ 9223372036854775807 by omega)]) hb ?_; (conv => whnf)) | fail)
                  rw [hin false (by first | (simp [e2, e3]; done) | (simp [e2, e5]; done) | (simp [e3, e4]; done) | (simp [e4, e5]; done)), Bool.false_or] at g2
                  refine ⟨j + 1, by omega, ⟨by omega, by rw [← g2, drop_at hb]⟩, ?_⟩
                  ((conv => whnf); simp only [St.mk.injEq, List.cons.injEq, Prod.mk.injEq, AV.c.injEq, AV.agg.injEq, AV.tup.injEq, CV.d.injEq, D.int.injEq, D.bool.injEq, D.str.injEq, D.sl.injEq, Ent.arr.injEq, Ent.box.injEq, true_and, and_true, and_self, nInt_eq, Int.natCast_zero, dLen_eL, sLen_eq, wI g3 (by omega)])
                · repeat' (first | (refine And.intro (fun q => ?_) (fun q => ?_) <;> cases q <;> (conv => whnf)) | (refine ref_at (wI g3 (by omega)) (by simp; omega) ?_; (conv => whnf)) | (refine ld_at (by simp [wI g3 (show m ≤ 9223372036854775807 by omega)]) hb ?_; (conv => whnf)) | fail)
                  rw [hin true (by first | (simp [g4', e2, e4]; done) | (simp [g4', e3, e5]; done))] at g2
                  rw [← g2] at hw
                  rw [← hw]
                  rfl
            · repeat' (first | (refine And.intro (fun q => ?_) (fun q => ?_) <;> cases q <;> (conv => whnf)) | (refine ref_at (wI g3 (by omega)) (by simp; omega) ?_; (conv => whnf)) | (refine ld_at (by simp [wI g3 (show m ≤ 9223372036854775807 by omega)]) hb ?_; (conv => whnf)) | fail)
              rw [hin true (by first | (simp [g4', e2, e4]; done) | (simp [g4', e3, e5]; done))] at g2
              rw [← g2] at hw
              rw [← hw]
              rfl
      · refine ⟨k + 1, by omega, ⟨h4, ?_⟩, ?_⟩
        · obtain rfl : j = m := by omega
          obtain ⟨a, ha⟩ := get_lt (show j < w.length by omega)
          have hd : w.drop (j + 1) = [] := List.drop_eq_nil_of_le (by omega)
          rw [drop_at ha, hd] at g2
          rw [← g2] at hw
          exact hw
        · ((conv => whnf); simp only [St.mk.injEq, List.cons.injEq, Prod.mk.injEq, AV.c.injEq, AV.agg.injEq, AV.tup.injEq, CV.d.injEq, D.int.injEq, D.bool.injEq, D.str.injEq, D.sl.injEq, Ent.arr.injEq, Ent.box.injEq, true_and, and_true, and_self, nInt_eq, Int.natCast_zero, dLen_eL, sLen_eq, wI h4 (by omega)])
  · obtain rfl : k = t.length := by omega
    simp only [List.drop_length, implBads] at hw
    (conv => whnf)
    rw [← hw]
    rfl

theorem steps_more {t : List Nd} : ∀ {n : Nat} {x : Int} {l : List Int}, steps t n x = some l → steps t (n + 1) x = some l
  | 0, x, l, h => by simp [steps] at h
  | n + 1, x, l, h => by
    rw [steps] at h ⊢
    split
    · rw [if_pos (by assumption)] at h; exact h
    · rw [if_neg (by assumption)] at h
      simp only [Option.map_eq_some_iff] at h ⊢
      obtain ⟨r, h1, h2⟩ := h
      exact ⟨r, steps_more h1, h2⟩
theorem chain_iff (t : List Nd) (n : Nd) : ∀ l : List Int, chainBad t n l = true ↔ ∃ (j : Nat) (a b : Int), l[j]? = some a ∧ l[j + 1]? = some b ∧ badP t n b a = true
  | [] => by simp [chainBad]
  | [a] => by simp [chainBad]
  | a :: b :: r => by
    simp only [chainBad, Bool.or_eq_true, chain_iff t n (b :: r)]
    constructor
    · rintro (h | ⟨j, x, y, h1, h2, h3⟩)
      · exact ⟨0, a, b, rfl, rfl, h⟩
      · exact ⟨j + 1, x, y, by simpa using h1, by simpa using h2, h3⟩
    · rintro ⟨j, x, y, h1, h2, h3⟩
      cases j with
      | zero => simp at h1 h2; subst h1; subst h2; exact .inl h3
      | succ j => exact .inr ⟨j, x, y, by simpa using h1, by simpa using h2, h3⟩
theorem way_iff (t : List Nd) (n : Nd) : ∀ l : List Int, wayBad t n l = true ↔ ∃ (j : Nat) (a b : Int), l[j]? = some a ∧ l[j + 1]? = some b ∧ badP t n a b = true
  | [] => by simp [wayBad]
  | [a] => by simp [wayBad]
  | a :: b :: r => by
    simp only [wayBad, Bool.or_eq_true, way_iff t n (b :: r)]
    constructor
    · rintro (h | ⟨j, x, y, h1, h2, h3⟩)
      · exact ⟨0, a, b, rfl, rfl, h⟩
      · exact ⟨j + 1, x, y, by simpa using h1, by simpa using h2, h3⟩
    · rintro ⟨j, x, y, h1, h2, h3⟩
      cases j with
      | zero => simp at h1 h2; subst h1; subst h2; exact .inl h3
      | succ j => exact .inr ⟨j, x, y, by simpa using h1, by simpa using h2, h3⟩
theorem way_rev (t : List Nd) (n : Nd) (l : List Int) : wayBad t n l.reverse = chainBad t n l := by
  rw [Bool.eq_iff_iff, way_iff, chain_iff]
  constructor
  · rintro ⟨j, a, b, h1, h2, h3⟩
    have hj : j + 1 < l.length := by simpa using (List.getElem?_eq_some_iff.1 h2).1
    rw [List.getElem?_reverse (by omega)] at h1
    rw [List.getElem?_reverse (by omega)] at h2
    exact ⟨l.length - 1 - (j + 1), b, a, h2, by rw [← h1]; congr 1; omega, h3⟩
  · rintro ⟨j, a, b, h1, h2, h3⟩
    have hj : j + 1 < l.length := (List.getElem?_eq_some_iff.1 h2).1
    refine ⟨l.length - 1 - (j + 1), b, a, ?_, ?_, h3⟩
    · rw [List.getElem?_reverse (by omega), ← h2]; congr 1; omega
    · rw [List.getElem?_reverse (by omega), ← h1]; congr 1; omega
theorem implBads_iff (t : List Nd) : ∀ (l : List Nd) (k : Nat), implBads t l k = true ↔ ∃ (j : Nat) (n : Nd), l[j]? = some n ∧ implBad t ((k + j : Nat) : Int) n = true
  | [], k => by simp [implBads]
  | n :: r, k => by
    simp only [implBads, Bool.or_eq_true, implBads_iff t r (k + 1)]
    constructor
    · rintro (h | ⟨j, x, h1, h2⟩)
      · exact ⟨0, n, rfl, h⟩
      · exact ⟨j + 1, x, by simpa using h1, by rw [show k + (j + 1) = k + 1 + j by omega]; exact h2⟩
    · rintro ⟨j, x, h1, h2⟩
      cases j with
      | zero => simp at h1; subst h1; exact .inl h2
      | succ j => exact .inr ⟨j, x, by simpa using h1, by rw [show k + 1 + j = k + (j + 1) by omega]; exact h2⟩
theorem waysBad_iff (t : List Nd) : ∀ (l : List Nd) (k : Nat), waysBad t l k = true ↔ ∃ (j : Nat) (n : Nd), l[j]? = some n ∧ nodeBad t ((k + j : Nat) : Int) n = true
  | [], k => by simp [waysBad]
  | n :: r, k => by
    simp only [waysBad, Bool.or_eq_true, waysBad_iff t r (k + 1)]
    constructor
    · rintro (h | ⟨j, x, h1, h2⟩)
      · exact ⟨0, n, rfl, h⟩
      · exact ⟨j + 1, x, by simpa using h1, by rw [show k + (j + 1) = k + 1 + j by omega]; exact h2⟩
    · rintro ⟨j, x, h1, h2⟩
      cases j with
      | zero => simp at h1; subst h1; exact .inl h2
      | succ j => exact .inr ⟨j, x, by simpa using h1, by rw [show k + 1 + j = k + (j + 1) by omega]; exact h2⟩
theorem depthK_le (t : List Nd) (c : Int) (hc : -1 ≤ c) : ∀ m : Nat, depthK t m ≤ c ↔ ∀ j : Nat, j < m → levelL t j ≤ c
  | 0 => by simp [depthK, hc]
  | m + 1 => by
    simp only [depthK]
    rw [show max (depthK t m) (levelL t m) ≤ c ↔ depthK t m ≤ c ∧ levelL t m ≤ c by omega, depthK_le t c hc m]
    constructor
    · rintro ⟨h1, h2⟩ j hj
      rcases Nat.lt_or_ge j m with q | q
      · exact h1 j q
      · obtain rfl : j = m := by omega
        exact h2
    · intro h
      exact ⟨fun j hj => h j (by omega), h m (by omega)⟩
theorem level_way {t : List Nd} {j : Nat} {l : List Int} (hj : j < t.length) (hs : steps t 32 j = some l) : levelL t j = (l.length : Int) - 1 := by
  unfold levelL lvl
  rw [if_pos (by omega)]
  simp only [hs, Int.add_zero]
theorem level_kid {t : List Nd} {ft : Int} (h : shapeOk t ft = true) (hl : t.length ≤ 31) {j c : Nat} (hj : j < t.length) (hc : c < t.length) (hu : up t c = j) : levelL t c = levelL t j + 1 := by
  obtain ⟨lc, h1, _⟩ := steps_anc h 31 c (by omega)
  obtain ⟨lj, h2, _⟩ := steps_anc h 31 j (by omega)
  have h1' := h1
  rw [steps, if_neg (by omega), hu] at h1'
  simp only [Option.map_eq_some_iff] at h1'
  obtain ⟨r, h3, rfl⟩ := h1'
  have h4 := steps_more h3
  rw [h2] at h4
  cases h4
  rw [level_way hc h1, level_way hj h2]
  simp
theorem levels_leaf {t : List Nd} {ft : Int} (h : shapeOk t ft = true) (hl : t.length ≤ 31) (hleaf : ∀ (j : Nat) (n : Nd), t[j]? = some n → n.f = -1 → levelL t j ≤ 4) : ∀ (d : Nat) (j : Nat), t.length - j = d → j < t.length → levelL t j ≤ 4 := by
  intro d
  induction d using Nat.strongRecOn with
  | _ d ih =>
    intro j hd hj
    obtain ⟨n, hn⟩ := get_lt hj
    by_cases hf : n.f = -1
    · exact hleaf j n hn hf
    · have hk := shape_kids h hn hf
      have hu := up_kid h hn hf (.inl rfl)
      obtain ⟨c, hc⟩ : ∃ c : Nat, n.l = c := ⟨n.l.toNat, by omega⟩
      rw [hc] at hu hk
      have := level_kid h hl hj (show c < t.length by omega) hu
      have := ih (t.length - c) (by omega) c rfl (by omega)
      omega
theorem treeOk_same (t : List Nd) (ft : Int) : treeOkI t ft = treeOk t ft := by
  unfold treeOkI treeOk
  by_cases h1 : 1 ≤ (t.length : Int) ∧ (t.length : Int) ≤ 31
  · rw [decide_eq_true h1, Bool.true_and, Bool.true_and]
    congr 1
    cases h3 : shapeOk t ft with
    | false => rfl
    | true =>
      rw [Bool.true_and, Bool.true_and]
      have hst : ∀ j : Nat, j < t.length → ∃ l, steps t 32 j = some l ∧ wayL t j = l.reverse := fun j hj => by
        obtain ⟨l, hl, _⟩ := steps_anc h3 31 j (by omega)
        exact ⟨l, hl, by unfold wayL; rw [if_pos (by omega), hl]⟩
      rw [Bool.eq_iff_iff]
      simp only [Bool.not_eq_true', Bool.and_eq_true, decide_eq_true_eq]
      rw [depthK_le t 4 (by omega)]
      have n1 := implBads_iff t t 0
      have n2 := waysBad_iff t t 0
      simp only [Nat.zero_add] at n1 n2
      constructor
      · intro hb
        have hno : ∀ (j : Nat) (n : Nd), t[j]? = some n → implBad t j n = false := fun j n hn => by
          cases hq : implBad t j n with
          | false => rfl
          | true => rw [n1.2 ⟨j, n, hn, hq⟩] at hb; cases hb
        refine ⟨fun j hj => levels_leaf h3 (by omega) (fun j n hn hf => ?_) _ j rfl hj, ?_⟩
        · have := hno j n hn
          simp only [implBad, if_pos hf, decide_eq_false_iff_not] at this
          have hj := (List.getElem?_eq_some_iff.1 hn).1
          obtain ⟨l, hl, hw⟩ := hst j hj
          rw [level_way hj hl]
          rw [hw] at this
          simp at this
          omega
        · cases hq : waysBad t t 0 with
          | false => rfl
          | true =>
            obtain ⟨j, n, hn, hbad⟩ := n2.1 hq
            have hj := (List.getElem?_eq_some_iff.1 hn).1
            obtain ⟨l, hl, hw⟩ := hst j hj
            simp only [nodeBad, hl, bAnd, Bool.and_eq_true, bNot, Bool.not_eq_true', iEq, decide_eq_false_iff_not] at hbad
            have := hno j n hn
            simp only [implBad, if_neg hbad.1, hw, way_rev] at this
            rw [hbad.2] at this
            cases this
      · rintro ⟨hd, hw⟩
        cases hq : implBads t t 0 with
        | false => rfl
        | true =>
          obtain ⟨j, n, hn, hbad⟩ := n1.1 hq
          have hj := (List.getElem?_eq_some_iff.1 hn).1
          obtain ⟨l, hl, hwy⟩ := hst j hj
          have hlev := hd j hj
          rw [level_way hj hl] at hlev
          by_cases hf : n.f = -1
          · simp only [implBad, if_pos hf, decide_eq_true_eq, hwy, List.length_reverse] at hbad
            omega
          · simp only [implBad, if_neg hf, hwy, way_rev] at hbad
            have : nodeBad t j n = true := by simp [nodeBad, hl, bAnd, bNot, iEq, hf, hbad]
            rw [n2.2 ⟨j, n, hn, this⟩] at hw
            cases hw
  · rw [decide_eq_false h1]; rfl
theorem impl_TreeOk_spec (t : List Nd) (ft : Int) (hl : t.length ≤ 1048576) : FnSpec PR f_impl_TreeOk [aT t, ai ft] (ab (treeOk t ft)) [] 0 := treeOk_same t ft ▸ impl_TreeOk_one t ft hl
end Go.H.S
namespace Go.H.S
open Go Go.Proofs Go.H
attribute [local irreducible] Tri FnSpec FnSpecM FnSpecX FnSpecJ
set_option maxRecDepth 100000
set_option linter.unusedSimpArgs false
set_option linter.unusedVariables false


def binOfL : List Int → Int → Nat
  | [], _ => 0
  | c :: r, v => (if c < v then 1 else 0) + binOfL r v
theorem binOfL_le : ∀ (l : List Int) (v : Int), binOfL l v ≤ l.length
  | [], v => by simp [binOfL]
  | c :: r, v => by
    have := binOfL_le r v
    simp only [binOfL, List.length_cons]
    split <;> omega

theorem impl_BinOf_spec (cuts : List Int) (v : Int) (hl : cuts.length ≤ 1048576) : FnSpec PR f_impl_BinOf [aIs cuts, ai v] (ai (binOfL cuts v)) [] 0 := by
  have hle := binOfL_le cuts v
  refine FnSpec.intro hT p_impl_BinOf rfl (by kernel_rfl) n_impl_BinOf rfl ?_
  conv => whnf
  refine tri_loop hT [1, 5, 8, 9, 10] (α := Nat × Nat) (fun x => { t := [(1, ai v), (5, ai x.2), (8, aIs cuts), (9, ai cuts.length), (10, ai x.1)], h := [], n := 0, N := 21 })
    (fun x => x.1 ≤ cuts.length ∧ x.2 + binOfL (cuts.drop x.1) v = binOfL cuts v) (fun x => cuts.length - x.1) (0, 0) (by ((conv => whnf); simp only [St.mk.injEq, List.cons.injEq, Prod.mk.injEq, AV.c.injEq, AV.agg.injEq, AV.tup.injEq, CV.d.injEq, D.int.injEq, D.bool.injEq, D.str.injEq, D.sl.injEq, Ent.arr.injEq, Ent.box.injEq, true_and, and_true, and_self, nInt_eq, Int.natCast_zero, dLen_eL, sLen_eq])) ⟨Nat.zero_le _, by simp⟩ ?_
  intro ⟨k, c⟩ ⟨hk, hc⟩
  dsimp only at hk hc
  (conv => whnf)
  refine ifB_i (fun h1 => ?_) (fun h1 => ?_) <;> (conv => whnf) <;> simp at h1
  · obtain ⟨x, hx⟩ := get_lt h1
    rw [drop_at hx, binOfL] at hc
    refine idx_at (by simp) hx ?_
    (conv => whnf)
    refine ifB_i (fun h2 => ?_) (fun h2 => ?_) <;> (conv => whnf) <;> simp only [nInt_eq, Int.natCast_zero, dLen_eL, sLen_eq, nOf_eq, Int.toNat_natCast, nAdd_eq, nSub_eq, dLen_nil, dLen_cons, iLt_t, iLt_f, iLe_t, iLe_f, iEq_t, iEq_f, sEq_t, sEq_f, bNot_t, bNot_f, bAnd_t, bEq_t, bEq_f, Bool.not_eq_true, Bool.not_eq_false, Bool.true_eq_false, Bool.false_eq_true] at h2
    · rw [if_pos h2] at hc
      refine ⟨(k + 1, c + 1), by dsimp only; omega, ⟨h1, by dsimp only; omega⟩, ?_⟩
      ((conv => whnf); simp only [St.mk.injEq, List.cons.injEq, Prod.mk.injEq, AV.c.injEq, AV.agg.injEq, AV.tup.injEq, CV.d.injEq, D.int.injEq, D.bool.injEq, D.str.injEq, D.sl.injEq, Ent.arr.injEq, Ent.box.injEq, true_and, and_true, and_self, nInt_eq, Int.natCast_zero, dLen_eL, sLen_eq, wI h1 (by omega), wI (show c < 1048577 by omega) (by omega)])
    · rw [if_neg (by omega)] at hc
      refine ⟨(k + 1, c), by dsimp only; omega, ⟨h1, by dsimp only; omega⟩, ?_⟩
      ((conv => whnf); simp only [St.mk.injEq, List.cons.injEq, Prod.mk.injEq, AV.c.injEq, AV.agg.injEq, AV.tup.injEq, CV.d.injEq, D.int.injEq, D.bool.injEq, D.str.injEq, D.sl.injEq, Ent.arr.injEq, Ent.box.injEq, true_and, and_true, and_self, nInt_eq, Int.natCast_zero, dLen_eL, sLen_eq, wI h1 (by omega)])
  · obtain rfl : k = cuts.length := by omega
    simp [binOfL] at hc
    rw [hc]

theorem spec_BinOf_spec (cuts : List Int) (v : Int) (hl : cuts.length ≤ 1048576) : FnSpec PR f_spec_BinOf [aIs cuts, ai v] (ai (binOfL cuts v)) [] 0 := by
  have hle := binOfL_le cuts v
  refine FnSpec.intro hT p_spec_BinOf rfl (by kernel_rfl) n_spec_BinOf rfl ?_
  conv => whnf
  refine tri_loop hT [0, 1, 5, 6] (α := Nat × Nat) (fun x => { t := [(0, aIs cuts), (1, ai v), (5, ai x.2), (6, ai x.1)], h := [], n := 0, N := 22 })
    (fun x => x.1 ≤ cuts.length ∧ x.2 + binOfL (cuts.drop x.1) v = binOfL cuts v) (fun x => cuts.length - x.1) (0, 0) (by ((conv => whnf); simp only [St.mk.injEq, List.cons.injEq, Prod.mk.injEq, AV.c.injEq, AV.agg.injEq, AV.tup.injEq, CV.d.injEq, D.int.injEq, D.bool.injEq, D.str.injEq, D.sl.injEq, Ent.arr.injEq, Ent.box.injEq, true_and, and_true, and_self, nInt_eq, Int.natCast_zero, dLen_eL, sLen_eq])) ⟨Nat.zero_le _, by simp⟩ ?_
  intro ⟨k, c⟩ ⟨hk, hc⟩
  dsimp only at hk hc
  (conv => whnf)
  refine ifB_i (fun h1 => ?_) (fun h1 => ?_) <;> (conv => whnf) <;> simp at h1
  · obtain ⟨x, hx⟩ := get_lt h1
    rw [drop_at hx, binOfL] at hc
    refine idx_at (by simp) hx ?_
    (conv => whnf)
    refine ifB_i (fun h2 => ?_) (fun h2 => ?_) <;> (conv => whnf) <;> simp only [nInt_eq, Int.natCast_zero, dLen_eL, sLen_eq, nOf_eq, Int.toNat_natCast, nAdd_eq, nSub_eq, dLen_nil, dLen_cons, iLt_t, iLt_f, iLe_t, iLe_f, iEq_t, iEq_f, sEq_t, sEq_f, bNot_t, bNot_f, bAnd_t, bEq_t, bEq_f, Bool.not_eq_true, Bool.not_eq_false, Bool.true_eq_false, Bool.false_eq_true] at h2
    · rw [if_pos h2] at hc
      refine ⟨(k + 1, c + 1), by dsimp only; omega, ⟨h1, by dsimp only; omega⟩, ?_⟩
      ((conv => whnf); simp only [St.mk.injEq, List.cons.injEq, Prod.mk.injEq, AV.c.injEq, AV.agg.injEq, AV.tup.injEq, CV.d.injEq, D.int.injEq, D.bool.injEq, D.str.injEq, D.sl.injEq, Ent.arr.injEq, Ent.box.injEq, true_and, and_true, and_self, nInt_eq, Int.natCast_zero, dLen_eL, sLen_eq, wI h1 (by omega), wI (show c < 1048577 by omega) (by omega)])
    · rw [if_neg (by omega)] at hc
      refine ⟨(k + 1, c), by dsimp only; omega, ⟨h1, by dsimp only; omega⟩, ?_⟩
      ((conv => whnf); simp only [St.mk.injEq, List.cons.injEq, Prod.mk.injEq, AV.c.injEq, AV.agg.injEq, AV.tup.injEq, CV.d.injEq, D.int.injEq, D.bool.injEq, D.str.injEq, D.sl.injEq, Ent.arr.injEq, Ent.box.injEq, true_and, and_true, and_self, nInt_eq, Int.natCast_zero, dLen_eL, sLen_eq, wI h1 (by omega)])
  · obtain rfl : k = cuts.length := by omega
    simp [binOfL] at hc
    rw [hc]

def upTo (n : Nat) : List Int := (List.range n).map fun (i : Nat) => (i : Int)
theorem upTo_len (n : Nat) : (upTo n).length = n := by simp [upTo]
theorem upTo_succ (n : Nat) : upTo (n + 1) = upTo n ++ [(n : Int)] := by simp [upTo, List.range_succ]
def allRowsL (n : Int) : List Int := if 1 ≤ n ∧ n ≤ 40 then upTo n.toNat else []

theorem impl_AllRows_spec (n : Int) : FnSpec PR f_impl_AllRows [ai n] (.c (.ref 0 0 none)) [(0, .arr t_int 1 0 .own (eL cI (allRowsL n)))] 1 := by
  refine FnSpec.intro hT p_impl_AllRows rfl (by kernel_rfl) n_impl_AllRows rfl ?_
  conv => whnf
  refine .inl ⟨_, _, _, impl_within_spec _ _ _, rfl, ?_⟩
  (conv => whnf)
  by_cases h : 1 ≤ n ∧ n ≤ 40
  · rw [show decide (1 ≤ n ∧ n ≤ 40) = true from decide_eq_true h]
    (conv => whnf)
    have he : allRowsL n = upTo n.toNat := by rw [allRowsL, if_pos h]
    rw [he]
    obtain ⟨m, rfl⟩ : ∃ m : Nat, n = m := ⟨n.toNat, by omega⟩
    simp only [Int.toNat_natCast]
    refine tri_loop hT [3, 10, 11] (α := Nat) (fun x => { t := [(3, .c (.ref 0 0 none)), (10, ai m), (11, ai x)], h := [(0, .arr t_int 1 0 .own (eL cI (upTo x)))], n := 1, N := 20 })
      (fun x => x ≤ m) (fun x => m - x) 0 (by (conv => whnf); rw [show upTo 0 = [] from rfl, eL_nil]; rfl) (Nat.zero_le _) ?_
    intro k hk
    (conv => whnf)
    refine ifB_i (fun h1 => ?_) (fun h1 => ?_) <;> (conv => whnf) <;> simp at h1
    · refine And.intro (by simp [eL_length, dLen_len, upTo_len]; omega) ?_
      (conv => whnf)
      refine ⟨k + 1, by omega, h1, ?_⟩
      ((conv => whnf); simp only [St.mk.injEq, List.cons.injEq, Prod.mk.injEq, AV.c.injEq, AV.agg.injEq, AV.tup.injEq, CV.d.injEq, D.int.injEq, D.bool.injEq, D.str.injEq, D.sl.injEq, Ent.arr.injEq, Ent.box.injEq, true_and, and_true, and_self, nInt_eq, Int.natCast_zero, dLen_eL, sLen_eq, wI h1 (by omega)])
      rw [upTo_succ, ← eL_app]
      rfl
    · obtain rfl : k = m := by omega
      (conv => whnf)
  · rw [show decide (1 ≤ n ∧ n ≤ 40) = false from decide_eq_false h]
    (conv => whnf)
    rw [allRowsL, if_neg h, eL_nil]

theorem spec_AllRows_spec (n : Int) : FnSpec PR f_spec_AllRows [ai n] (.c (.ref 0 0 none)) [(0, .arr t_int 1 0 .own (eL cI (allRowsL n)))] 1 := by
  refine FnSpec.intro hT p_spec_AllRows rfl (by kernel_rfl) n_spec_AllRows rfl ?_
  conv => whnf
  refine tri_loop hT [0, 3, 4] (α := Nat) (fun x => { t := [(0, ai n), (3, .c (.ref 0 0 none)), (4, ai x)], h := [(0, .arr t_int 1 0 .own (eL cI (upTo x)))], n := 1, N := 20 })
    (fun x => x = 0 ∨ (n ≤ 40 ∧ x ≤ n)) (fun x => 40 - x) 0 (by (conv => whnf); rw [show upTo 0 = [] from rfl, eL_nil]; rfl) (.inl rfl) ?_
  intro k hk
  (conv => whnf)
  refine ifB_i (fun h1 => ?_) (fun h1 => ?_) <;> (conv => whnf) <;> simp only [nInt_eq, Int.natCast_zero, dLen_eL, sLen_eq, nOf_eq, Int.toNat_natCast, nAdd_eq, nSub_eq, dLen_nil, dLen_cons, iLt_t, iLt_f, iLe_t, iLe_f, iEq_t, iEq_f, sEq_t, sEq_f, bNot_t, bNot_f, bAnd_t, bEq_t, bEq_f, Bool.not_eq_true, Bool.not_eq_false, Bool.true_eq_false, Bool.false_eq_true] at h1
  · refine ifB_i (fun h2 => ?_) (fun h2 => ?_) <;> (conv => whnf) <;> simp only [nInt_eq, Int.natCast_zero, dLen_eL, sLen_eq, nOf_eq, Int.toNat_natCast, nAdd_eq, nSub_eq, dLen_nil, dLen_cons, iLt_t, iLt_f, iLe_t, iLe_f, iEq_t, iEq_f, sEq_t, sEq_f, bNot_t, bNot_f, bAnd_t, bEq_t, bEq_f, Bool.not_eq_true, Bool.not_eq_false, Bool.true_eq_false, Bool.false_eq_true] at h2
    · refine And.intro (by simp [eL_length, dLen_len, upTo_len]; omega) ?_
      (conv => whnf)
      refine ⟨k + 1, by omega, .inr (by omega), ?_⟩
      ((conv => whnf); simp only [St.mk.injEq, List.cons.injEq, Prod.mk.injEq, AV.c.injEq, AV.agg.injEq, AV.tup.injEq, CV.d.injEq, D.int.injEq, D.bool.injEq, D.str.injEq, D.sl.injEq, Ent.arr.injEq, Ent.box.injEq, true_and, and_true, and_self, nInt_eq, Int.natCast_zero, dLen_eL, sLen_eq, wI (show k < 40 by omega) (by omega)])
      rw [upTo_succ, ← eL_app]
      rfl
    · obtain rfl : k = 0 := by omega
      rw [allRowsL, if_neg (by omega)]
      rfl
  · rcases hk with rfl | hk
    · rw [allRowsL, if_neg (by omega)]
      rfl
    · have : n = k := by omega
      subst this
      by_cases h0 : 1 ≤ (k : Int)
      · rw [allRowsL, if_pos (by omega), Int.toNat_natCast]
      · obtain rfl : k = 0 := by omega
        rw [allRowsL, if_neg (by omega)]
        rfl

def atBin (bins : List Int) (b : Int) (r : Int) : Option Bool := if 0 ≤ r ∧ r ≤ (bins.length : Int) - 1 then (bins[r.toNat]?).map fun x => decide (x ≤ b) else none
def splitL (bins rows : List Int) (b : Int) : List Int × List Int := (rows.filter fun r => decide (atBin bins b r = some true), rows.filter fun r => decide (atBin bins b r = some false))
abbrev tupRR : AV := .tup [(false, [.ref 0 0 none]), (false, [.ref 1 0 none])]
theorem splitL_len (bins rows : List Int) (b : Int) : (splitL bins rows b).1.length ≤ rows.length ∧ (splitL bins rows b).2.length ≤ rows.length := ⟨List.length_filter_le _ _, List.length_filter_le _ _⟩
theorem filter_take_step {p : Int → Bool} {xs : List Int} {k : Nat} {x : Int} (h : xs[k]? = some x) : (xs.take (k + 1)).filter p = (xs.take k).filter p ++ (if p x then [x] else []) := by
  rw [List.take_add_one, h, List.filter_append]
  simp only [Option.toList_some, List.filter_cons, List.filter_nil]

theorem impl_SplitRows_spec (bins rows : List Int) (b : Int) (hb : bins.length ≤ 1048576) (hr : rows.length ≤ 1048576) : FnSpec PR f_impl_SplitRows [aIs bins, aIs rows, ai b] tupRR [(0, .arr t_int 1 0 .own (eL cI (splitL bins rows b).1)), (1, .arr t_int 1 0 .own (eL cI (splitL bins rows b).2))] 2 := by
  have e1 : wSub .i64 (nInt (dLen (eL cI bins))) 1 = (bins.length : Int) - 1 := by rw [show nInt (dLen (eL cI bins)) = (bins.length : Int) by simp]; exact wSub64 (by omega) (by omega)
  refine FnSpec.intro hT p_impl_SplitRows rfl (by kernel_rfl) n_impl_SplitRows rfl ?_
  conv => whnf
  refine tri_loop hT [0, 2, 8, 9, 14, 15, 16] (α := Nat) (fun x => { t := [(0, aIs bins), (2, ai b), (8, .c (.ref 0 0 none)), (9, .c (.ref 1 0 none)), (14, aIs rows), (15, ai rows.length), (16, ai x)], h := [(0, .arr t_int 1 0 .own (eL cI (splitL bins (rows.take x) b).1)), (1, .arr t_int 1 0 .own (eL cI (splitL bins (rows.take x) b).2))], n := 2, N := 45 })
    (fun x => x ≤ rows.length) (fun x => rows.length - x) 0 (by ((conv => whnf); simp only [St.mk.injEq, List.cons.injEq, Prod.mk.injEq, AV.c.injEq, AV.agg.injEq, AV.tup.injEq, CV.d.injEq, D.int.injEq, D.bool.injEq, D.str.injEq, D.sl.injEq, Ent.arr.injEq, Ent.box.injEq, true_and, and_true, and_self, nInt_eq, Int.natCast_zero, dLen_eL, sLen_eq, splitL, List.take_zero, List.filter_nil, eL_nil])) (Nat.zero_le _) ?_
  intro k hk
  (conv => whnf)
  refine ifB_i (fun h1 => ?_) (fun h1 => ?_) <;> (conv => whnf) <;> simp at h1
  · obtain ⟨x, hx⟩ := get_lt h1
    have hl := splitL_len bins (rows.take k) b
    have htl : (rows.take k).length = k := by simp; omega
    refine idx_at (by simp) hx ?_
    (conv => whnf)
    rw [e1]
    refine .inl ⟨_, _, _, impl_within_spec _ _ _, rfl, ?_⟩
    (conv => whnf)
    have f1 : (splitL bins (rows.take (k + 1)) b).1 = (splitL bins (rows.take k) b).1 ++ (if decide (atBin bins b x = some true) then [x] else []) := filter_take_step hx
    have f2 : (splitL bins (rows.take (k + 1)) b).2 = (splitL bins (rows.take k) b).2 ++ (if decide (atBin bins b x = some false) then [x] else []) := filter_take_step hx
    by_cases hin : 0 ≤ x ∧ x ≤ (bins.length : Int) - 1
    · rw [show decide (0 ≤ x ∧ x ≤ (bins.length : Int) - 1) = true from decide_eq_true hin]
      (conv => whnf)
      obtain ⟨i, rfl⟩ : ∃ i : Nat, x = i := ⟨x.toNat, by omega⟩
      obtain ⟨y, hy⟩ := get_lt (show i < bins.length by omega)
      refine idx_at (by simp) hy ?_
      (conv => whnf)
      refine ifB_i (fun h2 => ?_) (fun h2 => ?_) <;> (conv => whnf) <;> simp only [nInt_eq, Int.natCast_zero, dLen_eL, sLen_eq, nOf_eq, Int.toNat_natCast, nAdd_eq, nSub_eq, dLen_nil, dLen_cons, iLt_t, iLt_f, iLe_t, iLe_f, iEq_t, iEq_f, sEq_t, sEq_f, bNot_t, bNot_f, bAnd_t, bEq_t, bEq_f, Bool.not_eq_true, Bool.not_eq_false, Bool.true_eq_false, Bool.false_eq_true] at h2
      · have ha : atBin bins b i = some true := by simp [atBin, hin, hy, h2]
        rw [ha] at f1 f2
        simp at f1 f2
        refine And.intro (by simp [eL_length, dLen_len]; omega) ?_
        (conv => whnf)
        refine ⟨k + 1, by omega, h1, ?_⟩
        ((conv => whnf); simp only [St.mk.injEq, List.cons.injEq, Prod.mk.injEq, AV.c.injEq, AV.agg.injEq, AV.tup.injEq, CV.d.injEq, D.int.injEq, D.bool.injEq, D.str.injEq, D.sl.injEq, Ent.arr.injEq, Ent.box.injEq, true_and, and_true, and_self, nInt_eq, Int.natCast_zero, dLen_eL, sLen_eq, wI h1 (by omega)])
        rw [f1, f2, ← eL_app]
        exact ⟨rfl, rfl⟩
      · have ha : atBin bins b i = some false := by simp [atBin, hin, hy]; omega
        rw [ha] at f1 f2
        simp at f1 f2
        refine And.intro (by simp [eL_length, dLen_len]; omega) ?_
        (conv => whnf)
        refine ⟨k + 1, by omega, h1, ?_⟩
        ((conv => whnf); simp only [St.mk.injEq, List.cons.injEq, Prod.mk.injEq, AV.c.injEq, AV.agg.injEq, AV.tup.injEq, CV.d.injEq, D.int.injEq, D.bool.injEq, D.str.injEq, D.sl.injEq, Ent.arr.injEq, Ent.box.injEq, true_and, and_true, and_self, nInt_eq, Int.natCast_zero, dLen_eL, sLen_eq, wI h1 (by omega)])
        rw [f1, f2, ← eL_app]
        exact ⟨rfl, rfl⟩
    · rw [show decide (0 ≤ x ∧ x ≤ (bins.length : Int) - 1) = false from decide_eq_false hin]
      (conv => whnf)
      have ha : atBin bins b x = none := by simp only [atBin]; rw [if_neg hin]
      rw [ha] at f1 f2
      simp at f1 f2
      refine ⟨k + 1, by omega, h1, ?_⟩
      ((conv => whnf); simp only [St.mk.injEq, List.cons.injEq, Prod.mk.injEq, AV.c.injEq, AV.agg.injEq, AV.tup.injEq, CV.d.injEq, D.int.injEq, D.bool.injEq, D.str.injEq, D.sl.injEq, Ent.arr.injEq, Ent.box.injEq, true_and, and_true, and_self, nInt_eq, Int.natCast_zero, dLen_eL, sLen_eq, wI h1 (by omega)])
      rw [f1, f2]
      exact ⟨rfl, rfl⟩
  · obtain rfl : k = rows.length := by omega
    rw [List.take_length]

theorem spec_SplitRows_spec (bins rows : List Int) (b : Int) (hb : bins.length ≤ 1048576) (hr : rows.length ≤ 1048576) : FnSpec PR f_spec_SplitRows [aIs bins, aIs rows, ai b] tupRR [(0, .arr t_int 1 0 .own (eL cI (splitL bins rows b).1)), (1, .arr t_int 1 0 .own (eL cI (splitL bins rows b).2))] 2 := by
  have e1 : wSub .i64 (nInt (dLen (eL cI bins))) 1 = (bins.length : Int) - 1 := by rw [show nInt (dLen (eL cI bins)) = (bins.length : Int) by simp]; exact wSub64 (by omega) (by omega)
  refine FnSpec.intro hT p_spec_SplitRows rfl (by kernel_rfl) n_spec_SplitRows rfl ?_
  conv => whnf
  refine tri_loop hT [0, 1, 2, 8, 9, 10] (α := Nat) (fun x => { t := [(0, aIs bins), (1, aIs rows), (2, ai b), (8, .c (.ref 0 0 none)), (9, .c (.ref 1 0 none)), (10, ai x)], h := [(0, .arr t_int 1 0 .own (eL cI (splitL bins (rows.take x) b).1)), (1, .arr t_int 1 0 .own (eL cI (splitL bins (rows.take x) b).2))], n := 2, N := 55 })
    (fun x => x ≤ rows.length) (fun x => rows.length - x) 0 (by ((conv => whnf); simp only [St.mk.injEq, List.cons.injEq, Prod.mk.injEq, AV.c.injEq, AV.agg.injEq, AV.tup.injEq, CV.d.injEq, D.int.injEq, D.bool.injEq, D.str.injEq, D.sl.injEq, Ent.arr.injEq, Ent.box.injEq, true_and, and_true, and_self, nInt_eq, Int.natCast_zero, dLen_eL, sLen_eq, splitL, List.take_zero, List.filter_nil, eL_nil])) (Nat.zero_le _) ?_
  intro k hk
  (conv => whnf)
  refine ifB_i (fun h1 => ?_) (fun h1 => ?_) <;> (conv => whnf) <;> simp at h1
  · obtain ⟨x, hx⟩ := get_lt h1
    have hl := splitL_len bins (rows.take k) b
    have htl : (rows.take k).length = k := by simp; omega
    refine idx_at (by simp) hx ?_
    (conv => whnf)
    rw [e1]
    refine .inl ⟨_, _, _, spec_l1In_spec _ _ _, rfl, ?_⟩
    (conv => whnf)
    have f1 : (splitL bins (rows.take (k + 1)) b).1 = (splitL bins (rows.take k) b).1 ++ (if decide (atBin bins b x = some true) then [x] else []) := filter_take_step hx
    have f2 : (splitL bins (rows.take (k + 1)) b).2 = (splitL bins (rows.take k) b).2 ++ (if decide (atBin bins b x = some false) then [x] else []) := filter_take_step hx
    by_cases hin : 0 ≤ x ∧ x ≤ (bins.length : Int) - 1
    · rw [show decide (0 ≤ x ∧ x ≤ (bins.length : Int) - 1) = true from decide_eq_true hin]
      (conv => whnf)
      obtain ⟨i, rfl⟩ : ∃ i : Nat, x = i := ⟨x.toNat, by omega⟩
      obtain ⟨y, hy⟩ := get_lt (show i < bins.length by omega)
      refine idx_at (by simp) hx ?_
      (conv => whnf)
      refine idx_at (by simp) hy ?_
      (conv => whnf)
      refine ifB_i (fun h2 => ?_) (fun h2 => ?_) <;> (conv => whnf) <;> simp only [nInt_eq, Int.natCast_zero, dLen_eL, sLen_eq, nOf_eq, Int.toNat_natCast, nAdd_eq, nSub_eq, dLen_nil, dLen_cons, iLt_t, iLt_f, iLe_t, iLe_f, iEq_t, iEq_f, sEq_t, sEq_f, bNot_t, bNot_f, bAnd_t, bEq_t, bEq_f, Bool.not_eq_true, Bool.not_eq_false, Bool.true_eq_false, Bool.false_eq_true] at h2
      · have ha : atBin bins b i = some true := by simp [atBin, hin, hy, h2]
        rw [ha] at f1 f2
        simp at f1 f2
        refine idx_at (by simp) hx ?_
        (conv => whnf)
        refine And.intro (by simp [eL_length, dLen_len]; omega) ?_
        (conv => whnf)
        refine ⟨k + 1, by omega, h1, ?_⟩
        ((conv => whnf); simp only [St.mk.injEq, List.cons.injEq, Prod.mk.injEq, AV.c.injEq, AV.agg.injEq, AV.tup.injEq, CV.d.injEq, D.int.injEq, D.bool.injEq, D.str.injEq, D.sl.injEq, Ent.arr.injEq, Ent.box.injEq, true_and, and_true, and_self, nInt_eq, Int.natCast_zero, dLen_eL, sLen_eq, wI h1 (by omega)])
        rw [f1, f2, ← eL_app]
        exact ⟨rfl, rfl⟩
      · have ha : atBin bins b i = some false := by simp [atBin, hin, hy]; omega
        rw [ha] at f1 f2
        simp at f1 f2
        refine idx_at (by simp) hx ?_
        (conv => whnf)
        refine And.intro (by simp [eL_length, dLen_len]; omega) ?_
        (conv => whnf)
        refine ⟨k + 1, by omega, h1, ?_⟩
        ((conv => whnf); simp only [St.mk.injEq, List.cons.injEq, Prod.mk.injEq, AV.c.injEq, AV.agg.injEq, AV.tup.injEq, CV.d.injEq, D.int.injEq, D.bool.injEq, D.str.injEq, D.sl.injEq, Ent.arr.injEq, Ent.box.injEq, true_and, and_true, and_self, nInt_eq, Int.natCast_zero, dLen_eL, sLen_eq, wI h1 (by omega)])
        rw [f1, f2, ← eL_app]
        exact ⟨rfl, rfl⟩
    · rw [show decide (0 ≤ x ∧ x ≤ (bins.length : Int) - 1) = false from decide_eq_false hin]
      (conv => whnf)
      have ha : atBin bins b x = none := by simp only [atBin]; rw [if_neg hin]
      rw [ha] at f1 f2
      simp at f1 f2
      refine ⟨k + 1, by omega, h1, ?_⟩
      ((conv => whnf); simp only [St.mk.injEq, List.cons.injEq, Prod.mk.injEq, AV.c.injEq, AV.agg.injEq, AV.tup.injEq, CV.d.injEq, D.int.injEq, D.bool.injEq, D.str.injEq, D.sl.injEq, Ent.arr.injEq, Ent.box.injEq, true_and, and_true, and_self, nInt_eq, Int.natCast_zero, dLen_eL, sLen_eq, wI h1 (by omega)])
      rw [f1, f2]
      exact ⟨rfl, rfl⟩
  · obtain rfl : k = rows.length := by omega
    rw [List.take_length]

def rowsIn (g : Grd) : Nat := match g.bins with | [] => 0 | x :: _ => x.length

theorem impl_RowsIn_spec (g : Grd) : FnSpec PR f_impl_RowsIn [aG g] (ai (rowsIn g)) [] 0 := by
  refine FnSpec.intro hT p_impl_RowsIn rfl (by kernel_rfl) n_impl_RowsIn rfl ?_
  conv => whnf
  cases hb : g.bins with
  | nil =>
    refine ifB_i (fun h1 => ?_) (fun h1 => ?_) <;> (conv => whnf) <;> simp only [nInt_eq, Int.natCast_zero, dLen_eL, sLen_eq, nOf_eq, Int.toNat_natCast, nAdd_eq, nSub_eq, dLen_nil, dLen_cons, iLt_t, iLt_f, iLe_t, iLe_f, iEq_t, iEq_f, sEq_t, sEq_f, bNot_t, bNot_f, bAnd_t, bEq_t, bEq_f, Bool.not_eq_true, Bool.not_eq_false, Bool.true_eq_false, Bool.false_eq_true, eL_nil] at h1
    · simp [rowsIn, hb]
    · simp [eL_nil] at h1
  | cons x r =>
    refine ifB_i (fun h1 => ?_) (fun h1 => ?_) <;> (conv => whnf) <;> simp only [nInt_eq, Int.natCast_zero, dLen_eL, sLen_eq, nOf_eq, Int.toNat_natCast, nAdd_eq, nSub_eq, dLen_nil, dLen_cons, iLt_t, iLt_f, iLe_t, iLe_f, iEq_t, iEq_f, sEq_t, sEq_f, bNot_t, bNot_f, bAnd_t, bEq_t, bEq_f, Bool.not_eq_true, Bool.not_eq_false, Bool.true_eq_false, Bool.false_eq_true, eL_cons] at h1
    · omega
    · refine idx_at (by simp) (show (x :: r)[0]? = some x from rfl) ?_
      (conv => whnf)
      simp [rowsIn, hb]

theorem spec_RowsIn_spec (g : Grd) : FnSpec PR f_spec_RowsIn [aG g] (ai (rowsIn g)) [] 0 := by
  refine FnSpec.intro hT p_spec_RowsIn rfl (by kernel_rfl) n_spec_RowsIn rfl ?_
  conv => whnf
  cases hb : g.bins with
  | nil =>
    refine ifB_i (fun h1 => ?_) (fun h1 => ?_) <;> (conv => whnf) <;> simp only [nInt_eq, Int.natCast_zero, dLen_eL, sLen_eq, nOf_eq, Int.toNat_natCast, nAdd_eq, nSub_eq, dLen_nil, dLen_cons, iLt_t, iLt_f, iLe_t, iLe_f, iEq_t, iEq_f, sEq_t, sEq_f, bNot_t, bNot_f, bAnd_t, bEq_t, bEq_f, Bool.not_eq_true, Bool.not_eq_false, Bool.true_eq_false, Bool.false_eq_true, eL_nil] at h1
    · simp [rowsIn, hb]
    · simp [eL_nil] at h1
  | cons x r =>
    refine ifB_i (fun h1 => ?_) (fun h1 => ?_) <;> (conv => whnf) <;> simp only [nInt_eq, Int.natCast_zero, dLen_eL, sLen_eq, nOf_eq, Int.toNat_natCast, nAdd_eq, nSub_eq, dLen_nil, dLen_cons, iLt_t, iLt_f, iLe_t, iLe_f, iEq_t, iEq_f, sEq_t, sEq_f, bNot_t, bNot_f, bAnd_t, bEq_t, bEq_f, Bool.not_eq_true, Bool.not_eq_false, Bool.true_eq_false, Bool.false_eq_true, eL_cons] at h1
    · omega
    · refine idx_at (by simp) (show (x :: r)[0]? = some x from rfl) ?_
      (conv => whnf)
      simp [rowsIn, hb]
end Go.H.S
