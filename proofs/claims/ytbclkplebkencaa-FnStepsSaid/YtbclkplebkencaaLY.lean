/- Library, part Y: the cuts of a tree; rows that are marked. -/
import Derived.Test.YtbclkplebkencaaLX
namespace Go.H.S
open Go Go.Proofs Go.H
attribute [local irreducible] Tri FnSpec FnSpecM FnSpecX FnSpecJ
set_option maxRecDepth 100000
set_option linter.unusedSimpArgs false
set_option linter.unusedVariables false


theorem compactUpTo_succ (xs : List Int) (i : Nat) (x : Int) (hx : xs[i]? = some x) : Go.Lib.compactUpTo xs.toArray (i + 1) = Go.Lib.compactUpTo xs.toArray i ++ (if Go.Lib.keeps xs.toArray i then [x] else []) := by
  have hlt := (List.getElem?_eq_some_iff.1 hx).1
  simp only [Go.Lib.compactUpTo, List.range_succ, List.filter_append, List.map_append]
  congr 1
  have hv : xs.toArray[i]! = x := by
    rw [getElem!_pos _ i (by simpa using hlt)]
    simpa using (List.getElem?_eq_some_iff.1 hx).2
  have hv2 : xs[i]?.getD 0 = x := by rw [hx]; rfl
  cases hk : Go.Lib.keeps xs.toArray i <;> simp [hk, hv, hv2]
theorem spec_Distinct_spec (xs : List Int) (hx : xs.length ≤ 1000000000) : FnSpec PR f_spec_Distinct [aIs xs] (.c (.ref 0 0 none)) [(0, .arr t_int 1 0 true (eL cI (distinctL xs)))] 1 := by
  refine FnSpec.intro hT p_spec_Distinct rfl (by kernel_rfl) n_spec_Distinct rfl ?_
  conv => whnf
  refine .inl ⟨_, _, _, spec_SortInts_spec xs hx, rfl, ?_⟩
  have hsl := sortL_len xs
  have hd : distinctL xs = Go.Lib.compactUpTo (sortL xs).toArray (sortL xs).length := rfl
  rw [hd]
  generalize sortL xs = s at *
  refine tri_loop hT [3, 4, 5] (α := Nat) (fun i => { t := [(3, .c (.ref 0 0 none)), (4, .c (.ref 1 0 none)), (5, ai i)], h := [(0, .arr t_int 1 0 true (eL cI (Go.Lib.compactUpTo s.toArray i))), (1, .arr t_int 1 0 true (eL cI s))], n := 2, N := 37 })
    (fun i => i ≤ s.length) (fun i => s.length - i) 0 (by (conv => whnf); rw [show Go.Lib.compactUpTo s.toArray 0 = [] from rfl, eL_nil]; rfl) (Nat.zero_le _) ?_
  intro i hi
  (conv => whnf)
  refine ifB_i (fun h1 => ?_) (fun h1 => ?_) <;> (conv => whnf) <;> simp at h1
  · obtain ⟨x, hxi⟩ := get_lt h1
    have hcl : (Go.Lib.compactUpTo s.toArray i).length ≤ i := by
      have h := List.length_filter_le (Go.Lib.keeps s.toArray) (List.range i)
      simp only [Go.Lib.compactUpTo, List.length_map]
      simpa using h
    have hcs := compactUpTo_succ s i x hxi
    have hk : ∀ b, Go.Lib.keeps s.toArray i = b → Go.Lib.keeps s.toArray i = b := fun _ h => h
    refine tri_conf hT hmix (by kernel_rfl) ?_
    (conv => whnf)
    cases i with
    | zero =>
      rw [show iEq ((0 : Nat) : Int) 0 = true from rfl]
      have hkt : Go.Lib.keeps s.toArray 0 = true := Go.Lib.keeps_lt_one _ 0 (by omega)
      rw [hkt] at hcs
      rw [if_pos rfl] at hcs
      have hnx : Go.Lib.compactUpTo s.toArray 1 = Go.Lib.compactUpTo s.toArray 0 ++ [x] := hcs
      generalize Go.Lib.compactUpTo s.toArray 0 = o at *
      repeat' (first | (refine And.intro (fun q => ?_) (fun q => ?_) <;> cases q <;> (conv => whnf)) | fail)
      refine ref_at (k := 0) (by simp) (by simp; omega) ?_
      (conv => whnf)
      refine ld_at (by simp) hxi ?_
      (conv => whnf)
      refine And.intro (by simp [eL_length, dLen_len]; omega) ?_
      (conv => whnf)
      refine ⟨1, by omega, h1, ?_⟩
      ((conv => whnf); simp only [St.mk.injEq, List.cons.injEq, Prod.mk.injEq, AV.c.injEq, AV.agg.injEq, AV.tup.injEq, CV.d.injEq, D.int.injEq, D.bool.injEq, D.str.injEq, D.sl.injEq, Ent.arr.injEq, Ent.box.injEq, true_and, and_true, and_self, nInt_eq, Int.natCast_zero, dLen_eL, sLen_eq, partOf_none])
      refine ⟨wI h1 (by omega), ?_⟩
      rw [hnx, ← eL_app]
      rfl
    | succ j =>
      rw [show iEq ((j + 1 : Nat) : Int) 0 = false from decide_eq_false (by omega)]
      obtain ⟨y, hy⟩ := get_lt (show j < s.length by omega)
      have ek : wSub .i64 ((j + 1 : Nat) : Int) 1 = (j : Int) := by rw [wSub64] <;> omega
      repeat' (first | (refine And.intro (fun q => ?_) (fun q => ?_) <;> cases q <;> (conv => whnf)) | fail)
      refine ref_at (k := j + 1) rfl (by simp; omega) ?_
      (conv => whnf)
      repeat' (first | (refine And.intro (fun q => ?_) (fun q => ?_) <;> cases q <;> (conv => whnf)) | fail)
      refine ld_at (by simp) hxi ?_
      (conv => whnf)
      repeat' (first | (refine And.intro (fun q => ?_) (fun q => ?_) <;> cases q <;> (conv => whnf)) | fail)
      refine ref_at (k := j) ek (by simp; omega) ?_
      (conv => whnf)
      repeat' (first | (refine And.intro (fun q => ?_) (fun q => ?_) <;> cases q <;> (conv => whnf)) | fail)
      refine ld_at (by rw [ek]; simp) hy ?_
      (conv => whnf)
      repeat' (first | (refine And.intro (fun q => ?_) (fun q => ?_) <;> cases q <;> (conv => whnf)) | fail)
      generalize e2 : iEq x y = c2
      have hg1 : s.toArray[j + 1]! = x := by
        rw [getElem!_pos _ (j + 1) (by simpa using h1)]
        simpa using (List.getElem?_eq_some_iff.1 hxi).2
      have hg2 : s.toArray[j + 1 - 1]! = y := by
        rw [getElem!_pos _ (j + 1 - 1) (by simp; omega)]
        simpa using (List.getElem?_eq_some_iff.1 hy).2
      cases c2
      · have hkt : Go.Lib.keeps s.toArray (j + 1) = true := Go.Lib.keeps_pos (by rw [hg1, hg2]; simpa [iEq] using e2)
        rw [hkt, if_pos rfl] at hcs
        (conv => whnf)
        refine ref_at (k := j + 1) rfl (by simp; omega) ?_
        (conv => whnf)
        refine ld_at (by simp) hxi ?_
        (conv => whnf)
        refine And.intro (by simp [eL_length, dLen_len]; omega) ?_
        (conv => whnf)
        refine ⟨j + 1 + 1, by omega, h1, ?_⟩
        ((conv => whnf); simp only [St.mk.injEq, List.cons.injEq, Prod.mk.injEq, AV.c.injEq, AV.agg.injEq, AV.tup.injEq, CV.d.injEq, D.int.injEq, D.bool.injEq, D.str.injEq, D.sl.injEq, Ent.arr.injEq, Ent.box.injEq, true_and, and_true, and_self, nInt_eq, Int.natCast_zero, dLen_eL, sLen_eq, partOf_none])
        refine ⟨wI h1 (by omega), ?_⟩
        rw [hcs, ← eL_app]
        rfl
      · have hkt : Go.Lib.keeps s.toArray (j + 1) = false := Go.Lib.keeps_neg (by omega) (by rw [hg1, hg2]; simpa [iEq] using e2)
        rw [hkt] at hcs
        simp only [Bool.false_eq_true, if_false, List.append_nil] at hcs
        (conv => whnf)
        refine ⟨j + 1 + 1, by omega, h1, ?_⟩
        ((conv => whnf); simp only [St.mk.injEq, List.cons.injEq, Prod.mk.injEq, AV.c.injEq, AV.agg.injEq, AV.tup.injEq, CV.d.injEq, D.int.injEq, D.bool.injEq, D.str.injEq, D.sl.injEq, Ent.arr.injEq, Ent.box.injEq, true_and, and_true, and_self, nInt_eq, Int.natCast_zero, dLen_eL, sLen_eq, wI h1 (by omega), hcs])
  · obtain rfl : i = s.length := by omega
    (conv => whnf)

def cutsL (f : Int) : List Nd → List Int
  | [] => []
  | n :: r => if isF f n then n.c :: cutsL f r else cutsL f r
theorem cutsL_len (f : Int) : ∀ t : List Nd, (cutsL f t).length ≤ t.length
  | [] => by simp [cutsL]
  | n :: r => by
    have := cutsL_len f r
    simp only [cutsL]
    split <;> simp <;> omega
def stepsAtL (t : List Nd) (f : Int) : List Int := distinctL (cutsL f t)
theorem impl_StepsAt_spec (t : List Nd) (f : Int) (hl : t.length ≤ 1048576) : FnSpec PR f_impl_StepsAt [aT t, ai f] (.c (.ref 0 0 none)) [(0, .arr t_int 1 0 true (eL cI (stepsAtL t f)))] 1 := by
  have hcl := cutsL_len f t
  refine FnSpec.intro hT p_impl_StepsAt rfl (by kernel_rfl) n_impl_StepsAt rfl ?_
  conv => whnf
  refine tri_loop hT [1, 5, 10, 11, 12] (α := Nat × List Int) (fun x => { t := [(1, ai f), (5, .c (.ref 0 0 none)), (10, aNs t), (11, ai t.length), (12, ai x.1)], h := [(0, .arr t_int 1 0 true (eL cI x.2))], n := 1, N := 33 })
    (fun x => x.1 ≤ t.length ∧ x.2 ++ cutsL f (t.drop x.1) = cutsL f t) (fun x => t.length - x.1) (0, []) (by ((conv => whnf); simp only [St.mk.injEq, List.cons.injEq, Prod.mk.injEq, AV.c.injEq, AV.agg.injEq, AV.tup.injEq, CV.d.injEq, D.int.injEq, D.bool.injEq, D.str.injEq, D.sl.injEq, Ent.arr.injEq, Ent.box.injEq, true_and, and_true, and_self, nInt_eq, Int.natCast_zero, dLen_eL, sLen_eq, eL_nil])) ⟨Nat.zero_le _, by simp⟩ ?_
  intro ⟨k, o⟩ ⟨hk, ho⟩
  dsimp only at hk ho
  have hol : o.length ≤ t.length := by have := congrArg List.length ho; simp at this; omega
  (conv => whnf)
  refine ifB_i (fun h1 => ?_) (fun h1 => ?_) <;> (conv => whnf) <;> simp at h1
  · obtain ⟨n, hn⟩ := get_lt h1
    rw [drop_at hn, cutsL] at ho
    refine idx_at (by simp) hn ?_
    (conv => whnf)
    refine .inl ⟨_, _, _, impl_isLeaf_spec n, rfl, ?_⟩
    (conv => whnf)
    refine ifB_i (fun h2 => ?_) (fun h2 => ?_) <;> (conv => whnf)
    all_goals try (refine ifB_i (fun h4 => ?_) (fun h4 => ?_) <;> (conv => whnf))
    all_goals
      first | (have hb : isF f n = true := by simp_all [isF, bNot, iEq]) | (have hb : isF f n = false := by simp_all [isF, bNot, iEq])
      rw [hb] at ho
    all_goals first
      | (refine And.intro (by simp [eL_length, dLen_len]; omega) ?_
         (conv => whnf)
         refine ⟨(k + 1, o ++ [n.c]), by dsimp only; omega, ⟨h1, by simpa using ho⟩, ?_⟩
         ((conv => whnf); simp only [St.mk.injEq, List.cons.injEq, Prod.mk.injEq, AV.c.injEq, AV.agg.injEq, AV.tup.injEq, CV.d.injEq, D.int.injEq, D.bool.injEq, D.str.injEq, D.sl.injEq, Ent.arr.injEq, Ent.box.injEq, true_and, and_true, and_self, nInt_eq, Int.natCast_zero, dLen_eL, sLen_eq, partOf_none, wI h1 (by omega)])
         rw [← eL_app]
         rfl)
      | (refine ⟨(k + 1, o), by dsimp only; omega, ⟨h1, by simpa using ho⟩, ?_⟩
         ((conv => whnf); simp only [St.mk.injEq, List.cons.injEq, Prod.mk.injEq, AV.c.injEq, AV.agg.injEq, AV.tup.injEq, CV.d.injEq, D.int.injEq, D.bool.injEq, D.str.injEq, D.sl.injEq, Ent.arr.injEq, Ent.box.injEq, true_and, and_true, and_self, nInt_eq, Int.natCast_zero, dLen_eL, sLen_eq, wI h1 (by omega)])
         done)
  · obtain rfl : k = t.length := by omega
    simp [cutsL] at ho
    subst ho
    refine .inr (.inl ⟨_, _, _, impl_Distinct_spec _ (by dsimp only; omega), rfl, ⟨flat_cI _, trivial⟩, ?_⟩)
    (conv => whnf)
    rfl

theorem spec_StepsAt_spec (t : List Nd) (f : Int) (hl : t.length ≤ 1048576) : FnSpec PR f_spec_StepsAt [aT t, ai f] (.c (.ref 0 0 none)) [(0, .arr t_int 1 0 true (eL cI (stepsAtL t f)))] 1 := by
  have hcl := cutsL_len f t
  refine FnSpec.intro hT p_spec_StepsAt rfl (by kernel_rfl) n_spec_StepsAt rfl ?_
  conv => whnf
  refine tri_loop hT [1, 2, 5, 6] (α := Nat × List Int) (fun x => { t := [(1, ai f), (2, .c (.ptr 0 0)), (5, .c (.ref 1 0 none)), (6, ai x.1)], h := [(0, .box t_impl_Tree (cTr t)), (1, .arr t_int 1 0 true (eL cI x.2))], n := 2, N := 42 })
    (fun x => x.1 ≤ t.length ∧ x.2 ++ cutsL f (t.drop x.1) = cutsL f t) (fun x => t.length - x.1) (0, []) (by ((conv => whnf); simp only [St.mk.injEq, List.cons.injEq, Prod.mk.injEq, AV.c.injEq, AV.agg.injEq, AV.tup.injEq, CV.d.injEq, D.int.injEq, D.bool.injEq, D.str.injEq, D.sl.injEq, Ent.arr.injEq, Ent.box.injEq, true_and, and_true, and_self, nInt_eq, Int.natCast_zero, dLen_eL, sLen_eq, eL_nil])) ⟨Nat.zero_le _, by simp⟩ ?_
  intro ⟨k, o⟩ ⟨hk, ho⟩
  dsimp only at hk ho
  have hol : o.length ≤ t.length := by have := congrArg List.length ho; simp at this; omega
  (conv => whnf)
  refine ifB_i (fun h1 => ?_) (fun h1 => ?_) <;> (conv => whnf) <;> simp at h1
  · obtain ⟨n, hn⟩ := get_lt h1
    rw [drop_at hn, cutsL] at ho
    refine idx_at (by simp) hn ?_
    (conv => whnf)
    refine .inl ⟨_, _, _, spec_l17Inner_spec n, rfl, ?_⟩
    (conv => whnf)
    refine ifB_i (fun h2 => ?_) (fun h2 => ?_) <;> (conv => whnf)
    all_goals try (refine idx_at (by simp) hn ?_; (conv => whnf))
    all_goals try (refine ifB_i (fun h4 => ?_) (fun h4 => ?_) <;> (conv => whnf))
    all_goals
      first | (have hb : isF f n = true := by simp_all [isF, bNot, iEq]) | (have hb : isF f n = false := by simp_all [isF, bNot, iEq])
      rw [hb] at ho
    all_goals try (refine idx_at (by simp) hn ?_; (conv => whnf))
    all_goals first
      | (refine And.intro (by simp [eL_length, dLen_len]; omega) ?_
         (conv => whnf)
         refine ⟨(k + 1, o ++ [n.c]), by dsimp only; omega, ⟨h1, by simpa using ho⟩, ?_⟩
         ((conv => whnf); simp only [St.mk.injEq, List.cons.injEq, Prod.mk.injEq, AV.c.injEq, AV.agg.injEq, AV.tup.injEq, CV.d.injEq, D.int.injEq, D.bool.injEq, D.str.injEq, D.sl.injEq, Ent.arr.injEq, Ent.box.injEq, true_and, and_true, and_self, nInt_eq, Int.natCast_zero, dLen_eL, sLen_eq, partOf_none, wI h1 (by omega)])
         rw [← eL_app]
         rfl)
      | (refine ⟨(k + 1, o), by dsimp only; omega, ⟨h1, by simpa using ho⟩, ?_⟩
         ((conv => whnf); simp only [St.mk.injEq, List.cons.injEq, Prod.mk.injEq, AV.c.injEq, AV.agg.injEq, AV.tup.injEq, CV.d.injEq, D.int.injEq, D.bool.injEq, D.str.injEq, D.sl.injEq, Ent.arr.injEq, Ent.box.injEq, true_and, and_true, and_self, nInt_eq, Int.natCast_zero, dLen_eL, sLen_eq, wI h1 (by omega)])
         done)
  · obtain rfl : k = t.length := by omega
    simp [cutsL] at ho
    subst ho
    refine .inr (.inl ⟨_, _, _, spec_Distinct_spec _ (by dsimp only; omega), rfl, ⟨flat_cI _, trivial⟩, ?_⟩)
    (conv => whnf)
    rfl

/-- Marks: k, k + 1, .. -/
def marks (k : Int) : Nat → List Int
  | 0 => []
  | n + 1 => k :: marks (k + 1) n
theorem marks_len : ∀ (n : Nat) (k : Int), (marks k n).length = n
  | 0, _ => rfl
  | n + 1, k => by simp [marks, marks_len n]
theorem marks_get : ∀ (n : Nat) (k : Int) (j : Nat), j < n → (marks k n)[j]? = some (k + j)
  | 0, _, _, h => by omega
  | n + 1, k, 0, _ => by simp [marks]
  | n + 1, k, j + 1, h => by simp only [marks, List.getElem?_cons_succ]; rw [marks_get n (k + 1) j (by omega)]; congr 1; omega
theorem markIntS_spec (xs : List Int) (k : Int) (hk : 0 ≤ k ∧ k ≤ 1000000000000) (hx : xs.length ≤ 1000000000) : FnSpecM PR f_laws_markIntS [.c (.ref 0 0 none), ai k] t_int 1 (eL cI xs) (ai (k + xs.length)) (eL cI (marks k xs.length)) := by
  refine FnSpecM.intro hT 0 p_laws_markIntS rfl (by kernel_rfl) n_laws_markIntS rfl rfl (by simp [eL_length, marks_len]) rfl (flat_cI _) ?_
  intro v0
  (conv => whnf)
  refine tri_loop hT [0, 1, 5] (α := Nat × List Int) (fun x => { t := [(0, .w (.ref 0 0 none) v0), (1, ai (k + x.1)), (5, ai x.1)], h := [(0, .arr t_int 1 0 true (eL cI x.2))], n := 1, N := 19 })
    (fun x => x.1 ≤ xs.length ∧ x.2.length = xs.length ∧ ∀ j, j < x.1 → x.2[j]? = some (k + j)) (fun x => xs.length - x.1) (0, xs) (by ((conv => whnf); simp only [St.mk.injEq, List.cons.injEq, Prod.mk.injEq, AV.c.injEq, AV.agg.injEq, AV.tup.injEq, CV.d.injEq, D.int.injEq, D.bool.injEq, D.str.injEq, D.sl.injEq, Ent.arr.injEq, Ent.box.injEq, true_and, and_true, and_self, nInt_eq, Int.natCast_zero, dLen_eL, sLen_eq, Int.add_zero])) ⟨Nat.zero_le _, rfl, fun j hj => by omega⟩ ?_
  intro ⟨i, ys⟩ ⟨hi, hl, hj⟩
  dsimp only at hi hl hj
  (conv => whnf)
  refine ifB_i (fun h1 => ?_) (fun h1 => ?_) <;> (conv => whnf) <;> simp at h1
  · obtain ⟨y, hy⟩ := get_lt h1
    refine ref_at (k := i) (by simp) (by simp; omega) ?_
    (conv => whnf)
    refine st_at (by simp) hy (by simp [cI]) ?_
    (conv => whnf)
    refine ⟨(i + 1, ys.set i (k + i)), by dsimp only; omega, ⟨by dsimp only; omega, by simp [hl], fun j hlt => ?_⟩, ?_⟩
    · dsimp only at hlt ⊢
      rw [List.getElem?_set]
      split
      · rename_i he; subst he; simp [hl, h1]
      · exact hj j (by omega)
    · ((conv => whnf); simp only [St.mk.injEq, List.cons.injEq, Prod.mk.injEq, AV.c.injEq, AV.agg.injEq, AV.tup.injEq, CV.d.injEq, D.int.injEq, D.bool.injEq, D.str.injEq, D.sl.injEq, Ent.arr.injEq, Ent.box.injEq, true_and, and_true, and_self, nInt_eq, Int.natCast_zero, dLen_eL, sLen_eq])
      refine ⟨⟨by rw [wAdd64] <;> omega, wI h1 (by omega)⟩, ?_⟩
      have := cI_set ys i y (k + i)
      simpa using this
  · obtain rfl : i = xs.length := by omega
    have : ys = marks k xs.length := by
      apply List.ext_getElem?
      intro j
      rcases Nat.lt_or_ge j xs.length with q | q
      · rw [hj j q, marks_get _ _ _ q]
      · rw [List.getElem?_eq_none (by omega), List.getElem?_eq_none (by rw [marks_len]; omega)]
    subst this
    (conv => whnf)

theorem heldIntS_spec (k : Int) (n : Nat) (hk : 0 ≤ k ∧ k ≤ 1000000000000) (hx : n ≤ 1000000000) : FnSpec PR f_laws_heldIntS [aIs (marks k n), ai k] (ai (k + n)) [] 0 := by
  have hml := marks_len n k
  refine FnSpec.intro hT p_laws_heldIntS rfl (by kernel_rfl) n_laws_heldIntS rfl ?_
  conv => whnf
  refine tri_loop hT [0, 1, 5] (α := Nat) (fun x => { t := [(0, aIs (marks k n)), (1, ai (k + x)), (5, ai x)], h := [], n := 0, N := 21 })
    (fun x => x ≤ n) (fun x => n - x) 0 (by ((conv => whnf); simp only [St.mk.injEq, List.cons.injEq, Prod.mk.injEq, AV.c.injEq, AV.agg.injEq, AV.tup.injEq, CV.d.injEq, D.int.injEq, D.bool.injEq, D.str.injEq, D.sl.injEq, Ent.arr.injEq, Ent.box.injEq, true_and, and_true, and_self, nInt_eq, Int.natCast_zero, dLen_eL, sLen_eq, Int.add_zero])) (Nat.zero_le _) ?_
  intro i hi
  (conv => whnf)
  refine ifB_i (fun h1 => ?_) (fun h1 => ?_) <;> (conv => whnf) <;> simp [hml] at h1
  · have hy := marks_get n k i h1
    refine idx_at (by simp) hy ?_
    (conv => whnf)
    refine ifB_i (fun h2 => ?_) (fun h2 => ?_) <;> (conv => whnf) <;> simp only [nInt_eq, Int.natCast_zero, dLen_eL, sLen_eq, nOf_eq, Int.toNat_natCast, nAdd_eq, nSub_eq, dLen_nil, dLen_cons, iLt_t, iLt_f, iLe_t, iLe_f, iEq_t, iEq_f, sEq_t, sEq_f, bNot_t, bNot_f, bAnd_t, bEq_t, bEq_f, Bool.not_eq_true, Bool.not_eq_false, Bool.true_eq_false, Bool.false_eq_true] at h2
    · exact absurd rfl h2
    · refine ⟨i + 1, by omega, by omega, ?_⟩
      ((conv => whnf); simp only [St.mk.injEq, List.cons.injEq, Prod.mk.injEq, AV.c.injEq, AV.agg.injEq, AV.tup.injEq, CV.d.injEq, D.int.injEq, D.bool.injEq, D.str.injEq, D.sl.injEq, Ent.arr.injEq, Ent.box.injEq, true_and, and_true, and_self, nInt_eq, Int.natCast_zero, dLen_eL, sLen_eq, wI h1 (by omega), wAdd64 (show -9223372036854775808 ≤ k + (i : Int) + 1 by omega) (by omega), Int.natCast_add, Int.cast_ofNat_Int, Int.add_assoc])
  · obtain rfl : i = n := by omega
    (conv => whnf)

theorem cN_set0 (ns : List Nd) (i : Nat) (x : Nd) (v : Int) : dSet (eL cN ns) i (dOver (cN x) 0 [.int .i64 v]) = eL cN (ns.set i ⟨v, x.c, x.l, x.r, x.v⟩) := by
  rw [← eL_set]; congr 1; simp [dOver, cN, over]
theorem cN_set1 (ns : List Nd) (i : Nat) (x : Nd) (v : Int) : dSet (eL cN ns) i (dOver (cN x) 1 [.int .i64 v]) = eL cN (ns.set i ⟨x.f, v, x.l, x.r, x.v⟩) := by
  rw [← eL_set]; congr 1; simp [dOver, cN, over]
theorem cN_set2 (ns : List Nd) (i : Nat) (x : Nd) (v : Int) : dSet (eL cN ns) i (dOver (cN x) 2 [.int .i64 v]) = eL cN (ns.set i ⟨x.f, x.c, v, x.r, x.v⟩) := by
  rw [← eL_set]; congr 1; simp [dOver, cN, over]
theorem cN_set3 (ns : List Nd) (i : Nat) (x : Nd) (v : Int) : dSet (eL cN ns) i (dOver (cN x) 3 [.int .i64 v]) = eL cN (ns.set i ⟨x.f, x.c, x.l, v, x.v⟩) := by
  rw [← eL_set]; congr 1; simp [dOver, cN, over]
theorem cN_set4 (ns : List Nd) (i : Nat) (x : Nd) (v : Int) : dSet (eL cN ns) i (dOver (cN x) 4 [.int .i64 v]) = eL cN (ns.set i ⟨x.f, x.c, x.l, x.r, v⟩) := by
  rw [← eL_set]; congr 1; simp [dOver, cN, over]
theorem markNodeS_lost (ns : List Nd) (k : Int) (hk : 0 ≤ k ∧ k ≤ 1000000000000) (hx : ns.length ≤ 1000000000) : FnSpecJ PR f_laws_markNodeS [.c (.ref 0 0 none), ai k] [(0, .arr t_impl_Node 5 0 true (eL cN ns))] 1 (ai (k + 5 * ns.length)) := by
  refine FnSpecJ.intro hT p_laws_markNodeS rfl (by kernel_rfl) n_laws_markNodeS rfl rfl rfl ?_
  (conv => whnf)
  refine tri_loop hT [0, 1, 5] (α := Nat × List Nd) (fun x => { t := [(0, .c (.ref 0 0 none)), (1, ai (k + 5 * x.1)), (5, ai x.1)], h := [(0, .arr t_impl_Node 5 0 true (eL cN x.2))], n := 1, N := 48 })
    (fun x => x.1 ≤ ns.length ∧ x.2.length = ns.length) (fun x => ns.length - x.1) (0, ns) (by ((conv => whnf); simp only [St.mk.injEq, List.cons.injEq, Prod.mk.injEq, AV.c.injEq, AV.agg.injEq, AV.tup.injEq, CV.d.injEq, D.int.injEq, D.bool.injEq, D.str.injEq, D.sl.injEq, Ent.arr.injEq, Ent.box.injEq, true_and, and_true, and_self, nInt_eq, Int.natCast_zero, dLen_eL, sLen_eq]); simp) ⟨Nat.zero_le _, rfl⟩ ?_
  intro ⟨i, ys⟩ ⟨hi, hl⟩
  dsimp only at hi hl
  (conv => whnf)
  refine ifB_i (fun h1 => ?_) (fun h1 => ?_) <;> (conv => whnf) <;> simp at h1
  · obtain ⟨y, hy⟩ := get_lt h1
    have e1 : wAdd .i64 (k + 5 * (i : Int)) 1 = k + 5 * i + 1 := by rw [wAdd64] <;> omega
    have e2 : wAdd .i64 (k + 5 * (i : Int) + 1) 1 = k + 5 * i + 2 := by rw [wAdd64] <;> omega
    have e3 : wAdd .i64 (k + 5 * (i : Int) + 2) 1 = k + 5 * i + 3 := by rw [wAdd64] <;> omega
    have e4 : wAdd .i64 (k + 5 * (i : Int) + 3) 1 = k + 5 * i + 4 := by rw [wAdd64] <;> omega
    have e5 : wAdd .i64 (k + 5 * (i : Int) + 4) 1 = k + 5 * i + 5 := by rw [wAdd64] <;> omega
    have ei : nAdd (offR none) (nOf ((i : Nat) : Int)) = i := by simp
    refine ref_at (k := i) (by simp) (by simp; omega) ?_
    (conv => whnf)
    refine st_at (by simp) hy (by simp [cN]) ?_
    dsimp only
    rw [ei, cN_set0]
    generalize hz0 : ys.set i _ = z0
    have hl0 : z0.length = ns.length := by rw [← hz0]; simp [hl]
    obtain ⟨y0, hy0⟩ := get_lt (show i < z0.length by omega)
    (conv => whnf)
    refine ref_at (k := i) (by simp) (by simp; omega) ?_
    (conv => whnf)
    refine st_at (by simp) hy0 (by simp [cN]) ?_
    dsimp only
    rw [ei, cN_set1]
    generalize hz1 : z0.set i _ = z1
    have hl1 : z1.length = ns.length := by rw [← hz1]; simp [hl0]
    obtain ⟨y1, hy1⟩ := get_lt (show i < z1.length by omega)
    (conv => whnf)
    refine ref_at (k := i) (by simp) (by simp; omega) ?_
    (conv => whnf)
    refine st_at (by simp) hy1 (by simp [cN]) ?_
    dsimp only
    rw [ei, cN_set2]
    generalize hz2 : z1.set i _ = z2
    have hl2 : z2.length = ns.length := by rw [← hz2]; simp [hl1]
    obtain ⟨y2, hy2⟩ := get_lt (show i < z2.length by omega)
    (conv => whnf)
    refine ref_at (k := i) (by simp) (by simp; omega) ?_
    (conv => whnf)
    refine st_at (by simp) hy2 (by simp [cN]) ?_
    dsimp only
    rw [ei, cN_set3]
    generalize hz3 : z2.set i _ = z3
    have hl3 : z3.length = ns.length := by rw [← hz3]; simp [hl2]
    obtain ⟨y3, hy3⟩ := get_lt (show i < z3.length by omega)
    (conv => whnf)
    refine ref_at (k := i) (by simp) (by simp; omega) ?_
    (conv => whnf)
    refine st_at (by simp) hy3 (by simp [cN]) ?_
    dsimp only
    rw [ei, cN_set4]
    generalize hz4 : z3.set i _ = z4
    have hl4 : z4.length = ns.length := by rw [← hz4]; simp [hl3]
    obtain ⟨y4, hy4⟩ := get_lt (show i < z4.length by omega)
    (conv => whnf)
    refine ⟨(i + 1, z4), by dsimp only; omega, ⟨by dsimp only; omega, hl4⟩, ?_⟩
    ((conv => whnf); simp only [St.mk.injEq, List.cons.injEq, Prod.mk.injEq, AV.c.injEq, AV.agg.injEq, AV.tup.injEq, CV.d.injEq, D.int.injEq, D.bool.injEq, D.str.injEq, D.sl.injEq, Ent.arr.injEq, Ent.box.injEq, true_and, and_true, and_self, nInt_eq, Int.natCast_zero, dLen_eL, sLen_eq, e1, e2, e3, e4, e5, wI h1 (by omega)])
    omega
  · obtain rfl : i = ns.length := by omega
    (conv => whnf)

theorem markTree_lost (ns : List Nd) (k : Int) (hk : 0 ≤ k ∧ k ≤ 1000000000000) (hx : ns.length ≤ 1000000000) : FnSpecJ PR f_laws_markTree [.agg [.ref 0 0 none], ai k] [(0, .arr t_impl_Node 5 0 true (eL cN ns))] 1 (ai (k + 5 * ns.length)) := by
  refine FnSpecJ.intro hT p_laws_markTree rfl (by kernel_rfl) n_laws_markTree rfl rfl rfl ?_
  (conv => whnf)
  refine .inr (.inr (.inr (.inl ⟨[(0, 0)], ?_⟩)))
  (conv => whnf)
  refine ⟨[.c (.ref 0 0 none), ai k], _, ⟨rfl, rfl, rfl⟩, markNodeS_lost ns k hk hx, ?_⟩
  (conv => whnf)
end Go.H.S
