/- Library, part Y: the cuts of a tree; rows that are marked. -/
import Derived.Test.YtbclkplebkencaaLX
import Derived.Test.YtbclkplebkencaaLMA
namespace Go.H.S
open Go Go.Proofs Go.H
attribute [local irreducible] Tri FnSpec FnSpecM FnSpecX FnSpecJ
set_option maxRecDepth 100000
set_option linter.unusedSimpArgs false
set_option linter.unusedVariables false


theorem compactUpTo_succ (xs : List Int) (i : Nat) (x : Int) (hx : xs[i]? = some x) : Go.Lib.compactUpTo xs.toArray (i + 1) = Go.Lib.compactUpTo xs.toArray i ++ (if Go.Lib.keeps xs.toArray i then [x] else []) := by
  have hlt := (List.getElem?_eq_some_iff.1 hx).1
  simp only [Go.Lib.compactUpTo, List.range_succ, List.filter_append, List.map_append]
  congr 1
  have hv : xs.toArray[i]! = x := by
    rw [getElem!_pos _ i (by simpa using hlt)]
    simpa using (List.getElem?_eq_some_iff.1 hx).2
  have hv2 : xs[i]?.getD 0 = x := by rw [hx]; rfl
  cases hk : Go.Lib.keeps xs.toArray i <;> simp [hk, hv, hv2]
theorem spec_Distinct_spec (xs : List Int) (hx : xs.length ≤ 1000000000) : FnSpec PR f_spec_Distinct [aIs xs] (.c (.ref 0 0 none)) [(0, .arr t_int 1 0 .own (eL cI (distinctL xs)))] 1 := by
  refine FnSpec.intro hT p_spec_Distinct rfl (by kernel_rfl) n_spec_Distinct rfl ?_
  conv => whnf
  refine .inl ⟨_, _, _, spec_SortInts_spec xs hx, rfl, ?_⟩
  have hsl := sortL_len xs
  have hd : distinctL xs = Go.Lib.compactUpTo (sortL xs).toArray (sortL xs).length := rfl
  rw [hd]
  generalize sortL xs = s at *
  refine tri_loop hT [3, 4, 5] (α := Nat) (fun i => { t := [(3, .c (.ref 0 0 none)), (4, .c (.ref 1 0 none)), (5, ai i)], h := [(0, .arr t_int 1 0 .own (eL cI (Go.Lib.compactUpTo s.toArray i))), (1, .arr t_int 1 0 .own (eL cI s))], n := 2, N := 37 })
    (fun i => i ≤ s.length) (fun i => s.length - i) 0 (by (conv => whnf); rw [show Go.Lib.compactUpTo s.toArray 0 = [] from rfl, eL_nil]; rfl) (Nat.zero_le _) ?_
  intro i hi
  (conv => whnf)
  refine ifB_i (fun h1 => ?_) (fun h1 => ?_) <;> (conv => whnf) <;> simp at h1
  · obtain ⟨x, hxi⟩ := get_lt h1
    have hcl : (Go.Lib.compactUpTo s.toArray i).length ≤ i := by
      have h := List.length_filter_le (Go.Lib.keeps s.toArray) (List.range i)
      simp only [Go.Lib.compactUpTo, List.length_map]
      simpa using h
    have hcs := compactUpTo_succ s i x hxi
    have hk : ∀ b, Go.Lib.keeps s.toArray i = b → Go.Lib.keeps s.toArray i = b := fun _ h => h
    refine tri_conf hT hmix (by kernel_rfl) ?_
    (conv => whnf)
    cases i with
    | zero =>
      rw [show iEq ((0 : Nat) : Int) 0 = true from rfl]
      have hkt : Go.Lib.keeps s.toArray 0 = true := Go.Lib.keeps_lt_one _ 0 (by omega)
      rw [hkt] at hcs
      rw [if_pos rfl] at hcs
      have hnx : Go.Lib.compactUpTo s.toArray 1 = Go.Lib.compactUpTo s.toArray 0 ++ [x] := hcs
      generalize Go.Lib.compactUpTo s.toArray 0 = o at *
      repeat' (first | (refine And.intro (fun q => ?_) (fun q => ?_) <;> cases q <;> (conv => whnf)) | fail)
      refine ref_at (k := 0) (by simp) (by simp; omega) ?_
      (conv => whnf)
      refine ld_at (by simp) hxi ?_
      (conv => whnf)
      refine And.intro (by simp [eL_length, dLen_len]; omega) ?_
      (conv => whnf)
      refine ⟨1, by omega, h1, ?_⟩
      ((conv => whnf); simp only [St.mk.injEq, List.cons.injEq, Prod.mk.injEq, AV.c.injEq, AV.agg.injEq, AV.tup.injEq, CV.d.injEq, D.int.injEq, D.bool.injEq, D.str.injEq, D.sl.injEq, Ent.arr.injEq, Ent.box.injEq, true_and, and_true, and_self, nInt_eq, Int.natCast_zero, dLen_eL, sLen_eq, partOf_none])
      refine ⟨wI h1 (by omega), ?_⟩
      rw [hnx, ← eL_app]
      rfl
    | succ j =>
      rw [show iEq ((j + 1 : Nat) : Int) 0 = false from decide_eq_false (by omega)]
      obtain ⟨y, hy⟩ := get_lt (show j < s.length by omega)
      have ek : wSub .i64 ((j + 1 : Nat) : Int) 1 = (j : Int) := by rw [wSub64] <;> omega
      repeat' (first | (refine And.intro (fun q => ?_) (fun q => ?_) <;> cases q <;> (conv => whnf)) | fail)
      refine ref_at (k := j + 1) rfl (by simp; omega) ?_
      (conv => whnf)
      repeat' (first | (refine And.intro (fun q => ?_) (fun q => ?_) <;> cases q <;> (conv => whnf)) | fail)
      refine ld_at (by simp) hxi ?_
      (conv => whnf)
      repeat' (first | (refine And.intro (fun q => ?_) (fun q => ?_) <;> cases q <;> (conv => whnf)) | fail)
      refine ref_at (k := j) ek (by simp; omega) ?_
      (conv => whnf)
      repeat' (first | (refine And.intro (fun q => ?_) (fun q => ?_) <;> cases q <;> (conv => whnf)) | fail)
      refine ld_at (by rw [ek]; simp) hy ?_
      (conv => whnf)
      repeat' (first | (refine And.intro (fun q => ?_) (fun q => ?_) <;> cases q <;> (conv => whnf)) | fail)
      generalize e2 : iEq x y = c2
      have hg1 : s.toArray[j + 1]! = x := by
        rw [getElem!_pos _ (j + 1) (by simpa using h1)]
        simpa using (List.getElem?_eq_some_iff.1 hxi).2
      have hg2 : s.toArray[j + 1 - 1]! = y := by
        rw [getElem!_pos _ (j + 1 - 1) (by simp; omega)]
        simpa using (List.getElem?_eq_some_iff.1 hy).2
      cases c2
      · have hkt : Go.Lib.keeps s.toArray (j + 1) = true := Go.Lib.keeps_pos (by rw [hg1, hg2]; simpa [iEq] using e2)
        rw [hkt, if_pos rfl] at hcs
        (conv => whnf)
        refine ref_at (k := j + 1) rfl (by simp; omega) ?_
        (conv => whnf)
        refine ld_at (by simp) hxi ?_
        (conv => whnf)
        refine And.intro (by simp [eL_length, dLen_len]; omega) ?_
        (conv => whnf)
        refine ⟨j + 1 + 1, by omega, h1, ?_⟩
        ((conv => whnf); simp only [St.mk.injEq, List.cons.injEq, Prod.mk.injEq, AV.c.injEq, AV.agg.injEq, AV.tup.injEq, CV.d.injEq, D.int.injEq, D.bool.injEq, D.str.injEq, D.sl.injEq, Ent.arr.injEq, Ent.box.injEq, true_and, and_true, and_self, nInt_eq, Int.natCast_zero, dLen_eL, sLen_eq, partOf_none])
        refine ⟨wI h1 (by omega), ?_⟩
        rw [hcs, ← eL_app]
        rfl
      · have hkt : Go.Lib.keeps s.toArray (j + 1) = false := Go.Lib.keeps_neg (by omega) (by rw [hg1, hg2]; simpa [iEq] using e2)
        rw [hkt] at hcs
        simp only [Bool.false_eq_true, if_false, List.append_nil] at hcs
        (conv => whnf)
        refine ⟨j + 1 + 1, by omega, h1, ?_⟩
        ((conv => whnf); simp only [St.mk.injEq, List.cons.injEq, Prod.mk.injEq, AV.c.injEq, AV.agg.injEq, AV.tup.injEq, CV.d.injEq, D.int.injEq, D.bool.injEq, D.str.injEq, D.sl.injEq, Ent.arr.injEq, Ent.box.injEq, true_and, and_true, and_self, nInt_eq, Int.natCast_zero, dLen_eL, sLen_eq, wI h1 (by omega), hcs])
  · obtain rfl : i = s.length := by omega
    (conv => whnf)

def cutsL (f : Int) : List Nd → List Int
  | [] => []
  | n :: r => if isF f n then n.c :: cutsL f r else cutsL f r
theorem cutsL_len (f : Int) : ∀ t : List Nd, (cutsL f t).length ≤ t.length
  | [] => by simp [cutsL]
  | n :: r => by
    have := cutsL_len f r
    simp only [cutsL]
    split <;> simp <;> omega
def stepsAtL (t : List Nd) (f : Int) : List Int := distinctL (cutsL f t)
theorem impl_StepsAt_spec (t : List Nd) (f : Int) (hl : t.length ≤ 1048576) : FnSpec PR f_impl_StepsAt [aT t, ai f] (.c (.ref 0 0 none)) [(0, .arr t_int 1 0 .own (eL cI (stepsAtL t f)))] 1 := by
  have hcl := cutsL_len f t
  refine FnSpec.intro hT p_impl_StepsAt rfl (by kernel_rfl) n_impl_StepsAt rfl ?_
  conv => whnf
  refine tri_loop hT [1, 5, 10, 11, 12] (α := Nat × List Int) (fun x => { t := [(1, ai f), (5, .c (.ref 0 0 none)), (10, aNs t), (11, ai t.length), (12, ai x.1)], h := [(0, .arr t_int 1 0 .own (eL cI x.2))], n := 1, N := 33 })
    (fun x => x.1 ≤ t.length ∧ x.2 ++ cutsL f (t.drop x.1) = cutsL f t) (fun x => t.length - x.1) (0, []) (by ((conv => whnf); simp only [St.mk.injEq, List.cons.injEq, Prod.mk.injEq, AV.c.injEq, AV.agg.injEq, AV.tup.injEq, CV.d.injEq, D.int.injEq, D.bool.injEq, D.str.injEq, D.sl.injEq, Ent.arr.injEq, Ent.box.injEq, true_and, and_true, and_self, nInt_eq, Int.natCast_zero, dLen_eL, sLen_eq, eL_nil])) ⟨Nat.zero_le _, by simp⟩ ?_
  intro ⟨k, o⟩ ⟨hk, ho⟩
  dsimp only at hk ho
  have hol : o.length ≤ t.length := by have := congrArg List.length ho; simp at this; omega
  (conv => whnf)
  refine ifB_i (fun h1 => ?_) (fun h1 => ?_) <;> (conv => whnf) <;> simp at h1
  · obtain ⟨n, hn⟩ := get_lt h1
    rw [drop_at hn, cutsL] at ho
    refine idx_at (by simp) hn ?_
    (conv => whnf)
    refine .inl ⟨_, _, _, impl_isLeaf_spec n, rfl, ?_⟩
    (conv => whnf)
    refine ifB_i (fun h2 => ?_) (fun h2 => ?_) <;> (conv => whnf)
    all_goals try (refine ifB_i (fun h4 => ?_) (fun h4 => ?_) <;> (conv => whnf))
    all_goals
      first | (have hb : isF f n = true := by simp_all [isF, bNot, iEq]) | (have hb : isF f n = false := by simp_all [isF, bNot, iEq])
      rw [hb] at ho
    all_goals first
      | (refine And.intro (by simp [eL_length, dLen_len]; omega) ?_
         (conv => whnf)
         refine ⟨(k + 1, o ++ [n.c]), by dsimp only; omega, ⟨h1, by simpa using ho⟩, ?_⟩
         ((conv => whnf); simp only [St.mk.injEq, List.cons.injEq, Prod.mk.injEq, AV.c.injEq, AV.agg.injEq, AV.tup.injEq, CV.d.injEq, D.int.injEq, D.bool.injEq, D.str.injEq, D.sl.injEq, Ent.arr.injEq, Ent.box.injEq, true_and, and_true, and_self, nInt_eq, Int.natCast_zero, dLen_eL, sLen_eq, partOf_none, wI h1 (by omega)])
         rw [← eL_app]
         rfl)
      | (refine ⟨(k + 1, o), by dsimp only; omega, ⟨h1, by simpa using ho⟩, ?_⟩
         ((conv => whnf); simp only [St.mk.injEq, List.cons.injEq, Prod.mk.injEq, AV.c.injEq, AV.agg.injEq, AV.tup.injEq, CV.d.injEq, D.int.injEq, D.bool.injEq, D.str.injEq, D.sl.injEq, Ent.arr.injEq, Ent.box.injEq, true_and, and_true, and_self, nInt_eq, Int.natCast_zero, dLen_eL, sLen_eq, wI h1 (by omega)])
         done)
  · obtain rfl : k = t.length := by omega
    simp [cutsL] at ho
    subst ho
    refine .inr (.inl ⟨_, _, _, impl_Distinct_spec _ (by dsimp only; omega), rfl, ⟨flat_cI _, trivial⟩, ?_⟩)
    (conv => whnf)
    rfl

theorem spec_StepsAt_spec (t : List Nd) (f : Int) (hl : t.length ≤ 1048576) : FnSpec PR f_spec_StepsAt [aT t, ai f] (.c (.ref 0 0 none)) [(0, .arr t_int 1 0 .own (eL cI (stepsAtL t f)))] 1 := by
  have hcl := cutsL_len f t
  refine FnSpec.intro hT p_spec_StepsAt rfl (by kernel_rfl) n_spec_StepsAt rfl ?_
  conv => whnf
  refine tri_loop hT [1, 2, 5, 6] (α := Nat × List Int) (fun x => { t := [(1, ai f), (2, .c (.ptr 0 0)), (5, .c (.ref 1 0 none)), (6, ai x.1)], h := [(0, .box t_impl_Tree (cTr t)), (1, .arr t_int 1 0 .own (eL cI x.2))], n := 2, N := 42 })
    (fun x => x.1 ≤ t.length ∧ x.2 ++ cutsL f (t.drop x.1) = cutsL f t) (fun x => t.length - x.1) (0, []) (by ((conv => whnf); simp only [St.mk.injEq, List.cons.injEq, Prod.mk.injEq, AV.c.injEq, AV.agg.injEq, AV.tup.injEq, CV.d.injEq, D.int.injEq, D.bool.injEq, D.str.injEq, D.sl.injEq, Ent.arr.injEq, Ent.box.injEq, true_and, and_true, and_self, nInt_eq, Int.natCast_zero, dLen_eL, sLen_eq, eL_nil])) ⟨Nat.zero_le _, by simp⟩ ?_
  intro ⟨k, o⟩ ⟨hk, ho⟩
  dsimp only at hk ho
  have hol : o.length ≤ t.length := by have := congrArg List.length ho; simp at this; omega
  (conv => whnf)
  refine ifB_i (fun h1 => ?_) (fun h1 => ?_) <;> (conv => whnf) <;> simp at h1
  · obtain ⟨n, hn⟩ := get_lt h1
    rw [drop_at hn, cutsL] at ho
    refine idx_at (by simp) hn ?_
    (conv => whnf)
    refine .inl ⟨_, _, _, spec_l17Inner_spec n, rfl, ?_⟩
    (conv => whnf)
    refine ifB_i (fun h2 => ?_) (fun h2 => ?_) <;> (conv => whnf)
    all_goals try (refine idx_at (by simp) hn ?_; (conv => whnf))
    all_goals try (refine ifB_i (fun h4 => ?_) (fun h4 => ?_) <;> (conv => whnf))
    all_goals
      first | (have hb : isF f n = true := by simp_all [isF, bNot, iEq]) | (have hb : isF f n = false := by simp_all [isF, bNot, iEq])
      rw [hb] at ho
    all_goals try (refine idx_at (by simp) hn ?_; (conv => whnf))
    all_goals first
      | (refine And.intro (by simp [eL_length, dLen_len]; omega) ?_
         (conv => whnf)
         refine ⟨(k + 1, o ++ [n.c]), by dsimp only; omega, ⟨h1, by simpa using ho⟩, ?_⟩
         ((conv => whnf); simp only [St.mk.injEq, List.cons.injEq, Prod.mk.injEq, AV.c.injEq, AV.agg.injEq, AV.tup.injEq, CV.d.injEq, D.int.injEq, D.bool.injEq, D.str.injEq, D.sl.injEq, Ent.arr.injEq, Ent.box.injEq, true_and, and_true, and_self, nInt_eq, Int.natCast_zero, dLen_eL, sLen_eq, partOf_none, wI h1 (by omega)])
         rw [← eL_app]
         rfl)
      | (refine ⟨(k + 1, o), by dsimp only; omega, ⟨h1, by simpa using ho⟩, ?_⟩
         ((conv => whnf); simp only [St.mk.injEq, List.cons.injEq, Prod.mk.injEq, AV.c.injEq, AV.agg.injEq, AV.tup.injEq, CV.d.injEq, D.int.injEq, D.bool.injEq, D.str.injEq, D.sl.injEq, Ent.arr.injEq, Ent.box.injEq, true_and, and_true, and_self, nInt_eq, Int.natCast_zero, dLen_eL, sLen_eq, wI h1 (by omega)])
         done)
  · obtain rfl : k = t.length := by omega
    simp [cutsL] at ho
    subst ho
    refine .inr (.inl ⟨_, _, _, spec_Distinct_spec _ (by dsimp only; omega), rfl, ⟨flat_cI _, trivial⟩, ?_⟩)
    (conv => whnf)
    rfl
end Go.H.S
