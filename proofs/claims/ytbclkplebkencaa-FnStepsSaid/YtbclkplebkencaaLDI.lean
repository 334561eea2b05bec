/- Library, part DH: draws of trees with numbers. -/
import Derived.Test.YtbclkplebkencaaLDG
import Derived.Test.YtbclkplebkencaaLT
namespace Go.H.S
open Go Go.Proofs Go.H
attribute [local irreducible] Tri FnSpec FnSpecM FnSpecX FnSpecJ FnSpecB
set_option maxRecDepth 100000
set_option linter.unusedSimpArgs false
set_option linter.unusedVariables false


abbrev tupT1 (x : List Nd × Int) : AV := .tup [(true, [.d (.sl 5 (eL cN x.1))]), (false, [.d (.int .i64 x.2)])]
abbrev tupT2 (x : List Nd × Int × Int) : AV := .tup [(true, [.d (.sl 5 (eL cN x.1))]), (false, [.d (.int .i64 x.2.1)]), (false, [.d (.int .i64 x.2.2)])]

theorem spec_DrawStepsAt_spec (code : List Int) (hl : code.length ≤ 1048576) : FnSpecX PR f_spec_DrawStepsAt [.c (.d (.sl 1 (eL cU code)))] (List Nd × Int) (fun x => x.1.length ≤ 32 ∧ -2 ≤ x.2 ∧ x.2 ≤ 2) tupT1 (fun _ => []) (fun _ => 0) := by
  refine FnSpecX.intro hT p_spec_DrawStepsAt rfl (by kernel_rfl) n_spec_DrawStepsAt rfl ?_
  (conv => whnf)
  refine .inr ⟨_, _, _, _, _, spec_l1New_spec code hl, fun h0 _ => ⟨rfl, ?_⟩⟩
  (conv => whnf)
  refine .inr (.inr (.inr (.inr (.inl ⟨1, ?_⟩))))
  (conv => whnf)
  refine ⟨_, _, _, _, _, _, spec_l17Bent_spec code 0 h0 ⟨by omega, by omega⟩ hl, fun ⟨t, i1, h1⟩ ⟨ht, hi1⟩ => ⟨rfl, ?_⟩⟩
  dsimp only at ht hi1
  (conv => whnf)
  refine .inr (.inr (.inr (.inr (.inl ⟨1, ?_⟩))))
  (conv => whnf)
  refine ⟨_, _, _, _, _, _, spec_l1Below_spec code i1 h1 _ hi1 hl, fun ⟨x, i2, h2⟩ ⟨hx, hi2⟩ => ⟨rfl, ?_⟩⟩
  dsimp only at hx hi2
  (conv => whnf)
  have hx2 := hx.2.1 (by decide)
  rw [show wSub .i64 x 2 = x - 2 from wSub64 (by omega) (by omega)]
  refine ⟨(t, x - 2), ⟨ht, by dsimp only; omega, by dsimp only; omega⟩, ?_⟩
  (conv => whnf)
end Go.H.S
namespace Go.H.S
open Go Go.Proofs Go.H
attribute [local irreducible] Tri FnSpec FnSpecM FnSpecX FnSpecJ FnSpecB
set_option maxRecDepth 100000
set_option linter.unusedSimpArgs false
set_option linter.unusedVariables false


set_option maxHeartbeats 4000000 in
theorem law_FnSteps (code : List Int) (hm : code.length ≤ 9223372036854775807 ∧ ∀ y ∈ code, 0 ≤ y ∧ y ≤ 255) : FnSpec PR f_laws_FnSteps [.c (.d (.sl 1 (eL cU code)))] (ab true) [] 0 := by
  refine FnSpec.intro hT p_laws_FnSteps rfl (by kernel_rfl) n_laws_FnSteps rfl ?_
  conv => whnf
  refine .inl ⟨_, _, _, laws_big_spec code, rfl, ?_⟩
  (conv => whnf)
  refine ifB_i (fun h => ?_) (fun h => ?_) <;> (conv => whnf) <;> simp only [nInt_eq, Int.natCast_zero, dLen_eL, sLen_eq, nOf_eq, Int.toNat_natCast, nAdd_eq, nSub_eq, dLen_nil, dLen_cons, iLt_t, iLt_f, iLe_t, iLe_f, iEq_t, iEq_f, sEq_t, sEq_f, bNot_t, bNot_f, bAnd_t, bEq_t, bEq_f, Bool.not_eq_true, Bool.not_eq_false, Bool.true_eq_false, Bool.false_eq_true] at h
  have hl : code.length ≤ 1048576 := by omega
  refine .inr ⟨_, _, _, _, _, spec_DrawStepsAt_spec code hl, fun ⟨t, f⟩ ⟨ht, hf⟩ => ⟨rfl, ?_⟩⟩
  dsimp only at ht hf
  (conv => whnf)
  have hsl : (stepsAtL t f).length ≤ 32 := by
    have h1 := distinctL_len (cutsL f t)
    have h2 := cutsL_len f t
    unfold stepsAtL
    omega
  refine .inl ⟨_, _, _, impl_StepsAt_spec t f (by omega), rfl, ?_⟩
  (conv => whnf)
  refine .inl ⟨_, _, _, spec_StepsAt_spec t f (by omega), rfl, ?_⟩
  (conv => whnf)
  refine .inr (.inl ⟨_, _, _, laws_sameInts_self (stepsAtL t f) (by omega), rfl, trivial, ?_⟩)
  (conv => whnf)
  refine .inr (.inl ⟨_, _, _, laws_rising_spec (stepsAtL t f) (distinctL_sorted _) (by omega), rfl, trivial, ?_⟩)
  (conv => whnf)
  refine .inl ⟨_, _, _, spec_TreeOk_spec t 3 (by omega), rfl, ?_⟩
  (conv => whnf)
  cases hok : treeOk t 3 with
  | false => (conv => whnf)
  | true =>
    (conv => whnf)
    refine ifB_i (fun h1 => ?_) (fun h1 => ?_) <;> (conv => whnf)
    refine ifB_i (fun h2 => ?_) (fun h2 => ?_) <;> (conv => whnf)
    simp only [iLt, decide_eq_false_iff_not] at h1 h2
    obtain ⟨f, rfl⟩ : ∃ m : Nat, f = m := ⟨f.toNat, by omega⟩
    have hf3 : f < 3 := by omega
    generalize hss : stepsAtL t f = s at *
    refine tri_loop hT [0, 3, 4, 5, 6, 7] (α := List Int) (fun x => { t := [(0, .c (.d (.sl 1 (eL cU code)))), (3, .c (.ptr 0 0)), (4, ai f), (5, .c (.ref 1 0 none)), (6, .c (.ref 2 0 none)), (7, ai x.length)], h := [(0, .box t_impl_Tree (cTr t)), (1, .arr t_int 1 0 true (eL cI s)), (2, .arr t_int 1 0 true (eL cI x))], n := 3, N := 85 })
      (fun x => x.length ≤ 3 ∧ ∀ y ∈ x, -9223372036854775808 ≤ y ∧ y ≤ 9223372036854775807) (fun x => 3 - x.length) [] (by ((conv => whnf); simp only [St.mk.injEq, List.cons.injEq, Prod.mk.injEq, AV.c.injEq, AV.agg.injEq, AV.tup.injEq, CV.d.injEq, D.int.injEq, D.bool.injEq, D.str.injEq, D.sl.injEq, Ent.arr.injEq, Ent.box.injEq, true_and, and_true, and_self, nInt_eq, Int.natCast_zero, dLen_eL, sLen_eq, eL_nil]); rfl) (by simp) ?_
    intro r ⟨hr1, hr2⟩
    (conv => whnf)
    refine ifB_i (fun h3 => ?_) (fun h3 => ?_) <;> (conv => whnf) <;> simp only [nInt_eq, Int.natCast_zero, dLen_eL, sLen_eq, nOf_eq, Int.toNat_natCast, nAdd_eq, nSub_eq, dLen_nil, dLen_cons, iLt_t, iLt_f, iLe_t, iLe_f, iEq_t, iEq_f, sEq_t, sEq_f, bNot_t, bNot_f, bAnd_t, bEq_t, bEq_f, Bool.not_eq_true, Bool.not_eq_false, Bool.true_eq_false, Bool.false_eq_true] at h3
    · refine .inr ⟨_, _, _, _, _, laws_at0_spec code r.length hl (by omega) hm.2, fun x hx => ⟨rfl, ?_⟩⟩
      (conv => whnf)
      refine And.intro (by simp [NZ]) ?_
      (conv => whnf)
      have hm13 := wRem_mod (x := x) (n := 13) (by omega) (by decide)
      have e1 : wSub .i64 (wRem x 13) 6 = wRem x 13 - 6 := wSub64 (by omega) (by omega)
      have e2 : wMul .i64 500 (wRem x 13 - 6) = 500 * (wRem x 13 - 6) := wMul64 (by omega) (by omega)
      have e3 : wAdd .i64 (500 * (wRem x 13 - 6)) 1 = 500 * (wRem x 13 - 6) + 1 := wAdd64 (by omega) (by omega)
      rw [e1, e2, e3]
      refine And.intro (by unfold Fits; simp; omega) ?_
      (conv => whnf)
      refine ⟨r ++ [500 * (wRem x 13 - 6) + 1], by simp; omega, ⟨by simp; omega, fun y hy => ?_⟩, ?_⟩
      · rcases List.mem_append.1 hy with hy | hy
        · exact hr2 y hy
        · simp at hy; omega
      · ((conv => whnf); simp only [St.mk.injEq, List.cons.injEq, Prod.mk.injEq, AV.c.injEq, AV.agg.injEq, AV.tup.injEq, CV.d.injEq, D.int.injEq, D.bool.injEq, D.str.injEq, D.sl.injEq, Ent.arr.injEq, Ent.box.injEq, true_and, and_true, and_self, nInt_eq, Int.natCast_zero, dLen_eL, sLen_eq])
        refine ⟨?_, ?_⟩
        · rw [wAdd64 (by omega) (by omega)]; simp
        · rw [← eL_app]; rfl
    · have hr3 : r.length = 3 := by omega
      refine .inr (.inl ⟨_, _, _, impl_EvalTree_spec t r (by omega) (by omega), rfl, trivial, ?_⟩)
      (conv => whnf)
      obtain ⟨x, hx⟩ := get_lt (show f < r.length by omega)
      have hx2 := hr2 x (List.mem_of_getElem? hx)
      refine ref_at rfl (by simp; omega) ?_
      (conv => whnf)
      refine ld_at (by simp) hx ?_
      (conv => whnf)
      refine .inr (.inl ⟨_, _, _, spec_BinOf_spec s x (by omega), rfl, trivial, ?_⟩)
      (conv => whnf)
      refine ref_at (k := f) rfl (by simp; omega) ?_
      (conv => whnf)
      refine st_at (k := f) (by simp) hx (by simp [cI]) ?_
      (conv => whnf)
      rw [show nAdd (offR none) (nOf (f : Int)) = f by simp, show dOver (cI x) 0 [.int .i64 9223372036854775807] = cI 9223372036854775807 by simp [dOver, cI, over], show dSet (eL cI r) f (cI 9223372036854775807) = eL cI (r.set f 9223372036854775807) from eL_set cI r f _]
      rw [show nInt (lenRE (eL cI s) none) = (s.length : Int) by simp [lenRE]]
      refine ifB_i (fun h4 => ?_) (fun h4 => ?_) <;> (conv => whnf) <;> simp only [nInt_eq, Int.natCast_zero, dLen_eL, sLen_eq, nOf_eq, Int.toNat_natCast, nAdd_eq, nSub_eq, dLen_nil, dLen_cons, iLt_t, iLt_f, iLe_t, iLe_f, iEq_t, iEq_f, sEq_t, sEq_f, bNot_t, bNot_f, bAnd_t, bEq_t, bEq_f, Bool.not_eq_true, Bool.not_eq_false, Bool.true_eq_false, Bool.false_eq_true] at h4
      · obtain ⟨z, hz⟩ := get_lt (show binL s x < s.length by omega)
        refine ref_at rfl (by simp; omega) ?_
        (conv => whnf)
        refine ld_at (by simp) hz ?_
        (conv => whnf)
        refine ref_at (k := f) rfl (by simp; omega) ?_
        (conv => whnf)
        refine st_at (k := f) (x := 9223372036854775807) (by simp) (by rw [List.getElem?_set_self (by omega)]) (by simp [cI]) ?_
        (conv => whnf)
        rw [show nAdd (offR none) (nOf (f : Int)) = f by simp, show dOver (cI 9223372036854775807) 0 [.int .i64 z] = cI z by simp [dOver, cI, over], show dSet (eL cI (r.set f 9223372036854775807)) f (cI z) = eL cI (r.set f z) by rw [eL_set, List.set_set]]
        refine .inr (.inl ⟨_, _, _, impl_EvalTree_spec t (r.set f z) (by omega) (by simp; omega), rfl, trivial, ?_⟩)
        (conv => whnf)
        rw [steps_law (t := t) (row := r) (f := f) (by omega) hx hx2.2 (.inl ⟨z, by rw [hss]; exact hz, rfl⟩)]
        simp [iEq]
      · refine .inr (.inl ⟨_, _, _, impl_EvalTree_spec t (r.set f 9223372036854775807) (by omega) (by simp; omega), rfl, trivial, ?_⟩)
        (conv => whnf)
        rw [steps_law (t := t) (row := r) (f := f) (by omega) hx hx2.2 (.inr ⟨by rw [hss]; omega, rfl⟩)]
        simp [iEq]
end Go.H.S
