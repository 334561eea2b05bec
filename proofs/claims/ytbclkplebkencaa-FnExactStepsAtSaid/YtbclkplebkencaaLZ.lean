/- Library, part Z: the law of StepsAt. -/
import Derived.Test.YtbclkplebkencaaLY
import Derived.Test.YtbclkplebkencaaLG
namespace Go.H.S
open Go Go.Proofs Go.H
attribute [local irreducible] Tri FnSpec FnSpecM FnSpecX FnSpecJ
set_option maxRecDepth 100000
set_option linter.unusedSimpArgs false
set_option linter.unusedVariables false


theorem flat_cN (xs : List Nd) : FlatR (eL cN xs) := fun c hc d hd => by
  rw [eL] at hc
  obtain ⟨x, _, rfl⟩ := List.mem_map.1 hc
  simp [cN] at hd
  rcases hd with rfl | rfl | rfl | rfl | rfl <;> rfl
set_option maxHeartbeats 4000000 in
theorem law_FnExactStepsAt (t : List Nd) (f : Int) (hm : t.length ≤ 9223372036854775807 ∧ ∀ n ∈ t, rgN n) (_ : i64 f) : FnSpec PR f_laws_FnExactStepsAt [aT t, ai f] (ab true) [] 0 := by
  refine FnSpec.intro hT p_laws_FnExactStepsAt rfl (by kernel_rfl) n_laws_FnExactStepsAt rfl ?_
  conv => whnf
  refine .inl ⟨_, _, _, szTree_spec t 1048576 (by omega) (by omega) hm.1, rfl, ?_⟩
  (conv => whnf)
  refine ifB_i (fun h => ?_) (fun h => ?_) <;> (conv => whnf) <;> simp only [nInt_eq, Int.natCast_zero, dLen_eL, sLen_eq, nOf_eq, Int.toNat_natCast, nAdd_eq, nSub_eq, dLen_nil, dLen_cons, iLt_t, iLt_f, iLe_t, iLe_f, iEq_t, iEq_f, sEq_t, sEq_f, bNot_t, bNot_f, bAnd_t, bEq_t, bEq_f, Bool.not_eq_true, Bool.not_eq_false, Bool.true_eq_false, Bool.false_eq_true] at h
  have hl : t.length ≤ 1048576 := bud_ok h
  have hsm : smTree t := by unfold smTree; omega
  have hsl : (stepsAtL t f).length ≤ 1048576 := by
    have h1 := distinctL_len (cutsL f t)
    have h2 := cutsL_len f t
    unfold stepsAtL
    omega
  refine .inl ⟨_, _, _, toTree_spec t hsm, rfl, ?_⟩
  (conv => whnf)
  refine .inl ⟨_, _, _, spec_StepsAt_spec t f hl, rfl, ?_⟩
  (conv => whnf)
  refine .inl ⟨_, _, _, toTree_spec t hsm, rfl, ?_⟩
  (conv => whnf)
  refine .inr (.inl ⟨_, _, _, impl_StepsAt_spec t f hl, rfl, ⟨flat_cI _, trivial⟩, ?_⟩)
  generalize hss : stepsAtL t f = s at *
  (conv => whnf)
  refine .inr (.inl ⟨_, _, _, eqIntS_spec s (by omega), rfl, trivial, ?_⟩)
  (conv => whnf)
  refine tri_every hT hmix [1, 2, 6, 7, 8, 35] { t := [(1, ai f), (2, .c (.ptr 0 0)), (6, .c (.ref 1 0 none)), (7, .c (.ptr 2 0)), (8, .c (.ref 4 0 none)), (35, ab (bNot true))], h := [(0, .box t_laws_Tree (cTr t)), (1, .arr t_int 1 0 true (eL cI s)), (2, .box t_impl_Tree [.ref 3 0 none]), (3, .arr t_impl_Node 5 0 true (eL cN t)), (4, .arr t_int 1 0 true (eL cI s))], n := 5, N := 74 } rfl ?_ ?_
  · repeat' first
      | (refine anyV_one rfl ?_; (conv => whnf))
      | (refine anyV_two rfl ?_ ?_ <;> (conv => whnf))
      | (refine anyV_end rfl ?_; (conv => whnf); first | done | (simp only [partOf_none]; done) | (simp only [partOf_none]; rfl))
      | (refine .inl ⟨_, _, _, toTree_spec t hsm, rfl, ?_⟩; (conv => whnf))
      | (refine .inr (.inl ⟨_, _, _, eqTree_spec t hm.1, rfl, trivial, ?_⟩); (conv => whnf))
  (conv => whnf)
  refine .inr (.inr (.inr ⟨[(3, 0)], ?_⟩))
  (conv => whnf)
  refine ⟨[.agg [.ref 0 0 none], ai 1], _, ⟨rfl, rfl, rfl⟩, markTree_lost t 1 (by omega) (by omega), ?_⟩
  (conv => whnf)
  refine .inr (.inl ⟨_, _, _, eqIntS_spec s (by omega), rfl, trivial, ?_⟩)
  (conv => whnf)
  refine .inr (.inr (.inl ⟨4, ?_⟩))
  (conv => whnf)
  refine .inl ⟨_, _, markIntS_spec s 1 (by omega) (by omega), ?_⟩
  (conv => whnf)
  refine .inr (.inl ⟨_, _, _, heldIntS_spec 1 s.length (by omega) (by omega), rfl, trivial, ?_⟩)
  (conv => whnf)
  rw [show iEq (1 + (s.length : Int)) (1 + s.length) = true from decide_eq_true rfl]
  (conv => whnf)
  refine .inl ⟨_, _, _, toTree_spec t hsm, rfl, ?_⟩
  (conv => whnf)
  refine .inl ⟨_, _, _, impl_StepsAt_spec t f hl, rfl, ?_⟩
  rw [hss]
  (conv => whnf)
  refine .inr (.inl ⟨_, _, _, eqIntS_spec s (by omega), rfl, trivial, ?_⟩)
  (conv => whnf)
  refine .inr (.inl ⟨_, _, _, heldIntS_spec 1 s.length (by omega) (by omega), rfl, trivial, ?_⟩)
  (conv => whnf)
  rw [show iEq (1 + (s.length : Int)) (1 + s.length) = true from decide_eq_true rfl]
  (conv => whnf)
end Go.H.S
