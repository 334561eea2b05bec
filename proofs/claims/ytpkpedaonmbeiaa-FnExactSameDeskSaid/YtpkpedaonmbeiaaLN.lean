/- Library, part N: the law of the desks. -/
import Derived.Test.YtpkpedaonmbeiaaLM
namespace Go.H.S
open Go Go.Proofs Go.H
attribute [local irreducible] Tri FnSpec FnSpecM
set_option maxRecDepth 100000
set_option linter.unusedSimpArgs false
set_option linter.unusedVariables false


theorem law_FnExactSameDesk (a b : Dsk) (ha : okDesk a ∧ rgModel a.model) (hb : okDesk b ∧ rgModel b.model) : FnSpec PR f_laws_FnExactSameDesk [aD a, aD b] (ab true) [] 0 := by
  refine FnSpec.intro hT p_laws_FnExactSameDesk rfl (by kernel_rfl) n_laws_FnExactSameDesk rfl ?_
  conv => whnf
  refine ⟨_, _, _, szDesk_spec a 1048576 (by omega) (by omega) ha.1, rfl, ?_⟩
  (conv => whnf)
  refine ifB_i (fun h => ?_) (fun h => ?_) <;> (conv => whnf) <;> simp only [nInt_eq, Int.natCast_zero, dLen_eL, sLen_eq, nOf_eq, Int.toNat_natCast, nAdd_eq, nSub_eq, dLen_nil, dLen_cons, iLt_t, iLt_f, iLe_t, iLe_f, iEq_t, iEq_f, sEq_t, sEq_f, bNot_t, bNot_f, bAnd_t, bEq_t, bEq_f, Bool.not_eq_true, Bool.not_eq_false, Bool.true_eq_false, Bool.false_eq_true] at h
  have s2 := szDesk_spec b _ h (bud_mono (by omega)) hb.1
  rw [bud_bud h] at s2
  refine ⟨_, _, _, s2, rfl, ?_⟩
  (conv => whnf)
  refine ifB_i (fun h2 => ?_) (fun h2 => ?_) <;> (conv => whnf) <;> simp only [nInt_eq, Int.natCast_zero, dLen_eL, sLen_eq, nOf_eq, Int.toNat_natCast, nAdd_eq, nSub_eq, dLen_nil, dLen_cons, iLt_t, iLt_f, iLe_t, iLe_f, iEq_t, iEq_f, sEq_t, sEq_f, bNot_t, bNot_f, bAnd_t, bEq_t, bEq_f, Bool.not_eq_true, Bool.not_eq_false, Bool.true_eq_false, Bool.false_eq_true] at h2
  have hc := bud_ok h2
  have hma := (model_small (m := a.model) (by unfold costDesk at hc; omega)).1
  have hmb := (model_small (m := b.model) (by unfold costDesk at hc; omega)).1
  refine tri_canon [2, 3] { t := [(2, .c (.ptr 0 0)), (3, .c (.ptr 1 0))], h := [(0, .box t_laws_Desk (cD a)), (1, .box t_laws_Desk (cD b))], n := 2, N := 45 } (by (conv => whnf)) ?_
  refine tri_every hT hmix [2, 3, 6] { t := [(2, .c (.ptr 0 0)), (3, .c (.ptr 1 0)), (6, ab (eqDs a b))], h := [(0, .box t_laws_Desk (cD a)), (1, .box t_laws_Desk (cD b))], n := 2, N := 45 } rfl ?_ ?_
  · repeat' first
      | (refine anyV_one rfl ?_; (conv => whnf))
      | (refine anyV_two rfl ?_ ?_ <;> (conv => whnf))
      | (refine anyV_end rfl ?_; (conv => whnf); first | done | (simp only [partOf_none]; done) | (simp only [partOf_none]; rfl))
      | (refine ⟨_, _, _, toDesk_spec a hma, rfl, ?_⟩; (conv => whnf))
      | (refine ⟨_, _, _, toDesk_spec b hmb, rfl, ?_⟩; (conv => whnf))
      | (refine .inl ⟨_, _, _, spec_SameDesk_spec a b ha.1.2.2 hb.1.2.2, rfl, ?_⟩; (conv => whnf))
  (conv => whnf)
  refine ⟨_, _, _, toDesk_spec a hma, rfl, ?_⟩
  (conv => whnf)
  refine ⟨_, _, _, toDesk_spec b hmb, rfl, ?_⟩
  (conv => whnf)
  refine .inl ⟨_, _, _, impl_SameDesk_spec a b ha.1.2.2, rfl, ?_⟩
  generalize eqDs a b = q
  cases q <;> (conv => whnf)
  all_goals
    refine tri_every hT hmix [3, 8, 39] { t := [(3, .c (.ptr 0 0)), (8, .c (.ptr 1 0)), (39, ab (bNot true))], h := [(0, .box t_laws_Desk (cD b)), (1, .box t_impl_Desk (cD b))], n := 2, N := 45 } rfl ?_ ?_
    · repeat' first
        | (refine anyV_one rfl ?_; (conv => whnf))
        | (refine anyV_two rfl ?_ ?_ <;> (conv => whnf))
        | (refine anyV_end rfl ?_; (conv => whnf); first | done | (simp only [partOf_none]; done) | (simp only [partOf_none]; rfl))
        | (refine ⟨_, _, _, toDesk_spec a hma, rfl, ?_⟩; (conv => whnf))
        | (refine .inl ⟨_, _, _, eqDesk_spec a ha.1.2.2, rfl, ?_⟩; (conv => whnf))
    (conv => whnf)
    refine tri_every hT hmix [44] { t := [(44, ab (bNot true))], h := [], n := 0, N := 45 } rfl ?_ ?_
    · repeat' first
        | (refine anyV_one rfl ?_; (conv => whnf))
        | (refine anyV_two rfl ?_ ?_ <;> (conv => whnf))
        | (refine anyV_end rfl ?_; (conv => whnf); first | done | (simp only [partOf_none]; done) | (simp only [partOf_none]; rfl))
        | (refine ⟨_, _, _, toDesk_spec b hmb, rfl, ?_⟩; (conv => whnf))
        | (refine .inl ⟨_, _, _, eqDesk_spec b hb.1.2.2, rfl, ?_⟩; (conv => whnf))
        | (refine ⟨_, _, _, eqDesk_spec b hb.1.2.2, rfl, ?_⟩; (conv => whnf))
    (conv => whnf)
end Go.H.S
