/- Library, part G: the first laws. -/
import Derived.Test.YtjjlpjdaffdceaaLF
import Derived.Test.YtjjlpjdaffdceaaLT
namespace Go.H.S
open Go Go.Proofs Go.H
attribute [local irreducible] Tri FnSpec FnSpecM
set_option maxRecDepth 100000
set_option linter.unusedSimpArgs false
set_option linter.unusedVariables false


theorem cost_len {α : Type} (f : α → Nat) (l : List α) : l.length ≤ cost f l := by rw [cost_eq]; omega
theorem cost_costL {α : Type} (f : α → Nat) (l : List α) : costL f l ≤ cost f l := by rw [cost_eq]; omega
theorem model_small {m : Mdl} (h : costModel m ≤ 1048576) : smModel m ∧ m.trees.length ≤ 1048576 ∧ costL List.length m.trees ≤ 1048576 := by
  unfold costModel at h
  have h1 := cost_len ByteArray.size m.names
  have h2 := cost_len costTree m.trees
  have h3 := cost_costL costTree m.trees
  rw [costTree_len] at h3
  refine ⟨⟨by omega, by omega, by omega, fun s hs => ?_⟩, by omega, by omega⟩
  have := costL_mem List.length hs
  omega
theorem bud_ok {c : Nat} (h : 0 ≤ bud 1048576 c) : c ≤ 1048576 := by have := (bud_pos h).1; omega


theorem law_FnExactNodesIn (m : Mdl) (hm : okModel m ∧ rgModel m) : FnSpec PR f_laws_FnExactNodesIn [aM m] (ab true) [] 0 := by
  refine FnSpec.intro hT p_laws_FnExactNodesIn rfl (by kernel_rfl) n_laws_FnExactNodesIn rfl ?_
  conv => whnf
  refine ⟨_, _, _, szModel_spec m 1048576 (by omega) (by omega) hm.1, rfl, ?_⟩
  (conv => whnf)
  refine ifB_i (fun h => ?_) (fun h => ?_) <;> (conv => whnf) <;> simp only [nInt_eq, Int.natCast_zero, dLen_eL, sLen_eq, nOf_eq, Int.toNat_natCast, nAdd_eq, nSub_eq, dLen_nil, dLen_cons, iLt_t, iLt_f, iLe_t, iLe_f, iEq_t, iEq_f, sEq_t, sEq_f, bNot_t, bNot_f, bAnd_t, bEq_t, bEq_f, Bool.not_eq_true, Bool.not_eq_false, Bool.true_eq_false, Bool.false_eq_true] at h
  obtain ⟨hsm, hl, hc⟩ := model_small (bud_ok h)
  refine ⟨_, _, _, toModel_spec m hsm, rfl, ?_⟩
  (conv => whnf)
  refine .inl ⟨_, _, _, spec_NodesIn_spec m hc hl, rfl, ?_⟩
  (conv => whnf)
  refine ⟨_, _, _, toModel_spec m hsm, rfl, ?_⟩
  (conv => whnf)
  refine .inl ⟨_, _, _, impl_NodesIn_spec m hc hl, rfl, ?_⟩
  (conv => whnf)
  refine ifB_i (fun h2 => ?_) (fun h2 => ?_)
  · simp at h2
  (conv => whnf)
  refine tri_each hT hmix [26] { t := [(26, ab (bNot true))], h := [], n := 0, N := 27 } rfl ?_ ?_
  · (conv => whnf)
    repeat' first
      | (refine ⟨_, _, _, toModel_spec m hsm, rfl, ?_⟩; (conv => whnf))
      | (refine .inl ⟨_, _, _, eqModel_spec m hm.1, rfl, ?_⟩; (conv => whnf))
      | (refine And.intro ?_ ?_ <;> (conv => whnf))
    all_goals rfl
  (conv => whnf)

theorem law_FnExactUsesOf (m : Mdl) (f : Int) (hm : okModel m ∧ rgModel m) (_ : i64 f) : FnSpec PR f_laws_FnExactUsesOf [aM m, ai f] (ab true) [] 0 := by
  refine FnSpec.intro hT p_laws_FnExactUsesOf rfl (by kernel_rfl) n_laws_FnExactUsesOf rfl ?_
  conv => whnf
  refine ⟨_, _, _, szModel_spec m 1048576 (by omega) (by omega) hm.1, rfl, ?_⟩
  (conv => whnf)
  refine ifB_i (fun h => ?_) (fun h => ?_) <;> (conv => whnf) <;> simp only [nInt_eq, Int.natCast_zero, dLen_eL, sLen_eq, nOf_eq, Int.toNat_natCast, nAdd_eq, nSub_eq, dLen_nil, dLen_cons, iLt_t, iLt_f, iLe_t, iLe_f, iEq_t, iEq_f, sEq_t, sEq_f, bNot_t, bNot_f, bAnd_t, bEq_t, bEq_f, Bool.not_eq_true, Bool.not_eq_false, Bool.true_eq_false, Bool.false_eq_true] at h
  obtain ⟨hsm, hl, hc⟩ := model_small (bud_ok h)
  refine ⟨_, _, _, toModel_spec m hsm, rfl, ?_⟩
  (conv => whnf)
  refine .inl ⟨_, _, _, spec_UsesOf_spec m f hc hl, rfl, ?_⟩
  (conv => whnf)
  refine ⟨_, _, _, toModel_spec m hsm, rfl, ?_⟩
  (conv => whnf)
  refine .inl ⟨_, _, _, impl_UsesOf_spec m f hc hl, rfl, ?_⟩
  (conv => whnf)
  refine ifB_i (fun h2 => ?_) (fun h2 => ?_)
  · simp at h2
  (conv => whnf)
  refine tri_each hT hmix [30] { t := [(30, ab (bNot true))], h := [], n := 0, N := 31 } rfl ?_ ?_
  · (conv => whnf)
    repeat' first
      | (refine ⟨_, _, _, toModel_spec m hsm, rfl, ?_⟩; (conv => whnf))
      | (refine .inl ⟨_, _, _, eqModel_spec m hm.1, rfl, ?_⟩; (conv => whnf))
      | (refine And.intro ?_ ?_ <;> (conv => whnf))
    all_goals rfl
  (conv => whnf)

theorem tree_small {t : List Nd} {c : Nat} (h : costTree t ≤ 1048576) : t.length ≤ 1048576 := h
theorem law_FnExactSpanOf (t : List Nd) (node : Int) (hm : t.length ≤ 9223372036854775807 ∧ ∀ n ∈ t, rgN n) (_ : i64 node) : FnSpec PR f_laws_FnExactSpanOf [aT t, ai node] (ab true) [] 0 := by
  refine FnSpec.intro hT p_laws_FnExactSpanOf rfl (by kernel_rfl) n_laws_FnExactSpanOf rfl ?_
  conv => whnf
  refine ⟨_, _, _, szTree_spec t 1048576 (by omega) (by omega) hm.1, rfl, ?_⟩
  (conv => whnf)
  refine ifB_i (fun h => ?_) (fun h => ?_) <;> (conv => whnf) <;> simp only [nInt_eq, Int.natCast_zero, dLen_eL, sLen_eq, nOf_eq, Int.toNat_natCast, nAdd_eq, nSub_eq, dLen_nil, dLen_cons, iLt_t, iLt_f, iLe_t, iLe_f, iEq_t, iEq_f, sEq_t, sEq_f, bNot_t, bNot_f, bAnd_t, bEq_t, bEq_f, Bool.not_eq_true, Bool.not_eq_false, Bool.true_eq_false, Bool.false_eq_true] at h
  have hl : t.length ≤ 1048576 := bud_ok h
  have hsm : smTree t := by unfold smTree; omega
  refine ⟨_, _, _, toTree_spec t hsm, rfl, ?_⟩
  (conv => whnf)
  refine .inl ⟨_, _, _, spec_SpanOf_spec t node hl, rfl, ?_⟩
  (conv => whnf)
  refine ⟨_, _, _, toTree_spec t hsm, rfl, ?_⟩
  (conv => whnf)
  refine .inl ⟨_, _, _, impl_SpanOf_spec t node hl, rfl, ?_⟩
  generalize spanL t node = sp
  obtain ⟨a, b, c⟩ := sp
  (conv => whnf)
  refine ifB_i (fun h2 => ?_) (fun h2 => ?_)
  · simp at h2
  (conv => whnf)
  refine ifB_i (fun h2 => ?_) (fun h2 => ?_)
  · simp at h2
  (conv => whnf)
  cases c <;> (conv => whnf)
  all_goals
    refine tri_each hT hmix [52] { t := [(52, ab (bNot true))], h := [], n := 0, N := 53 } rfl ?_ ?_
    · (conv => whnf)
      repeat' first
        | (refine ⟨_, _, _, toTree_spec t hsm, rfl, ?_⟩; (conv => whnf))
        | (refine .inl ⟨_, _, _, eqTree_spec t hm.1, rfl, ?_⟩; (conv => whnf))
        | (refine And.intro ?_ ?_ <;> (conv => whnf))
      all_goals rfl
    (conv => whnf)

theorem law_FnExactTreeFollows (t : List Nd) (f sign : Int) (hm : t.length ≤ 9223372036854775807 ∧ ∀ n ∈ t, rgN n) (_ : i64 f) (_ : i64 sign) : FnSpec PR f_laws_FnExactTreeFollows [aT t, ai f, ai sign] (ab true) [] 0 := by
  refine FnSpec.intro hT p_laws_FnExactTreeFollows rfl (by kernel_rfl) n_laws_FnExactTreeFollows rfl ?_
  conv => whnf
  refine ⟨_, _, _, szTree_spec t 1048576 (by omega) (by omega) hm.1, rfl, ?_⟩
  (conv => whnf)
  refine ifB_i (fun h => ?_) (fun h => ?_) <;> (conv => whnf) <;> simp only [nInt_eq, Int.natCast_zero, dLen_eL, sLen_eq, nOf_eq, Int.toNat_natCast, nAdd_eq, nSub_eq, dLen_nil, dLen_cons, iLt_t, iLt_f, iLe_t, iLe_f, iEq_t, iEq_f, sEq_t, sEq_f, bNot_t, bNot_f, bAnd_t, bEq_t, bEq_f, Bool.not_eq_true, Bool.not_eq_false, Bool.true_eq_false, Bool.false_eq_true] at h
  have hl : t.length ≤ 1048576 := bud_ok h
  have hsm : smTree t := by unfold smTree; omega
  refine ⟨_, _, _, toTree_spec t hsm, rfl, ?_⟩
  (conv => whnf)
  refine .inl ⟨_, _, _, spec_TreeFollows_spec t f sign hl, rfl, ?_⟩
  (conv => whnf)
  refine ⟨_, _, _, toTree_spec t hsm, rfl, ?_⟩
  (conv => whnf)
  refine .inl ⟨_, _, _, impl_TreeFollows_spec t f sign hl, rfl, ?_⟩
  generalize followsL t f sign = c
  cases c <;> (conv => whnf)
  all_goals
    refine tri_each hT hmix [34] { t := [(34, ab (bNot true))], h := [], n := 0, N := 35 } rfl ?_ ?_
    · (conv => whnf)
      repeat' first
        | (refine ⟨_, _, _, toTree_spec t hsm, rfl, ?_⟩; (conv => whnf))
        | (refine .inl ⟨_, _, _, eqTree_spec t hm.1, rfl, ?_⟩; (conv => whnf))
        | (refine And.intro ?_ ?_ <;> (conv => whnf))
      all_goals rfl
    (conv => whnf)
end Go.H.S
