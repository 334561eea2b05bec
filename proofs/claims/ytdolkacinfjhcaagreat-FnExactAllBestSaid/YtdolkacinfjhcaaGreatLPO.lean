/- Library, part PO: the laws FnExactBestAt and FnExactAllBest. -/
import Derived.Test.YtdolkacinfjhcaaGreatLNM
namespace Go.H.S
open Go Go.Proofs Go.H
attribute [local irreducible] Tri FnSpec FnSpecM FnSpecX FnSpecJ FnSpecB
set_option maxRecDepth 100000
set_option linter.unusedSimpArgs false
set_option linter.unusedVariables false


theorem law_FnExactBestAt (g : Grd) (grads : List Int) (c : Cfg) (t : List Nd) (node : Int) (hg : okGrid g ∧ rgGrid g) (hr0 : grads.length ≤ 9223372036854775807 ∧ ∀ x ∈ grads, i64 x) (hc : okConfig c ∧ rgConfig c) (ht : t.length ≤ 9223372036854775807 ∧ ∀ n ∈ t, rgN n) (_ : i64 node) :
    FnSpec PR f_laws_FnExactBestAt [aG g, aIs grads, aCf c, aT t, ai node] (ab true) [] 0 := by
  refine FnSpec.intro hT p_laws_FnExactBestAt rfl (by kernel_rfl) n_laws_FnExactBestAt rfl ?_
  conv => whnf
  refine ifB_i (fun h0 => ?_) (fun h0 => ?_) <;> (conv => whnf) <;> simp only [nInt_eq, Int.natCast_zero, dLen_eL, sLen_eq, nOf_eq, Int.toNat_natCast, nAdd_eq, nSub_eq, dLen_nil, dLen_cons, iLt_t, iLt_f, iLe_t, iLe_f, iEq_t, iEq_f, sEq_t, sEq_f, bNot_t, bNot_f, bAnd_t, bEq_t, bEq_f, Bool.not_eq_true, Bool.not_eq_false, Bool.true_eq_false, Bool.false_eq_true] at h0
  have hr : grads.length ≤ 1048576 := by omega
  refine .inl ⟨_, _, _, szGrid_spec g 1048576 (by omega) (by omega) hg.1, rfl, ?_⟩
  (conv => whnf)
  refine ifB_i (fun h1 => ?_) (fun h1 => ?_) <;> (conv => whnf) <;> simp only [nInt_eq, Int.natCast_zero, dLen_eL, sLen_eq, nOf_eq, Int.toNat_natCast, nAdd_eq, nSub_eq, dLen_nil, dLen_cons, iLt_t, iLt_f, iLe_t, iLe_f, iEq_t, iEq_f, sEq_t, sEq_f, bNot_t, bNot_f, bAnd_t, bEq_t, bEq_f, Bool.not_eq_true, Bool.not_eq_false, Bool.true_eq_false, Bool.false_eq_true] at h1
  rw [show bud 1048576 (costGrid g) = ((1048576 - costGrid g : Nat) : Int) from by have := bud_ok h1; rw [bud_le] <;> omega]
  have hcg := bud_ok h1
  obtain ⟨hsg, hzg⟩ := grid_small hcg
  refine .inl ⟨_, _, _, szConfig_spec c _ (by omega) (by omega) hc.1, rfl, ?_⟩
  (conv => whnf)
  refine ifB_i (fun h2 => ?_) (fun h2 => ?_) <;> (conv => whnf) <;> simp only [nInt_eq, Int.natCast_zero, dLen_eL, sLen_eq, nOf_eq, Int.toNat_natCast, nAdd_eq, nSub_eq, dLen_nil, dLen_cons, iLt_t, iLt_f, iLe_t, iLe_f, iEq_t, iEq_f, sEq_t, sEq_f, bNot_t, bNot_f, bAnd_t, bEq_t, bEq_f, Bool.not_eq_true, Bool.not_eq_false, Bool.true_eq_false, Bool.false_eq_true] at h2
  have hcc : c.signs.length ≤ 1048576 - costGrid g := by have := (bud_pos h2).1; unfold costConfig at this; omega
  rw [show bud ((1048576 - costGrid g : Nat) : Int) (costConfig c) = ((1048576 - costGrid g - c.signs.length : Nat) : Int) from by unfold costConfig; rw [bud_le] <;> omega]
  refine .inl ⟨_, _, _, szTree_spec t _ (by omega) (by omega) ht.1, rfl, ?_⟩
  (conv => whnf)
  refine ifB_i (fun h3 => ?_) (fun h3 => ?_) <;> (conv => whnf) <;> simp only [nInt_eq, Int.natCast_zero, dLen_eL, sLen_eq, nOf_eq, Int.toNat_natCast, nAdd_eq, nSub_eq, dLen_nil, dLen_cons, iLt_t, iLt_f, iLe_t, iLe_f, iEq_t, iEq_f, sEq_t, sEq_f, bNot_t, bNot_f, bAnd_t, bEq_t, bEq_f, Bool.not_eq_true, Bool.not_eq_false, Bool.true_eq_false, Bool.false_eq_true] at h3
  have hl : t.length ≤ 1048576 := by have := (bud_pos h3).1; unfold costTree at this; omega
  have hsm : smTree t := by unfold smTree; omega
  have hsc : smConfig c := by unfold smConfig; omega
  have hS := spec_BestAt_spec g grads c t node hzg hr (by omega) hl
  have hI := impl_BestAt_spec g grads c t node hzg hr (by omega) hl
  generalize bestAt g grads c t node = B at *
  refine tri_rp 0 ?_
  (conv => whnf)
  refine tri_rp 1 ?_
  (conv => whnf)
  refine tri_rp 2 ?_
  (conv => whnf)
  refine tri_every hT hmix [1, 4, 5, 7, 8, 12] { t := [(1, aIs grads), (4, ai node), (5, rpG g), (7, rpC c), (8, rpT t), (12, ab B)], h := [], n := 0, N := 83 } rfl ?_ ?_
  · repeat' first
      | (refine anyV_one rfl ?_; (conv => whnf))
      | (refine anyV_two rfl ?_ ?_ <;> (conv => whnf))
      | (refine anyV_three rfl ?_ ?_ ?_ <;> (conv => whnf))
      | (refine anyV_four rfl ?_ ?_ ?_ ?_ <;> (conv => whnf))
      | (refine .inl ⟨_, _, _, toGrid_spec g hsg, rfl, ?_⟩; (conv => whnf))
      | (refine .inl ⟨_, _, _, toIntS_spec grads (by omega), rfl, ?_⟩; (conv => whnf))
      | (refine .inl ⟨_, _, _, toConfig_spec c hsc, rfl, ?_⟩; (conv => whnf))
      | (refine .inl ⟨_, _, _, toTree_spec t hsm, rfl, ?_⟩; (conv => whnf))
      | (refine .inl ⟨_, _, _, hS, rfl, ?_⟩; (conv => whnf))
      | (refine anyV_end rfl ?_; (conv => whnf); first | done | rfl | (simp only [partOf_none]; done) | (simp only [partOf_none]; rfl))
  (conv => whnf)
  refine .inl ⟨_, _, _, toGrid_spec g hsg, rfl, ?_⟩
  (conv => whnf)
  refine .inl ⟨_, _, _, toIntS_spec grads (by omega), rfl, ?_⟩
  (conv => whnf)
  refine .inl ⟨_, _, _, toConfig_spec c hsc, rfl, ?_⟩
  (conv => whnf)
  refine .inl ⟨_, _, _, toTree_spec t hsm, rfl, ?_⟩
  (conv => whnf)
  refine .inl ⟨_, _, _, hI, rfl, ?_⟩
  (conv => whnf)
  rw [show bEq B B = true from by cases B <;> rfl]
  (conv => whnf)
  refine tri_every hT hmix [1, 7, 8, 14, 15, 16, 67] { t := [(1, aIs grads), (7, rpC c), (8, rpT t), (14, aIs grads), (15, .c (.ptr 0 0)), (16, .c (.ptr 1 0)), (67, ab (bNot true))], h := [(0, .box t_impl_Config (cCf c)), (1, .box t_impl_Tree (cTr t))], n := 2, N := 83 } rfl ?_ ?_
  · repeat' first
      | (refine anyV_one rfl ?_; (conv => whnf))
      | (refine anyV_two rfl ?_ ?_ <;> (conv => whnf))
      | (refine anyV_three rfl ?_ ?_ ?_ <;> (conv => whnf))
      | (refine anyV_four rfl ?_ ?_ ?_ ?_ <;> (conv => whnf))
      | (refine .inl ⟨_, _, _, toGrid_spec g hsg, rfl, ?_⟩; (conv => whnf))
      | (refine .inl ⟨_, _, _, eqGrid_spec g hg.1, rfl, ?_⟩; (conv => whnf))
      | (refine anyV_end rfl ?_; (conv => whnf); first | done | rfl | (simp only [partOf_none]; done) | (simp only [partOf_none]; rfl))
  (conv => whnf)
  refine .inl ⟨_, _, _, toIntS_spec grads (by omega), rfl, ?_⟩
  (conv => whnf)
  refine .inl ⟨_, _, _, eqIntS_spec grads (by omega), rfl, ?_⟩
  (conv => whnf)
  refine tri_every hT hmix [8, 16, 77] { t := [(8, rpT t), (16, .c (.ptr 0 0)), (77, ab (bNot true))], h := [(0, .box t_impl_Tree (cTr t))], n := 1, N := 83 } rfl ?_ ?_
  · repeat' first
      | (refine anyV_one rfl ?_; (conv => whnf))
      | (refine anyV_two rfl ?_ ?_ <;> (conv => whnf))
      | (refine anyV_three rfl ?_ ?_ ?_ <;> (conv => whnf))
      | (refine anyV_four rfl ?_ ?_ ?_ ?_ <;> (conv => whnf))
      | (refine .inl ⟨_, _, _, toConfig_spec c hsc, rfl, ?_⟩; (conv => whnf))
      | (refine .inl ⟨_, _, _, eqConfig_spec c hc.1, rfl, ?_⟩; (conv => whnf))
      | (refine anyV_end rfl ?_; (conv => whnf); first | done | rfl | (simp only [partOf_none]; done) | (simp only [partOf_none]; rfl))
  (conv => whnf)
  refine tri_every hT hmix [82] { t := [(82, ab (bNot true))], h := [], n := 0, N := 83 } rfl ?_ ?_
  · repeat' first
      | (refine anyV_one rfl ?_; (conv => whnf))
      | (refine anyV_two rfl ?_ ?_ <;> (conv => whnf))
      | (refine anyV_three rfl ?_ ?_ ?_ <;> (conv => whnf))
      | (refine anyV_four rfl ?_ ?_ ?_ ?_ <;> (conv => whnf))
      | (refine .inl ⟨_, _, _, toTree_spec t hsm, rfl, ?_⟩; (conv => whnf))
      | (refine .inl ⟨_, _, _, eqTree_spec t ht.1, rfl, ?_⟩; (conv => whnf))
      | (refine anyV_end rfl ?_; (conv => whnf); first | done | rfl | (simp only [partOf_none]; done) | (simp only [partOf_none]; rfl))
  (conv => whnf)


theorem law_FnExactAllBest (g : Grd) (grads : List Int) (c : Cfg) (t : List Nd) (hg : okGrid g ∧ rgGrid g) (hr0 : grads.length ≤ 9223372036854775807 ∧ ∀ x ∈ grads, i64 x) (hc : okConfig c ∧ rgConfig c) (ht : t.length ≤ 9223372036854775807 ∧ ∀ n ∈ t, rgN n) :
    FnSpec PR f_laws_FnExactAllBest [aG g, aIs grads, aCf c, aT t] (ab true) [] 0 := by
  refine FnSpec.intro hT p_laws_FnExactAllBest rfl (by kernel_rfl) n_laws_FnExactAllBest rfl ?_
  conv => whnf
  refine ifB_i (fun h0 => ?_) (fun h0 => ?_) <;> (conv => whnf) <;> simp only [nInt_eq, Int.natCast_zero, dLen_eL, sLen_eq, nOf_eq, Int.toNat_natCast, nAdd_eq, nSub_eq, dLen_nil, dLen_cons, iLt_t, iLt_f, iLe_t, iLe_f, iEq_t, iEq_f, sEq_t, sEq_f, bNot_t, bNot_f, bAnd_t, bEq_t, bEq_f, Bool.not_eq_true, Bool.not_eq_false, Bool.true_eq_false, Bool.false_eq_true] at h0
  have hr : grads.length ≤ 1048576 := by omega
  refine .inl ⟨_, _, _, szGrid_spec g 1048576 (by omega) (by omega) hg.1, rfl, ?_⟩
  (conv => whnf)
  refine ifB_i (fun h1 => ?_) (fun h1 => ?_) <;> (conv => whnf) <;> simp only [nInt_eq, Int.natCast_zero, dLen_eL, sLen_eq, nOf_eq, Int.toNat_natCast, nAdd_eq, nSub_eq, dLen_nil, dLen_cons, iLt_t, iLt_f, iLe_t, iLe_f, iEq_t, iEq_f, sEq_t, sEq_f, bNot_t, bNot_f, bAnd_t, bEq_t, bEq_f, Bool.not_eq_true, Bool.not_eq_false, Bool.true_eq_false, Bool.false_eq_true] at h1
  rw [show bud 1048576 (costGrid g) = ((1048576 - costGrid g : Nat) : Int) from by have := bud_ok h1; rw [bud_le] <;> omega]
  have hcg := bud_ok h1
  obtain ⟨hsg, hzg⟩ := grid_small hcg
  refine .inl ⟨_, _, _, szConfig_spec c _ (by omega) (by omega) hc.1, rfl, ?_⟩
  (conv => whnf)
  refine ifB_i (fun h2 => ?_) (fun h2 => ?_) <;> (conv => whnf) <;> simp only [nInt_eq, Int.natCast_zero, dLen_eL, sLen_eq, nOf_eq, Int.toNat_natCast, nAdd_eq, nSub_eq, dLen_nil, dLen_cons, iLt_t, iLt_f, iLe_t, iLe_f, iEq_t, iEq_f, sEq_t, sEq_f, bNot_t, bNot_f, bAnd_t, bEq_t, bEq_f, Bool.not_eq_true, Bool.not_eq_false, Bool.true_eq_false, Bool.false_eq_true] at h2
  have hcc : c.signs.length ≤ 1048576 - costGrid g := by have := (bud_pos h2).1; unfold costConfig at this; omega
  rw [show bud ((1048576 - costGrid g : Nat) : Int) (costConfig c) = ((1048576 - costGrid g - c.signs.length : Nat) : Int) from by unfold costConfig; rw [bud_le] <;> omega]
  refine .inl ⟨_, _, _, szTree_spec t _ (by omega) (by omega) ht.1, rfl, ?_⟩
  (conv => whnf)
  refine ifB_i (fun h3 => ?_) (fun h3 => ?_) <;> (conv => whnf) <;> simp only [nInt_eq, Int.natCast_zero, dLen_eL, sLen_eq, nOf_eq, Int.toNat_natCast, nAdd_eq, nSub_eq, dLen_nil, dLen_cons, iLt_t, iLt_f, iLe_t, iLe_f, iEq_t, iEq_f, sEq_t, sEq_f, bNot_t, bNot_f, bAnd_t, bEq_t, bEq_f, Bool.not_eq_true, Bool.not_eq_false, Bool.true_eq_false, Bool.false_eq_true] at h3
  have hl : t.length ≤ 1048576 := by have := (bud_pos h3).1; unfold costTree at this; omega
  have hsm : smTree t := by unfold smTree; omega
  have hsc : smConfig c := by unfold smConfig; omega
  have hS := spec_AllBest_spec g grads c t hzg hr (by omega) hl
  have hI := impl_AllBest_spec g grads c t hzg hr (by omega) hl
  generalize allBest g grads c t = B at *
  refine tri_rp 0 ?_
  (conv => whnf)
  refine tri_rp 1 ?_
  (conv => whnf)
  refine tri_rp 2 ?_
  (conv => whnf)
  refine tri_every hT hmix [1, 4, 6, 7, 10] { t := [(1, aIs grads), (4, rpG g), (6, rpC c), (7, rpT t), (10, ab B)], h := [], n := 0, N := 79 } rfl ?_ ?_
  · repeat' first
      | (refine anyV_one rfl ?_; (conv => whnf))
      | (refine anyV_two rfl ?_ ?_ <;> (conv => whnf))
      | (refine anyV_three rfl ?_ ?_ ?_ <;> (conv => whnf))
      | (refine anyV_four rfl ?_ ?_ ?_ ?_ <;> (conv => whnf))
      | (refine .inl ⟨_, _, _, toGrid_spec g hsg, rfl, ?_⟩; (conv => whnf))
      | (refine .inl ⟨_, _, _, toIntS_spec grads (by omega), rfl, ?_⟩; (conv => whnf))
      | (refine .inl ⟨_, _, _, toConfig_spec c hsc, rfl, ?_⟩; (conv => whnf))
      | (refine .inl ⟨_, _, _, toTree_spec t hsm, rfl, ?_⟩; (conv => whnf))
      | (refine .inl ⟨_, _, _, hS, rfl, ?_⟩; (conv => whnf))
      | (refine anyV_end rfl ?_; (conv => whnf); first | done | rfl | (simp only [partOf_none]; done) | (simp only [partOf_none]; rfl))
  (conv => whnf)
  refine .inl ⟨_, _, _, toGrid_spec g hsg, rfl, ?_⟩
  (conv => whnf)
  refine .inl ⟨_, _, _, toIntS_spec grads (by omega), rfl, ?_⟩
  (conv => whnf)
  refine .inl ⟨_, _, _, toConfig_spec c hsc, rfl, ?_⟩
  (conv => whnf)
  refine .inl ⟨_, _, _, toTree_spec t hsm, rfl, ?_⟩
  (conv => whnf)
  refine .inl ⟨_, _, _, hI, rfl, ?_⟩
  (conv => whnf)
  rw [show bEq B B = true from by cases B <;> rfl]
  (conv => whnf)
  refine tri_every hT hmix [1, 6, 7, 12, 13, 14, 63] { t := [(1, aIs grads), (6, rpC c), (7, rpT t), (12, aIs grads), (13, .c (.ptr 0 0)), (14, .c (.ptr 1 0)), (63, ab (bNot true))], h := [(0, .box t_impl_Config (cCf c)), (1, .box t_impl_Tree (cTr t))], n := 2, N := 79 } rfl ?_ ?_
  · repeat' first
      | (refine anyV_one rfl ?_; (conv => whnf))
      | (refine anyV_two rfl ?_ ?_ <;> (conv => whnf))
      | (refine anyV_three rfl ?_ ?_ ?_ <;> (conv => whnf))
      | (refine anyV_four rfl ?_ ?_ ?_ ?_ <;> (conv => whnf))
      | (refine .inl ⟨_, _, _, toGrid_spec g hsg, rfl, ?_⟩; (conv => whnf))
      | (refine .inl ⟨_, _, _, eqGrid_spec g hg.1, rfl, ?_⟩; (conv => whnf))
      | (refine anyV_end rfl ?_; (conv => whnf); first | done | rfl | (simp only [partOf_none]; done) | (simp only [partOf_none]; rfl))
  (conv => whnf)
  refine .inl ⟨_, _, _, toIntS_spec grads (by omega), rfl, ?_⟩
  (conv => whnf)
  refine .inl ⟨_, _, _, eqIntS_spec grads (by omega), rfl, ?_⟩
  (conv => whnf)
  refine tri_every hT hmix [7, 14, 73] { t := [(7, rpT t), (14, .c (.ptr 0 0)), (73, ab (bNot true))], h := [(0, .box t_impl_Tree (cTr t))], n := 1, N := 79 } rfl ?_ ?_
  · repeat' first
      | (refine anyV_one rfl ?_; (conv => whnf))
      | (refine anyV_two rfl ?_ ?_ <;> (conv => whnf))
      | (refine anyV_three rfl ?_ ?_ ?_ <;> (conv => whnf))
      | (refine anyV_four rfl ?_ ?_ ?_ ?_ <;> (conv => whnf))
      | (refine .inl ⟨_, _, _, toConfig_spec c hsc, rfl, ?_⟩; (conv => whnf))
      | (refine .inl ⟨_, _, _, eqConfig_spec c hc.1, rfl, ?_⟩; (conv => whnf))
      | (refine anyV_end rfl ?_; (conv => whnf); first | done | rfl | (simp only [partOf_none]; done) | (simp only [partOf_none]; rfl))
  (conv => whnf)
  refine tri_every hT hmix [78] { t := [(78, ab (bNot true))], h := [], n := 0, N := 79 } rfl ?_ ?_
  · repeat' first
      | (refine anyV_one rfl ?_; (conv => whnf))
      | (refine anyV_two rfl ?_ ?_ <;> (conv => whnf))
      | (refine anyV_three rfl ?_ ?_ ?_ <;> (conv => whnf))
      | (refine anyV_four rfl ?_ ?_ ?_ ?_ <;> (conv => whnf))
      | (refine .inl ⟨_, _, _, toTree_spec t hsm, rfl, ?_⟩; (conv => whnf))
      | (refine .inl ⟨_, _, _, eqTree_spec t ht.1, rfl, ?_⟩; (conv => whnf))
      | (refine anyV_end rfl ?_; (conv => whnf); first | done | rfl | (simp only [partOf_none]; done) | (simp only [partOf_none]; rfl))
  (conv => whnf)
end Go.H.S
