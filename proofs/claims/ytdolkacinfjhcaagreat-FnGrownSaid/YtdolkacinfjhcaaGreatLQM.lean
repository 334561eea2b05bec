/- Library, part QM: drawn tasks for growing; the law FnGrown. -/
import Derived.Test.YtdolkacinfjhcaaGreatLQL
import Derived.Test.YtdolkacinfjhcaaGreatLEA
import Derived.Test.YtdolkacinfjhcaaGreatLX
set_option maxRecDepth 100000
set_option linter.unusedSimpArgs false
set_option linter.unusedVariables false
namespace Go.H.S
open Go Go.Proofs Go.H
attribute [local irreducible] Tri FnSpec FnSpecM FnSpecX FnSpecJ FnSpecB
abbrev tup19 (x : Grd × List Int × Cfg) : AV := .tup [(true, cG x.1), (false, [.d (.sl 1 (eL cI x.2.1))]), (true, cCf x.2.2)]
theorem spec_DrawGrowTree_spec (code : List Int) (hl : code.length ≤ 1048576) : FnSpecX PR f_spec_DrawGrowTree [.c (.d (.sl 1 (eL cU code)))] (Grd × List Int × Cfg) (fun x => smG x.1 ∧ x.2.1.length ≤ 41 ∧ x.2.2.signs.length ≤ 5) tup19 (fun _ => []) (fun _ => 0) := by
 refine FnSpecX.intro hT (pf Tryz.func30) rfl (by kernel_rfl) Tryz.ntmps30 rfl ?_
 conv => whnf
 refine .inr ⟨_, _, _, _, _, spec_l19Args_spec code hl, fun ⟨g, gr, c, i1, u1⟩ ⟨hg, hgr, hc, hi1⟩ => ⟨rfl, ?_⟩⟩
 dsimp only at hg hgr hc hi1
 conv => whnf
 refine tri_rp 3 ?_
 conv => whnf
 refine tri_rp 4 ?_
 conv => whnf
 refine tri_every hT hmix [2, 3, 4] { t := [(2, .c (.ptr 0 0)), (3, aIs gr), (4, .c (.ptr 1 0))], h := [(0, .box t_impl_Grid (cG g)), (1, .box t_impl_Config (cCf c))], n := 2, N := 19 } rfl ?_ ?_
 ·repeat' first
   | (refine anyV_one rfl ?_; (conv => whnf))
   | (refine anyV_two rfl ?_ ?_ <;> (conv => whnf))
   | (refine anyV_three rfl ?_ ?_ ?_ <;> (conv => whnf))
   | (refine anyV_end rfl ?_; (conv => whnf); first | done | rfl)
 ·conv => whnf
  refine ⟨(g, gr, c), ⟨hg, hgr, hc⟩, ?_⟩
  conv => whnf
  first | done | rfl
set_option maxHeartbeats 4000000 in
theorem law_FnGrown (code : List Int) (hm : code.length ≤ 9223372036854775807 ∧ ∀ y ∈ code, 0 ≤ y ∧ y ≤ 255) : FnSpec PR f_laws_FnGrown [.c (.d (.sl 1 (eL cU code)))] (ab true) [] 0 := by
 refine FnSpec.intro hT (pf Tryz.func5) rfl (by kernel_rfl) Tryz.ntmps5 rfl ?_
 conv => whnf
 refine .inl ⟨_, _, _, laws_big_spec code, rfl, ?_⟩
 conv => whnf
 refine ifB_i (fun h => ?_) (fun h => ?_) <;> (conv => whnf) <;> simp only [eH] at h
 have hl : code.length ≤ 1048576 := by omega
 refine .inr ⟨_, _, _, _, _, spec_DrawGrowTree_spec code hl, fun ⟨g, gr, c⟩ ⟨hg, hgr, hc⟩ => ⟨rfl, ?_⟩⟩
 dsimp only at hg hgr hc
 by_cases ht : taskP g gr c
 ·have h1 := impl_GrowTree_spec g gr c hg (by omega) (by omega) ht
  have h2 := spec_GrowTree_spec g gr c hg (by omega) (by omega) ht
  have hsh := grown_shape ht
  have hok := grown_ok ht
  have h3 : FnSpec PR f_impl_TaskOk [aG g, aIs gr, aCf c] (ab true) [] 0 := by
   have := impl_TaskOk_spec g gr c hg (by omega) (by omega)
   rwa [taskOk_t ht] at this
  have hdp := grown_depth ht _ (Nat.le_refl _)
  have hmany : ∀ j, j < (growL g gr c).length → 1 < (growL g gr c).length → c.rows ≤ ((nodeRowsR g (growL g gr c) (j : Nat)).length : Int) := fun j hj h1 => by
   obtain ⟨_, hn⟩ := grow_node ht
   obtain ⟨x, hx, _⟩ := hn j hj
   obtain ⟨_, _, hr, _⟩ := grown_rows ht hx
   rw [nodeRowsR_yes ⟨gridOk_t ht.1, hok, by omega, by omega⟩, hr]
   exact grown_many ht hx h1
  generalize growL g gr c = T at *
  have h4 : FnSpec PR f_spec_SameTree [aT T, aT T] (ab true) [] 0 := by
   have := spec_SameTree_spec T T (by omega)
   rwa [show decide (T = T) = true from decide_eq_true rfl] at this
  have h5 : FnSpec PR f_impl_TreeOk [aT T, ai (g.cuts.length : Int)] (ab true) [] 0 := by
   have := impl_TreeOk_spec T g.cuts.length (by omega)
   rwa [hok] at this
  have h6 : FnSpec PR f_spec_TreeOk [aT T, ai (g.cuts.length : Int)] (ab true) [] 0 := by
   have := spec_TreeOk_spec T g.cuts.length (by omega)
   rwa [hok] at this
  have e1 : nInt (dLen (eL cIs g.cuts)) = (g.cuts.length : Int) := by simp
  conv => whnf
  refine .inl ⟨_, _, _, h1, rfl, ?_⟩
  conv => whnf
  refine .inl ⟨_, _, _, h2, rfl, ?_⟩
  conv => whnf
  refine .inl ⟨_, _, _, h4, rfl, ?_⟩
  conv => whnf
  refine .inl ⟨_, _, _, h3, rfl, ?_⟩
  conv => whnf
  refine tri_fz 3 0 ?_
  conv => whnf
  refine tri_rp 3 ?_
  conv => whnf
  refine tri_rp 0 ?_
  conv => whnf
  refine tri_rp 1 ?_
  conv => whnf
  refine tri_loop hT [3, 5, 6, 10] (α := Nat) (fun k => { t := [(3, rpG g), (5, rpC c), (6, rpT T), (10, ai k)], h := [], n := 0, N := 98 })
   (fun k => k ≤ T.length) (fun k => T.length - k) 0 (by (conv => whnf); simp only [partOf_none]; first | done | rfl) (Nat.zero_le _) ?_
  intro k hk
  conv => whnf
  refine ifB_i (fun q1 => ?_) (fun q1 => ?_) <;> (conv => whnf) <;> simp only [eH] at q1
  ·refine .inl ⟨_, _, _, impl_NodeRows_spec g T k hg (by omega), rfl, ?_⟩
   conv => whnf
   refine ifB_i (fun q2 => ?_) (fun q2 => ?_) <;> (conv => whnf) <;> simp only [eH] at q2
   ·have hmk := hmany k (by omega) (by omega)
    refine ifB_i (fun q3 => ?_) (fun q3 => ?_) <;> (conv => whnf)
    ·simp at q3
     omega
    ·refine ⟨k + 1, by omega, by omega, ?_⟩
     ((conv => whnf); simp only [eS, wI (show k < T.length by omega) (by omega)])
     first | done | rfl
   ·refine ⟨k + 1, by omega, by omega, ?_⟩
    ((conv => whnf); simp only [eS, wI (show k < T.length by omega) (by omega)])
    first | done | rfl
  ·refine tri_conf hT hmix (by kernel_rfl) ?_
   conv => whnf
   repeat' first
    | (refine And.intro (fun q => ?_) (fun q => ?_) <;> cases q <;> (conv => whnf))
    | (rw [e1]; refine ⟨_, _, h5, rfl, ?_⟩; (conv => whnf))
    | (rw [e1]; refine ⟨_, _, h6, rfl, ?_⟩; (conv => whnf))
    | (refine ⟨_, _, impl_DepthOf_spec T (by omega), rfl, ?_⟩; (conv => whnf))
   all_goals rw [show iLe (depthK T T.length) c.depth = true from decide_eq_true hdp]
 ·have h1 := impl_GrowTree_no g gr c hg (by omega) (by omega) ht
  have h2 := spec_GrowTree_no g gr c hg (by omega) (by omega) ht
  have h3 : FnSpec PR f_impl_TaskOk [aG g, aIs gr, aCf c] (ab false) [] 0 := by
   have := impl_TaskOk_spec g gr c hg (by omega) (by omega)
   rwa [taskOk_f ht] at this
  have h4 : FnSpec PR f_spec_SameTree [.agg [.d (.sl 5 [])], .agg [.d (.sl 5 [])]] (ab true) [] 0 := by
   have := spec_SameTree_spec [] [] (by simp)
   rwa [show decide (([] : List Nd) = []) = true from rfl, aT, cTr, eL_nil] at this
  conv => whnf
  refine .inl ⟨_, _, _, h1, rfl, ?_⟩
  conv => whnf
  refine .inl ⟨_, _, _, h2, rfl, ?_⟩
  conv => whnf
  refine .inl ⟨_, _, _, h4, rfl, ?_⟩
  conv => whnf
  refine .inl ⟨_, _, _, h3, rfl, ?_⟩
  conv => whnf
  first | done | rfl | (simp [iEq]; done)
end Go.H.S
