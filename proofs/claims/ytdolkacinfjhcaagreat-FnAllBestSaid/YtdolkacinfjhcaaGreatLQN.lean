/- Library, part QN: drawn trees to be looked at; the laws FnBestAt and FnAllBest. -/
import Derived.Test.YtdolkacinfjhcaaGreatLQL
import Derived.Test.YtdolkacinfjhcaaGreatLEA
import Derived.Test.YtdolkacinfjhcaaGreatLX
set_option maxRecDepth 100000
set_option linter.unusedSimpArgs false
set_option linter.unusedVariables false
namespace Go.H.S
open Go Go.Proofs Go.H
attribute [local irreducible] Tri FnSpec FnSpecM FnSpecX FnSpecJ FnSpecB
theorem spec_Within_spec (b : Int × Int) (v : Int) : FnSpec PR f_spec_Within [aB b, ai v] (ab (decide (b.1 ≤ v ∧ v ≤ b.2))) [] 0 := by
 refine FnSpec.intro hT (pf Tryz.func43) rfl (by kernel_rfl) Tryz.ntmps43 rfl ?_
 conv => whnf
 refine .inl ⟨_, _, _, spec_l1In_spec _ _ _, rfl, ?_⟩
 conv => whnf
abbrev tup28n (x : Grd × List Int × Cfg × List Nd × Int) : AV := .tup [(true, cG x.1), (false, [.d (.sl 1 (eL cI x.2.1))]), (true, cCf x.2.2.1), (true, cTr x.2.2.2.1), (false, [.d (.int .i64 x.2.2.2.2)])]
theorem spec_DrawBoundAt_spec (code : List Int) (hl : code.length ≤ 1048576) : FnSpecX PR f_spec_DrawBoundAt [.c (.d (.sl 1 (eL cU code)))] (Grd × List Int × Cfg × List Nd × Int) (fun x => smG x.1 ∧ x.2.1.length ≤ 41 ∧ x.2.2.1.signs.length ≤ 5 ∧ x.2.2.2.1.length ≤ 32) tup28n (fun _ => []) (fun _ => 0) := by
 refine FnSpecX.intro hT (pf Tryz.func129) rfl (by kernel_rfl) Tryz.ntmps129 rfl ?_
 conv => whnf
 refine .inr ⟨_, _, _, _, _, spec_l28Args_spec code hl, fun ⟨g, gr, c, t, i1, u1⟩ ⟨hg, hgr, hc, htl, hi1⟩ => ⟨rfl, ?_⟩⟩
 dsimp only at hg hgr hc htl hi1
 conv => whnf
 refine tri_rp 4 ?_
 conv => whnf
 refine tri_rp 5 ?_
 conv => whnf
 refine tri_rp 6 ?_
 conv => whnf
 refine tri_everyX hT hmix [2, 3, 4, 5, 6] (Y := Int) (fun _ => True) (fun y => { t := [(2, .c (.ptr 0 0)), (3, aIs gr), (4, .c (.ptr 1 0)), (5, .c (.ptr 2 0)), (6, ai y)], h := [(0, .box t_impl_Grid (cG g)), (1, .box t_impl_Config (cCf c)), (2, .box t_impl_Tree (cTr t))], n := 3, N := 31 }) rfl ?_ ?_
 ·repeat' first
   | (refine anyV_one rfl ?_; (conv => whnf))
   | (refine anyV_two rfl ?_ ?_ <;> (conv => whnf))
   | (refine anyV_three rfl ?_ ?_ ?_ <;> (conv => whnf))
   | (refine anyV_four rfl ?_ ?_ ?_ ?_ <;> (conv => whnf))
   | (refine .inr (.inr (.inr (.inr (.inl ⟨3, ?_⟩)))); (conv => whnf); refine ⟨_, _, _, _, _, _, spec_l1Below_spec code i1 u1 _ hi1 hl, fun ⟨z, ib, ub⟩ ⟨hz, hib⟩ => ⟨rfl, ?_⟩⟩; dsimp only at hz hib; (conv => whnf))
  all_goals
   refine anyV_end rfl ?_
   refine ⟨wSub .i64 z 1, trivial, ?_⟩
   conv => whnf
 ·intro z _
  conv => whnf
  refine ⟨(g, gr, c, t, z), ⟨hg, hgr, hc, htl⟩, ?_⟩
  conv => whnf
  first | done | rfl
theorem spec_DrawBestAt_spec (code : List Int) (hl : code.length ≤ 1048576) : FnSpecX PR f_spec_DrawBestAt [.c (.d (.sl 1 (eL cU code)))] (Grd × List Int × Cfg × List Nd × Int) (fun x => smG x.1 ∧ x.2.1.length ≤ 41 ∧ x.2.2.1.signs.length ≤ 5 ∧ x.2.2.2.1.length ≤ 32) tup28n (fun _ => []) (fun _ => 0) := by
 refine FnSpecX.intro hT (pf Tryz.func39) rfl (by kernel_rfl) Tryz.ntmps39 rfl ?_
 conv => whnf
 refine .inr ⟨_, _, _, _, _, spec_DrawBoundAt_spec code hl, fun ⟨g, gr, c, t, z⟩ hx => ⟨rfl, ?_⟩⟩
 conv => whnf
 refine ⟨(g, gr, c, t, z), hx, ?_⟩
 conv => whnf
abbrev tup28t (x : Grd × List Int × Cfg × List Nd) : AV := .tup [(true, cG x.1), (false, [.d (.sl 1 (eL cI x.2.1))]), (true, cCf x.2.2.1), (true, cTr x.2.2.2)]
theorem spec_DrawAllBest_spec (code : List Int) (hl : code.length ≤ 1048576) : FnSpecX PR f_spec_DrawAllBest [.c (.d (.sl 1 (eL cU code)))] (Grd × List Int × Cfg × List Nd) (fun x => smG x.1 ∧ x.2.1.length ≤ 41 ∧ x.2.2.1.signs.length ≤ 5 ∧ x.2.2.2.length ≤ 32) tup28t (fun _ => []) (fun _ => 0) := by
 refine FnSpecX.intro hT (pf Tryz.func44) rfl (by kernel_rfl) Tryz.ntmps44 rfl ?_
 conv => whnf
 refine .inr ⟨_, _, _, _, _, spec_l28Args_spec code hl, fun ⟨g, gr, c, t, i1, u1⟩ ⟨hg, hgr, hc, htl, hi1⟩ => ⟨rfl, ?_⟩⟩
 dsimp only at hg hgr hc htl hi1
 conv => whnf
 refine tri_rp 4 ?_
 conv => whnf
 refine tri_rp 5 ?_
 conv => whnf
 refine tri_rp 6 ?_
 conv => whnf
 refine tri_every hT hmix [2, 3, 4, 5] { t := [(2, .c (.ptr 0 0)), (3, aIs gr), (4, .c (.ptr 1 0)), (5, .c (.ptr 2 0))], h := [(0, .box t_impl_Grid (cG g)), (1, .box t_impl_Config (cCf c)), (2, .box t_impl_Tree (cTr t))], n := 3, N := 23 } rfl ?_ ?_
 ·repeat' first
   | (refine anyV_one rfl ?_; (conv => whnf))
   | (refine anyV_two rfl ?_ ?_ <;> (conv => whnf))
   | (refine anyV_three rfl ?_ ?_ ?_ <;> (conv => whnf))
   | (refine anyV_four rfl ?_ ?_ ?_ ?_ <;> (conv => whnf))
   | (refine anyV_end rfl ?_; (conv => whnf); first | done | rfl)
 ·conv => whnf
  refine ⟨(g, gr, c, t), ⟨hg, hgr, hc, htl⟩, ?_⟩
  conv => whnf
  first | done | rfl
theorem bestAt_in {g : Grd} {gr : List Int} {c : Cfg} {t : List Nd} {node : Int} {n : Nd} (h : bestAt g gr c t node = true) (hn : t[node.toNat]? = some n) : 0 ≤ n.f ∨ ((boundL g gr c t node).1 ≤ n.v ∧ n.v ≤ (boundL g gr c t node).2) := by
 unfold bestAt at h
 rw [hn] at h
 cases hb : (boundAt g gr c t node).2 with
 | false => rw [hb] at h; cases h
 | true =>
  rw [hb] at h
  have h' : bestAtN g gr c t node n = true := h
  unfold bestAtN at h'
  cases hz : growAt g gr c t node with
  | some x =>
   rw [hz] at h'
   simp only [Bool.and_eq_true, decide_eq_true_eq] at h'
   have hxf : 0 ≤ x.f := by
    unfold growAt at hz
    split at hz
    ·obtain ⟨f, b, _, _, hze⟩ := partL_in hz
     rw [hze]
     show (0 : Int) ≤ (f : Int)
     omega
    ·cases hz
   exact .inl (by omega)
  | none =>
   rw [hz] at h'
   simp only [Bool.and_eq_true, decide_eq_true_eq] at h'
   have := leafV_in (n := (nodeRowsL g t node).length) (s := sumR gr (nodeRowsL g t node)) (lam := c.lambda) (boundL_p g gr c t node).1
   exact .inr (by omega)
theorem bestAt_bound {g : Grd} {gr : List Int} {c : Cfg} {t : List Nd} {node : Int} (h : bestAt g gr c t node = true) : (boundAt g gr c t node).2 = true := by
 unfold bestAt at h
 cases hb : (boundAt g gr c t node).2 with
 | false => rw [hb] at h; cases h
 | true => rfl
theorem allBest_task {g : Grd} {gr : List Int} {c : Cfg} {t : List Nd} (h : allBest g gr c t = true) : taskP g gr c := by
 have ho := (allBest_at h).1
 have hl := (treeOk_shp ho).2.1
 unfold allBest at h
 rw [Bool.and_eq_true, List.all_eq_true] at h
 exact (bound_told (bestAt_bound (h.2 0 (List.mem_range.2 (by omega))))).1
set_option maxHeartbeats 4000000 in
theorem law_FnBestAt (code : List Int) (hm : code.length ≤ 9223372036854775807 ∧ ∀ y ∈ code, 0 ≤ y ∧ y ≤ 255) : FnSpec PR f_laws_FnBestAt [.c (.d (.sl 1 (eL cU code)))] (ab true) [] 0 := by
 refine FnSpec.intro hT (pf Tryz.func6) rfl (by kernel_rfl) Tryz.ntmps6 rfl ?_
 conv => whnf
 refine .inl ⟨_, _, _, laws_big_spec code, rfl, ?_⟩
 conv => whnf
 refine ifB_i (fun h => ?_) (fun h => ?_) <;> (conv => whnf) <;> simp only [eH] at h
 have hl : code.length ≤ 1048576 := by omega
 refine .inr ⟨_, _, _, _, _, spec_DrawBestAt_spec code hl, fun ⟨g, gr, c, t, z⟩ ⟨hg, hgr, hc, htl⟩ => ⟨rfl, ?_⟩⟩
 dsimp only at hg hgr hc htl
 have hI := impl_BestAt_spec g gr c t z hg (by omega) (by omega) (by omega)
 have hS := spec_BestAt_spec g gr c t z hg (by omega) (by omega) (by omega)
 have bI := impl_BoundAt_spec g gr c t z hg (by omega) (by omega) (by omega)
 have bS := spec_BoundAt_spec g gr c t z hg (by omega) (by omega) (by omega)
 have hin := @bestAt_in g gr c t z
 have hbb := @bestAt_bound g gr c t z
 have htold := @bound_told g gr c t z
 have hbp := boundL_p g gr c t z
 generalize bestAt g gr c t z = B at *
 generalize boundL g gr c t z = bl at *
 generalize boundAt g gr c t z = BA at *
 obtain ⟨bd, R⟩ := BA
 dsimp only at hbb htold
 have hE : ∀ x y : Int, bNot (bAnd (iEq x x) (bAnd (iEq y y) true)) = false := fun x y => by simp [bNot, bAnd, iEq]
 conv => whnf
 refine .inl ⟨_, _, _, hI, rfl, ?_⟩
 conv => whnf
 refine .inl ⟨_, _, _, hS, rfl, ?_⟩
 cases R with
 | false =>
  cases B with
  | true => exact absurd (hbb rfl) (by simp)
  | false =>
   conv => whnf
   refine .inl ⟨_, _, _, bI, rfl, ?_⟩
   conv => whnf
   refine .inl ⟨_, _, _, bS, rfl, ?_⟩
   conv => whnf
   rw [hE]
   conv => whnf
   refine tri_conf hT hmix (by kernel_rfl) ?_
   conv => whnf
   repeat' first
    | (refine And.intro (fun q => ?_) (fun q => ?_) <;> cases q <;> (conv => whnf))
    | (rw [hE]; (conv => whnf))
   all_goals first
    | done
    | rfl
 | true =>
  obtain ⟨_, _, _, hz, hbe, _⟩ := htold rfl
  simp only [Prod.mk.injEq, and_true] at hbe
  subst hbe
  obtain ⟨z, rfl⟩ : ∃ n : Nat, z = n := ⟨z.toNat, by omega⟩
  obtain ⟨n, hn⟩ := get_lt (show z < t.length by omega)
  have hb1 : FnSpec PR f_spec_BoundOk [aB bd] (ab true) [] 0 := by
   have := spec_BoundOk_spec bd
   rwa [decide_eq_true hbp] at this
  have hin2 := fun h => hin h (n := n) (by rw [Int.toNat_natCast]; exact hn)
  clear hin hbb htold
  obtain ⟨b1, b2⟩ := bd
  cases B with
  | false =>
   conv => whnf
   refine .inl ⟨_, _, _, bI, rfl, ?_⟩
   conv => whnf
   refine .inl ⟨_, _, _, bS, rfl, ?_⟩
   conv => whnf
   rw [hE]
   conv => whnf
   refine tri_conf hT hmix (by kernel_rfl) ?_
   conv => whnf
   repeat' first
    | (refine And.intro (fun q => ?_) (fun q => ?_) <;> cases q <;> (conv => whnf))
    | (refine ⟨_, _, hb1, rfl, ?_⟩; (conv => whnf))
   all_goals first
    | done
    | rfl
  | true =>
   have hin3 := hin2 rfl
   dsimp only at hin3
   have hw : n.f < 0 → FnSpec PR f_spec_Within [aB (b1, b2), ai n.v] (ab true) [] 0 := fun h => by
    have := spec_Within_spec (b1, b2) n.v
    rwa [decide_eq_true (show b1 ≤ n.v ∧ n.v ≤ b2 by omega)] at this
   conv => whnf
   refine .inl ⟨_, _, _, bI, rfl, ?_⟩
   conv => whnf
   refine .inl ⟨_, _, _, bS, rfl, ?_⟩
   conv => whnf
   rw [hE]
   conv => whnf
   refine tri_conf hT hmix (by kernel_rfl) ?_
   conv => whnf
   rcases Int.lt_or_le n.f 0 with hf | hf
   ·have hd : iLe 0 n.f = false := decide_eq_false (by omega)
    have hwv := hw hf
    repeat' first
     | (refine And.intro (fun q => ?_) (fun q => ?_) <;> cases q <;> (conv => whnf))
     | (rw [hd]; (conv => whnf))
     | (refine ⟨_, _, hb1, rfl, ?_⟩; (conv => whnf))
     | (refine ⟨_, _, hwv, rfl, ?_⟩; (conv => whnf))
     | (refine idx_at (k := z) rfl hn ?_; (conv => whnf))
    all_goals first
     | done
     | rfl
   ·have hd : iLe 0 n.f = true := decide_eq_true hf
    repeat' first
     | (refine And.intro (fun q => ?_) (fun q => ?_) <;> cases q <;> (conv => whnf))
     | (rw [hd]; (conv => whnf))
     | (refine ⟨_, _, hb1, rfl, ?_⟩; (conv => whnf))
     | (refine idx_at (k := z) rfl hn ?_; (conv => whnf))
    all_goals first
     | done
     | rfl
set_option maxHeartbeats 4000000 in
theorem law_FnAllBest (code : List Int) (hm : code.length ≤ 9223372036854775807 ∧ ∀ y ∈ code, 0 ≤ y ∧ y ≤ 255) : FnSpec PR f_laws_FnAllBest [.c (.d (.sl 1 (eL cU code)))] (ab true) [] 0 := by
 refine FnSpec.intro hT (pf Tryz.func7) rfl (by kernel_rfl) Tryz.ntmps7 rfl ?_
 conv => whnf
 refine .inl ⟨_, _, _, laws_big_spec code, rfl, ?_⟩
 conv => whnf
 refine ifB_i (fun h => ?_) (fun h => ?_) <;> (conv => whnf) <;> simp only [eH] at h
 have hl : code.length ≤ 1048576 := by omega
 refine .inr ⟨_, _, _, _, _, spec_DrawAllBest_spec code hl, fun ⟨g, gr, c, t⟩ ⟨hg, hgr, hc, htl⟩ => ⟨rfl, ?_⟩⟩
 dsimp only at hg hgr hc htl
 have hI := impl_AllBest_spec g gr c t hg (by omega) (by omega) (by omega)
 have hS := spec_AllBest_spec g gr c t hg (by omega) (by omega) (by omega)
 by_cases ht : taskP g gr c
 ·have h1 := impl_GrowTree_spec g gr c hg (by omega) (by omega) ht
  have hsh := grown_shape ht
  have hU := impl_AllBest_spec g gr c (growL g gr c) hg (by omega) (by omega) (by omega)
  rw [grown_best ht] at hU
  have hT := spec_SameTree_spec t (growL g gr c) (by omega)
  have hB : decide (t = growL g gr c) = allBest g gr c t := by
   cases hb : allBest g gr c t with
   | true => exact decide_eq_true (best_only ht hb)
   | false => exact decide_eq_false fun e => by rw [e, grown_best ht] at hb; cases hb
  rw [hB] at hT
  generalize growL g gr c = U at *
  generalize allBest g gr c t = B at *
  conv => whnf
  refine .inl ⟨_, _, _, hI, rfl, ?_⟩
  conv => whnf
  refine .inl ⟨_, _, _, hS, rfl, ?_⟩
  cases B <;> (conv => whnf)
  all_goals
   refine .inl ⟨_, _, _, h1, rfl, ?_⟩
   conv => whnf
   refine .inl ⟨_, _, _, hU, rfl, ?_⟩
   conv => whnf
   refine .inl ⟨_, _, _, hT, rfl, ?_⟩
   conv => whnf
   first | done | rfl
 ·have h1 := impl_GrowTree_no g gr c hg (by omega) (by omega) ht
  have hb : allBest g gr c t = false := by
   cases hb : allBest g gr c t with
   | false => rfl
   | true => exact absurd (allBest_task hb) ht
  rw [hb] at hI hS
  conv => whnf
  refine .inl ⟨_, _, _, hI, rfl, ?_⟩
  conv => whnf
  refine .inl ⟨_, _, _, hS, rfl, ?_⟩
  conv => whnf
  refine .inl ⟨_, _, _, h1, rfl, ?_⟩
  conv => whnf
  first | done | rfl
end Go.H.S
