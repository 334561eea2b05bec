/- Library, part NK: the bound at a node. -/
import Derived.Test.YtdolkacinfjhcaaGreatLPE
set_option maxRecDepth 100000
set_option linter.unusedSimpArgs false
set_option linter.unusedVariables false
namespace Go.H.S
open Go Go.Proofs Go.H
attribute [local irreducible] Tri FnSpec FnSpecM FnSpecX FnSpecJ
theorem nrStep_sub (g : Grd) (t : List Nd) (rows : List Int) (z z' : Int) : (∀ r ∈ nrStep g t rows z z', r ∈ rows) ∧ (nrStep g t rows z z').length ≤ rows.length := by
 unfold nrStep
 split
 ·exact ⟨fun _ h => h, Nat.le_refl _⟩
 ·split
  ·split
   ·exact ⟨fun r h => (List.mem_filter.1 h).1, List.length_filter_le _ _⟩
   ·exact ⟨fun r h => (List.mem_filter.1 h).1, List.length_filter_le _ _⟩
  ·exact ⟨fun _ h => h, Nat.le_refl _⟩
theorem nrWay_sub (g : Grd) (t : List Nd) : ∀ (w rows : List Int), (∀ r ∈ nrWay g t rows w, r ∈ rows) ∧ (nrWay g t rows w).length ≤ rows.length
 | [], rows => ⟨fun _ h => by rwa [nrWay] at h, by rw [nrWay]; exact Nat.le_refl _⟩
 | [_], rows => ⟨fun _ h => by rwa [nrWay] at h, by rw [nrWay]; exact Nat.le_refl _⟩
 | z :: z' :: w, rows => by
  have h1 := nrStep_sub g t rows z z'
  have h2 := nrWay_sub g t (z' :: w) (nrStep g t rows z z')
  rw [nrWay]
  exact ⟨fun r h => h1.1 r (h2.1 r h), by omega⟩
theorem nodeRowsL_ok {g : Grd} (hG : gridP g) (t : List Nd) (x : Int) : (nodeRowsL g t x).length ≤ 40 ∧ ∀ r ∈ nodeRowsL g t x, 0 ≤ r ∧ r < (rowsIn g : Int) := by
 have h := nrWay_sub g t (wayL t x) (allRowsL (rowsIn g))
 have h1 := allRowsL_len (rowsIn g)
 refine ⟨by unfold nodeRowsL; omega, fun r hr => ?_⟩
 have := h.1 r hr
 unfold allRowsL at this
 rw [if_pos (by have := hG.2.2.1; omega)] at this
 simp only [upTo, List.mem_map, List.mem_range] at this
 obtain ⟨i, h1, rfl⟩ := this
 omega
def leafAt (g : Grd) (grads : List Int) (c : Cfg) (t : List Nd) (b : Int × Int) (x : Int) : Int := leafV (nodeRowsL g t x).length (sumR grads (nodeRowsL g t x)) c.lambda b
def bSides (g : Grd) (grads : List Int) (c : Cfg) (t : List Nd) (b : Int × Int) (n : Nd) : (Int × Int) × (Int × Int) := sidesL (signFor c n.f) b (leafAt g grads c t b n.l) (leafAt g grads c t b n.r)
def bStep (g : Grd) (grads : List Int) (c : Cfg) (t : List Nd) (b : Int × Int) (z z' : Int) : Int × Int := match t[z.toNat]? with
 | none => b
 | some n => if n.l = z' then (bSides g grads c t b n).1 else (bSides g grads c t b n).2
def bWay (g : Grd) (grads : List Int) (c : Cfg) (t : List Nd) : (Int × Int) → List Int → (Int × Int)
 | b, z :: z' :: w => bWay g grads c t (bStep g grads c t b z z') (z' :: w)
 | b, [_] => b
 | b, [] => b
theorem bWay_two {g : Grd} {grads : List Int} {c : Cfg} {t : List Nd} {b : Int × Int} {w : List Int} {i : Nat} {z z' : Int} (h : w[i]? = some z) (h' : w[i + 1]? = some z') : bWay g grads c t b (w.drop i) = bWay g grads c t (bStep g grads c t b z z') (w.drop (i + 1)) := by
 rw [drop_at h, drop_at h', bWay]
theorem bWay_end {g : Grd} {grads : List Int} {c : Cfg} {t : List Nd} {b : Int × Int} {w : List Int} {i : Nat} (h : ¬ i + 1 < w.length) : bWay g grads c t b (w.drop i) = b := by
 have : (w.drop i).length ≤ 1 := by simp; omega
 match hd : w.drop i, this with
 | [], _ => rw [bWay]
 | [x], _ => rw [bWay]
abbrev freeB : Int × Int := (-1099511627776, 1099511627776)
noncomputable def boundAt (g : Grd) (grads : List Int) (c : Cfg) (t : List Nd) (node : Int) : (Int × Int) × Bool :=
 if taskOk g grads c = true ∧ nodeRowsR g t node ≠ [] then (bWay g grads c t freeB (wayL t node), true) else ((0, 0), false)
theorem boundAt_no {g : Grd} {grads : List Int} {c : Cfg} {t : List Nd} {node : Int} (h : ¬ (taskOk g grads c = true ∧ nodeRowsR g t node ≠ [])) : boundAt g grads c t node = ((0, 0), false) := if_neg h
theorem boundAt_yes {g : Grd} {grads : List Int} {c : Cfg} {t : List Nd} {node : Int} (h : taskOk g grads c = true ∧ nodeRowsR g t node ≠ []) : boundAt g grads c t node = (bWay g grads c t freeB (wayL t node), true) := if_pos h
abbrev tupBk (x : (Int × Int) × Bool) : AV := .tup [(true, cB x.1), (false, [.d (.bool x.2)])]
abbrev rpG (g : Grd) : AV := .c (.d (.rp [.sl 1 (eL cIs g.cuts), .sl 1 (eL cIs g.bins)]))
abbrev rpC (c : Cfg) : AV := .c (.d (.rp [.int .i64 c.rounds, .int .i64 c.depth, .int .i64 c.bins, .int .i64 c.lambda, .int .i64 c.rows, .int .i64 c.num, .int .i64 c.den, .sl 1 (eL cI c.signs)]))
abbrev rpT (t : List Nd) : AV := .c (.d (.rp [.sl 5 (eL cN t)]))
set_option maxHeartbeats 4000000 in
theorem spec_BoundAt_spec (g : Grd) (grads : List Int) (c : Cfg) (t : List Nd) (node : Int) (hg : smG g) (hr : grads.length ≤ 1048576) (hc : c.signs.length ≤ 1048576) (hl : t.length ≤ 1048576) :
  FnSpec PR f_spec_BoundAt [aG g, aIs grads, aCf c, aT t, ai node] (tupBk (boundAt g grads c t node)) [] 0 := by
 refine FnSpec.intro hT (pf Tryz.func41) rfl (by kernel_rfl) Tryz.ntmps41 rfl ?_
 conv => whnf
 refine .inl ⟨_, _, _, spec_TaskOk_spec g grads c hg hr hc, rfl, ?_⟩
 cases h1 : taskOk g grads c
 ·conv => whnf
  rw [boundAt_no (fun q => by rw [q.1] at h1; cases h1)]
 conv => whnf
 refine .inl ⟨_, _, _, spec_NodeRows_spec g t node hg hl, rfl, ?_⟩
 conv => whnf
 rw [show nInt (lenRE (eL cI (nodeRowsR g t node)) none) = ((nodeRowsR g t node).length : Int) by simp [lenRE]]
 cases h2 : iEq ((nodeRowsR g t node).length : Int) 0
 rotate_left
 ·conv => whnf
  have h2 : nodeRowsR g t node = [] := by simpa using h2
  rw [boundAt_no (fun q => q.2 h2)]
 have h2 : nodeRowsR g t node ≠ [] := fun q => by rw [q] at h2; simp at h2
 rw [boundAt_yes ⟨h1, h2⟩]
 obtain ⟨hG, hC, hgl, hgr⟩ := taskOk_iff.1 h1
 have h3 : gridOk g = true ∧ treeOk t g.cuts.length = true ∧ 0 ≤ node ∧ node ≤ (t.length : Int) - 1 := Classical.byContradiction fun q => h2 (nodeRowsR_no q)
 have hS := (treeOk_shp h3.2.1).1
 conv => whnf
 refine .inl ⟨_, _, _, spec_WayTo_spec t node (by omega), rfl, ?_⟩
 conv => whnf
 refine .inl ⟨_, _, _, spec_Free_spec, rfl, ?_⟩
 conv => whnf
 refine tri_rp 0 ?_
 conv => whnf
 refine tri_rp 1 ?_
 conv => whnf
 refine tri_rp 2 ?_
 conv => whnf
 refine tri_loop hT [1, 4, 5, 7, 8, 10, 12, 13, 14] (α := Nat × (Int × Int)) (fun x => { t := [(1, aIs grads), (4, ai node), (5, rpG g), (7, rpC c), (8, rpT t), (10, .c (.ptr 0 0)), (12, .c (.ref 1 0 none)), (13, .c (.ptr 2 0)), (14, ai x.1)], h := [(0, .box t_impl_Bound (cB (0, 0))), (1, .arr t_int 1 0 .own (eL cI (wayL t node))), (2, .box t_impl_Bound (cB x.2))], n := 3, N := 109 })
  (fun x => (x.1 + 1 ≤ (wayL t node).length ∨ x.1 = 0) ∧ boundP x.2 ∧ bWay g grads c t x.2 ((wayL t node).drop x.1) = bWay g grads c t freeB (wayL t node)) (fun x => (wayL t node).length - x.1) (0, freeB) (by first | ((conv => whnf); done) | ((conv => whnf); rfl)) ⟨.inr rfl, by unfold boundP; decide, rfl⟩ ?_
 intro ⟨k, b⟩ ⟨hk, hb, hw⟩
 dsimp only at hk hb hw
 have hwl := wayL_len t node
 conv => whnf
 rw [show wAdd .i64 (k : Int) 1 = ((k + 1 : Nat) : Int) from by rw [wAdd64] <;> omega]
 refine ifB_i (fun h4 => ?_) (fun h4 => ?_) <;> (conv => whnf) <;> simp only [eH, lenRE_none] at h4
 ·obtain ⟨z, hz⟩ := get_lt (show k < (wayL t node).length by omega)
  obtain ⟨z', hz'⟩ := get_lt (show k + 1 < (wayL t node).length by omega)
  obtain ⟨j, n, rfl, hn, hf, hlr⟩ := way_next hS hz hz'
  obtain ⟨k1, k2, k3, k4, k5, k6, k7, k8⟩ := shape_kids hS hn hf
  rw [bWay_two hz hz'] at hw
  have hst : bStep g grads c t b (j : Int) z' = if n.l = z' then (bSides g grads c t b n).1 else (bSides g grads c t b n).2 := by simp only [bStep, Int.toNat_natCast, hn]
  have hcl := (cfg_five c).1 hC.1
  obtain ⟨la, lb⟩ := nodeRowsL_ok hG t n.l
  obtain ⟨ra, rb⟩ := nodeRowsL_ok hG t n.r
  have hsl := sumR_in hgr (nodeRowsL g t n.l)
  have hsr := sumR_in hgr (nodeRowsL g t n.r)
  have yl : nodeRowsR g t n.l = nodeRowsL g t n.l := nodeRowsR_yes ⟨h3.1, h3.2.1, by omega, by omega⟩
  have yr : nodeRowsR g t n.r = nodeRowsL g t n.r := nodeRowsR_yes ⟨h3.1, h3.2.1, by omega, by omega⟩
  have hb' := hb
  unfold boundP at hb'
  have pl := leafV_in (n := (nodeRowsL g t n.l).length) (s := sumR grads (nodeRowsL g t n.l)) (lam := c.lambda) hb.1
  have pr := leafV_in (n := (nodeRowsL g t n.r).length) (s := sumR grads (nodeRowsL g t n.r)) (lam := c.lambda) hb.1
  refine tri_every hT hmix [1, 4, 5, 7, 8, 10, 12, 13, 14, 15] { t := [(1, aIs grads), (4, ai node), (5, rpG g), (7, rpC c), (8, rpT t), (10, .c (.ptr 0 0)), (12, .c (.ref 1 0 none)), (13, .c (.ptr 2 0)), (14, ai k), (15, .c (.ptr 3 0))], h := [(0, .box t_impl_Bound (cB (0, 0))), (1, .arr t_int 1 0 .own (eL cI (wayL t node))), (2, .box t_impl_Bound (cB b)), (3, .box t_impl_Node (cNd n))], n := 4, N := 109 } rfl ?_ ?_
  ·repeat' first
    | (refine anyV_one rfl ?_; (conv => whnf))
    | (refine anyV_two rfl ?_ ?_ <;> (conv => whnf))
    | (refine anyV_three rfl ?_ ?_ ?_ <;> (conv => whnf))
    | (refine ref_at (k := k) rfl (by first | omega | (simp only [eL_length]; omega) | (simp; omega)) ?_; (conv => whnf))
    | (refine ld_at (by simp) hz ?_; (conv => whnf))
    | (refine idx_at (k := j) rfl hn ?_; (conv => whnf))
    | (refine anyV_end rfl ?_; (conv => whnf); first | done | (simp only [partOf_none]; done) | (simp only [partOf_none]; rfl))
  conv => whnf
  refine .inl ⟨_, _, _, spec_NodeRows_spec g t n.l hg hl, rfl, ?_⟩
  rw [yl]
  conv => whnf
  refine .inl ⟨_, _, _, spec_NodeRows_spec g t n.r hg hl, rfl, ?_⟩
  rw [yr]
  conv => whnf
  refine tri_rp 3 ?_
  conv => whnf
  refine tri_every hT hmix [1, 4, 5, 7, 8, 10, 12, 13, 14, 15, 17, 18] { t := [(1, aIs grads), (4, ai node), (5, rpG g), (7, rpC c), (8, rpT t), (10, .c (.ptr 0 0)), (12, .c (.ref 1 0 none)), (13, .c (.ptr 2 0)), (14, ai k), (15, .c (.d (.rp (cN n)))), (17, .c (.ref 3 0 none)), (18, ai (leafAt g grads c t b n.l))], h := [(0, .box t_impl_Bound (cB (0, 0))), (1, .arr t_int 1 0 .own (eL cI (wayL t node))), (2, .box t_impl_Bound (cB b)), (3, .arr t_int 1 0 .own (eL cI (nodeRowsL g t n.r)))], n := 4, N := 109 } rfl ?_ ?_
  ·repeat' first
    | (refine anyV_one rfl ?_; (conv => whnf))
    | (refine anyV_two rfl ?_ ?_ <;> (conv => whnf))
    | (refine anyV_three rfl ?_ ?_ ?_ <;> (conv => whnf))
    | (refine .inl ⟨_, _, _, spec_l19Sum_spec grads (nodeRowsL g t n.l) hgr la (fun r h => by have := lb r h; omega), rfl, ?_⟩; (conv => whnf))
    | (refine .inl ⟨_, _, _, spec_LeafOf_spec _ _ c.lambda b (by omega) hcl.2.2.2.1 (by omega) hb, rfl, ?_⟩; (conv => whnf))
    | (refine anyV_end rfl ?_; (conv => whnf); first | done | (simp only [partOf_none]; done) | (simp only [partOf_none]; rfl))
  conv => whnf
  refine tri_every hT hmix [1, 4, 5, 7, 8, 10, 12, 13, 14, 15, 18, 20] { t := [(1, aIs grads), (4, ai node), (5, rpG g), (7, rpC c), (8, rpT t), (10, .c (.ptr 0 0)), (12, .c (.ref 1 0 none)), (13, .c (.ptr 2 0)), (14, ai k), (15, .c (.d (.rp (cN n)))), (18, ai (leafAt g grads c t b n.l)), (20, ai (leafAt g grads c t b n.r))], h := [(0, .box t_impl_Bound (cB (0, 0))), (1, .arr t_int 1 0 .own (eL cI (wayL t node))), (2, .box t_impl_Bound (cB b))], n := 3, N := 109 } rfl ?_ ?_
  ·repeat' first
    | (refine anyV_one rfl ?_; (conv => whnf))
    | (refine anyV_two rfl ?_ ?_ <;> (conv => whnf))
    | (refine anyV_three rfl ?_ ?_ ?_ <;> (conv => whnf))
    | (refine .inl ⟨_, _, _, spec_l19Sum_spec grads (nodeRowsL g t n.r) hgr ra (fun r h => by have := rb r h; omega), rfl, ?_⟩; (conv => whnf))
    | (refine .inl ⟨_, _, _, spec_LeafOf_spec _ _ c.lambda b (by omega) hcl.2.2.2.1 (by omega) hb, rfl, ?_⟩; (conv => whnf))
    | (refine anyV_end rfl ?_; (conv => whnf); first | done | (simp only [partOf_none]; done) | (simp only [partOf_none]; rfl))
  conv => whnf
  refine tri_every hT hmix [1, 4, 5, 7, 8, 10, 12, 13, 14, 15, 22, 23] { t := [(1, aIs grads), (4, ai node), (5, rpG g), (7, rpC c), (8, rpT t), (10, .c (.ptr 0 0)), (12, .c (.ref 1 0 none)), (13, .c (.ptr 2 0)), (14, ai k), (15, .c (.d (.rp (cN n)))), (22, .c (.ptr 3 0)), (23, .c (.ptr 4 0))], h := [(0, .box t_impl_Bound (cB (0, 0))), (1, .arr t_int 1 0 .own (eL cI (wayL t node))), (2, .box t_impl_Bound (cB b)), (3, .box t_impl_Bound (cB (bSides g grads c t b n).1)), (4, .box t_impl_Bound (cB (bSides g grads c t b n).2))], n := 5, N := 109 } rfl ?_ ?_
  ·repeat' first
    | (refine anyV_one rfl ?_; (conv => whnf))
    | (refine anyV_two rfl ?_ ?_ <;> (conv => whnf))
    | (refine anyV_three rfl ?_ ?_ ?_ <;> (conv => whnf))
    | (refine anyV_four rfl ?_ ?_ ?_ ?_ <;> (conv => whnf))
    | (refine .inl ⟨_, _, _, spec_SignFor_spec c n.f hc, rfl, ?_⟩; (conv => whnf))
    | (refine .inl ⟨_, _, _, spec_SidesOf_spec (signFor c n.f) b (leafAt g grads c t b n.l) (leafAt g grads c t b n.r) hb (by unfold leafAt; omega) (by unfold leafAt; omega), rfl, ?_⟩; (conv => whnf))
    | (refine anyV_end rfl ?_; (conv => whnf); first | done | (simp only [partOf_none]; done) | (simp only [partOf_none]; rfl))
  conv => whnf
  have hbs := sidesL_ok (sign := signFor c n.f) (p := leafAt g grads c t b n.l) (q := leafAt g grads c t b n.r) hb
  refine tri_every hT hmix [1, 4, 5, 7, 8, 10, 12, 13, 14, 22, 106] { t := [(1, aIs grads), (4, ai node), (5, rpG g), (7, rpC c), (8, rpT t), (10, .c (.ptr 0 0)), (12, .c (.ref 1 0 none)), (13, .c (.ptr 2 0)), (14, ai k), (22, .c (.ptr 3 0)), (106, ab (iEq n.l z'))], h := [(0, .box t_impl_Bound (cB (0, 0))), (1, .arr t_int 1 0 .own (eL cI (wayL t node))), (2, .box t_impl_Bound (cB (bSides g grads c t b n).2)), (3, .box t_impl_Bound (cB (bSides g grads c t b n).1))], n := 4, N := 109 } rfl ?_ ?_
  ·repeat' first
    | (refine anyV_one rfl ?_; (conv => whnf))
    | (refine anyV_two rfl ?_ ?_ <;> (conv => whnf))
    | (refine anyV_three rfl ?_ ?_ ?_ <;> (conv => whnf))
    | (refine ref_at (k := k + 1) (by rw [wAdd64] <;> omega) (by first | omega | (simp only [eL_length]; omega) | (simp; omega)) ?_; (conv => whnf))
    | (refine ld_at (by first | rfl | (rw [wAdd64] <;> first | omega | (simp <;> omega))) hz' ?_; (conv => whnf))
    | (refine anyV_end rfl ?_; (conv => whnf); first | done | (simp only [partOf_none]; done) | (simp only [partOf_none]; rfl))
  conv => whnf
  have e1 : wAdd .i64 (k : Int) 1 = ((k + 1 : Nat) : Int) := by rw [wAdd64] <;> omega
  refine ifB_i (fun h5 => ?_) (fun h5 => ?_) <;> (conv => whnf) <;> simp only [eH] at h5
  ·rw [hst, if_pos h5] at hw
   refine ⟨(k + 1, (bSides g grads c t b n).1), by dsimp only; omega, ⟨by dsimp only; omega, hbs.1, hw⟩, ?_⟩
   ((conv => whnf); simp only [eS, e1, partOf_none])
  ·rw [hst, if_neg h5] at hw
   refine ⟨(k + 1, (bSides g grads c t b n).2), by dsimp only; omega, ⟨by dsimp only; omega, hbs.2, hw⟩, ?_⟩
   ((conv => whnf); simp only [eS, e1, partOf_none])
 ·rw [bWay_end (by omega)] at hw
  ((conv => whnf); simp only [eS, hw])
end Go.H.S
