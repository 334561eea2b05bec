/- Library, part PN: is a node what would be grown there: contracts. -/
import Derived.Test.YtdolkacinfjhcaaGreatLPM
import Derived.Test.YtdolkacinfjhcaaGreatLNL
import Derived.Test.YtdolkacinfjhcaaGreatLNA
namespace Go.H.S
open Go Go.Proofs Go.H
attribute [local irreducible] Tri FnSpec FnSpecM FnSpecX FnSpecJ FnSpecB hiU loU
set_option maxRecDepth 100000
set_option linter.unusedSimpArgs false
set_option linter.unusedVariables false


theorem level_len (t : List Nd) (node : Int) : levelL t node = ((wayL t node).length : Int) - 1 := by
  unfold levelL lvl wayL
  split
  · split
    · simp
    · rfl
  · rfl
theorem bStep_p {g : Grd} {grads : List Int} {c : Cfg} {t : List Nd} {b : Int × Int} {z z' : Int} (hb : boundP b) : boundP (bStep g grads c t b z z') := by
  unfold bStep
  split
  · exact hb
  · rename_i n _
    have := sidesL_ok (sign := signFor c n.f) (p := leafAt g grads c t b n.l) (q := leafAt g grads c t b n.r) hb
    split
    · exact this.1
    · exact this.2
theorem bWay_p {g : Grd} {grads : List Int} {c : Cfg} {t : List Nd} : ∀ (w : List Int) (b : Int × Int), boundP b → boundP (bWay g grads c t b w)
  | [], b, hb => by unfold bWay; exact hb
  | [z], b, hb => by unfold bWay; exact hb
  | z :: z' :: r, b, hb => by unfold bWay; exact bWay_p (z' :: r) _ (bStep_p hb)
def boundL (g : Grd) (grads : List Int) (c : Cfg) (t : List Nd) (node : Int) : Int × Int := bWay g grads c t freeB (wayL t node)
theorem boundL_p (g : Grd) (grads : List Int) (c : Cfg) (t : List Nd) (node : Int) : boundP (boundL g grads c t node) := bWay_p _ _ (by unfold boundP; decide)
def cutAt (g : Grd) (f b : Int) : Int := ((cutsF g f.toNat)[b.toNat]?).getD 0
/-- What would be grown at a node. -/
def growAt (g : Grd) (grads : List Int) (c : Cfg) (t : List Nd) (node : Int) : Option Cd :=
  if levelL t node < c.depth then partL g grads c (nodeRowsL g t node) (boundL g grads c t node) else none
def bestAtN (g : Grd) (grads : List Int) (c : Cfg) (t : List Nd) (node : Int) (n : Nd) : Bool :=
  match growAt g grads c t node with
  | some x => decide (n.f = x.f) && decide (n.c = cutAt g x.f x.b)
  | none => decide (n.f = -1) && decide (n.v = leafV (nodeRowsL g t node).length (sumR grads (nodeRowsL g t node)) c.lambda (boundL g grads c t node))
noncomputable def bestAt (g : Grd) (grads : List Int) (c : Cfg) (t : List Nd) (node : Int) : Bool :=
  match (boundAt g grads c t node).2, t[node.toNat]? with
  | true, some n => bestAtN g grads c t node n
  | _, _ => false
/-- What a node's bound being told says. -/
theorem bound_told {g : Grd} {grads : List Int} {c : Cfg} {t : List Nd} {node : Int} (h : (boundAt g grads c t node).2 = true) : taskP g grads c ∧ gridOk g = true ∧ treeOk t g.cuts.length = true ∧ (0 ≤ node ∧ node < (t.length : Int)) ∧ boundAt g grads c t node = (boundL g grads c t node, true) ∧ nodeRowsR g t node = nodeRowsL g t node := by
  by_cases q : taskOk g grads c = true ∧ nodeRowsR g t node ≠ []
  · have q2 : gridOk g = true ∧ treeOk t g.cuts.length = true ∧ 0 ≤ node ∧ node ≤ (t.length : Int) - 1 := by
      by_cases q3 : gridOk g = true ∧ treeOk t g.cuts.length = true ∧ 0 ≤ node ∧ node ≤ (t.length : Int) - 1
      · exact q3
      · exact absurd (nodeRowsR_no q3) q.2
    exact ⟨taskOk_iff.1 q.1, q2.1, q2.2.1, ⟨q2.2.2.1, by omega⟩, boundAt_yes q, nodeRowsR_yes q2⟩
  · rw [boundAt_no q] at h; cases h
theorem node_rows {g : Grd} (hG : gridP g) (t : List Nd) (x : Int) : rowsP g (nodeRowsL g t x) := ⟨(nodeRowsL_ok hG t x).1, (nodeRowsL_ok hG t x).2⟩
/-- The best split lies within the grid. -/
theorem partL_in {g : Grd} {grads : List Int} {c : Cfg} {rows : List Int} {b : Int × Int} {x : Cd} (h : partL g grads c rows b = some x) : ∃ f k : Nat, f < g.cuts.length ∧ k < (cutsF g f).length ∧ x = candAt g grads rows f k := by
  obtain ⟨f, k, h1, h2, h3, _⟩ := candL_mem (bestL_mem h).1
  exact ⟨f, k, h1, h2, h3⟩

theorem impl_BestAt_spec (g : Grd) (grads : List Int) (c : Cfg) (t : List Nd) (node : Int) (hg : smG g) (hr : grads.length ≤ 1048576) (hc : c.signs.length ≤ 1048576) (hl : t.length ≤ 1048576) : FnSpec PR f_impl_BestAt [aG g, aIs grads, aCf c, aT t, ai node] (ab (bestAt g grads c t node)) [] 0 := by
  refine FnSpec.intro hT p_impl_BestAt rfl (by kernel_rfl) n_impl_BestAt rfl ?_
  conv => whnf
  refine .inl ⟨_, _, _, impl_BoundAt_spec g grads c t node hg hr hc hl, rfl, ?_⟩
  cases hb : (boundAt g grads c t node).2 with
  | false =>
    have hbe : bestAt g grads c t node = false := by unfold bestAt; rw [hb]
    obtain ⟨B, k⟩ : ∃ B, boundAt g grads c t node = (B, false) := ⟨(boundAt g grads c t node).1, by rw [← hb]⟩
    rw [k, hbe]
    (conv => whnf)
  | true =>
  obtain ⟨hT0, hG0, hO0, hn, hB, hR⟩ := bound_told hb
  obtain ⟨n, hnd⟩ := get_lt (show node.toNat < t.length by omega)
  have hbe : bestAt g grads c t node = bestAtN g grads c t node n := by unfold bestAt; rw [hb, hnd]
  have hbp := boundL_p g grads c t node
  have hla := nodeRowsL_ok hT0.1 t node
  have hgl : grads.length = rowsIn g := hT0.2.2.1
  rw [hB, hbe]
  (conv => whnf)
  refine tri_rp 0 ?_
  (conv => whnf)
  refine tri_rp 1 ?_
  (conv => whnf)
  refine tri_rp 2 ?_
  (conv => whnf)
  refine tri_rp 3 ?_
  (conv => whnf)
  refine tri_every hT hmix [1, 4, 5, 7, 8, 11, 13, 14] { t := [(1, aIs grads), (4, ai node), (5, rpG g), (7, rpC c), (8, rpT t), (11, rpB (boundL g grads c t node)), (13, .c (.ptr 0 0)), (14, aIs (nodeRowsL g t node))], h := [(0, .box t_impl_Node (cNd n))], n := 1, N := 93 } rfl ?_ ?_
  · repeat' first
      | (refine anyV_one rfl ?_; (conv => whnf))
      | (refine anyV_two rfl ?_ ?_ <;> (conv => whnf))
      | (refine anyV_three rfl ?_ ?_ ?_ <;> (conv => whnf))
      | (refine anyV_four rfl ?_ ?_ ?_ ?_ <;> (conv => whnf))
      | (refine idx_at (k := node.toNat) (by omega) hnd ?_; (conv => whnf))
      | (refine .inl ⟨_, _, _, impl_nodeRows_spec g t node hg hl hG0 hO0, rfl, ?_⟩; (conv => whnf))
      | (refine anyV_end rfl ?_; (conv => whnf); first | done | rfl | (simp only [partOf_none]; done) | (simp only [partOf_none]; rfl))
  (conv => whnf)
  refine tri_rp 0 ?_
  (conv => whnf)
  refine tri_every hT hmix [1, 4, 5, 7, 8, 11, 13, 14, 44] { t := [(1, aIs grads), (4, ai node), (5, rpG g), (7, rpC c), (8, rpT t), (11, rpB (boundL g grads c t node)), (13, .c (.d (.rp (cN n)))), (14, aIs (nodeRowsL g t node)), (44, ab (iLt (((wayL t node).length : Int) - 1) c.depth))], h := [], n := 0, N := 93 } rfl ?_ ?_
  · repeat' first
      | (refine anyV_one rfl ?_; (conv => whnf))
      | (refine anyV_two rfl ?_ ?_ <;> (conv => whnf))
      | (refine anyV_three rfl ?_ ?_ ?_ <;> (conv => whnf))
      | (refine .inl ⟨_, _, _, impl_LevelOf_spec t node (by omega), rfl, ?_⟩; (conv => whnf))
      | (refine anyV_end rfl ?_; (conv => whnf); first | done | rfl)
  (conv => whnf)
  refine ifB_i (fun h1 => ?_) (fun h1 => ?_) <;> (conv => whnf) <;> simp only [nInt_eq, Int.natCast_zero, dLen_eL, sLen_eq, nOf_eq, Int.toNat_natCast, nAdd_eq, nSub_eq, dLen_nil, dLen_cons, iLt_t, iLt_f, iLe_t, iLe_f, iEq_t, iEq_f, sEq_t, sEq_f, bNot_t, bNot_f, bAnd_t, bEq_t, bEq_f, Bool.not_eq_true, Bool.not_eq_false, Bool.true_eq_false, Bool.false_eq_true] at h1
  · have hga : growAt g grads c t node = partL g grads c (nodeRowsL g t node) (boundL g grads c t node) := by
      unfold growAt; rw [level_len, if_pos h1]
    refine .inl ⟨_, _, _, impl_PartOf_spec g grads c _ _ hg hT0 (node_rows hT0.1 t node) hbp, rfl, ?_⟩
    rw [← hga]
    cases hp : growAt g grads c t node with
    | some x =>
      have hbn : bestAtN g grads c t node n = (decide (n.f = x.f) && decide (n.c = cutAt g x.f x.b)) := by unfold bestAtN; rw [hp]
      rw [hga] at hp
      obtain ⟨f, k, hf, hk, hxe⟩ := partL_in hp
      obtain ⟨g1, _⟩ := grid_at hT0.1 hf
      obtain ⟨cv, hcv⟩ := get_lt hk
      have hcut : cutAt g (f : Int) (k : Int) = cv := by unfold cutAt; rw [Int.toNat_natCast, Int.toNat_natCast, hcv]; rfl
      obtain ⟨xf, xb, xl, xr⟩ := x
      obtain rfl : xf = (f : Int) := congrArg Cd.f hxe
      obtain rfl : xb = (k : Int) := congrArg Cd.b hxe
      have hbn' : bestAtN g grads c t node n = (decide (n.f = (f : Int)) && decide (n.c = cv)) := by rw [hbn, ← hcut]
      rw [hbn', show bestR (some ⟨(f : Int), (k : Int), xl, xr⟩) = (⟨(f : Int), (k : Int), xl, xr⟩, true) from rfl]
      clear hxe hp hbn hbn' hga
      (conv => whnf)
      refine tri_rp 0 ?_
      (conv => whnf)
      refine tri_conf hT hmix (by kernel_rfl) ?_
      (conv => whnf)
      cases q1 : iEq n.f (f : Int) <;> simp only [nInt_eq, Int.natCast_zero, dLen_eL, sLen_eq, nOf_eq, Int.toNat_natCast, nAdd_eq, nSub_eq, dLen_nil, dLen_cons, iLt_t, iLt_f, iLe_t, iLe_f, iEq_t, iEq_f, sEq_t, sEq_f, bNot_t, bNot_f, bAnd_t, bEq_t, bEq_f, Bool.not_eq_true, Bool.not_eq_false, Bool.true_eq_false, Bool.false_eq_true] at q1 <;> (conv => whnf)
      · repeat' (first | (refine And.intro (fun q => ?_) (fun q => ?_) <;> cases q <;> (conv => whnf)) | fail)
        rw [decide_eq_false q1]; rfl
      · repeat' (first | (refine And.intro (fun q => ?_) (fun q => ?_) <;> cases q <;> (conv => whnf)) | fail)
        refine idx_at (by simp) g1 ?_
        (conv => whnf)
        repeat' (first | (refine And.intro (fun q => ?_) (fun q => ?_) <;> cases q <;> (conv => whnf)) | fail)
        refine idx_at (by simp) hcv ?_
        (conv => whnf)
        repeat' (first | (refine And.intro (fun q => ?_) (fun q => ?_) <;> cases q <;> (conv => whnf)) | fail)
        rw [decide_eq_true q1]; rfl
    | none =>
      (conv => whnf)
      have hbn : bestAtN g grads c t node n = (decide (n.f = -1) && decide (n.v = leafV (nodeRowsL g t node).length (sumR grads (nodeRowsL g t node)) c.lambda (boundL g grads c t node))) := by unfold bestAtN; rw [hp]
      have hsm := sumR_in hT0.2.2.2 (nodeRowsL g t node)
      rw [hbn]
      refine tri_every hT hmix [13, 17] { t := [(13, .c (.d (.rp (cN n)))), (17, ai (leafV (nodeRowsL g t node).length (sumR grads (nodeRowsL g t node)) c.lambda (boundL g grads c t node)))], h := [], n := 0, N := 93 } rfl ?_ ?_
      · repeat' first
          | (refine anyV_one rfl ?_; (conv => whnf))
          | (refine anyV_two rfl ?_ ?_ <;> (conv => whnf))
          | (refine anyV_three rfl ?_ ?_ ?_ <;> (conv => whnf))
          | (refine .inl ⟨_, _, _, impl_slotOf_spec grads (nodeRowsL g t node) hT0.2.2.2 hla.1 (fun r h => by have := hla.2 r h; omega), rfl, ?_⟩; (conv => whnf))
          | (refine .inl ⟨_, _, _, impl_LeafOf_spec _ _ c.lambda _ (by omega) hT0.2.1.lam (by omega) hbp, rfl, ?_⟩; (conv => whnf))
          | (refine anyV_end rfl ?_; (conv => whnf); first | done | rfl)
      (conv => whnf)
      refine .inl ⟨_, _, _, impl_isLeaf_spec n, rfl, ?_⟩
      (conv => whnf)
      cases g1 : iEq n.f (-1) <;> simp only [nInt_eq, Int.natCast_zero, dLen_eL, sLen_eq, nOf_eq, Int.toNat_natCast, nAdd_eq, nSub_eq, dLen_nil, dLen_cons, iLt_t, iLt_f, iLe_t, iLe_f, iEq_t, iEq_f, sEq_t, sEq_f, bNot_t, bNot_f, bAnd_t, bEq_t, bEq_f, Bool.not_eq_true, Bool.not_eq_false, Bool.true_eq_false, Bool.false_eq_true] at g1 <;> (conv => whnf)
      · rw [decide_eq_false g1]; rfl
      · rw [decide_eq_true g1]; rfl
  · have hp : growAt g grads c t node = none := by unfold growAt; rw [level_len, if_neg (by omega)]
    have hbn : bestAtN g grads c t node n = (decide (n.f = -1) && decide (n.v = leafV (nodeRowsL g t node).length (sumR grads (nodeRowsL g t node)) c.lambda (boundL g grads c t node))) := by unfold bestAtN; rw [hp]
    have hsm := sumR_in hT0.2.2.2 (nodeRowsL g t node)
    rw [hbn]
    refine tri_every hT hmix [13, 17] { t := [(13, .c (.d (.rp (cN n)))), (17, ai (leafV (nodeRowsL g t node).length (sumR grads (nodeRowsL g t node)) c.lambda (boundL g grads c t node)))], h := [], n := 0, N := 93 } rfl ?_ ?_
    · repeat' first
        | (refine anyV_one rfl ?_; (conv => whnf))
        | (refine anyV_two rfl ?_ ?_ <;> (conv => whnf))
        | (refine anyV_three rfl ?_ ?_ ?_ <;> (conv => whnf))
        | (refine .inl ⟨_, _, _, impl_slotOf_spec grads (nodeRowsL g t node) hT0.2.2.2 hla.1 (fun r h => by have := hla.2 r h; omega), rfl, ?_⟩; (conv => whnf))
        | (refine .inl ⟨_, _, _, impl_LeafOf_spec _ _ c.lambda _ (by omega) hT0.2.1.lam (by omega) hbp, rfl, ?_⟩; (conv => whnf))
        | (refine anyV_end rfl ?_; (conv => whnf); first | done | rfl)
    (conv => whnf)
    refine .inl ⟨_, _, _, impl_isLeaf_spec n, rfl, ?_⟩
    (conv => whnf)
    cases g1 : iEq n.f (-1) <;> simp only [nInt_eq, Int.natCast_zero, dLen_eL, sLen_eq, nOf_eq, Int.toNat_natCast, nAdd_eq, nSub_eq, dLen_nil, dLen_cons, iLt_t, iLt_f, iLe_t, iLe_f, iEq_t, iEq_f, sEq_t, sEq_f, bNot_t, bNot_f, bAnd_t, bEq_t, bEq_f, Bool.not_eq_true, Bool.not_eq_false, Bool.true_eq_false, Bool.false_eq_true] at g1 <;> (conv => whnf)
    · rw [decide_eq_false g1]; rfl
    · rw [decide_eq_true g1]; rfl

theorem spec_BestAt_spec (g : Grd) (grads : List Int) (c : Cfg) (t : List Nd) (node : Int) (hg : smG g) (hr : grads.length ≤ 1048576) (hc : c.signs.length ≤ 1048576) (hl : t.length ≤ 1048576) : FnSpec PR f_spec_BestAt [aG g, aIs grads, aCf c, aT t, ai node] (ab (bestAt g grads c t node)) [] 0 := by
  refine FnSpec.intro hT p_spec_BestAt rfl (by kernel_rfl) n_spec_BestAt rfl ?_
  conv => whnf
  refine .inl ⟨_, _, _, spec_BoundAt_spec g grads c t node hg hr hc hl, rfl, ?_⟩
  cases hb : (boundAt g grads c t node).2 with
  | false =>
    have hbe : bestAt g grads c t node = false := by unfold bestAt; rw [hb]
    obtain ⟨B, k⟩ : ∃ B, boundAt g grads c t node = (B, false) := ⟨(boundAt g grads c t node).1, by rw [← hb]⟩
    rw [k, hbe]
    (conv => whnf)
  | true =>
  obtain ⟨hT0, hG0, hO0, hn, hB, hR⟩ := bound_told hb
  obtain ⟨n, hnd⟩ := get_lt (show node.toNat < t.length by omega)
  have hbe : bestAt g grads c t node = bestAtN g grads c t node n := by unfold bestAt; rw [hb, hnd]
  have hbp := boundL_p g grads c t node
  have hla := nodeRowsL_ok hT0.1 t node
  have hgl : grads.length = rowsIn g := hT0.2.2.1
  rw [hB, hbe]
  (conv => whnf)
  refine .inl ⟨_, _, _, spec_NodeRows_spec g t node hg hl, rfl, ?_⟩
  rw [hR]
  (conv => whnf)
  refine idx_at (k := node.toNat) (by omega) hnd ?_
  (conv => whnf)
  have hpc := spec_PartOf_spec g grads c _ _ hg hT0 (node_rows hT0.1 t node) hbp
  cases hP : partL g grads c (nodeRowsL g t node) (boundL g grads c t node) with
  | none =>
    have hp : growAt g grads c t node = none := by unfold growAt; rw [hP]; split <;> rfl
    rw [hP, show bestR none = (noCd, false) from rfl] at hpc
    refine .inl ⟨_, _, _, hpc, rfl, ?_⟩
    (conv => whnf)
    refine tri_rp 0 ?_
    (conv => whnf)
    refine tri_rp 1 ?_
    (conv => whnf)
    refine tri_rp 2 ?_
    (conv => whnf)
    refine tri_rp 3 ?_
    (conv => whnf)
    refine tri_rp 5 ?_
    (conv => whnf)
    refine tri_rp 6 ?_
    (conv => whnf)
    refine tri_conf hT hmix (by kernel_rfl) ?_
    (conv => whnf)
    refine ⟨_, _, spec_LevelOf_spec t node (by omega), rfl, ?_⟩
    (conv => whnf)
    cases h1 : iLt (levelL t node) c.depth <;> (conv => whnf)
    all_goals repeat' (first | (refine And.intro (fun q => ?_) (fun q => ?_) <;> cases q <;> (conv => whnf)) | fail)
    all_goals clear hpc
    · have hbn : bestAtN g grads c t node n = (decide (n.f = -1) && decide (n.v = leafV (nodeRowsL g t node).length (sumR grads (nodeRowsL g t node)) c.lambda (boundL g grads c t node))) := by unfold bestAtN; rw [hp]
      have hsm := sumR_in hT0.2.2.2 (nodeRowsL g t node)
      rw [hbn]
      refine tri_every hT hmix [14, 17] { t := [(14, .c (.d (.rp (cN n)))), (17, ai (leafV (nodeRowsL g t node).length (sumR grads (nodeRowsL g t node)) c.lambda (boundL g grads c t node)))], h := [], n := 0, N := 96 } rfl ?_ ?_
      · repeat' first
          | (refine anyV_one rfl ?_; (conv => whnf))
          | (refine anyV_two rfl ?_ ?_ <;> (conv => whnf))
          | (refine anyV_three rfl ?_ ?_ ?_ <;> (conv => whnf))
          | (refine .inl ⟨_, _, _, spec_l19Sum_spec grads (nodeRowsL g t node) hT0.2.2.2 hla.1 (fun r h => by have := hla.2 r h; omega), rfl, ?_⟩; (conv => whnf))
          | (refine .inl ⟨_, _, _, spec_LeafOf_spec _ _ c.lambda _ (by omega) hT0.2.1.lam (by omega) hbp, rfl, ?_⟩; (conv => whnf))
          | (refine anyV_end rfl ?_; (conv => whnf); first | done | rfl)
      (conv => whnf)
      refine .inl ⟨_, _, _, spec_l17Inner_spec n, rfl, ?_⟩
      (conv => whnf)
      cases g1 : iEq n.f (-1) <;> simp only [nInt_eq, Int.natCast_zero, dLen_eL, sLen_eq, nOf_eq, Int.toNat_natCast, nAdd_eq, nSub_eq, dLen_nil, dLen_cons, iLt_t, iLt_f, iLe_t, iLe_f, iEq_t, iEq_f, sEq_t, sEq_f, bNot_t, bNot_f, bAnd_t, bEq_t, bEq_f, Bool.not_eq_true, Bool.not_eq_false, Bool.true_eq_false, Bool.false_eq_true] at g1 <;> (conv => whnf)
      · rw [decide_eq_false g1]; rfl
      · rw [decide_eq_true g1]; rfl
    · have hbn : bestAtN g grads c t node n = (decide (n.f = -1) && decide (n.v = leafV (nodeRowsL g t node).length (sumR grads (nodeRowsL g t node)) c.lambda (boundL g grads c t node))) := by unfold bestAtN; rw [hp]
      have hsm := sumR_in hT0.2.2.2 (nodeRowsL g t node)
      rw [hbn]
      refine tri_every hT hmix [14, 17] { t := [(14, .c (.d (.rp (cN n)))), (17, ai (leafV (nodeRowsL g t node).length (sumR grads (nodeRowsL g t node)) c.lambda (boundL g grads c t node)))], h := [], n := 0, N := 96 } rfl ?_ ?_
      · repeat' first
          | (refine anyV_one rfl ?_; (conv => whnf))
          | (refine anyV_two rfl ?_ ?_ <;> (conv => whnf))
          | (refine anyV_three rfl ?_ ?_ ?_ <;> (conv => whnf))
          | (refine .inl ⟨_, _, _, spec_l19Sum_spec grads (nodeRowsL g t node) hT0.2.2.2 hla.1 (fun r h => by have := hla.2 r h; omega), rfl, ?_⟩; (conv => whnf))
          | (refine .inl ⟨_, _, _, spec_LeafOf_spec _ _ c.lambda _ (by omega) hT0.2.1.lam (by omega) hbp, rfl, ?_⟩; (conv => whnf))
          | (refine anyV_end rfl ?_; (conv => whnf); first | done | rfl)
      (conv => whnf)
      refine .inl ⟨_, _, _, spec_l17Inner_spec n, rfl, ?_⟩
      (conv => whnf)
      cases g1 : iEq n.f (-1) <;> simp only [nInt_eq, Int.natCast_zero, dLen_eL, sLen_eq, nOf_eq, Int.toNat_natCast, nAdd_eq, nSub_eq, dLen_nil, dLen_cons, iLt_t, iLt_f, iLe_t, iLe_f, iEq_t, iEq_f, sEq_t, sEq_f, bNot_t, bNot_f, bAnd_t, bEq_t, bEq_f, Bool.not_eq_true, Bool.not_eq_false, Bool.true_eq_false, Bool.false_eq_true] at g1 <;> (conv => whnf)
      · rw [decide_eq_false g1]; rfl
      · rw [decide_eq_true g1]; rfl
  | some x =>
    obtain ⟨f, k, hf, hk, hxe⟩ := partL_in hP
    obtain ⟨g1, _⟩ := grid_at hT0.1 hf
    obtain ⟨cv, hcv⟩ := get_lt hk
    have hcut : cutAt g (f : Int) (k : Int) = cv := by unfold cutAt; rw [Int.toNat_natCast, Int.toNat_natCast, hcv]; rfl
    obtain ⟨xf, xb, xl, xr⟩ := x
    obtain rfl : xf = (f : Int) := congrArg Cd.f hxe
    obtain rfl : xb = (k : Int) := congrArg Cd.b hxe
    have hga : ∀ b, iLt (levelL t node) c.depth = b → growAt g grads c t node = if b then some ⟨(f : Int), (k : Int), xl, xr⟩ else none := fun b hb => by
      unfold growAt
      rw [hP]
      cases b
      · rw [if_neg (by simpa using hb)]; rfl
      · rw [if_pos (by simpa using hb)]; rfl
    rw [hP, show bestR (some ⟨(f : Int), (k : Int), xl, xr⟩) = (⟨(f : Int), (k : Int), xl, xr⟩, true) from rfl] at hpc
    clear hxe hP
    refine .inl ⟨_, _, _, hpc, rfl, ?_⟩
    clear hpc
    (conv => whnf)
    refine tri_rp 0 ?_
    (conv => whnf)
    refine tri_rp 1 ?_
    (conv => whnf)
    refine tri_rp 2 ?_
    (conv => whnf)
    refine tri_rp 3 ?_
    (conv => whnf)
    refine tri_rp 5 ?_
    (conv => whnf)
    refine tri_rp 6 ?_
    (conv => whnf)
    refine tri_conf hT hmix (by kernel_rfl) ?_
    (conv => whnf)
    refine ⟨_, _, spec_LevelOf_spec t node (by omega), rfl, ?_⟩
    (conv => whnf)
    cases h1 : iLt (levelL t node) c.depth <;> (conv => whnf)
    all_goals repeat' (first | (refine And.intro (fun q => ?_) (fun q => ?_) <;> cases q <;> (conv => whnf)) | fail)
    · have hp : growAt g grads c t node = none := hga _ h1
      have hbn : bestAtN g grads c t node n = (decide (n.f = -1) && decide (n.v = leafV (nodeRowsL g t node).length (sumR grads (nodeRowsL g t node)) c.lambda (boundL g grads c t node))) := by unfold bestAtN; rw [hp]
      have hsm := sumR_in hT0.2.2.2 (nodeRowsL g t node)
      rw [hbn]
      refine tri_every hT hmix [14, 17] { t := [(14, .c (.d (.rp (cN n)))), (17, ai (leafV (nodeRowsL g t node).length (sumR grads (nodeRowsL g t node)) c.lambda (boundL g grads c t node)))], h := [], n := 0, N := 96 } rfl ?_ ?_
      · repeat' first
          | (refine anyV_one rfl ?_; (conv => whnf))
          | (refine anyV_two rfl ?_ ?_ <;> (conv => whnf))
          | (refine anyV_three rfl ?_ ?_ ?_ <;> (conv => whnf))
          | (refine .inl ⟨_, _, _, spec_l19Sum_spec grads (nodeRowsL g t node) hT0.2.2.2 hla.1 (fun r h => by have := hla.2 r h; omega), rfl, ?_⟩; (conv => whnf))
          | (refine .inl ⟨_, _, _, spec_LeafOf_spec _ _ c.lambda _ (by omega) hT0.2.1.lam (by omega) hbp, rfl, ?_⟩; (conv => whnf))
          | (refine anyV_end rfl ?_; (conv => whnf); first | done | rfl)
      (conv => whnf)
      refine .inl ⟨_, _, _, spec_l17Inner_spec n, rfl, ?_⟩
      (conv => whnf)
      cases g1 : iEq n.f (-1) <;> simp only [nInt_eq, Int.natCast_zero, dLen_eL, sLen_eq, nOf_eq, Int.toNat_natCast, nAdd_eq, nSub_eq, dLen_nil, dLen_cons, iLt_t, iLt_f, iLe_t, iLe_f, iEq_t, iEq_f, sEq_t, sEq_f, bNot_t, bNot_f, bAnd_t, bEq_t, bEq_f, Bool.not_eq_true, Bool.not_eq_false, Bool.true_eq_false, Bool.false_eq_true] at g1 <;> (conv => whnf)
      · rw [decide_eq_false g1]; rfl
      · rw [decide_eq_true g1]; rfl
    · have hp : growAt g grads c t node = some ⟨(f : Int), (k : Int), xl, xr⟩ := hga _ h1
      have hbn : bestAtN g grads c t node n = (decide (n.f = (f : Int)) && decide (n.c = cv)) := by unfold bestAtN; rw [hp]; dsimp only; rw [hcut]
      rw [hbn]
      refine tri_conf hT hmix (by kernel_rfl) ?_
      (conv => whnf)
      cases q1 : iEq n.f (f : Int) <;> simp only [nInt_eq, Int.natCast_zero, dLen_eL, sLen_eq, nOf_eq, Int.toNat_natCast, nAdd_eq, nSub_eq, dLen_nil, dLen_cons, iLt_t, iLt_f, iLe_t, iLe_f, iEq_t, iEq_f, sEq_t, sEq_f, bNot_t, bNot_f, bAnd_t, bEq_t, bEq_f, Bool.not_eq_true, Bool.not_eq_false, Bool.true_eq_false, Bool.false_eq_true] at q1 <;> (conv => whnf)
      · repeat' (first | (refine And.intro (fun q => ?_) (fun q => ?_) <;> cases q <;> (conv => whnf)) | fail)
        rw [decide_eq_false q1]; rfl
      · repeat' (first | (refine And.intro (fun q => ?_) (fun q => ?_) <;> cases q <;> (conv => whnf)) | fail)
        refine idx_at (by simp) g1 ?_
        (conv => whnf)
        repeat' (first | (refine And.intro (fun q => ?_) (fun q => ?_) <;> cases q <;> (conv => whnf)) | fail)
        refine idx_at (by simp) hcv ?_
        (conv => whnf)
        repeat' (first | (refine And.intro (fun q => ?_) (fun q => ?_) <;> cases q <;> (conv => whnf)) | fail)
        rw [decide_eq_true q1]; rfl

noncomputable def allBest (g : Grd) (grads : List Int) (c : Cfg) (t : List Nd) : Bool := treeOk t g.cuts.length && (List.range t.length).all fun (k : Nat) => bestAt g grads c t k
theorem allBest_no {g : Grd} {grads : List Int} {c : Cfg} {t : List Nd} {k : Nat} (hk : k < t.length) (h : bestAt g grads c t k = false) : allBest g grads c t = false := by
  unfold allBest
  rw [Bool.and_eq_false_iff]
  right
  rw [List.all_eq_false]
  exact ⟨k, List.mem_range.2 hk, by rw [h]; decide⟩
theorem allBest_yes {g : Grd} {grads : List Int} {c : Cfg} {t : List Nd} (ho : treeOk t g.cuts.length = true) (h : ∀ k, k < t.length → bestAt g grads c t (k : Nat) = true) : allBest g grads c t = true := by
  unfold allBest
  rw [ho, Bool.true_and, List.all_eq_true]
  exact fun k hk => h k (List.mem_range.1 hk)

theorem impl_AllBest_spec (g : Grd) (grads : List Int) (c : Cfg) (t : List Nd) (hg : smG g) (hr : grads.length ≤ 1048576) (hc : c.signs.length ≤ 1048576) (hl : t.length ≤ 1048576) : FnSpec PR f_impl_AllBest [aG g, aIs grads, aCf c, aT t] (ab (allBest g grads c t)) [] 0 := by
  have e0 : nInt (dLen (eL cIs g.cuts)) = (g.cuts.length : Int) := by simp
  refine FnSpec.intro hT p_impl_AllBest rfl (by kernel_rfl) n_impl_AllBest rfl ?_
  conv => whnf
  rw [e0]
  refine .inl ⟨_, _, _, impl_TreeOk_spec t g.cuts.length hl, rfl, ?_⟩
  cases ho : treeOk t g.cuts.length
  · (conv => whnf)
    rw [show allBest g grads c t = false by unfold allBest; rw [ho]; rfl]
  (conv => whnf)
  refine tri_rp 0 ?_
  (conv => whnf)
  refine tri_rp 1 ?_
  (conv => whnf)
  refine tri_rp 2 ?_
  (conv => whnf)
  refine tri_loop hT [1, 4, 6, 7, 18, 19] (α := Nat) (fun k => { t := [(1, aIs grads), (4, rpG g), (6, rpCf c), (7, rpT t), (18, ai t.length), (19, ai k)], h := [], n := 0, N := 30 })
    (fun k => k ≤ t.length ∧ ∀ j, j < k → bestAt g grads c t (j : Nat) = true) (fun k => t.length - k) 0 (by ((conv => whnf); simp only [St.mk.injEq, List.cons.injEq, Prod.mk.injEq, AV.c.injEq, AV.agg.injEq, AV.tup.injEq, CV.d.injEq, D.int.injEq, D.bool.injEq, D.str.injEq, D.sl.injEq, Ent.arr.injEq, Ent.box.injEq, true_and, and_true, and_self, nInt_eq, Int.natCast_zero, dLen_eL, sLen_eq]); exact ⟨rfl, rfl, rfl⟩) ⟨Nat.zero_le _, fun j h => by omega⟩ ?_
  intro k ⟨hk, hb⟩
  (conv => whnf)
  refine ifB_i (fun h1 => ?_) (fun h1 => ?_) <;> (conv => whnf) <;> simp at h1
  · refine .inl ⟨_, _, _, impl_BestAt_spec g grads c t k hg hr hc hl, rfl, ?_⟩
    cases g1 : bestAt g grads c t (k : Nat)
    · (conv => whnf)
      rw [allBest_no h1 g1]
    · (conv => whnf)
      refine ⟨k + 1, by omega, ⟨by omega, fun j hj => ?_⟩, ?_⟩
      · rcases Nat.lt_or_ge j k with q | q
        · exact hb j q
        · obtain rfl : j = k := by omega
          exact g1
      ((conv => whnf); simp only [St.mk.injEq, List.cons.injEq, Prod.mk.injEq, AV.c.injEq, AV.agg.injEq, AV.tup.injEq, CV.d.injEq, D.int.injEq, D.bool.injEq, D.str.injEq, D.sl.injEq, Ent.arr.injEq, Ent.box.injEq, true_and, and_true, and_self, nInt_eq, Int.natCast_zero, dLen_eL, sLen_eq, wI h1 (by omega)])
  · obtain rfl : k = t.length := by omega
    rw [allBest_yes ho hb]

theorem spec_AllBest_spec (g : Grd) (grads : List Int) (c : Cfg) (t : List Nd) (hg : smG g) (hr : grads.length ≤ 1048576) (hc : c.signs.length ≤ 1048576) (hl : t.length ≤ 1048576) : FnSpec PR f_spec_AllBest [aG g, aIs grads, aCf c, aT t] (ab (allBest g grads c t)) [] 0 := by
  have e0 : nInt (dLen (eL cIs g.cuts)) = (g.cuts.length : Int) := by simp
  refine FnSpec.intro hT p_spec_AllBest rfl (by kernel_rfl) n_spec_AllBest rfl ?_
  conv => whnf
  rw [e0]
  refine .inl ⟨_, _, _, spec_TreeOk_spec t g.cuts.length hl, rfl, ?_⟩
  cases ho : treeOk t g.cuts.length
  · (conv => whnf)
    rw [show allBest g grads c t = false by unfold allBest; rw [ho]; rfl]
  (conv => whnf)
  refine tri_rp 0 ?_
  (conv => whnf)
  refine tri_rp 1 ?_
  (conv => whnf)
  refine tri_rp 2 ?_
  (conv => whnf)
  refine tri_loop hT [1, 4, 6, 7, 9] (α := Nat) (fun k => { t := [(1, aIs grads), (4, rpG g), (6, rpCf c), (7, rpT t), (9, ai k)], h := [], n := 0, N := 30 })
    (fun k => k ≤ t.length ∧ ∀ j, j < k → bestAt g grads c t (j : Nat) = true) (fun k => t.length - k) 0 (by first | ((conv => whnf); done) | ((conv => whnf); rfl)) ⟨Nat.zero_le _, fun j h => by omega⟩ ?_
  intro k ⟨hk, hb⟩
  (conv => whnf)
  rw [show nInt (dLen (eL cN t)) = (t.length : Int) by simp]
  refine ifB_i (fun h1 => ?_) (fun h1 => ?_) <;> (conv => whnf) <;> simp only [nInt_eq, Int.natCast_zero, dLen_eL, sLen_eq, nOf_eq, Int.toNat_natCast, nAdd_eq, nSub_eq, dLen_nil, dLen_cons, iLt_t, iLt_f, iLe_t, iLe_f, iEq_t, iEq_f, sEq_t, sEq_f, bNot_t, bNot_f, bAnd_t, bEq_t, bEq_f, Bool.not_eq_true, Bool.not_eq_false, Bool.true_eq_false, Bool.false_eq_true] at h1
  · have h1' : k < t.length := by omega
    refine .inl ⟨_, _, _, spec_BestAt_spec g grads c t k hg hr hc hl, rfl, ?_⟩
    cases g1 : bestAt g grads c t (k : Nat)
    · (conv => whnf)
      rw [allBest_no h1' g1]
    · (conv => whnf)
      refine ⟨k + 1, by omega, ⟨by omega, fun j hj => ?_⟩, ?_⟩
      · rcases Nat.lt_or_ge j k with q | q
        · exact hb j q
        · obtain rfl : j = k := by omega
          exact g1
      ((conv => whnf); simp only [St.mk.injEq, List.cons.injEq, Prod.mk.injEq, AV.c.injEq, AV.agg.injEq, AV.tup.injEq, CV.d.injEq, D.int.injEq, D.bool.injEq, D.str.injEq, D.sl.injEq, Ent.arr.injEq, Ent.box.injEq, true_and, and_true, and_self, nInt_eq, Int.natCast_zero, dLen_eL, sLen_eq, wI h1' (by omega)])
  · obtain rfl : k = t.length := by omega
    rw [allBest_yes ho hb]
end Go.H.S
namespace Go.H.S
open Go Go.Proofs Go.H
attribute [local irreducible] Tri FnSpec FnSpecM FnSpecX FnSpecJ
set_option maxRecDepth 100000
set_option linter.unusedSimpArgs false
set_option linter.unusedVariables false


theorem grid_small {g : Grd} (h : costGrid g ≤ 1048576) : smGrid g ∧ smG g := by
  unfold costGrid at h
  have h1 := cost_len List.length g.cuts
  have h2 := cost_len List.length g.bins
  have h5 := cost_costL List.length g.cuts
  have h6 := cost_costL List.length g.bins
  have h3 : ∀ c ∈ g.cuts, c.length ≤ 1048576 := fun c hc => by have := costL_mem List.length hc; omega
  have h4 : ∀ c ∈ g.bins, c.length ≤ 1048576 := fun c hc => by have := costL_mem List.length hc; omega
  exact ⟨⟨⟨by omega, fun c hc => by have := h3 c hc; omega⟩, by omega, fun c hc => by have := h4 c hc; omega⟩, by omega, by omega, h3, h4⟩
end Go.H.S
