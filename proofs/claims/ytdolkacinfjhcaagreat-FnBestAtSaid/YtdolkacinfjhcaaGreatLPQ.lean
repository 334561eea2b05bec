/- Library, part PN: is a node what would be grown there: contracts. -/
import Derived.Test.YtdolkacinfjhcaaGreatLPM
import Derived.Test.YtdolkacinfjhcaaGreatLNL
set_option maxRecDepth 100000
set_option linter.unusedSimpArgs false
set_option linter.unusedVariables false
namespace Go.H.S
open Go Go.Proofs Go.H
attribute [local irreducible] Tri FnSpec FnSpecM FnSpecX FnSpecJ FnSpecB hiU loU
theorem level_len (t : List Nd) (node : Int) : levelL t node = ((wayL t node).length : Int) - 1 := by
 unfold levelL lvl wayL
 split
 ·split
  ·simp
  ·rfl
 ·rfl
theorem bStep_p {g : Grd} {grads : List Int} {c : Cfg} {t : List Nd} {b : Int × Int} {z z' : Int} (hb : boundP b) : boundP (bStep g grads c t b z z') := by
 unfold bStep
 split
 ·exact hb
 ·rename_i n _
  have := sidesL_ok (sign := signFor c n.f) (p := leafAt g grads c t b n.l) (q := leafAt g grads c t b n.r) hb
  split
  ·exact this.1
  ·exact this.2
theorem bWay_p {g : Grd} {grads : List Int} {c : Cfg} {t : List Nd} : ∀ (w : List Int) (b : Int × Int), boundP b → boundP (bWay g grads c t b w)
 | [], b, hb => by unfold bWay; exact hb
 | [z], b, hb => by unfold bWay; exact hb
 | z :: z' :: r, b, hb => by unfold bWay; exact bWay_p (z' :: r) _ (bStep_p hb)
def boundL (g : Grd) (grads : List Int) (c : Cfg) (t : List Nd) (node : Int) : Int × Int := bWay g grads c t freeB (wayL t node)
theorem boundL_p (g : Grd) (grads : List Int) (c : Cfg) (t : List Nd) (node : Int) : boundP (boundL g grads c t node) := bWay_p _ _ (by unfold boundP; decide)
def cutAt (g : Grd) (f b : Int) : Int := ((cutsF g f.toNat)[b.toNat]?).getD 0
def growAt (g : Grd) (grads : List Int) (c : Cfg) (t : List Nd) (node : Int) : Option Cd :=
 if levelL t node < c.depth then partL g grads c (nodeRowsL g t node) (boundL g grads c t node) else none
def bestAtN (g : Grd) (grads : List Int) (c : Cfg) (t : List Nd) (node : Int) (n : Nd) : Bool :=
 match growAt g grads c t node with
 | some x => decide (n.f = x.f) && decide (n.c = cutAt g x.f x.b)
 | none => decide (n.f = -1) && decide (n.v = leafV (nodeRowsL g t node).length (sumR grads (nodeRowsL g t node)) c.lambda (boundL g grads c t node))
noncomputable def bestAt (g : Grd) (grads : List Int) (c : Cfg) (t : List Nd) (node : Int) : Bool :=
 match (boundAt g grads c t node).2, t[node.toNat]? with
 | true, some n => bestAtN g grads c t node n
 | _, _ => false
theorem bound_told {g : Grd} {grads : List Int} {c : Cfg} {t : List Nd} {node : Int} (h : (boundAt g grads c t node).2 = true) : taskP g grads c ∧ gridOk g = true ∧ treeOk t g.cuts.length = true ∧ (0 ≤ node ∧ node < (t.length : Int)) ∧ boundAt g grads c t node = (boundL g grads c t node, true) ∧ nodeRowsR g t node = nodeRowsL g t node := by
 by_cases q : taskOk g grads c = true ∧ nodeRowsR g t node ≠ []
 ·have q2 : gridOk g = true ∧ treeOk t g.cuts.length = true ∧ 0 ≤ node ∧ node ≤ (t.length : Int) - 1 := by
   by_cases q3 : gridOk g = true ∧ treeOk t g.cuts.length = true ∧ 0 ≤ node ∧ node ≤ (t.length : Int) - 1
   ·exact q3
   ·exact absurd (nodeRowsR_no q3) q.2
  exact ⟨taskOk_iff.1 q.1, q2.1, q2.2.1, ⟨q2.2.2.1, by omega⟩, boundAt_yes q, nodeRowsR_yes q2⟩
 ·rw [boundAt_no q] at h; cases h
theorem node_rows {g : Grd} (hG : gridP g) (t : List Nd) (x : Int) : rowsP g (nodeRowsL g t x) := ⟨(nodeRowsL_ok hG t x).1, (nodeRowsL_ok hG t x).2⟩
theorem partL_in {g : Grd} {grads : List Int} {c : Cfg} {rows : List Int} {b : Int × Int} {x : Cd} (h : partL g grads c rows b = some x) : ∃ f k : Nat, f < g.cuts.length ∧ k < (cutsF g f).length ∧ x = candAt g grads rows f k := by
 obtain ⟨f, k, h1, h2, h3, _⟩ := candL_mem (bestL_mem h).1
 exact ⟨f, k, h1, h2, h3⟩
theorem impl_BestAt_spec (g : Grd) (grads : List Int) (c : Cfg) (t : List Nd) (node : Int) (hg : smG g) (hr : grads.length ≤ 1048576) (hc : c.signs.length ≤ 1048576) (hl : t.length ≤ 1048576) : FnSpec PR f_impl_BestAt [aG g, aIs grads, aCf c, aT t, ai node] (ab (bestAt g grads c t node)) [] 0 := by
 refine FnSpec.intro hT (pf Tryz.func22) rfl (by kernel_rfl) Tryz.ntmps22 rfl ?_
 conv => whnf
 refine .inl ⟨_, _, _, impl_BoundAt_spec g grads c t node hg hr hc hl, rfl, ?_⟩
 cases hb : (boundAt g grads c t node).2 with
 | false =>
  have hbe : bestAt g grads c t node = false := by unfold bestAt; rw [hb]
  obtain ⟨B, k⟩ : ∃ B, boundAt g grads c t node = (B, false) := ⟨(boundAt g grads c t node).1, by rw [← hb]⟩
  rw [k, hbe]
  conv => whnf
 | true =>
 obtain ⟨hT0, hG0, hO0, hn, hB, hR⟩ := bound_told hb
 obtain ⟨n, hnd⟩ := get_lt (show node.toNat < t.length by omega)
 have hbe : bestAt g grads c t node = bestAtN g grads c t node n := by unfold bestAt; rw [hb, hnd]
 have hbp := boundL_p g grads c t node
 have hla := nodeRowsL_ok hT0.1 t node
 have hgl : grads.length = rowsIn g := hT0.2.2.1
 rw [hB, hbe]
 conv => whnf
 refine tri_rp 0 ?_
 conv => whnf
 refine tri_rp 1 ?_
 conv => whnf
 refine tri_rp 2 ?_
 conv => whnf
 refine tri_rp 3 ?_
 conv => whnf
 refine tri_every hT hmix [1, 4, 5, 7, 8, 11, 13, 14] { t := [(1, aIs grads), (4, ai node), (5, rpG g), (7, rpC c), (8, rpT t), (11, rpB (boundL g grads c t node)), (13, .c (.ptr 0 0)), (14, aIs (nodeRowsL g t node))], h := [(0, .box t_impl_Node (cNd n))], n := 1, N := 93 } rfl ?_ ?_
 ·repeat' first
   | (refine anyV_one rfl ?_; (conv => whnf))
   | (refine anyV_two rfl ?_ ?_ <;> (conv => whnf))
   | (refine anyV_three rfl ?_ ?_ ?_ <;> (conv => whnf))
   | (refine anyV_four rfl ?_ ?_ ?_ ?_ <;> (conv => whnf))
   | (refine idx_at (k := node.toNat) (by omega) hnd ?_; (conv => whnf))
   | (refine .inl ⟨_, _, _, impl_nodeRows_spec g t node hg hl hG0 hO0, rfl, ?_⟩; (conv => whnf))
   | (refine anyV_end rfl ?_; (conv => whnf); first | done | rfl | (simp only [partOf_none]; done) | (simp only [partOf_none]; rfl))
 conv => whnf
 refine tri_rp 0 ?_
 conv => whnf
 refine tri_every hT hmix [1, 4, 5, 7, 8, 11, 13, 14, 44] { t := [(1, aIs grads), (4, ai node), (5, rpG g), (7, rpC c), (8, rpT t), (11, rpB (boundL g grads c t node)), (13, .c (.d (.rp (cN n)))), (14, aIs (nodeRowsL g t node)), (44, ab (iLt (((wayL t node).length : Int) - 1) c.depth))], h := [], n := 0, N := 93 } rfl ?_ ?_
 ·repeat' first
   | (refine anyV_one rfl ?_; (conv => whnf))
   | (refine anyV_two rfl ?_ ?_ <;> (conv => whnf))
   | (refine anyV_three rfl ?_ ?_ ?_ <;> (conv => whnf))
   | (refine .inl ⟨_, _, _, impl_LevelOf_spec t node (by omega), rfl, ?_⟩; (conv => whnf))
   | (refine anyV_end rfl ?_; (conv => whnf); first | done | rfl)
 conv => whnf
 refine ifB_i (fun h1 => ?_) (fun h1 => ?_) <;> (conv => whnf) <;> simp only [eH] at h1
 ·have hga : growAt g grads c t node = partL g grads c (nodeRowsL g t node) (boundL g grads c t node) := by
   unfold growAt; rw [level_len, if_pos h1]
  refine .inl ⟨_, _, _, impl_PartOf_spec g grads c _ _ hg hT0 (node_rows hT0.1 t node) hbp, rfl, ?_⟩
  rw [← hga]
  cases hp : growAt g grads c t node with
  | some x =>
   have hbn : bestAtN g grads c t node n = (decide (n.f = x.f) && decide (n.c = cutAt g x.f x.b)) := by unfold bestAtN; rw [hp]
   rw [hga] at hp
   obtain ⟨f, k, hf, hk, hxe⟩ := partL_in hp
   obtain ⟨g1, _⟩ := grid_at hT0.1 hf
   obtain ⟨cv, hcv⟩ := get_lt hk
   have hcut : cutAt g (f : Int) (k : Int) = cv := by unfold cutAt; rw [Int.toNat_natCast, Int.toNat_natCast, hcv]; rfl
   obtain ⟨xf, xb, xl, xr⟩ := x
   obtain rfl : xf = (f : Int) := congrArg Cd.f hxe
   obtain rfl : xb = (k : Int) := congrArg Cd.b hxe
   have hbn' : bestAtN g grads c t node n = (decide (n.f = (f : Int)) && decide (n.c = cv)) := by rw [hbn, ← hcut]
   rw [hbn', show bestR (some ⟨(f : Int), (k : Int), xl, xr⟩) = (⟨(f : Int), (k : Int), xl, xr⟩, true) from rfl]
   clear hxe hp hbn hbn' hga
   conv => whnf
   refine tri_rp 0 ?_
   conv => whnf
   refine tri_conf hT hmix (by kernel_rfl) ?_
   conv => whnf
   cases q1 : iEq n.f (f : Int) <;> simp only [eH] at q1 <;> (conv => whnf)
   ·repeat' (first | (refine And.intro (fun q => ?_) (fun q => ?_) <;> cases q <;> (conv => whnf)) | fail)
    rw [decide_eq_false q1]; rfl
   ·repeat' (first | (refine And.intro (fun q => ?_) (fun q => ?_) <;> cases q <;> (conv => whnf)) | fail)
    refine idx_at (by simp) g1 ?_
    conv => whnf
    repeat' (first | (refine And.intro (fun q => ?_) (fun q => ?_) <;> cases q <;> (conv => whnf)) | fail)
    refine idx_at (by simp) hcv ?_
    conv => whnf
    repeat' (first | (refine And.intro (fun q => ?_) (fun q => ?_) <;> cases q <;> (conv => whnf)) | fail)
    rw [decide_eq_true q1]; rfl
  | none =>
   conv => whnf
   have hbn : bestAtN g grads c t node n = (decide (n.f = -1) && decide (n.v = leafV (nodeRowsL g t node).length (sumR grads (nodeRowsL g t node)) c.lambda (boundL g grads c t node))) := by unfold bestAtN; rw [hp]
   have hsm := sumR_in hT0.2.2.2 (nodeRowsL g t node)
   rw [hbn]
   refine tri_every hT hmix [13, 17] { t := [(13, .c (.d (.rp (cN n)))), (17, ai (leafV (nodeRowsL g t node).length (sumR grads (nodeRowsL g t node)) c.lambda (boundL g grads c t node)))], h := [], n := 0, N := 93 } rfl ?_ ?_
   ·repeat' first
     | (refine anyV_one rfl ?_; (conv => whnf))
     | (refine anyV_two rfl ?_ ?_ <;> (conv => whnf))
     | (refine anyV_three rfl ?_ ?_ ?_ <;> (conv => whnf))
     | (refine .inl ⟨_, _, _, impl_slotOf_spec grads (nodeRowsL g t node) hT0.2.2.2 hla.1 (fun r h => by have := hla.2 r h; omega), rfl, ?_⟩; (conv => whnf))
     | (refine .inl ⟨_, _, _, impl_LeafOf_spec _ _ c.lambda _ (by omega) hT0.2.1.lam (by omega) hbp, rfl, ?_⟩; (conv => whnf))
     | (refine anyV_end rfl ?_; (conv => whnf); first | done | rfl)
   conv => whnf
   refine .inl ⟨_, _, _, impl_isLeaf_spec n, rfl, ?_⟩
   conv => whnf
   cases g1 : iEq n.f (-1) <;> simp only [eH] at g1 <;> (conv => whnf)
   ·rw [decide_eq_false g1]; rfl
   ·rw [decide_eq_true g1]; rfl
 ·have hp : growAt g grads c t node = none := by unfold growAt; rw [level_len, if_neg (by omega)]
  have hbn : bestAtN g grads c t node n = (decide (n.f = -1) && decide (n.v = leafV (nodeRowsL g t node).length (sumR grads (nodeRowsL g t node)) c.lambda (boundL g grads c t node))) := by unfold bestAtN; rw [hp]
  have hsm := sumR_in hT0.2.2.2 (nodeRowsL g t node)
  rw [hbn]
  refine tri_every hT hmix [13, 17] { t := [(13, .c (.d (.rp (cN n)))), (17, ai (leafV (nodeRowsL g t node).length (sumR grads (nodeRowsL g t node)) c.lambda (boundL g grads c t node)))], h := [], n := 0, N := 93 } rfl ?_ ?_
  ·repeat' first
    | (refine anyV_one rfl ?_; (conv => whnf))
    | (refine anyV_two rfl ?_ ?_ <;> (conv => whnf))
    | (refine anyV_three rfl ?_ ?_ ?_ <;> (conv => whnf))
    | (refine .inl ⟨_, _, _, impl_slotOf_spec grads (nodeRowsL g t node) hT0.2.2.2 hla.1 (fun r h => by have := hla.2 r h; omega), rfl, ?_⟩; (conv => whnf))
    | (refine .inl ⟨_, _, _, impl_LeafOf_spec _ _ c.lambda _ (by omega) hT0.2.1.lam (by omega) hbp, rfl, ?_⟩; (conv => whnf))
    | (refine anyV_end rfl ?_; (conv => whnf); first | done | rfl)
  conv => whnf
  refine .inl ⟨_, _, _, impl_isLeaf_spec n, rfl, ?_⟩
  conv => whnf
  cases g1 : iEq n.f (-1) <;> simp only [eH] at g1 <;> (conv => whnf)
  ·rw [decide_eq_false g1]; rfl
  ·rw [decide_eq_true g1]; rfl
theorem spec_BestAt_spec (g : Grd) (grads : List Int) (c : Cfg) (t : List Nd) (node : Int) (hg : smG g) (hr : grads.length ≤ 1048576) (hc : c.signs.length ≤ 1048576) (hl : t.length ≤ 1048576) : FnSpec PR f_spec_BestAt [aG g, aIs grads, aCf c, aT t, ai node] (ab (bestAt g grads c t node)) [] 0 := by
 refine FnSpec.intro hT (pf Tryz.func17) rfl (by kernel_rfl) Tryz.ntmps17 rfl ?_
 conv => whnf
 refine .inl ⟨_, _, _, spec_BoundAt_spec g grads c t node hg hr hc hl, rfl, ?_⟩
 cases hb : (boundAt g grads c t node).2 with
 | false =>
  have hbe : bestAt g grads c t node = false := by unfold bestAt; rw [hb]
  obtain ⟨B, k⟩ : ∃ B, boundAt g grads c t node = (B, false) := ⟨(boundAt g grads c t node).1, by rw [← hb]⟩
  rw [k, hbe]
  conv => whnf
 | true =>
 obtain ⟨hT0, hG0, hO0, hn, hB, hR⟩ := bound_told hb
 obtain ⟨n, hnd⟩ := get_lt (show node.toNat < t.length by omega)
 have hbe : bestAt g grads c t node = bestAtN g grads c t node n := by unfold bestAt; rw [hb, hnd]
 have hbp := boundL_p g grads c t node
 have hla := nodeRowsL_ok hT0.1 t node
 have hgl : grads.length = rowsIn g := hT0.2.2.1
 rw [hB, hbe]
 conv => whnf
 refine .inl ⟨_, _, _, spec_NodeRows_spec g t node hg hl, rfl, ?_⟩
 rw [hR]
 conv => whnf
 refine idx_at (k := node.toNat) (by omega) hnd ?_
 conv => whnf
 have hpc := spec_PartOf_spec g grads c _ _ hg hT0 (node_rows hT0.1 t node) hbp
 cases hP : partL g grads c (nodeRowsL g t node) (boundL g grads c t node) with
 | none =>
  have hp : growAt g grads c t node = none := by unfold growAt; rw [hP]; split <;> rfl
  rw [hP, show bestR none = (noCd, false) from rfl] at hpc
  refine .inl ⟨_, _, _, hpc, rfl, ?_⟩
  conv => whnf
  refine tri_rp 0 ?_
  conv => whnf
  refine tri_rp 1 ?_
  conv => whnf
  refine tri_rp 2 ?_
  conv => whnf
  refine tri_rp 3 ?_
  conv => whnf
  refine tri_rp 5 ?_
  conv => whnf
  refine tri_rp 6 ?_
  conv => whnf
  refine tri_conf hT hmix (by kernel_rfl) ?_
  conv => whnf
  refine ⟨_, _, spec_LevelOf_spec t node (by omega), rfl, ?_⟩
  conv => whnf
  cases h1 : iLt (levelL t node) c.depth <;> (conv => whnf)
  all_goals repeat' (first | (refine And.intro (fun q => ?_) (fun q => ?_) <;> cases q <;> (conv => whnf)) | fail)
  all_goals clear hpc
  ·have hbn : bestAtN g grads c t node n = (decide (n.f = -1) && decide (n.v = leafV (nodeRowsL g t node).length (sumR grads (nodeRowsL g t node)) c.lambda (boundL g grads c t node))) := by unfold bestAtN; rw [hp]
   have hsm := sumR_in hT0.2.2.2 (nodeRowsL g t node)
   rw [hbn]
   refine tri_every hT hmix [14, 17] { t := [(14, .c (.d (.rp (cN n)))), (17, ai (leafV (nodeRowsL g t node).length (sumR grads (nodeRowsL g t node)) c.lambda (boundL g grads c t node)))], h := [], n := 0, N := 96 } rfl ?_ ?_
   ·repeat' first
     | (refine anyV_one rfl ?_; (conv => whnf))
     | (refine anyV_two rfl ?_ ?_ <;> (conv => whnf))
     | (refine anyV_three rfl ?_ ?_ ?_ <;> (conv => whnf))
     | (refine .inl ⟨_, _, _, spec_l19Sum_spec grads (nodeRowsL g t node) hT0.2.2.2 hla.1 (fun r h => by have := hla.2 r h; omega), rfl, ?_⟩; (conv => whnf))
     | (refine .inl ⟨_, _, _, spec_LeafOf_spec _ _ c.lambda _ (by omega) hT0.2.1.lam (by omega) hbp, rfl, ?_⟩; (conv => whnf))
     | (refine anyV_end rfl ?_; (conv => whnf); first | done | rfl)
   conv => whnf
   refine .inl ⟨_, _, _, spec_l17Inner_spec n, rfl, ?_⟩
   conv => whnf
   cases g1 : iEq n.f (-1) <;> simp only [eH] at g1 <;> (conv => whnf)
   ·rw [decide_eq_false g1]; rfl
   ·rw [decide_eq_true g1]; rfl
  ·have hbn : bestAtN g grads c t node n = (decide (n.f = -1) && decide (n.v = leafV (nodeRowsL g t node).length (sumR grads (nodeRowsL g t node)) c.lambda (boundL g grads c t node))) := by unfold bestAtN; rw [hp]
   have hsm := sumR_in hT0.2.2.2 (nodeRowsL g t node)
   rw [hbn]
   refine tri_every hT hmix [14, 17] { t := [(14, .c (.d (.rp (cN n)))), (17, ai (leafV (nodeRowsL g t node).length (sumR grads (nodeRowsL g t node)) c.lambda (boundL g grads c t node)))], h := [], n := 0, N := 96 } rfl ?_ ?_
   ·repeat' first
     | (refine anyV_one rfl ?_; (conv => whnf))
     | (refine anyV_two rfl ?_ ?_ <;> (conv => whnf))
     | (refine anyV_three rfl ?_ ?_ ?_ <;> (conv => whnf))
     | (refine .inl ⟨_, _, _, spec_l19Sum_spec grads (nodeRowsL g t node) hT0.2.2.2 hla.1 (fun r h => by have := hla.2 r h; omega), rfl, ?_⟩; (conv => whnf))
     | (refine .inl ⟨_, _, _, spec_LeafOf_spec _ _ c.lambda _ (by omega) hT0.2.1.lam (by omega) hbp, rfl, ?_⟩; (conv => whnf))
     | (refine anyV_end rfl ?_; (conv => whnf); first | done | rfl)
   conv => whnf
   refine .inl ⟨_, _, _, spec_l17Inner_spec n, rfl, ?_⟩
   conv => whnf
   cases g1 : iEq n.f (-1) <;> simp only [eH] at g1 <;> (conv => whnf)
   ·rw [decide_eq_false g1]; rfl
   ·rw [decide_eq_true g1]; rfl
 | some x =>
  obtain ⟨f, k, hf, hk, hxe⟩ := partL_in hP
  obtain ⟨g1, _⟩ := grid_at hT0.1 hf
  obtain ⟨cv, hcv⟩ := get_lt hk
  have hcut : cutAt g (f : Int) (k : Int) = cv := by unfold cutAt; rw [Int.toNat_natCast, Int.toNat_natCast, hcv]; rfl
  obtain ⟨xf, xb, xl, xr⟩ := x
  obtain rfl : xf = (f : Int) := congrArg Cd.f hxe
  obtain rfl : xb = (k : Int) := congrArg Cd.b hxe
  have hga : ∀ b, iLt (levelL t node) c.depth = b → growAt g grads c t node = if b then some ⟨(f : Int), (k : Int), xl, xr⟩ else none := fun b hb => by
   unfold growAt
   rw [hP]
   cases b
   ·rw [if_neg (by simpa using hb)]; rfl
   ·rw [if_pos (by simpa using hb)]; rfl
  rw [hP, show bestR (some ⟨(f : Int), (k : Int), xl, xr⟩) = (⟨(f : Int), (k : Int), xl, xr⟩, true) from rfl] at hpc
  clear hxe hP
  refine .inl ⟨_, _, _, hpc, rfl, ?_⟩
  clear hpc
  conv => whnf
  refine tri_rp 0 ?_
  conv => whnf
  refine tri_rp 1 ?_
  conv => whnf
  refine tri_rp 2 ?_
  conv => whnf
  refine tri_rp 3 ?_
  conv => whnf
  refine tri_rp 5 ?_
  conv => whnf
  refine tri_rp 6 ?_
  conv => whnf
  refine tri_conf hT hmix (by kernel_rfl) ?_
  conv => whnf
  refine ⟨_, _, spec_LevelOf_spec t node (by omega), rfl, ?_⟩
  conv => whnf
  cases h1 : iLt (levelL t node) c.depth <;> (conv => whnf)
  all_goals repeat' (first | (refine And.intro (fun q => ?_) (fun q => ?_) <;> cases q <;> (conv => whnf)) | fail)
  ·have hp : growAt g grads c t node = none := hga _ h1
   have hbn : bestAtN g grads c t node n = (decide (n.f = -1) && decide (n.v = leafV (nodeRowsL g t node).length (sumR grads (nodeRowsL g t node)) c.lambda (boundL g grads c t node))) := by unfold bestAtN; rw [hp]
   have hsm := sumR_in hT0.2.2.2 (nodeRowsL g t node)
   rw [hbn]
   refine tri_every hT hmix [14, 17] { t := [(14, .c (.d (.rp (cN n)))), (17, ai (leafV (nodeRowsL g t node).length (sumR grads (nodeRowsL g t node)) c.lambda (boundL g grads c t node)))], h := [], n := 0, N := 96 } rfl ?_ ?_
   ·repeat' first
     | (refine anyV_one rfl ?_; (conv => whnf))
     | (refine anyV_two rfl ?_ ?_ <;> (conv => whnf))
     | (refine anyV_three rfl ?_ ?_ ?_ <;> (conv => whnf))
     | (refine .inl ⟨_, _, _, spec_l19Sum_spec grads (nodeRowsL g t node) hT0.2.2.2 hla.1 (fun r h => by have := hla.2 r h; omega), rfl, ?_⟩; (conv => whnf))
     | (refine .inl ⟨_, _, _, spec_LeafOf_spec _ _ c.lambda _ (by omega) hT0.2.1.lam (by omega) hbp, rfl, ?_⟩; (conv => whnf))
     | (refine anyV_end rfl ?_; (conv => whnf); first | done | rfl)
   conv => whnf
   refine .inl ⟨_, _, _, spec_l17Inner_spec n, rfl, ?_⟩
   conv => whnf
   cases g1 : iEq n.f (-1) <;> simp only [eH] at g1 <;> (conv => whnf)
   ·rw [decide_eq_false g1]; rfl
   ·rw [decide_eq_true g1]; rfl
  ·have hp : growAt g grads c t node = some ⟨(f : Int), (k : Int), xl, xr⟩ := hga _ h1
   have hbn : bestAtN g grads c t node n = (decide (n.f = (f : Int)) && decide (n.c = cv)) := by unfold bestAtN; rw [hp]; dsimp only; rw [hcut]
   rw [hbn]
   refine tri_conf hT hmix (by kernel_rfl) ?_
   conv => whnf
   cases q1 : iEq n.f (f : Int) <;> simp only [eH] at q1 <;> (conv => whnf)
   ·repeat' (first | (refine And.intro (fun q => ?_) (fun q => ?_) <;> cases q <;> (conv => whnf)) | fail)
    rw [decide_eq_false q1]; rfl
   ·repeat' (first | (refine And.intro (fun q => ?_) (fun q => ?_) <;> cases q <;> (conv => whnf)) | fail)
    refine idx_at (by simp) g1 ?_
    conv => whnf
    repeat' (first | (refine And.intro (fun q => ?_) (fun q => ?_) <;> cases q <;> (conv => whnf)) | fail)
    refine idx_at (by simp) hcv ?_
    conv => whnf
    repeat' (first | (refine And.intro (fun q => ?_) (fun q => ?_) <;> cases q <;> (conv => whnf)) | fail)
    rw [decide_eq_true q1]; rfl
noncomputable def allBest (g : Grd) (grads : List Int) (c : Cfg) (t : List Nd) : Bool := treeOk t g.cuts.length && (List.range t.length).all fun (k : Nat) => bestAt g grads c t k
theorem allBest_no {g : Grd} {grads : List Int} {c : Cfg} {t : List Nd} {k : Nat} (hk : k < t.length) (h : bestAt g grads c t k = false) : allBest g grads c t = false := by
 unfold allBest
 rw [Bool.and_eq_false_iff]
 right
 rw [List.all_eq_false]
 exact ⟨k, List.mem_range.2 hk, by rw [h]; decide⟩
theorem allBest_yes {g : Grd} {grads : List Int} {c : Cfg} {t : List Nd} (ho : treeOk t g.cuts.length = true) (h : ∀ k, k < t.length → bestAt g grads c t (k : Nat) = true) : allBest g grads c t = true := by
 unfold allBest
 rw [ho, Bool.true_and, List.all_eq_true]
 exact fun k hk => h k (List.mem_range.1 hk)
theorem impl_AllBest_spec (g : Grd) (grads : List Int) (c : Cfg) (t : List Nd) (hg : smG g) (hr : grads.length ≤ 1048576) (hc : c.signs.length ≤ 1048576) (hl : t.length ≤ 1048576) : FnSpec PR f_impl_AllBest [aG g, aIs grads, aCf c, aT t] (ab (allBest g grads c t)) [] 0 := by
 have e0 : nInt (dLen (eL cIs g.cuts)) = (g.cuts.length : Int) := by simp
 refine FnSpec.intro hT (pf Tryz.func28) rfl (by kernel_rfl) Tryz.ntmps28 rfl ?_
 conv => whnf
 rw [e0]
 refine .inl ⟨_, _, _, impl_TreeOk_spec t g.cuts.length hl, rfl, ?_⟩
 cases ho : treeOk t g.cuts.length
 ·conv => whnf
  rw [show allBest g grads c t = false by unfold allBest; rw [ho]; rfl]
 conv => whnf
 refine tri_rp 0 ?_
 conv => whnf
 refine tri_rp 1 ?_
 conv => whnf
 refine tri_rp 2 ?_
 conv => whnf
 refine tri_loop hT [1, 4, 6, 7, 18, 19] (α := Nat) (fun k => { t := [(1, aIs grads), (4, rpG g), (6, rpCf c), (7, rpT t), (18, ai t.length), (19, ai k)], h := [], n := 0, N := 30 })
  (fun k => k ≤ t.length ∧ ∀ j, j < k → bestAt g grads c t (j : Nat) = true) (fun k => t.length - k) 0 (by ((conv => whnf); simp only [eS]); exact ⟨rfl, rfl, rfl⟩) ⟨Nat.zero_le _, fun j h => by omega⟩ ?_
 intro k ⟨hk, hb⟩
 conv => whnf
 refine ifB_i (fun h1 => ?_) (fun h1 => ?_) <;> (conv => whnf) <;> simp at h1
 ·refine .inl ⟨_, _, _, impl_BestAt_spec g grads c t k hg hr hc hl, rfl, ?_⟩
  cases g1 : bestAt g grads c t (k : Nat)
  ·conv => whnf
   rw [allBest_no h1 g1]
  ·conv => whnf
   refine ⟨k + 1, by omega, ⟨by omega, fun j hj => ?_⟩, ?_⟩
   ·rcases Nat.lt_or_ge j k with q | q
    ·exact hb j q
    ·obtain rfl : j = k := by omega
     exact g1
   ((conv => whnf); simp only [eS, wI h1 (by omega)])
 ·obtain rfl : k = t.length := by omega
  rw [allBest_yes ho hb]
theorem spec_AllBest_spec (g : Grd) (grads : List Int) (c : Cfg) (t : List Nd) (hg : smG g) (hr : grads.length ≤ 1048576) (hc : c.signs.length ≤ 1048576) (hl : t.length ≤ 1048576) : FnSpec PR f_spec_AllBest [aG g, aIs grads, aCf c, aT t] (ab (allBest g grads c t)) [] 0 := by
 have e0 : nInt (dLen (eL cIs g.cuts)) = (g.cuts.length : Int) := by simp
 refine FnSpec.intro hT (pf Tryz.func27) rfl (by kernel_rfl) Tryz.ntmps27 rfl ?_
 conv => whnf
 rw [e0]
 refine .inl ⟨_, _, _, spec_TreeOk_spec t g.cuts.length hl, rfl, ?_⟩
 cases ho : treeOk t g.cuts.length
 ·conv => whnf
  rw [show allBest g grads c t = false by unfold allBest; rw [ho]; rfl]
 conv => whnf
 refine tri_rp 0 ?_
 conv => whnf
 refine tri_rp 1 ?_
 conv => whnf
 refine tri_rp 2 ?_
 conv => whnf
 refine tri_loop hT [1, 4, 6, 7, 9] (α := Nat) (fun k => { t := [(1, aIs grads), (4, rpG g), (6, rpCf c), (7, rpT t), (9, ai k)], h := [], n := 0, N := 30 })
  (fun k => k ≤ t.length ∧ ∀ j, j < k → bestAt g grads c t (j : Nat) = true) (fun k => t.length - k) 0 (by first | ((conv => whnf); done) | ((conv => whnf); rfl)) ⟨Nat.zero_le _, fun j h => by omega⟩ ?_
 intro k ⟨hk, hb⟩
 conv => whnf
 rw [show nInt (dLen (eL cN t)) = (t.length : Int) by simp]
 refine ifB_i (fun h1 => ?_) (fun h1 => ?_) <;> (conv => whnf) <;> simp only [eH] at h1
 ·have h1' : k < t.length := by omega
  refine .inl ⟨_, _, _, spec_BestAt_spec g grads c t k hg hr hc hl, rfl, ?_⟩
  cases g1 : bestAt g grads c t (k : Nat)
  ·conv => whnf
   rw [allBest_no h1' g1]
  ·conv => whnf
   refine ⟨k + 1, by omega, ⟨by omega, fun j hj => ?_⟩, ?_⟩
   ·rcases Nat.lt_or_ge j k with q | q
    ·exact hb j q
    ·obtain rfl : j = k := by omega
     exact g1
   ((conv => whnf); simp only [eS, wI h1' (by omega)])
 ·obtain rfl : k = t.length := by omega
  rw [allBest_yes ho hb]
end Go.H.S
namespace Go.H.S
open Go Go.Proofs Go.H
structure Itm where
 rows : List Int
 bd : Int × Int
 lev : Int
def cIt (x : Itm) : List D := [.sl 1 (eL cI x.rows), .int .i64 x.bd.1, .int .i64 x.bd.2, .int .i64 x.lev]
def kidL (g : Grd) (c : Cfg) (x : Itm) (z : Cd) : Itm := ⟨(splitL (binsF g z.f.toNat) x.rows z.b).1, (sidesL (signFor c z.f) x.bd (sideL c x.bd z) (sideR c x.bd z)).1, x.lev + 1⟩
def kidR (g : Grd) (c : Cfg) (x : Itm) (z : Cd) : Itm := ⟨(splitL (binsF g z.f.toNat) x.rows z.b).2, (sidesL (signFor c z.f) x.bd (sideL c x.bd z) (sideR c x.bd z)).2, x.lev + 1⟩
def partI (g : Grd) (grads : List Int) (c : Cfg) (x : Itm) : Option Cd := if x.lev < c.depth then partL g grads c x.rows x.bd else none
def leafI (grads : List Int) (c : Cfg) (x : Itm) : Nd := ⟨-1, 0, 0, 0, leafV x.rows.length (sumR grads x.rows) c.lambda x.bd⟩
def innerI (g : Grd) (z : Cd) (n : Nat) : Nd := ⟨z.f, cutAt g z.f z.b, (n : Int), ((n + 1 : Nat) : Int), 0⟩
def stepG (g : Grd) (grads : List Int) (c : Cfg) (q : List Itm) (o : List Nd) (x : Itm) : List Itm × List Nd :=
 match partI g grads c x with
 | none => (q, o ++ [leafI grads c x])
 | some z => (q ++ [kidL g c x z, kidR g c x z], o ++ [innerI g z q.length])
def growK (g : Grd) (grads : List Int) (c : Cfg) : Nat → List Itm × List Nd
 | 0 => ([⟨allRowsL grads.length, freeB, 0⟩], [])
 | k + 1 => match (growK g grads c k).1[k]? with
  | none => growK g grads c k
  | some x => stepG g grads c (growK g grads c k).1 (growK g grads c k).2 x
def growL (g : Grd) (grads : List Int) (c : Cfg) : List Nd := (growK g grads c 31).2
def itmP (g : Grd) (c : Cfg) (x : Itm) : Prop := rowsP g x.rows ∧ boundP x.bd ∧ 0 ≤ x.lev ∧ x.lev ≤ c.depth
def wtI (c : Cfg) (x : Itm) : Nat := 2 ^ ((c.depth - x.lev).toNat + 1) - 1
def wtL (c : Cfg) : List Itm → Nat
 | [] => 0
 | x :: r => wtI c x + wtL c r
theorem wtI_pos (c : Cfg) (x : Itm) : 1 ≤ wtI c x := by
 unfold wtI
 have : 2 ^ 1 ≤ 2 ^ ((c.depth - x.lev).toNat + 1) := Nat.pow_le_pow_right (by decide) (by omega)
 omega
theorem wtL_app (c : Cfg) : ∀ a b : List Itm, wtL c (a ++ b) = wtL c a + wtL c b
 | [], b => by simp [wtL]
 | x :: r, b => by simp only [List.cons_append, wtL, wtL_app c r b]; omega
theorem wtL_len (c : Cfg) : ∀ l : List Itm, l.length ≤ wtL c l
 | [] => Nat.le_refl _
 | x :: r => by have := wtL_len c r; have := wtI_pos c x; simp only [List.length_cons, wtL]; omega
theorem wt_kids {g : Grd} {c : Cfg} {x : Itm} (z : Cd) (h : x.lev < c.depth) : wtI c (kidL g c x z) + wtI c (kidR g c x z) + 1 = wtI c x := by
 unfold wtI kidL kidR
 dsimp only
 obtain ⟨n, hn⟩ : ∃ n : Nat, (c.depth - x.lev).toNat = n + 1 := ⟨(c.depth - x.lev).toNat - 1, by omega⟩
 have h2 : (c.depth - (x.lev + 1)).toNat = n := by omega
 rw [hn, h2]
 have : 2 ^ (n + 1 + 1) = 2 * 2 ^ (n + 1) := by rw [Nat.pow_succ 2 (n + 1)]; omega
 have h1 : 1 ≤ 2 ^ (n + 1) := Nat.one_le_two_pow
 omega
theorem kid_p {g : Grd} {c : Cfg} {x : Itm} {z : Cd} (hx : itmP g c x) (h : x.lev < c.depth) : itmP g c (kidL g c x z) ∧ itmP g c (kidR g c x z) := by
 obtain ⟨h1, h2, h3, h4⟩ := hx
 have hs := sidesL_ok (sign := signFor c z.f) (p := sideL c x.bd z) (q := sideR c x.bd z) h2
 have hl := splitL_len (binsF g z.f.toNat) x.rows z.b
 have := h1.len
 refine ⟨⟨⟨by dsimp only [kidL]; omega, fun r hr => h1.mem r ((List.mem_filter.1 hr).1)⟩, hs.1, by dsimp only [kidL]; omega, by dsimp only [kidL]; omega⟩, ⟨⟨by dsimp only [kidR]; omega, fun r hr => h1.mem r ((List.mem_filter.1 hr).1)⟩, hs.2, by dsimp only [kidR]; omega, by dsimp only [kidR]; omega⟩⟩
theorem freeB_p : boundP freeB := by unfold boundP; decide
theorem root_p {g : Grd} {grads : List Int} {c : Cfg} (ht : taskP g grads c) : itmP g c ⟨allRowsL grads.length, freeB, 0⟩ := by
 have hd := ((cfg_five c).1 ht.2.1.1).2.1
 have hgl : grads.length = rowsIn g := ht.2.2.1
 refine ⟨⟨?_, fun r hr => ?_⟩, freeB_p, Int.le_refl _, hd.1⟩
 ·dsimp only; unfold allRowsL
  split
  ·rw [upTo_len]; omega
  ·simp
 ·dsimp only at hr
  unfold allRowsL at hr
  split at hr
  ·simp only [upTo, List.mem_map, List.mem_range] at hr
   obtain ⟨i, hi, rfl⟩ := hr
   omega
  ·cases hr
structure grP (g : Grd) (grads : List Int) (c : Cfg) (k : Nat) : Prop where
 it : ∀ x ∈ (growK g grads c k).1, itmP g c x
 out : (growK g grads c k).2.length = k
 wt : k + wtL c ((growK g grads c k).1.drop k) ≤ 31
theorem grow_step {g : Grd} {grads : List Int} {c : Cfg} {k : Nat} {x : Itm} (hx : (growK g grads c k).1[k]? = some x) : growK g grads c (k + 1) = stepG g grads c (growK g grads c k).1 (growK g grads c k).2 x := by
 rw [growK, hx]
theorem grow_zero {g : Grd} {grads : List Int} {c : Cfg} (ht : taskP g grads c) : grP g grads c 0 := by
 have hd := ((cfg_five c).1 ht.2.1.1).2.1
 refine ⟨fun x hx => ?_, rfl, ?_⟩
 ·simp only [growK, List.mem_singleton] at hx
  subst hx
  exact root_p ht
 ·simp only [growK, List.drop_zero, wtL, wtI]
  have : 2 ^ ((c.depth - 0).toNat + 1) ≤ 2 ^ 5 := Nat.pow_le_pow_right (by decide) (by omega)
  omega
theorem grow_next {g : Grd} {grads : List Int} {c : Cfg} {k : Nat} {x : Itm} (h : grP g grads c k) (hx : (growK g grads c k).1[k]? = some x) : grP g grads c (k + 1) := by
 have hlt : k < (growK g grads c k).1.length := by
  rcases Nat.lt_or_ge k (growK g grads c k).1.length with q | q
  ·exact q
  ·rw [List.getElem?_eq_none q] at hx; cases hx
 have hdr : (growK g grads c k).1.drop k = x :: (growK g grads c k).1.drop (k + 1) := by
  rw [List.drop_eq_getElem_cons hlt]
  rw [List.getElem?_eq_getElem hlt] at hx
  cases hx; rfl
 have hw := h.wt
 rw [hdr] at hw
 simp only [wtL] at hw
 have hip := h.it x (List.mem_of_getElem? hx)
 have hp := wtI_pos c x
 have e := grow_step hx
 cases hz : partI g grads c x with
 | none =>
  have e2 : growK g grads c (k + 1) = ((growK g grads c k).1, (growK g grads c k).2 ++ [leafI grads c x]) := by rw [e, stepG, hz]
  refine ⟨?_, ?_, ?_⟩ <;> rw [e2]
  ·exact h.it
  ·simp [h.out]
  ·dsimp only; omega
 | some z =>
  have hlv : x.lev < c.depth := by
   unfold partI at hz
   split at hz
   ·assumption
   ·cases hz
  have e2 : growK g grads c (k + 1) = ((growK g grads c k).1 ++ [kidL g c x z, kidR g c x z], (growK g grads c k).2 ++ [innerI g z (growK g grads c k).1.length]) := by rw [e, stepG, hz]
  have hk := kid_p (g := g) (z := z) hip hlv
  have hwk := wt_kids (g := g) z hlv
  refine ⟨?_, ?_, ?_⟩ <;> rw [e2]
  ·intro y hy
   rcases List.mem_append.1 hy with hy | hy
   ·exact h.it y hy
   ·simp only [List.mem_cons, List.not_mem_nil, or_false] at hy
    rcases hy with rfl | rfl
    ·exact hk.1
    ·exact hk.2
  ·simp [h.out]
  ·dsimp only
   rw [List.drop_append_of_le_length (by omega), wtL_app]
   simp only [wtL]
   omega
theorem grow_len {g : Grd} {grads : List Int} {c : Cfg} {k : Nat} (h : grP g grads c k) (hk : k ≤ (growK g grads c k).1.length) : (growK g grads c k).1.length ≤ 31 := by
 have h1 := wtL_len c ((growK g grads c k).1.drop k)
 rw [List.length_drop] at h1
 have := h.wt
 omega
theorem grow_stop {g : Grd} {grads : List Int} {c : Cfg} {k : Nat} (h : (growK g grads c k).1.length ≤ k) : ∀ j, growK g grads c (k + j) = growK g grads c k
 | 0 => rfl
 | j + 1 => by
  have ih := grow_stop h j
  rw [← Nat.add_assoc, growK, ih, List.getElem?_eq_none (by omega)]
theorem grow_end {g : Grd} {grads : List Int} {c : Cfg} {k : Nat} (h : grP g grads c k) (hk : k = (growK g grads c k).1.length) : (growK g grads c k).2 = growL g grads c := by
 have h1 := grow_len h (by omega)
 have h2 := grow_stop (g := g) (grads := grads) (c := c) (k := k) (by omega) (31 - k)
 unfold growL
 rw [show 31 = k + (31 - k) by omega, h2]
end Go.H.S
namespace Go.H.S
open Go Go.Proofs Go.H
attribute [local irreducible] Tri FnSpec FnSpecM FnSpecX FnSpecJ FnSpecB hiU loU
abbrev tupRD (x : List Int × List Int) : AV := .tup [(false, [.d (.sl 1 (eL cI x.1))]), (false, [.d (.sl 1 (eL cI x.2))])]
theorem impl_AllRows_d (n : Int) : FnSpec PR f_impl_AllRows [ai n] (aIs (allRowsL n)) [] 0 := by
 refine FnSpec.intro hT (pf Tryz.func104) rfl (by kernel_rfl) Tryz.ntmps104 rfl ?_
 conv => whnf
 refine .inl ⟨_, _, _, impl_within_spec _ _ _, rfl, ?_⟩
 conv => whnf
 by_cases h : 1 ≤ n ∧ n ≤ 40
 ·rw [show decide (1 ≤ n ∧ n ≤ 40) = true from decide_eq_true h]
  conv => whnf
  have he : allRowsL n = upTo n.toNat := by rw [allRowsL, if_pos h]
  rw [he]
  obtain ⟨m, rfl⟩ : ∃ m : Nat, n = m := ⟨n.toNat, by omega⟩
  simp only [Int.toNat_natCast]
  refine tri_loop hT [3, 10, 11] (α := Nat) (fun x => { t := [(3, .c (.ref 0 0 none)), (10, ai m), (11, ai x)], h := [(0, .arr t_int 1 0 .own (eL cI (upTo x)))], n := 1, N := 20 })
   (fun x => x ≤ m) (fun x => m - x) 0 (by (conv => whnf); rw [show upTo 0 = [] from rfl, eL_nil]; rfl) (Nat.zero_le _) ?_
  intro k hk
  conv => whnf
  refine ifB_i (fun h1 => ?_) (fun h1 => ?_) <;> (conv => whnf) <;> simp at h1
  ·refine And.intro (by simp [eL_length, dLen_len, upTo_len]; omega) ?_
   conv => whnf
   refine ⟨k + 1, by omega, h1, ?_⟩
   ((conv => whnf); simp only [eS, wI h1 (by omega)])
   rw [upTo_succ, ← eL_app]
   rfl
  ·obtain rfl : k = m := by omega
   conv => whnf
   simp only [partOf_none]
 ·rw [show decide (1 ≤ n ∧ n ≤ 40) = false from decide_eq_false h]
  conv => whnf
  rw [allRowsL, if_neg h, partOf_none, ← eL_nil cI]
theorem spec_AllRows_d (n : Int) : FnSpec PR f_spec_AllRows [ai n] (aIs (allRowsL n)) [] 0 := by
 refine FnSpec.intro hT (pf Tryz.func112) rfl (by kernel_rfl) Tryz.ntmps112 rfl ?_
 conv => whnf
 refine tri_loop hT [0, 3, 4] (α := Nat) (fun x => { t := [(0, ai n), (3, .c (.ref 0 0 none)), (4, ai x)], h := [(0, .arr t_int 1 0 .own (eL cI (upTo x)))], n := 1, N := 20 })
  (fun x => x = 0 ∨ (n ≤ 40 ∧ x ≤ n)) (fun x => 40 - x) 0 (by (conv => whnf); rw [show upTo 0 = [] from rfl, eL_nil]; rfl) (.inl rfl) ?_
 intro k hk
 conv => whnf
 refine ifB_i (fun h1 => ?_) (fun h1 => ?_) <;> (conv => whnf) <;> simp only [eH] at h1
 ·refine ifB_i (fun h2 => ?_) (fun h2 => ?_) <;> (conv => whnf) <;> simp only [eH] at h2
  ·refine And.intro (by simp [eL_length, dLen_len, upTo_len]; omega) ?_
   conv => whnf
   refine ⟨k + 1, by omega, .inr (by omega), ?_⟩
   ((conv => whnf); simp only [eS, wI (show k < 40 by omega) (by omega)])
   rw [upTo_succ, ← eL_app]
   rfl
  ·obtain rfl : k = 0 := by omega
   rw [allRowsL, if_neg (by omega)]
   rfl
 ·rcases hk with rfl | hk
  ·rw [allRowsL, if_neg (by omega)]
   rfl
  ·have : n = k := by omega
   subst this
   by_cases h0 : 1 ≤ (k : Int)
   ·rw [allRowsL, if_pos (by omega), Int.toNat_natCast, partOf_none]
   ·obtain rfl : k = 0 := by omega
    rw [allRowsL, if_neg (by omega)]
    rfl
theorem impl_SplitRows_d (bins rows : List Int) (b : Int) (hb : bins.length ≤ 1048576) (hr : rows.length ≤ 1048576) : FnSpec PR f_impl_SplitRows [aIs bins, aIs rows, ai b] (tupRD (splitL bins rows b)) [] 0 := by
 have e1 : wSub .i64 (nInt (dLen (eL cI bins))) 1 = (bins.length : Int) - 1 := by rw [show nInt (dLen (eL cI bins)) = (bins.length : Int) by simp]; exact wSub64 (by omega) (by omega)
 refine FnSpec.intro hT (pf Tryz.func110) rfl (by kernel_rfl) Tryz.ntmps110 rfl ?_
 conv => whnf
 refine tri_loop hT [0, 2, 8, 9, 14, 15, 16] (α := Nat) (fun x => { t := [(0, aIs bins), (2, ai b), (8, .c (.ref 0 0 none)), (9, .c (.ref 1 0 none)), (14, aIs rows), (15, ai rows.length), (16, ai x)], h := [(0, .arr t_int 1 0 .own (eL cI (splitL bins (rows.take x) b).1)), (1, .arr t_int 1 0 .own (eL cI (splitL bins (rows.take x) b).2))], n := 2, N := 45 })
  (fun x => x ≤ rows.length) (fun x => rows.length - x) 0 (by ((conv => whnf); simp only [eS, splitL, List.take_zero, List.filter_nil, eL_nil])) (Nat.zero_le _) ?_
 intro k hk
 conv => whnf
 refine ifB_i (fun h1 => ?_) (fun h1 => ?_) <;> (conv => whnf) <;> simp at h1
 ·obtain ⟨x, hx⟩ := get_lt h1
  have hl := splitL_len bins (rows.take k) b
  have htl : (rows.take k).length = k := by simp; omega
  refine idx_at (by simp) hx ?_
  conv => whnf
  rw [e1]
  refine .inl ⟨_, _, _, impl_within_spec _ _ _, rfl, ?_⟩
  conv => whnf
  have f1 : (splitL bins (rows.take (k + 1)) b).1 = (splitL bins (rows.take k) b).1 ++ (if decide (atBin bins b x = some true) then [x] else []) := filter_take_step hx
  have f2 : (splitL bins (rows.take (k + 1)) b).2 = (splitL bins (rows.take k) b).2 ++ (if decide (atBin bins b x = some false) then [x] else []) := filter_take_step hx
  by_cases hin : 0 ≤ x ∧ x ≤ (bins.length : Int) - 1
  ·rw [show decide (0 ≤ x ∧ x ≤ (bins.length : Int) - 1) = true from decide_eq_true hin]
   conv => whnf
   obtain ⟨i, rfl⟩ : ∃ i : Nat, x = i := ⟨x.toNat, by omega⟩
   obtain ⟨y, hy⟩ := get_lt (show i < bins.length by omega)
   refine idx_at (by simp) hy ?_
   conv => whnf
   refine ifB_i (fun h2 => ?_) (fun h2 => ?_) <;> (conv => whnf) <;> simp only [eH] at h2
   ·have ha : atBin bins b i = some true := by simp [atBin, hin, hy, h2]
    rw [ha] at f1 f2
    simp at f1 f2
    refine And.intro (by simp [eL_length, dLen_len]; omega) ?_
    conv => whnf
    refine ⟨k + 1, by omega, h1, ?_⟩
    ((conv => whnf); simp only [eS, wI h1 (by omega)])
    rw [f1, f2, ← eL_app]
    exact ⟨rfl, rfl⟩
   ·have ha : atBin bins b i = some false := by simp [atBin, hin, hy]; omega
    rw [ha] at f1 f2
    simp at f1 f2
    refine And.intro (by simp [eL_length, dLen_len]; omega) ?_
    conv => whnf
    refine ⟨k + 1, by omega, h1, ?_⟩
    ((conv => whnf); simp only [eS, wI h1 (by omega)])
    rw [f1, f2, ← eL_app]
    exact ⟨rfl, rfl⟩
  ·rw [show decide (0 ≤ x ∧ x ≤ (bins.length : Int) - 1) = false from decide_eq_false hin]
   conv => whnf
   have ha : atBin bins b x = none := by simp only [atBin]; rw [if_neg hin]
   rw [ha] at f1 f2
   simp at f1 f2
   refine ⟨k + 1, by omega, h1, ?_⟩
   ((conv => whnf); simp only [eS, wI h1 (by omega)])
   rw [f1, f2]
   exact ⟨rfl, rfl⟩
 ·obtain rfl : k = rows.length := by omega
  rw [List.take_length, partOf_none, partOf_none]
theorem spec_SplitRows_d (bins rows : List Int) (b : Int) (hb : bins.length ≤ 1048576) (hr : rows.length ≤ 1048576) : FnSpec PR f_spec_SplitRows [aIs bins, aIs rows, ai b] (tupRD (splitL bins rows b)) [] 0 := by
 have e1 : wSub .i64 (nInt (dLen (eL cI bins))) 1 = (bins.length : Int) - 1 := by rw [show nInt (dLen (eL cI bins)) = (bins.length : Int) by simp]; exact wSub64 (by omega) (by omega)
 refine FnSpec.intro hT (pf Tryz.func114) rfl (by kernel_rfl) Tryz.ntmps114 rfl ?_
 conv => whnf
 refine tri_loop hT [0, 1, 2, 8, 9, 10] (α := Nat) (fun x => { t := [(0, aIs bins), (1, aIs rows), (2, ai b), (8, .c (.ref 0 0 none)), (9, .c (.ref 1 0 none)), (10, ai x)], h := [(0, .arr t_int 1 0 .own (eL cI (splitL bins (rows.take x) b).1)), (1, .arr t_int 1 0 .own (eL cI (splitL bins (rows.take x) b).2))], n := 2, N := 55 })
  (fun x => x ≤ rows.length) (fun x => rows.length - x) 0 (by ((conv => whnf); simp only [eS, splitL, List.take_zero, List.filter_nil, eL_nil])) (Nat.zero_le _) ?_
 intro k hk
 conv => whnf
 refine ifB_i (fun h1 => ?_) (fun h1 => ?_) <;> (conv => whnf) <;> simp at h1
 ·obtain ⟨x, hx⟩ := get_lt h1
  have hl := splitL_len bins (rows.take k) b
  have htl : (rows.take k).length = k := by simp; omega
  refine idx_at (by simp) hx ?_
  conv => whnf
  rw [e1]
  refine .inl ⟨_, _, _, spec_l1In_spec _ _ _, rfl, ?_⟩
  conv => whnf
  have f1 : (splitL bins (rows.take (k + 1)) b).1 = (splitL bins (rows.take k) b).1 ++ (if decide (atBin bins b x = some true) then [x] else []) := filter_take_step hx
  have f2 : (splitL bins (rows.take (k + 1)) b).2 = (splitL bins (rows.take k) b).2 ++ (if decide (atBin bins b x = some false) then [x] else []) := filter_take_step hx
  by_cases hin : 0 ≤ x ∧ x ≤ (bins.length : Int) - 1
  ·rw [show decide (0 ≤ x ∧ x ≤ (bins.length : Int) - 1) = true from decide_eq_true hin]
   conv => whnf
   obtain ⟨i, rfl⟩ : ∃ i : Nat, x = i := ⟨x.toNat, by omega⟩
   obtain ⟨y, hy⟩ := get_lt (show i < bins.length by omega)
   refine idx_at (by simp) hx ?_
   conv => whnf
   refine idx_at (by simp) hy ?_
   conv => whnf
   refine ifB_i (fun h2 => ?_) (fun h2 => ?_) <;> (conv => whnf) <;> simp only [eH] at h2
   ·have ha : atBin bins b i = some true := by simp [atBin, hin, hy, h2]
    rw [ha] at f1 f2
    simp at f1 f2
    refine idx_at (by simp) hx ?_
    conv => whnf
    refine And.intro (by simp [eL_length, dLen_len]; omega) ?_
    conv => whnf
    refine ⟨k + 1, by omega, h1, ?_⟩
    ((conv => whnf); simp only [eS, wI h1 (by omega)])
    rw [f1, f2, ← eL_app]
    exact ⟨rfl, rfl⟩
   ·have ha : atBin bins b i = some false := by simp [atBin, hin, hy]; omega
    rw [ha] at f1 f2
    simp at f1 f2
    refine idx_at (by simp) hx ?_
    conv => whnf
    refine And.intro (by simp [eL_length, dLen_len]; omega) ?_
    conv => whnf
    refine ⟨k + 1, by omega, h1, ?_⟩
    ((conv => whnf); simp only [eS, wI h1 (by omega)])
    rw [f1, f2, ← eL_app]
    exact ⟨rfl, rfl⟩
  ·rw [show decide (0 ≤ x ∧ x ≤ (bins.length : Int) - 1) = false from decide_eq_false hin]
   conv => whnf
   have ha : atBin bins b x = none := by simp only [atBin]; rw [if_neg hin]
   rw [ha] at f1 f2
   simp at f1 f2
   refine ⟨k + 1, by omega, h1, ?_⟩
   ((conv => whnf); simp only [eS, wI h1 (by omega)])
   rw [f1, f2]
   exact ⟨rfl, rfl⟩
 ·obtain rfl : k = rows.length := by omega
  rw [List.take_length, partOf_none, partOf_none]
end Go.H.S
