/- Library, part PR: GrowTree: contracts. -/
import Derived.Test.YtdolkacinfjhcaaGreatLPQ
set_option maxRecDepth 100000
set_option linter.unusedSimpArgs false
set_option linter.unusedVariables false
namespace Go.H.S
open Go Go.Proofs Go.H
attribute [local irreducible] Tri FnSpec FnSpecM FnSpecX FnSpecJ FnSpecB hiU loU
abbrev tupTk : AV := .tup [(true, [.ref 0 0 none]), (false, [.d (.bool true)])]
theorem eL_two {α : Type} (f : α → List D) (l : List α) (a b : α) : eL f (l ++ [a, b]) = dApp (eL f l) [f a, f b] := by simp [dApp_eq, eL]
set_option maxHeartbeats 4000000 in
theorem impl_GrowTree_spec (g : Grd) (grads : List Int) (c : Cfg) (hg : smG g) (hr : grads.length ≤ 1048576) (hc : c.signs.length ≤ 1048576) (ht : taskP g grads c) : FnSpec PR f_impl_GrowTree [aG g, aIs grads, aCf c] tupTk [(0, .arr t_impl_Node 5 0 .own (eL cN (growL g grads c)))] 1 := by
 have hgl : grads.length = rowsIn g := ht.2.2.1
 have hcs := (cfg_five c).1 ht.2.1.1
 refine FnSpec.intro hT (pf Tryz.func31) rfl (by kernel_rfl) Tryz.ntmps31 rfl ?_
 conv => whnf
 refine .inl ⟨_, _, _, impl_TaskOk_spec g grads c hg hr hc, rfl, ?_⟩
 rw [taskOk_t ht]
 conv => whnf
 refine .inl ⟨_, _, _, impl_RowsIn_spec g, rfl, ?_⟩
 conv => whnf
 refine .inl ⟨_, _, _, impl_AllRows_d (rowsIn g), rfl, ?_⟩
 conv => whnf
 refine .inl ⟨_, _, _, impl_Free_spec, rfl, ?_⟩
 conv => whnf
 refine tri_rp 0 ?_
 conv => whnf
 refine tri_rp 1 ?_
 conv => whnf
 refine tri_nl 4 0 t_impl_Node 5 ?_
 conv => whnf
 have hA : allRowsL (rowsIn g : Int) = allRowsL (grads.length : Int) := by rw [hgl]
 have h0 := grow_zero ht
 refine tri_loop hT [1, 3, 5, 6, 8, 9, 10] (α := Nat × List Itm × List Nd) (fun x => { t := [(1, aIs grads), (3, rpG g), (5, rpC c), (6, .c (.ptr 0 0)), (8, .c (.ref 1 0 none)), (9, .c (.ptr 2 0)), (10, ai x.1)], h := [(0, .box t_impl_Tree [.nl 5]), (1, .arr t_impl_pending 4 0 .own (eL cIt x.2.1)), (2, .box t_impl_Tree [.ref 3 0 none]), (3, .arr t_impl_Node 5 0 .own (eL cN x.2.2))], n := 4, N := 158 })
  (fun x => x.1 ≤ x.2.1.length ∧ growK g grads c x.1 = (x.2.1, x.2.2) ∧ grP g grads c x.1) (fun x => 32 - x.1) (0, [⟨allRowsL grads.length, freeB, 0⟩], []) (by ((conv => whnf); simp only [eS, eL_nil]); rw [hA]; exact ⟨⟨rfl, rfl⟩, by simp [eL, cIt]⟩) ⟨by simp, rfl, h0⟩ ?_
 intro ⟨k, q, o⟩ ⟨hkl, hgk, hP⟩
 dsimp only at hkl hgk hP
 have hq1 : (growK g grads c k).1 = q := by rw [hgk]
 have ho1 : (growK g grads c k).2 = o := by rw [hgk]
 have hqn := grow_len hP (by rw [hq1]; exact hkl)
 have hon := hP.out
 rw [hq1] at hqn
 rw [ho1] at hon
 conv => whnf
 refine ifB_i (fun h1 => ?_) (fun h1 => ?_) <;> (conv => whnf) <;> simp [iLt] at h1
 ·obtain ⟨x, hx⟩ := get_lt (show k < q.length by omega)
  have hx' : (growK g grads c k).1[k]? = some x := by rw [hq1]; exact hx
  have hst := grow_step hx'
  have hnx := grow_next hP hx'
  have hxp := hP.it x (List.mem_of_getElem? hx')
  rw [hq1, ho1] at hst
  refine ref_at (k := k) (by simp) (by simp; omega) ?_
  conv => whnf
  refine ld_at (by simp) hx ?_
  conv => whnf
  refine ifB_i (fun h2 => ?_) (fun h2 => ?_) <;> (conv => whnf) <;> simp only [eH] at h2
  ·refine .inl ⟨_, _, _, impl_PartOf_spec g grads c x.rows x.bd hg ht hxp.1 hxp.2.1, rfl, ?_⟩
   have hpi : partI g grads c x = partL g grads c x.rows x.bd := by unfold partI; rw [if_pos h2]
   cases hz : partL g grads c x.rows x.bd with
   | none =>
    rw [show bestR none = (noCd, false) from rfl]
    conv => whnf
    have hpn : partI g grads c x = none := by rw [hpi, hz]
    have hst2 : growK g grads c (k + 1) = (q, o ++ [leafI grads c x]) := by rw [hst, stepG, hpn]
    have hsm := sumR_in ht.2.2.2 x.rows
    refine tri_rp 4 ?_
    conv => whnf
    refine tri_every hT hmix [1, 3, 5, 6, 8, 9, 10, 14] { t := [(1, aIs grads), (3, rpG g), (5, rpC c), (6, .c (.ptr 0 0)), (8, .c (.ref 1 0 none)), (9, .c (.ptr 2 0)), (10, ai k), (14, ai (leafV x.rows.length (sumR grads x.rows) c.lambda x.bd))], h := [(0, .box t_impl_Tree [.nl 5]), (1, .arr t_impl_pending 4 0 .own (eL cIt q)), (2, .box t_impl_Tree [.ref 3 0 none]), (3, .arr t_impl_Node 5 0 .own (eL cN o))], n := 4, N := 158 } rfl ?_ ?_
    ·repeat' first
      | (refine anyV_one rfl ?_; (conv => whnf))
      | (refine anyV_two rfl ?_ ?_ <;> (conv => whnf))
      | (refine anyV_three rfl ?_ ?_ ?_ <;> (conv => whnf))
      | (refine .inl ⟨_, _, _, impl_slotOf_spec grads x.rows ht.2.2.2 hxp.1.len (fun r h => by have := hxp.1.mem r h; omega), rfl, ?_⟩; (conv => whnf))
      | (refine .inl ⟨_, _, _, impl_LeafOf_spec _ _ c.lambda _ (by have := hxp.1.len; omega) ht.2.1.lam (by have := hxp.1.len; omega) hxp.2.1, rfl, ?_⟩; (conv => whnf))
      | (refine anyV_end rfl ?_; (conv => whnf); first | done | rfl)
    ·conv => whnf
     refine And.intro (by simp [eL_length, dLen_len]; omega) ?_
     conv => whnf
     refine ⟨(k + 1, q, o ++ [leafI grads c x]), by dsimp only; omega, ⟨by dsimp only; omega, hst2, hnx⟩, ?_⟩
     ((conv => whnf); simp only [eS, wI (show k < 40 by omega) (by omega)])
     rw [← eL_app]
     rfl
   | some z =>
    obtain ⟨f, b, hf, hb, hze⟩ := partL_in hz
    obtain ⟨g1, g2, _, g4, _⟩ := grid_at ht.1 hf
    obtain ⟨cv, hcv⟩ := get_lt hb
    have hcd : cdP z := by rw [hze]; exact cand_ok ht hxp.1 hf hb
    have hcut : cutAt g (f : Int) (b : Int) = cv := by unfold cutAt; rw [Int.toNat_natCast, Int.toNat_natCast, hcv]; rfl
    obtain ⟨zf, zb, zl, zr⟩ := z
    obtain rfl : zf = (f : Int) := congrArg Cd.f hze
    obtain rfl : zb = (b : Int) := congrArg Cd.b hze
    have hst2 : growK g grads c (k + 1) = (q ++ [kidL g c x ⟨(f : Int), (b : Int), zl, zr⟩, kidR g c x ⟨(f : Int), (b : Int), zl, zr⟩], o ++ [innerI g ⟨(f : Int), (b : Int), zl, zr⟩ q.length]) := by rw [hst, stepG, hpi, hz]
    have hkl2 : k + 1 ≤ (growK g grads c (k + 1)).1.length := by rw [hst2]; simp; omega
    have hq2 := grow_len hnx hkl2
    rw [hst2] at hq2
    simp only [List.length_append, List.length_cons, List.length_nil] at hq2
    have hbq := hxp.2.1
    have pl := leafV_in (n := zl.1) (s := zl.2) (lam := c.lambda) hbq.1
    have pr := leafV_in (n := zr.1) (s := zr.2) (lam := c.lambda) hbq.1
    have hxl := hxp.1.len
    rw [show bestR (some ⟨(f : Int), (b : Int), zl, zr⟩) = (⟨(f : Int), (b : Int), zl, zr⟩, true) from rfl]
    conv => whnf
    refine .inl ⟨_, _, _, impl_SideValues_spec c x.bd ⟨(f : Int), (b : Int), zl, zr⟩ ht.2.1 hbq hcd, rfl, ?_⟩
    conv => whnf
    refine tri_rp 4 ?_
    conv => whnf
    refine tri_rp 5 ?_
    conv => whnf
    refine tri_every hT hmix [1, 3, 5, 6, 8, 9, 10, 11, 12, 19, 20] { t := [(1, aIs grads), (3, rpG g), (5, rpC c), (6, .c (.ptr 0 0)), (8, .c (.ref 1 0 none)), (9, .c (.ptr 2 0)), (10, ai k), (11, .c (.d (.rp [.sl 1 (eL cI x.rows), .int .i64 x.bd.1, .int .i64 x.bd.2, .int .i64 x.lev]))), (12, .c (.d (.rp [.int .i64 (f : Int), .int .i64 (b : Int), .int .i64 zl.1, .int .i64 zl.2, .int .i64 zr.1, .int .i64 zr.2]))), (19, .c (.ptr 4 0)), (20, .c (.ptr 5 0))], h := [(0, .box t_impl_Tree [.nl 5]), (1, .arr t_impl_pending 4 0 .own (eL cIt q)), (2, .box t_impl_Tree [.ref 3 0 none]), (3, .arr t_impl_Node 5 0 .own (eL cN o)), (4, .box t_impl_Bound (cB (sidesL (signFor c (f : Int)) x.bd (sideL c x.bd ⟨(f : Int), (b : Int), zl, zr⟩) (sideR c x.bd ⟨(f : Int), (b : Int), zl, zr⟩)).1)), (5, .box t_impl_Bound (cB (sidesL (signFor c (f : Int)) x.bd (sideL c x.bd ⟨(f : Int), (b : Int), zl, zr⟩) (sideR c x.bd ⟨(f : Int), (b : Int), zl, zr⟩)).2))], n := 6, N := 158 } rfl ?_ ?_
    ·repeat' first
      | (refine anyV_one rfl ?_; (conv => whnf))
      | (refine anyV_two rfl ?_ ?_ <;> (conv => whnf))
      | (refine anyV_three rfl ?_ ?_ ?_ <;> (conv => whnf))
      | (refine anyV_four rfl ?_ ?_ ?_ ?_ <;> (conv => whnf))
      | (refine anyV_five rfl ?_ ?_ ?_ ?_ ?_ <;> (conv => whnf))
      | (refine .inl ⟨_, _, _, impl_SignFor_spec c (f : Int) hc, rfl, ?_⟩; (conv => whnf))
      | (refine .inl ⟨_, _, _, impl_SidesOf_spec (signFor c (f : Int)) x.bd (sideL c x.bd ⟨(f : Int), (b : Int), zl, zr⟩) (sideR c x.bd ⟨(f : Int), (b : Int), zl, zr⟩) hbq (by unfold sideL; unfold boundP at hbq; dsimp only; omega) (by unfold sideR; unfold boundP at hbq; dsimp only; omega), rfl, ?_⟩; (conv => whnf))
      | (refine anyV_end rfl ?_; (conv => whnf); first | done | rfl)
    conv => whnf
    refine tri_rp 4 ?_
    conv => whnf
    refine tri_rp 5 ?_
    conv => whnf
    refine tri_every hT hmix [1, 3, 5, 6, 8, 9, 10, 11, 12, 19, 20, 21, 22] { t := [(1, aIs grads), (3, rpG g), (5, rpC c), (6, .c (.ptr 0 0)), (8, .c (.ref 1 0 none)), (9, .c (.ptr 2 0)), (10, ai k), (11, .c (.d (.rp [.sl 1 (eL cI x.rows), .int .i64 x.bd.1, .int .i64 x.bd.2, .int .i64 x.lev]))), (12, .c (.d (.rp [.int .i64 (f : Int), .int .i64 (b : Int), .int .i64 zl.1, .int .i64 zl.2, .int .i64 zr.1, .int .i64 zr.2]))), (19, rpB (sidesL (signFor c (f : Int)) x.bd (sideL c x.bd ⟨(f : Int), (b : Int), zl, zr⟩) (sideR c x.bd ⟨(f : Int), (b : Int), zl, zr⟩)).1), (20, rpB (sidesL (signFor c (f : Int)) x.bd (sideL c x.bd ⟨(f : Int), (b : Int), zl, zr⟩) (sideR c x.bd ⟨(f : Int), (b : Int), zl, zr⟩)).2), (21, aIs (splitL (binsF g f) x.rows b).1), (22, aIs (splitL (binsF g f) x.rows b).2)], h := [(0, .box t_impl_Tree [.nl 5]), (1, .arr t_impl_pending 4 0 .own (eL cIt q)), (2, .box t_impl_Tree [.ref 3 0 none]), (3, .arr t_impl_Node 5 0 .own (eL cN o))], n := 4, N := 158 } rfl ?_ ?_
    ·repeat' first
      | (refine anyV_one rfl ?_; (conv => whnf))
      | (refine anyV_two rfl ?_ ?_ <;> (conv => whnf))
      | (refine anyV_three rfl ?_ ?_ ?_ <;> (conv => whnf))
      | (refine idx_at (by simp) g2 ?_; (conv => whnf))
      | (refine .inl ⟨_, _, _, impl_SplitRows_d (binsF g f) x.rows (b : Int) (by omega) (by omega), rfl, ?_⟩; (conv => whnf))
      | (refine anyV_end rfl ?_; (conv => whnf); first | done | rfl)
    conv => whnf
    have e1 : wAdd .i64 (nInt (lenRE (eL cIt q) none)) 1 = ((q.length + 1 : Nat) : Int) := by rw [wAdd64] <;> simp <;> omega
    have e0 : nInt (lenRE (eL cIt q) none) = (q.length : Int) := by simp
    have e2 : wAdd .i64 x.lev 1 = x.lev + 1 := by have := hxp.2.2; exact wAdd64 (by omega) (by omega)
    have hin : innerI g ⟨(f : Int), (b : Int), zl, zr⟩ q.length = ⟨(f : Int), cv, (q.length : Int), ((q.length + 1 : Nat) : Int), 0⟩ := by unfold innerI; dsimp only; rw [hcut]
    refine tri_every hT hmix [1, 3, 5, 6, 8, 9, 10, 11, 19, 20, 21, 22] { t := [(1, aIs grads), (3, rpG g), (5, rpC c), (6, .c (.ptr 0 0)), (8, .c (.ref 1 0 none)), (9, .c (.ptr 2 0)), (10, ai k), (11, .c (.d (.rp [.sl 1 (eL cI x.rows), .int .i64 x.bd.1, .int .i64 x.bd.2, .int .i64 x.lev]))), (19, rpB (sidesL (signFor c (f : Int)) x.bd (sideL c x.bd ⟨(f : Int), (b : Int), zl, zr⟩) (sideR c x.bd ⟨(f : Int), (b : Int), zl, zr⟩)).1), (20, rpB (sidesL (signFor c (f : Int)) x.bd (sideL c x.bd ⟨(f : Int), (b : Int), zl, zr⟩) (sideR c x.bd ⟨(f : Int), (b : Int), zl, zr⟩)).2), (21, aIs (splitL (binsF g f) x.rows b).1), (22, aIs (splitL (binsF g f) x.rows b).2)], h := [(0, .box t_impl_Tree [.nl 5]), (1, .arr t_impl_pending 4 0 .own (eL cIt q)), (2, .box t_impl_Tree [.ref 3 0 none]), (3, .arr t_impl_Node 5 0 .own (eL cN (o ++ [innerI g ⟨(f : Int), (b : Int), zl, zr⟩ q.length])))], n := 4, N := 158 } rfl ?_ ?_
    ·repeat' first
      | (refine anyV_one rfl ?_; (conv => whnf))
      | (refine anyV_two rfl ?_ ?_ <;> (conv => whnf))
      | (refine anyV_three rfl ?_ ?_ ?_ <;> (conv => whnf))
      | (refine anyV_four rfl ?_ ?_ ?_ ?_ <;> (conv => whnf))
      | (refine idx_at (by simp) g1 ?_; (conv => whnf))
      | (refine idx_at (by simp) hcv ?_; (conv => whnf))
      | (refine And.intro (by simp [eL_length, dLen_len]; omega) ?_; (conv => whnf))
      | (refine anyV_end rfl ?_; (conv => whnf); rw [hin, e1, e0, ← eL_app]; first | done | rfl)
    conv => whnf
    refine And.intro (by simp [eL_length, dLen_len]; omega) ?_
    conv => whnf
    rw [e2]
    refine ⟨(k + 1, q ++ [kidL g c x ⟨(f : Int), (b : Int), zl, zr⟩, kidR g c x ⟨(f : Int), (b : Int), zl, zr⟩], o ++ [innerI g ⟨(f : Int), (b : Int), zl, zr⟩ q.length]), by dsimp only; omega, ⟨by simp; omega, hst2, hnx⟩, ?_⟩
    ((conv => whnf); simp only [eS, wI (show k < 40 by omega) (by omega)])
    rw [partOf_none, eL_two]
    rfl
  ·conv => whnf
   have hpn : partI g grads c x = none := by unfold partI; rw [if_neg (by omega)]
   have hst2 : growK g grads c (k + 1) = (q, o ++ [leafI grads c x]) := by rw [hst, stepG, hpn]
   have hsm := sumR_in ht.2.2.2 x.rows
   refine tri_rp 4 ?_
   conv => whnf
   refine tri_every hT hmix [1, 3, 5, 6, 8, 9, 10, 14] { t := [(1, aIs grads), (3, rpG g), (5, rpC c), (6, .c (.ptr 0 0)), (8, .c (.ref 1 0 none)), (9, .c (.ptr 2 0)), (10, ai k), (14, ai (leafV x.rows.length (sumR grads x.rows) c.lambda x.bd))], h := [(0, .box t_impl_Tree [.nl 5]), (1, .arr t_impl_pending 4 0 .own (eL cIt q)), (2, .box t_impl_Tree [.ref 3 0 none]), (3, .arr t_impl_Node 5 0 .own (eL cN o))], n := 4, N := 158 } rfl ?_ ?_
   ·repeat' first
     | (refine anyV_one rfl ?_; (conv => whnf))
     | (refine anyV_two rfl ?_ ?_ <;> (conv => whnf))
     | (refine anyV_three rfl ?_ ?_ ?_ <;> (conv => whnf))
     | (refine .inl ⟨_, _, _, impl_slotOf_spec grads x.rows ht.2.2.2 hxp.1.len (fun r h => by have := hxp.1.mem r h; omega), rfl, ?_⟩; (conv => whnf))
     | (refine .inl ⟨_, _, _, impl_LeafOf_spec _ _ c.lambda _ (by have := hxp.1.len; omega) ht.2.1.lam (by have := hxp.1.len; omega) hxp.2.1, rfl, ?_⟩; (conv => whnf))
     | (refine anyV_end rfl ?_; (conv => whnf); first | done | rfl)
   ·conv => whnf
    refine And.intro (by simp [eL_length, dLen_len]; omega) ?_
    conv => whnf
    refine ⟨(k + 1, q, o ++ [leafI grads c x]), by dsimp only; omega, ⟨by dsimp only; omega, hst2, hnx⟩, ?_⟩
    ((conv => whnf); simp only [eS, wI (show k < 40 by omega) (by omega)])
    rw [← eL_app]
    rfl
 ·obtain rfl : k = q.length := by omega
  have hge := grow_end hP (by rw [hq1])
  rw [ho1] at hge
  rw [← hge]
end Go.H.S
