/- Library, part PM: the best split of a node's rows: contracts. -/
import Derived.Test.YtdolkacinfjhcaaGreatLPL
set_option maxRecDepth 100000
set_option linter.unusedSimpArgs false
set_option linter.unusedVariables false
namespace Go.H.S
open Go Go.Proofs Go.H
attribute [local irreducible] Tri FnSpec FnSpecM FnSpecX FnSpecJ FnSpecB hiU loU
theorem flat_cSl (h : List (Int × Int)) : FlatR (eL cSl h) := fun c hc d hd => by
 rw [eL] at hc
 obtain ⟨x, _, rfl⟩ := List.mem_map.1 hc
 simp [cSl] at hd
 rcases hd with rfl | rfl <;> rfl
abbrev rowHs (hs : List (List (Int × Int))) : Ent := .arr t_Limpl_Slot 1 0 (.nest [t_impl_Slot]) (eL cHs hs)
theorem impl_NodeHists_spec (g : Grd) (grads rows : List Int) (c : Cfg) (hsm : smG g) (ht : taskP g grads c) (hr : rowsP g rows) : FnSpec PR f_impl_NodeHists [aG g, aIs grads, aIs rows] tupHk [(0, rowHs (histsL g grads rows g.cuts.length))] 1 := by
 have h4 := ht.1.1.2
 refine FnSpec.intro hTn (pf Tryz.func211) rfl (by kernel_rfl) Tryz.ntmps211 rfl ?_
 conv => whnf
 refine .inl ⟨_, _, _, impl_GridOk_spec g hsm, rfl, ?_⟩
 rw [gridOk_t ht.1]
 conv => whnf
 refine tri_rp 0 ?_
 conv => whnf
 refine tri_loop hTn [1, 2, 3, 8, 18, 19, 20] (α := Nat) (fun k => { t := [(1, aIs grads), (2, aIs rows), (3, .c (.d (.rp [.sl 1 (eL cIs g.cuts), .sl 1 (eL cIs g.bins)]))), (8, .c (.ref 0 0 none)), (18, aIss g.cuts), (19, ai g.cuts.length), (20, ai k)], h := [(0, rowHs (histsL g grads rows k))], n := 1, N := 47 })
  (fun k => k ≤ g.cuts.length) (fun k => g.cuts.length - k) 0 (by ((conv => whnf); simp only [eS, histsL, List.range_zero, List.map_nil, eL_nil]); rfl) (Nat.zero_le _) ?_
 intro k hk
 conv => whnf
 refine ifB_i (fun h1 => ?_) (fun h1 => ?_) <;> (conv => whnf) <;> simp at h1
 ·obtain ⟨g1, g2, g3, _, _⟩ := grid_at ht.1 h1
  have g7 := g3.2.1
  refine idx_at (by simp) g1 ?_
  conv => whnf
  refine idx_at (by simp) g2 ?_
  conv => whnf
  rw [show wAdd .i64 (nInt (dLen (eL cI (cutsF g k)))) 1 = (((cutsF g k).length + 1 : Nat) : Int) by rw [show nInt (dLen (eL cI (cutsF g k))) = ((cutsF g k).length : Int) by simp, wAdd64] <;> omega]
  refine .inl ⟨_, _, _, impl_HistOf_spec _ _ _ _ (hist_of ht hr h1), rfl, ?_⟩
  conv => whnf
  refine ⟨flat_cSl _, ?_⟩
  conv => whnf
  refine And.intro (by simp [eL_length, dLen_len, histsL_len]; omega) ?_
  conv => whnf
  refine ⟨k + 1, by omega, by omega, ?_⟩
  ((conv => whnf); simp only [eS, wI h1 (by omega)])
  rw [histsL_succ, ← eL_app]
  rfl
 ·obtain rfl : k = g.cuts.length := by omega
  rfl
theorem spec_NodeHists_spec (g : Grd) (grads rows : List Int) (c : Cfg) (hsm : smG g) (ht : taskP g grads c) (hr : rowsP g rows) : FnSpec PR f_spec_NodeHists [aG g, aIs grads, aIs rows] tupHk [(0, rowHs (histsL g grads rows g.cuts.length))] 1 := by
 have h4 := ht.1.1.2
 refine FnSpec.intro hTn (pf Tryz.func203) rfl (by kernel_rfl) Tryz.ntmps203 rfl ?_
 conv => whnf
 refine .inl ⟨_, _, _, spec_GridOk_spec g hsm, rfl, ?_⟩
 rw [gridOk_t ht.1]
 conv => whnf
 refine tri_rp 0 ?_
 conv => whnf
 refine tri_loop hTn [1, 2, 3, 8, 9] (α := Nat) (fun k => { t := [(1, aIs grads), (2, aIs rows), (3, .c (.d (.rp [.sl 1 (eL cIs g.cuts), .sl 1 (eL cIs g.bins)]))), (8, .c (.ref 0 0 none)), (9, ai k)], h := [(0, rowHs (histsL g grads rows k))], n := 1, N := 50 })
  (fun k => k ≤ g.cuts.length) (fun k => g.cuts.length - k) 0 (by ((conv => whnf); simp only [eS, histsL, List.range_zero, List.map_nil, eL_nil]); rfl) (Nat.zero_le _) ?_
 intro k hk
 conv => whnf
 rw [show nInt (dLen (eL cIs g.cuts)) = (g.cuts.length : Int) by simp]
 refine ifB_i (fun h1 => ?_) (fun h1 => ?_) <;> (conv => whnf) <;> simp only [eH] at h1
 ·obtain ⟨g1, g2, g3, _, _⟩ := grid_at ht.1 (show k < g.cuts.length by omega)
  have g7 := g3.2.1
  have e1 : wAdd .i64 (nInt (dLen (eL cI (cutsF g k)))) 1 = (((cutsF g k).length + 1 : Nat) : Int) := by rw [show nInt (dLen (eL cI (cutsF g k))) = ((cutsF g k).length : Int) by simp, wAdd64] <;> omega
  refine tri_every hTn hmix [1, 2, 3, 8, 9, 10, 11] { t := [(1, aIs grads), (2, aIs rows), (3, .c (.d (.rp [.sl 1 (eL cIs g.cuts), .sl 1 (eL cIs g.bins)]))), (8, .c (.ref 0 0 none)), (9, ai k), (10, .c (.ref 1 0 none)), (11, ab true)], h := [(0, rowHs (histsL g grads rows k)), (1, rowH (histL (binsF g k) grads rows ((cutsF g k).length + 1)))], n := 2, N := 50 } rfl ?_ ?_
  ·repeat' first
    | (refine anyV_one rfl ?_; (conv => whnf))
    | (refine anyV_two rfl ?_ ?_ <;> (conv => whnf))
    | (refine anyV_three rfl ?_ ?_ ?_ <;> (conv => whnf))
    | (refine idx_at rfl g1 ?_; (conv => whnf))
    | (refine idx_at rfl g2 ?_; (conv => whnf))
    | (rw [e1]; refine .inl ⟨_, _, _, spec_HistOf_spec _ _ _ _ (hist_of ht hr (show k < g.cuts.length by omega)), rfl, ?_⟩; (conv => whnf))
    | (refine anyV_end rfl ?_; (conv => whnf); first | done | rfl)
  conv => whnf
  refine ⟨flat_cSl _, ?_⟩
  conv => whnf
  refine And.intro (by simp [eL_length, dLen_len, histsL_len]; omega) ?_
  conv => whnf
  refine ⟨k + 1, by omega, by omega, ?_⟩
  ((conv => whnf); simp only [eS, wI (show k < g.cuts.length by omega) (by omega)])
  rw [histsL_succ, ← eL_app]
  rfl
 ·obtain rfl : k = g.cuts.length := by omega
  rfl
theorem candL_len {g : Grd} {grads rows : List Int} {c : Cfg} (ht : taskP g grads c) (hr : rowsP g rows) (least : Int) : (candL g grads rows least).length ≤ 32 := by
 rw [← candsH_eq ht hr least]
 have := candsH_len (hists_ok ht hr) least g.cuts.length (by rw [histsL_len]; omega)
 have := ht.1.1.2
 omega
theorem candL_ok {g : Grd} {grads rows : List Int} {c : Cfg} (ht : taskP g grads c) (hr : rowsP g rows) (least : Int) : ∀ x ∈ candL g grads rows least, cdP x := fun x hx => by
 obtain ⟨f, b, h1, h2, rfl, _⟩ := candL_mem hx
 exact cand_ok ht hr h1 h2
theorem impl_PartOf_spec (g : Grd) (grads : List Int) (c : Cfg) (rows : List Int) (b : Int × Int) (hsm : smG g) (ht : taskP g grads c) (hr : rowsP g rows) (hb : boundP b) : FnSpec PR f_impl_PartOf [aG g, aIs grads, aCf c, aIs rows, aB b] (tupCk (bestR (partL g grads c rows b))) [] 0 := by
 have h40 := ht.1.2.2.1
 have hgl : grads.length = rowsIn g := ht.2.2.1
 have hcs := impl_CandsOf_spec _ c.rows (hists_ok ht hr)
 rw [histsL_len, candsH_eq ht hr] at hcs
 have hbs := impl_BestOf_spec c b _ ht.2.1 hb (by have := candL_len ht hr c.rows; omega) (candL_ok ht hr c.rows)
 unfold partL
 refine FnSpec.intro hTn (pf Tryz.func97) rfl (by kernel_rfl) Tryz.ntmps97 rfl ?_
 conv => whnf
 refine .inl ⟨_, _, _, impl_TaskOk_spec g grads c hsm (by omega) ht.2.1.sgl, rfl, ?_⟩
 rw [taskOk_t ht]
 conv => whnf
 refine .inl ⟨_, _, _, impl_NodeHists_spec g grads rows c hsm ht hr, rfl, ?_⟩
 conv => whnf
 refine tri_rp 1 ?_
 conv => whnf
 refine tri_rp 2 ?_
 conv => whnf
 refine tri_every hTn hmix [10, 11] { t := [(10, .c (.ptr 0 0)), (11, ab (bestR (bestL c b (candL g grads rows c.rows))).2)], h := [(0, boxCd (bestR (bestL c b (candL g grads rows c.rows))).1)], n := 1, N := 39 } rfl ?_ ?_
 ·repeat' first
   | (refine anyV_one rfl ?_; (conv => whnf))
   | (refine anyV_two rfl ?_ ?_ <;> (conv => whnf))
   | (refine anyV_three rfl ?_ ?_ ?_ <;> (conv => whnf))
   | (refine .inl ⟨_, _, _, hcs, rfl, ?_⟩; (conv => whnf))
   | (refine .inl ⟨_, _, _, hbs, rfl, ?_⟩; (conv => whnf))
   | (refine anyV_end rfl ?_; (conv => whnf); first | done | rfl)
 conv => whnf
theorem spec_PartOf_spec (g : Grd) (grads : List Int) (c : Cfg) (rows : List Int) (b : Int × Int) (hsm : smG g) (ht : taskP g grads c) (hr : rowsP g rows) (hb : boundP b) : FnSpec PR f_spec_PartOf [aG g, aIs grads, aCf c, aIs rows, aB b] (tupCk (bestR (partL g grads c rows b))) [] 0 := by
 have h40 := ht.1.2.2.1
 have hgl : grads.length = rowsIn g := ht.2.2.1
 have hcs := spec_CandsOf_spec _ c.rows (hists_ok ht hr)
 rw [histsL_len, candsH_eq ht hr] at hcs
 have hbs := spec_BestOf_spec c b _ ht.2.1 hb (by have := candL_len ht hr c.rows; omega) (candL_ok ht hr c.rows)
 unfold partL
 refine FnSpec.intro hTn (pf Tryz.func88) rfl (by kernel_rfl) Tryz.ntmps88 rfl ?_
 conv => whnf
 refine .inl ⟨_, _, _, spec_TaskOk_spec g grads c hsm (by omega) ht.2.1.sgl, rfl, ?_⟩
 rw [taskOk_t ht]
 conv => whnf
 refine .inl ⟨_, _, _, spec_NodeHists_spec g grads rows c hsm ht hr, rfl, ?_⟩
 conv => whnf
 refine tri_rp 1 ?_
 conv => whnf
 refine tri_rp 2 ?_
 conv => whnf
 refine tri_every hTn hmix [10, 11] { t := [(10, .c (.ptr 0 0)), (11, ab (bestR (bestL c b (candL g grads rows c.rows))).2)], h := [(0, boxCd (bestR (bestL c b (candL g grads rows c.rows))).1)], n := 1, N := 39 } rfl ?_ ?_
 ·repeat' first
   | (refine anyV_one rfl ?_; (conv => whnf))
   | (refine anyV_two rfl ?_ ?_ <;> (conv => whnf))
   | (refine anyV_three rfl ?_ ?_ ?_ <;> (conv => whnf))
   | (refine .inl ⟨_, _, _, hcs, rfl, ?_⟩; (conv => whnf))
   | (refine .inl ⟨_, _, _, hbs, rfl, ?_⟩; (conv => whnf))
   | (refine anyV_end rfl ?_; (conv => whnf); first | done | rfl)
 conv => whnf
end Go.H.S
