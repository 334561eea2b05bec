/- Library, part PM: the best split of a node's rows: contracts. -/
import Derived.Test.YtdolkacinfjhcaaGreatLPL
set_option maxRecDepth 100000
set_option linter.unusedSimpArgs false
set_option linter.unusedVariables false
namespace Go.H.S
open Go Go.Proofs Go.H
attribute [local irreducible] Tri z6 zR zV zY zW hiU loU
theorem zHS (h : List (Int × Int)) : z6s (eL cSl h) := fun c hc d hd => by
 rw [eL] at hc
 obtain ⟨x, _, rfl⟩ := List.mem_map.1 hc
 simp [cSl] at hd
 rcases hd with rfl | rfl <;> rfl
abbrev zIr (hs : List (List (Int × Int))) : Ent := .arr zEr 1 0 (.nest [y8]) (eL cHs hs)
theorem z5S (g : Grd) (grads rows : List Int) (c : Cfg) (hsm : smG g) (ht : yw g grads c) (hr : rowsP g rows) : z6 PR z9D [aG g, aIs grads, aIs rows] zHm [(0, zIr (z0E g grads rows g.cuts.length))] 1 := by
 have h4 := ht.1.1.2
 refine z6.intro hTn (pf Tryz.func211) rfl (by kernel_rfl) Tryz.ntmps211 rfl ?_
 conv => whnf
 refine .inl ⟨_, _, _, z3R g hsm, rfl, ?_⟩
 rw [z3A ht.1]
 conv => whnf
 refine zj 0 ?_
 conv => whnf
 refine zB hTn [1, 2, 3, 8, 18, 19, 20] (α := Nat) (fun k => { t := [(1, aIs grads), (2, aIs rows), (3, .c (.d (.rp [.sl 1 (eL cIs g.cuts), .sl 1 (eL cIs g.bins)]))), (8, .c (.ref 0 0 none)), (18, aIss g.cuts), (19, ai g.cuts.length), (20, ai k)], h := [(0, zIr (z0E g grads rows k))], n := 1, N := 47 })
  (fun k => k ≤ g.cuts.length) (fun k => g.cuts.length - k) 0 (by ((conv => whnf); simp only [eS, z0E, List.range_zero, List.map_nil, zp]); rfl) (Nat.zero_le _) ?_
 intro k hk
 conv => whnf
 refine zK (fun h1 => ?_) (fun h1 => ?_) <;> (conv => whnf) <;> simp at h1
 ·obtain ⟨g1, g2, g3, _, _⟩ := z39 ht.1 h1
  have g7 := g3.2.1
  refine zG (by simp) g1 ?_
  conv => whnf
  refine zG (by simp) g2 ?_
  conv => whnf
  rw [show wAdd .i64 (nInt (dLen (eL cI (wH g k)))) 1 = (((wH g k).length + 1 : Nat) : Int) by rw [show nInt (dLen (eL cI (wH g k))) = ((wH g k).length : Int) by simp, y6] <;> omega]
  refine .inl ⟨_, _, _, z8k _ _ _ _ (z7Y ht hr h1), rfl, ?_⟩
  conv => whnf
  refine ⟨zHS _, ?_⟩
  conv => whnf
  refine And.intro (by simp [zE, zQ, z1R]; omega) ?_
  conv => whnf
  refine ⟨k + 1, by omega, by omega, ?_⟩
  ((conv => whnf); simp only [eS, wI h1 (by omega)])
  rw [zAA, ← zX]
  rfl
 ·obtain rfl : k = g.cuts.length := by omega
  rfl
theorem z5G (g : Grd) (grads rows : List Int) (c : Cfg) (hsm : smG g) (ht : yw g grads c) (hr : rowsP g rows) : z6 PR z8z [aG g, aIs grads, aIs rows] zHm [(0, zIr (z0E g grads rows g.cuts.length))] 1 := by
 have h4 := ht.1.1.2
 refine z6.intro hTn (pf Tryz.func203) rfl (by kernel_rfl) Tryz.ntmps203 rfl ?_
 conv => whnf
 refine .inl ⟨_, _, _, z3L g hsm, rfl, ?_⟩
 rw [z3A ht.1]
 conv => whnf
 refine zj 0 ?_
 conv => whnf
 refine zB hTn [1, 2, 3, 8, 9] (α := Nat) (fun k => { t := [(1, aIs grads), (2, aIs rows), (3, .c (.d (.rp [.sl 1 (eL cIs g.cuts), .sl 1 (eL cIs g.bins)]))), (8, .c (.ref 0 0 none)), (9, ai k)], h := [(0, zIr (z0E g grads rows k))], n := 1, N := 50 })
  (fun k => k ≤ g.cuts.length) (fun k => g.cuts.length - k) 0 (by ((conv => whnf); simp only [eS, z0E, List.range_zero, List.map_nil, zp]); rfl) (Nat.zero_le _) ?_
 intro k hk
 conv => whnf
 rw [show nInt (dLen (eL cIs g.cuts)) = (g.cuts.length : Int) by simp]
 refine zK (fun h1 => ?_) (fun h1 => ?_) <;> (conv => whnf) <;> simp only [eH] at h1
 ·obtain ⟨g1, g2, g3, _, _⟩ := z39 ht.1 (show k < g.cuts.length by omega)
  have g7 := g3.2.1
  have e1 : wAdd .i64 (nInt (dLen (eL cI (wH g k)))) 1 = (((wH g k).length + 1 : Nat) : Int) := by rw [show nInt (dLen (eL cI (wH g k))) = ((wH g k).length : Int) by simp, y6] <;> omega
  refine zJ hTn hmix [1, 2, 3, 8, 9, 10, 11] { t := [(1, aIs grads), (2, aIs rows), (3, .c (.d (.rp [.sl 1 (eL cIs g.cuts), .sl 1 (eL cIs g.bins)]))), (8, .c (.ref 0 0 none)), (9, ai k), (10, .c (.ref 1 0 none)), (11, ab true)], h := [(0, zIr (z0E g grads rows k)), (1, rowH (ww (ya g k) grads rows ((wH g k).length + 1)))], n := 2, N := 50 } rfl ?_ ?_
  ·repeat' first
    | (refine zM rfl ?_; (conv => whnf))
    | (refine zL rfl ?_ ?_ <;> (conv => whnf))
    | (refine zC rfl ?_ ?_ ?_ <;> (conv => whnf))
    | (refine zG rfl g1 ?_; (conv => whnf))
    | (refine zG rfl g2 ?_; (conv => whnf))
    | (rw [e1]; refine .inl ⟨_, _, _, z8N _ _ _ _ (z7Y ht hr (show k < g.cuts.length by omega)), rfl, ?_⟩; (conv => whnf))
    | (refine zO rfl ?_; (conv => whnf); first | done | rfl)
  conv => whnf
  refine ⟨zHS _, ?_⟩
  conv => whnf
  refine And.intro (by simp [zE, zQ, z1R]; omega) ?_
  conv => whnf
  refine ⟨k + 1, by omega, by omega, ?_⟩
  ((conv => whnf); simp only [eS, wI (show k < g.cuts.length by omega) (by omega)])
  rw [zAA, ← zX]
  rfl
 ·obtain rfl : k = g.cuts.length := by omega
  rfl
theorem zFn {g : Grd} {grads rows : List Int} {c : Cfg} (ht : yw g grads c) (hr : rowsP g rows) (least : Int) : (zC1 g grads rows least).length ≤ 32 := by
 rw [← zAv ht hr least]
 have := z4T (zDK ht hr) least g.cuts.length (by rw [z1R]; omega)
 have := ht.1.1.2
 omega
theorem zHZ {g : Grd} {grads rows : List Int} {c : Cfg} (ht : yw g grads c) (hr : rowsP g rows) (least : Int) : ∀ x ∈ zC1 g grads rows least, cdP x := fun x hx => by
 obtain ⟨f, b, h1, h2, rfl, _⟩ := zAx hx
 exact zGY ht hr h1 h2
theorem z8g (g : Grd) (grads : List Int) (c : Cfg) (rows : List Int) (b : Int × Int) (hsm : smG g) (ht : yw g grads c) (hr : rowsP g rows) (hb : yI b) : z6 PR zEB [aG g, aIs grads, aCf c, aIs rows, aB b] (zIV (z7t (z5N g grads c rows b))) [] 0 := by
 have h40 := ht.1.2.2.1
 have hgl : grads.length = yR g := ht.2.2.1
 have hcs := z7W _ c.rows (zDK ht hr)
 rw [z1R, zAv ht hr] at hcs
 have hbs := z8q c b _ ht.2.1 hb (by have := zFn ht hr c.rows; omega) (zHZ ht hr c.rows)
 unfold z5N
 refine z6.intro hTn (pf Tryz.func97) rfl (by kernel_rfl) Tryz.ntmps97 rfl ?_
 conv => whnf
 refine .inl ⟨_, _, _, z3Q g grads c hsm (by omega) ht.2.1.sgl, rfl, ?_⟩
 rw [z4H ht]
 conv => whnf
 refine .inl ⟨_, _, _, z5S g grads rows c hsm ht hr, rfl, ?_⟩
 conv => whnf
 refine zj 1 ?_
 conv => whnf
 refine zj 2 ?_
 conv => whnf
 refine zJ hTn hmix [10, 11] { t := [(10, .c (.ptr 0 0)), (11, ab (z7t (zB1 c b (zC1 g grads rows c.rows))).2)], h := [(0, zFq (z7t (zB1 c b (zC1 g grads rows c.rows))).1)], n := 1, N := 39 } rfl ?_ ?_
 ·repeat' first
   | (refine zM rfl ?_; (conv => whnf))
   | (refine zL rfl ?_ ?_ <;> (conv => whnf))
   | (refine zC rfl ?_ ?_ ?_ <;> (conv => whnf))
   | (refine .inl ⟨_, _, _, hcs, rfl, ?_⟩; (conv => whnf))
   | (refine .inl ⟨_, _, _, hbs, rfl, ?_⟩; (conv => whnf))
   | (refine zO rfl ?_; (conv => whnf); first | done | rfl)
 conv => whnf
theorem z8L (g : Grd) (grads : List Int) (c : Cfg) (rows : List Int) (b : Int × Int) (hsm : smG g) (ht : yw g grads c) (hr : rowsP g rows) (hb : yI b) : z6 PR zDg [aG g, aIs grads, aCf c, aIs rows, aB b] (zIV (z7t (z5N g grads c rows b))) [] 0 := by
 have h40 := ht.1.2.2.1
 have hgl : grads.length = yR g := ht.2.2.1
 have hcs := z77 _ c.rows (zDK ht hr)
 rw [z1R, zAv ht hr] at hcs
 have hbs := z8T c b _ ht.2.1 hb (by have := zFn ht hr c.rows; omega) (zHZ ht hr c.rows)
 unfold z5N
 refine z6.intro hTn (pf Tryz.func88) rfl (by kernel_rfl) Tryz.ntmps88 rfl ?_
 conv => whnf
 refine .inl ⟨_, _, _, z3J g grads c hsm (by omega) ht.2.1.sgl, rfl, ?_⟩
 rw [z4H ht]
 conv => whnf
 refine .inl ⟨_, _, _, z5G g grads rows c hsm ht hr, rfl, ?_⟩
 conv => whnf
 refine zj 1 ?_
 conv => whnf
 refine zj 2 ?_
 conv => whnf
 refine zJ hTn hmix [10, 11] { t := [(10, .c (.ptr 0 0)), (11, ab (z7t (zB1 c b (zC1 g grads rows c.rows))).2)], h := [(0, zFq (z7t (zB1 c b (zC1 g grads rows c.rows))).1)], n := 1, N := 39 } rfl ?_ ?_
 ·repeat' first
   | (refine zM rfl ?_; (conv => whnf))
   | (refine zL rfl ?_ ?_ <;> (conv => whnf))
   | (refine zC rfl ?_ ?_ ?_ <;> (conv => whnf))
   | (refine .inl ⟨_, _, _, hcs, rfl, ?_⟩; (conv => whnf))
   | (refine .inl ⟨_, _, _, hbs, rfl, ?_⟩; (conv => whnf))
   | (refine zO rfl ?_; (conv => whnf); first | done | rfl)
 conv => whnf
end Go.H.S
