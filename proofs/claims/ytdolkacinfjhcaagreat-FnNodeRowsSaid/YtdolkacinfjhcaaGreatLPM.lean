/- Library, part PM: the best split of a node's rows: contracts. -/
import Derived.Test.YtdolkacinfjhcaaGreatLPL
set_option maxRecDepth 100000
set_option linter.unusedSimpArgs false
set_option linter.unusedVariables false
namespace Go.H.S
open Go Go.Proofs Go.H
attribute [local irreducible] Tri z6 zV zU zj zX hiU loU
theorem zH8 (h : List (Int × Int)) : z9S (eL cSl h) := fun c hc d hd => by
 rw [eL] at hc
 obtain ⟨x, _, rfl⟩ := List.mem_map.1 hc
 simp [cSl] at hd
 rcases hd with rfl | rfl <;> rfl
abbrev zIM (hs : List (List (Int × Int))) : Ent := .arr zEf 1 0 (.nest [yA]) (eL cHs hs)
theorem z5j (g : Grd) (grads rows : List Int) (c : Cfg) (hsm : smG g) (ht : wg g grads c) (hr : rowsP g rows) : z6 PR z9N [aG g, aIs grads, aIs rows] zHN [(0, zIM (z0N g grads rows g.cuts.length))] 1 := by
 have h4 := ht.1.1.2
 refine z6.intro hTn (pf Tryz.func211) rfl (by kernel_rfl) Tryz.ntmps211 rfl ?_
 conv => whnf
 refine .inl ⟨_, _, _, z16 g hsm, rfl, ?_⟩
 rw [z2I ht.1]
 conv => whnf
 refine zZ 0 ?_
 conv => whnf
 refine zB hTn [1, 2, 3, 8, 18, 19, 20] (α := Nat) (fun k => { t := [(1, aIs grads), (2, aIs rows), (3, .c (.d (.rp [.sl 1 (eL cIs g.cuts), .sl 1 (eL cIs g.bins)]))), (8, .c (.ref 0 0 none)), (18, aIss g.cuts), (19, ai g.cuts.length), (20, ai k)], h := [(0, zIM (z0N g grads rows k))], n := 1, N := 47 })
  (fun k => k ≤ g.cuts.length) (fun k => g.cuts.length - k) 0 (by ((conv => whnf); simp only [eS, z0N, List.range_zero, List.map_nil, zg]); rfl) (Nat.zero_le _) ?_
 intro k hk
 conv => whnf
 refine zK (fun h1 => ?_) (fun h1 => ?_) <;> (conv => whnf) <;> simp at h1
 ·obtain ⟨g1, g2, g3, _, _⟩ := z4A ht.1 h1
  have g7 := g3.2.1
  refine zE (by simp) g1 ?_
  conv => whnf
  refine zE (by simp) g2 ?_
  conv => whnf
  rw [show wAdd .i64 (nInt (dLen (eL cI (wn g k)))) 1 = (((wn g k).length + 1 : Nat) : Int) by rw [show nInt (dLen (eL cI (wn g k))) = ((wn g k).length : Int) by simp, y1] <;> omega]
  refine .inl ⟨_, _, _, z91 _ _ _ _ (z7t ht hr h1), rfl, ?_⟩
  conv => whnf
  refine ⟨zH8 _, ?_⟩
  conv => whnf
  refine And.intro (by simp [zF, zS, z1W]; omega) ?_
  conv => whnf
  refine ⟨k + 1, by omega, by omega, ?_⟩
  ((conv => whnf); simp only [eS, wI h1 (by omega)])
  rw [zAF, ← zY]
  rfl
 ·obtain rfl : k = g.cuts.length := by omega
  rfl
theorem z5V (g : Grd) (grads rows : List Int) (c : Cfg) (hsm : smG g) (ht : wg g grads c) (hr : rowsP g rows) : z6 PR z9G [aG g, aIs grads, aIs rows] zHN [(0, zIM (z0N g grads rows g.cuts.length))] 1 := by
 have h4 := ht.1.1.2
 refine z6.intro hTn (pf Tryz.func203) rfl (by kernel_rfl) Tryz.ntmps203 rfl ?_
 conv => whnf
 refine .inl ⟨_, _, _, z12 g hsm, rfl, ?_⟩
 rw [z2I ht.1]
 conv => whnf
 refine zZ 0 ?_
 conv => whnf
 refine zB hTn [1, 2, 3, 8, 9] (α := Nat) (fun k => { t := [(1, aIs grads), (2, aIs rows), (3, .c (.d (.rp [.sl 1 (eL cIs g.cuts), .sl 1 (eL cIs g.bins)]))), (8, .c (.ref 0 0 none)), (9, ai k)], h := [(0, zIM (z0N g grads rows k))], n := 1, N := 50 })
  (fun k => k ≤ g.cuts.length) (fun k => g.cuts.length - k) 0 (by ((conv => whnf); simp only [eS, z0N, List.range_zero, List.map_nil, zg]); rfl) (Nat.zero_le _) ?_
 intro k hk
 conv => whnf
 rw [show nInt (dLen (eL cIs g.cuts)) = (g.cuts.length : Int) by simp]
 refine zK (fun h1 => ?_) (fun h1 => ?_) <;> (conv => whnf) <;> simp only [eH] at h1
 ·obtain ⟨g1, g2, g3, _, _⟩ := z4A ht.1 (show k < g.cuts.length by omega)
  have g7 := g3.2.1
  have e1 : wAdd .i64 (nInt (dLen (eL cI (wn g k)))) 1 = (((wn g k).length + 1 : Nat) : Int) := by rw [show nInt (dLen (eL cI (wn g k))) = ((wn g k).length : Int) by simp, y1] <;> omega
  refine zO hTn hmix [1, 2, 3, 8, 9, 10, 11] { t := [(1, aIs grads), (2, aIs rows), (3, .c (.d (.rp [.sl 1 (eL cIs g.cuts), .sl 1 (eL cIs g.bins)]))), (8, .c (.ref 0 0 none)), (9, ai k), (10, .c (.ref 1 0 none)), (11, ab true)], h := [(0, zIM (z0N g grads rows k)), (1, rowH (z07 (wF g k) grads rows ((wn g k).length + 1)))], n := 2, N := 50 } rfl ?_ ?_
  ·repeat' first
    | (refine zR rfl ?_; (conv => whnf))
    | (refine zQ rfl ?_ ?_ <;> (conv => whnf))
    | (refine zC rfl ?_ ?_ ?_ <;> (conv => whnf))
    | (refine zE rfl g1 ?_; (conv => whnf))
    | (refine zE rfl g2 ?_; (conv => whnf))
    | (rw [e1]; refine .inl ⟨_, _, _, z8i _ _ _ _ (z7t ht hr (show k < g.cuts.length by omega)), rfl, ?_⟩; (conv => whnf))
    | (refine zP rfl ?_; (conv => whnf); first | done | rfl)
  conv => whnf
  refine ⟨zH8 _, ?_⟩
  conv => whnf
  refine And.intro (by simp [zF, zS, z1W]; omega) ?_
  conv => whnf
  refine ⟨k + 1, by omega, by omega, ?_⟩
  ((conv => whnf); simp only [eS, wI (show k < g.cuts.length by omega) (by omega)])
  rw [zAF, ← zY]
  rfl
 ·obtain rfl : k = g.cuts.length := by omega
  rfl
theorem zFd {g : Grd} {grads rows : List Int} {c : Cfg} (ht : wg g grads c) (hr : rowsP g rows) (least : Int) : (zC2 g grads rows least).length ≤ 32 := by
 rw [← zAz ht hr least]
 have := z4g (zDB ht hr) least g.cuts.length (by rw [z1W]; omega)
 have := ht.1.1.2
 omega
theorem zHE {g : Grd} {grads rows : List Int} {c : Cfg} (ht : wg g grads c) (hr : rowsP g rows) (least : Int) : ∀ x ∈ zC2 g grads rows least, cdP x := fun x hx => by
 obtain ⟨f, b, h1, h2, rfl, _⟩ := zB1 hx
 exact zGJ ht hr h1 h2
theorem z8z (g : Grd) (grads : List Int) (c : Cfg) (rows : List Int) (b : Int × Int) (hsm : smG g) (ht : wg g grads c) (hr : rowsP g rows) (hb : yU b) : z6 PR zE2 [aG g, aIs grads, aCf c, aIs rows, aB b] (zI4 (z8D (z6K g grads c rows b))) [] 0 := by
 have h40 := ht.1.2.2.1
 have hgl : grads.length = yS g := ht.2.2.1
 have hcs := z7q _ c.rows (zDB ht hr)
 rw [z1W, zAz ht hr] at hcs
 have hbs := z97 c b _ ht.2.1 hb (by have := zFd ht hr c.rows; omega) (zHE ht hr c.rows)
 unfold z6K
 refine z6.intro hTn (pf Tryz.func97) rfl (by kernel_rfl) Tryz.ntmps97 rfl ?_
 conv => whnf
 refine .inl ⟨_, _, _, z3Z g grads c hsm (by omega) ht.2.1.sgl, rfl, ?_⟩
 rw [z4V ht]
 conv => whnf
 refine .inl ⟨_, _, _, z5j g grads rows c hsm ht hr, rfl, ?_⟩
 conv => whnf
 refine zZ 1 ?_
 conv => whnf
 refine zZ 2 ?_
 conv => whnf
 refine zO hTn hmix [10, 11] { t := [(10, .c (.ptr 0 0)), (11, ab (z8D (zB5 c b (zC2 g grads rows c.rows))).2)], h := [(0, zFf (z8D (zB5 c b (zC2 g grads rows c.rows))).1)], n := 1, N := 39 } rfl ?_ ?_
 ·repeat' first
   | (refine zR rfl ?_; (conv => whnf))
   | (refine zQ rfl ?_ ?_ <;> (conv => whnf))
   | (refine zC rfl ?_ ?_ ?_ <;> (conv => whnf))
   | (refine .inl ⟨_, _, _, hcs, rfl, ?_⟩; (conv => whnf))
   | (refine .inl ⟨_, _, _, hbs, rfl, ?_⟩; (conv => whnf))
   | (refine zP rfl ?_; (conv => whnf); first | done | rfl)
 conv => whnf
theorem z8h (g : Grd) (grads : List Int) (c : Cfg) (rows : List Int) (b : Int × Int) (hsm : smG g) (ht : wg g grads c) (hr : rowsP g rows) (hb : yU b) : z6 PR zDb [aG g, aIs grads, aCf c, aIs rows, aB b] (zI4 (z8D (z6K g grads c rows b))) [] 0 := by
 have h40 := ht.1.2.2.1
 have hgl : grads.length = yS g := ht.2.2.1
 have hcs := z7P _ c.rows (zDB ht hr)
 rw [z1W, zAz ht hr] at hcs
 have hbs := z8o c b _ ht.2.1 hb (by have := zFd ht hr c.rows; omega) (zHE ht hr c.rows)
 unfold z6K
 refine z6.intro hTn (pf Tryz.func88) rfl (by kernel_rfl) Tryz.ntmps88 rfl ?_
 conv => whnf
 refine .inl ⟨_, _, _, z3R g grads c hsm (by omega) ht.2.1.sgl, rfl, ?_⟩
 rw [z4V ht]
 conv => whnf
 refine .inl ⟨_, _, _, z5V g grads rows c hsm ht hr, rfl, ?_⟩
 conv => whnf
 refine zZ 1 ?_
 conv => whnf
 refine zZ 2 ?_
 conv => whnf
 refine zO hTn hmix [10, 11] { t := [(10, .c (.ptr 0 0)), (11, ab (z8D (zB5 c b (zC2 g grads rows c.rows))).2)], h := [(0, zFf (z8D (zB5 c b (zC2 g grads rows c.rows))).1)], n := 1, N := 39 } rfl ?_ ?_
 ·repeat' first
   | (refine zR rfl ?_; (conv => whnf))
   | (refine zQ rfl ?_ ?_ <;> (conv => whnf))
   | (refine zC rfl ?_ ?_ ?_ <;> (conv => whnf))
   | (refine .inl ⟨_, _, _, hcs, rfl, ?_⟩; (conv => whnf))
   | (refine .inl ⟨_, _, _, hbs, rfl, ?_⟩; (conv => whnf))
   | (refine zP rfl ?_; (conv => whnf); first | done | rfl)
 conv => whnf
end Go.H.S
