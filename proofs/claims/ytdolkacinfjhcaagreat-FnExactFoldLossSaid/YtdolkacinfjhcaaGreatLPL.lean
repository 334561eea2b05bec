/- Library, part PG: fractions and gains: contracts. -/
import Derived.Test.YtdolkacinfjhcaaGreatLPF
import Derived.Test.YtdolkacinfjhcaaGreatLQO
import Derived.Test.YtdolkacinfjhcaaGreatLPE
import Derived.Test.YtdolkacinfjhcaaGreatLNH
import Derived.Test.YtdolkacinfjhcaaGreatLNC
set_option maxRecDepth 100000
set_option linter.unusedSimpArgs false
set_option linter.unusedVariables false
namespace Go.H.S
open Go Go.Proofs Go.H
attribute [local irreducible] Tri FnSpec FnSpecM FnSpecX FnSpecJ FnSpecB hiU loU
structure frW (f : Int × Int) : Prop where
 num : 0 ≤ f.1
 room : f.1 < 170141183460469231731687303715884105728
 den : 1 ≤ f.2 ∧ f.2 ≤ 1000000
structure frX (a b : Int × Int) : Prop where
 left : frW a
 right : frW b
 ab : a.1 * b.2 < 170141183460469231731687303715884105728
 ba : b.1 * a.2 < 170141183460469231731687303715884105728
abbrev tupX (x y : Int) : AV := .tup [(true, cV x), (true, cV y), (false, [.d (.bool true)])]
theorem impl_FracOk_w {f : Int × Int} (h : frW f) : FnSpec PR f_impl_FracOk [aFr f] (ab true) [] 0 := impl_FracOk_raw _ _ _ (hi_lt h.num h.room) h.den
theorem spec_FracOk_w {f : Int × Int} (h : frW f) : FnSpec PR f_spec_FracOk [aFr f] (ab true) [] 0 := spec_FracOk_raw _ _ _ (hi_lt h.num h.room) h.den
theorem impl_fracOf_spec (n d : Int) (h : frW (n, d)) : FnSpec PR f_impl_fracOf [aV n, ai d] (tupFr (n, d) true) [] 0 := by
 refine FnSpec.intro hT (pf Tryz.func367) rfl (by kernel_rfl) Tryz.ntmps367 rfl ?_
 conv => whnf
 refine .inl ⟨_, _, _, impl_FracOk_w h, rfl, ?_⟩
 conv => whnf
theorem impl_SquareOver_spec (g d : Int) (hg : i64 g) (hd : 1 ≤ d ∧ d ≤ 1000000) : FnSpec PR f_impl_SquareOver [ai g, ai d] (tupFr (g * g, d) true) [] 0 := by
 have hg' : -9223372036854775808 ≤ g ∧ g ≤ 9223372036854775807 := hg
 have hq := sq_in (x := g) (A := 9223372036854775808) (by omega)
 refine FnSpec.intro hT (pf Tryz.func366) rfl (by kernel_rfl) Tryz.ntmps366 rfl ?_
 conv => whnf
 refine .inl ⟨_, _, _, impl_MulWide_sq g hg, rfl, ?_⟩
 conv => whnf
 refine .inl ⟨_, _, _, impl_fracOf_spec (g * g) d ⟨hq.1, by dsimp only; omega, hd⟩, rfl, ?_⟩
 conv => whnf
theorem spec_SquareOver_spec (g d : Int) (hg : i64 g) (hd : 1 ≤ d ∧ d ≤ 1000000) : FnSpec PR f_spec_SquareOver [ai g, ai d] (tupFr (g * g, d) true) [] 0 := by
 have hg' : -9223372036854775808 ≤ g ∧ g ≤ 9223372036854775807 := hg
 have hq := sq_in (x := g) (A := 9223372036854775808) (by omega)
 refine FnSpec.intro hT (pf Tryz.func363) rfl (by kernel_rfl) Tryz.ntmps363 rfl ?_
 conv => whnf
 refine .inl ⟨_, _, _, spec_MulWide_sq g hg, rfl, ?_⟩
 conv => whnf
 refine .inl ⟨_, _, _, spec_FracOk_w (f := (g * g, d)) ⟨hq.1, by dsimp only; omega, hd⟩, rfl, ?_⟩
 conv => whnf
theorem impl_crossed_spec (a b : Int × Int) (h : frX a b) : FnSpec PR f_impl_crossed [aFr a, aFr b] (tupX (a.1 * b.2) (b.1 * a.2)) [] 0 := by
 have ha := h.left.den
 have hb := h.right.den
 refine FnSpec.intro hT (pf Tryz.func353) rfl (by kernel_rfl) Tryz.ntmps353 rfl ?_
 conv => whnf
 refine .inl ⟨_, _, _, impl_FracOk_w h.left, rfl, ?_⟩
 conv => whnf
 refine .inl ⟨_, _, _, impl_FracOk_w h.right, rfl, ?_⟩
 conv => whnf
 refine .inl ⟨_, _, _, impl_ScaleWide_pos a.1 b.2 h.left.num (by omega) h.ab h.left.room, rfl, ?_⟩
 conv => whnf
 refine .inl ⟨_, _, _, impl_ScaleWide_pos b.1 a.2 h.right.num (by omega) h.ba h.right.room, rfl, ?_⟩
 conv => whnf
 refine tri_rp 4 ?_
 conv => whnf
 refine tri_rp 5 ?_
 conv => whnf
 dsimp only [cV, tupX]
 generalize hiU (a.1 * b.2) = u1 at *
 generalize loU (a.1 * b.2) = u2 at *
 generalize hiU (b.1 * a.2) = u3 at *
 generalize loU (b.1 * a.2) = u4 at *
 refine tri_every hT hmix [4, 5, 6] { t := [(4, .c (.ptr 0 0)), (5, .c (.ptr 1 0)), (6, ab true)], h := [(0, .box t_impl_Wide [.d (.bool false), .d (.int .u64 u1), .d (.int .u64 u2)]), (1, .box t_impl_Wide [.d (.bool false), .d (.int .u64 u3), .d (.int .u64 u4)])], n := 2, N := 43 } rfl ?_ ?_
 ·repeat' first
   | (refine anyV_one rfl ?_; (conv => whnf))
   | (refine anyV_two rfl ?_ ?_ <;> (conv => whnf))
   | (refine anyV_three rfl ?_ ?_ ?_ <;> (conv => whnf))
   | (refine anyV_end rfl ?_; (conv => whnf); first | done | rfl)
 conv => whnf
theorem spec_l5Cross_spec (a b : Int × Int) (h : frX a b) : FnSpec PR f_spec_l5Cross [aFr a, aFr b] (tupX (a.1 * b.2) (b.1 * a.2)) [] 0 := by
 have ha := h.left.den
 have hb := h.right.den
 refine FnSpec.intro hT (pf Tryz.func349) rfl (by kernel_rfl) Tryz.ntmps349 rfl ?_
 conv => whnf
 refine .inl ⟨_, _, _, spec_FracOk_w h.left, rfl, ?_⟩
 conv => whnf
 refine .inl ⟨_, _, _, spec_FracOk_w h.right, rfl, ?_⟩
 conv => whnf
 refine .inl ⟨_, _, _, spec_ScaleWide_pos a.1 b.2 h.left.num (by omega) h.ab h.left.room, rfl, ?_⟩
 conv => whnf
 refine .inl ⟨_, _, _, spec_ScaleWide_pos b.1 a.2 h.right.num (by omega) h.ba h.right.room, rfl, ?_⟩
 conv => whnf
 refine tri_rp 4 ?_
 conv => whnf
 refine tri_rp 5 ?_
 conv => whnf
 dsimp only [cV, tupX]
 generalize hiU (a.1 * b.2) = u1 at *
 generalize loU (a.1 * b.2) = u2 at *
 generalize hiU (b.1 * a.2) = u3 at *
 generalize loU (b.1 * a.2) = u4 at *
 refine tri_every hT hmix [4, 5, 6] { t := [(4, .c (.ptr 0 0)), (5, .c (.ptr 1 0)), (6, ab true)], h := [(0, .box t_impl_Wide [.d (.bool false), .d (.int .u64 u1), .d (.int .u64 u2)]), (1, .box t_impl_Wide [.d (.bool false), .d (.int .u64 u3), .d (.int .u64 u4)])], n := 2, N := 43 } rfl ?_ ?_
 ·repeat' first
   | (refine anyV_one rfl ?_; (conv => whnf))
   | (refine anyV_two rfl ?_ ?_ <;> (conv => whnf))
   | (refine anyV_three rfl ?_ ?_ ?_ <;> (conv => whnf))
   | (refine anyV_end rfl ?_; (conv => whnf); first | done | rfl)
 conv => whnf
structure frS (a b : Int × Int) : Prop where
 x : frX a b
 sum : a.1 * b.2 + b.1 * a.2 < 170141183460469231731687303715884105728
 den : a.2 * b.2 ≤ 1000000
def addF (a b : Int × Int) : Int × Int := (a.1 * b.2 + b.1 * a.2, a.2 * b.2)
theorem frX.pos {a b : Int × Int} (h : frX a b) : 0 ≤ a.1 * b.2 ∧ 0 ≤ b.1 * a.2 := ⟨Int.mul_nonneg h.left.num (by have := h.right.den; omega), Int.mul_nonneg h.right.num (by have := h.left.den; omega)⟩
theorem frS.good {a b : Int × Int} (h : frS a b) : frW (addF a b) := by
 have h1 := h.x.pos
 have h2 := h.x.left.den
 have h3 := h.x.right.den
 have h4 : 0 < a.2 * b.2 := Int.mul_pos (by omega) (by omega)
 have h5 := h.sum
 have h6 := h.den
 exact ⟨by unfold addF; dsimp only; omega, by unfold addF; dsimp only; omega, by unfold addF; dsimp only; omega⟩
theorem impl_AddFrac_spec (a b : Int × Int) (h : frS a b) : FnSpec PR f_impl_AddFrac [aFr a, aFr b] (tupFr (addF a b) true) [] 0 := by
 have h1 := h.x.pos
 have h2 := h.x.left.den
 have h3 := h.x.right.den
 have e1 : wMul .i64 a.2 b.2 = a.2 * b.2 := wMul64 (by have : 0 < a.2 * b.2 := Int.mul_pos (by omega) (by omega); omega) (by have := h.den; omega)
 refine FnSpec.intro hT (pf Tryz.func352) rfl (by kernel_rfl) Tryz.ntmps352 rfl ?_
 conv => whnf
 refine .inl ⟨_, _, _, impl_crossed_spec a b h.x, rfl, ?_⟩
 conv => whnf
 refine .inl ⟨_, _, _, impl_AddWide_pos _ _ h1.1 h1.2 h.sum, rfl, ?_⟩
 conv => whnf
 rw [e1]
 refine .inl ⟨_, _, _, impl_fracOf_spec _ _ h.good, rfl, ?_⟩
 conv => whnf
 rfl
theorem spec_AddFrac_spec (a b : Int × Int) (h : frS a b) : FnSpec PR f_spec_AddFrac [aFr a, aFr b] (tupFr (addF a b) true) [] 0 := by
 have h1 := h.x.pos
 have h2 := h.x.left.den
 have h3 := h.x.right.den
 have e1 : wMul .i64 a.2 b.2 = a.2 * b.2 := wMul64 (by have : 0 < a.2 * b.2 := Int.mul_pos (by omega) (by omega); omega) (by have := h.den; omega)
 refine FnSpec.intro hT (pf Tryz.func348) rfl (by kernel_rfl) Tryz.ntmps348 rfl ?_
 conv => whnf
 refine .inl ⟨_, _, _, spec_l5Cross_spec a b h.x, rfl, ?_⟩
 conv => whnf
 refine .inl ⟨_, _, _, spec_AddWide_pos _ _ h1.1 h1.2 h.sum, rfl, ?_⟩
 conv => whnf
 rw [e1]
 refine .inl ⟨_, _, _, spec_FracOk_w (f := addF a b) h.good, rfl, ?_⟩
 conv => whnf
 rfl
theorem impl_CompareFrac_spec (a b : Int × Int) (h : frX a b) : FnSpec PR f_impl_CompareFrac [aFr a, aFr b] (tupIk (cmpF a b) true) [] 0 := by
 have h1 := h.pos
 refine FnSpec.intro hT (pf Tryz.func328) rfl (by kernel_rfl) Tryz.ntmps328 rfl ?_
 conv => whnf
 refine .inl ⟨_, _, _, impl_crossed_spec a b h, rfl, ?_⟩
 conv => whnf
 refine .inl ⟨_, _, _, impl_CompareWide_pos _ _ h1.1 h1.2, rfl, ?_⟩
 conv => whnf
 rfl
theorem spec_CompareFrac_spec (a b : Int × Int) (h : frX a b) : FnSpec PR f_spec_CompareFrac [aFr a, aFr b] (tupIk (cmpF a b) true) [] 0 := by
 have h1 := h.pos
 refine FnSpec.intro hT (pf Tryz.func322) rfl (by kernel_rfl) Tryz.ntmps322 rfl ?_
 conv => whnf
 refine .inl ⟨_, _, _, spec_l5Cross_spec a b h, rfl, ?_⟩
 conv => whnf
 refine .inl ⟨_, _, _, spec_CompareWide_pos _ _ h1.1 h1.2, rfl, ?_⟩
 conv => whnf
 rfl
theorem fr_x {a b : Int × Int} (ha : frP a) (hb : frP b) : frX a b := by
 obtain ⟨a1, a2⟩ := ha
 obtain ⟨b1, b2⟩ := hb
 have h1 := mul_in (x := a.1) (y := b.2) a1 ⟨by omega, b2.2⟩
 have h2 := mul_in (x := b.1) (y := a.2) b1 ⟨by omega, a2.2⟩
 exact ⟨⟨by omega, by omega, by omega⟩, ⟨by omega, by omega, by omega⟩, by omega, by omega⟩
theorem gain_s {c : Cd} {lam : Int} (hs : slP c.l) (ht : slP c.r) (hl : 1 ≤ lam ∧ lam ≤ 100) : frS (gainS c.l lam) (gainS c.r lam) := by
 have h1 := gainC_in hs ht hl
 refine ⟨fr_x (gainS_fr hs hl) (gainS_fr ht hl), ?_, ?_⟩
 ·unfold gainS; dsimp only; omega
 ·unfold gainS; dsimp only; omega
theorem gain_add (c : Cd) (lam : Int) : addF (gainS c.l lam) (gainS c.r lam) = gainC c lam := rfl
theorem impl_PlainGain_spec (s : Int × Int) (lam : Int) (hs : slP s) (hl : 1 ≤ lam ∧ lam ≤ 100) : FnSpec PR f_impl_PlainGain [aB s, ai lam] (tupFr (gainS s lam) true) [] 0 := by
 obtain ⟨h1, h2⟩ := hs
 have e1 : wAdd .i64 s.1 lam = s.1 + lam := wAdd64 (by omega) (by omega)
 refine FnSpec.intro hT (pf Tryz.func351) rfl (by kernel_rfl) Tryz.ntmps351 rfl ?_
 conv => whnf
 refine .inl ⟨_, _, _, impl_isCount_spec _ _, rfl, ?_⟩
 rw [decide_eq_true h1, decide_eq_true hl]
 conv => whnf
 rw [e1]
 refine .inl ⟨_, _, _, impl_SquareOver_spec s.2 (s.1 + lam) (show i64 s.2 from ⟨by omega, by omega⟩) (by omega), rfl, ?_⟩
 conv => whnf
 rfl
theorem spec_PlainGain_spec (s : Int × Int) (lam : Int) (hs : slP s) (hl : 1 ≤ lam ∧ lam ≤ 100) : FnSpec PR f_spec_PlainGain [aB s, ai lam] (tupFr (gainS s lam) true) [] 0 := by
 obtain ⟨h1, h2⟩ := hs
 have e1 : wAdd .i64 s.1 lam = s.1 + lam := wAdd64 (by omega) (by omega)
 refine FnSpec.intro hT (pf Tryz.func347) rfl (by kernel_rfl) Tryz.ntmps347 rfl ?_
 conv => whnf
 refine .inl ⟨_, _, _, spec_l1In_spec _ _ _, rfl, ?_⟩
 rw [decide_eq_true h1]
 conv => whnf
 refine .inl ⟨_, _, _, spec_l1In_spec _ _ _, rfl, ?_⟩
 rw [decide_eq_true hl]
 conv => whnf
 rw [e1]
 refine .inl ⟨_, _, _, spec_SquareOver_spec s.2 (s.1 + lam) (show i64 s.2 from ⟨by omega, by omega⟩) (by omega), rfl, ?_⟩
 conv => whnf
 rfl
theorem impl_GainOf_spec (c : Cd) (lam : Int) (h1 : slP c.l) (h2 : slP c.r) (hl : 1 ≤ lam ∧ lam ≤ 100) : FnSpec PR f_impl_GainOf [aCd c, ai lam] (tupFr (gainC c lam) true) [] 0 := by
 refine FnSpec.intro hT (pf Tryz.func327) rfl (by kernel_rfl) Tryz.ntmps327 rfl ?_
 conv => whnf
 refine .inl ⟨_, _, _, impl_PlainGain_spec c.l lam h1 hl, rfl, ?_⟩
 conv => whnf
 refine .inl ⟨_, _, _, impl_PlainGain_spec c.r lam h2 hl, rfl, ?_⟩
 conv => whnf
 refine .inl ⟨_, _, _, impl_AddFrac_spec _ _ (gain_s h1 h2 hl), rfl, ?_⟩
 rw [gain_add]
 conv => whnf
theorem spec_GainOf_spec (c : Cd) (lam : Int) (h1 : slP c.l) (h2 : slP c.r) (hl : 1 ≤ lam ∧ lam ≤ 100) : FnSpec PR f_spec_GainOf [aCd c, ai lam] (tupFr (gainC c lam) true) [] 0 := by
 refine FnSpec.intro hT (pf Tryz.func321) rfl (by kernel_rfl) Tryz.ntmps321 rfl ?_
 conv => whnf
 refine .inl ⟨_, _, _, spec_PlainGain_spec c.l lam h1 hl, rfl, ?_⟩
 conv => whnf
 refine .inl ⟨_, _, _, spec_PlainGain_spec c.r lam h2 hl, rfl, ?_⟩
 conv => whnf
 refine .inl ⟨_, _, _, spec_AddFrac_spec _ _ (gain_s h1 h2 hl), rfl, ?_⟩
 rw [gain_add]
 conv => whnf
end Go.H.S
namespace Go.H.S
open Go Go.Proofs Go.H
attribute [local irreducible] Tri FnSpec FnSpecM FnSpecX FnSpecJ FnSpecB hiU loU
theorem impl_AddInt_small (a b : Int) (ha : -2305843009213693952 ≤ a ∧ a ≤ 2305843009213693952) (hb : -2305843009213693952 ≤ b ∧ b ≤ 2305843009213693952) : FnSpec PR f_impl_AddInt [ai a, ai b] (tupIk (a + b) true) [] 0 := by
 have e1 : wAdd .i64 a b = a + b := wAdd64 (by omega) (by omega)
 refine FnSpec.intro hT (pf Tryz.func178) rfl (by kernel_rfl) Tryz.ntmps178 rfl ?_
 conv => whnf
 rw [e1]
 cases g1 : bEq (iLt a 0) (iLt b 0)
 ·conv => whnf
 ·have g2 : bNot (bEq (iLt (a + b) 0) (iLt a 0)) = false := by
   rcases Int.lt_or_le a 0 with p | p <;> rcases Int.lt_or_le b 0 with q | q
   ·rw [show iLt a 0 = true from decide_eq_true p, show iLt (a + b) 0 = true from decide_eq_true (by omega)]; rfl
   ·rw [show iLt a 0 = true from decide_eq_true p, show iLt b 0 = false from decide_eq_false (by omega)] at g1; cases g1
   ·rw [show iLt a 0 = false from decide_eq_false (by omega), show iLt b 0 = true from decide_eq_true q] at g1; cases g1
   ·rw [show iLt a 0 = false from decide_eq_false (by omega), show iLt (a + b) 0 = false from decide_eq_false (by omega)]; rfl
  conv => whnf
  rw [g2]
  conv => whnf
theorem spec_AddInt_small (a b : Int) (ha : -2305843009213693952 ≤ a ∧ a ≤ 2305843009213693952) (hb : -2305843009213693952 ≤ b ∧ b ≤ 2305843009213693952) : FnSpec PR f_spec_AddInt [ai a, ai b] (tupIk (a + b) true) [] 0 := by
 have e1 : wAdd .i64 a b = a + b := wAdd64 (by omega) (by omega)
 have e2 : wSub .i64 9223372036854775807 b = 9223372036854775807 - b ∨ b ≤ 0 := by
  rcases Int.lt_or_le 0 b with q | q
  ·exact .inl (wSub64 (by omega) (by omega))
  ·exact .inr q
 have e3 : wSub .i64 (-9223372036854775808) b = -9223372036854775808 - b ∨ 0 ≤ b := by
  rcases Int.lt_or_le b 0 with q | q
  ·exact .inl (wSub64 (by omega) (by omega))
  ·exact .inr q
 refine FnSpec.intro hT (pf Tryz.func186) rfl (by kernel_rfl) Tryz.ntmps186 rfl ?_
 conv => whnf
 cases g1 : iLt 0 b <;> simp only [eH] at g1 <;> (conv => whnf)
 ·cases g2 : iLt b 0 <;> simp only [eH] at g2 <;> (conv => whnf)
  ·rw [e1]
  ·rcases e3 with e3 | e3
   ·rw [e3, show iLt a (-9223372036854775808 - b) = false from decide_eq_false (by omega)]
    conv => whnf
    rw [e1]
   ·omega
 ·rcases e2 with e2 | e2
  ·rw [e2, show iLt (9223372036854775807 - b) a = false from decide_eq_false (by omega)]
   conv => whnf
   rw [show iLt b 0 = false from decide_eq_false (by omega)]
   conv => whnf
   rw [e1]
  ·omega
theorem impl_SubInt_small (a b : Int) (ha : -2305843009213693952 ≤ a ∧ a ≤ 2305843009213693952) (hb : -2305843009213693952 ≤ b ∧ b ≤ 2305843009213693952) : FnSpec PR f_impl_SubInt [ai a, ai b] (tupIk (a - b) true) [] 0 := by
 have e1 : wSub .i64 a b = a - b := wSub64 (by omega) (by omega)
 refine FnSpec.intro hT (pf Tryz.func256) rfl (by kernel_rfl) Tryz.ntmps256 rfl ?_
 conv => whnf
 rw [e1]
 cases g1 : bNot (bEq (iLt a 0) (iLt b 0))
 ·conv => whnf
 ·have g2 : bNot (bEq (iLt (a - b) 0) (iLt a 0)) = false := by
   rcases Int.lt_or_le a 0 with p | p <;> rcases Int.lt_or_le b 0 with q | q
   ·rw [show iLt a 0 = true from decide_eq_true p, show iLt b 0 = true from decide_eq_true q] at g1; cases g1
   ·rw [show iLt a 0 = true from decide_eq_true p, show iLt (a - b) 0 = true from decide_eq_true (by omega)]; rfl
   ·rw [show iLt a 0 = false from decide_eq_false (by omega), show iLt (a - b) 0 = false from decide_eq_false (by omega)]; rfl
   ·rw [show iLt a 0 = false from decide_eq_false (by omega), show iLt b 0 = false from decide_eq_false (by omega)] at g1; cases g1
  conv => whnf
  rw [g2]
  conv => whnf
theorem spec_SubInt_small (a b : Int) (ha : -2305843009213693952 ≤ a ∧ a ≤ 2305843009213693952) (hb : -2305843009213693952 ≤ b ∧ b ≤ 2305843009213693952) : FnSpec PR f_spec_SubInt [ai a, ai b] (tupIk (a - b) true) [] 0 := by
 have e1 : wSub .i64 a b = a - b := wSub64 (by omega) (by omega)
 refine FnSpec.intro hT (pf Tryz.func169) rfl (by kernel_rfl) Tryz.ntmps169 rfl ?_
 conv => whnf
 cases g1 : iLt b 0 <;> simp only [eH] at g1 <;> (conv => whnf)
 ·cases g2 : iLt 0 b <;> simp only [eH] at g2 <;> (conv => whnf)
  ·rw [e1]
  ·rw [show wAdd .i64 (-9223372036854775808) b = -9223372036854775808 + b from wAdd64 (by omega) (by omega), show iLt a (-9223372036854775808 + b) = false from decide_eq_false (by omega)]
   conv => whnf
   rw [e1]
 ·rw [show wAdd .i64 9223372036854775807 b = 9223372036854775807 + b from wAdd64 (by omega) (by omega), show iLt (9223372036854775807 + b) a = false from decide_eq_false (by omega)]
  conv => whnf
  rw [show iLt 0 b = false from decide_eq_false (by omega)]
  conv => whnf
  rw [e1]
abbrev tupSk (x : Int × Int) (b : Bool) : AV := .tup [(true, cB x), (false, [.d (.bool b)])]
theorem impl_plus_spec (a b : Int × Int) (ha : slB a) (hb : slB b) : FnSpec PR f_impl_Slot_plus [aB a, aB b] (tupSk (addS a b) true) [] 0 := by
 obtain ⟨a1, a2⟩ := ha
 obtain ⟨b1, b2⟩ := hb
 refine FnSpec.intro hT (pf Tryz.func324) rfl (by kernel_rfl) Tryz.ntmps324 rfl ?_
 conv => whnf
 refine .inl ⟨_, _, _, impl_AddInt_small a.1 b.1 (by omega) (by omega), rfl, ?_⟩
 conv => whnf
 refine .inl ⟨_, _, _, impl_AddInt_small a.2 b.2 (by omega) (by omega), rfl, ?_⟩
 conv => whnf
 rfl
theorem impl_minus_spec (a b : Int × Int) (ha : slB a) (hb : slB b) : FnSpec PR f_impl_Slot_minus [aB a, aB b] (tupSk (subS a b) true) [] 0 := by
 obtain ⟨a1, a2⟩ := ha
 obtain ⟨b1, b2⟩ := hb
 refine FnSpec.intro hT (pf Tryz.func289) rfl (by kernel_rfl) Tryz.ntmps289 rfl ?_
 conv => whnf
 refine .inl ⟨_, _, _, impl_SubInt_small a.1 b.1 (by omega) (by omega), rfl, ?_⟩
 conv => whnf
 refine .inl ⟨_, _, _, impl_SubInt_small a.2 b.2 (by omega) (by omega), rfl, ?_⟩
 conv => whnf
 rfl
theorem spec_l13Add_spec (a b : Int × Int) (ha : slB a) (hb : slB b) : FnSpec PR f_spec_l13Add [aB a, aB b] (tupSk (addS a b) true) [] 0 := by
 obtain ⟨a1, a2⟩ := ha
 obtain ⟨b1, b2⟩ := hb
 refine FnSpec.intro hT (pf Tryz.func318) rfl (by kernel_rfl) Tryz.ntmps318 rfl ?_
 conv => whnf
 refine .inl ⟨_, _, _, spec_AddInt_small a.1 b.1 (by omega) (by omega), rfl, ?_⟩
 conv => whnf
 refine .inl ⟨_, _, _, spec_AddInt_small a.2 b.2 (by omega) (by omega), rfl, ?_⟩
 conv => whnf
 rfl
theorem slP.b {s : Int × Int} (h : slP s) : slB s := by obtain ⟨h1, h2⟩ := h; exact ⟨by omega, by omega⟩
theorem impl_BothOf_spec (c : Cd) (h1 : slP c.l) (h2 : slP c.r) : FnSpec PR f_impl_BothOf [aCd c] (tupSk (addS c.l c.r) true) [] 0 := by
 refine FnSpec.intro hT (pf Tryz.func350) rfl (by kernel_rfl) Tryz.ntmps350 rfl ?_
 conv => whnf
 refine .inl ⟨_, _, _, impl_plus_spec c.l c.r h1.b h2.b, rfl, ?_⟩
 conv => whnf
theorem spec_BothOf_spec (c : Cd) (h1 : slP c.l) (h2 : slP c.r) : FnSpec PR f_spec_BothOf [aCd c] (tupSk (addS c.l c.r) true) [] 0 := by
 refine FnSpec.intro hT (pf Tryz.func346) rfl (by kernel_rfl) Tryz.ntmps346 rfl ?_
 conv => whnf
 refine .inl ⟨_, _, _, spec_l13Add_spec c.l c.r h1.b h2.b, rfl, ?_⟩
 conv => whnf
theorem impl_Improves_spec (c : Cd) (lam : Int) (hc : cdP c) (hl : 1 ≤ lam ∧ lam ≤ 100) : FnSpec PR f_impl_Improves [aCd c, ai lam] (ab (impr c lam)) [] 0 := by
 obtain ⟨h1, h2, h3, _⟩ := hc
 refine FnSpec.intro hT (pf Tryz.func326) rfl (by kernel_rfl) Tryz.ntmps326 rfl ?_
 conv => whnf
 refine .inl ⟨_, _, _, impl_GainOf_spec c lam h1 h2 hl, rfl, ?_⟩
 conv => whnf
 refine .inl ⟨_, _, _, impl_BothOf_spec c h1 h2, rfl, ?_⟩
 conv => whnf
 refine .inl ⟨_, _, _, impl_PlainGain_spec (addS c.l c.r) lam h3 hl, rfl, ?_⟩
 conv => whnf
 refine .inl ⟨_, _, _, impl_CompareFrac_spec _ _ (fr_x (gainC_fr h1 h2 hl) (gainS_fr h3 hl)), rfl, ?_⟩
 conv => whnf
 rfl
theorem spec_Improves_spec (c : Cd) (lam : Int) (hc : cdP c) (hl : 1 ≤ lam ∧ lam ≤ 100) : FnSpec PR f_spec_Improves [aCd c, ai lam] (ab (impr c lam)) [] 0 := by
 obtain ⟨h1, h2, h3, _⟩ := hc
 refine FnSpec.intro hT (pf Tryz.func320) rfl (by kernel_rfl) Tryz.ntmps320 rfl ?_
 conv => whnf
 refine .inl ⟨_, _, _, spec_BothOf_spec c h1 h2, rfl, ?_⟩
 conv => whnf
 refine .inl ⟨_, _, _, spec_GainOf_spec c lam h1 h2 hl, rfl, ?_⟩
 conv => whnf
 refine .inl ⟨_, _, _, spec_PlainGain_spec (addS c.l c.r) lam h3 hl, rfl, ?_⟩
 conv => whnf
 refine .inl ⟨_, _, _, spec_CompareFrac_spec _ _ (fr_x (gainC_fr h1 h2 hl) (gainS_fr h3 hl)), rfl, ?_⟩
 conv => whnf
 rfl
theorem cmp_isNaN_int_spec (x : Int) : FnSpec PR f_cmp_isNaN_int [ai x] (ab false) [] 0 := by
 refine FnSpec.intro hT (pf Tryz.func362) rfl (by kernel_rfl) Tryz.ntmps362 rfl ?_
 conv => whnf
 rw [show iEq x x = true from decide_eq_true rfl]
 rfl
theorem cmp_Compare_int_spec (x y : Int) : FnSpec PR f_cmp_Compare_int [ai x, ai y] (ai (cmpI x y)) [] 0 := by
 refine FnSpec.intro hT (pf Tryz.func355) rfl (by kernel_rfl) Tryz.ntmps355 rfl ?_
 conv => whnf
 refine .inl ⟨_, _, _, cmp_isNaN_int_spec x, rfl, ?_⟩
 conv => whnf
 refine .inl ⟨_, _, _, cmp_isNaN_int_spec y, rfl, ?_⟩
 conv => whnf
 unfold cmpI
 refine ifB_i (fun g => ?_) (fun g => ?_) <;> (conv => whnf) <;> simp only [eH] at g
 ·rw [if_pos g]
 ·refine ifB_i (fun g2 => ?_) (fun g2 => ?_) <;> (conv => whnf) <;> simp only [eH] at g2
  ·rw [if_neg (by omega), if_pos g2]
  ·rw [if_neg (by omega), if_neg (by omega)]
theorem lex_less (a b : Cd) : iLt (lexI a.f a.b b.f b.b) 0 = cdLess a b := by
 unfold cdLess
 rcases Int.lt_trichotomy a.f b.f with q | q | q
 ·rw [lexI_lt q, decide_eq_true (.inl q)]; rfl
 ·rw [q, lexI_eq]
  unfold cmpI
  by_cases q2 : a.b < b.b
  ·rw [if_pos q2, decide_eq_true (.inr ⟨rfl, q2⟩)]; rfl
  ·rw [if_neg q2, decide_eq_false (fun h => by rcases h with h | h; exact Int.lt_irrefl _ h; exact q2 h.2)]
   split <;> rfl
 ·rw [lexI_gt q, decide_eq_false (fun h => by rcases h with h | h <;> omega)]; rfl
theorem impl_CandLess_spec (a b : Cd) : FnSpec PR f_impl_CandLess [aCd a, aCd b] (ab (cdLess a b)) [] 0 := by
 rw [← lex_less]
 refine FnSpec.intro hT (pf Tryz.func329) rfl (by kernel_rfl) Tryz.ntmps329 rfl ?_
 conv => whnf
 refine tri_rp 0 ?_
 conv => whnf
 refine tri_rp 1 ?_
 conv => whnf
 refine tri_every hT hmix [4] { t := [(4, ab (iLt (lexI a.f a.b b.f b.b) 0))], h := [], n := 0, N := 18 } rfl ?_ ?_
 ·repeat' first
   | (refine anyV_one rfl ?_; (conv => whnf))
   | (refine anyV_two rfl ?_ ?_ <;> (conv => whnf))
   | (refine anyV_three rfl ?_ ?_ ?_ <;> (conv => whnf))
   | (refine .inl ⟨_, _, _, cmp_Compare_int_spec _ _, rfl, ?_⟩; (conv => whnf))
   | (refine .inl ⟨_, _, _, cmp_Or_int_lit _ _, rfl, ?_⟩; (conv => whnf))
   | (refine anyV_end rfl ?_; (conv => whnf); first | done | rfl)
 conv => whnf
theorem spec_CandLess_spec (a b : Cd) : FnSpec PR f_spec_CandLess [aCd a, aCd b] (ab (cdLess a b)) [] 0 := by
 unfold cdLess
 refine FnSpec.intro hT (pf Tryz.func323) rfl (by kernel_rfl) Tryz.ntmps323 rfl ?_
 conv => whnf
 cases g1 : iLt a.f b.f <;> simp only [eH] at g1 <;> (conv => whnf)
 ·cases g2 : iEq a.f b.f <;> simp only [eH] at g2 <;> (conv => whnf)
  ·rw [decide_eq_false (fun h => by rcases h with h | h <;> omega)]
  ·rw [show decide (a.f < b.f ∨ a.f = b.f ∧ a.b < b.b) = iLt a.b b.b from decide_eq_decide.2 ⟨fun h => by rcases h with h | h; exact absurd h (by omega); exact h.2, fun h => .inr ⟨g2, h⟩⟩]
 ·rw [decide_eq_true (.inl g1)]
theorem impl_Better_spec (a b : Cd) (lam : Int) (ha : cdP a) (hb : cdP b) (hl : 1 ≤ lam ∧ lam ≤ 100) : FnSpec PR f_impl_Better [aCd a, aCd b, ai lam] (ab (better a b lam)) [] 0 := by
 obtain ⟨a1, a2, _, _⟩ := ha
 obtain ⟨b1, b2, _, _⟩ := hb
 unfold better
 refine FnSpec.intro hT (pf Tryz.func287) rfl (by kernel_rfl) Tryz.ntmps287 rfl ?_
 conv => whnf
 refine .inl ⟨_, _, _, impl_GainOf_spec a lam a1 a2 hl, rfl, ?_⟩
 conv => whnf
 refine .inl ⟨_, _, _, impl_GainOf_spec b lam b1 b2 hl, rfl, ?_⟩
 conv => whnf
 refine .inl ⟨_, _, _, impl_CompareFrac_spec _ _ (fr_x (gainC_fr a1 a2 hl) (gainC_fr b1 b2 hl)), rfl, ?_⟩
 conv => whnf
 generalize cmpF (gainC a lam) (gainC b lam) = z
 cases g1 : iLt 0 z <;> simp only [eH] at g1 <;> (conv => whnf)
 ·cases g2 : iEq z 0 <;> simp only [eH] at g2 <;> (conv => whnf)
  ·rw [decide_eq_false (show ¬ 0 < z by omega), decide_eq_false g2]; rfl
  ·refine .inl ⟨_, _, _, impl_CandLess_spec a b, rfl, ?_⟩
   conv => whnf
   rw [decide_eq_false (show ¬ 0 < z by omega), decide_eq_true g2]; rfl
 ·rw [decide_eq_true g1]; rfl
theorem spec_Better_spec (a b : Cd) (lam : Int) (ha : cdP a) (hb : cdP b) (hl : 1 ≤ lam ∧ lam ≤ 100) : FnSpec PR f_spec_Better [aCd a, aCd b, ai lam] (ab (better a b lam)) [] 0 := by
 obtain ⟨a1, a2, _, _⟩ := ha
 obtain ⟨b1, b2, _, _⟩ := hb
 unfold better
 refine FnSpec.intro hT (pf Tryz.func283) rfl (by kernel_rfl) Tryz.ntmps283 rfl ?_
 conv => whnf
 refine .inl ⟨_, _, _, spec_GainOf_spec a lam a1 a2 hl, rfl, ?_⟩
 conv => whnf
 refine .inl ⟨_, _, _, spec_GainOf_spec b lam b1 b2 hl, rfl, ?_⟩
 conv => whnf
 refine .inl ⟨_, _, _, spec_CompareFrac_spec _ _ (fr_x (gainC_fr a1 a2 hl) (gainC_fr b1 b2 hl)), rfl, ?_⟩
 conv => whnf
 generalize cmpF (gainC a lam) (gainC b lam) = z
 cases g1 : iLt 0 z <;> simp only [eH] at g1 <;> (conv => whnf)
 ·cases g2 : iEq z 0 <;> simp only [eH] at g2 <;> (conv => whnf)
  ·rw [decide_eq_false (show ¬ 0 < z by omega), decide_eq_false g2]; rfl
  ·refine .inl ⟨_, _, _, spec_CandLess_spec a b, rfl, ?_⟩
   conv => whnf
   rw [decide_eq_false (show ¬ 0 < z by omega), decide_eq_true g2]; rfl
 ·rw [decide_eq_true g1]; rfl
theorem impl_Agrees_spec (s x y : Int) : FnSpec PR f_impl_Agrees [ai s, ai x, ai y] (ab (agrees s x y)) [] 0 := by
 unfold agrees
 refine FnSpec.intro hT (pf Tryz.func325) rfl (by kernel_rfl) Tryz.ntmps325 rfl ?_
 conv => whnf
 refine ifB_i (fun g => ?_) (fun g => ?_) <;> (conv => whnf) <;> simp only [eH] at g
 ·rw [show decide ((s = 1 → x ≤ y) ∧ (s = -1 → y ≤ x)) = iLe x y from decide_eq_decide.2 ⟨fun h => h.1 g, fun h => ⟨fun _ => h, fun q => by omega⟩⟩]
 ·refine ifB_i (fun g2 => ?_) (fun g2 => ?_) <;> (conv => whnf) <;> simp only [eH] at g2
  ·rw [show decide ((s = 1 → x ≤ y) ∧ (s = -1 → y ≤ x)) = iLe y x from decide_eq_decide.2 ⟨fun h => h.2 g2, fun h => ⟨fun q => by omega, fun _ => h⟩⟩]
  ·rw [decide_eq_true ⟨fun q => absurd q g, fun q => absurd q g2⟩]
theorem spec_Agrees_spec (s x y : Int) : FnSpec PR f_spec_Agrees [ai s, ai x, ai y] (ab (agrees s x y)) [] 0 := by
 unfold agrees
 refine FnSpec.intro hT (pf Tryz.func319) rfl (by kernel_rfl) Tryz.ntmps319 rfl ?_
 conv => whnf
 by_cases g1 : s = 1
 ·rw [show iEq s 1 = true from decide_eq_true g1]
  conv => whnf
  rw [show iEq s 1 = true from decide_eq_true g1]
  conv => whnf
  cases g2 : iLe x y <;> simp only [eH] at g2 <;> (conv => whnf)
  ·rw [show iEq s (-1) = false from decide_eq_false (by omega)]
   conv => whnf
   rw [decide_eq_false (fun h => by have := h.1 g1; omega)]
  ·rw [decide_eq_true ⟨fun _ => g2, fun q => by omega⟩]
 ·rw [show iEq s 1 = false from decide_eq_false g1]
  conv => whnf
  by_cases g2 : s = -1
  ·rw [show iEq s (-1) = true from decide_eq_true g2]
   conv => whnf
   rw [show iEq s 1 = false from decide_eq_false g1]
   conv => whnf
   rw [show iEq s (-1) = true from decide_eq_true g2]
   conv => whnf
   rw [show decide ((s = 1 → x ≤ y) ∧ (s = -1 → y ≤ x)) = iLe y x from decide_eq_decide.2 ⟨fun h => h.2 g2, fun h => ⟨fun q => by omega, fun _ => h⟩⟩]
  ·rw [show iEq s (-1) = false from decide_eq_false g2]
   conv => whnf
   rw [decide_eq_true ⟨fun q => absurd q g1, fun q => absurd q g2⟩]
end Go.H.S
namespace Go.H.S
open Go Go.Proofs Go.H
attribute [local irreducible] Tri FnSpec FnSpecM FnSpecX FnSpecJ FnSpecB
def sumI : List Int → Int
 | [] => 0
 | y :: r => y + sumI r
theorem sumI_app : ∀ (a b : List Int), sumI (a ++ b) = sumI a + sumI b
 | [], b => by simp [sumI]
 | y :: r, b => by simp only [List.cons_append, sumI, sumI_app r b]; omega
theorem sumI_abs {B : Int} : ∀ (l : List Int), (∀ y ∈ l, -B ≤ y ∧ y ≤ B) → -(B * (l.length : Int)) ≤ sumI l ∧ sumI l ≤ B * (l.length : Int)
 | [], _ => by simp [sumI]
 | y :: r, h => by
  have h1 := h y (by simp)
  have h2 := sumI_abs r fun z hz => h z (by simp [hz])
  have e : B * ((y :: r).length : Int) = B * (r.length : Int) + B := by simp only [List.length_cons, Int.natCast_add, Int.natCast_one]; rw [Int.mul_add, Int.mul_one]
  rw [e]
  simp only [sumI]
  omega
def baseL (ys : List Int) : Int := sumI ys / (ys.length : Int)
def resL (ys ps : List Int) : List Int := List.zipWith (fun a b => a - b) ys ps
theorem resL_take {ys ps : List Int} {k : Nat} {y p : Int} (hy : ys[k]? = some y) (hp : ps[k]? = some p) : (resL ys ps).take (k + 1) = (resL ys ps).take k ++ [y - p] := by
 have h : (resL ys ps)[k]? = some (y - p) := by rw [resL, List.getElem?_zipWith, hy, hp]
 rw [List.take_add_one, h]; rfl
theorem resL_len {ys ps : List Int} (h : ys.length = ps.length) : (resL ys ps).length = ys.length := by simp [resL, h]
theorem sum_take {ys : List Int} {k : Nat} {y : Int} (hy : ys[k]? = some y) : sumI (ys.take (k + 1)) = sumI (ys.take k) + y := by
 rw [List.take_add_one, hy, sumI_app]; simp [sumI]
theorem sum_take_abs {ys : List Int} (hl : ys.length ≤ 1000) (hb : ∀ y ∈ ys, -2147483647 ≤ y ∧ y ≤ 2147483647) (k : Nat) : -2147483647000 ≤ sumI (ys.take k) ∧ sumI (ys.take k) ≤ 2147483647000 := by
 have h1 := sumI_abs (B := 2147483647) (ys.take k) fun y hy => hb y (List.mem_of_mem_take hy)
 have h2 : (ys.take k).length ≤ 1000 := by rw [List.length_take]; omega
 omega
set_option maxHeartbeats 4000000 in
theorem spec_BaseOf_spec (ys : List Int) (h1 : 1 ≤ ys.length) (hl : ys.length ≤ 1000) (hb : ∀ y ∈ ys, -2147483647 ≤ y ∧ y ≤ 2147483647) : FnSpec PR f_spec_BaseOf [aIs ys] (tupIk (baseL ys) true) [] 0 := by
 refine FnSpec.intro hT (pf Tryz.func165) rfl (by kernel_rfl) Tryz.ntmps165 rfl ?_
 conv => whnf
 refine tri_loop hT [0, 4, 5] (α := Nat) (fun k => { t := [(0, aIs ys), (4, ai (sumI (ys.take k))), (5, ai k)], h := [], n := 0, N := 32 })
  (fun k => k ≤ ys.length) (fun k => ys.length - k) 0 (by (conv => whnf); first | done | rfl) (Nat.zero_le _) ?_
 intro k hk
 conv => whnf
 refine ifB_i (fun q => ?_) (fun q => ?_) <;> (conv => whnf) <;> simp only [eH] at q
 ·obtain ⟨y, hy⟩ := get_lt (show k < ys.length by omega)
  have hyb := hb y (List.mem_of_getElem? hy)
  have hsb := sum_take_abs hl hb k
  refine idx_at (by simp) hy ?_
  conv => whnf
  refine .inl ⟨_, _, _, spec_AddInt_small (sumI (ys.take k)) y (by omega) (by omega), rfl, ?_⟩
  conv => whnf
  refine ⟨k + 1, by omega, by omega, ?_⟩
  ((conv => whnf); simp only [eS, wI (show k < ys.length by omega) (by omega)])
  rw [sum_take hy]
  first | done | rfl
 ·obtain rfl : k = ys.length := by omega
  have hsb := sum_take_abs hl hb ys.length
  rw [List.take_length] at hsb ⊢
  rw [show nInt (dLen (eL cI ys)) = (ys.length : Int) by simp]
  refine .inl ⟨_, _, _, spec_FloorDiv_spec (sumI ys) ys.length (by omega) (by omega), rfl, ?_⟩
  conv => whnf
  first | done | rfl
abbrev tupRk (xs : List Int) (b : Bool) : AV := .tup [(false, [.d (.sl 1 (eL cI xs))]), (false, [.d (.bool b)])]
set_option maxHeartbeats 4000000 in
theorem spec_Residuals_spec (ys ps : List Int) (he : ys.length = ps.length) (hl : ys.length ≤ 1000) (hb : ∀ y ∈ ys, -2147483647 ≤ y ∧ y ≤ 2147483647) (hp : ∀ p ∈ ps, -1152921504606846976 ≤ p ∧ p ≤ 1152921504606846976) : FnSpec PR f_spec_Residuals [aIs ys, aIs ps] (tupRk (resL ys ps) true) [] 0 := by
 refine FnSpec.intro hT (pf Tryz.func68) rfl (by kernel_rfl) Tryz.ntmps68 rfl ?_
 conv => whnf
 rw [show iEq (nInt (dLen (eL cI ys))) (nInt (dLen (eL cI ps))) = true from decide_eq_true (by simp [he])]
 conv => whnf
 refine tri_loop hT [0, 1, 6, 7] (α := Nat) (fun k => { t := [(0, aIs ys), (1, aIs ps), (6, .c (.ref 0 0 none)), (7, ai k)], h := [(0, .arr t_int 1 0 .own (eL cI ((resL ys ps).take k)))], n := 1, N := 43 })
  (fun k => k ≤ ys.length) (fun k => ys.length - k) 0 (by (conv => whnf); simp only [List.take_zero, eL_nil]; rfl) (Nat.zero_le _) ?_
 intro k hk
 conv => whnf
 refine ifB_i (fun q => ?_) (fun q => ?_) <;> (conv => whnf) <;> simp only [eH] at q
 ·obtain ⟨y, hy⟩ := get_lt (show k < ys.length by omega)
  obtain ⟨p, hpk⟩ := get_lt (show k < ps.length by omega)
  have hyb := hb y (List.mem_of_getElem? hy)
  have hpb := hp p (List.mem_of_getElem? hpk)
  refine tri_every hT hmix [0, 1, 6, 7, 8, 9] { t := [(0, aIs ys), (1, aIs ps), (6, .c (.ref 0 0 none)), (7, ai k), (8, ai (y - p)), (9, ab true)], h := [(0, .arr t_int 1 0 .own (eL cI ((resL ys ps).take k)))], n := 1, N := 43 } rfl ?_ ?_
  ·repeat' first
    | (refine anyV_one rfl ?_; (conv => whnf))
    | (refine anyV_two rfl ?_ ?_ <;> (conv => whnf))
    | (refine anyV_three rfl ?_ ?_ ?_ <;> (conv => whnf))
    | (refine idx_at (k := k) rfl hy ?_; (conv => whnf))
    | (refine idx_at (k := k) rfl hpk ?_; (conv => whnf))
    | (refine .inl ⟨_, _, _, spec_SubInt_small y p (by omega) (by omega), rfl, ?_⟩; (conv => whnf))
    | (refine anyV_end rfl ?_; (conv => whnf); first | done | rfl)
  conv => whnf
  have hlen := resL_len he
  refine And.intro (by simp [partOf_none, eL_length, dLen_len]; omega) ?_
  conv => whnf
  refine ⟨k + 1, by omega, by omega, ?_⟩
  ((conv => whnf); simp only [eS, wI (show k < ys.length by omega) (by omega)])
  rw [resL_take hy hpk, ← eL_app, partOf_none]
  first | done | rfl | exact ⟨rfl, rfl⟩
 ·obtain rfl : k = ys.length := by omega
  rw [← resL_len he, List.take_length]
  conv => whnf
  simp only [partOf_none]
end Go.H.S
namespace Go.H.S
open Go Go.Proofs Go.H
attribute [local irreducible] Tri FnSpec FnSpecM FnSpecX FnSpecJ FnSpecB
theorem rowsOk_at {n : Nat} {ys : List Int} : ∀ {rows : List (List Int)} {k : Nat}, rowsOkL n ys rows k = true → ∀ i r, rows[i]? = some r → r.length = n ∧ valOk ((ys[k + i]?).getD 0) = true ∧ r.all valOk = true
 | [], k, _, i, r, hi => by simp at hi
 | x :: rest, k, h, i, r, hi => by
  simp only [rowsOkL, Bool.and_eq_true, decide_eq_true_eq] at h
  cases i with
  | zero => simp at hi; subst hi; exact ⟨h.1.1, h.1.2.1, h.1.2.2⟩
  | succ i =>
   have := rowsOk_at h.2 i r (by simpa using hi)
   rw [show k + (i + 1) = k + 1 + i by omega]
   exact this
structure tabV (t : Tbl) : Prop where
 n1 : 1 ≤ t.names.length
 n4 : t.names.length ≤ 4
 r1 : 1 ≤ t.rows.length
 r40 : t.rows.length ≤ 40
 yl : t.ys.length = t.rows.length
 cols : ∀ r ∈ t.rows, r.length = t.names.length
 rv : ∀ r ∈ t.rows, ∀ x ∈ r, -2147483647 ≤ x ∧ x ≤ 2147483647
 yv : ∀ y ∈ t.ys, -2147483647 ≤ y ∧ y ≤ 2147483647
theorem tableOk_v {t : Tbl} (h : tableOk t = true) : tabV t := by
 obtain ⟨h1, h2, h3⟩ := tableOk_p h
 simp only [tableOk, Bool.and_eq_true, decide_eq_true_eq] at h
 obtain ⟨_, _, _, _, _, _, h7⟩ := h
 refine ⟨h1.1, h1.2, h2.1, h2.2, h3, fun r hr => ?_, fun r hr x hx => ?_, fun y hy => ?_⟩
 ·obtain ⟨i, hi⟩ := List.getElem?_of_mem hr
  exact (rowsOk_at h7 i r hi).1
 ·obtain ⟨i, hi⟩ := List.getElem?_of_mem hr
  have := List.all_eq_true.1 (rowsOk_at h7 i r hi).2.2 x hx
  simpa [valOk] using this
 ·obtain ⟨i, hi⟩ := List.getElem?_of_mem hy
  have hlt := (List.getElem?_eq_some_iff.1 hi).1
  obtain ⟨r, hr⟩ := get_lt (show i < t.rows.length by omega)
  have := (rowsOk_at h7 i r hr).2.1
  rw [Nat.zero_add, hi] at this
  simpa [valOk] using this
structure szT (t : Tbl) : Prop where
 n : t.names.length ≤ 1048576
 ns : ∀ s ∈ t.names, s.size ≤ 9223372036854775807
 tg : t.target.size ≤ 9223372036854775807
 r : t.rows.length ≤ 1048576
 c : ∀ r ∈ t.rows, r.length ≤ 1048576
 y : t.ys.length ≤ 1048576
def firstP (t : Tbl) : List Int := List.replicate t.ys.length (baseL t.ys)
abbrev cSt (ps : List Int) (ts : List (List Nd)) : List CV := [.d (.sl 1 (eL cI ps)), .d (.sl 1 (eL cT ts))]
abbrev aSt (ps : List Int) (ts : List (List Nd)) : AV := .agg (cSt ps ts)
abbrev tupSt (ps : List Int) (ts : List (List Nd)) (b : Bool) : AV := .tup [(true, cSt ps ts), (false, [.d (.bool b)])]
set_option maxHeartbeats 4000000 in
theorem spec_StateNew_no (t : Tbl) (hz : szT t) (ht : tableOk t = false) : FnSpec PR f_spec_StateNew [aTb t] (tupSt [] [] false) [] 0 := by
 refine FnSpec.intro hT (pf Tryz.func65) rfl (by kernel_rfl) Tryz.ntmps65 rfl ?_
 conv => whnf
 refine .inl ⟨_, _, _, spec_TableOk_spec t hz.n hz.ns hz.tg hz.r hz.c hz.y, rfl, ?_⟩
 rw [ht]
 conv => whnf
 simp only [tupSt, cSt, eL_nil]
set_option maxHeartbeats 4000000 in
theorem spec_StateNew_spec (t : Tbl) (hz : szT t) (ht : tableOk t = true) : FnSpec PR f_spec_StateNew [aTb t] (tupSt (firstP t) [] true) [] 0 := by
 have hv := tableOk_v ht
 refine FnSpec.intro hT (pf Tryz.func65) rfl (by kernel_rfl) Tryz.ntmps65 rfl ?_
 conv => whnf
 refine .inl ⟨_, _, _, spec_TableOk_spec t hz.n hz.ns hz.tg hz.r hz.c hz.y, rfl, ?_⟩
 rw [ht]
 conv => whnf
 refine .inl ⟨_, _, _, spec_BaseOf_spec t.ys (by have := hv.yl; have := hv.r1; omega) (by have := hv.yl; have := hv.r40; omega) hv.yv, rfl, ?_⟩
 conv => whnf
 refine tri_rp 0 ?_
 conv => whnf
 refine tri_nl 2 0 t_int 1 ?_
 conv => whnf
 refine tri_loop hT [1, 2, 4, 5, 7] (α := Nat) (fun k => { t := [(1, rpTb t), (2, .c (.ptr 0 0)), (4, .c (.ptr 1 0)), (5, ai (baseL t.ys)), (7, ai k)], h := [(0, .box t_impl_State [.nl 1, .nl 1]), (1, .box t_impl_State [.ref 2 0 none, .nl 1]), (2, .arr t_int 1 0 .own (eL cI (List.replicate k (baseL t.ys))))], n := 3, N := 33 })
  (fun k => k ≤ t.ys.length) (fun k => t.ys.length - k) 0 (by (conv => whnf); simp only [List.replicate_zero, eL_nil]; rfl) (Nat.zero_le _) ?_
 intro k hk
 conv => whnf
 refine ifB_i (fun q => ?_) (fun q => ?_) <;> (conv => whnf) <;> simp only [eH] at q
 ·have := hv.yl
  have := hv.r40
  refine And.intro (by simp [partOf_none, eL_length, dLen_len]; omega) ?_
  conv => whnf
  refine ⟨k + 1, by omega, by omega, ?_⟩
  ((conv => whnf); simp only [eS, wI (show k < t.ys.length by omega) (by omega)])
  rw [List.replicate_succ', ← eL_app, partOf_none]
  first | done | rfl | exact ⟨rfl, rfl⟩
 ·obtain rfl : k = t.ys.length := by omega
  simp only [partOf_none, tupSt, cSt, eL_nil, firstP]
  first | done | rfl
def shrN (c : Cfg) (n : Nd) : Nd := if n.f = -1 then { n with v := n.v * c.num / c.den } else n
def shrT (c : Cfg) (t : List Nd) : List Nd := t.map (shrN c)
def leafP (n : Nd) : Prop := n.f = -1 → -1099511627776 ≤ n.v ∧ n.v ≤ 1099511627776
theorem shrT_next {c : Cfg} {t : List Nd} {k : Nat} {n : Nd} (h : t[k]? = some n) : (shrT c t).take (k + 1) ++ t.drop (k + 1) = ((shrT c t).take k ++ t.drop k).set k (shrN c n) := by
 have hlt := (List.getElem?_eq_some_iff.1 h).1
 have h1 : (shrT c t)[k]? = some (shrN c n) := by simp [shrT, h]
 have h2 : t.drop k = n :: t.drop (k + 1) := by
  rw [List.drop_eq_getElem_cons hlt]
  congr 1
  exact (List.getElem?_eq_some_iff.1 h).2
 have h3 : ((shrT c t).take k).length = k := by simp [shrT]; omega
 rw [List.take_add_one, h1, h2, List.set_append, if_neg (by omega), h3, Nat.sub_self]
 simp
theorem shrT_same {c : Cfg} {t : List Nd} {k : Nat} {n : Nd} (h : t[k]? = some n) (hf : n.f ≠ -1) : (shrT c t).take (k + 1) ++ t.drop (k + 1) = (shrT c t).take k ++ t.drop k := by
 rw [shrT_next h]
 have h3 : ((shrT c t).take k).length = k := by have := (List.getElem?_eq_some_iff.1 h).1; simp [shrT]; omega
 have hn : shrN c n = n := by simp [shrN, hf]
 rw [hn]
 apply List.ext_getElem?
 intro i
 rw [List.getElem?_set]
 split
 ·rename_i q
  subst q
  split
  ·rw [List.getElem?_append_right (by omega), h3, Nat.sub_self, List.getElem?_drop, Nat.add_zero, h]
  ·rename_i q2
   rw [List.getElem?_eq_none (by omega)]
 ·rfl
set_option maxHeartbeats 4000000 in
theorem spec_Shrunk_spec (v : Int) (c : Cfg) (hc : cfgP c) (hv : -1099511627776 ≤ v ∧ v ≤ 1099511627776) : FnSpec PR f_spec_Shrunk [ai v, aCf c] (tupIk (v * c.num / c.den) true) [] 0 := by
 refine FnSpec.intro hT (pf Tryz.func273) rfl (by kernel_rfl) Tryz.ntmps273 rfl ?_
 conv => whnf
 refine .inl ⟨_, _, _, spec_ConfigOk_spec c (by have := hc.2.2.2.2; omega), rfl, ?_⟩
 rw [cfgOk_t hc]
 conv => whnf
 refine .inl ⟨_, _, _, spec_l14Leaf_spec v, rfl, ?_⟩
 rw [decide_eq_true hv]
 conv => whnf
 have hn : 1 ≤ c.num ∧ c.num ≤ 1000 := ⟨hc.2.2.2.1.1, by have := hc.2.2.2.1.2; have := hc.2.2.1.2; omega⟩
 have hd := hc.2.2.1
 have hm : -1099511627776000 ≤ v * c.num ∧ v * c.num ≤ 1099511627776000 := by
  have a := Int.mul_le_mul_of_nonneg_right hv.1 (show 0 ≤ c.num by omega)
  have b := Int.mul_le_mul_of_nonneg_right hv.2 (show 0 ≤ c.num by omega)
  omega
 rw [show wMul .i64 v c.num = v * c.num from wMul64 (by omega) (by omega)]
 refine .inl ⟨_, _, _, spec_FloorDiv_spec (v * c.num) c.den (by omega) (by omega), rfl, ?_⟩
 conv => whnf
 first | done | rfl
set_option maxHeartbeats 4000000 in
theorem spec_ShrunkTree_spec (t : List Nd) (c : Cfg) (hc : cfgP c) (hl : t.length ≤ 1000) (ht : ∀ n ∈ t, leafP n) : FnSpec PR f_spec_ShrunkTree [aT t, aCf c] (.tup [(true, [.d (.sl 5 (eL cN (shrT c t)))]), (false, [.d (.bool true)])]) [] 0 := by
 refine FnSpec.intro hT (pf Tryz.func184) rfl (by kernel_rfl) Tryz.ntmps184 rfl ?_
 conv => whnf
 refine .inl ⟨_, _, _, spec_l17Copy_spec t (by omega), rfl, ?_⟩
 conv => whnf
 refine tri_rp 0 ?_
 conv => whnf
 refine tri_rp 1 ?_
 conv => whnf
 refine tri_loop hT [2, 3, 4, 6, 7] (α := Nat) (fun k => { t := [(2, .c (.d (.rp [.sl 5 (eL cN t)]))), (3, .c (.d (.rp [.int .i64 c.rounds, .int .i64 c.depth, .int .i64 c.bins, .int .i64 c.lambda, .int .i64 c.rows, .int .i64 c.num, .int .i64 c.den, .sl 1 (eL cI c.signs)]))), (4, .c (.ptr 0 0)), (6, .c (.ptr 1 0)), (7, ai k)], h := [(0, .box t_impl_Tree [.nl 5]), (1, .box t_impl_Tree [.ref 2 0 none]), (2, .arr t_impl_Node 5 0 .own (eL cN ((shrT c t).take k ++ t.drop k)))], n := 3, N := 46 })
  (fun k => k ≤ t.length) (fun k => t.length - k) 0 (by (conv => whnf); simp only [List.take_zero, List.nil_append, List.drop_zero]; rfl) (Nat.zero_le _) ?_
 intro k hk
 conv => whnf
 refine ifB_i (fun q => ?_) (fun q => ?_) <;> (conv => whnf) <;> simp only [eH] at q
 ·obtain ⟨n, hn⟩ := get_lt (show k < t.length by omega)
  have hlf := ht n (List.mem_of_getElem? hn)
  refine idx_at (by simp) hn ?_
  conv => whnf
  refine .inl ⟨_, _, _, spec_l17Inner_spec n, rfl, ?_⟩
  generalize e1 : iEq n.f (-1) = b1
  cases b1 <;> (conv => whnf) <;> simp only [eH] at e1
  ·refine ⟨k + 1, by omega, by omega, ?_⟩
   ((conv => whnf); simp only [eS, wI (show k < t.length by omega) (by omega)])
   rw [shrT_same hn e1]
   first | done | rfl
  ·have hlf1 := hlf e1
   have hlen : ((shrT c t).take k).length = k := by simp [shrT]; omega
   have hx : ((shrT c t).take k ++ t.drop k)[k]? = some n := by rw [List.getElem?_append_right (by omega), hlen, Nat.sub_self, List.getElem?_drop, Nat.add_zero, hn]
   have hall : ((shrT c t).take k ++ t.drop k).length = t.length := by rw [List.length_append, hlen, List.length_drop]; omega
   refine tri_every hT hmix [2, 3, 4, 6, 7, 8, 9] { t := [(2, .c (.d (.rp [.sl 5 (eL cN t)]))), (3, .c (.d (.rp [.int .i64 c.rounds, .int .i64 c.depth, .int .i64 c.bins, .int .i64 c.lambda, .int .i64 c.rows, .int .i64 c.num, .int .i64 c.den, .sl 1 (eL cI c.signs)]))), (4, .c (.ptr 0 0)), (6, .c (.ptr 1 0)), (7, ai k), (8, ai (n.v * c.num / c.den)), (9, ab true)], h := [(0, .box t_impl_Tree [.nl 5]), (1, .box t_impl_Tree [.ref 2 0 none]), (2, .arr t_impl_Node 5 0 .own (eL cN ((shrT c t).take k ++ t.drop k)))], n := 3, N := 46 } rfl ?_ ?_
   ·repeat' first
     | (refine anyV_one rfl ?_; (conv => whnf))
     | (refine anyV_two rfl ?_ ?_ <;> (conv => whnf))
     | (refine anyV_three rfl ?_ ?_ ?_ <;> (conv => whnf))
     | (refine idx_at (k := k) rfl hn ?_; (conv => whnf))
     | (refine .inl ⟨_, _, _, spec_Shrunk_spec n.v c hc hlf1, rfl, ?_⟩; (conv => whnf))
     | (refine anyV_end rfl ?_; (conv => whnf); first | done | rfl)
   conv => whnf
   refine ref_at (k := k) rfl (by rw [show lenRE (eL cN ((shrT c t).take k ++ t.drop k)) none = t.length by simp only [lenRE_none, eL_length, dLen_eL, hall]]; omega) ?_
   conv => whnf
   refine st_at (k := k) (by simp) hx (by simp [cN]) ?_
   conv => whnf
   refine ⟨k + 1, by omega, by omega, ?_⟩
   ((conv => whnf); simp only [eS, wI (show k < t.length by omega) (by omega)])
   rw [shrT_next hn, show nAdd (offR none) (nOf (k : Int)) = k by simp [nAdd_eq], show dOver (cN n) 4 [D.int IntKind.i64 (n.v * c.num / c.den)] = cN (shrN c n) by unfold shrN; rw [if_pos e1, dOver]; rfl, eL_set]
 ·obtain rfl : k = t.length := by omega
  have hs : (shrT c t).take t.length ++ t.drop t.length = shrT c t := by rw [List.drop_length, List.append_nil, List.take_of_length_le (by simp [shrT])]
  rw [hs]
  simp only [partOf_none]
  first | done | rfl
end Go.H.S
namespace Go.H.S
open Go Go.Proofs Go.H
attribute [local irreducible] Tri FnSpec FnSpecM
theorem eq_drop {α : Type} [DecidableEq α] {a b : List α} {k : Nat} {x y : α} (hx : a[k]? = some x) (hy : b[k]? = some y) : decide (a.drop k = b.drop k) = (decide (x = y) && decide (a.drop (k + 1) = b.drop (k + 1))) := by
 rw [drop_at hx, drop_at hy, Bool.eq_iff_iff]
 simp
theorem eq_len {α : Type} [DecidableEq α] {a b : List α} (h : a.length ≠ b.length) : decide (a = b) = false := by
 rw [decide_eq_false_iff_not]
 intro e; rw [e] at h; exact h rfl
theorem slices_Equal_Lint_int_spec (a b : List Int) (ha : a.length ≤ 9223372036854775807) : FnSpec PR f_slices_Equal_Lint_int [aIs a, aIs b] (ab (decide (a = b))) [] 0 := by
 refine FnSpec.intro hT (pf Tryz.func309) rfl (by kernel_rfl) Tryz.ntmps309 rfl ?_
 conv => whnf
 refine ifB_i (fun h0 => ?_) (fun h0 => ?_) <;> (conv => whnf) <;> simp only [eH] at h0
 ·rw [eq_len (by omega)]
 refine tri_loop hT [0, 1, 12, 13] (α := Nat) (fun x => { t := [(0, aIs a), (1, aIs b), (12, ai a.length), (13, ai x)], h := [], n := 0, N := 26 })
  (fun x => x ≤ a.length ∧ decide (a.drop x = b.drop x) = decide (a = b)) (fun x => a.length - x) 0 (by ((conv => whnf); simp only [eS])) ⟨Nat.zero_le _, rfl⟩ ?_
 intro k ⟨hk, hi⟩
 conv => whnf
 refine ifB_i (fun h1 => ?_) (fun h1 => ?_) <;> (conv => whnf) <;> simp at h1
 ·obtain ⟨s, hs⟩ := get_lt h1
  obtain ⟨u, hu⟩ := get_lt (l := b) (k := k) (by omega)
  rw [eq_drop hs hu] at hi
  have ht : iEq s u = decide (s = u) := rfl
  refine tri_conf hT hmix (by kernel_rfl) ?_
  conv => whnf
  refine idx_at (by simp) hs ?_
  conv => whnf
  refine idx_at (by simp) hu ?_
  conv => whnf
  refine ifB_i (fun h2 => ?_) (fun h2 => ?_) <;> (conv => whnf)
  ·have h3 : decide (s = u) = false := by rw [← ht]; exact (bNot_t _).mp h2
   rw [h3] at hi
   simp only [Bool.false_and] at hi
   rw [← hi]
  ·have h3 : decide (s = u) = true := by rw [← ht]; exact (bNot_f _).mp h2
   rw [h3] at hi
   refine ⟨k + 1, by omega, ⟨h1, by rw [← hi, Bool.true_and]⟩, ?_⟩
   ((conv => whnf); simp only [eS, wI h1 ha])
 ·obtain rfl : k = a.length := by omega
  have : decide (a.drop a.length = b.drop a.length) = true := by simp [List.drop_of_length_le (show b.length ≤ a.length by omega)]
  rw [this] at hi
  rw [← hi]
theorem spec_l8Ints_spec (a b : List Int) (ha : a.length ≤ 9223372036854775807) : FnSpec PR f_spec_l8Ints [aIs a, aIs b] (ab (decide (a = b))) [] 0 := by
 refine FnSpec.intro hT (pf Tryz.func311) rfl (by kernel_rfl) Tryz.ntmps311 rfl ?_
 conv => whnf
 refine ifB_i (fun h0 => ?_) (fun h0 => ?_) <;> (conv => whnf) <;> simp only [eH] at h0
 ·rw [eq_len (by omega)]
 refine tri_loop hT [0, 1, 5] (α := Nat) (fun x => { t := [(0, aIs a), (1, aIs b), (5, ai x)], h := [], n := 0, N := 26 })
  (fun x => x ≤ a.length ∧ decide (a.drop x = b.drop x) = decide (a = b)) (fun x => a.length - x) 0 (by ((conv => whnf); simp only [eS])) ⟨Nat.zero_le _, rfl⟩ ?_
 intro k ⟨hk, hi⟩
 conv => whnf
 refine ifB_i (fun h1 => ?_) (fun h1 => ?_) <;> (conv => whnf) <;> simp at h1
 ·obtain ⟨s, hs⟩ := get_lt h1
  obtain ⟨u, hu⟩ := get_lt (l := b) (k := k) (by omega)
  rw [eq_drop hs hu] at hi
  have ht : iEq s u = decide (s = u) := rfl
  refine tri_conf hT hmix (by kernel_rfl) ?_
  conv => whnf
  refine idx_at (by simp) hs ?_
  conv => whnf
  refine idx_at (by simp) hu ?_
  conv => whnf
  refine ifB_i (fun h2 => ?_) (fun h2 => ?_) <;> (conv => whnf)
  ·have h3 : decide (s = u) = false := by rw [← ht]; exact (bNot_t _).mp h2
   rw [h3] at hi
   simp only [Bool.false_and] at hi
   rw [← hi]
  ·have h3 : decide (s = u) = true := by rw [← ht]; exact (bNot_f _).mp h2
   rw [h3] at hi
   refine ⟨k + 1, by omega, ⟨h1, by rw [← hi, Bool.true_and]⟩, ?_⟩
   ((conv => whnf); simp only [eS, wI h1 ha])
 ·obtain rfl : k = a.length := by omega
  have : decide (a.drop a.length = b.drop a.length) = true := by simp [List.drop_of_length_le (show b.length ≤ a.length by omega)]
  rw [this] at hi
  rw [← hi]
end Go.H.S
namespace Go.H.S
open Go Go.Proofs Go.H
attribute [local irreducible] Tri FnSpec FnSpecM
end Go.H.S
namespace Go.H.S
open Go Go.Proofs Go.H
attribute [local irreducible] Tri FnSpec FnSpecM
end Go.H.S
namespace Go.H.S
open Go Go.Proofs Go.H
attribute [local irreducible] Tri FnSpec FnSpecM FnSpecX FnSpecJ FnSpecB
theorem spec_l17Copy_d (t : List Nd) (hl : t.length ≤ 1000000000) : FnSpec PR f_spec_l17Copy [aT t] (aT t) [] 0 := by
 refine FnSpec.intro hT (pf Tryz.func272) rfl (by kernel_rfl) Tryz.ntmps272 rfl ?_
 conv => whnf
 refine And.intro (by simp [eL_length, dLen_len]; omega) ?_
 conv => whnf
 simp only [dApp_nil, partOf_none]
 first | done | rfl
theorem spec_l22Trees_d (ts : List (List Nd)) (hl : ts.length ≤ 1000000) (ht : ∀ t ∈ ts, t.length ≤ 1000000) : FnSpec PR f_spec_l22Trees [aTs ts] (.c (.ref 0 0 none)) [(0, .arr t_impl_Tree 1 0 .own (eL cT ts))] 1 := by
 refine FnSpec.intro hT (pf Tryz.func185) rfl (by kernel_rfl) Tryz.ntmps185 rfl ?_
 conv => whnf
 refine tri_loop hT [0, 3, 4] (α := Nat × List (List Nd)) (fun x => { t := [(0, aTs ts), (3, .c (.ref 0 0 none)), (4, ai x.1)], h := [(0, .arr t_impl_Tree 1 0 .own (eL cT x.2))], n := 1, N := 21 })
  (fun x => x.1 ≤ ts.length ∧ x.2 = ts.take x.1) (fun x => ts.length - x.1) (0, []) (by (conv => whnf); simp only [eL_nil]; rfl) ⟨Nat.zero_le _, by simp⟩ ?_
 intro ⟨k, o⟩ ⟨hk, ho⟩
 dsimp only at hk ho
 conv => whnf
 refine ifB_i (fun h1 => ?_) (fun h1 => ?_) <;> (conv => whnf) <;> simp at h1
 ·obtain ⟨t, hx⟩ := get_lt h1
  have hol : o.length = k := by rw [ho]; simp; omega
  refine idx_at (by simp) hx ?_
  conv => whnf
  refine .inl ⟨_, _, _, spec_l17Copy_d t (by have := ht t (List.mem_of_getElem? hx); omega), rfl, ?_⟩
  conv => whnf
  refine And.intro (by simp [eL_length, dLen_len]; omega) ?_
  conv => whnf
  refine ⟨(k + 1, o ++ [t]), by dsimp only; omega, ⟨h1, by dsimp only; rw [ho, List.take_add_one, hx]; rfl⟩, ?_⟩
  ((conv => whnf); simp only [eS, wI h1 (by omega)])
  rw [← eL_app, partOf_none]
  first | done | rfl | exact ⟨rfl, rfl⟩
 ·obtain rfl : k = ts.length := by omega
  rw [ho, List.take_length]
  first | done | rfl
theorem spec_l9Grids_same (a : List (List Int)) (hl : a.length ≤ 1048576) (hr : ∀ r ∈ a, r.length ≤ 1048576) : FnSpec PR f_spec_l9Grids [aIss a, aIss a] (ab true) [] 0 := by
 refine FnSpec.intro hT (pf Tryz.func271) rfl (by kernel_rfl) Tryz.ntmps271 rfl ?_
 conv => whnf
 rw [show iEq (nInt (dLen (eL cIs a))) (nInt (dLen (eL cIs a))) = true from decide_eq_true rfl]
 conv => whnf
 refine tri_loop hT [0, 1, 5] (α := Nat) (fun k => { t := [(0, aIss a), (1, aIss a), (5, ai k)], h := [], n := 0, N := 27 })
  (fun k => k ≤ a.length) (fun k => a.length - k) 0 (by (conv => whnf); first | done | rfl) (Nat.zero_le _) ?_
 intro k hk
 conv => whnf
 refine ifB_i (fun q => ?_) (fun q => ?_) <;> (conv => whnf) <;> simp only [eH] at q
 ·obtain ⟨r, hr1⟩ := get_lt (show k < a.length by omega)
  have hrl := hr r (List.mem_of_getElem? hr1)
  refine tri_every hT hmix [0, 1, 5, 26] { t := [(0, aIss a), (1, aIss a), (5, ai k), (26, ab false)], h := [], n := 0, N := 27 } rfl ?_ ?_
  ·repeat' first
    | (refine anyV_one rfl ?_; (conv => whnf))
    | (refine anyV_two rfl ?_ ?_ <;> (conv => whnf))
    | (refine anyV_three rfl ?_ ?_ ?_ <;> (conv => whnf))
    | (refine idx_at (k := k) rfl hr1 ?_; (conv => whnf))
    | (refine .inl ⟨_, _, _, spec_l8Ints_spec r r (by omega), rfl, ?_⟩; (conv => whnf))
    | (refine anyV_end rfl ?_; (conv => whnf); rw [show decide (r = r) = true from decide_eq_true rfl]; first | done | rfl)
  conv => whnf
  refine ⟨k + 1, by omega, by omega, ?_⟩
  ((conv => whnf); simp only [eS, wI (show k < a.length by omega) (by omega)])
theorem spec_SameGrid_same (g : Grd) (hg : smG g) : FnSpec PR f_spec_SameGrid [aG g, aG g] (ab true) [] 0 := by
 refine FnSpec.intro hT (pf Tryz.func183) rfl (by kernel_rfl) Tryz.ntmps183 rfl ?_
 conv => whnf
 refine .inl ⟨_, _, _, spec_l9Grids_same g.cuts hg.1 hg.2.2.1, rfl, ?_⟩
 conv => whnf
 refine .inl ⟨_, _, _, spec_l9Grids_same g.bins hg.2.1 hg.2.2.2, rfl, ?_⟩
 conv => whnf
 first | done | rfl
set_option maxHeartbeats 4000000 in
theorem spec_GridOf_d (t : Tbl) (b : Nat) (hb : 2 ≤ b ∧ b ≤ 8) (ht : tableOk t = true) (hn : t.names.length ≤ 1048576) (hns : ∀ s ∈ t.names, s.size ≤ 9223372036854775807) (htg : t.target.size ≤ 9223372036854775807) (hr : t.rows.length ≤ 1048576) (hc : ∀ r ∈ t.rows, r.length ≤ 1048576) (hy : t.ys.length ≤ 1048576) : FnSpec PR f_spec_GridOf [aTb t, ai b] (aG (gridT t b)) [] 0 := by
 obtain ⟨hn4, hr40, hyl⟩ := tableOk_p ht
 show FnSpec PR f_spec_GridOf [aTb t, ai b] (aG ⟨cutsTo t b t.names.length, binsTo t b t.names.length⟩) [] 0
 refine FnSpec.intro hTn (pf Tryz.func66) rfl (by kernel_rfl) Tryz.ntmps66 rfl ?_
 conv => whnf
 refine .inl ⟨_, _, _, spec_TableOk_spec t hn hns htg hr hc hy, rfl, ?_⟩
 rw [ht]
 conv => whnf
 refine .inl ⟨_, _, _, spec_l1In_spec _ _ _, rfl, ?_⟩
 rw [show decide ((2 : Int) ≤ (b : Int) ∧ (b : Int) ≤ 8) = true from decide_eq_true (by omega)]
 conv => whnf
 refine tri_rp 0 ?_
 conv => whnf
 refine tri_nn 2 0 t_Lint 1 [t_int] ?_
 conv => whnf
 refine tri_nn 2 1 t_Lint 1 [t_int] ?_
 conv => whnf
 refine tri_loop hTn [1, 2, 4, 5, 6] (α := Nat) (fun f => { t := [(1, ai b), (2, rpTb t), (4, .c (.ptr 0 0)), (5, .c (.ptr 1 0)), (6, ai f)], h := [(0, .box t_impl_Grid [.nl 1, .nl 1]), (1, .box t_impl_Grid [.ref 2 0 none, .ref 3 0 none]), (2, rowIs (cutsTo t b f)), (3, rowIs (binsTo t b f))], n := 4, N := 63 })
  (fun f => f ≤ t.names.length) (fun f => t.names.length - f) 0 (by (conv => whnf); simp only [rowIs, cutsTo, binsTo, List.range_zero, List.map_nil, eL_nil]; rfl) (Nat.zero_le _) ?_
 intro f hf
 conv => whnf
 refine ifB_i (fun h1 => ?_) (fun h1 => ?_) <;> (conv => whnf) <;> simp at h1
 ·refine .inl ⟨_, _, _, spec_Column_spec t f h1 (by omega) hr hc, rfl, ?_⟩
  conv => whnf
  have hcl := columnL_len t f
  refine .inr (.inl ⟨_, _, _, spec_CutsOf_spec (columnL t f) b hb (by omega), rfl, ⟨flat_cI _, trivial⟩, ?_⟩)
  rw [show cutsOfL (columnL t f) b = cutsT t b f from rfl]
  conv => whnf
  have hkl := cutsT_len t (f := f) hb.2
  refine tri_loop hTn [1, 2, 4, 5, 6, 7, 8, 9, 10] (α := Nat) (fun j => { t := [(1, ai b), (2, rpTb t), (4, .c (.ptr 0 0)), (5, .c (.ptr 1 0)), (6, ai f), (7, aIs (columnL t f)), (8, .c (.ref 4 0 none)), (9, .c (.ref 5 0 none)), (10, ai j)], h := [(0, .box t_impl_Grid [.nl 1, .nl 1]), (1, .box t_impl_Grid [.ref 2 0 none, .ref 3 0 none]), (2, rowIs (cutsTo t b f)), (3, rowIs (binsTo t b f)), (4, .arr t_int 1 0 .own (eL cI (cutsT t b f))), (5, .arr t_int 1 0 .own (eL cI (((columnL t f).take j).map fun v => ((binOfL (cutsT t b f) v : Nat) : Int))))], n := 6, N := 63 })
   (fun j => j ≤ (columnL t f).length) (fun j => (columnL t f).length - j) 0 (by (conv => whnf); simp only [List.take_zero, List.map_nil, eL_nil, partOf_none]; first | done | rfl) (Nat.zero_le _) ?_
  intro j hj
  conv => whnf
  refine ifB_i (fun h2 => ?_) (fun h2 => ?_) <;> (conv => whnf) <;> simp [iLt] at h2
  ·obtain ⟨v, hv⟩ := get_lt (show j < (columnL t f).length by omega)
   refine idx_at (by simp) hv ?_
   conv => whnf
   refine .inr (.inl ⟨_, _, _, spec_BinOf_spec (cutsT t b f) v (by omega), rfl, trivial, ?_⟩)
   conv => whnf
   refine And.intro (by simp [eL_length, dLen_len]; omega) ?_
   conv => whnf
   refine ⟨j + 1, by omega, by omega, ?_⟩
   ((conv => whnf); simp only [eS, wI (show j < (columnL t f).length by omega) (by omega)])
   rw [List.take_add_one, hv, List.map_append, Option.toList_some, List.map_cons, List.map_nil, ← eL_app]
   first | exact ⟨rfl, rfl⟩ | rfl
  ·obtain rfl : j = (columnL t f).length := by omega
   rw [List.take_length, show ((columnL t f).map fun v => ((binOfL (cutsT t b f) v : Nat) : Int)) = binsT t b f from rfl]
   refine ⟨flat_cI _, ?_⟩
   conv => whnf
   refine And.intro (by simp [eL_length, dLen_len, cutsTo_len]; omega) ?_
   conv => whnf
   refine ⟨flat_cI _, ?_⟩
   conv => whnf
   refine And.intro (by simp [eL_length, dLen_len, binsTo_len]; omega) ?_
   conv => whnf
   refine ⟨f + 1, by omega, by omega, ?_⟩
   ((conv => whnf); simp only [eS, wI h1 (by omega)])
   rw [cutsTo_succ, binsTo_succ, ← eL_app, ← eL_app]
   first | exact ⟨rfl, rfl⟩ | rfl
 ·obtain rfl : f = t.names.length := by omega
  first | done | rfl
end Go.H.S
namespace Go.H.S
open Go Go.Proofs Go.H
attribute [local irreducible] Tri FnSpec FnSpecM FnSpecX FnSpecJ FnSpecB hiU loU
abbrev tupSV (x y : Int) : AV := .tup [(false, [.d (.int .i64 x)]), (false, [.d (.int .i64 y)]), (false, [.d (.bool true)])]
theorem cfgP.lam {c : Cfg} (h : cfgP c) : 1 ≤ c.lambda ∧ c.lambda ≤ 100 := ((cfg_five c).1 h.1).2.2.2.1
theorem cfgP.sgl {c : Cfg} (h : cfgP c) : c.signs.length ≤ 1048576 := by have := h.2.2.2.2; omega
theorem impl_SideValues_spec (cfg : Cfg) (b : Int × Int) (c : Cd) (hc : cfgP cfg) (hb : boundP b) (hd : cdP c) : FnSpec PR f_impl_SideValues [aCf cfg, aB b, aCd c] (tupSV (sideL cfg b c) (sideR cfg b c)) [] 0 := by
 obtain ⟨⟨l1, l2⟩, ⟨r1, r2⟩, _⟩ := hd
 refine FnSpec.intro hT (pf Tryz.func107) rfl (by kernel_rfl) Tryz.ntmps107 rfl ?_
 conv => whnf
 refine .inl ⟨_, _, _, impl_LeafOf_spec c.l.1 c.l.2 cfg.lambda b l1 hc.lam (by omega) hb, rfl, ?_⟩
 conv => whnf
 refine .inl ⟨_, _, _, impl_LeafOf_spec c.r.1 c.r.2 cfg.lambda b r1 hc.lam (by omega) hb, rfl, ?_⟩
 conv => whnf
 rfl
theorem spec_SideValues_spec (cfg : Cfg) (b : Int × Int) (c : Cd) (hc : cfgP cfg) (hb : boundP b) (hd : cdP c) : FnSpec PR f_spec_SideValues [aCf cfg, aB b, aCd c] (tupSV (sideL cfg b c) (sideR cfg b c)) [] 0 := by
 obtain ⟨⟨l1, l2⟩, ⟨r1, r2⟩, _⟩ := hd
 refine FnSpec.intro hT (pf Tryz.func115) rfl (by kernel_rfl) Tryz.ntmps115 rfl ?_
 conv => whnf
 refine .inl ⟨_, _, _, spec_LeafOf_spec c.l.1 c.l.2 cfg.lambda b l1 hc.lam (by omega) hb, rfl, ?_⟩
 conv => whnf
 refine .inl ⟨_, _, _, spec_LeafOf_spec c.r.1 c.r.2 cfg.lambda b r1 hc.lam (by omega) hb, rfl, ?_⟩
 conv => whnf
 rfl
theorem impl_MayPart_spec (cfg : Cfg) (b : Int × Int) (c : Cd) (hc : cfgP cfg) (hb : boundP b) (hd : cdP c) : FnSpec PR f_impl_MayPart [aCf cfg, aB b, aCd c] (ab (mayPart cfg b c)) [] 0 := by
 unfold mayPart
 refine FnSpec.intro hT (pf Tryz.func286) rfl (by kernel_rfl) Tryz.ntmps286 rfl ?_
 conv => whnf
 refine .inl ⟨_, _, _, impl_SideValues_spec cfg b c hc hb hd, rfl, ?_⟩
 conv => whnf
 refine .inl ⟨_, _, _, impl_ConfigOk_spec cfg hc.sgl, rfl, ?_⟩
 rw [cfgOk_t hc]
 conv => whnf
 cases g1 : iLe cfg.rows c.l.1 <;> simp only [eH] at g1 <;> (conv => whnf)
 ·rw [decide_eq_false (show ¬ cfg.rows ≤ c.l.1 by omega)]; rfl
 rw [decide_eq_true g1]
 cases g2 : iLe cfg.rows c.r.1 <;> simp only [eH] at g2 <;> (conv => whnf)
 ·rw [decide_eq_false (show ¬ cfg.rows ≤ c.r.1 by omega)]; rfl
 rw [decide_eq_true g2]
 refine .inl ⟨_, _, _, impl_SignFor_spec cfg c.f hc.sgl, rfl, ?_⟩
 conv => whnf
 refine .inl ⟨_, _, _, impl_Agrees_spec _ _ _, rfl, ?_⟩
 conv => whnf
 cases g3 : agrees (signFor cfg c.f) (sideL cfg b c) (sideR cfg b c) <;> (conv => whnf)
 ·rfl
 refine .inl ⟨_, _, _, impl_Improves_spec c cfg.lambda hd hc.lam, rfl, ?_⟩
 conv => whnf
 rfl
theorem spec_MayPart_spec (cfg : Cfg) (b : Int × Int) (c : Cd) (hc : cfgP cfg) (hb : boundP b) (hd : cdP c) : FnSpec PR f_spec_MayPart [aCf cfg, aB b, aCd c] (ab (mayPart cfg b c)) [] 0 := by
 unfold mayPart
 refine FnSpec.intro hT (pf Tryz.func282) rfl (by kernel_rfl) Tryz.ntmps282 rfl ?_
 conv => whnf
 refine .inl ⟨_, _, _, spec_SideValues_spec cfg b c hc hb hd, rfl, ?_⟩
 conv => whnf
 refine .inl ⟨_, _, _, spec_ConfigOk_spec cfg hc.sgl, rfl, ?_⟩
 rw [cfgOk_t hc]
 conv => whnf
 cases g1 : iLe cfg.rows c.l.1 <;> simp only [eH] at g1 <;> (conv => whnf)
 ·rw [decide_eq_false (show ¬ cfg.rows ≤ c.l.1 by omega)]; rfl
 rw [decide_eq_true g1]
 cases g2 : iLe cfg.rows c.r.1 <;> simp only [eH] at g2 <;> (conv => whnf)
 ·rw [decide_eq_false (show ¬ cfg.rows ≤ c.r.1 by omega)]; rfl
 rw [decide_eq_true g2]
 refine .inl ⟨_, _, _, spec_SignFor_spec cfg c.f hc.sgl, rfl, ?_⟩
 conv => whnf
 refine .inl ⟨_, _, _, spec_Agrees_spec _ _ _, rfl, ?_⟩
 conv => whnf
 cases g3 : agrees (signFor cfg c.f) (sideL cfg b c) (sideR cfg b c) <;> (conv => whnf)
 ·rfl
 refine .inl ⟨_, _, _, spec_Improves_spec c cfg.lambda hd hc.lam, rfl, ?_⟩
 conv => whnf
 rfl
def bestR (o : Option Cd) : Cd × Bool := match o with | some c => (c, true) | none => (noCd, false)
abbrev tupCk (x : Cd × Bool) : AV := .tup [(true, cCV x.1), (false, [.d (.bool x.2)])]
abbrev rpCf (c : Cfg) : AV := .c (.d (.rp [.int .i64 c.rounds, .int .i64 c.depth, .int .i64 c.bins, .int .i64 c.lambda, .int .i64 c.rows, .int .i64 c.num, .int .i64 c.den, .sl 1 (eL cI c.signs)]))
abbrev rpB (b : Int × Int) : AV := .c (.d (.rp [.int .i64 b.1, .int .i64 b.2]))
abbrev aCds (l : List Cd) : AV := .c (.d (.sl 6 (eL cCd l)))
abbrev boxCd (c : Cd) : Ent := .box t_impl_Cand (cCV c)
theorem filter_snoc {α : Type} {p : α → Bool} {xs : List α} {k : Nat} {x : α} (h : xs[k]? = some x) : (xs.take (k + 1)).filter p = (xs.take k).filter p ++ (if p x then [x] else []) := by
 rw [List.take_add_one, h, List.filter_append]
 simp only [Option.toList_some, List.filter_cons, List.filter_nil]
theorem all_snoc {α : Type} {p : α → Bool} {xs : List α} {k : Nat} {x : α} (h : xs[k]? = some x) : (xs.take (k + 1)).all p = ((xs.take k).all p && p x) := by
 rw [List.take_add_one, h, List.all_append]
 simp
theorem find_at {α : Type} {p : α → Bool} {xs : List α} {k : Nat} {x : α} (h : xs[k]? = some x) (hn : (xs.take k).find? p = none) (hp : p x = true) : xs.find? p = some x := by
 have hs : xs = xs.take k ++ x :: xs.drop (k + 1) := by rw [← drop_at h, List.take_append_drop]
 rw [hs, List.find?_append, hn]
 simp [hp]
theorem find_next {α : Type} {p : α → Bool} {xs : List α} {k : Nat} {x : α} (h : xs[k]? = some x) (hn : (xs.take k).find? p = none) (hp : p x = false) : (xs.take (k + 1)).find? p = none := by
 rw [List.take_add_one, h, List.find?_append, hn]
 simp [hp]
def topOf (lam : Int) (l : List Cd) (c : Cd) : Bool := l.all fun o => !better o c lam
theorem bestL_eq (cfg : Cfg) (b : Int × Int) (list : List Cd) : bestL cfg b list = (list.filter (mayPart cfg b)).find? (topOf cfg.lambda (list.filter (mayPart cfg b))) := rfl
theorem impl_BestOf_spec (cfg : Cfg) (b : Int × Int) (list : List Cd) (hc : cfgP cfg) (hb : boundP b) (hl : list.length ≤ 1048576) (hd : ∀ c ∈ list, cdP c) : FnSpec PR f_impl_BestOf [aCf cfg, aB b, aCds list] (tupCk (bestR (bestL cfg b list))) [] 0 := by
 rw [bestL_eq]
 refine FnSpec.intro hT (pf Tryz.func212) rfl (by kernel_rfl) Tryz.ntmps212 rfl ?_
 conv => whnf
 refine tri_rp 0 ?_
 conv => whnf
 refine tri_rp 1 ?_
 conv => whnf
 refine tri_loop hT [3, 4, 6, 7, 8, 17, 18, 19] (α := Nat) (fun k => { t := [(3, rpCf cfg), (4, rpB b), (6, .c (.ptr 0 0)), (7, ab false), (8, .c (.ref 1 0 none)), (17, aCds list), (18, ai list.length), (19, ai k)], h := [(0, boxCd noCd), (1, .arr t_impl_Cand 6 0 .own (eL cCd ((list.take k).filter (mayPart cfg b))))], n := 2, N := 65 })
  (fun k => k ≤ list.length) (fun k => list.length - k) 0 (by (conv => whnf); simp only [List.take_zero, List.filter_nil, eL_nil, nInt_eq, dLen_eL]; rfl) (Nat.zero_le _) ?_
 intro k hk
 conv => whnf
 refine ifB_i (fun h1 => ?_) (fun h1 => ?_) <;> (conv => whnf) <;> simp at h1
 ·obtain ⟨x, hx⟩ := get_lt h1
  have hxd := hd x (List.mem_of_getElem? hx)
  have hfl := List.length_filter_le (mayPart cfg b) (list.take k)
  rw [List.length_take] at hfl
  have hs := filter_snoc (p := mayPart cfg b) hx
  refine idx_at (by simp) hx ?_
  conv => whnf
  refine .inl ⟨_, _, _, impl_MayPart_spec cfg b x hc hb hxd, rfl, ?_⟩
  conv => whnf
  cases g : mayPart cfg b x <;> rw [g] at hs <;> (conv => whnf)
  ·refine ⟨k + 1, by omega, by omega, ?_⟩
   ((conv => whnf); simp only [eS, wI h1 (by omega)])
   rw [hs]; simp
  ·refine And.intro (by simp [eL_length, dLen_len]; omega) ?_
   conv => whnf
   refine ⟨k + 1, by omega, by omega, ?_⟩
   ((conv => whnf); simp only [eS, wI h1 (by omega)])
   rw [hs, if_pos rfl, ← eL_app]; rfl
 ·obtain rfl : k = list.length := by omega
  rw [List.take_length]
  have hmd : ∀ c ∈ list.filter (mayPart cfg b), cdP c := fun c hc => hd c (List.mem_filter.1 hc).1
  have hml := List.length_filter_le (mayPart cfg b) list
  generalize list.filter (mayPart cfg b) = may at *
  conv => whnf
  refine tri_loop hT [3, 4, 6, 7, 8, 32, 33, 34] (α := Nat) (fun k => { t := [(3, rpCf cfg), (4, rpB b), (6, .c (.ptr 0 0)), (7, ab false), (8, aCds may), (32, aCds may), (33, ai may.length), (34, ai k)], h := [(0, boxCd noCd)], n := 1, N := 65 })
   (fun k => k ≤ may.length ∧ (may.take k).find? (topOf cfg.lambda may) = none) (fun k => may.length - k) 0 (by ((conv => whnf); simp only [eS, partOf_none, lenRE_none])) ⟨Nat.zero_le _, rfl⟩ ?_
  intro i ⟨hi, hn⟩
  conv => whnf
  refine ifB_i (fun h1 => ?_) (fun h1 => ?_) <;> (conv => whnf) <;> simp at h1
  ·obtain ⟨x, hx⟩ := get_lt h1
   have hxd := hmd x (List.mem_of_getElem? hx)
   refine idx_at (by simp) hx ?_
   conv => whnf
   refine tri_loop hT [3, 4, 6, 7, 8, 11, 12, 13, 32, 33, 34, 39, 40, 41] (α := Nat) (fun k => { t := [(3, rpCf cfg), (4, rpB b), (6, .c (.ptr 0 0)), (7, ab false), (8, aCds may), (11, ai i), (12, .c (.ptr 1 0)), (13, ab (topOf cfg.lambda (may.take k) x)), (32, aCds may), (33, ai may.length), (34, ai i), (39, aCds may), (40, ai may.length), (41, ai k)], h := [(0, boxCd noCd), (1, boxCd x)], n := 2, N := 65 })
    (fun k => k ≤ may.length) (fun k => may.length - k) 0 (by ((conv => whnf); simp only [eS]); rfl) (Nat.zero_le _) ?_
   intro j hj
   conv => whnf
   refine ifB_i (fun h2 => ?_) (fun h2 => ?_) <;> (conv => whnf) <;> simp at h2
   ·obtain ⟨y, hy⟩ := get_lt h2
    have hyd := hmd y (List.mem_of_getElem? hy)
    have hs : topOf cfg.lambda (may.take (j + 1)) x = (topOf cfg.lambda (may.take j) x && !better y x cfg.lambda) := all_snoc hy
    refine idx_at (by simp) hy ?_
    conv => whnf
    cases g : topOf cfg.lambda (may.take j) x <;> rw [g] at hs <;> (conv => whnf)
    ·refine ⟨j + 1, by omega, by omega, ?_⟩
     ((conv => whnf); simp only [eS, wI h2 (by omega), hs, Bool.false_and])
    ·rw [Bool.true_and] at hs
     cases g2 : iEq (j : Int) (i : Int) <;> simp only [eH] at g2 <;> (conv => whnf)
     ·refine .inl ⟨_, _, _, impl_Better_spec y x cfg.lambda hyd hxd hc.lam, rfl, ?_⟩
      conv => whnf
      refine ⟨j + 1, by omega, by omega, ?_⟩
      ((conv => whnf); simp only [eS, wI h2 (by omega), hs])
      rfl
     ·obtain rfl : j = i := by omega
      rw [hx] at hy
      cases hy
      rw [better_self] at hs
      refine ⟨j + 1, by omega, by omega, ?_⟩
      ((conv => whnf); simp only [eS, wI h2 (by omega), hs])
      rfl
   ·obtain rfl : j = may.length := by omega
    rw [List.take_length]
    conv => whnf
    cases g : topOf cfg.lambda may x <;> (conv => whnf)
    ·refine ⟨i + 1, by omega, ⟨by omega, find_next hx hn g⟩, ?_⟩
     ((conv => whnf); simp only [eS, wI h1 (by omega)])
    ·rw [find_at hx hn g]
     rfl
  ·obtain rfl : i = may.length := by omega
   rw [List.take_length] at hn
   rw [hn]
   conv => whnf
   rfl
theorem best_filter (cfg : Cfg) (b : Int × Int) (list : List Cd) : bestL cfg b list = list.find? fun c => mayPart cfg b c && list.all fun o => !mayPart cfg b o || !better o c cfg.lambda := by
 rw [bestL, List.find?_filter]
 congr 1
 funext c
 rw [List.all_filter]
 simp only [Bool.decide_and, Bool.decide_eq_true]
def mayTop (cfg : Cfg) (b : Int × Int) (l : List Cd) (c : Cd) : Bool := mayPart cfg b c && l.all fun o => !mayPart cfg b o || !better o c cfg.lambda
theorem spec_BestOf_spec (cfg : Cfg) (b : Int × Int) (list : List Cd) (hc : cfgP cfg) (hb : boundP b) (hl : list.length ≤ 1048576) (hd : ∀ c ∈ list, cdP c) : FnSpec PR f_spec_BestOf [aCf cfg, aB b, aCds list] (tupCk (bestR (bestL cfg b list))) [] 0 := by
 rw [best_filter]
 change FnSpec PR f_spec_BestOf [aCf cfg, aB b, aCds list] (tupCk (bestR (list.find? (mayTop cfg b list)))) [] 0
 refine FnSpec.intro hT (pf Tryz.func204) rfl (by kernel_rfl) Tryz.ntmps204 rfl ?_
 conv => whnf
 refine tri_rp 0 ?_
 conv => whnf
 refine tri_rp 1 ?_
 conv => whnf
 refine tri_loop hT [2, 3, 4, 6, 7, 8] (α := Nat) (fun k => { t := [(2, aCds list), (3, rpCf cfg), (4, rpB b), (6, .c (.ptr 0 0)), (7, ab false), (8, ai k)], h := [(0, boxCd noCd)], n := 1, N := 61 })
  (fun k => k ≤ list.length ∧ (list.take k).find? (mayTop cfg b list) = none) (fun k => list.length - k) 0 (by (conv => whnf); rfl) ⟨Nat.zero_le _, rfl⟩ ?_
 intro i ⟨hi, hn⟩
 conv => whnf
 rw [show nInt (dLen (eL cCd list)) = (list.length : Int) by simp]
 refine ifB_i (fun h1 => ?_) (fun h1 => ?_) <;> (conv => whnf) <;> simp only [eH] at h1
 ·obtain ⟨x, hx⟩ := get_lt (show i < list.length by omega)
  have hxd := hd x (List.mem_of_getElem? hx)
  refine tri_conf hT hmix (by kernel_rfl) ?_
  conv => whnf
  refine idx_at (by simp) hx ?_
  conv => whnf
  refine ⟨_, _, spec_MayPart_spec cfg b x hc hb hxd, rfl, ?_⟩
  conv => whnf
  refine tri_loop hT [2, 3, 4, 6, 7, 8, 9, 10] (α := Nat) (fun k => { t := [(2, aCds list), (3, rpCf cfg), (4, rpB b), (6, .c (.ptr 0 0)), (7, ab false), (8, ai i), (9, ab (mayTop cfg b (list.take k) x)), (10, ai k)], h := [(0, boxCd noCd)], n := 1, N := 61 })
   (fun k => k ≤ list.length) (fun k => list.length - k) 0 (by ((conv => whnf); simp only [eS, mayTop, List.take_zero, List.all_nil, Bool.and_true])) (Nat.zero_le _) ?_
  intro j hj
  conv => whnf
  rw [show nInt (dLen (eL cCd list)) = (list.length : Int) by simp]
  have hend : ∀ b2, mayTop cfg b (list.take j) x = b2 → (b2 = false ∨ j = list.length) → mayTop cfg b list x = b2 := fun b2 q1 q2 => by
   rcases q2 with rfl | rfl
   ·unfold mayTop at q1 ⊢
    cases hm : mayPart cfg b x with
    | false => rfl
    | true =>
     rw [hm, Bool.true_and] at q1
     rw [Bool.true_and]
     rw [List.all_eq_false] at q1 ⊢
     obtain ⟨z, hz1, hz2⟩ := q1
     exact ⟨z, List.mem_of_mem_take hz1, hz2⟩
   ·rwa [List.take_length] at q1
  cases h2 : iLt (j : Int) (list.length : Int) <;> simp only [eH] at h2 <;> (conv => whnf)
  ·have hjl : j = list.length := by omega
   cases g : mayTop cfg b (list.take j) x <;> have g' := hend _ g (.inr hjl) <;> (conv => whnf)
   ·refine ⟨i + 1, by omega, ⟨by omega, find_next hx hn g'⟩, ?_⟩
    ((conv => whnf); simp only [eS, wI (show i < list.length by omega) (by omega)])
   ·refine idx_at (by simp) hx ?_
    conv => whnf
    rw [find_at hx hn g']
    rfl
  ·obtain ⟨y, hy⟩ := get_lt (show j < list.length by omega)
   have hyd := hd y (List.mem_of_getElem? hy)
   cases g : mayTop cfg b (list.take j) x <;> (conv => whnf)
   ·have g' := hend _ g (.inl rfl)
    refine ⟨i + 1, by omega, ⟨by omega, find_next hx hn g'⟩, ?_⟩
    ((conv => whnf); simp only [eS, wI (show i < list.length by omega) (by omega)])
   ·have hs : mayTop cfg b (list.take (j + 1)) x = (!mayPart cfg b y || !better y x cfg.lambda) := by
     unfold mayTop at g ⊢
     rw [all_snoc hy, ← Bool.and_assoc, g, Bool.true_and]
    refine tri_conf hT hmix (by kernel_rfl) ?_
    conv => whnf
    refine idx_at (by simp) hy ?_
    conv => whnf
    refine ⟨_, _, spec_MayPart_spec cfg b y hc hb hyd, rfl, ?_⟩
    conv => whnf
    cases g2 : mayPart cfg b y <;> rw [g2] at hs <;> (conv => whnf)
    ·repeat' (first | (refine And.intro (fun q => ?_) (fun q => ?_) <;> cases q <;> (conv => whnf)) | fail)
     refine ⟨j + 1, by omega, by omega, ?_⟩
     ((conv => whnf); simp only [eS, wI (show j < list.length by omega) (by omega), hs])
     rfl
    ·repeat' (first | (refine And.intro (fun q => ?_) (fun q => ?_) <;> cases q <;> (conv => whnf)) | fail)
     refine idx_at (by simp) hy ?_
     conv => whnf
     repeat' (first | (refine And.intro (fun q => ?_) (fun q => ?_) <;> cases q <;> (conv => whnf)) | fail)
     refine idx_at (by simp) hx ?_
     conv => whnf
     repeat' (first | (refine And.intro (fun q => ?_) (fun q => ?_) <;> cases q <;> (conv => whnf)) | fail)
     refine ⟨_, _, spec_Better_spec y x cfg.lambda hyd hxd hc.lam, rfl, ?_⟩
     conv => whnf
     repeat' (first | (refine And.intro (fun q => ?_) (fun q => ?_) <;> cases q <;> (conv => whnf)) | fail)
     refine ⟨j + 1, by omega, by omega, ?_⟩
     ((conv => whnf); simp only [eS, wI (show j < list.length by omega) (by omega), hs])
     rfl
 ·obtain rfl : i = list.length := by omega
  rw [List.take_length] at hn
  rw [hn]
  rfl
end Go.H.S
namespace Go.H.S
open Go Go.Proofs Go.H
attribute [local irreducible] Tri FnSpec FnSpecM FnSpecX FnSpecJ FnSpecB hiU loU
abbrev tupHk : AV := .tup [(false, [.ref 0 0 none]), (false, [.d (.bool true)])]
abbrev rowH (h : List (Int × Int)) : Ent := .arr t_impl_Slot 2 0 .own (eL cSl h)
structure histP (bins grads rows : List Int) (n : Nat) : Prop where
 n_in : 1 ≤ n ∧ n ≤ 8
 bl : bins.length ≤ 1048576
 gl : grads.length ≤ 1048576
 g_in : gradsP grads
 rl : rows.length ≤ 40
 r_in : ∀ x ∈ rows, 0 ≤ x ∧ x < (bins.length : Int) ∧ x < (grads.length : Int)
 b_in : ∀ x ∈ bins, 0 ≤ x ∧ x < (n : Int)
theorem cSl_set (xs : List (Int × Int)) (k : Nat) (x y : Int × Int) : dSet (eL cSl xs) k (dOver (cSl x) 0 [.int .i64 y.1, .int .i64 y.2]) = eL cSl (xs.set k y) := by
 rw [dOver_all (by rfl)]; exact eL_set cSl xs k y
theorem slotR_b {grads : List Int} (hg : gradsP grads) {rs : List Int} (h : rs.length ≤ 40) : slB (slotR grads rs) := by
 have := slotR_in hg rs
 have hl : (slotR grads rs).1 = rs.length := rfl
 exact ⟨by omega, by omega⟩
theorem impl_HistOf_spec (bins grads rows : List Int) (n : Nat) (h : histP bins grads rows n) : FnSpec PR f_impl_HistOf [aIs bins, aIs grads, aIs rows, ai n] tupHk [(0, rowH (histL bins grads rows n))] 1 := by
 have hn := h.n_in; have hbl := h.bl; have hgl := h.gl; have hrl := h.rl
 have e1 : wSub .i64 (iMin (nInt (dLen (eL cI bins))) (nInt (dLen (eL cI grads)))) 1 = min (bins.length : Int) grads.length - 1 := by
  rw [iMin_eq, show nInt (dLen (eL cI bins)) = (bins.length : Int) by simp, show nInt (dLen (eL cI grads)) = (grads.length : Int) by simp]; exact wSub64 (by omega) (by omega)
 have e2 : wSub .i64 (n : Int) 1 = n - 1 := wSub64 (by omega) (by omega)
 refine FnSpec.intro hT (pf Tryz.func285) rfl (by kernel_rfl) Tryz.ntmps285 rfl ?_
 conv => whnf
 refine .inl ⟨_, _, _, impl_within_spec _ _ _, rfl, ?_⟩
 rw [decide_eq_true (show 1 ≤ (n : Int) ∧ (n : Int) ≤ 8 by omega)]
 conv => whnf
 refine ⟨by simp; omega, ?_⟩
 conv => whnf
 refine tri_loop hT [0, 1, 3, 10, 20, 21, 22] (α := Nat) (fun k => { t := [(0, aIs bins), (1, aIs grads), (3, ai n), (10, .c (.ref 0 0 none)), (20, aIs rows), (21, ai rows.length), (22, ai k)], h := [(0, rowH (histL bins grads (rows.take k) n))], n := 1, N := 72 })
  (fun k => k ≤ rows.length) (fun k => rows.length - k) 0 (by ((conv => whnf); simp only [eS, List.take_zero, histL_nil]); exact (eL_rep cSl (0, 0) (n : Int)).trans (by rw [Int.toNat_natCast])) (Nat.zero_le _) ?_
 intro k hk
 conv => whnf
 refine ifB_i (fun h1 => ?_) (fun h1 => ?_) <;> (conv => whnf) <;> simp at h1
 ·obtain ⟨x, hx⟩ := get_lt h1
  have hxr := h.r_in x (List.mem_of_getElem? hx)
  obtain ⟨i, rfl⟩ : ∃ i : Nat, x = i := ⟨x.toNat, by omega⟩
  obtain ⟨bv, hbv⟩ := get_lt (show i < bins.length by omega)
  obtain ⟨gv, hgv⟩ := get_lt (show i < grads.length by omega)
  have hb := h.b_in bv (List.mem_of_getElem? hbv)
  obtain ⟨bn, rfl⟩ : ∃ bn : Nat, bv = bn := ⟨bv.toNat, by omega⟩
  have hbin : binAt bins (i : Int) = (bn : Int) := by unfold binAt; rw [Int.toNat_natCast, hbv]; rfl
  have hga : gAt grads (i : Int) = gv := by unfold gAt; rw [Int.toNat_natCast, hgv]; rfl
  have hs := histL_at bins grads (rows.take k) (show bn < n by omega)
  have hst := histL_step (grads := grads) hx hbin (show bn < n by omega)
  have hsb := slotR_b h.g_in (rs := (rows.take k).filter fun r => decide (binAt bins r = (bn : Int))) (by have := List.length_filter_le (fun r => decide (binAt bins r = (bn : Int))) (rows.take k); rw [List.length_take] at this; omega)
  have hg2 := h.g_in gv (List.mem_of_getElem? hgv)
  rw [hga] at hst
  generalize slotR grads ((rows.take k).filter fun r => decide (binAt bins r = (bn : Int))) = s at *
  refine idx_at (by simp) hx ?_
  conv => whnf
  rw [e1]
  refine .inl ⟨_, _, _, impl_within_spec _ _ _, rfl, ?_⟩
  rw [decide_eq_true (show 0 ≤ (i : Int) ∧ (i : Int) ≤ min (bins.length : Int) grads.length - 1 by omega)]
  conv => whnf
  refine idx_at (by simp) hbv ?_
  conv => whnf
  rw [e2]
  refine .inl ⟨_, _, _, impl_within_spec _ _ _, rfl, ?_⟩
  rw [decide_eq_true (show 0 ≤ (bn : Int) ∧ (bn : Int) ≤ (n : Int) - 1 by omega)]
  conv => whnf
  refine tri_every hT hmix [0, 1, 3, 10, 12, 13, 14, 20, 21, 22] { t := [(0, aIs bins), (1, aIs grads), (3, ai n), (10, .c (.ref 0 0 none)), (12, ai i), (13, .c (.ptr 1 0)), (14, ab true), (20, aIs rows), (21, ai rows.length), (22, ai k)], h := [(0, rowH (histL bins grads (rows.take k) n)), (1, .box t_impl_Slot (cB (addS s (1, gv))))], n := 2, N := 72 } rfl ?_ ?_
  ·repeat' first
    | (refine anyV_one rfl ?_; (conv => whnf))
    | (refine anyV_two rfl ?_ ?_ <;> (conv => whnf))
    | (refine anyV_three rfl ?_ ?_ ?_ <;> (conv => whnf))
    | (refine anyV_four rfl ?_ ?_ ?_ ?_ <;> (conv => whnf))
    | (refine idx_at rfl hbv ?_; (conv => whnf))
    | (refine idx_at rfl hgv ?_; (conv => whnf))
    | (refine ref_at (k := bn) rfl (by simp [histL_len]; omega) ?_; (conv => whnf))
    | (refine ld_at (by simp) hs ?_; (conv => whnf))
    | (refine .inl ⟨_, _, _, impl_plus_spec s (1, gv) hsb ⟨by dsimp only; omega, by dsimp only; omega⟩, rfl, ?_⟩; (conv => whnf))
    | (refine anyV_end rfl ?_; (conv => whnf); first | done | rfl)
  conv => whnf
  refine tri_rp 1 ?_
  conv => whnf
  refine tri_every hT hmix [0, 1, 3, 10, 20, 21, 22] { t := [(0, aIs bins), (1, aIs grads), (3, ai n), (10, .c (.ref 0 0 none)), (20, aIs rows), (21, ai rows.length), (22, ai k)], h := [(0, rowH (histL bins grads (rows.take (k + 1)) n))], n := 1, N := 72 } rfl ?_ ?_
  ·repeat' first
    | (refine anyV_one rfl ?_; (conv => whnf))
    | (refine anyV_two rfl ?_ ?_ <;> (conv => whnf))
    | (refine anyV_three rfl ?_ ?_ ?_ <;> (conv => whnf))
    | (refine idx_at rfl hbv ?_; (conv => whnf))
    | (refine ref_at (k := bn) rfl (by simp [histL_len]; omega) ?_; (conv => whnf))
    | (refine st_at (by simp) hs (by simp [cSl]) ?_; (conv => whnf))
    | (refine anyV_end rfl ?_; ((conv => whnf); simp only [eS, nAdd_eq, nOf_eq, Int.toNat_natCast, offR, Nat.zero_add]); rw [hst]; exact cSl_set _ bn s (addS s (1, gv)))
  conv => whnf
  refine ⟨k + 1, by omega, by omega, ?_⟩
  ((conv => whnf); simp only [eS, wI h1 (by omega)])
 ·obtain rfl : k = rows.length := by omega
  rw [List.take_length]
theorem spec_HistOf_spec (bins grads rows : List Int) (n : Nat) (h : histP bins grads rows n) : FnSpec PR f_spec_HistOf [aIs bins, aIs grads, aIs rows, ai n] tupHk [(0, rowH (histL bins grads rows n))] 1 := by
 have hn := h.n_in; have hbl := h.bl; have hgl := h.gl; have hrl := h.rl
 have e1 : wSub .i64 (nInt (dLen (eL cI bins))) 1 = (bins.length : Int) - 1 := by
  rw [show nInt (dLen (eL cI bins)) = (bins.length : Int) by simp]; exact wSub64 (by omega) (by omega)
 have e3 : wSub .i64 (nInt (dLen (eL cI grads))) 1 = (grads.length : Int) - 1 := by
  rw [show nInt (dLen (eL cI grads)) = (grads.length : Int) by simp]; exact wSub64 (by omega) (by omega)
 have e2 : wSub .i64 (n : Int) 1 = n - 1 := wSub64 (by omega) (by omega)
 refine FnSpec.intro hT (pf Tryz.func281) rfl (by kernel_rfl) Tryz.ntmps281 rfl ?_
 conv => whnf
 refine .inl ⟨_, _, _, spec_l1In_spec _ _ _, rfl, ?_⟩
 rw [decide_eq_true (show 1 ≤ (n : Int) ∧ (n : Int) ≤ 8 by omega)]
 conv => whnf
 refine ⟨by simp; omega, ?_⟩
 conv => whnf
 refine tri_loop hT [0, 1, 2, 3, 11, 12] (α := Nat) (fun k => { t := [(0, aIs bins), (1, aIs grads), (2, aIs rows), (3, ai n), (11, .c (.ref 0 0 none)), (12, ai k)], h := [(0, rowH (histL bins grads (rows.take k) n))], n := 1, N := 85 })
  (fun k => k ≤ rows.length) (fun k => rows.length - k) 0 (by ((conv => whnf); simp only [eS, List.take_zero, histL_nil]); exact (eL_rep cSl (0, 0) (n : Int)).trans (by rw [Int.toNat_natCast])) (Nat.zero_le _) ?_
 intro k hk
 conv => whnf
 rw [show nInt (dLen (eL cI rows)) = (rows.length : Int) by simp]
 refine ifB_i (fun h1 => ?_) (fun h1 => ?_) <;> (conv => whnf) <;> simp only [eH] at h1
 ·obtain ⟨x, hx⟩ := get_lt (show k < rows.length by omega)
  have hxr := h.r_in x (List.mem_of_getElem? hx)
  obtain ⟨i, rfl⟩ : ∃ i : Nat, x = i := ⟨x.toNat, by omega⟩
  obtain ⟨bv, hbv⟩ := get_lt (show i < bins.length by omega)
  obtain ⟨gv, hgv⟩ := get_lt (show i < grads.length by omega)
  have hb := h.b_in bv (List.mem_of_getElem? hbv)
  obtain ⟨bn, rfl⟩ : ∃ bn : Nat, bv = bn := ⟨bv.toNat, by omega⟩
  have hbin : binAt bins (i : Int) = (bn : Int) := by unfold binAt; rw [Int.toNat_natCast, hbv]; rfl
  have hga : gAt grads (i : Int) = gv := by unfold gAt; rw [Int.toNat_natCast, hgv]; rfl
  have hs := histL_at bins grads (rows.take k) (show bn < n by omega)
  have hst := histL_step (grads := grads) hx hbin (show bn < n by omega)
  have hsb := slotR_b h.g_in (rs := (rows.take k).filter fun r => decide (binAt bins r = (bn : Int))) (by have := List.length_filter_le (fun r => decide (binAt bins r = (bn : Int))) (rows.take k); rw [List.length_take] at this; omega)
  have hg2 := h.g_in gv (List.mem_of_getElem? hgv)
  rw [hga] at hst
  generalize slotR grads ((rows.take k).filter fun r => decide (binAt bins r = (bn : Int))) = s at *
  refine idx_at (by simp) hx ?_
  conv => whnf
  rw [e1]
  refine .inl ⟨_, _, _, spec_l1In_spec _ _ _, rfl, ?_⟩
  rw [decide_eq_true (show 0 ≤ (i : Int) ∧ (i : Int) ≤ (bins.length : Int) - 1 by omega)]
  conv => whnf
  rw [e3]
  refine .inl ⟨_, _, _, spec_l1In_spec _ _ _, rfl, ?_⟩
  rw [decide_eq_true (show 0 ≤ (i : Int) ∧ (i : Int) ≤ (grads.length : Int) - 1 by omega)]
  conv => whnf
  refine idx_at (by simp) hbv ?_
  conv => whnf
  rw [e2]
  refine .inl ⟨_, _, _, spec_l1In_spec _ _ _, rfl, ?_⟩
  rw [decide_eq_true (show 0 ≤ (bn : Int) ∧ (bn : Int) ≤ (n : Int) - 1 by omega)]
  conv => whnf
  refine tri_every hT hmix [0, 1, 2, 3, 11, 12, 13, 14, 15] { t := [(0, aIs bins), (1, aIs grads), (2, aIs rows), (3, ai n), (11, .c (.ref 0 0 none)), (12, ai k), (13, ai i), (14, .c (.ptr 1 0)), (15, ab true)], h := [(0, rowH (histL bins grads (rows.take k) n)), (1, .box t_impl_Slot (cB (addS s (1, gv))))], n := 2, N := 85 } rfl ?_ ?_
  ·repeat' first
    | (refine anyV_one rfl ?_; (conv => whnf))
    | (refine anyV_two rfl ?_ ?_ <;> (conv => whnf))
    | (refine anyV_three rfl ?_ ?_ ?_ <;> (conv => whnf))
    | (refine anyV_four rfl ?_ ?_ ?_ ?_ <;> (conv => whnf))
    | (refine idx_at rfl hbv ?_; (conv => whnf))
    | (refine idx_at rfl hgv ?_; (conv => whnf))
    | (refine ref_at (k := bn) rfl (by simp [histL_len]; omega) ?_; (conv => whnf))
    | (refine ld_at (by simp) hs ?_; (conv => whnf))
    | (refine .inl ⟨_, _, _, spec_l13Add_spec s (1, gv) hsb ⟨by dsimp only; omega, by dsimp only; omega⟩, rfl, ?_⟩; (conv => whnf))
    | (refine anyV_end rfl ?_; (conv => whnf); first | done | rfl)
  conv => whnf
  refine tri_rp 1 ?_
  conv => whnf
  refine tri_every hT hmix [0, 1, 2, 3, 11, 12] { t := [(0, aIs bins), (1, aIs grads), (2, aIs rows), (3, ai n), (11, .c (.ref 0 0 none)), (12, ai k)], h := [(0, rowH (histL bins grads (rows.take (k + 1)) n))], n := 1, N := 85 } rfl ?_ ?_
  ·repeat' first
    | (refine anyV_one rfl ?_; (conv => whnf))
    | (refine anyV_two rfl ?_ ?_ <;> (conv => whnf))
    | (refine anyV_three rfl ?_ ?_ ?_ <;> (conv => whnf))
    | (refine idx_at rfl hbv ?_; (conv => whnf))
    | (refine ref_at (k := bn) rfl (by simp [histL_len]; omega) ?_; (conv => whnf))
    | (refine st_at (by simp) hs (by simp [cSl]) ?_; (conv => whnf))
    | (refine anyV_end rfl ?_; ((conv => whnf); simp only [eS, nAdd_eq, nOf_eq, Int.toNat_natCast, offR, Nat.zero_add]); rw [hst]; exact cSl_set _ bn s (addS s (1, gv)))
  conv => whnf
  refine ⟨k + 1, by omega, by omega, ?_⟩
  ((conv => whnf); simp only [eS, wI (show k < rows.length by omega) (by omega)])
 ·obtain rfl : k = rows.length := by omega
  rw [List.take_length]
abbrev aH (h : List (Int × Int)) : AV := .c (.d (.sl 2 (eL cSl h)))
theorem slB_zero : slB (0, 0) := ⟨⟨by decide, by decide⟩, by decide, by decide⟩
theorem pref_next {h out : List (Int × Int)} {k : Nat} {sum s : Int × Int} (hs : h[k]? = some s) (ho : out ++ prefS sum (h.drop k) = prefS (0, 0) h) : addS sum s ∈ prefS (0, 0) h ∧ (out ++ [addS sum s]) ++ prefS (addS sum s) (h.drop (k + 1)) = prefS (0, 0) h := by
 rw [drop_at hs, prefS] at ho
 rw [← ho]
 simp
theorem impl_Prefix_spec (h : List (Int × Int)) (hl : h.length ≤ 1000) (hb : ∀ s ∈ h, slB s) (hp : ∀ s ∈ prefS (0, 0) h, slB s) : FnSpec PR f_impl_Prefix [aH h] tupHk [(0, rowH (prefS (0, 0) h))] 1 := by
 refine FnSpec.intro hT (pf Tryz.func288) rfl (by kernel_rfl) Tryz.ntmps288 rfl ?_
 conv => whnf
 refine tri_loop hT [4, 5, 12, 13, 14] (α := Nat × List (Int × Int) × (Int × Int)) (fun x => { t := [(4, .c (.ref 0 0 none)), (5, .c (.ptr 1 0)), (12, aH h), (13, ai h.length), (14, ai x.1)], h := [(0, rowH x.2.1), (1, .box t_impl_Slot (cB x.2.2))], n := 2, N := 33 })
  (fun x => x.1 ≤ h.length ∧ x.2.1.length = x.1 ∧ x.2.1 ++ prefS x.2.2 (h.drop x.1) = prefS (0, 0) h ∧ slB x.2.2) (fun x => h.length - x.1) (0, [], (0, 0)) (by ((conv => whnf); simp only [eS, eL_nil])) ⟨Nat.zero_le _, rfl, rfl, slB_zero⟩ ?_
 intro ⟨k, out, sum⟩ ⟨hk, hol, ho, hsb⟩
 dsimp only at hk hol ho hsb
 conv => whnf
 refine ifB_i (fun h1 => ?_) (fun h1 => ?_) <;> (conv => whnf) <;> simp at h1
 ·obtain ⟨s, hs⟩ := get_lt h1
  obtain ⟨n1, n2⟩ := pref_next hs ho
  refine idx_at (by simp) hs ?_
  conv => whnf
  refine .inl ⟨_, _, _, impl_plus_spec sum s hsb (hb s (List.mem_of_getElem? hs)), rfl, ?_⟩
  conv => whnf
  refine tri_rp 2 ?_
  conv => whnf
  refine tri_rp 3 ?_
  conv => whnf
  refine tri_every hT hmix [4, 5, 12, 13, 14] { t := [(4, .c (.ref 0 0 none)), (5, .c (.ptr 1 0)), (12, aH h), (13, ai h.length), (14, ai k)], h := [(0, rowH (out ++ [addS sum s])), (1, .box t_impl_Slot (cB (addS sum s)))], n := 2, N := 33 } rfl ?_ ?_
  ·repeat' first
    | (refine anyV_one rfl ?_; (conv => whnf))
    | (refine anyV_two rfl ?_ ?_ <;> (conv => whnf))
    | (refine anyV_three rfl ?_ ?_ ?_ <;> (conv => whnf))
    | (refine And.intro (by simp [eL_length, dLen_len]; omega) ?_; (conv => whnf))
   all_goals
    refine anyV_end rfl ?_
    conv => whnf
    simp only [partOf_none]
    dsimp only [rowH]
    rw [← eL_app]
    rfl
  conv => whnf
  refine ⟨(k + 1, out ++ [addS sum s], addS sum s), by dsimp only; omega, ⟨by dsimp only; omega, by simp; omega, n2, hp _ n1⟩, ?_⟩
  ((conv => whnf); simp only [eS, wI h1 (by omega)])
 ·obtain rfl : k = h.length := by omega
  rw [List.drop_length, prefS, List.append_nil] at ho
  rw [ho]
theorem spec_Prefix_spec (h : List (Int × Int)) (hl : h.length ≤ 1000) (hb : ∀ s ∈ h, slB s) (hp : ∀ s ∈ prefS (0, 0) h, slB s) : FnSpec PR f_spec_Prefix [aH h] tupHk [(0, rowH (prefS (0, 0) h))] 1 := by
 refine FnSpec.intro hT (pf Tryz.func284) rfl (by kernel_rfl) Tryz.ntmps284 rfl ?_
 conv => whnf
 refine tri_loop hT [0, 4, 5, 6] (α := Nat × List (Int × Int) × (Int × Int)) (fun x => { t := [(0, aH h), (4, .c (.ref 0 0 none)), (5, .c (.ptr 1 0)), (6, ai x.1)], h := [(0, rowH x.2.1), (1, .box t_impl_Slot (cB x.2.2))], n := 2, N := 35 })
  (fun x => x.1 ≤ h.length ∧ x.2.1.length = x.1 ∧ x.2.1 ++ prefS x.2.2 (h.drop x.1) = prefS (0, 0) h ∧ slB x.2.2) (fun x => h.length - x.1) (0, [], (0, 0)) (by ((conv => whnf); simp only [eS, eL_nil])) ⟨Nat.zero_le _, rfl, rfl, slB_zero⟩ ?_
 intro ⟨k, out, sum⟩ ⟨hk, hol, ho, hsb⟩
 dsimp only at hk hol ho hsb
 conv => whnf
 rw [show nInt (dLen (eL cSl h)) = (h.length : Int) by simp]
 refine ifB_i (fun h1 => ?_) (fun h1 => ?_) <;> (conv => whnf) <;> simp only [eH] at h1
 ·obtain ⟨s, hs⟩ := get_lt (show k < h.length by omega)
  obtain ⟨n1, n2⟩ := pref_next hs ho
  refine tri_every hT hmix [0, 4, 5, 6, 7, 8] { t := [(0, aH h), (4, .c (.ref 0 0 none)), (5, .c (.ptr 1 0)), (6, ai k), (7, .c (.ptr 2 0)), (8, ab true)], h := [(0, rowH out), (1, .box t_impl_Slot (cB sum)), (2, .box t_impl_Slot (cB (addS sum s)))], n := 3, N := 35 } rfl ?_ ?_
  ·repeat' first
    | (refine anyV_one rfl ?_; (conv => whnf))
    | (refine anyV_two rfl ?_ ?_ <;> (conv => whnf))
    | (refine anyV_three rfl ?_ ?_ ?_ <;> (conv => whnf))
    | (refine idx_at rfl hs ?_; (conv => whnf))
    | (refine .inl ⟨_, _, _, spec_l13Add_spec sum s hsb (hb s (List.mem_of_getElem? hs)), rfl, ?_⟩; (conv => whnf))
    | (refine anyV_end rfl ?_; (conv => whnf); first | done | rfl)
  conv => whnf
  refine And.intro (by simp [eL_length, dLen_len]; omega) ?_
  conv => whnf
  refine ⟨(k + 1, out ++ [addS sum s], addS sum s), by dsimp only; omega, ⟨by dsimp only; omega, by simp; omega, n2, hp _ n1⟩, ?_⟩
  ((conv => whnf); simp only [eS, wI (show k < h.length by omega) (by omega)])
  rw [← eL_app]
  rfl
 ·obtain rfl : k = h.length := by omega
  rw [List.drop_length, prefS, List.append_nil] at ho
  rw [ho]
end Go.H.S
namespace Go.H.S
open Go Go.Proofs Go.H
attribute [local irreducible] Tri FnSpec FnSpecM FnSpecX FnSpecJ FnSpecB hiU loU
abbrev aHs (hs : List (List (Int × Int))) : AV := .c (.d (.sl 1 (eL cHs hs)))
abbrev rowC (l : List Cd) : Ent := .arr t_impl_Cand 6 0 .own (eL cCd l)
structure hisP (hs : List (List (Int × Int))) : Prop where
 len : hs.length ≤ 4
 one : ∀ h ∈ hs, 1 ≤ h.length ∧ h.length ≤ 8
 slots : ∀ h ∈ hs, ∀ s ∈ h, slB s
 sums : ∀ h ∈ hs, ∀ s ∈ prefS (0, 0) h, slB s
theorem candsF_len (f : Nat) (least : Int) (sums : List (Int × Int)) (n : Nat) : (candsF f least sums n).length ≤ n := by
 have := List.length_filterMap_le (fun (b : Nat) =>
  let l := (sums[b]?).getD (0, 0)
  let r := subS ((sums[sums.length - 1]?).getD (0, 0)) l
  if least ≤ l.1 ∧ least ≤ r.1 then some (⟨(f : Int), (b : Int), l, r⟩ : Cd) else none) (List.range n)
 rw [List.length_range] at this
 exact this
theorem candsH_len {hs : List (List (Int × Int))} (h : hisP hs) (least : Int) : ∀ n, n ≤ hs.length → (candsH hs least n).length ≤ 8 * n
 | 0, _ => by simp [candsH]
 | n + 1, hn => by
  obtain ⟨x, hx⟩ := get_lt (show n < hs.length by omega)
  rw [candsH_step hs least n hx, List.length_append]
  have h1 := candsH_len h least n (by omega)
  have h2 := candsF_len n least (prefS (0, 0) x) ((prefS (0, 0) x).length - 1)
  have h3 := h.one x (List.mem_of_getElem? hx)
  rw [prefS_len] at h2 ⊢
  omega
theorem impl_CandsOf_spec (hs : List (List (Int × Int))) (least : Int) (h : hisP hs) : FnSpec PR f_impl_CandsOf [aHs hs, ai least] (.c (.ref 0 0 none)) [(0, rowC (candsH hs least hs.length))] 1 := by
 have hl4 := h.len
 refine FnSpec.intro hT (pf Tryz.func213) rfl (by kernel_rfl) Tryz.ntmps213 rfl ?_
 conv => whnf
 refine tri_loop hT [1, 5, 14, 15, 16] (α := Nat) (fun k => { t := [(1, ai least), (5, .c (.ref 0 0 none)), (14, aHs hs), (15, ai hs.length), (16, ai k)], h := [(0, rowC (candsH hs least k))], n := 1, N := 77 })
  (fun k => k ≤ hs.length) (fun k => hs.length - k) 0 (by ((conv => whnf); simp only [eS, candsH, List.range_zero, List.flatMap_nil, eL_nil])) (Nat.zero_le _) ?_
 intro k hk
 conv => whnf
 refine ifB_i (fun h1 => ?_) (fun h1 => ?_) <;> (conv => whnf) <;> simp at h1
 ·obtain ⟨x, hx⟩ := get_lt h1
  have hxm := List.mem_of_getElem? hx
  have hx1 := h.one x hxm
  have hlc := candsH_len h least k (by omega)
  have hst := candsH_step hs least k hx
  refine idx_at (by simp) hx ?_
  conv => whnf
  refine .inl ⟨_, _, _, impl_Prefix_spec x (by omega) (h.slots x hxm) (h.sums x hxm), rfl, ?_⟩
  conv => whnf
  have hsl := prefS_len x (0, 0)
  have hsb := h.sums x hxm
  generalize prefS (0, 0) x = sums at *
  have e1 : wSub .i64 (nInt (dLen (eL cSl sums))) 1 = (sums.length : Int) - 1 := by
   rw [show nInt (dLen (eL cSl sums)) = (sums.length : Int) by simp]; exact wSub64 (by omega) (by omega)
  obtain ⟨z, hz⟩ := get_lt (show sums.length - 1 < sums.length by omega)
  refine tri_loop hT [1, 5, 6, 8, 10, 14, 15, 16] (α := Nat) (fun b => { t := [(1, ai least), (5, .c (.ref 0 0 none)), (6, ai k), (8, aH sums), (10, ai b), (14, aHs hs), (15, ai hs.length), (16, ai k)], h := [(0, rowC (candsH hs least k ++ candsF k least sums b))], n := 1, N := 77 })
   (fun b => b ≤ sums.length - 1) (fun b => sums.length - 1 - b) 0 (by ((conv => whnf); simp only [eS, candsF, List.range_zero, List.filterMap_nil, List.append_nil, partOf_none])) (Nat.zero_le _) ?_
  intro b hb
  conv => whnf
  rw [e1]
  refine ifB_i (fun h2 => ?_) (fun h2 => ?_) <;> (conv => whnf) <;> simp only [eH] at h2
  ·obtain ⟨l, hl⟩ := get_lt (show b < sums.length by omega)
   have hcf := candsF_step k least sums b hl hz
   have hcl := candsF_len k least sums b
   refine tri_every hT hmix [1, 5, 6, 8, 10, 11, 12, 14, 15, 16] { t := [(1, ai least), (5, .c (.ref 0 0 none)), (6, ai k), (8, aH sums), (10, ai b), (11, .c (.ptr 1 0)), (12, ab true), (14, aHs hs), (15, ai hs.length), (16, ai k)], h := [(0, rowC (candsH hs least k ++ candsF k least sums b)), (1, .box t_impl_Slot (cB (subS z l)))], n := 2, N := 77 } rfl ?_ ?_
   ·repeat' first
     | (refine anyV_one rfl ?_; (conv => whnf))
     | (refine anyV_two rfl ?_ ?_ <;> (conv => whnf))
     | (refine anyV_three rfl ?_ ?_ ?_ <;> (conv => whnf))
     | (refine idx_at rfl hl ?_; (conv => whnf))
     | (refine idx_at (by rw [e1]; omega) hz ?_; (conv => whnf))
     | (refine .inl ⟨_, _, _, impl_minus_spec z l (hsb z (List.mem_of_getElem? hz)) (hsb l (List.mem_of_getElem? hl)), rfl, ?_⟩; (conv => whnf))
     | (refine anyV_end rfl ?_; (conv => whnf); first | done | rfl)
   conv => whnf
   refine idx_at (by simp) hl ?_
   conv => whnf
   cases g1 : iLe least l.1 <;> simp only [eH] at g1 <;> (conv => whnf)
   ·rw [if_neg (by omega), List.append_nil] at hcf
    refine ⟨b + 1, by omega, by omega, ?_⟩
    ((conv => whnf); simp only [eS, wI (show b < sums.length by omega) (by omega), hcf])
   ·cases g2 : iLe least (subS z l).1 <;> simp only [eH] at g2 <;> (conv => whnf)
    ·rw [if_neg (by omega), List.append_nil] at hcf
     refine ⟨b + 1, by omega, by omega, ?_⟩
     ((conv => whnf); simp only [eS, wI (show b < sums.length by omega) (by omega), hcf])
    ·rw [if_pos ⟨g1, g2⟩] at hcf
     refine tri_rp 1 ?_
     conv => whnf
     refine tri_every hT hmix [1, 5, 6, 8, 10, 14, 15, 16] { t := [(1, ai least), (5, .c (.ref 0 0 none)), (6, ai k), (8, aH sums), (10, ai b), (14, aHs hs), (15, ai hs.length), (16, ai k)], h := [(0, .arr t_impl_Cand 6 0 .own (eL cCd ((candsH hs least k ++ candsF k least sums b) ++ [⟨(k : Int), (b : Int), l, subS z l⟩])))], n := 1, N := 77 } rfl ?_ ?_
     ·repeat' first
       | (refine anyV_one rfl ?_; (conv => whnf))
       | (refine anyV_two rfl ?_ ?_ <;> (conv => whnf))
       | (refine anyV_three rfl ?_ ?_ ?_ <;> (conv => whnf))
       | (refine idx_at rfl hl ?_; (conv => whnf))
       | (refine And.intro (by simp [eL_length, dLen_len]; omega) ?_; (conv => whnf))
      all_goals
       refine anyV_end rfl ?_
       conv => whnf
       simp only [partOf_none]
       rw [← eL_app]
       rfl
     conv => whnf
     refine ⟨b + 1, by omega, by omega, ?_⟩
     ((conv => whnf); simp only [eS, wI (show b < sums.length by omega) (by omega), hcf, List.append_assoc])
  ·obtain rfl : b = sums.length - 1 := by omega
   refine ⟨k + 1, by omega, by omega, ?_⟩
   ((conv => whnf); simp only [eS, wI h1 (by omega), hst])
 ·obtain rfl : k = hs.length := by omega
  rfl
theorem spec_CandsOf_spec (hs : List (List (Int × Int))) (least : Int) (h : hisP hs) : FnSpec PR f_spec_CandsOf [aHs hs, ai least] (.c (.ref 0 0 none)) [(0, rowC (candsH hs least hs.length))] 1 := by
 have hl4 := h.len
 refine FnSpec.intro hT (pf Tryz.func205) rfl (by kernel_rfl) Tryz.ntmps205 rfl ?_
 conv => whnf
 refine tri_loop hT [0, 1, 5, 6] (α := Nat) (fun k => { t := [(0, aHs hs), (1, ai least), (5, .c (.ref 0 0 none)), (6, ai k)], h := [(0, rowC (candsH hs least k))], n := 1, N := 101 })
  (fun k => k ≤ hs.length) (fun k => hs.length - k) 0 (by ((conv => whnf); simp only [eS, candsH, List.range_zero, List.flatMap_nil, eL_nil])) (Nat.zero_le _) ?_
 intro k hk
 conv => whnf
 rw [show nInt (dLen (eL cHs hs)) = (hs.length : Int) by simp]
 refine ifB_i (fun h1 => ?_) (fun h1 => ?_) <;> (conv => whnf) <;> simp only [eH] at h1
 ·obtain ⟨x, hx⟩ := get_lt (show k < hs.length by omega)
  have hxm := List.mem_of_getElem? hx
  have hx1 := h.one x hxm
  have hlc := candsH_len h least k (by omega)
  have hst := candsH_step hs least k hx
  refine idx_at (by simp) hx ?_
  conv => whnf
  refine .inl ⟨_, _, _, spec_Prefix_spec x (by omega) (h.slots x hxm) (h.sums x hxm), rfl, ?_⟩
  conv => whnf
  have hsl := prefS_len x (0, 0)
  have hsb := h.sums x hxm
  generalize prefS (0, 0) x = sums at *
  have e0 : nInt (dLen (eL cSl sums)) = (sums.length : Int) := by simp
  have e1 : wSub .i64 (nInt (dLen (eL cSl sums))) 1 = (sums.length : Int) - 1 := by rw [e0]; exact wSub64 (by omega) (by omega)
  obtain ⟨z, hz⟩ := get_lt (show sums.length - 1 < sums.length by omega)
  refine tri_loop hT [0, 1, 5, 6, 7, 9] (α := Nat) (fun b => { t := [(0, aHs hs), (1, ai least), (5, .c (.ref 0 0 none)), (6, ai k), (7, aH sums), (9, ai b)], h := [(0, rowC (candsH hs least k ++ candsF k least sums b))], n := 1, N := 101 })
   (fun b => b ≤ sums.length - 1) (fun b => sums.length - 1 - b) 0 (by ((conv => whnf); simp only [eS, candsF, List.range_zero, List.filterMap_nil, List.append_nil, partOf_none])) (Nat.zero_le _) ?_
  intro b hb
  conv => whnf
  rw [show wAdd .i64 (b : Int) 1 = (b : Int) + 1 from wAdd64 (by omega) (by omega), e0]
  refine ifB_i (fun h2 => ?_) (fun h2 => ?_) <;> (conv => whnf) <;> simp only [eH] at h2
  ·obtain ⟨l, hl⟩ := get_lt (show b < sums.length by omega)
   have hcf := candsF_step k least sums b hl hz
   have hcl := candsF_len k least sums b
   obtain ⟨⟨z1, z2⟩, z3, z4⟩ := hsb z (List.mem_of_getElem? hz)
   obtain ⟨⟨l1, l2⟩, l3, l4⟩ := hsb l (List.mem_of_getElem? hl)
   rw [← e0, e1]
   refine idx_at (by omega) hz ?_
   conv => whnf
   refine tri_rp 1 ?_
   conv => whnf
   refine tri_every hT hmix [0, 1, 5, 6, 7, 9, 10, 11, 12] { t := [(0, aHs hs), (1, ai least), (5, .c (.ref 0 0 none)), (6, ai k), (7, aH sums), (9, ai b), (10, .c (.d (.rp [.int .i64 z.1, .int .i64 z.2]))), (11, ai (z.1 - l.1)), (12, ab true)], h := [(0, rowC (candsH hs least k ++ candsF k least sums b))], n := 1, N := 101 } rfl ?_ ?_
   ·repeat' first
     | (refine anyV_one rfl ?_; (conv => whnf))
     | (refine anyV_two rfl ?_ ?_ <;> (conv => whnf))
     | (refine anyV_three rfl ?_ ?_ ?_ <;> (conv => whnf))
     | (refine idx_at rfl hl ?_; (conv => whnf))
     | (refine .inl ⟨_, _, _, spec_SubInt_small z.1 l.1 (by omega) (by omega), rfl, ?_⟩; (conv => whnf))
     | (refine anyV_end rfl ?_; (conv => whnf); first | done | rfl)
   conv => whnf
   refine tri_every hT hmix [0, 1, 5, 6, 7, 9, 10, 11, 12, 13, 14] { t := [(0, aHs hs), (1, ai least), (5, .c (.ref 0 0 none)), (6, ai k), (7, aH sums), (9, ai b), (10, .c (.d (.rp [.int .i64 z.1, .int .i64 z.2]))), (11, ai (z.1 - l.1)), (12, ab true), (13, ai (z.2 - l.2)), (14, ab true)], h := [(0, rowC (candsH hs least k ++ candsF k least sums b))], n := 1, N := 101 } rfl ?_ ?_
   ·repeat' first
     | (refine anyV_one rfl ?_; (conv => whnf))
     | (refine anyV_two rfl ?_ ?_ <;> (conv => whnf))
     | (refine anyV_three rfl ?_ ?_ ?_ <;> (conv => whnf))
     | (refine idx_at rfl hl ?_; (conv => whnf))
     | (refine .inl ⟨_, _, _, spec_SubInt_small z.2 l.2 (by omega) (by omega), rfl, ?_⟩; (conv => whnf))
     | (refine anyV_end rfl ?_; (conv => whnf); first | done | rfl)
   conv => whnf
   refine idx_at (by simp) hl ?_
   conv => whnf
   cases g1 : iLe least l.1 <;> simp only [eH] at g1 <;> (conv => whnf)
   ·rw [if_neg (by omega), List.append_nil] at hcf
    refine ⟨b + 1, by omega, by omega, ?_⟩
    ((conv => whnf); simp only [eS, wI (show b < sums.length by omega) (by omega), hcf])
   ·cases g2 : iLe least (z.1 - l.1) <;> simp only [eH] at g2 <;> (conv => whnf)
    ·rw [if_neg (by unfold subS; dsimp only; omega), List.append_nil] at hcf
     refine ⟨b + 1, by omega, by omega, ?_⟩
     ((conv => whnf); simp only [eS, wI (show b < sums.length by omega) (by omega), hcf])
    ·rw [if_pos ⟨g1, by unfold subS; dsimp only; omega⟩] at hcf
     refine idx_at (by simp) hl ?_
     conv => whnf
     refine And.intro (by simp [eL_length, dLen_len]; omega) ?_
     conv => whnf
     refine ⟨b + 1, by omega, by omega, ?_⟩
     ((conv => whnf); simp only [eS, wI (show b < sums.length by omega) (by omega), hcf, ← List.append_assoc])
     rw [← eL_app]
     rfl
  ·obtain rfl : b = sums.length - 1 := by omega
   refine ⟨k + 1, by omega, by omega, ?_⟩
   ((conv => whnf); simp only [eS, wI (show k < hs.length by omega) (by omega), hst])
 ·obtain rfl : k = hs.length := by omega
  rfl
end Go.H.S
namespace Go.H.S
open Go Go.Proofs Go.H
theorem slotR_parts (grads : List Int) (p q : Int → Bool) (hpq : ∀ r, ¬ (p r = true ∧ q r = true)) : ∀ rows : List Int, addS (slotR grads (rows.filter p)) (slotR grads (rows.filter q)) = slotR grads (rows.filter fun r => p r || q r)
 | [] => rfl
 | r :: rs => by
  have ih := slotR_parts grads p q hpq rs
  simp only [slotR, addS, Prod.mk.injEq] at ih ⊢
  obtain ⟨i1, i2⟩ := ih
  have := hpq r
  cases hp : p r <;> cases hq : q r
  ·simp only [List.filter_cons, hp, hq, Bool.or_self, Bool.false_eq_true, if_false]
   exact ⟨i1, i2⟩
  ·simp only [List.filter_cons, hp, hq, Bool.false_or, if_true, Bool.false_eq_true, if_false, sumR, List.length_cons]
   exact ⟨by omega, by omega⟩
  ·simp only [List.filter_cons, hp, hq, Bool.true_or, if_true, Bool.false_eq_true, if_false, sumR, List.length_cons]
   exact ⟨by omega, by omega⟩
  ·exact absurd ⟨hp, hq⟩ this
theorem prefS_snoc : ∀ (l : List (Int × Int)) (a s : Int × Int), prefS a (l ++ [s]) = prefS a l ++ [addS (l.foldl addS a) s]
 | [], a, s => rfl
 | x :: r, a, s => by simp only [List.cons_append, prefS, List.foldl_cons]; rw [prefS_snoc r]
def leftR (bins rows : List Int) (b : Int) : List Int := rows.filter fun r => decide (binAt bins r ≤ b)
def rightR (bins rows : List Int) (b : Int) : List Int := rows.filter fun r => decide (b < binAt bins r)
theorem hist_tot {bins grads rows : List Int} (h0 : ∀ r ∈ rows, 0 ≤ binAt bins r) : ∀ n : Nat, (histL bins grads rows n).foldl addS (0, 0) = slotR grads (rows.filter fun r => decide (binAt bins r < (n : Int)))
 | 0 => by
  have : rows.filter (fun r => decide (binAt bins r < ((0 : Nat) : Int))) = [] := by
   rw [List.filter_eq_nil_iff]
   intro r hr
   have := h0 r hr
   simp; omega
  rw [this]; rfl
 | n + 1 => by
  have e : histL bins grads rows (n + 1) = histL bins grads rows n ++ [slotR grads (rows.filter fun r => decide (binAt bins r = (n : Int)))] := by simp [histL, List.range_succ]
  rw [e, List.foldl_append, hist_tot h0 n]
  simp only [List.foldl_cons, List.foldl_nil]
  rw [slotR_parts grads _ _ (fun r ⟨a, b⟩ => by simp at a b; omega)]
  congr 1
  congr 1
  funext r
  rw [Bool.eq_iff_iff]
  simp
  omega
theorem prefS_hist {bins grads rows : List Int} (h0 : ∀ r ∈ rows, 0 ≤ binAt bins r) : ∀ n : Nat, prefS (0, 0) (histL bins grads rows n) = (List.range n).map fun (b : Nat) => slotR grads (leftR bins rows b)
 | 0 => rfl
 | n + 1 => by
  have e : histL bins grads rows (n + 1) = histL bins grads rows n ++ [slotR grads (rows.filter fun r => decide (binAt bins r = (n : Int)))] := by simp [histL, List.range_succ]
  rw [e, prefS_snoc, prefS_hist h0 n, hist_tot h0 n, List.range_succ, List.map_append]
  congr 1
  simp only [List.map_cons, List.map_nil, List.cons.injEq, and_true]
  rw [slotR_parts grads _ _ (fun r ⟨a, b⟩ => by simp at a b; omega)]
  congr 1
  unfold leftR
  congr 1
  funext r
  rw [Bool.eq_iff_iff]
  simp
  omega
theorem pref_at {bins grads rows : List Int} (h0 : ∀ r ∈ rows, 0 ≤ binAt bins r) {n b : Nat} (h : b < n) : (prefS (0, 0) (histL bins grads rows n))[b]? = some (slotR grads (leftR bins rows b)) := by
 rw [prefS_hist h0, List.getElem?_map, List.getElem?_range h]; rfl
theorem split_tot (bins grads rows : List Int) (b : Int) : addS (slotR grads (leftR bins rows b)) (slotR grads (rightR bins rows b)) = slotR grads rows := by
 unfold leftR rightR
 rw [slotR_parts grads _ _ (fun r ⟨x, y⟩ => by simp at x y; omega)]
 congr 1
 refine List.filter_eq_self.2 fun r _ => ?_
 simp; omega
theorem fm_congr {α β : Type} {f g : α → Option β} : ∀ {l : List α}, (∀ x ∈ l, f x = g x) → l.filterMap f = l.filterMap g
 | [], _ => rfl
 | x :: r, h => by
  rw [List.filterMap_cons, List.filterMap_cons, h x (by simp), fm_congr fun y hy => h y (by simp [hy])]
structure rowsP (g : Grd) (rows : List Int) : Prop where
 len : rows.length ≤ 40
 mem : ∀ r ∈ rows, 0 ≤ r ∧ r < (rowsIn g : Int)
def binsF (g : Grd) (f : Nat) : List Int := (g.bins[f]?).getD []
def cutsF (g : Grd) (f : Nat) : List Int := (g.cuts[f]?).getD []
def histsL (g : Grd) (grads rows : List Int) (n : Nat) : List (List (Int × Int)) := (List.range n).map fun (f : Nat) => histL (binsF g f) grads rows ((cutsF g f).length + 1)
theorem histsL_len (g : Grd) (grads rows : List Int) (n : Nat) : (histsL g grads rows n).length = n := by simp [histsL]
theorem histsL_at (g : Grd) (grads rows : List Int) {n f : Nat} (h : f < n) : (histsL g grads rows n)[f]? = some (histL (binsF g f) grads rows ((cutsF g f).length + 1)) := by
 rw [histsL, List.getElem?_map, List.getElem?_range h]; rfl
theorem histsL_succ (g : Grd) (grads rows : List Int) (n : Nat) : histsL g grads rows (n + 1) = histsL g grads rows n ++ [histL (binsF g n) grads rows ((cutsF g n).length + 1)] := by simp [histsL, List.range_succ]
theorem grid_at {g : Grd} (hg : gridP g) {f : Nat} (h : f < g.cuts.length) : g.cuts[f]? = some (cutsF g f) ∧ g.bins[f]? = some (binsF g f) ∧ cutsP (cutsF g f) ∧ (binsF g f).length = rowsIn g ∧ ∀ x ∈ binsF g f, 0 ≤ x ∧ x ≤ ((cutsF g f).length : Int) := by
 obtain ⟨c, hc⟩ := get_lt h
 obtain ⟨b, hb⟩ := get_lt (show f < g.bins.length by rw [hg.2.1]; exact h)
 have e1 : cutsF g f = c := by unfold cutsF; rw [hc]; rfl
 have e2 : binsF g f = b := by unfold binsF; rw [hb]; rfl
 rw [e1, e2]
 exact ⟨hc, hb, hg.2.2.2 f c b hc hb⟩
theorem hist_of {g : Grd} {grads rows : List Int} {c : Cfg} (ht : taskP g grads c) (hr : rowsP g rows) {f : Nat} (h : f < g.cuts.length) : histP (binsF g f) grads rows ((cutsF g f).length + 1) := by
 obtain ⟨hg, hc, hl, hgr⟩ := ht
 obtain ⟨_, _, h3, h4, h5⟩ := grid_at hg h
 have := hg.2.2.1
 have h7 := h3.2.1
 exact ⟨by omega, by omega, by omega, hgr, hr.len, fun x hx => by have := hr.mem x hx; omega, fun x hx => by have := h5 x hx; omega⟩
theorem binAt_in {bins : List Int} {n : Nat} (h : ∀ x ∈ bins, 0 ≤ x ∧ x < (n : Int)) {r : Int} (h1 : 0 ≤ r) (h2 : r < (bins.length : Int)) : 0 ≤ binAt bins r ∧ binAt bins r < (n : Int) := by
 obtain ⟨x, hx⟩ := get_lt (show r.toNat < bins.length by omega)
 unfold binAt
 rw [hx]
 exact h x (List.mem_of_getElem? hx)
theorem hist_bins {bins grads rows : List Int} {n : Nat} (h : histP bins grads rows n) : ∀ r ∈ rows, 0 ≤ binAt bins r ∧ binAt bins r < (n : Int) := fun r hr => binAt_in h.b_in (h.r_in r hr).1 (h.r_in r hr).2.1
theorem hists_ok {g : Grd} {grads rows : List Int} {c : Cfg} (ht : taskP g grads c) (hr : rowsP g rows) : hisP (histsL g grads rows g.cuts.length) := by
 have key : ∀ h ∈ histsL g grads rows g.cuts.length, ∃ f, f < g.cuts.length ∧ h = histL (binsF g f) grads rows ((cutsF g f).length + 1) := fun h hh => by
  simp only [histsL, List.mem_map, List.mem_range] at hh
  obtain ⟨f, h1, rfl⟩ := hh
  exact ⟨f, h1, rfl⟩
 refine ⟨by rw [histsL_len]; exact ht.1.1.2, fun h hh => ?_, fun h hh s hs => ?_, fun h hh s hs => ?_⟩
 ·obtain ⟨f, h1, rfl⟩ := key h hh
  rw [histL_len]
  exact (hist_of ht hr h1).n_in
 ·obtain ⟨f, h1, rfl⟩ := key h hh
  have hp := hist_of ht hr h1
  simp only [histL, List.mem_map, List.mem_range] at hs
  obtain ⟨b, _, rfl⟩ := hs
  exact slotR_b hp.g_in (Nat.le_trans (List.length_filter_le _ _) hp.rl)
 ·obtain ⟨f, h1, rfl⟩ := key h hh
  have hp := hist_of ht hr h1
  rw [prefS_hist fun r hr => (hist_bins hp r hr).1] at hs
  simp only [List.mem_map, List.mem_range] at hs
  obtain ⟨b, _, rfl⟩ := hs
  exact slotR_b hp.g_in (Nat.le_trans (List.length_filter_le _ _) hp.rl)
theorem slotR_p {grads : List Int} (hg : gradsP grads) {rs : List Int} (h : rs.length ≤ 40) : slP (slotR grads rs) := by
 have := slotR_in hg rs
 have hl : (slotR grads rs).1 = rs.length := rfl
 exact ⟨by omega, by omega⟩
def candAt (g : Grd) (grads rows : List Int) (f b : Nat) : Cd := ⟨(f : Int), (b : Int), slotR grads (leftR (binsF g f) rows b), slotR grads (rightR (binsF g f) rows b)⟩
def candL (g : Grd) (grads rows : List Int) (least : Int) : List Cd := (List.range g.cuts.length).flatMap fun (f : Nat) => (List.range (cutsF g f).length).filterMap fun (b : Nat) =>
 let c := candAt g grads rows f b
 if least ≤ c.l.1 ∧ least ≤ c.r.1 then some c else none
theorem candsH_eq {g : Grd} {grads rows : List Int} {c : Cfg} (ht : taskP g grads c) (hr : rowsP g rows) (least : Int) : candsH (histsL g grads rows g.cuts.length) least g.cuts.length = candL g grads rows least := by
 have key : ∀ (l : List Nat), (∀ f ∈ l, f < g.cuts.length) → (l.flatMap fun (f : Nat) => let sums := prefS (0, 0) (((histsL g grads rows g.cuts.length)[f]?).getD []); candsF f least sums (sums.length - 1)) = l.flatMap fun (f : Nat) => (List.range (cutsF g f).length).filterMap fun (b : Nat) => (let c := candAt g grads rows f b; if least ≤ c.l.1 ∧ least ≤ c.r.1 then some c else none) := fun l => by
  induction l with
  | nil => intro _; rfl
  | cons f r ih =>
   intro hl
   have hf := hl f (by simp)
   have hp := hist_of ht hr hf
   have h0 := fun r hr => (hist_bins hp r hr).1
   rw [List.flatMap_cons, List.flatMap_cons, ih fun x hx => hl x (by simp [hx])]
   congr 1
   rw [histsL_at g grads rows hf, Option.getD_some]
   dsimp only
   rw [prefS_len, histL_len, Nat.add_sub_cancel]
   unfold candsF
   refine fm_congr fun b hb => ?_
   rw [List.mem_range] at hb
   dsimp only
   rw [prefS_len, histL_len, Nat.add_sub_cancel, pref_at h0 (show b < (cutsF g f).length + 1 by omega), pref_at h0 (show (cutsF g f).length < (cutsF g f).length + 1 by omega), Option.getD_some, Option.getD_some]
   have hall : leftR (binsF g f) rows ((cutsF g f).length : Nat) = rows := by
    unfold leftR
    refine List.filter_eq_self.2 fun r hr => ?_
    have := (hist_bins hp r hr).2
    simp; omega
   rw [hall]
   have hs : subS (slotR grads rows) (slotR grads (leftR (binsF g f) rows b)) = slotR grads (rightR (binsF g f) rows b) := by
    rw [← split_tot (binsF g f) grads rows b]
    unfold subS addS
    ext <;> simp <;> omega
   rw [hs]
   rfl
 exact key _ fun f hf => by simpa using hf
theorem cand_ok {g : Grd} {grads rows : List Int} {c : Cfg} (ht : taskP g grads c) (hr : rowsP g rows) {f b : Nat} (hf : f < g.cuts.length) (hb : b < (cutsF g f).length) : cdP (candAt g grads rows f b) := by
 have hg := ht.2.2.2
 have hc := (grid_at ht.1 hf).2.2.1.2.1
 have h4 := ht.1.1.2
 refine ⟨slotR_p hg (Nat.le_trans (List.length_filter_le _ _) hr.len), slotR_p hg (Nat.le_trans (List.length_filter_le _ _) hr.len), ?_, ⟨by unfold candAt; dsimp only; omega, by unfold candAt; dsimp only; omega⟩, ⟨by unfold candAt; dsimp only; omega, by unfold candAt; dsimp only; omega⟩⟩
 unfold candAt
 dsimp only
 rw [split_tot]
 exact slotR_p hg hr.len
theorem candL_mem {g : Grd} {grads rows : List Int} {least : Int} {x : Cd} (h : x ∈ candL g grads rows least) : ∃ f b, f < g.cuts.length ∧ b < (cutsF g f).length ∧ x = candAt g grads rows f b ∧ least ≤ x.l.1 ∧ least ≤ x.r.1 := by
 simp only [candL, List.mem_flatMap, List.mem_range, List.mem_filterMap] at h
 obtain ⟨f, hf, b, hb, hx⟩ := h
 split at hx
 ·rename_i q
  cases hx
  exact ⟨f, b, hf, hb, rfl, q⟩
 ·cases hx
def partL (g : Grd) (grads : List Int) (c : Cfg) (rows : List Int) (b : Int × Int) : Option Cd := bestL c b (candL g grads rows c.rows)
theorem bestL_mem {cfg : Cfg} {b : Int × Int} {l : List Cd} {x : Cd} (h : bestL cfg b l = some x) : x ∈ l ∧ mayPart cfg b x = true := by
 have := List.mem_of_find?_eq_some h
 exact List.mem_filter.1 this
end Go.H.S
