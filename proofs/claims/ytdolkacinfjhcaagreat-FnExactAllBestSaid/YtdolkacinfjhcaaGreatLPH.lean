/- Library, part PG: fractions and gains: contracts. -/
import Derived.Test.YtdolkacinfjhcaaGreatLPF
import Derived.Test.YtdolkacinfjhcaaGreatLPE
namespace Go.H.S
open Go Go.Proofs Go.H
attribute [local irreducible] Tri FnSpec FnSpecM FnSpecX FnSpecJ FnSpecB hiU loU
set_option maxRecDepth 100000
set_option linter.unusedSimpArgs false
set_option linter.unusedVariables false


/-- A fraction that is well formed. -/
structure frW (f : Int × Int) : Prop where
  num : 0 ≤ f.1
  room : f.1 < 170141183460469231731687303715884105728
  den : 1 ≤ f.2 ∧ f.2 ≤ 1000000
/-- Two fractions that can be brought to one denominator. -/
structure frX (a b : Int × Int) : Prop where
  left : frW a
  right : frW b
  ab : a.1 * b.2 < 170141183460469231731687303715884105728
  ba : b.1 * a.2 < 170141183460469231731687303715884105728
abbrev tupX (x y : Int) : AV := .tup [(true, cV x), (true, cV y), (false, [.d (.bool true)])]
theorem impl_FracOk_w {f : Int × Int} (h : frW f) : FnSpec PR f_impl_FracOk [aFr f] (ab true) [] 0 := impl_FracOk_raw _ _ _ (hi_lt h.num h.room) h.den
theorem spec_FracOk_w {f : Int × Int} (h : frW f) : FnSpec PR f_spec_FracOk [aFr f] (ab true) [] 0 := spec_FracOk_raw _ _ _ (hi_lt h.num h.room) h.den

theorem impl_fracOf_spec (n d : Int) (h : frW (n, d)) : FnSpec PR f_impl_fracOf [aV n, ai d] (tupFr (n, d) true) [] 0 := by
  refine FnSpec.intro hT p_impl_fracOf rfl (by kernel_rfl) n_impl_fracOf rfl ?_
  conv => whnf
  refine .inl ⟨_, _, _, impl_FracOk_w h, rfl, ?_⟩
  (conv => whnf)

theorem impl_SquareOver_spec (g d : Int) (hg : i64 g) (hd : 1 ≤ d ∧ d ≤ 1000000) : FnSpec PR f_impl_SquareOver [ai g, ai d] (tupFr (g * g, d) true) [] 0 := by
  have hg' : -9223372036854775808 ≤ g ∧ g ≤ 9223372036854775807 := hg
  have hq := sq_in (x := g) (A := 9223372036854775808) (by omega)
  refine FnSpec.intro hT p_impl_SquareOver rfl (by kernel_rfl) n_impl_SquareOver rfl ?_
  conv => whnf
  refine .inl ⟨_, _, _, impl_MulWide_sq g hg, rfl, ?_⟩
  (conv => whnf)
  refine .inl ⟨_, _, _, impl_fracOf_spec (g * g) d ⟨hq.1, by dsimp only; omega, hd⟩, rfl, ?_⟩
  (conv => whnf)

theorem spec_SquareOver_spec (g d : Int) (hg : i64 g) (hd : 1 ≤ d ∧ d ≤ 1000000) : FnSpec PR f_spec_SquareOver [ai g, ai d] (tupFr (g * g, d) true) [] 0 := by
  have hg' : -9223372036854775808 ≤ g ∧ g ≤ 9223372036854775807 := hg
  have hq := sq_in (x := g) (A := 9223372036854775808) (by omega)
  refine FnSpec.intro hT p_spec_SquareOver rfl (by kernel_rfl) n_spec_SquareOver rfl ?_
  conv => whnf
  refine .inl ⟨_, _, _, spec_MulWide_sq g hg, rfl, ?_⟩
  (conv => whnf)
  refine .inl ⟨_, _, _, spec_FracOk_w (f := (g * g, d)) ⟨hq.1, by dsimp only; omega, hd⟩, rfl, ?_⟩
  (conv => whnf)

theorem impl_crossed_spec (a b : Int × Int) (h : frX a b) : FnSpec PR f_impl_crossed [aFr a, aFr b] (tupX (a.1 * b.2) (b.1 * a.2)) [] 0 := by
  have ha := h.left.den
  have hb := h.right.den
  refine FnSpec.intro hT p_impl_crossed rfl (by kernel_rfl) n_impl_crossed rfl ?_
  conv => whnf
  refine .inl ⟨_, _, _, impl_FracOk_w h.left, rfl, ?_⟩
  (conv => whnf)
  refine .inl ⟨_, _, _, impl_FracOk_w h.right, rfl, ?_⟩
  (conv => whnf)
  refine .inl ⟨_, _, _, impl_ScaleWide_pos a.1 b.2 h.left.num (by omega) h.ab h.left.room, rfl, ?_⟩
  (conv => whnf)
  refine .inl ⟨_, _, _, impl_ScaleWide_pos b.1 a.2 h.right.num (by omega) h.ba h.right.room, rfl, ?_⟩
  (conv => whnf)
  refine tri_rp 4 ?_
  (conv => whnf)
  refine tri_rp 5 ?_
  (conv => whnf)
  dsimp only [cV, tupX]
  generalize hiU (a.1 * b.2) = u1 at *
  generalize loU (a.1 * b.2) = u2 at *
  generalize hiU (b.1 * a.2) = u3 at *
  generalize loU (b.1 * a.2) = u4 at *
  refine tri_every hT hmix [4, 5, 6] { t := [(4, .c (.ptr 0 0)), (5, .c (.ptr 1 0)), (6, ab true)], h := [(0, .box t_impl_Wide [.d (.bool false), .d (.int .u64 u1), .d (.int .u64 u2)]), (1, .box t_impl_Wide [.d (.bool false), .d (.int .u64 u3), .d (.int .u64 u4)])], n := 2, N := 43 } rfl ?_ ?_
  · repeat' first
      | (refine anyV_one rfl ?_; (conv => whnf))
      | (refine anyV_two rfl ?_ ?_ <;> (conv => whnf))
      | (refine anyV_three rfl ?_ ?_ ?_ <;> (conv => whnf))
      | (refine anyV_end rfl ?_; (conv => whnf); first | done | rfl)
  (conv => whnf)

theorem spec_l5Cross_spec (a b : Int × Int) (h : frX a b) : FnSpec PR f_spec_l5Cross [aFr a, aFr b] (tupX (a.1 * b.2) (b.1 * a.2)) [] 0 := by
  have ha := h.left.den
  have hb := h.right.den
  refine FnSpec.intro hT p_spec_l5Cross rfl (by kernel_rfl) n_spec_l5Cross rfl ?_
  conv => whnf
  refine .inl ⟨_, _, _, spec_FracOk_w h.left, rfl, ?_⟩
  (conv => whnf)
  refine .inl ⟨_, _, _, spec_FracOk_w h.right, rfl, ?_⟩
  (conv => whnf)
  refine .inl ⟨_, _, _, spec_ScaleWide_pos a.1 b.2 h.left.num (by omega) h.ab h.left.room, rfl, ?_⟩
  (conv => whnf)
  refine .inl ⟨_, _, _, spec_ScaleWide_pos b.1 a.2 h.right.num (by omega) h.ba h.right.room, rfl, ?_⟩
  (conv => whnf)
  refine tri_rp 4 ?_
  (conv => whnf)
  refine tri_rp 5 ?_
  (conv => whnf)
  dsimp only [cV, tupX]
  generalize hiU (a.1 * b.2) = u1 at *
  generalize loU (a.1 * b.2) = u2 at *
  generalize hiU (b.1 * a.2) = u3 at *
  generalize loU (b.1 * a.2) = u4 at *
  refine tri_every hT hmix [4, 5, 6] { t := [(4, .c (.ptr 0 0)), (5, .c (.ptr 1 0)), (6, ab true)], h := [(0, .box t_impl_Wide [.d (.bool false), .d (.int .u64 u1), .d (.int .u64 u2)]), (1, .box t_impl_Wide [.d (.bool false), .d (.int .u64 u3), .d (.int .u64 u4)])], n := 2, N := 43 } rfl ?_ ?_
  · repeat' first
      | (refine anyV_one rfl ?_; (conv => whnf))
      | (refine anyV_two rfl ?_ ?_ <;> (conv => whnf))
      | (refine anyV_three rfl ?_ ?_ ?_ <;> (conv => whnf))
      | (refine anyV_end rfl ?_; (conv => whnf); first | done | rfl)
  (conv => whnf)

/-- Two fractions that can be added. -/
structure frS (a b : Int × Int) : Prop where
  x : frX a b
  sum : a.1 * b.2 + b.1 * a.2 < 170141183460469231731687303715884105728
  den : a.2 * b.2 ≤ 1000000
def addF (a b : Int × Int) : Int × Int := (a.1 * b.2 + b.1 * a.2, a.2 * b.2)
theorem frX.pos {a b : Int × Int} (h : frX a b) : 0 ≤ a.1 * b.2 ∧ 0 ≤ b.1 * a.2 := ⟨Int.mul_nonneg h.left.num (by have := h.right.den; omega), Int.mul_nonneg h.right.num (by have := h.left.den; omega)⟩
theorem frS.good {a b : Int × Int} (h : frS a b) : frW (addF a b) := by
  have h1 := h.x.pos
  have h2 := h.x.left.den
  have h3 := h.x.right.den
  have h4 : 0 < a.2 * b.2 := Int.mul_pos (by omega) (by omega)
  have h5 := h.sum
  have h6 := h.den
  exact ⟨by unfold addF; dsimp only; omega, by unfold addF; dsimp only; omega, by unfold addF; dsimp only; omega⟩

theorem impl_AddFrac_spec (a b : Int × Int) (h : frS a b) : FnSpec PR f_impl_AddFrac [aFr a, aFr b] (tupFr (addF a b) true) [] 0 := by
  have h1 := h.x.pos
  have h2 := h.x.left.den
  have h3 := h.x.right.den
  have e1 : wMul .i64 a.2 b.2 = a.2 * b.2 := wMul64 (by have : 0 < a.2 * b.2 := Int.mul_pos (by omega) (by omega); omega) (by have := h.den; omega)
  refine FnSpec.intro hT p_impl_AddFrac rfl (by kernel_rfl) n_impl_AddFrac rfl ?_
  conv => whnf
  refine .inl ⟨_, _, _, impl_crossed_spec a b h.x, rfl, ?_⟩
  (conv => whnf)
  refine .inl ⟨_, _, _, impl_AddWide_pos _ _ h1.1 h1.2 h.sum, rfl, ?_⟩
  (conv => whnf)
  rw [e1]
  refine .inl ⟨_, _, _, impl_fracOf_spec _ _ h.good, rfl, ?_⟩
  (conv => whnf)
  rfl

theorem spec_AddFrac_spec (a b : Int × Int) (h : frS a b) : FnSpec PR f_spec_AddFrac [aFr a, aFr b] (tupFr (addF a b) true) [] 0 := by
  have h1 := h.x.pos
  have h2 := h.x.left.den
  have h3 := h.x.right.den
  have e1 : wMul .i64 a.2 b.2 = a.2 * b.2 := wMul64 (by have : 0 < a.2 * b.2 := Int.mul_pos (by omega) (by omega); omega) (by have := h.den; omega)
  refine FnSpec.intro hT p_spec_AddFrac rfl (by kernel_rfl) n_spec_AddFrac rfl ?_
  conv => whnf
  refine .inl ⟨_, _, _, spec_l5Cross_spec a b h.x, rfl, ?_⟩
  (conv => whnf)
  refine .inl ⟨_, _, _, spec_AddWide_pos _ _ h1.1 h1.2 h.sum, rfl, ?_⟩
  (conv => whnf)
  rw [e1]
  refine .inl ⟨_, _, _, spec_FracOk_w (f := addF a b) h.good, rfl, ?_⟩
  (conv => whnf)
  rfl

theorem impl_CompareFrac_spec (a b : Int × Int) (h : frX a b) : FnSpec PR f_impl_CompareFrac [aFr a, aFr b] (tupIk (cmpF a b) true) [] 0 := by
  have h1 := h.pos
  refine FnSpec.intro hT p_impl_CompareFrac rfl (by kernel_rfl) n_impl_CompareFrac rfl ?_
  conv => whnf
  refine .inl ⟨_, _, _, impl_crossed_spec a b h, rfl, ?_⟩
  (conv => whnf)
  refine .inl ⟨_, _, _, impl_CompareWide_pos _ _ h1.1 h1.2, rfl, ?_⟩
  (conv => whnf)
  rfl

theorem spec_CompareFrac_spec (a b : Int × Int) (h : frX a b) : FnSpec PR f_spec_CompareFrac [aFr a, aFr b] (tupIk (cmpF a b) true) [] 0 := by
  have h1 := h.pos
  refine FnSpec.intro hT p_spec_CompareFrac rfl (by kernel_rfl) n_spec_CompareFrac rfl ?_
  conv => whnf
  refine .inl ⟨_, _, _, spec_l5Cross_spec a b h, rfl, ?_⟩
  (conv => whnf)
  refine .inl ⟨_, _, _, spec_CompareWide_pos _ _ h1.1 h1.2, rfl, ?_⟩
  (conv => whnf)
  rfl

theorem gainS_w {s : Int × Int} {lam : Int} (hs : slP s) (hl : 1 ≤ lam ∧ lam ≤ 100) : frW (gainS s lam) := by
  have := gainS_in hs hl
  exact ⟨by unfold gainS; dsimp only; omega, by unfold gainS; dsimp only; omega, by unfold gainS; dsimp only; omega⟩
theorem gainC_w {c : Cd} {lam : Int} (hs : slP c.l) (ht : slP c.r) (hl : 1 ≤ lam ∧ lam ≤ 100) : frW (gainC c lam) := by
  have := gainC_in hs ht hl
  exact ⟨by unfold gainC; dsimp only; omega, by unfold gainC; dsimp only; omega, by unfold gainC; dsimp only; omega⟩
theorem fr_x {a b : Int × Int} (ha : frP a) (hb : frP b) : frX a b := by
  obtain ⟨a1, a2⟩ := ha
  obtain ⟨b1, b2⟩ := hb
  have h1 := mul_in (x := a.1) (y := b.2) a1 ⟨by omega, b2.2⟩
  have h2 := mul_in (x := b.1) (y := a.2) b1 ⟨by omega, a2.2⟩
  exact ⟨⟨by omega, by omega, by omega⟩, ⟨by omega, by omega, by omega⟩, by omega, by omega⟩
theorem gain_s {c : Cd} {lam : Int} (hs : slP c.l) (ht : slP c.r) (hl : 1 ≤ lam ∧ lam ≤ 100) : frS (gainS c.l lam) (gainS c.r lam) := by
  have h1 := gainC_in hs ht hl
  refine ⟨fr_x (gainS_fr hs hl) (gainS_fr ht hl), ?_, ?_⟩
  · unfold gainS; dsimp only; omega
  · unfold gainS; dsimp only; omega
theorem gain_add (c : Cd) (lam : Int) : addF (gainS c.l lam) (gainS c.r lam) = gainC c lam := rfl

theorem impl_PlainGain_spec (s : Int × Int) (lam : Int) (hs : slP s) (hl : 1 ≤ lam ∧ lam ≤ 100) : FnSpec PR f_impl_PlainGain [aB s, ai lam] (tupFr (gainS s lam) true) [] 0 := by
  obtain ⟨h1, h2⟩ := hs
  have e1 : wAdd .i64 s.1 lam = s.1 + lam := wAdd64 (by omega) (by omega)
  refine FnSpec.intro hT p_impl_PlainGain rfl (by kernel_rfl) n_impl_PlainGain rfl ?_
  conv => whnf
  refine .inl ⟨_, _, _, impl_isCount_spec _ _, rfl, ?_⟩
  rw [decide_eq_true h1, decide_eq_true hl]
  (conv => whnf)
  rw [e1]
  refine .inl ⟨_, _, _, impl_SquareOver_spec s.2 (s.1 + lam) (show i64 s.2 from ⟨by omega, by omega⟩) (by omega), rfl, ?_⟩
  (conv => whnf)
  rfl

theorem spec_PlainGain_spec (s : Int × Int) (lam : Int) (hs : slP s) (hl : 1 ≤ lam ∧ lam ≤ 100) : FnSpec PR f_spec_PlainGain [aB s, ai lam] (tupFr (gainS s lam) true) [] 0 := by
  obtain ⟨h1, h2⟩ := hs
  have e1 : wAdd .i64 s.1 lam = s.1 + lam := wAdd64 (by omega) (by omega)
  refine FnSpec.intro hT p_spec_PlainGain rfl (by kernel_rfl) n_spec_PlainGain rfl ?_
  conv => whnf
  refine .inl ⟨_, _, _, spec_l1In_spec _ _ _, rfl, ?_⟩
  rw [decide_eq_true h1]
  (conv => whnf)
  refine .inl ⟨_, _, _, spec_l1In_spec _ _ _, rfl, ?_⟩
  rw [decide_eq_true hl]
  (conv => whnf)
  rw [e1]
  refine .inl ⟨_, _, _, spec_SquareOver_spec s.2 (s.1 + lam) (show i64 s.2 from ⟨by omega, by omega⟩) (by omega), rfl, ?_⟩
  (conv => whnf)
  rfl

theorem impl_GainOf_spec (c : Cd) (lam : Int) (h1 : slP c.l) (h2 : slP c.r) (hl : 1 ≤ lam ∧ lam ≤ 100) : FnSpec PR f_impl_GainOf [aCd c, ai lam] (tupFr (gainC c lam) true) [] 0 := by
  refine FnSpec.intro hT p_impl_GainOf rfl (by kernel_rfl) n_impl_GainOf rfl ?_
  conv => whnf
  refine .inl ⟨_, _, _, impl_PlainGain_spec c.l lam h1 hl, rfl, ?_⟩
  (conv => whnf)
  refine .inl ⟨_, _, _, impl_PlainGain_spec c.r lam h2 hl, rfl, ?_⟩
  (conv => whnf)
  refine .inl ⟨_, _, _, impl_AddFrac_spec _ _ (gain_s h1 h2 hl), rfl, ?_⟩
  rw [gain_add]
  (conv => whnf)

theorem spec_GainOf_spec (c : Cd) (lam : Int) (h1 : slP c.l) (h2 : slP c.r) (hl : 1 ≤ lam ∧ lam ≤ 100) : FnSpec PR f_spec_GainOf [aCd c, ai lam] (tupFr (gainC c lam) true) [] 0 := by
  refine FnSpec.intro hT p_spec_GainOf rfl (by kernel_rfl) n_spec_GainOf rfl ?_
  conv => whnf
  refine .inl ⟨_, _, _, spec_PlainGain_spec c.l lam h1 hl, rfl, ?_⟩
  (conv => whnf)
  refine .inl ⟨_, _, _, spec_PlainGain_spec c.r lam h2 hl, rfl, ?_⟩
  (conv => whnf)
  refine .inl ⟨_, _, _, spec_AddFrac_spec _ _ (gain_s h1 h2 hl), rfl, ?_⟩
  rw [gain_add]
  (conv => whnf)
end Go.H.S
namespace Go.H.S
open Go Go.Proofs Go.H
attribute [local irreducible] Tri FnSpec FnSpecM FnSpecX FnSpecJ FnSpecB hiU loU
set_option maxRecDepth 100000
set_option linter.unusedSimpArgs false
set_option linter.unusedVariables false


theorem impl_AddInt_small (a b : Int) (ha : -2305843009213693952 ≤ a ∧ a ≤ 2305843009213693952) (hb : -2305843009213693952 ≤ b ∧ b ≤ 2305843009213693952) : FnSpec PR f_impl_AddInt [ai a, ai b] (tupIk (a + b) true) [] 0 := by
  have e1 : wAdd .i64 a b = a + b := wAdd64 (by omega) (by omega)
  refine FnSpec.intro hT p_impl_AddInt rfl (by kernel_rfl) n_impl_AddInt rfl ?_
  conv => whnf
  rw [e1]
  cases g1 : bEq (iLt a 0) (iLt b 0)
  · (conv => whnf)
  · have g2 : bNot (bEq (iLt (a + b) 0) (iLt a 0)) = false := by
      rcases Int.lt_or_le a 0 with p | p <;> rcases Int.lt_or_le b 0 with q | q
      · rw [show iLt a 0 = true from decide_eq_true p, show iLt (a + b) 0 = true from decide_eq_true (by omega)]; rfl
      · rw [show iLt a 0 = true from decide_eq_true p, show iLt b 0 = false from decide_eq_false (by omega)] at g1; cases g1
      · rw [show iLt a 0 = false from decide_eq_false (by omega), show iLt b 0 = true from decide_eq_true q] at g1; cases g1
      · rw [show iLt a 0 = false from decide_eq_false (by omega), show iLt (a + b) 0 = false from decide_eq_false (by omega)]; rfl
    (conv => whnf)
    rw [g2]
    (conv => whnf)

theorem spec_AddInt_small (a b : Int) (ha : -2305843009213693952 ≤ a ∧ a ≤ 2305843009213693952) (hb : -2305843009213693952 ≤ b ∧ b ≤ 2305843009213693952) : FnSpec PR f_spec_AddInt [ai a, ai b] (tupIk (a + b) true) [] 0 := by
  have e1 : wAdd .i64 a b = a + b := wAdd64 (by omega) (by omega)
  have e2 : wSub .i64 9223372036854775807 b = 9223372036854775807 - b ∨ b ≤ 0 := by
    rcases Int.lt_or_le 0 b with q | q
    · exact .inl (wSub64 (by omega) (by omega))
    · exact .inr q
  have e3 : wSub .i64 (-9223372036854775808) b = -9223372036854775808 - b ∨ 0 ≤ b := by
    rcases Int.lt_or_le b 0 with q | q
    · exact .inl (wSub64 (by omega) (by omega))
    · exact .inr q
  refine FnSpec.intro hT p_spec_AddInt rfl (by kernel_rfl) n_spec_AddInt rfl ?_
  conv => whnf
  cases g1 : iLt 0 b <;> simp only [nInt_eq, Int.natCast_zero, dLen_eL, sLen_eq, nOf_eq, Int.toNat_natCast, nAdd_eq, nSub_eq, dLen_nil, dLen_cons, iLt_t, iLt_f, iLe_t, iLe_f, iEq_t, iEq_f, sEq_t, sEq_f, bNot_t, bNot_f, bAnd_t, bEq_t, bEq_f, Bool.not_eq_true, Bool.not_eq_false, Bool.true_eq_false, Bool.false_eq_true] at g1 <;> (conv => whnf)
  · cases g2 : iLt b 0 <;> simp only [nInt_eq, Int.natCast_zero, dLen_eL, sLen_eq, nOf_eq, Int.toNat_natCast, nAdd_eq, nSub_eq, dLen_nil, dLen_cons, iLt_t, iLt_f, iLe_t, iLe_f, iEq_t, iEq_f, sEq_t, sEq_f, bNot_t, bNot_f, bAnd_t, bEq_t, bEq_f, Bool.not_eq_true, Bool.not_eq_false, Bool.true_eq_false, Bool.false_eq_true] at g2 <;> (conv => whnf)
    · rw [e1]
    · rcases e3 with e3 | e3
      · rw [e3, show iLt a (-9223372036854775808 - b) = false from decide_eq_false (by omega)]
        (conv => whnf)
        rw [e1]
      · omega
  · rcases e2 with e2 | e2
    · rw [e2, show iLt (9223372036854775807 - b) a = false from decide_eq_false (by omega)]
      (conv => whnf)
      rw [show iLt b 0 = false from decide_eq_false (by omega)]
      (conv => whnf)
      rw [e1]
    · omega

theorem impl_SubInt_small (a b : Int) (ha : -2305843009213693952 ≤ a ∧ a ≤ 2305843009213693952) (hb : -2305843009213693952 ≤ b ∧ b ≤ 2305843009213693952) : FnSpec PR f_impl_SubInt [ai a, ai b] (tupIk (a - b) true) [] 0 := by
  have e1 : wSub .i64 a b = a - b := wSub64 (by omega) (by omega)
  refine FnSpec.intro hT p_impl_SubInt rfl (by kernel_rfl) n_impl_SubInt rfl ?_
  conv => whnf
  rw [e1]
  cases g1 : bNot (bEq (iLt a 0) (iLt b 0))
  · (conv => whnf)
  · have g2 : bNot (bEq (iLt (a - b) 0) (iLt a 0)) = false := by
      rcases Int.lt_or_le a 0 with p | p <;> rcases Int.lt_or_le b 0 with q | q
      · rw [show iLt a 0 = true from decide_eq_true p, show iLt b 0 = true from decide_eq_true q] at g1; cases g1
      · rw [show iLt a 0 = true from decide_eq_true p, show iLt (a - b) 0 = true from decide_eq_true (by omega)]; rfl
      · rw [show iLt a 0 = false from decide_eq_false (by omega), show iLt (a - b) 0 = false from decide_eq_false (by omega)]; rfl
      · rw [show iLt a 0 = false from decide_eq_false (by omega), show iLt b 0 = false from decide_eq_false (by omega)] at g1; cases g1
    (conv => whnf)
    rw [g2]
    (conv => whnf)

theorem spec_SubInt_small (a b : Int) (ha : -2305843009213693952 ≤ a ∧ a ≤ 2305843009213693952) (hb : -2305843009213693952 ≤ b ∧ b ≤ 2305843009213693952) : FnSpec PR f_spec_SubInt [ai a, ai b] (tupIk (a - b) true) [] 0 := by
  have e1 : wSub .i64 a b = a - b := wSub64 (by omega) (by omega)
  refine FnSpec.intro hT p_spec_SubInt rfl (by kernel_rfl) n_spec_SubInt rfl ?_
  conv => whnf
  cases g1 : iLt b 0 <;> simp only [nInt_eq, Int.natCast_zero, dLen_eL, sLen_eq, nOf_eq, Int.toNat_natCast, nAdd_eq, nSub_eq, dLen_nil, dLen_cons, iLt_t, iLt_f, iLe_t, iLe_f, iEq_t, iEq_f, sEq_t, sEq_f, bNot_t, bNot_f, bAnd_t, bEq_t, bEq_f, Bool.not_eq_true, Bool.not_eq_false, Bool.true_eq_false, Bool.false_eq_true] at g1 <;> (conv => whnf)
  · cases g2 : iLt 0 b <;> simp only [nInt_eq, Int.natCast_zero, dLen_eL, sLen_eq, nOf_eq, Int.toNat_natCast, nAdd_eq, nSub_eq, dLen_nil, dLen_cons, iLt_t, iLt_f, iLe_t, iLe_f, iEq_t, iEq_f, sEq_t, sEq_f, bNot_t, bNot_f, bAnd_t, bEq_t, bEq_f, Bool.not_eq_true, Bool.not_eq_false, Bool.true_eq_false, Bool.false_eq_true] at g2 <;> (conv => whnf)
    · rw [e1]
    · rw [show wAdd .i64 (-9223372036854775808) b = -9223372036854775808 + b from wAdd64 (by omega) (by omega), show iLt a (-9223372036854775808 + b) = false from decide_eq_false (by omega)]
      (conv => whnf)
      rw [e1]
  · rw [show wAdd .i64 9223372036854775807 b = 9223372036854775807 + b from wAdd64 (by omega) (by omega), show iLt (9223372036854775807 + b) a = false from decide_eq_false (by omega)]
    (conv => whnf)
    rw [show iLt 0 b = false from decide_eq_false (by omega)]
    (conv => whnf)
    rw [e1]

abbrev tupSk (x : Int × Int) (b : Bool) : AV := .tup [(true, cB x), (false, [.d (.bool b)])]

theorem impl_plus_spec (a b : Int × Int) (ha : slB a) (hb : slB b) : FnSpec PR f_impl_Slot_plus [aB a, aB b] (tupSk (addS a b) true) [] 0 := by
  obtain ⟨a1, a2⟩ := ha
  obtain ⟨b1, b2⟩ := hb
  refine FnSpec.intro hT p_impl_Slot_plus rfl (by kernel_rfl) n_impl_Slot_plus rfl ?_
  conv => whnf
  refine .inl ⟨_, _, _, impl_AddInt_small a.1 b.1 (by omega) (by omega), rfl, ?_⟩
  (conv => whnf)
  refine .inl ⟨_, _, _, impl_AddInt_small a.2 b.2 (by omega) (by omega), rfl, ?_⟩
  (conv => whnf)
  rfl

theorem impl_minus_spec (a b : Int × Int) (ha : slB a) (hb : slB b) : FnSpec PR f_impl_Slot_minus [aB a, aB b] (tupSk (subS a b) true) [] 0 := by
  obtain ⟨a1, a2⟩ := ha
  obtain ⟨b1, b2⟩ := hb
  refine FnSpec.intro hT p_impl_Slot_minus rfl (by kernel_rfl) n_impl_Slot_minus rfl ?_
  conv => whnf
  refine .inl ⟨_, _, _, impl_SubInt_small a.1 b.1 (by omega) (by omega), rfl, ?_⟩
  (conv => whnf)
  refine .inl ⟨_, _, _, impl_SubInt_small a.2 b.2 (by omega) (by omega), rfl, ?_⟩
  (conv => whnf)
  rfl

theorem spec_l13Add_spec (a b : Int × Int) (ha : slB a) (hb : slB b) : FnSpec PR f_spec_l13Add [aB a, aB b] (tupSk (addS a b) true) [] 0 := by
  obtain ⟨a1, a2⟩ := ha
  obtain ⟨b1, b2⟩ := hb
  refine FnSpec.intro hT p_spec_l13Add rfl (by kernel_rfl) n_spec_l13Add rfl ?_
  conv => whnf
  refine .inl ⟨_, _, _, spec_AddInt_small a.1 b.1 (by omega) (by omega), rfl, ?_⟩
  (conv => whnf)
  refine .inl ⟨_, _, _, spec_AddInt_small a.2 b.2 (by omega) (by omega), rfl, ?_⟩
  (conv => whnf)
  rfl

theorem slP.b {s : Int × Int} (h : slP s) : slB s := by obtain ⟨h1, h2⟩ := h; exact ⟨by omega, by omega⟩
theorem impl_BothOf_spec (c : Cd) (h1 : slP c.l) (h2 : slP c.r) : FnSpec PR f_impl_BothOf [aCd c] (tupSk (addS c.l c.r) true) [] 0 := by
  refine FnSpec.intro hT p_impl_BothOf rfl (by kernel_rfl) n_impl_BothOf rfl ?_
  conv => whnf
  refine .inl ⟨_, _, _, impl_plus_spec c.l c.r h1.b h2.b, rfl, ?_⟩
  (conv => whnf)

theorem spec_BothOf_spec (c : Cd) (h1 : slP c.l) (h2 : slP c.r) : FnSpec PR f_spec_BothOf [aCd c] (tupSk (addS c.l c.r) true) [] 0 := by
  refine FnSpec.intro hT p_spec_BothOf rfl (by kernel_rfl) n_spec_BothOf rfl ?_
  conv => whnf
  refine .inl ⟨_, _, _, spec_l13Add_spec c.l c.r h1.b h2.b, rfl, ?_⟩
  (conv => whnf)

theorem impl_Improves_spec (c : Cd) (lam : Int) (hc : cdP c) (hl : 1 ≤ lam ∧ lam ≤ 100) : FnSpec PR f_impl_Improves [aCd c, ai lam] (ab (impr c lam)) [] 0 := by
  obtain ⟨h1, h2, h3, _⟩ := hc
  refine FnSpec.intro hT p_impl_Improves rfl (by kernel_rfl) n_impl_Improves rfl ?_
  conv => whnf
  refine .inl ⟨_, _, _, impl_GainOf_spec c lam h1 h2 hl, rfl, ?_⟩
  (conv => whnf)
  refine .inl ⟨_, _, _, impl_BothOf_spec c h1 h2, rfl, ?_⟩
  (conv => whnf)
  refine .inl ⟨_, _, _, impl_PlainGain_spec (addS c.l c.r) lam h3 hl, rfl, ?_⟩
  (conv => whnf)
  refine .inl ⟨_, _, _, impl_CompareFrac_spec _ _ (fr_x (gainC_fr h1 h2 hl) (gainS_fr h3 hl)), rfl, ?_⟩
  (conv => whnf)
  rfl

theorem spec_Improves_spec (c : Cd) (lam : Int) (hc : cdP c) (hl : 1 ≤ lam ∧ lam ≤ 100) : FnSpec PR f_spec_Improves [aCd c, ai lam] (ab (impr c lam)) [] 0 := by
  obtain ⟨h1, h2, h3, _⟩ := hc
  refine FnSpec.intro hT p_spec_Improves rfl (by kernel_rfl) n_spec_Improves rfl ?_
  conv => whnf
  refine .inl ⟨_, _, _, spec_BothOf_spec c h1 h2, rfl, ?_⟩
  (conv => whnf)
  refine .inl ⟨_, _, _, spec_GainOf_spec c lam h1 h2 hl, rfl, ?_⟩
  (conv => whnf)
  refine .inl ⟨_, _, _, spec_PlainGain_spec (addS c.l c.r) lam h3 hl, rfl, ?_⟩
  (conv => whnf)
  refine .inl ⟨_, _, _, spec_CompareFrac_spec _ _ (fr_x (gainC_fr h1 h2 hl) (gainS_fr h3 hl)), rfl, ?_⟩
  (conv => whnf)
  rfl

theorem cmp_isNaN_int_spec (x : Int) : FnSpec PR f_cmp_isNaN_int [ai x] (ab false) [] 0 := by
  refine FnSpec.intro hT p_cmp_isNaN_int rfl (by kernel_rfl) n_cmp_isNaN_int rfl ?_
  conv => whnf
  rw [show iEq x x = true from decide_eq_true rfl]
  rfl
theorem cmp_Compare_int_spec (x y : Int) : FnSpec PR f_cmp_Compare_int [ai x, ai y] (ai (cmpI x y)) [] 0 := by
  refine FnSpec.intro hT p_cmp_Compare_int rfl (by kernel_rfl) n_cmp_Compare_int rfl ?_
  conv => whnf
  refine .inl ⟨_, _, _, cmp_isNaN_int_spec x, rfl, ?_⟩
  (conv => whnf)
  refine .inl ⟨_, _, _, cmp_isNaN_int_spec y, rfl, ?_⟩
  (conv => whnf)
  unfold cmpI
  refine ifB_i (fun g => ?_) (fun g => ?_) <;> (conv => whnf) <;> simp only [nInt_eq, Int.natCast_zero, dLen_eL, sLen_eq, nOf_eq, Int.toNat_natCast, nAdd_eq, nSub_eq, dLen_nil, dLen_cons, iLt_t, iLt_f, iLe_t, iLe_f, iEq_t, iEq_f, sEq_t, sEq_f, bNot_t, bNot_f, bAnd_t, bEq_t, bEq_f, Bool.not_eq_true, Bool.not_eq_false, Bool.true_eq_false, Bool.false_eq_true] at g
  · rw [if_pos g]
  · refine ifB_i (fun g2 => ?_) (fun g2 => ?_) <;> (conv => whnf) <;> simp only [nInt_eq, Int.natCast_zero, dLen_eL, sLen_eq, nOf_eq, Int.toNat_natCast, nAdd_eq, nSub_eq, dLen_nil, dLen_cons, iLt_t, iLt_f, iLe_t, iLe_f, iEq_t, iEq_f, sEq_t, sEq_f, bNot_t, bNot_f, bAnd_t, bEq_t, bEq_f, Bool.not_eq_true, Bool.not_eq_false, Bool.true_eq_false, Bool.false_eq_true] at g2
    · rw [if_neg (by omega), if_pos g2]
    · rw [if_neg (by omega), if_neg (by omega)]
theorem lex_less (a b : Cd) : iLt (lexI a.f a.b b.f b.b) 0 = cdLess a b := by
  unfold cdLess
  rcases Int.lt_trichotomy a.f b.f with q | q | q
  · rw [lexI_lt q, decide_eq_true (.inl q)]; rfl
  · rw [q, lexI_eq]
    unfold cmpI
    by_cases q2 : a.b < b.b
    · rw [if_pos q2, decide_eq_true (.inr ⟨rfl, q2⟩)]; rfl
    · rw [if_neg q2, decide_eq_false (fun h => by rcases h with h | h; exact Int.lt_irrefl _ h; exact q2 h.2)]
      split <;> rfl
  · rw [lexI_gt q, decide_eq_false (fun h => by rcases h with h | h <;> omega)]; rfl
theorem impl_CandLess_spec (a b : Cd) : FnSpec PR f_impl_CandLess [aCd a, aCd b] (ab (cdLess a b)) [] 0 := by
  rw [← lex_less]
  refine FnSpec.intro hT p_impl_CandLess rfl (by kernel_rfl) n_impl_CandLess rfl ?_
  conv => whnf
  refine tri_rp 0 ?_
  (conv => whnf)
  refine tri_rp 1 ?_
  (conv => whnf)
  refine tri_every hT hmix [4] { t := [(4, ab (iLt (lexI a.f a.b b.f b.b) 0))], h := [], n := 0, N := 18 } rfl ?_ ?_
  · repeat' first
      | (refine anyV_one rfl ?_; (conv => whnf))
      | (refine anyV_two rfl ?_ ?_ <;> (conv => whnf))
      | (refine anyV_three rfl ?_ ?_ ?_ <;> (conv => whnf))
      | (refine .inl ⟨_, _, _, cmp_Compare_int_spec _ _, rfl, ?_⟩; (conv => whnf))
      | (refine .inl ⟨_, _, _, cmp_Or_int_lit _ _, rfl, ?_⟩; (conv => whnf))
      | (refine anyV_end rfl ?_; (conv => whnf); first | done | rfl)
  (conv => whnf)

theorem spec_CandLess_spec (a b : Cd) : FnSpec PR f_spec_CandLess [aCd a, aCd b] (ab (cdLess a b)) [] 0 := by
  unfold cdLess
  refine FnSpec.intro hT p_spec_CandLess rfl (by kernel_rfl) n_spec_CandLess rfl ?_
  conv => whnf
  cases g1 : iLt a.f b.f <;> simp only [nInt_eq, Int.natCast_zero, dLen_eL, sLen_eq, nOf_eq, Int.toNat_natCast, nAdd_eq, nSub_eq, dLen_nil, dLen_cons, iLt_t, iLt_f, iLe_t, iLe_f, iEq_t, iEq_f, sEq_t, sEq_f, bNot_t, bNot_f, bAnd_t, bEq_t, bEq_f, Bool.not_eq_true, Bool.not_eq_false, Bool.true_eq_false, Bool.false_eq_true] at g1 <;> (conv => whnf)
  · cases g2 : iEq a.f b.f <;> simp only [nInt_eq, Int.natCast_zero, dLen_eL, sLen_eq, nOf_eq, Int.toNat_natCast, nAdd_eq, nSub_eq, dLen_nil, dLen_cons, iLt_t, iLt_f, iLe_t, iLe_f, iEq_t, iEq_f, sEq_t, sEq_f, bNot_t, bNot_f, bAnd_t, bEq_t, bEq_f, Bool.not_eq_true, Bool.not_eq_false, Bool.true_eq_false, Bool.false_eq_true] at g2 <;> (conv => whnf)
    · rw [decide_eq_false (fun h => by rcases h with h | h <;> omega)]
    · rw [show decide (a.f < b.f ∨ a.f = b.f ∧ a.b < b.b) = iLt a.b b.b from decide_eq_decide.2 ⟨fun h => by rcases h with h | h; exact absurd h (by omega); exact h.2, fun h => .inr ⟨g2, h⟩⟩]
  · rw [decide_eq_true (.inl g1)]

theorem impl_Better_spec (a b : Cd) (lam : Int) (ha : cdP a) (hb : cdP b) (hl : 1 ≤ lam ∧ lam ≤ 100) : FnSpec PR f_impl_Better [aCd a, aCd b, ai lam] (ab (better a b lam)) [] 0 := by
  obtain ⟨a1, a2, _, _⟩ := ha
  obtain ⟨b1, b2, _, _⟩ := hb
  unfold better
  refine FnSpec.intro hT p_impl_Better rfl (by kernel_rfl) n_impl_Better rfl ?_
  conv => whnf
  refine .inl ⟨_, _, _, impl_GainOf_spec a lam a1 a2 hl, rfl, ?_⟩
  (conv => whnf)
  refine .inl ⟨_, _, _, impl_GainOf_spec b lam b1 b2 hl, rfl, ?_⟩
  (conv => whnf)
  refine .inl ⟨_, _, _, impl_CompareFrac_spec _ _ (fr_x (gainC_fr a1 a2 hl) (gainC_fr b1 b2 hl)), rfl, ?_⟩
  (conv => whnf)
  generalize cmpF (gainC a lam) (gainC b lam) = z
  cases g1 : iLt 0 z <;> simp only [nInt_eq, Int.natCast_zero, dLen_eL, sLen_eq, nOf_eq, Int.toNat_natCast, nAdd_eq, nSub_eq, dLen_nil, dLen_cons, iLt_t, iLt_f, iLe_t, iLe_f, iEq_t, iEq_f, sEq_t, sEq_f, bNot_t, bNot_f, bAnd_t, bEq_t, bEq_f, Bool.not_eq_true, Bool.not_eq_false, Bool.true_eq_false, Bool.false_eq_true] at g1 <;> (conv => whnf)
  · cases g2 : iEq z 0 <;> simp only [nInt_eq, Int.natCast_zero, dLen_eL, sLen_eq, nOf_eq, Int.toNat_natCast, nAdd_eq, nSub_eq, dLen_nil, dLen_cons, iLt_t, iLt_f, iLe_t, iLe_f, iEq_t, iEq_f, sEq_t, sEq_f, bNot_t, bNot_f, bAnd_t, bEq_t, bEq_f, Bool.not_eq_true, Bool.not_eq_false, Bool.true_eq_false, Bool.false_eq_true] at g2 <;> (conv => whnf)
    · rw [decide_eq_false (show ¬ 0 < z by omega), decide_eq_false g2]; rfl
    · refine .inl ⟨_, _, _, impl_CandLess_spec a b, rfl, ?_⟩
      (conv => whnf)
      rw [decide_eq_false (show ¬ 0 < z by omega), decide_eq_true g2]; rfl
  · rw [decide_eq_true g1]; rfl

theorem spec_Better_spec (a b : Cd) (lam : Int) (ha : cdP a) (hb : cdP b) (hl : 1 ≤ lam ∧ lam ≤ 100) : FnSpec PR f_spec_Better [aCd a, aCd b, ai lam] (ab (better a b lam)) [] 0 := by
  obtain ⟨a1, a2, _, _⟩ := ha
  obtain ⟨b1, b2, _, _⟩ := hb
  unfold better
  refine FnSpec.intro hT p_spec_Better rfl (by kernel_rfl) n_spec_Better rfl ?_
  conv => whnf
  refine .inl ⟨_, _, _, spec_GainOf_spec a lam a1 a2 hl, rfl, ?_⟩
  (conv => whnf)
  refine .inl ⟨_, _, _, spec_GainOf_spec b lam b1 b2 hl, rfl, ?_⟩
  (conv => whnf)
  refine .inl ⟨_, _, _, spec_CompareFrac_spec _ _ (fr_x (gainC_fr a1 a2 hl) (gainC_fr b1 b2 hl)), rfl, ?_⟩
  (conv => whnf)
  generalize cmpF (gainC a lam) (gainC b lam) = z
  cases g1 : iLt 0 z <;> simp only [nInt_eq, Int.natCast_zero, dLen_eL, sLen_eq, nOf_eq, Int.toNat_natCast, nAdd_eq, nSub_eq, dLen_nil, dLen_cons, iLt_t, iLt_f, iLe_t, iLe_f, iEq_t, iEq_f, sEq_t, sEq_f, bNot_t, bNot_f, bAnd_t, bEq_t, bEq_f, Bool.not_eq_true, Bool.not_eq_false, Bool.true_eq_false, Bool.false_eq_true] at g1 <;> (conv => whnf)
  · cases g2 : iEq z 0 <;> simp only [nInt_eq, Int.natCast_zero, dLen_eL, sLen_eq, nOf_eq, Int.toNat_natCast, nAdd_eq, nSub_eq, dLen_nil, dLen_cons, iLt_t, iLt_f, iLe_t, iLe_f, iEq_t, iEq_f, sEq_t, sEq_f, bNot_t, bNot_f, bAnd_t, bEq_t, bEq_f, Bool.not_eq_true, Bool.not_eq_false, Bool.true_eq_false, Bool.false_eq_true] at g2 <;> (conv => whnf)
    · rw [decide_eq_false (show ¬ 0 < z by omega), decide_eq_false g2]; rfl
    · refine .inl ⟨_, _, _, spec_CandLess_spec a b, rfl, ?_⟩
      (conv => whnf)
      rw [decide_eq_false (show ¬ 0 < z by omega), decide_eq_true g2]; rfl
  · rw [decide_eq_true g1]; rfl

theorem impl_Agrees_spec (s x y : Int) : FnSpec PR f_impl_Agrees [ai s, ai x, ai y] (ab (agrees s x y)) [] 0 := by
  unfold agrees
  refine FnSpec.intro hT p_impl_Agrees rfl (by kernel_rfl) n_impl_Agrees rfl ?_
  conv => whnf
  refine ifB_i (fun g => ?_) (fun g => ?_) <;> (conv => whnf) <;> simp only [nInt_eq, Int.natCast_zero, dLen_eL, sLen_eq, nOf_eq, Int.toNat_natCast, nAdd_eq, nSub_eq, dLen_nil, dLen_cons, iLt_t, iLt_f, iLe_t, iLe_f, iEq_t, iEq_f, sEq_t, sEq_f, bNot_t, bNot_f, bAnd_t, bEq_t, bEq_f, Bool.not_eq_true, Bool.not_eq_false, Bool.true_eq_false, Bool.false_eq_true] at g
  · rw [show decide ((s = 1 → x ≤ y) ∧ (s = -1 → y ≤ x)) = iLe x y from decide_eq_decide.2 ⟨fun h => h.1 g, fun h => ⟨fun _ => h, fun q => by omega⟩⟩]
  · refine ifB_i (fun g2 => ?_) (fun g2 => ?_) <;> (conv => whnf) <;> simp only [nInt_eq, Int.natCast_zero, dLen_eL, sLen_eq, nOf_eq, Int.toNat_natCast, nAdd_eq, nSub_eq, dLen_nil, dLen_cons, iLt_t, iLt_f, iLe_t, iLe_f, iEq_t, iEq_f, sEq_t, sEq_f, bNot_t, bNot_f, bAnd_t, bEq_t, bEq_f, Bool.not_eq_true, Bool.not_eq_false, Bool.true_eq_false, Bool.false_eq_true] at g2
    · rw [show decide ((s = 1 → x ≤ y) ∧ (s = -1 → y ≤ x)) = iLe y x from decide_eq_decide.2 ⟨fun h => h.2 g2, fun h => ⟨fun q => by omega, fun _ => h⟩⟩]
    · rw [decide_eq_true ⟨fun q => absurd q g, fun q => absurd q g2⟩]

theorem spec_Agrees_spec (s x y : Int) : FnSpec PR f_spec_Agrees [ai s, ai x, ai y] (ab (agrees s x y)) [] 0 := by
  unfold agrees
  refine FnSpec.intro hT p_spec_Agrees rfl (by kernel_rfl) n_spec_Agrees rfl ?_
  conv => whnf
  by_cases g1 : s = 1
  · rw [show iEq s 1 = true from decide_eq_true g1]
    (conv => whnf)
    rw [show iEq s 1 = true from decide_eq_true g1]
    (conv => whnf)
    cases g2 : iLe x y <;> simp only [nInt_eq, Int.natCast_zero, dLen_eL, sLen_eq, nOf_eq, Int.toNat_natCast, nAdd_eq, nSub_eq, dLen_nil, dLen_cons, iLt_t, iLt_f, iLe_t, iLe_f, iEq_t, iEq_f, sEq_t, sEq_f, bNot_t, bNot_f, bAnd_t, bEq_t, bEq_f, Bool.not_eq_true, Bool.not_eq_false, Bool.true_eq_false, Bool.false_eq_true] at g2 <;> (conv => whnf)
    · rw [show iEq s (-1) = false from decide_eq_false (by omega)]
      (conv => whnf)
      rw [decide_eq_false (fun h => by have := h.1 g1; omega)]
    · rw [decide_eq_true ⟨fun _ => g2, fun q => by omega⟩]
  · rw [show iEq s 1 = false from decide_eq_false g1]
    (conv => whnf)
    by_cases g2 : s = -1
    · rw [show iEq s (-1) = true from decide_eq_true g2]
      (conv => whnf)
      rw [show iEq s 1 = false from decide_eq_false g1]
      (conv => whnf)
      rw [show iEq s (-1) = true from decide_eq_true g2]
      (conv => whnf)
      rw [show decide ((s = 1 → x ≤ y) ∧ (s = -1 → y ≤ x)) = iLe y x from decide_eq_decide.2 ⟨fun h => h.2 g2, fun h => ⟨fun q => by omega, fun _ => h⟩⟩]
    · rw [show iEq s (-1) = false from decide_eq_false g2]
      (conv => whnf)
      rw [decide_eq_true ⟨fun q => absurd q g1, fun q => absurd q g2⟩]
end Go.H.S
