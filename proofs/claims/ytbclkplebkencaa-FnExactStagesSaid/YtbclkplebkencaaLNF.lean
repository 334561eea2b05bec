/- Library, part EA: helpers of the laws that draw; draws of trees with numbers. -/
import Derived.Test.YtbclkplebkencaaLDF
import Derived.Test.YtbclkplebkencaaLI
import Derived.Test.YtbclkplebkencaaLO
namespace Go.H.S
open Go Go.Proofs Go.H
attribute [local irreducible] Tri FnSpec FnSpecM FnSpecX FnSpecJ FnSpecB
set_option maxRecDepth 100000
set_option linter.unusedSimpArgs false
set_option linter.unusedVariables false


theorem laws_big_spec (code : List Int) : FnSpec PR f_laws_big [.c (.d (.sl 1 (eL cU code)))] (ab (iLt 1048576 code.length)) [] 0 := by
  refine FnSpec.intro hT p_laws_big rfl (by kernel_rfl) n_laws_big rfl ?_
  conv => whnf
  rw [show nInt (dLen (eL cU code)) = (code.length : Int) by simp]

theorem laws_at0_spec (code : List Int) (i : Nat) (hl : code.length ≤ 1048576) (hi : i ≤ 100) (hb : ∀ x ∈ code, 0 ≤ x ∧ x ≤ 255) : FnSpecX PR f_laws_at0 [.c (.d (.sl 1 (eL cU code))), ai i] Int (fun x => 0 ≤ x ∧ x ≤ 255) (fun x => ai x) (fun _ => []) (fun _ => 0) := by
  refine FnSpecX.intro hT p_laws_at0 rfl (by kernel_rfl) n_laws_at0 rfl ?_
  (conv => whnf)
  refine ifB_i (fun h1 => ?_) (fun h1 => ?_) <;> (conv => whnf) <;> simp only [nInt_eq, Int.natCast_zero, dLen_eL, sLen_eq, nOf_eq, Int.toNat_natCast, nAdd_eq, nSub_eq, dLen_nil, dLen_cons, iLt_t, iLt_f, iLe_t, iLe_f, iEq_t, iEq_f, sEq_t, sEq_f, bNot_t, bNot_f, bAnd_t, bEq_t, bEq_f, Bool.not_eq_true, Bool.not_eq_false, Bool.true_eq_false, Bool.false_eq_true] at h1
  · obtain ⟨y, hy⟩ := get_lt (show i < code.length by omega)
    refine idx_at (by simp) hy ?_
    (conv => whnf)
    have hy2 := hb y (List.mem_of_getElem? hy)
    have e : wConv .i64 y = y := by
      unfold wConv
      rw [wrap64] <;> omega
    refine ⟨y, hy2, ?_⟩
    ((conv => whnf); simp only [St.mk.injEq, List.cons.injEq, Prod.mk.injEq, AV.c.injEq, AV.agg.injEq, AV.tup.injEq, CV.d.injEq, D.int.injEq, D.bool.injEq, D.str.injEq, D.sl.injEq, Ent.arr.injEq, Ent.box.injEq, true_and, and_true, and_self, nInt_eq, Int.natCast_zero, dLen_eL, sLen_eq])
    exact e
  · refine And.intro (by simp [NZ]) ?_
    (conv => whnf)
    rw [show nInt (dLen (eL cU code)) = (code.length : Int) by simp]
    have e1 : wMul .i64 (i : Int) 7 = (i : Int) * 7 := wMul64 (by omega) (by omega)
    have e2 : wAdd .i64 ((i : Int) * 7) code.length = (i : Int) * 7 + code.length := wAdd64 (by omega) (by omega)
    rw [e1, e2]
    have hm := wRem_mod (x := (i : Int) * 7 + code.length) (n := 256) (by omega) (by decide)
    refine ⟨wRem ((i : Int) * 7 + code.length) 256, by omega, ?_⟩
    (conv => whnf)

abbrev tupT1 (x : List Nd × Int) : AV := .tup [(true, [.d (.sl 5 (eL cN x.1))]), (false, [.d (.int .i64 x.2)])]
abbrev tupT2 (x : List Nd × Int × Int) : AV := .tup [(true, [.d (.sl 5 (eL cN x.1))]), (false, [.d (.int .i64 x.2.1)]), (false, [.d (.int .i64 x.2.2)])]
end Go.H.S
namespace Go.H.S
open Go Go.Proofs Go.H
attribute [local irreducible] Tri FnSpec FnSpecM FnSpecX FnSpecJ FnSpecB
set_option maxRecDepth 100000
set_option linter.unusedSimpArgs false
set_option linter.unusedVariables false


theorem laws_rising_spec (l : List Int) (hs : l.Pairwise (· ≤ ·)) (hl : l.length ≤ 1048576) : FnSpec PR f_laws_rising [aIs l] (ab true) [] 0 := by
  refine FnSpec.intro hT p_laws_rising rfl (by kernel_rfl) n_laws_rising rfl ?_
  conv => whnf
  refine tri_loop hT [0, 3] (α := Nat) (fun x => { t := [(0, aIs l), (3, ai x)], h := [], n := 0, N := 20 })
    (fun x => 1 ≤ x) (fun x => l.length - x) 1 (by ((conv => whnf); simp only [St.mk.injEq, List.cons.injEq, Prod.mk.injEq, AV.c.injEq, AV.agg.injEq, AV.tup.injEq, CV.d.injEq, D.int.injEq, D.bool.injEq, D.str.injEq, D.sl.injEq, Ent.arr.injEq, Ent.box.injEq, true_and, and_true, and_self, nInt_eq, Int.natCast_zero, dLen_eL, sLen_eq]); rfl) (Nat.le_refl _) ?_
  intro i hi
  (conv => whnf)
  refine ifB_i (fun h1 => ?_) (fun h1 => ?_) <;> (conv => whnf) <;> simp only [nInt_eq, Int.natCast_zero, dLen_eL, sLen_eq, nOf_eq, Int.toNat_natCast, nAdd_eq, nSub_eq, dLen_nil, dLen_cons, iLt_t, iLt_f, iLe_t, iLe_f, iEq_t, iEq_f, sEq_t, sEq_f, bNot_t, bNot_f, bAnd_t, bEq_t, bEq_f, Bool.not_eq_true, Bool.not_eq_false, Bool.true_eq_false, Bool.false_eq_true] at h1
  · obtain ⟨x, hx⟩ := get_lt (show i - 1 < l.length by omega)
    obtain ⟨y, hy⟩ := get_lt (show i < l.length by omega)
    have hxy : x ≤ y := by
      have := List.pairwise_iff_getElem.1 hs (i - 1) i (List.getElem?_eq_some_iff.1 hx).1 (List.getElem?_eq_some_iff.1 hy).1 (by omega)
      rw [(List.getElem?_eq_some_iff.1 hx).2, (List.getElem?_eq_some_iff.1 hy).2] at this
      exact this
    have ei : wSub .i64 (i : Int) 1 = ((i - 1 : Nat) : Int) := by rw [wSub64] <;> omega
    refine tri_conf hT hmix (by kernel_rfl) ?_
    (conv => whnf)
    repeat' first
      | (refine And.intro (fun q => ?_) (fun q => ?_) <;> cases q <;> (conv => whnf))
      | (rw [ei]; refine idx_at (by simp) hx ?_; (conv => whnf))
      | (refine idx_at (by simp) hy ?_; (conv => whnf))
      | fail
    refine ifB_i (fun h2 => ?_) (fun h2 => ?_) <;> (conv => whnf) <;> simp only [nInt_eq, Int.natCast_zero, dLen_eL, sLen_eq, nOf_eq, Int.toNat_natCast, nAdd_eq, nSub_eq, dLen_nil, dLen_cons, iLt_t, iLt_f, iLe_t, iLe_f, iEq_t, iEq_f, sEq_t, sEq_f, bNot_t, bNot_f, bAnd_t, bEq_t, bEq_f, Bool.not_eq_true, Bool.not_eq_false, Bool.true_eq_false, Bool.false_eq_true] at h2
    · omega
    · refine ⟨i + 1, by omega, by omega, ?_⟩
      ((conv => whnf); simp only [St.mk.injEq, List.cons.injEq, Prod.mk.injEq, AV.c.injEq, AV.agg.injEq, AV.tup.injEq, CV.d.injEq, D.int.injEq, D.bool.injEq, D.str.injEq, D.sl.injEq, Ent.arr.injEq, Ent.box.injEq, true_and, and_true, and_self, nInt_eq, Int.natCast_zero, dLen_eL, sLen_eq])
      exact wI (show i < l.length by omega) (by omega)

theorem laws_sameInts_self (l : List Int) (hl : l.length ≤ 1048576) : FnSpec PR f_laws_sameInts [aIs l, aIs l] (ab true) [] 0 := by
  refine FnSpec.intro hT p_laws_sameInts rfl (by kernel_rfl) n_laws_sameInts rfl ?_
  conv => whnf
  refine ifB_i (fun h1 => ?_) (fun h1 => ?_) <;> (conv => whnf)
  · simp at h1
  refine tri_loop hT [0, 1, 5] (α := Nat) (fun x => { t := [(0, aIs l), (1, aIs l), (5, ai x)], h := [], n := 0, N := 26 })
    (fun x => x ≤ l.length) (fun x => l.length - x) 0 (by ((conv => whnf); simp only [St.mk.injEq, List.cons.injEq, Prod.mk.injEq, AV.c.injEq, AV.agg.injEq, AV.tup.injEq, CV.d.injEq, D.int.injEq, D.bool.injEq, D.str.injEq, D.sl.injEq, Ent.arr.injEq, Ent.box.injEq, true_and, and_true, and_self, nInt_eq, Int.natCast_zero, dLen_eL, sLen_eq])) (Nat.zero_le _) ?_
  intro i hi
  (conv => whnf)
  refine ifB_i (fun h1 => ?_) (fun h1 => ?_) <;> (conv => whnf) <;> simp only [nInt_eq, Int.natCast_zero, dLen_eL, sLen_eq, nOf_eq, Int.toNat_natCast, nAdd_eq, nSub_eq, dLen_nil, dLen_cons, iLt_t, iLt_f, iLe_t, iLe_f, iEq_t, iEq_f, sEq_t, sEq_f, bNot_t, bNot_f, bAnd_t, bEq_t, bEq_f, Bool.not_eq_true, Bool.not_eq_false, Bool.true_eq_false, Bool.false_eq_true] at h1
  · obtain ⟨y, hy⟩ := get_lt (show i < l.length by omega)
    refine tri_conf hT hmix (by kernel_rfl) ?_
    (conv => whnf)
    repeat' first
      | (refine And.intro (fun q => ?_) (fun q => ?_) <;> cases q <;> (conv => whnf))
      | (refine idx_at (by simp) hy ?_; (conv => whnf))
      | fail
    refine ifB_i (fun h2 => ?_) (fun h2 => ?_) <;> (conv => whnf) <;> simp only [nInt_eq, Int.natCast_zero, dLen_eL, sLen_eq, nOf_eq, Int.toNat_natCast, nAdd_eq, nSub_eq, dLen_nil, dLen_cons, iLt_t, iLt_f, iLe_t, iLe_f, iEq_t, iEq_f, sEq_t, sEq_f, bNot_t, bNot_f, bAnd_t, bEq_t, bEq_f, Bool.not_eq_true, Bool.not_eq_false, Bool.true_eq_false, Bool.false_eq_true] at h2
    · exact absurd rfl h2
    · refine ⟨i + 1, by omega, by omega, ?_⟩
      ((conv => whnf); simp only [St.mk.injEq, List.cons.injEq, Prod.mk.injEq, AV.c.injEq, AV.agg.injEq, AV.tup.injEq, CV.d.injEq, D.int.injEq, D.bool.injEq, D.str.injEq, D.sl.injEq, Ent.arr.injEq, Ent.box.injEq, true_and, and_true, and_self, nInt_eq, Int.natCast_zero, dLen_eL, sLen_eq])
      exact wI (show i < l.length by omega) (by omega)

theorem spec_BinOf_spec (l : List Int) (v : Int) (hl : l.length ≤ 1048576) : FnSpec PR f_spec_BinOf [aIs l, ai v] (ai (binL l v)) [] 0 := by
  refine FnSpec.intro hT p_spec_BinOf rfl (by kernel_rfl) n_spec_BinOf rfl ?_
  conv => whnf
  refine tri_loop hT [0, 1, 5, 6] (α := Nat) (fun x => { t := [(0, aIs l), (1, ai v), (5, ai (binL (l.take x) v)), (6, ai x)], h := [], n := 0, N := 22 })
    (fun x => x ≤ l.length) (fun x => l.length - x) 0 (by ((conv => whnf); simp only [St.mk.injEq, List.cons.injEq, Prod.mk.injEq, AV.c.injEq, AV.agg.injEq, AV.tup.injEq, CV.d.injEq, D.int.injEq, D.bool.injEq, D.str.injEq, D.sl.injEq, Ent.arr.injEq, Ent.box.injEq, true_and, and_true, and_self, nInt_eq, Int.natCast_zero, dLen_eL, sLen_eq, binL]); simp) (Nat.zero_le _) ?_
  intro i hi
  have hbl : binL (l.take i) v ≤ i := by
    unfold binL
    have := List.countP_le_length (p := fun c => iLt c v) (l := l.take i)
    simp at this
    omega
  (conv => whnf)
  refine ifB_i (fun h1 => ?_) (fun h1 => ?_) <;> (conv => whnf) <;> simp only [nInt_eq, Int.natCast_zero, dLen_eL, sLen_eq, nOf_eq, Int.toNat_natCast, nAdd_eq, nSub_eq, dLen_nil, dLen_cons, iLt_t, iLt_f, iLe_t, iLe_f, iEq_t, iEq_f, sEq_t, sEq_f, bNot_t, bNot_f, bAnd_t, bEq_t, bEq_f, Bool.not_eq_true, Bool.not_eq_false, Bool.true_eq_false, Bool.false_eq_true] at h1
  · obtain ⟨y, hy⟩ := get_lt (show i < l.length by omega)
    have e : binL (l.take (i + 1)) v = binL (l.take i) v + (if iLt y v = true then 1 else 0) := by
      simp [binL, List.take_add_one, hy, List.countP_append, List.countP_singleton]
    refine idx_at (by simp) hy ?_
    (conv => whnf)
    refine ifB_i (fun h2 => ?_) (fun h2 => ?_) <;> (conv => whnf)
    · rw [if_pos h2] at e
      refine ⟨i + 1, by omega, by omega, ?_⟩
      ((conv => whnf); simp only [St.mk.injEq, List.cons.injEq, Prod.mk.injEq, AV.c.injEq, AV.agg.injEq, AV.tup.injEq, CV.d.injEq, D.int.injEq, D.bool.injEq, D.str.injEq, D.sl.injEq, Ent.arr.injEq, Ent.box.injEq, true_and, and_true, and_self, nInt_eq, Int.natCast_zero, dLen_eL, sLen_eq, e])
      exact ⟨wAdd64 (by omega) (by omega), wI (show i < l.length by omega) (by omega)⟩
    · rw [if_neg (by simp [h2])] at e
      refine ⟨i + 1, by omega, by omega, ?_⟩
      ((conv => whnf); simp only [St.mk.injEq, List.cons.injEq, Prod.mk.injEq, AV.c.injEq, AV.agg.injEq, AV.tup.injEq, CV.d.injEq, D.int.injEq, D.bool.injEq, D.str.injEq, D.sl.injEq, Ent.arr.injEq, Ent.box.injEq, true_and, and_true, and_self, nInt_eq, Int.natCast_zero, dLen_eL, sLen_eq, e])
      exact ⟨rfl, wI (show i < l.length by omega) (by omega)⟩
  · obtain rfl : i = l.length := by omega
    rw [List.take_length]
end Go.H.S
namespace Go.H.S
open Go Go.Proofs Go.H
attribute [local irreducible] Tri FnSpec FnSpecM FnSpecX FnSpecJ FnSpecB
set_option maxRecDepth 100000
set_option linter.unusedSimpArgs false
set_option linter.unusedVariables false


theorem spec_DrawStepsAt_spec (code : List Int) (hl : code.length ≤ 1048576) : FnSpecX PR f_spec_DrawStepsAt [.c (.d (.sl 1 (eL cU code)))] (List Nd × Int) (fun x => x.1.length ≤ 32 ∧ -2 ≤ x.2 ∧ x.2 ≤ 2) tupT1 (fun _ => []) (fun _ => 0) := by
  refine FnSpecX.intro hT p_spec_DrawStepsAt rfl (by kernel_rfl) n_spec_DrawStepsAt rfl ?_
  (conv => whnf)
  refine .inr ⟨_, _, _, _, _, spec_l1New_spec code hl, fun h0 _ => ⟨rfl, ?_⟩⟩
  (conv => whnf)
  refine .inr (.inr (.inr (.inr (.inl ⟨1, ?_⟩))))
  (conv => whnf)
  refine ⟨_, _, _, _, _, _, spec_l17Bent_spec code 0 h0 ⟨by omega, by omega⟩ hl, fun ⟨t, i1, h1⟩ ⟨ht, hi1⟩ => ⟨rfl, ?_⟩⟩
  dsimp only at ht hi1
  (conv => whnf)
  refine .inr (.inr (.inr (.inr (.inl ⟨1, ?_⟩))))
  (conv => whnf)
  refine ⟨_, _, _, _, _, _, spec_l1Below_spec code i1 h1 _ hi1 hl, fun ⟨x, i2, h2⟩ ⟨hx, hi2⟩ => ⟨rfl, ?_⟩⟩
  dsimp only at hx hi2
  (conv => whnf)
  have hx2 := hx.2.1 (by decide)
  rw [show wSub .i64 x 2 = x - 2 from wSub64 (by omega) (by omega)]
  refine ⟨(t, x - 2), ⟨ht, by dsimp only; omega, by dsimp only; omega⟩, ?_⟩
  (conv => whnf)
end Go.H.S
namespace Go.H.S
open Go Go.Proofs Go.H
attribute [local irreducible] Tri FnSpec FnSpecM FnSpecX FnSpecJ FnSpecB
set_option maxRecDepth 100000
set_option linter.unusedSimpArgs false
set_option linter.unusedVariables false


set_option maxHeartbeats 1000000 in
theorem spec_l18Way_spec (t : List Nd) (row : List Int) (hl : t.length ≤ 1048576) (hr : row.length ≤ 1048576) : FnSpec PR f_spec_l18Way [aT t, aIs row] (.c (.ref 0 0 none)) [(0, .arr t_int 1 0 .own (eL cI ((routeL t row (t.length + 1) 0).getD [])))] 1 := by
  refine FnSpec.intro hT p_spec_l18Way rfl (by kernel_rfl) n_spec_l18Way rfl ?_
  conv => whnf
  refine tri_loop hT [1, 2, 5, 6, 7] (α := Nat × Int × List Int) (fun x => { t := [(1, aIs row), (2, .c (.ptr 0 0)), (5, .c (.ref 1 0 none)), (6, ai x.2.1), (7, ai x.1)], h := [(0, .box t_impl_Tree (cTr t)), (1, .arr t_int 1 0 .own (eL cI x.2.2))], n := 2, N := 59 })
    (fun x => x.1 ≤ t.length + 1 ∧ x.2.2.length ≤ x.1 ∧ (routeL t row (t.length + 1 - x.1) x.2.1).map (x.2.2 ++ ·) = routeL t row (t.length + 1) 0) (fun x => t.length + 1 - x.1) (0, 0, []) (by ((conv => whnf); simp only [St.mk.injEq, List.cons.injEq, Prod.mk.injEq, AV.c.injEq, AV.agg.injEq, AV.tup.injEq, CV.d.injEq, D.int.injEq, D.bool.injEq, D.str.injEq, D.sl.injEq, Ent.arr.injEq, Ent.box.injEq, true_and, and_true, and_self, nInt_eq, Int.natCast_zero, dLen_eL, sLen_eq, eL_nil])) ⟨by simp, by simp, by simp⟩ ?_
  intro ⟨k, x, o⟩ ⟨hk, ho, he⟩
  dsimp only at hk ho he
  (conv => whnf)
  rw [show nInt (dLen (eL cN t)) = (t.length : Int) by simp]
  refine ifB_i (fun h1 => ?_) (fun h1 => ?_) <;> (conv => whnf) <;> simp only [nInt_eq, Int.natCast_zero, dLen_eL, sLen_eq, nOf_eq, Int.toNat_natCast, nAdd_eq, nSub_eq, dLen_nil, dLen_cons, iLt_t, iLt_f, iLe_t, iLe_f, iEq_t, iEq_f, sEq_t, sEq_f, bNot_t, bNot_f, bAnd_t, bEq_t, bEq_f, Bool.not_eq_true, Bool.not_eq_false, Bool.true_eq_false, Bool.false_eq_true] at h1
  · obtain ⟨m, hm⟩ : ∃ m, t.length + 1 - k = m + 1 := ⟨t.length - k, by omega⟩
    rw [hm, routeL] at he
    rw [show nInt (dLen (eL cN t)) = (t.length : Int) by simp]
    rw [show wSub .i64 (t.length : Int) 1 = (t.length : Int) - 1 from wSub64 (by omega) (by omega)]
    refine .inl ⟨_, _, _, spec_l1In_spec _ _ _, rfl, ?_⟩
    (conv => whnf)
    refine ifB_i (fun h2 => ?_) (fun h2 => ?_) <;> (conv => whnf)
    · simp at h2
      have hz : routeL t row (t.length + 1) 0 = none := by
        rw [← he]
        split
        · rename_i h3
          have : t[x.toNat]? = none := List.getElem?_eq_none (by have := h2 h3; omega)
          simp [this]
        · rfl
      rw [hz]
      simp [eL_nil]
    · simp at h2
      obtain ⟨j, rfl⟩ : ∃ j : Nat, x = j := ⟨x.toNat, by omega⟩
      obtain ⟨n, hn⟩ := get_lt (show j < t.length by omega)
      rw [if_pos h2.1, show (j : Int).toNat = j by simp, hn] at he
      dsimp only at he
      refine idx_at (by simp) hn ?_
      (conv => whnf)
      refine And.intro (by unfold Fits; simp; omega) ?_
      (conv => whnf)
      refine .inl ⟨_, _, _, spec_l17Inner_spec n, rfl, ?_⟩
      (conv => whnf)
      refine ifB_i (fun h3 => ?_) (fun h3 => ?_) <;> (conv => whnf) <;> simp [bNot, iEq] at h3
      · rw [if_pos h3] at he
        simp only [Option.map_some] at he
        rw [← he, Option.getD_some, ← eL_app]
        rfl
      · rw [if_neg h3] at he
        refine .inl ⟨_, _, _, spec_l1In_spec _ _ _, rfl, ?_⟩
        (conv => whnf)
        have er : wSub .i64 (nInt (dLen (eL cI row))) 1 = (row.length : Int) - 1 := by rw [show nInt (dLen (eL cI row)) = (row.length : Int) by simp]; exact wSub64 (by omega) (by omega)
        refine ifB_i (fun h4 => ?_) (fun h4 => ?_) <;> (conv => whnf)
        · rw [er] at h4
          simp at h4
          rw [if_neg (by omega)] at he
          simp only [Option.map_none] at he
          rw [← he]
          simp [eL_nil]
        · rw [er] at h4
          simp at h4
          rw [if_pos (by omega)] at he
          obtain ⟨q, hq⟩ : ∃ q : Nat, n.f = q := ⟨n.f.toNat, by omega⟩
          obtain ⟨v, hv⟩ := get_lt (show q < row.length by omega)
          have hg : goL row n = iLe v n.c := by simp [goL, rowAt, hq, hv]
          refine tri_conf hT hmix (by kernel_rfl) ?_
          (conv => whnf)
          repeat' (first | (refine And.intro (fun q => ?_) (fun q => ?_) <;> cases q <;> (conv => whnf)) | fail)
          rw [hq]
          refine idx_at (by simp) hv ?_
          (conv => whnf)
          repeat' (first | (refine And.intro (fun q => ?_) (fun q => ?_) <;> cases q <;> (conv => whnf)) | fail)
          have hm2 : t.length + 1 - (k + 1) = m := by omega
          rw [hg] at he
          refine ifB_i (fun h5 => ?_) (fun h5 => ?_) <;> (conv => whnf)
          · refine ⟨(k + 1, n.l, o ++ [(j : Int)]), by dsimp only; omega, ⟨by dsimp only; omega, by simp; omega, ?_⟩, ?_⟩
            · dsimp only
              rw [hm2, ← he, if_pos h5]
              cases routeL t row m n.l <;> simp
            · ((conv => whnf); simp only [St.mk.injEq, List.cons.injEq, Prod.mk.injEq, AV.c.injEq, AV.agg.injEq, AV.tup.injEq, CV.d.injEq, D.int.injEq, D.bool.injEq, D.str.injEq, D.sl.injEq, Ent.arr.injEq, Ent.box.injEq, true_and, and_true, and_self, nInt_eq, Int.natCast_zero, dLen_eL, sLen_eq])
              refine ⟨wI (show k < t.length + 1 by omega) (by omega), ?_⟩
              rw [← eL_app]
              rfl
          · refine ⟨(k + 1, n.r, o ++ [(j : Int)]), by dsimp only; omega, ⟨by dsimp only; omega, by simp; omega, ?_⟩, ?_⟩
            · dsimp only
              rw [hm2, ← he, if_neg (by simp [h5])]
              cases routeL t row m n.r <;> simp
            · ((conv => whnf); simp only [St.mk.injEq, List.cons.injEq, Prod.mk.injEq, AV.c.injEq, AV.agg.injEq, AV.tup.injEq, CV.d.injEq, D.int.injEq, D.bool.injEq, D.str.injEq, D.sl.injEq, Ent.arr.injEq, Ent.box.injEq, true_and, and_true, and_self, nInt_eq, Int.natCast_zero, dLen_eL, sLen_eq])
              refine ⟨wI (show k < t.length + 1 by omega) (by omega), ?_⟩
              rw [← eL_app]
              rfl
  · have : t.length + 1 - k = 0 := by omega
    rw [this, routeL] at he
    simp only [Option.map_none] at he
    rw [← he]
    simp [eL_nil]

theorem route_end (t : List Nd) (row : List Int) : ((routeL t row (t.length + 1) 0).getD [] = [] ∧ endL t row = -1) ∨
    ((routeL t row (t.length + 1) 0).getD []).getLast? = some (endL t row) ∧ 0 < ((routeL t row (t.length + 1) 0).getD []).length ∧ ((routeL t row (t.length + 1) 0).getD []).length ≤ t.length + 1 := by
  cases hx : routeL t row (t.length + 1) 0 with
  | none => exact .inl ⟨rfl, by rw [endL, hx]⟩
  | some l =>
    obtain ⟨k, n, h1, h2, h3, h4, h5, h6⟩ := routeL_ends hx
    exact .inr ⟨by rw [endL, hx]; simp [h1], h5, h6⟩
theorem spec_RouteTo_spec (t : List Nd) (row : List Int) (hl : t.length ≤ 1048576) (hr : row.length ≤ 1048576) : FnSpec PR f_spec_RouteTo [aT t, aIs row] (ai (endL t row)) [] 0 := by
  have hw := spec_l18Way_spec t row hl hr
  have he := route_end t row
  generalize endL t row = e at *
  generalize (routeL t row (t.length + 1) 0).getD [] = l at *
  refine FnSpec.intro hT p_spec_RouteTo rfl (by kernel_rfl) n_spec_RouteTo rfl ?_
  conv => whnf
  refine .inl ⟨_, _, _, hw, rfl, ?_⟩
  (conv => whnf)
  rw [show nInt (lenRE (eL cI l) none) = (l.length : Int) by simp [lenRE]]
  refine ifB_i (fun h7 => ?_) (fun h7 => ?_) <;> (conv => whnf) <;> simp only [nInt_eq, Int.natCast_zero, dLen_eL, sLen_eq, nOf_eq, Int.toNat_natCast, nAdd_eq, nSub_eq, dLen_nil, dLen_cons, iLt_t, iLt_f, iLe_t, iLe_f, iEq_t, iEq_f, sEq_t, sEq_f, bNot_t, bNot_f, bAnd_t, bEq_t, bEq_f, Bool.not_eq_true, Bool.not_eq_false, Bool.true_eq_false, Bool.false_eq_true] at h7
  · rcases he with ⟨_, h1⟩ | ⟨_, h1, _⟩
    · rw [h1]
    · omega
  · rcases he with ⟨h1, _⟩ | ⟨h1, h2, h3⟩
    · subst h1
      exact absurd rfl h7
    · rw [show nInt (lenRE (eL cI l) none) = (l.length : Int) by simp [lenRE]]
      rw [show wSub .i64 (l.length : Int) 1 = ((l.length - 1 : Nat) : Int) by rw [wSub64] <;> omega]
      refine ref_at rfl (by simp; omega) ?_
      (conv => whnf)
      refine ld_at (k := l.length - 1) (by simp) (by rw [← List.getLast?_eq_getElem?]; exact h1) ?_
      (conv => whnf)

theorem spec_EvalTree_spec (t : List Nd) (row : List Int) (hl : t.length ≤ 1048576) (hr : row.length ≤ 1048576) : FnSpec PR f_spec_EvalTree [aT t, aIs row] (ai (evalL t row)) [] 0 := by
  refine FnSpec.intro hT p_spec_EvalTree rfl (by kernel_rfl) n_spec_EvalTree rfl ?_
  conv => whnf
  refine .inl ⟨_, _, _, spec_RouteTo_spec t row hl hr, rfl, ?_⟩
  (conv => whnf)
  refine ifB_i (fun h1 => ?_) (fun h1 => ?_) <;> (conv => whnf) <;> simp only [nInt_eq, Int.natCast_zero, dLen_eL, sLen_eq, nOf_eq, Int.toNat_natCast, nAdd_eq, nSub_eq, dLen_nil, dLen_cons, iLt_t, iLt_f, iLe_t, iLe_f, iEq_t, iEq_f, sEq_t, sEq_f, bNot_t, bNot_f, bAnd_t, bEq_t, bEq_f, Bool.not_eq_true, Bool.not_eq_false, Bool.true_eq_false, Bool.false_eq_true] at h1
  · rw [evalL, if_pos h1]
  · have hz : ∃ (k : Nat) (n : Nd), endL t row = k ∧ t[k]? = some n := by
      unfold endL at h1 ⊢
      cases hx : routeL t row (t.length + 1) 0 with
      | none => rw [hx] at h1; simp at h1
      | some l =>
        obtain ⟨k, n, h2, h3, _⟩ := routeL_ends hx
        exact ⟨k, n, by simp [h2], h3⟩
    obtain ⟨k, n, hk, hn⟩ := hz
    rw [hk]
    refine idx_at (by simp) hn ?_
    (conv => whnf)
    rw [evalL, hk, if_neg (by omega), show (k : Int).toNat = k by simp, hn]
end Go.H.S
namespace Go.H.S
open Go Go.Proofs Go.H
attribute [local irreducible] Tri FnSpec FnSpecM FnSpecX FnSpecJ
set_option maxRecDepth 100000
set_option linter.unusedSimpArgs false
set_option linter.unusedVariables false


def predL (row : List Int) : List (List Nd) → Int → Int
  | [], a => a
  | t :: r, a => predL row r (wAdd .i64 a (evalL t row))
def predictM (m : Mdl) (row : List Int) : Int × Bool := if modelOk m = true ∧ row.length = m.names.length then (predL row m.trees m.base, true) else (0, false)
abbrev tupIB (x : Int × Bool) : AV := .tup [(false, [.d (.int .i64 x.1)]), (false, [.d (.bool x.2)])]
/-- Sizes of a model. -/
structure szM (m : Mdl) : Prop where
  names : m.names.length ≤ 1048576
  texts : ∀ s ∈ m.names, s.size ≤ 9223372036854775807
  signs : m.signs.length ≤ 1048576
  trees : m.trees.length ≤ 1048576
  nodes : ∀ t ∈ m.trees, t.length ≤ 1048576
theorem szM.sm {m : Mdl} (h : szM m) : smM m := ⟨by have := h.names; omega, by have := h.signs; omega, by have := h.trees; omega, fun t ht => by have := h.nodes t ht; omega⟩

theorem impl_Predict_spec (m : Mdl) (row : List Int) (hs : szM m) (hr : row.length ≤ 1048576) : FnSpec PR f_impl_Predict [aM m, aIs row] (tupIB (predictM m row)) [] 0 := by
  have eN : nInt (dLen (eL cS m.names)) = (m.names.length : Int) := by simp
  have eR : nInt (dLen (eL cI row)) = (row.length : Int) := by simp
  refine FnSpec.intro hT p_impl_Predict rfl (by kernel_rfl) n_impl_Predict rfl ?_
  conv => whnf
  refine .inl ⟨_, _, _, impl_ModelOk_spec m hs.names hs.texts hs.signs hs.trees hs.nodes, rfl, ?_⟩
  cases hmo : modelOk m <;> (conv => whnf)
  · rw [predictM, if_neg (by simp [hmo])]
  rw [eN, eR]
  refine ifB_i (fun h => ?_) (fun h => ?_) <;> (conv => whnf) <;> simp only [nInt_eq, Int.natCast_zero, dLen_eL, sLen_eq, nOf_eq, Int.toNat_natCast, nAdd_eq, nSub_eq, dLen_nil, dLen_cons, iLt_t, iLt_f, iLe_t, iLe_f, iEq_t, iEq_f, sEq_t, sEq_f, bNot_t, bNot_f, bAnd_t, bEq_t, bEq_f, Bool.not_eq_true, Bool.not_eq_false, Bool.true_eq_false, Bool.false_eq_true] at h
  · rw [predictM, if_neg (by omega)]
  have hlen : row.length = m.names.length := by omega
  have hp : predictM m row = (predL row m.trees m.base, true) := by rw [predictM, if_pos ⟨hmo, hlen⟩]
  rw [hp]
  refine tri_loop hT [1, 6, 23, 24, 25] (α := Nat × Int) (fun x => { t := [(1, aIs row), (6, ai x.2), (23, aTs m.trees), (24, ai m.trees.length), (25, ai x.1)], h := [], n := 0, N := 36 })
    (fun x => x.1 ≤ m.trees.length ∧ predL row (m.trees.drop x.1) x.2 = predL row m.trees m.base) (fun x => m.trees.length - x.1) (0, m.base) (by ((conv => whnf); simp only [St.mk.injEq, List.cons.injEq, Prod.mk.injEq, AV.c.injEq, AV.agg.injEq, AV.tup.injEq, CV.d.injEq, D.int.injEq, D.bool.injEq, D.str.injEq, D.sl.injEq, Ent.arr.injEq, Ent.box.injEq, true_and, and_true, and_self, nInt_eq, Int.natCast_zero, dLen_eL, sLen_eq])) ⟨Nat.zero_le _, rfl⟩ ?_
  intro ⟨k, a⟩ ⟨hk, ha⟩
  dsimp only at hk ha
  (conv => whnf)
  refine ifB_i (fun h1 => ?_) (fun h1 => ?_) <;> (conv => whnf) <;> simp at h1
  · obtain ⟨t, hx⟩ := get_lt h1
    rw [drop_at hx, predL] at ha
    refine idx_at (by simp) hx ?_
    (conv => whnf)
    refine .inl ⟨_, _, _, impl_EvalTree_spec t row (hs.nodes t (List.mem_of_getElem? hx)) hr, rfl, ?_⟩
    (conv => whnf)
    refine ⟨(k + 1, wAdd .i64 a (evalL t row)), by dsimp only; omega, ⟨h1, ha⟩, ?_⟩
    ((conv => whnf); simp only [St.mk.injEq, List.cons.injEq, Prod.mk.injEq, AV.c.injEq, AV.agg.injEq, AV.tup.injEq, CV.d.injEq, D.int.injEq, D.bool.injEq, D.str.injEq, D.sl.injEq, Ent.arr.injEq, Ent.box.injEq, true_and, and_true, and_self, nInt_eq, Int.natCast_zero, dLen_eL, sLen_eq, wI h1 (by have := hs.trees; omega)])
  · obtain rfl : k = m.trees.length := by omega
    simp only [List.drop_length, predL] at ha
    rw [← ha]

theorem spec_Predict_spec (m : Mdl) (row : List Int) (hs : szM m) (hr : row.length ≤ 1048576) : FnSpec PR f_spec_Predict [aM m, aIs row] (tupIB (predictM m row)) [] 0 := by
  have eN : nInt (dLen (eL cS m.names)) = (m.names.length : Int) := by simp
  have eR : nInt (dLen (eL cI row)) = (row.length : Int) := by simp
  refine FnSpec.intro hT p_spec_Predict rfl (by kernel_rfl) n_spec_Predict rfl ?_
  conv => whnf
  refine .inl ⟨_, _, _, spec_ModelOk_spec m hs.names hs.texts hs.signs hs.trees hs.nodes, rfl, ?_⟩
  cases hmo : modelOk m <;> (conv => whnf)
  · rw [predictM, if_neg (by simp [hmo])]
  rw [eN, eR]
  refine ifB_i (fun h => ?_) (fun h => ?_) <;> (conv => whnf) <;> simp only [nInt_eq, Int.natCast_zero, dLen_eL, sLen_eq, nOf_eq, Int.toNat_natCast, nAdd_eq, nSub_eq, dLen_nil, dLen_cons, iLt_t, iLt_f, iLe_t, iLe_f, iEq_t, iEq_f, sEq_t, sEq_f, bNot_t, bNot_f, bAnd_t, bEq_t, bEq_f, Bool.not_eq_true, Bool.not_eq_false, Bool.true_eq_false, Bool.false_eq_true] at h
  · rw [predictM, if_neg (by omega)]
  have hlen : row.length = m.names.length := by omega
  have hp : predictM m row = (predL row m.trees m.base, true) := by rw [predictM, if_pos ⟨hmo, hlen⟩]
  rw [hp]
  refine tri_loop hT [1, 2, 6, 7] (α := Nat × Int) (fun x => { t := [(1, aIs row), (2, .c (.ptr 0 0)), (6, ai x.2), (7, ai x.1)], h := [(0, .box t_impl_Model (cM m))], n := 1, N := 38 })
    (fun x => x.1 ≤ m.trees.length ∧ predL row (m.trees.drop x.1) x.2 = predL row m.trees m.base) (fun x => m.trees.length - x.1) (0, m.base) (by ((conv => whnf); simp only [St.mk.injEq, List.cons.injEq, Prod.mk.injEq, AV.c.injEq, AV.agg.injEq, AV.tup.injEq, CV.d.injEq, D.int.injEq, D.bool.injEq, D.str.injEq, D.sl.injEq, Ent.arr.injEq, Ent.box.injEq, true_and, and_true, and_self, nInt_eq, Int.natCast_zero, dLen_eL, sLen_eq])) ⟨Nat.zero_le _, rfl⟩ ?_
  intro ⟨k, a⟩ ⟨hk, ha⟩
  dsimp only at hk ha
  (conv => whnf)
  refine ifB_i (fun h1 => ?_) (fun h1 => ?_) <;> (conv => whnf) <;> simp at h1
  · obtain ⟨t, hx⟩ := get_lt h1
    rw [drop_at hx, predL] at ha
    refine idx_at (by simp) hx ?_
    (conv => whnf)
    refine .inl ⟨_, _, _, spec_EvalTree_spec t row (hs.nodes t (List.mem_of_getElem? hx)) hr, rfl, ?_⟩
    (conv => whnf)
    refine ⟨(k + 1, wAdd .i64 a (evalL t row)), by dsimp only; omega, ⟨h1, ha⟩, ?_⟩
    ((conv => whnf); simp only [St.mk.injEq, List.cons.injEq, Prod.mk.injEq, AV.c.injEq, AV.agg.injEq, AV.tup.injEq, CV.d.injEq, D.int.injEq, D.bool.injEq, D.str.injEq, D.sl.injEq, Ent.arr.injEq, Ent.box.injEq, true_and, and_true, and_self, nInt_eq, Int.natCast_zero, dLen_eL, sLen_eq, wI h1 (by have := hs.trees; omega)])
  · obtain rfl : k = m.trees.length := by omega
    simp only [List.drop_length, predL] at ha
    rw [← ha]

def stageV (m : Mdl) (row : List Int) (k : Nat) : Int × Bool := predictM (firstM m k) row
def stagesL (m : Mdl) (row : List Int) : List Int := if ∀ k, k ≤ m.trees.length → (stageV m row k).2 = true then (List.range (m.trees.length + 1)).map fun k => (stageV m row k).1 else []
theorem firstM_sz {m : Mdl} (h : szM m) (k : Int) : szM (firstM m k) := ⟨h.names, h.texts, h.signs, by have := h.trees; simp [firstM]; omega, fun t ht => h.nodes t (List.mem_of_mem_take ht)⟩
theorem dPart_eL {α : Type} (f : α → List D) (xs : List α) (n : Nat) : dPart (eL f xs) 0 n = eL f (xs.take n) := by
  simp only [dPart_eq, eL, List.drop_zero, List.map_take]
theorem stagesL_len (m : Mdl) (row : List Int) : (stagesL m row).length ≤ m.trees.length + 1 := by
  unfold stagesL
  split <;> simp

theorem impl_Stages_spec (m : Mdl) (row : List Int) (hs : szM m) (hr : row.length ≤ 1048576) : FnSpec PR f_impl_Stages [aM m, aIs row] (.c (.ref 0 0 none)) [(0, .arr t_int 1 0 .own (eL cI (stagesL m row)))] 1 := by
  have hlt := hs.trees
  have e1 : wAdd .i64 (nInt (dLen (eL cT m.trees))) 1 = ((m.trees.length + 1 : Nat) : Int) := by rw [show nInt (dLen (eL cT m.trees)) = (m.trees.length : Int) by simp, wAdd64] <;> omega
  refine FnSpec.intro hT p_impl_Stages rfl (by kernel_rfl) n_impl_Stages rfl ?_
  conv => whnf
  rw [e1]
  refine tri_loop hT [1, 2, 5, 13, 14] (α := Nat × List Int) (fun x => { t := [(1, aIs row), (2, .c (.ptr 0 0)), (5, .c (.ref 1 0 none)), (13, ai (m.trees.length + 1 : Nat)), (14, ai x.1)], h := [(0, .box t_impl_Model (cM m)), (1, .arr t_int 1 0 .own (eL cI x.2))], n := 2, N := 33 })
    (fun x => x.1 ≤ m.trees.length + 1 ∧ x.2 = (List.range x.1).map (fun k => (stageV m row k).1) ∧ ∀ k, k < x.1 → (stageV m row k).2 = true) (fun x => m.trees.length + 1 - x.1) (0, []) (by ((conv => whnf); simp only [St.mk.injEq, List.cons.injEq, Prod.mk.injEq, AV.c.injEq, AV.agg.injEq, AV.tup.injEq, CV.d.injEq, D.int.injEq, D.bool.injEq, D.str.injEq, D.sl.injEq, Ent.arr.injEq, Ent.box.injEq, true_and, and_true, and_self, nInt_eq, Int.natCast_zero, dLen_eL, sLen_eq, eL_nil])) ⟨Nat.zero_le _, by simp, fun k hk => by omega⟩ ?_
  intro ⟨k, o⟩ ⟨hk, ho, hok⟩
  dsimp only at hk ho hok
  (conv => whnf)
  refine ifB_i (fun h1 => ?_) (fun h1 => ?_) <;> (conv => whnf) <;> simp only [nInt_eq, Int.natCast_zero, dLen_eL, sLen_eq, nOf_eq, Int.toNat_natCast, nAdd_eq, nSub_eq, dLen_nil, dLen_cons, iLt_t, iLt_f, iLe_t, iLe_f, iEq_t, iEq_f, sEq_t, sEq_f, bNot_t, bNot_f, bAnd_t, bEq_t, bEq_f, Bool.not_eq_true, Bool.not_eq_false, Bool.true_eq_false, Bool.false_eq_true] at h1
  · refine .inl ⟨_, _, _, impl_FirstTrees_spec m k hs.sm, rfl, ?_⟩
    (conv => whnf)
    have hp : FnSpec PR f_impl_Predict [.agg [.d (.sl 1 (eL cS m.names)), .d (.sl 1 (eL cI m.signs)), .d (.int .i64 m.base), .d (.sl 1 (dPart (eL cT m.trees) 0 (firstK m k)))], aIs row] (tupIB (predictM (firstM m k) row)) [] 0 := by
      rw [dPart_eL]; exact impl_Predict_spec (firstM m k) row (firstM_sz hs k) hr
    refine .inl ⟨_, _, _, hp, rfl, ?_⟩
    cases hv : (stageV m row k).2 with
    | false =>
      have hv' : predictM (firstM m k) row = ((stageV m row k).1, false) := by rw [← hv]; rfl
      rw [hv']
      (conv => whnf)
      have hn : stagesL m row = [] := by rw [stagesL, if_neg (fun h => by have := h k (by omega); rw [hv] at this; cases this)]
      rw [hn, eL_nil]
    | true =>
      have hv' : predictM (firstM m k) row = ((stageV m row k).1, true) := by rw [← hv]; rfl
      rw [hv']
      (conv => whnf)
      have hol : o.length = k := by rw [ho]; simp
      refine And.intro (by simp [eL_length, dLen_len]; omega) ?_
      (conv => whnf)
      refine ⟨(k + 1, o ++ [(stageV m row k).1]), by dsimp only; omega, ⟨by dsimp only; omega, by dsimp only; rw [ho, List.range_succ, List.map_append]; rfl, fun j hj => ?_⟩, ?_⟩
      · dsimp only at hj
        rcases Nat.lt_or_ge j k with q | q
        · exact hok j q
        · obtain rfl : j = k := by omega
          exact hv
      ((conv => whnf); simp only [St.mk.injEq, List.cons.injEq, Prod.mk.injEq, AV.c.injEq, AV.agg.injEq, AV.tup.injEq, CV.d.injEq, D.int.injEq, D.bool.injEq, D.str.injEq, D.sl.injEq, Ent.arr.injEq, Ent.box.injEq, true_and, and_true, and_self, nInt_eq, Int.natCast_zero, dLen_eL, sLen_eq, wI (show k < m.trees.length + 1 by omega) (by omega)])
      rw [← eL_app]
      rfl
  · obtain rfl : k = m.trees.length + 1 := by omega
    have : stagesL m row = o := by rw [stagesL, if_pos (fun j hj => hok j (by omega)), ho]
    rw [this]

theorem spec_Stages_spec (m : Mdl) (row : List Int) (hs : szM m) (hr : row.length ≤ 1048576) : FnSpec PR f_spec_Stages [aM m, aIs row] (.c (.ref 0 0 none)) [(0, .arr t_int 1 0 .own (eL cI (stagesL m row)))] 1 := by
  have hlt := hs.trees
  refine FnSpec.intro hT p_spec_Stages rfl (by kernel_rfl) n_spec_Stages rfl ?_
  conv => whnf
  refine tri_loop hT [1, 2, 5, 6] (α := Nat × List Int) (fun x => { t := [(1, aIs row), (2, .c (.ptr 0 0)), (5, .c (.ref 1 0 none)), (6, ai x.1)], h := [(0, .box t_impl_Model (cM m)), (1, .arr t_int 1 0 .own (eL cI x.2))], n := 2, N := 33 })
    (fun x => x.1 ≤ m.trees.length + 1 ∧ x.2 = (List.range x.1).map (fun k => (stageV m row k).1) ∧ ∀ k, k < x.1 → (stageV m row k).2 = true) (fun x => m.trees.length + 1 - x.1) (0, []) (by ((conv => whnf); simp only [St.mk.injEq, List.cons.injEq, Prod.mk.injEq, AV.c.injEq, AV.agg.injEq, AV.tup.injEq, CV.d.injEq, D.int.injEq, D.bool.injEq, D.str.injEq, D.sl.injEq, Ent.arr.injEq, Ent.box.injEq, true_and, and_true, and_self, nInt_eq, Int.natCast_zero, dLen_eL, sLen_eq, eL_nil])) ⟨Nat.zero_le _, by simp, fun k hk => by omega⟩ ?_
  intro ⟨k, o⟩ ⟨hk, ho, hok⟩
  dsimp only at hk ho hok
  (conv => whnf)
  refine ifB_i (fun h1 => ?_) (fun h1 => ?_) <;> (conv => whnf) <;> simp only [nInt_eq, Int.natCast_zero, dLen_eL, sLen_eq, nOf_eq, Int.toNat_natCast, nAdd_eq, nSub_eq, dLen_nil, dLen_cons, iLt_t, iLt_f, iLe_t, iLe_f, iEq_t, iEq_f, sEq_t, sEq_f, bNot_t, bNot_f, bAnd_t, bEq_t, bEq_f, Bool.not_eq_true, Bool.not_eq_false, Bool.true_eq_false, Bool.false_eq_true] at h1
  · refine .inl ⟨_, _, _, spec_FirstTrees_spec m k hs.sm, rfl, ?_⟩
    (conv => whnf)
    have hp : FnSpec PR f_spec_Predict [.agg [.d (.sl 1 (eL cS m.names)), .d (.sl 1 (eL cI m.signs)), .d (.int .i64 m.base), .d (.sl 1 (dPart (eL cT m.trees) 0 (firstK m k)))], aIs row] (tupIB (predictM (firstM m k) row)) [] 0 := by
      rw [dPart_eL]; exact spec_Predict_spec (firstM m k) row (firstM_sz hs k) hr
    refine .inl ⟨_, _, _, hp, rfl, ?_⟩
    cases hv : (stageV m row k).2 with
    | false =>
      have hv' : predictM (firstM m k) row = ((stageV m row k).1, false) := by rw [← hv]; rfl
      rw [hv']
      (conv => whnf)
      have hn : stagesL m row = [] := by rw [stagesL, if_neg (fun h => by have := h k (by omega); rw [hv] at this; cases this)]
      rw [hn, eL_nil]
    | true =>
      have hv' : predictM (firstM m k) row = ((stageV m row k).1, true) := by rw [← hv]; rfl
      rw [hv']
      (conv => whnf)
      have hol : o.length = k := by rw [ho]; simp
      refine And.intro (by simp [eL_length, dLen_len]; omega) ?_
      (conv => whnf)
      refine ⟨(k + 1, o ++ [(stageV m row k).1]), by dsimp only; omega, ⟨by dsimp only; omega, by dsimp only; rw [ho, List.range_succ, List.map_append]; rfl, fun j hj => ?_⟩, ?_⟩
      · dsimp only at hj
        rcases Nat.lt_or_ge j k with q | q
        · exact hok j q
        · obtain rfl : j = k := by omega
          exact hv
      ((conv => whnf); simp only [St.mk.injEq, List.cons.injEq, Prod.mk.injEq, AV.c.injEq, AV.agg.injEq, AV.tup.injEq, CV.d.injEq, D.int.injEq, D.bool.injEq, D.str.injEq, D.sl.injEq, Ent.arr.injEq, Ent.box.injEq, true_and, and_true, and_self, nInt_eq, Int.natCast_zero, dLen_eL, sLen_eq, wI (show k < m.trees.length + 1 by omega) (by omega)])
      rw [← eL_app]
      rfl
  · obtain rfl : k = m.trees.length + 1 := by omega
    have : stagesL m row = o := by rw [stagesL, if_pos (fun j hj => hok j (by omega)), ho]
    rw [this]
end Go.H.S
namespace Go.H.S
open Go Go.Proofs Go.H
attribute [local irreducible] Tri FnSpec FnSpecM FnSpecX FnSpecJ
set_option maxRecDepth 100000
set_option linter.unusedSimpArgs false
set_option linter.unusedVariables false


theorem model_szM {m : Mdl} (hcost : costModel m ≤ 1048576) : szM m := by
  obtain ⟨hsm, hl, hc⟩ := model_small hcost
  refine ⟨by have := cost_len ByteArray.size m.names; unfold costModel at hcost; omega, fun s hs => ?_, by unfold costModel at hcost; omega, hl, fun t ht => by have := costL_mem List.length ht; omega⟩
  have h1 := costL_mem ByteArray.size hs
  have h2 := cost_costL ByteArray.size m.names
  unfold costModel at hcost
  omega

set_option maxHeartbeats 4000000 in
theorem law_FnExactStages (m : Mdl) (row : List Int) (hm : okModel m ∧ rgModel m) (hr0 : row.length ≤ 9223372036854775807 ∧ ∀ x ∈ row, i64 x) : FnSpec PR f_laws_FnExactStages [aM m, aIs row] (ab true) [] 0 := by
  refine FnSpec.intro hTn p_laws_FnExactStages rfl (by kernel_rfl) n_laws_FnExactStages rfl ?_
  conv => whnf
  refine ifB_i (fun h0 => ?_) (fun h0 => ?_) <;> (conv => whnf) <;> simp only [nInt_eq, Int.natCast_zero, dLen_eL, sLen_eq, nOf_eq, Int.toNat_natCast, nAdd_eq, nSub_eq, dLen_nil, dLen_cons, iLt_t, iLt_f, iLe_t, iLe_f, iEq_t, iEq_f, sEq_t, sEq_f, bNot_t, bNot_f, bAnd_t, bEq_t, bEq_f, Bool.not_eq_true, Bool.not_eq_false, Bool.true_eq_false, Bool.false_eq_true] at h0
  have hr : row.length ≤ 1048576 := by omega
  refine .inl ⟨_, _, _, szModel_spec m 1048576 (by omega) (by omega) hm.1, rfl, ?_⟩
  (conv => whnf)
  refine ifB_i (fun h => ?_) (fun h => ?_) <;> (conv => whnf) <;> simp only [nInt_eq, Int.natCast_zero, dLen_eL, sLen_eq, nOf_eq, Int.toNat_natCast, nAdd_eq, nSub_eq, dLen_nil, dLen_cons, iLt_t, iLt_f, iLe_t, iLe_f, iEq_t, iEq_f, sEq_t, sEq_f, bNot_t, bNot_f, bAnd_t, bEq_t, bEq_f, Bool.not_eq_true, Bool.not_eq_false, Bool.true_eq_false, Bool.false_eq_true] at h
  have hcost := bud_ok h
  obtain ⟨hsm, hl, hc⟩ := model_small hcost
  have hz := model_szM hcost
  have hsl := stagesL_len m row
  refine .inl ⟨_, _, _, toModel_spec m hsm, rfl, ?_⟩
  (conv => whnf)
  refine .inl ⟨_, _, _, toIntS_spec row (by omega), rfl, ?_⟩
  (conv => whnf)
  refine .inl ⟨_, _, _, spec_Stages_spec m row hz hr, rfl, ?_⟩
  (conv => whnf)
  refine .inl ⟨_, _, _, toModel_nest m hsm, rfl, ?_⟩
  (conv => whnf)
  refine .inl ⟨_, _, _, toIntS_spec row (by omega), rfl, ?_⟩
  (conv => whnf)
  refine .inr (.inl ⟨_, _, _, impl_Stages_spec m row hz hr, rfl, ⟨flat_cI _, trivial⟩, ?_⟩)
  generalize hss : stagesL m row = s at *
  (conv => whnf)
  refine .inr (.inl ⟨_, _, _, eqIntS_spec s (by omega), rfl, trivial, ?_⟩)
  (conv => whnf)
  refine tri_every hTn hmix [1, 2, 6, 7, 8, 9, 42] { t := [(1, aIs row), (2, .c (.ptr 0 0)), (6, .c (.ref 1 0 none)), (7, .c (.ptr 2 0)), (8, .c (.ref 6 0 none)), (9, .c (.ref 7 0 none)), (42, ab (bNot true))], h := [(0, .box t_laws_Model (cM m)), (1, .arr t_int 1 0 .own (eL cI s)), (2, .box t_impl_Model [.ref 3 0 none, .ref 4 0 none, .d (.int .i64 m.base), .ref 5 0 none]), (3, .arr t_string 1 0 .own (eL cS m.names)), (4, .arr t_int 1 0 .own (eL cI m.signs)), (5, .arr t_impl_Tree 1 0 (.nest [t_impl_Node]) (eL cT m.trees)), (6, .arr t_int 1 0 .own (eL cI row)), (7, .arr t_int 1 0 .own (eL cI s))], n := 8, N := 90 } rfl ?_ ?_
  · repeat' first
      | (refine anyV_one rfl ?_; (conv => whnf))
      | (refine anyV_two rfl ?_ ?_ <;> (conv => whnf))
      | (refine anyV_end rfl ?_; (conv => whnf); first | done | (simp only [partOf_none]; done) | (simp only [partOf_none]; rfl))
      | (refine .inl ⟨_, _, _, toModel_spec m hsm, rfl, ?_⟩; (conv => whnf))
      | (refine .inr (.inl ⟨_, _, _, eqModel_spec m hm.1, rfl, trivial, ?_⟩); (conv => whnf))
  (conv => whnf)
  refine .inl ⟨_, _, _, toIntS_spec row (by omega), rfl, ?_⟩
  (conv => whnf)
  refine .inr (.inl ⟨_, _, _, eqIntS_spec row (by omega), rfl, trivial, ?_⟩)
  (conv => whnf)
  refine .inr (.inr (.inr (.inl ⟨[(3, 0), (4, 1), (5, 2)], ?_⟩)))
  (conv => whnf)
  refine ⟨[.agg [.ref 0 0 none, .ref 1 0 none, .d (.int .i64 m.base), .ref 2 0 none], ai 1], _, ⟨rfl, rfl, rfl⟩, markModel_lost m hz.names hz.signs hl hc, ?_⟩
  (conv => whnf)
  have hn := hz.names
  have hs := hz.signs
  obtain ⟨K, hK⟩ : ∃ K : Int, K = 1 + (m.names.length : Int) + m.signs.length + 5 * costL List.length m.trees := ⟨_, rfl⟩
  rw [← hK]
  have hK2 : 0 < K ∧ K ≤ 100000000 := by omega
  refine .inr (.inr (.inl ⟨6, ?_⟩))
  (conv => whnf)
  refine .inl ⟨_, _, markIntS_spec row K (by omega) (by omega), ?_⟩
  (conv => whnf)
  rw [show iLt (K + (row.length : Int)) 0 = false by simp; omega]
  (conv => whnf)
  refine .inr (.inl ⟨_, _, _, eqIntS_spec s (by omega), rfl, trivial, ?_⟩)
  (conv => whnf)
  refine .inr (.inr (.inl ⟨7, ?_⟩))
  (conv => whnf)
  refine .inl ⟨_, _, markIntS_spec s 1 (by omega) (by omega), ?_⟩
  (conv => whnf)
  refine .inr (.inl ⟨_, _, _, heldIntS_spec 1 s.length (by omega) (by omega), rfl, trivial, ?_⟩)
  (conv => whnf)
  rw [show iEq (1 + (s.length : Int)) (1 + s.length) = true from decide_eq_true rfl]
  (conv => whnf)
  refine .inl ⟨_, _, _, toModel_spec m hsm, rfl, ?_⟩
  (conv => whnf)
  refine .inl ⟨_, _, _, toIntS_spec row (by omega), rfl, ?_⟩
  (conv => whnf)
  refine .inl ⟨_, _, _, impl_Stages_spec m row hz hr, rfl, ?_⟩
  rw [hss]
  (conv => whnf)
  refine .inr (.inl ⟨_, _, _, eqIntS_spec s (by omega), rfl, trivial, ?_⟩)
  (conv => whnf)
  refine .inr (.inl ⟨_, _, _, heldIntS_spec 1 s.length (by omega) (by omega), rfl, trivial, ?_⟩)
  (conv => whnf)
  rw [show iEq (1 + (s.length : Int)) (1 + s.length) = true from decide_eq_true rfl]
  (conv => whnf)
end Go.H.S
