/- Library, part V: l17Ways, and TreeOk of the reference. -/
import Derived.Test.YtbclkplebkencaaLQ
namespace Go.H.S
open Go Go.Proofs Go.H
attribute [local irreducible] Tri FnSpec FnSpecM FnSpecX
set_option maxRecDepth 100000
set_option linter.unusedSimpArgs false
set_option linter.unusedVariables false


/-- On a way: node b lies above a, and asks the same of the feature as n again. -/
def badP (t : List Nd) (n : Nd) (b a : Int) : Bool :=
  match t[b.toNat]? with
  | some x => iEq x.f n.f && (iEq x.r a && iLe n.c x.c || iEq x.l a && iLe x.c n.c)
  | none => false
def chainBad (t : List Nd) (n : Nd) : List Int → Bool
  | a :: b :: r => badP t n b a || chainBad t n (b :: r)
  | _ => false
def nodeBad (t : List Nd) (k : Int) (n : Nd) : Bool :=
  match steps t 32 k with
  | some l => bAnd (bNot (iEq n.f (-1))) (chainBad t n l)
  | none => false
def waysBad (t : List Nd) : List Nd → Nat → Bool
  | [], _ => false
  | n :: r, k => nodeBad t k n || waysBad t r (k + 1)

set_option maxHeartbeats 1000000 in
theorem spec_l17Ways_spec (t : List Nd) (ft : Int) (h : shapeOk t ft = true) (hl : t.length ≤ 31) : FnSpec PR f_spec_l17Ways [aT t] (ab (!waysBad t t 0)) [] 0 := by
  refine FnSpec.intro hT p_spec_l17Ways rfl (by kernel_rfl) n_spec_l17Ways rfl ?_
  conv => whnf
  refine tri_loop hT [1, 3] (α := Nat) (fun x => { t := [(1, .c (.ptr 0 0)), (3, ai x)], h := [(0, .box t_impl_Tree (cTr t))], n := 1, N := 79 })
    (fun x => x ≤ t.length ∧ waysBad t (t.drop x) x = waysBad t t 0) (fun x => t.length - x) 0 (by ((conv => whnf); simp only [St.mk.injEq, List.cons.injEq, Prod.mk.injEq, AV.c.injEq, AV.agg.injEq, AV.tup.injEq, CV.d.injEq, D.int.injEq, D.bool.injEq, D.str.injEq, D.sl.injEq, Ent.arr.injEq, Ent.box.injEq, true_and, and_true, and_self, nInt_eq, Int.natCast_zero, dLen_eL, sLen_eq])) ⟨Nat.zero_le _, by simp⟩ ?_
  intro k ⟨hk, hw⟩
  (conv => whnf)
  refine ifB_i (fun h1 => ?_) (fun h1 => ?_) <;> (conv => whnf) <;> simp at h1
  · obtain ⟨n, hn⟩ := get_lt h1
    rw [drop_at hn, waysBad] at hw
    obtain ⟨l0, hl0, _⟩ := steps_anc h 31 k (by omega)
    have hnb : nodeBad t k n = bAnd (bNot (iEq n.f (-1))) (chainBad t n l0) := by unfold nodeBad; rw [hl0]
    rw [hnb] at hw
    refine idx_at (by simp) hn ?_
    (conv => whnf)
    refine .inl ⟨_, _, _, spec_l17Inner_spec n, rfl, ?_⟩
    (conv => whnf)
    generalize hb : iEq n.f (-1) = b at hw
    cases b <;> (conv => whnf)
    · refine .inl ⟨_, _, _, spec_l17Up_spec t k (by omega), rfl, ?_⟩
      (conv => whnf)
      refine tri_loop hT [1, 3, 4, 5] (α := Int × Nat × List Int) (fun x => { t := [(1, .c (.ptr 0 0)), (3, ai k), (4, ai x.1), (5, ai (up t x.1))], h := [(0, .box t_impl_Tree (cTr t))], n := 1, N := 79 })
        (fun x => 0 ≤ x.1 ∧ x.1 < t.length ∧ steps t (x.2.1 + 1) x.1 = some x.2.2 ∧ chainBad t n x.2.2 = chainBad t n l0) (fun x => x.2.1) (k, 31, l0) (by (conv => whnf)) ⟨by simp, by simpa using h1, hl0, rfl⟩ ?_
      intro ⟨fr, j, l⟩ ⟨g0, g1, g2, g3⟩
      dsimp only at g0 g1 g2 g3
      (conv => whnf)
      refine ifB_i (fun h2 => ?_) (fun h2 => ?_) <;> (conv => whnf) <;> simp only [nInt_eq, Int.natCast_zero, dLen_eL, sLen_eq, nOf_eq, Int.toNat_natCast, nAdd_eq, nSub_eq, dLen_nil, dLen_cons, iLt_t, iLt_f, iLe_t, iLe_f, iEq_t, iEq_f, sEq_t, sEq_f, bNot_t, bNot_f, bAnd_t, bEq_t, bEq_f, Bool.not_eq_true, Bool.not_eq_false, Bool.true_eq_false, Bool.false_eq_true] at h2
      · generalize hup : up t fr = at' at *
        obtain ⟨m, rfl⟩ : ∃ m : Nat, at' = m := ⟨at'.toNat, by omega⟩
        have hmlt := up_lt t fr
        rw [hup] at hmlt
        obtain ⟨x, hx⟩ := get_lt (show m < t.length by omega)
        rw [steps, hup, if_neg (by omega)] at g2
        simp only [Option.map_eq_some_iff] at g2
        obtain ⟨l', g2, rfl⟩ := g2
        cases j with
        | zero => simp [steps] at g2
        | succ j =>
        have hl2 : ∃ l2, l' = (m : Int) :: l2 := by
          rw [steps] at g2
          simp only [Option.map_eq_some_iff] at g2
          obtain ⟨l2, _, rfl⟩ := g2
          exact ⟨l2, rfl⟩
        obtain ⟨l2, rfl⟩ := hl2
        have hcb : chainBad t n (fr :: (m : Int) :: l2) = (badP t n m fr || chainBad t n ((m : Int) :: l2)) := rfl
        rw [hcb] at g3
        refine idx_at (by simp) hx ?_
        (conv => whnf)
        refine tri_conf hT hmix (by kernel_rfl) ?_
        (conv => whnf)
        refine idx_at (by simp) hn ?_
        (conv => whnf)
        have hin : ∀ v0, x.f = n.f ∧ (x.r = fr ∧ n.c ≤ x.c ∨ x.l = fr ∧ x.c ≤ n.c) ∧ v0 = true ∨ ¬ (x.f = n.f ∧ (x.r = fr ∧ n.c ≤ x.c ∨ x.l = fr ∧ x.c ≤ n.c)) ∧ v0 = false → badP t n m fr = v0 := by
          intro v0 hv
          have hb : badP t n m fr = (iEq x.f n.f && (iEq x.r fr && iLe n.c x.c || iEq x.l fr && iLe x.c n.c)) := by simp [badP, hx]
          rw [hb, Bool.eq_iff_iff]
          simp only [Bool.and_eq_true, Bool.or_eq_true, iEq, iLe, decide_eq_true_eq]
          rcases hv with ⟨h1, h2, rfl⟩ | ⟨h1, rfl⟩
          · simp [h1, h2]
          · simp only [Bool.false_eq_true, iff_false]; exact h1
        generalize e1 : iEq x.f n.f = c1
        generalize e2 : iEq x.r fr = c2
        generalize e3 : iEq x.l fr = c3
        generalize e4 : iLe n.c x.c = c4
        generalize e5 : iLe x.c n.c = c5
        cases c1
        · repeat' (first | (refine And.intro (fun q => ?_) (fun q => ?_) <;> cases q <;> (conv => whnf)) | (refine idx_at (by simp) hn ?_; (conv => whnf)) | fail)
          refine .inl ⟨_, _, _, spec_l17Up_spec t m (by omega), rfl, ?_⟩
          (conv => whnf)
          have hbp := hin false (.inr ⟨by simp_all [iEq, iLe], rfl⟩)
          rw [hbp] at g3
          refine ⟨(m, j, (m : Int) :: l2), by dsimp only; omega, ⟨by dsimp only; omega, by dsimp only; omega, g2, g3⟩, ?_⟩
          (conv => whnf)
        · repeat' (first | (refine And.intro (fun q => ?_) (fun q => ?_) <;> cases q <;> (conv => whnf)) | (refine idx_at (by simp) hn ?_; (conv => whnf)) | fail)
          rw [e2]
          cases c2
          · repeat' (first | (refine And.intro (fun q => ?_) (fun q => ?_) <;> cases q <;> (conv => whnf)) | (refine idx_at (by simp) hn ?_; (conv => whnf)) | fail)
            rw [e3]
            cases c3
            · repeat' (first | (refine And.intro (fun q => ?_) (fun q => ?_) <;> cases q <;> (conv => whnf)) | (refine idx_at (by simp) hn ?_; (conv => whnf)) | fail)
              refine .inl ⟨_, _, _, spec_l17Up_spec t m (by omega), rfl, ?_⟩
              (conv => whnf)
              have hbp := hin false (.inr ⟨by simp_all [iEq, iLe], rfl⟩)
              rw [hbp] at g3
              refine ⟨(m, j, (m : Int) :: l2), by dsimp only; omega, ⟨by dsimp only; omega, by dsimp only; omega, g2, g3⟩, ?_⟩
              (conv => whnf)
            · repeat' (first | (refine And.intro (fun q => ?_) (fun q => ?_) <;> cases q <;> (conv => whnf)) | (refine idx_at (by simp) hn ?_; (conv => whnf)) | fail)
              rw [e5]
              cases c5
              · repeat' (first | (refine And.intro (fun q => ?_) (fun q => ?_) <;> cases q <;> (conv => whnf)) | (refine idx_at (by simp) hn ?_; (conv => whnf)) | fail)
                refine .inl ⟨_, _, _, spec_l17Up_spec t m (by omega), rfl, ?_⟩
                (conv => whnf)
                have hbp := hin false (.inr ⟨by simp_all [iEq, iLe], rfl⟩)
                rw [hbp] at g3
                refine ⟨(m, j, (m : Int) :: l2), by dsimp only; omega, ⟨by dsimp only; omega, by dsimp only; omega, g2, g3⟩, ?_⟩
                (conv => whnf)
              · repeat' (first | (refine And.intro (fun q => ?_) (fun q => ?_) <;> cases q <;> (conv => whnf)) | (refine idx_at (by simp) hn ?_; (conv => whnf)) | fail)
                have hbp := hin true (.inl ⟨by simp_all [iEq, iLe], by simp_all [iEq, iLe], rfl⟩)
                rw [hbp] at g3
                rw [← g3] at hw
                (try (conv => whnf))
                rw [← hw]
                
                rfl
          · repeat' (first | (refine And.intro (fun q => ?_) (fun q => ?_) <;> cases q <;> (conv => whnf)) | (refine idx_at (by simp) hn ?_; (conv => whnf)) | fail)
            rw [e4]
            cases c4
            · repeat' (first | (refine And.intro (fun q => ?_) (fun q => ?_) <;> cases q <;> (conv => whnf)) | (refine idx_at (by simp) hn ?_; (conv => whnf)) | fail)
              rw [e3]
              cases c3
              · repeat' (first | (refine And.intro (fun q => ?_) (fun q => ?_) <;> cases q <;> (conv => whnf)) | (refine idx_at (by simp) hn ?_; (conv => whnf)) | fail)
                refine .inl ⟨_, _, _, spec_l17Up_spec t m (by omega), rfl, ?_⟩
                (conv => whnf)
                have hbp := hin false (.inr ⟨by simp_all [iEq, iLe], rfl⟩)
                rw [hbp] at g3
                refine ⟨(m, j, (m : Int) :: l2), by dsimp only; omega, ⟨by dsimp only; omega, by dsimp only; omega, g2, g3⟩, ?_⟩
                (conv => whnf)
              · repeat' (first | (refine And.intro (fun q => ?_) (fun q => ?_) <;> cases q <;> (conv => whnf)) | (refine idx_at (by simp) hn ?_; (conv => whnf)) | fail)
                rw [e5]
                cases c5
                · repeat' (first | (refine And.intro (fun q => ?_) (fun q => ?_) <;> cases q <;> (conv => whnf)) | (refine idx_at (by simp) hn ?_; (conv => whnf)) | fail)
                  refine .inl ⟨_, _, _, spec_l17Up_spec t m (by omega), rfl, ?_⟩
                  (conv => whnf)
                  have hbp := hin false (.inr ⟨by simp_all [iEq, iLe], rfl⟩)
                  rw [hbp] at g3
                  refine ⟨(m, j, (m : Int) :: l2), by dsimp only; omega, ⟨by dsimp only; omega, by dsimp only; omega, g2, g3⟩, ?_⟩
                  (conv => whnf)
                · repeat' (first | (refine And.intro (fun q => ?_) (fun q => ?_) <;> cases q <;> (conv => whnf)) | (refine idx_at (by simp) hn ?_; (conv => whnf)) | fail)
                  have hbp := hin true (.inl ⟨by simp_all [iEq, iLe], by simp_all [iEq, iLe], rfl⟩)
                  rw [hbp] at g3
                  rw [← g3] at hw
                  (try (conv => whnf))
                  rw [← hw]
                  
                  rfl
            · repeat' (first | (refine And.intro (fun q => ?_) (fun q => ?_) <;> cases q <;> (conv => whnf)) | (refine idx_at (by simp) hn ?_; (conv => whnf)) | fail)
              have hbp := hin true (.inl ⟨by simp_all [iEq, iLe], by simp_all [iEq, iLe], rfl⟩)
              rw [hbp] at g3
              rw [← g3] at hw
              (try (conv => whnf))
              rw [← hw]
              
              rfl
      · have hl : l = [fr] := by
          rw [steps, if_pos h2] at g2
          simpa using g2.symm
        rw [hl] at g3
        rw [← g3] at hw
        refine ⟨k + 1, by omega, ⟨h1, hw⟩, ?_⟩
        ((conv => whnf); simp only [St.mk.injEq, List.cons.injEq, Prod.mk.injEq, AV.c.injEq, AV.agg.injEq, AV.tup.injEq, CV.d.injEq, D.int.injEq, D.bool.injEq, D.str.injEq, D.sl.injEq, Ent.arr.injEq, Ent.box.injEq, true_and, and_true, and_self, nInt_eq, Int.natCast_zero, dLen_eL, sLen_eq, wI h1 (by omega)])
    · refine ⟨k + 1, by omega, ⟨h1, hw⟩, ?_⟩
      ((conv => whnf); simp only [St.mk.injEq, List.cons.injEq, Prod.mk.injEq, AV.c.injEq, AV.agg.injEq, AV.tup.injEq, CV.d.injEq, D.int.injEq, D.bool.injEq, D.str.injEq, D.sl.injEq, Ent.arr.injEq, Ent.box.injEq, true_and, and_true, and_self, nInt_eq, Int.natCast_zero, dLen_eL, sLen_eq, wI h1 (by omega)])
  · obtain rfl : k = t.length := by omega
    simp only [List.drop_length, waysBad] at hw
    (conv => whnf)
    rw [← hw]
    rfl


def treeOk (t : List Nd) (ft : Int) : Bool :=
  decide (1 ≤ (t.length : Int) ∧ (t.length : Int) ≤ 31) && (decide (0 ≤ ft ∧ ft ≤ 4) && (shapeOk t ft && (decide (depthK t t.length ≤ 4) && !waysBad t t 0)))

theorem spec_TreeOk_spec (t : List Nd) (ft : Int) (hl : t.length ≤ 1048576) : FnSpec PR f_spec_TreeOk [aT t, ai ft] (ab (treeOk t ft)) [] 0 := by
  refine FnSpec.intro hT p_spec_TreeOk rfl (by kernel_rfl) n_spec_TreeOk rfl ?_
  conv => whnf
  refine .inl ⟨_, _, _, spec_l1In_spec _ _ _, rfl, ?_⟩
  (conv => whnf)
  refine ifB_i (fun h1 => ?_) (fun h1 => ?_) <;> (conv => whnf) <;> simp only [nInt_eq, Int.natCast_zero, dLen_eL, sLen_eq, nOf_eq, Int.toNat_natCast, nAdd_eq, nSub_eq, dLen_nil, dLen_cons, iLt_t, iLt_f, iLe_t, iLe_f, iEq_t, iEq_f, sEq_t, sEq_f, bNot_t, bNot_f, bAnd_t, bEq_t, bEq_f, Bool.not_eq_true, Bool.not_eq_false, Bool.true_eq_false, Bool.false_eq_true] at h1
  rotate_left
  · simp [treeOk, h1]
  refine .inl ⟨_, _, _, spec_l1In_spec _ _ _, rfl, ?_⟩
  (conv => whnf)
  refine ifB_i (fun h2 => ?_) (fun h2 => ?_) <;> (conv => whnf)
  rotate_left
  · simp [treeOk, h2]
  have h1' := of_decide_eq_true h1
  have h2' := of_decide_eq_true h2
  refine .inl ⟨_, _, _, spec_l17Shape_spec t ft h2' (by omega), rfl, ?_⟩
  (conv => whnf)
  refine ifB_i (fun h3 => ?_) (fun h3 => ?_) <;> (conv => whnf)
  rotate_left
  · simp [treeOk, h3]
  refine .inl ⟨_, _, _, spec_DepthOf_spec t (by omega), rfl, ?_⟩
  (conv => whnf)
  refine ifB_i (fun h4 => ?_) (fun h4 => ?_) <;> (conv => whnf) <;> simp only [nInt_eq, Int.natCast_zero, dLen_eL, sLen_eq, nOf_eq, Int.toNat_natCast, nAdd_eq, nSub_eq, dLen_nil, dLen_cons, iLt_t, iLt_f, iLe_t, iLe_f, iEq_t, iEq_f, sEq_t, sEq_f, bNot_t, bNot_f, bAnd_t, bEq_t, bEq_f, Bool.not_eq_true, Bool.not_eq_false, Bool.true_eq_false, Bool.false_eq_true] at h4
  rotate_left
  · have : ¬ depthK t t.length ≤ 4 := by omega
    simp [treeOk, this]
  refine .inl ⟨_, _, _, spec_l17Ways_spec t ft h3 (by omega), rfl, ?_⟩
  (conv => whnf)
  simp [treeOk, h1, h2, h3, h4]
end Go.H.S
