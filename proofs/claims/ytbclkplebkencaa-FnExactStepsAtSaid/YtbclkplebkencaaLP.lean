/- Library, part P: the shape of a right tree. -/
import Derived.Test.YtbclkplebkencaaLO
namespace Go.H.S
open Go Go.Proofs Go.H
attribute [local irreducible] Tri FnSpec FnSpecM
set_option maxRecDepth 100000
set_option linter.unusedSimpArgs false
set_option linter.unusedVariables false


def leafBad (n : Nd) : Bool := decide (n ≠ ⟨-1, 0, 0, 0, n.v⟩) || !decide (-1099511627776 ≤ n.v ∧ n.v ≤ 1099511627776)
def innerBad (n : Nd) (ft i next : Int) : Bool := decide (¬ (0 ≤ n.f ∧ n.f ≤ ft - 1)) || decide (¬ (-2147483647 ≤ n.c ∧ n.c ≤ 2147483647)) || decide (n.v ≠ 0) || decide (n.l ≠ next) || decide (n.r ≠ next + 1) || decide (n.l ≤ i)
def shapeL (ft : Int) : List Nd → Int → Int → Option Int
  | [], i, next => some next
  | n :: r, i, next => if n.f = -1 then (if leafBad n then none else shapeL ft r (i + 1) next) else if innerBad n ft i next then none else shapeL ft r (i + 1) (next + 2)
def shapeOk (t : List Nd) (ft : Int) : Bool := decide (shapeL ft t 0 1 = some (t.length : Int))
theorem shape_bad {t : List Nd} {ft : Int} (h : none = shapeL ft t 0 1) : shapeOk t ft = false := by simp [shapeOk, ← h]
theorem spec_l17Shape_spec (t : List Nd) (ft : Int) (hft : 0 ≤ ft ∧ ft ≤ 4) (hl : t.length ≤ 1048576) : FnSpec PR f_spec_l17Shape [aT t, ai ft] (ab (shapeOk t ft)) [] 0 := by
  refine FnSpec.intro hT p_spec_l17Shape rfl (by kernel_rfl) n_spec_l17Shape rfl ?_
  conv => whnf
  refine tri_loop hT [1, 2, 5, 6] (α := Nat × Nat) (fun x => { t := [(1, ai ft), (2, .c (.ptr 0 0)), (5, ai x.2), (6, ai x.1)], h := [(0, .box t_impl_Tree (cTr t))], n := 1, N := 77 })
    (fun x => x.1 ≤ t.length ∧ x.2 ≤ 2 * x.1 + 1 ∧ shapeL ft (t.drop x.1) x.1 x.2 = shapeL ft t 0 1) (fun x => t.length - x.1) (0, 1) (by ((conv => whnf); simp only [St.mk.injEq, List.cons.injEq, Prod.mk.injEq, AV.c.injEq, AV.agg.injEq, AV.tup.injEq, CV.d.injEq, D.int.injEq, D.bool.injEq, D.str.injEq, D.sl.injEq, Ent.arr.injEq, Ent.box.injEq, true_and, and_true, and_self, nInt_eq, Int.natCast_zero, dLen_eL, sLen_eq]); rfl) ⟨Nat.zero_le _, by simp, by simp⟩ ?_
  intro ⟨k, nx⟩ ⟨hk, hx, hs⟩
  dsimp only at hk hx hs
  (conv => whnf)
  refine ifB_i (fun h1 => ?_) (fun h1 => ?_) <;> (conv => whnf) <;> simp at h1
  · obtain ⟨n, hn⟩ := get_lt h1
    rw [drop_at hn, shapeL] at hs
    refine idx_at (by simp) hn ?_
    (conv => whnf)
    refine .inl ⟨_, _, _, spec_l17Inner_spec n, rfl, ?_⟩
    (conv => whnf)
    refine ifB_i (fun h2 => ?_) (fun h2 => ?_) <;> (conv => whnf) <;> simp only [nInt_eq, Int.natCast_zero, dLen_eL, sLen_eq, nOf_eq, Int.toNat_natCast, nAdd_eq, nSub_eq, dLen_nil, dLen_cons, iLt_t, iLt_f, iLe_t, iLe_f, iEq_t, iEq_f, sEq_t, sEq_f, bNot_t, bNot_f, bAnd_t, bEq_t, bEq_f, Bool.not_eq_true, Bool.not_eq_false, Bool.true_eq_false, Bool.false_eq_true] at h2
    · have hf : n.f = -1 := by simpa [bNot, iEq] using h2
      rw [if_pos hf] at hs
      generalize hb : bNot (bAnd (iEq n.f (-1)) (bAnd (iEq n.c 0) (bAnd (iEq n.l 0) (bAnd (iEq n.r 0) (bAnd (iEq n.v n.v) true))))) = b
      cases b <;> (conv => whnf)
      · refine .inl ⟨_, _, _, spec_l14Leaf_spec n.v, rfl, ?_⟩
        (conv => whnf)
        generalize hb2 : decide (-1099511627776 ≤ n.v ∧ n.v ≤ 1099511627776) = b2
        cases b2 <;> (conv => whnf)
        · have hlb : leafBad n = true := by simp [leafBad, hb2]
          rw [if_pos hlb] at hs
          rw [shape_bad hs]
        · have hlb : leafBad n = false := by
            obtain ⟨f, c, l, r, v⟩ := n
            simp only [leafBad, hb2]
            simp_all [bNot, bAnd, iEq]
          rw [hlb] at hs
          refine ⟨(k + 1, nx), by dsimp only; omega, ⟨h1, by dsimp only; omega, by simpa using hs⟩, ?_⟩
          ((conv => whnf); simp only [St.mk.injEq, List.cons.injEq, Prod.mk.injEq, AV.c.injEq, AV.agg.injEq, AV.tup.injEq, CV.d.injEq, D.int.injEq, D.bool.injEq, D.str.injEq, D.sl.injEq, Ent.arr.injEq, Ent.box.injEq, true_and, and_true, and_self, nInt_eq, Int.natCast_zero, dLen_eL, sLen_eq, wI h1 (by omega)])
      · have hlb : leafBad n = true := by
          obtain ⟨f, c, l, r, v⟩ := n
          simp only [leafBad]
          simp_all [bNot, bAnd, iEq]
        rw [if_pos hlb] at hs
        rw [shape_bad hs]
    · have hf : ¬ n.f = -1 := by simpa [bNot, iEq] using h2
      rw [if_neg hf] at hs
      refine .inl ⟨_, _, _, spec_l1In_spec _ _ _, rfl, ?_⟩
      rw [show wSub .i64 ft 1 = ft - 1 from wSub64 (by omega) (by omega)]
      (conv => whnf)
      generalize hb1 : decide (0 ≤ n.f ∧ n.f ≤ ft - 1) = b1
      cases b1 <;> (conv => whnf)
      · have hib : innerBad n ft k nx = true := by
          have : ¬ (0 ≤ n.f ∧ n.f ≤ ft - 1) := by simpa using hb1
          simp [innerBad, this]
        rw [if_pos hib] at hs
        rw [shape_bad hs]
      · refine .inl ⟨_, _, _, spec_l6Value_spec _, rfl, ?_⟩
        (conv => whnf)
        generalize hb2 : decide (-2147483647 ≤ n.c ∧ n.c ≤ 2147483647) = b2
        cases b2 <;> (conv => whnf)
        · have hib : innerBad n ft k nx = true := by
            have : ¬ (-2147483647 ≤ n.c ∧ n.c ≤ 2147483647) := by simpa using hb2
            simp [innerBad, this]
          rw [if_pos hib] at hs
          rw [shape_bad hs]
        · generalize hb3 : iEq n.v 0 = b3
          cases b3 <;> (conv => whnf)
          · have hib : innerBad n ft k nx = true := by
              have : ¬ n.v = 0 := by simpa [iEq] using hb3
              simp [innerBad, this]
            rw [if_pos hib] at hs
            rw [shape_bad hs]
          generalize hb4 : iEq n.l (nx : Int) = b4
          cases b4 <;> (conv => whnf)
          · have hib : innerBad n ft k nx = true := by
              have : ¬ n.l = nx := by simpa [iEq] using hb4
              simp [innerBad, this]
            rw [if_pos hib] at hs
            rw [shape_bad hs]
          rw [show wAdd .i64 (nx : Int) 1 = nx + 1 from wAdd64 (by omega) (by omega)]
          generalize hb5 : iEq n.r ((nx : Int) + 1) = b5
          cases b5 <;> (conv => whnf)
          · have hib : innerBad n ft k nx = true := by
              have : ¬ n.r = nx + 1 := by simpa [iEq] using hb5
              simp [innerBad, this]
            rw [if_pos hib] at hs
            rw [shape_bad hs]
          generalize hb6 : iLe n.l ((k, nx).fst : Int) = b6
          dsimp only at hb6
          cases b6 <;> (conv => whnf)
          rotate_left
          · have hib : innerBad n ft k nx = true := by
              have : n.l ≤ k := by simpa [iLe] using hb6
              simp [innerBad, this]
            rw [if_pos hib] at hs
            rw [shape_bad hs]
          have hib : innerBad n ft k nx = false := by
            have q3 : n.v = 0 := by simpa [iEq] using hb3
            have q4 : n.l = nx := by simpa [iEq] using hb4
            have q5 : n.r = nx + 1 := by simpa [iEq] using hb5
            have q6 : ¬ n.l ≤ k := by simpa [iLe] using hb6
            have q1 : 0 ≤ n.f ∧ n.f ≤ ft - 1 := by simpa using hb1
            have q2 : -2147483647 ≤ n.c ∧ n.c ≤ 2147483647 := by simpa using hb2
            simp [innerBad, q1, q2, q3, q4, q5]
            omega
          rw [hib] at hs
          refine ⟨(k + 1, nx + 2), by dsimp only; omega, ⟨h1, by dsimp only; omega, by simpa using hs⟩, ?_⟩
          ((conv => whnf); simp only [St.mk.injEq, List.cons.injEq, Prod.mk.injEq, AV.c.injEq, AV.agg.injEq, AV.tup.injEq, CV.d.injEq, D.int.injEq, D.bool.injEq, D.str.injEq, D.sl.injEq, Ent.arr.injEq, Ent.box.injEq, true_and, and_true, and_self, nInt_eq, Int.natCast_zero, dLen_eL, sLen_eq, wI h1 (by omega), wAdd64 (show -9223372036854775808 ≤ (nx : Int) + 2 by omega) (by omega), Int.natCast_add, Int.cast_ofNat_Int])
  · obtain rfl : k = t.length := by omega
    simp only [List.drop_length, shapeL] at hs
    ((conv => whnf); simp only [St.mk.injEq, List.cons.injEq, Prod.mk.injEq, AV.c.injEq, AV.agg.injEq, AV.tup.injEq, CV.d.injEq, D.int.injEq, D.bool.injEq, D.str.injEq, D.sl.injEq, Ent.arr.injEq, Ent.box.injEq, true_and, and_true, and_self, nInt_eq, Int.natCast_zero, dLen_eL, sLen_eq])
    simp only [shapeOk, ← hs, iEq, Option.some.injEq]
end Go.H.S
