/- Library, part O: right trees (TreeOk) and the small functions around. -/
import Derived.Test.YtbclkplebkencaaLG
namespace Go.H.S
open Go Go.Proofs Go.H
attribute [local irreducible] Tri FnSpec FnSpecM
set_option maxRecDepth 100000
set_option linter.unusedSimpArgs false
set_option linter.unusedVariables false

def brought (x lo hi : Int) : Int := if x < lo then lo else if hi < x then hi else x

theorem spec_Brought_spec (x lo hi : Int) : FnSpec PR f_spec_Brought [ai x, ai lo, ai hi] (ai (brought x lo hi)) [] 0 := by
  refine FnSpec.intro hT p_spec_Brought rfl (by kernel_rfl) n_spec_Brought rfl ?_
  conv => whnf
  refine ifB_i (fun h => ?_) (fun h => ?_) <;> (conv => whnf) <;> simp only [nInt_eq, Int.natCast_zero, dLen_eL, sLen_eq, nOf_eq, Int.toNat_natCast, nAdd_eq, nSub_eq, dLen_nil, dLen_cons, iLt_t, iLt_f, iLe_t, iLe_f, iEq_t, iEq_f, sEq_t, sEq_f, bNot_t, bNot_f, bAnd_t, bEq_t, bEq_f, Bool.not_eq_true, Bool.not_eq_false, Bool.true_eq_false, Bool.false_eq_true] at h
  · ((conv => whnf); simp only [St.mk.injEq, List.cons.injEq, Prod.mk.injEq, AV.c.injEq, AV.agg.injEq, AV.tup.injEq, CV.d.injEq, D.int.injEq, D.bool.injEq, D.str.injEq, D.sl.injEq, Ent.arr.injEq, Ent.box.injEq, true_and, and_true, and_self, nInt_eq, Int.natCast_zero, dLen_eL, sLen_eq])
    simp only [brought]
    rw [if_pos (by omega)]
  · refine ifB_i (fun h2 => ?_) (fun h2 => ?_) <;> (conv => whnf) <;> simp only [nInt_eq, Int.natCast_zero, dLen_eL, sLen_eq, nOf_eq, Int.toNat_natCast, nAdd_eq, nSub_eq, dLen_nil, dLen_cons, iLt_t, iLt_f, iLe_t, iLe_f, iEq_t, iEq_f, sEq_t, sEq_f, bNot_t, bNot_f, bAnd_t, bEq_t, bEq_f, Bool.not_eq_true, Bool.not_eq_false, Bool.true_eq_false, Bool.false_eq_true] at h2 <;> ((conv => whnf); simp only [St.mk.injEq, List.cons.injEq, Prod.mk.injEq, AV.c.injEq, AV.agg.injEq, AV.tup.injEq, CV.d.injEq, D.int.injEq, D.bool.injEq, D.str.injEq, D.sl.injEq, Ent.arr.injEq, Ent.box.injEq, true_and, and_true, and_self, nInt_eq, Int.natCast_zero, dLen_eL, sLen_eq]) <;> simp only [brought]
    · rw [if_neg (by omega), if_pos (by omega)]
    · rw [if_neg (by omega), if_neg (by omega)]

def depthK (t : List Nd) : Nat → Int
  | 0 => -1
  | k + 1 => max (depthK t k) (levelL t k)
theorem spec_DepthOf_spec (t : List Nd) (hl : t.length ≤ 1048576) : FnSpec PR f_spec_DepthOf [aT t] (ai (depthK t t.length)) [] 0 := by
  refine FnSpec.intro hT p_spec_DepthOf rfl (by kernel_rfl) n_spec_DepthOf rfl ?_
  conv => whnf
  refine tri_loop hT [1, 3, 4] (α := Nat) (fun x => { t := [(1, .c (.ptr 0 0)), (3, ai (depthK t x)), (4, ai x)], h := [(0, .box t_impl_Tree (cTr t))], n := 1, N := 18 })
    (fun x => x ≤ t.length) (fun x => t.length - x) 0 (by ((conv => whnf); simp only [St.mk.injEq, List.cons.injEq, Prod.mk.injEq, AV.c.injEq, AV.agg.injEq, AV.tup.injEq, CV.d.injEq, D.int.injEq, D.bool.injEq, D.str.injEq, D.sl.injEq, Ent.arr.injEq, Ent.box.injEq, true_and, and_true, and_self, nInt_eq, Int.natCast_zero, dLen_eL, sLen_eq, depthK])) (Nat.zero_le _) ?_
  intro k hk
  (conv => whnf)
  refine ifB_i (fun h1 => ?_) (fun h1 => ?_) <;> (conv => whnf) <;> simp at h1
  · refine .inl ⟨_, _, _, spec_LevelOf_spec t k (by omega), rfl, ?_⟩
    (conv => whnf)
    refine .inl ⟨_, _, _, spec_l1Max_spec _ _, rfl, ?_⟩
    (conv => whnf)
    refine ⟨k + 1, by omega, h1, ?_⟩
    ((conv => whnf); simp only [St.mk.injEq, List.cons.injEq, Prod.mk.injEq, AV.c.injEq, AV.agg.injEq, AV.tup.injEq, CV.d.injEq, D.int.injEq, D.bool.injEq, D.str.injEq, D.sl.injEq, Ent.arr.injEq, Ent.box.injEq, true_and, and_true, and_self, nInt_eq, Int.natCast_zero, dLen_eL, sLen_eq, wI h1 (by omega), depthK])
  · obtain rfl : k = t.length := by omega
    (conv => whnf)

theorem spec_l6Value_spec (x : Int) : FnSpec PR f_spec_l6Value [ai x] (ab (decide (-2147483647 ≤ x ∧ x ≤ 2147483647))) [] 0 := by
  refine FnSpec.intro hT p_spec_l6Value rfl (by kernel_rfl) n_spec_l6Value rfl ?_
  conv => whnf
  refine .inl ⟨_, _, _, spec_l1In_spec _ _ _, rfl, ?_⟩
  (conv => whnf)

theorem spec_l14Leaf_spec (x : Int) : FnSpec PR f_spec_l14Leaf [ai x] (ab (decide (-1099511627776 ≤ x ∧ x ≤ 1099511627776))) [] 0 := by
  refine FnSpec.intro hT p_spec_l14Leaf rfl (by kernel_rfl) n_spec_l14Leaf rfl ?_
  conv => whnf
  refine .inl ⟨_, _, _, spec_l1In_spec _ _ _, rfl, ?_⟩
  (conv => whnf)
end Go.H.S
namespace Go.H.S
open Go Go.Proofs Go.H
attribute [local irreducible] Tri FnSpec FnSpecM
set_option maxRecDepth 100000
set_option linter.unusedSimpArgs false
set_option linter.unusedVariables false


def leafBad (n : Nd) : Bool := decide (n ≠ ⟨-1, 0, 0, 0, n.v⟩) || !decide (-1099511627776 ≤ n.v ∧ n.v ≤ 1099511627776)
def innerBad (n : Nd) (ft i next : Int) : Bool := decide (¬ (0 ≤ n.f ∧ n.f ≤ ft - 1)) || decide (¬ (-2147483647 ≤ n.c ∧ n.c ≤ 2147483647)) || decide (n.v ≠ 0) || decide (n.l ≠ next) || decide (n.r ≠ next + 1) || decide (n.l ≤ i)
def shapeL (ft : Int) : List Nd → Int → Int → Option Int
  | [], i, next => some next
  | n :: r, i, next => if n.f = -1 then (if leafBad n then none else shapeL ft r (i + 1) next) else if innerBad n ft i next then none else shapeL ft r (i + 1) (next + 2)
def shapeOk (t : List Nd) (ft : Int) : Bool := decide (shapeL ft t 0 1 = some (t.length : Int))
theorem shape_bad {t : List Nd} {ft : Int} (h : none = shapeL ft t 0 1) : shapeOk t ft = false := by simp [shapeOk, ← h]
theorem spec_l17Shape_spec (t : List Nd) (ft : Int) (hft : 0 ≤ ft ∧ ft ≤ 4) (hl : t.length ≤ 1048576) : FnSpec PR f_spec_l17Shape [aT t, ai ft] (ab (shapeOk t ft)) [] 0 := by
  refine FnSpec.intro hT p_spec_l17Shape rfl (by kernel_rfl) n_spec_l17Shape rfl ?_
  conv => whnf
  refine tri_loop hT [1, 2, 5, 6] (α := Nat × Nat) (fun x => { t := [(1, ai ft), (2, .c (.ptr 0 0)), (5, ai x.2), (6, ai x.1)], h := [(0, .box t_impl_Tree (cTr t))], n := 1, N := 77 })
    (fun x => x.1 ≤ t.length ∧ x.2 ≤ 2 * x.1 + 1 ∧ shapeL ft (t.drop x.1) x.1 x.2 = shapeL ft t 0 1) (fun x => t.length - x.1) (0, 1) (by ((conv => whnf); simp only [St.mk.injEq, List.cons.injEq, Prod.mk.injEq, AV.c.injEq, AV.agg.injEq, AV.tup.injEq, CV.d.injEq, D.int.injEq, D.bool.injEq, D.str.injEq, D.sl.injEq, Ent.arr.injEq, Ent.box.injEq, true_and, and_true, and_self, nInt_eq, Int.natCast_zero, dLen_eL, sLen_eq]); rfl) ⟨Nat.zero_le _, by simp, by simp⟩ ?_
  intro ⟨k, nx⟩ ⟨hk, hx, hs⟩
  dsimp only at hk hx hs
  (conv => whnf)
  refine ifB_i (fun h1 => ?_) (fun h1 => ?_) <;> (conv => whnf) <;> simp at h1
  · obtain ⟨n, hn⟩ := get_lt h1
    rw [drop_at hn, shapeL] at hs
    refine idx_at (by simp) hn ?_
    (conv => whnf)
    refine .inl ⟨_, _, _, spec_l17Inner_spec n, rfl, ?_⟩
    (conv => whnf)
    refine ifB_i (fun h2 => ?_) (fun h2 => ?_) <;> (conv => whnf) <;> simp only [nInt_eq, Int.natCast_zero, dLen_eL, sLen_eq, nOf_eq, Int.toNat_natCast, nAdd_eq, nSub_eq, dLen_nil, dLen_cons, iLt_t, iLt_f, iLe_t, iLe_f, iEq_t, iEq_f, sEq_t, sEq_f, bNot_t, bNot_f, bAnd_t, bEq_t, bEq_f, Bool.not_eq_true, Bool.not_eq_false, Bool.true_eq_false, Bool.false_eq_true] at h2
    · have hf : n.f = -1 := by simpa [bNot, iEq] using h2
      rw [if_pos hf] at hs
      generalize hb : bNot (bAnd (iEq n.f (-1)) (bAnd (iEq n.c 0) (bAnd (iEq n.l 0) (bAnd (iEq n.r 0) (bAnd (iEq n.v n.v) true))))) = b
      cases b <;> (conv => whnf)
      · refine .inl ⟨_, _, _, spec_l14Leaf_spec n.v, rfl, ?_⟩
        (conv => whnf)
        generalize hb2 : decide (-1099511627776 ≤ n.v ∧ n.v ≤ 1099511627776) = b2
        cases b2 <;> (conv => whnf)
        · have hlb : leafBad n = true := by simp [leafBad, hb2]
          rw [if_pos hlb] at hs
          rw [shape_bad hs]
        · have hlb : leafBad n = false := by
            obtain ⟨f, c, l, r, v⟩ := n
            simp only [leafBad, hb2]
            simp_all [bNot, bAnd, iEq]
          rw [hlb] at hs
          refine ⟨(k + 1, nx), by dsimp only; omega, ⟨h1, by dsimp only; omega, by simpa using hs⟩, ?_⟩
          ((conv => whnf); simp only [St.mk.injEq, List.cons.injEq, Prod.mk.injEq, AV.c.injEq, AV.agg.injEq, AV.tup.injEq, CV.d.injEq, D.int.injEq, D.bool.injEq, D.str.injEq, D.sl.injEq, Ent.arr.injEq, Ent.box.injEq, true_and, and_true, and_self, nInt_eq, Int.natCast_zero, dLen_eL, sLen_eq, wI h1 (by omega)])
      · have hlb : leafBad n = true := by
          obtain ⟨f, c, l, r, v⟩ := n
          simp only [leafBad]
          simp_all [bNot, bAnd, iEq]
        rw [if_pos hlb] at hs
        rw [shape_bad hs]
    · have hf : ¬ n.f = -1 := by simpa [bNot, iEq] using h2
      rw [if_neg hf] at hs
      refine .inl ⟨_, _, _, spec_l1In_spec _ _ _, rfl, ?_⟩
      rw [show wSub .i64 ft 1 = ft - 1 from wSub64 (by omega) (by omega)]
      (conv => whnf)
      generalize hb1 : decide (0 ≤ n.f ∧ n.f ≤ ft - 1) = b1
      cases b1 <;> (conv => whnf)
      · have hib : innerBad n ft k nx = true := by
          have : ¬ (0 ≤ n.f ∧ n.f ≤ ft - 1) := by simpa using hb1
          simp [innerBad, this]
        rw [if_pos hib] at hs
        rw [shape_bad hs]
      · refine .inl ⟨_, _, _, spec_l6Value_spec _, rfl, ?_⟩
        (conv => whnf)
        generalize hb2 : decide (-2147483647 ≤ n.c ∧ n.c ≤ 2147483647) = b2
        cases b2 <;> (conv => whnf)
        · have hib : innerBad n ft k nx = true := by
            have : ¬ (-2147483647 ≤ n.c ∧ n.c ≤ 2147483647) := by simpa using hb2
            simp [innerBad, this]
          rw [if_pos hib] at hs
          rw [shape_bad hs]
        · generalize hb3 : iEq n.v 0 = b3
          cases b3 <;> (conv => whnf)
          · have hib : innerBad n ft k nx = true := by
              have : ¬ n.v = 0 := by simpa [iEq] using hb3
              simp [innerBad, this]
            rw [if_pos hib] at hs
            rw [shape_bad hs]
          generalize hb4 : iEq n.l (nx : Int) = b4
          cases b4 <;> (conv => whnf)
          · have hib : innerBad n ft k nx = true := by
              have : ¬ n.l = nx := by simpa [iEq] using hb4
              simp [innerBad, this]
            rw [if_pos hib] at hs
            rw [shape_bad hs]
          rw [show wAdd .i64 (nx : Int) 1 = nx + 1 from wAdd64 (by omega) (by omega)]
          generalize hb5 : iEq n.r ((nx : Int) + 1) = b5
          cases b5 <;> (conv => whnf)
          · have hib : innerBad n ft k nx = true := by
              have : ¬ n.r = nx + 1 := by simpa [iEq] using hb5
              simp [innerBad, this]
            rw [if_pos hib] at hs
            rw [shape_bad hs]
          generalize hb6 : iLe n.l ((k, nx).fst : Int) = b6
          dsimp only at hb6
          cases b6 <;> (conv => whnf)
          rotate_left
          · have hib : innerBad n ft k nx = true := by
              have : n.l ≤ k := by simpa [iLe] using hb6
              simp [innerBad, this]
            rw [if_pos hib] at hs
            rw [shape_bad hs]
          have hib : innerBad n ft k nx = false := by
            have q3 : n.v = 0 := by simpa [iEq] using hb3
            have q4 : n.l = nx := by simpa [iEq] using hb4
            have q5 : n.r = nx + 1 := by simpa [iEq] using hb5
            have q6 : ¬ n.l ≤ k := by simpa [iLe] using hb6
            have q1 : 0 ≤ n.f ∧ n.f ≤ ft - 1 := by simpa using hb1
            have q2 : -2147483647 ≤ n.c ∧ n.c ≤ 2147483647 := by simpa using hb2
            simp [innerBad, q1, q2, q3, q4, q5]
            omega
          rw [hib] at hs
          refine ⟨(k + 1, nx + 2), by dsimp only; omega, ⟨h1, by dsimp only; omega, by simpa using hs⟩, ?_⟩
          ((conv => whnf); simp only [St.mk.injEq, List.cons.injEq, Prod.mk.injEq, AV.c.injEq, AV.agg.injEq, AV.tup.injEq, CV.d.injEq, D.int.injEq, D.bool.injEq, D.str.injEq, D.sl.injEq, Ent.arr.injEq, Ent.box.injEq, true_and, and_true, and_self, nInt_eq, Int.natCast_zero, dLen_eL, sLen_eq, wI h1 (by omega), wAdd64 (show -9223372036854775808 ≤ (nx : Int) + 2 by omega) (by omega), Int.natCast_add, Int.cast_ofNat_Int])
  · obtain rfl : k = t.length := by omega
    simp only [List.drop_length, shapeL] at hs
    ((conv => whnf); simp only [St.mk.injEq, List.cons.injEq, Prod.mk.injEq, AV.c.injEq, AV.agg.injEq, AV.tup.injEq, CV.d.injEq, D.int.injEq, D.bool.injEq, D.str.injEq, D.sl.injEq, Ent.arr.injEq, Ent.box.injEq, true_and, and_true, and_self, nInt_eq, Int.natCast_zero, dLen_eL, sLen_eq])
    simp only [shapeOk, ← hs, iEq, Option.some.injEq]
end Go.H.S
namespace Go.H.S
open Go Go.Proofs Go.H
set_option linter.unusedSimpArgs false
set_option linter.unusedVariables false


theorem shape_leaf {ft : Int} : ∀ {l : List Nd} {i next m : Int}, shapeL ft l i next = some m → ∀ {j : Nat} {n : Nd}, l[j]? = some n → n.f = -1 → leafBad n = false
  | [], i, next, m, h, j, n, hj, hf => by simp at hj
  | x :: r, i, next, m, h, j, n, hj, hf => by
    simp only [shapeL] at h
    cases j with
    | zero =>
      simp at hj
      subst hj
      rw [if_pos hf] at h
      cases hb : leafBad x with
      | false => rfl
      | true => simp [hb] at h
    | succ j =>
      rw [List.getElem?_cons_succ] at hj
      split at h
      · split at h
        · cases h
        · exact shape_leaf h hj hf
      · split at h
        · cases h
        · exact shape_leaf h hj hf
theorem shape_inner {ft : Int} : ∀ {l : List Nd} {i next m : Int}, shapeL ft l i next = some m → ∀ {j : Nat} {n : Nd}, l[j]? = some n → n.f ≠ -1 → ∃ nx, next ≤ nx ∧ nx + 2 ≤ m ∧ innerBad n ft (i + j) nx = false
  | [], i, next, m, h, j, n, hj, hf => by simp at hj
  | x :: r, i, next, m, h, j, n, hj, hf => by
    have mono : ∀ {l : List Nd} {i a b : Int}, shapeL ft l i a = some b → a ≤ b := by
      intro l
      induction l with
      | nil => intro i a b h; simp [shapeL] at h; omega
      | cons y s ih =>
        intro i a b h
        simp only [shapeL] at h
        split at h
        · split at h
          · cases h
          · exact ih h
        · split at h
          · cases h
          · have := ih h; omega
    simp only [shapeL] at h
    cases j with
    | zero =>
      simp at hj
      subst hj
      rw [if_neg hf] at h
      cases hb : innerBad x ft i next with
      | false =>
        rw [hb] at h
        simp at h
        exact ⟨next, Int.le_refl _, mono h, by simpa using hb⟩
      | true => simp [hb] at h
    | succ j =>
      rw [List.getElem?_cons_succ] at hj
      split at h
      · split at h
        · cases h
        · obtain ⟨nx, h1, h2, h3⟩ := shape_inner h hj hf
          exact ⟨nx, h1, h2, by rw [show i + ((j + 1 : Nat) : Int) = i + 1 + j by omega]; exact h3⟩
      · split at h
        · cases h
        · obtain ⟨nx, h1, h2, h3⟩ := shape_inner h hj hf
          exact ⟨nx, by omega, h2, by rw [show i + ((j + 1 : Nat) : Int) = i + 1 + j by omega]; exact h3⟩
/-- An inner node of a right tree: its children lie behind it, within the tree. -/
theorem shape_kids {t : List Nd} {ft : Int} (h : shapeOk t ft = true) {j : Nat} {n : Nd} (hj : t[j]? = some n) (hf : n.f ≠ -1) :
    0 ≤ n.f ∧ n.f < ft ∧ n.v = 0 ∧ (j : Int) < n.l ∧ n.r = n.l + 1 ∧ n.r < t.length ∧ -2147483647 ≤ n.c ∧ n.c ≤ 2147483647 := by
  have hs : shapeL ft t 0 1 = some (t.length : Int) := by simpa [shapeOk] using h
  obtain ⟨nx, h1, h2, h3⟩ := shape_inner hs hj hf
  simp [innerBad] at h3
  omega
theorem shape_value {t : List Nd} {ft : Int} (h : shapeOk t ft = true) {j : Nat} {n : Nd} (hj : t[j]? = some n) (hf : n.f = -1) :
    -1099511627776 ≤ n.v ∧ n.v ≤ 1099511627776 := by
  have hs : shapeL ft t 0 1 = some (t.length : Int) := by simpa [shapeOk] using h
  have h3 := shape_leaf hs hj hf
  simp [leafBad] at h3
  omega
/-- Children come in order, each once. -/
theorem shape_order {ft : Int} : ∀ {l : List Nd} {i next m : Int}, shapeL ft l i next = some m → ∀ {j j' : Nat} {n n' : Nd}, l[j]? = some n → l[j']? = some n' → n.f ≠ -1 → n'.f ≠ -1 → j < j' → n.l + 2 ≤ n'.l
  | [], i, next, m, h, j, j', n, n', hj, hj', hf, hf', hlt => by simp at hj
  | x :: r, i, next, m, h, j, j', n, n', hj, hj', hf, hf', hlt => by
    obtain ⟨k, rfl⟩ : ∃ k, j' = k + 1 := ⟨j' - 1, by omega⟩
    rw [List.getElem?_cons_succ] at hj'
    simp only [shapeL] at h
    cases j with
    | zero =>
      simp at hj
      subst hj
      rw [if_neg hf] at h
      cases hb : innerBad x ft i next with
      | true => simp [hb] at h
      | false =>
        rw [hb] at h
        simp at h
        obtain ⟨nx, h1, h2, h3⟩ := shape_inner h hj' hf'
        simp [innerBad] at h3 hb
        omega
    | succ j =>
      rw [List.getElem?_cons_succ] at hj
      split at h
      · split at h
        · cases h
        · exact shape_order h hj hj' hf hf' (by omega)
      · split at h
        · cases h
        · exact shape_order h hj hj' hf hf' (by omega)
theorem shape_once {t : List Nd} {ft : Int} (h : shapeOk t ft = true) {j j' : Nat} {n n' : Nd} (hj : t[j]? = some n) (hj' : t[j']? = some n') (hf : n.f ≠ -1) (hf' : n'.f ≠ -1) {x : Int}
    (hx : n.l = x ∨ n.r = x) (hx' : n'.l = x ∨ n'.r = x) : j = j' := by
  have hs : shapeL ft t 0 1 = some (t.length : Int) := by simpa [shapeOk] using h
  have k1 := shape_kids h hj hf
  have k2 := shape_kids h hj' hf'
  rcases Nat.lt_trichotomy j j' with q | q | q
  · have := shape_order hs hj hj' hf hf' q
    omega
  · exact q
  · have := shape_order hs hj' hj hf' hf q
    omega
theorem idxL_at {α : Type} (p : α → Bool) : ∀ (l : List α) (k : Nat), 0 ≤ idxL p l k → ∃ (j : Nat) (x : α), idxL p l k = k + j ∧ l[j]? = some x ∧ p x = true
  | [], k, h => by simp [idxL] at h
  | x :: r, k, h => by
    simp only [idxL] at h ⊢
    split
    · exact ⟨0, x, by simp, rfl, by assumption⟩
    · rename_i hp
      rw [if_neg hp] at h
      obtain ⟨j, y, h1, h2, h3⟩ := idxL_at p r (k + 1) h
      exact ⟨j + 1, y, by rw [h1]; omega, by rw [List.getElem?_cons_succ]; exact h2, h3⟩
theorem idxL_ge {α : Type} (p : α → Bool) : ∀ (l : List α) (k : Nat) {j : Nat} {x : α}, l[j]? = some x → p x = true → 0 ≤ idxL p l k
  | [], k, j, x, h, hp => by simp at h
  | y :: r, k, j, x, h, hp => by
    simp only [idxL]
    split
    · omega
    · cases j with
      | zero => simp at h; subst h; contradiction
      | succ j => rw [List.getElem?_cons_succ] at h; exact idxL_ge p r (k + 1) h hp
/-- The parent, where there is one. -/
theorem up_at {t : List Nd} {ft : Int} (h : shapeOk t ft = true) {x : Int} (hx : 0 ≤ up t x) : ∃ (j : Nat) (n : Nd), up t x = j ∧ t[j]? = some n ∧ n.f ≠ -1 ∧ (n.l = x ∨ n.r = x) ∧ up t x < x := by
  obtain ⟨j, n, h1, h2, h3⟩ := idxL_at _ _ _ hx
  have h3' : n.f ≠ -1 ∧ (n.l = x ∨ n.r = x) := by simpa [pUp] using h3
  have hk := shape_kids h h2 h3'.1
  have hu : up t x = j := by unfold up; rw [h1]; simp
  exact ⟨j, n, hu, h2, h3'.1, h3'.2, by omega⟩
theorem up_kid {t : List Nd} {ft : Int} (h : shapeOk t ft = true) {j : Nat} {n : Nd} (hj : t[j]? = some n) (hf : n.f ≠ -1) {x : Int} (hx : n.l = x ∨ n.r = x) : up t x = j := by
  have h0 : 0 ≤ up t x := idxL_ge _ _ _ hj (by simp only [pUp, Bool.and_eq_true, Bool.or_eq_true, decide_eq_true_eq]; exact ⟨hf, hx⟩)
  obtain ⟨j', n', h1, h2, h3, h4, _⟩ := up_at h h0
  rw [h1, shape_once h h2 hj h3 hf h4 hx]
/-- z lies on the way from x to the root. -/
inductive Anc (t : List Nd) : Int → Int → Prop
  | refl (x : Int) : Anc t x x
  | up {z x : Int} : 0 ≤ up t x → Anc t z (up t x) → Anc t z x
theorem steps_anc {t : List Nd} {ft : Int} (h : shapeOk t ft = true) : ∀ (n : Nat) (x : Int), x < n → ∃ l, steps t (n + 1) x = some l ∧ ∀ z, z ∈ l ↔ Anc t z x := by
  intro n
  induction n with
  | zero =>
    intro x hx
    have hneg : up t x < 0 := by
      rcases Int.lt_or_le (up t x) 0 with q | q
      · exact q
      · obtain ⟨_, _, _, _, _, _, q2⟩ := up_at h q
        omega
    refine ⟨[x], by simp [steps, hneg], fun z => ?_⟩
    constructor
    · intro hz; simp at hz; subst hz; exact .refl _
    · intro hz
      cases hz with
      | refl => simp
      | up q _ => omega
  | succ n ih =>
    intro x hx
    rcases Int.lt_or_le (up t x) 0 with q | q
    · refine ⟨[x], by simp [steps, q], fun z => ?_⟩
      constructor
      · intro hz; simp at hz; subst hz; exact .refl _
      · intro hz
        cases hz with
        | refl => simp
        | up q' _ => omega
    · obtain ⟨_, _, _, _, _, _, q2⟩ := up_at h q
      obtain ⟨l, h1, h2⟩ := ih (up t x) (by omega)
      refine ⟨x :: l, ?_, fun z => ?_⟩
      · rw [steps, if_neg (by omega), h1]; rfl
      · rw [List.mem_cons, h2]
        constructor
        · rintro (rfl | hz)
          · exact .refl _
          · exact .up q hz
        · intro hz
          cases hz with
          | refl => exact .inl rfl
          | up _ hz => exact .inr hz
theorem Anc.trans {t : List Nd} {a b c : Int} (h1 : Anc t a b) (h2 : Anc t b c) : Anc t a c := by
  induction h2 with
  | refl => exact h1
  | up q _ ih => exact .up q ih
theorem anc_below {t : List Nd} {x y : Int} (h : Anc t x y) : x = y ∨ ∃ c, 0 ≤ up t c ∧ up t c = x ∧ Anc t c y := by
  induction h with
  | refl => exact .inl rfl
  | @up y q h ih =>
    rcases ih with e | ⟨c, h1, h2, h3⟩
    · exact .inr ⟨y, q, e.symm, .refl _⟩
    · exact .inr ⟨c, h1, h2, .up q h3⟩
theorem anc_kid {t : List Nd} {ft : Int} (h : shapeOk t ft = true) {j : Nat} {n : Nd} (hj : t[j]? = some n) (hf : n.f ≠ -1) {y : Int} (hy : y ≠ j) : Anc t j y ↔ Anc t n.l y ∨ Anc t n.r y := by
  constructor
  · intro ha
    rcases anc_below ha with e | ⟨c, h1, h2, h3⟩
    · exact absurd e.symm hy
    · obtain ⟨j', n', q1, q2, q3, q4, _⟩ := up_at h h1
      obtain rfl : j' = j := by omega
      rw [hj] at q2
      cases q2
      rcases q4 with rfl | rfl
      · exact .inl h3
      · exact .inr h3
  · have hl : Anc t j n.l := .up (by rw [up_kid h hj hf (.inl rfl)]; omega) (by rw [up_kid h hj hf (.inl rfl)]; exact .refl _)
    have hr : Anc t j n.r := .up (by rw [up_kid h hj hf (.inr rfl)]; omega) (by rw [up_kid h hj hf (.inr rfl)]; exact .refl _)
    rintro (ha | ha)
    · exact hl.trans ha
    · exact hr.trans ha
theorem way_anc {t : List Nd} {ft : Int} (h : shapeOk t ft = true) (hl : t.length ≤ 31) {x : Int} (hx : 0 ≤ x ∧ x < t.length) (z : Int) : z ∈ wayL t x ↔ Anc t z x := by
  obtain ⟨l, h1, h2⟩ := steps_anc h 31 x (by omega)
  unfold wayL
  rw [if_pos (by omega), h1]
  simp [h2]
end Go.H.S
