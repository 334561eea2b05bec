/- Library, part P: the shape of a right tree. -/
import Derived.Test.YtpkpedaonmbeiaaLO
namespace Go.H.S
open Go Go.Proofs Go.H
attribute [local irreducible] Tri FnSpec FnSpecM
set_option maxRecDepth 100000
set_option linter.unusedSimpArgs false
set_option linter.unusedVariables false


def leafBad (n : Nd) : Bool := decide (n ≠ ⟨-1, 0, 0, 0, n.v⟩) || !decide (-1099511627776 ≤ n.v ∧ n.v ≤ 1099511627776)
def innerBad (n : Nd) (ft i next : Int) : Bool := decide (¬ (0 ≤ n.f ∧ n.f ≤ ft - 1)) || decide (¬ (-2147483647 ≤ n.c ∧ n.c ≤ 2147483647)) || decide (n.v ≠ 0) || decide (n.l ≠ next) || decide (n.r ≠ next + 1) || decide (n.l ≤ i)
def shapeL (ft : Int) : List Nd → Int → Int → Option Int
  | [], i, next => some next
  | n :: r, i, next => if n.f = -1 then (if leafBad n then none else shapeL ft r (i + 1) next) else if innerBad n ft i next then none else shapeL ft r (i + 1) (next + 2)
def shapeOk (t : List Nd) (ft : Int) : Bool := decide (shapeL ft t 0 1 = some (t.length : Int))
theorem shape_bad {t : List Nd} {ft : Int} (h : none = shapeL ft t 0 1) : shapeOk t ft = false := by simp [shapeOk, ← h]
theorem spec_l17Shape_spec (t : List Nd) (ft : Int) (hft : 0 ≤ ft ∧ ft ≤ 4) (hl : t.length ≤ 1048576) : FnSpec PR f_spec_l17Shape [aT t, ai ft] (ab (shapeOk t ft)) [] 0 := by
  refine FnSpec.intro hT p_spec_l17Shape rfl (by kernel_rfl) n_spec_l17Shape rfl ?_
  conv => whnf
  refine tri_loop hT [1, 2, 5, 6] (α := Nat × Nat) (fun x => { t := [(1, ai ft), (2, .c (.ptr 0 0)), (5, ai x.2), (6, ai x.1)], h := [(0, .box t_impl_Tree (cTr t))], n := 1, N := 77 })
    (fun x => x.1 ≤ t.length ∧ x.2 ≤ 2 * x.1 + 1 ∧ shapeL ft (t.drop x.1) x.1 x.2 = shapeL ft t 0 1) (fun x => t.length - x.1) (0, 1) (by ((conv => whnf); simp only [St.mk.injEq, List.cons.injEq, Prod.mk.injEq, AV.c.injEq, AV.agg.injEq, AV.tup.injEq, CV.d.injEq, D.int.injEq, D.bool.injEq, D.str.injEq, D.sl.injEq, Ent.arr.injEq, Ent.box.injEq, true_and, and_true, and_self, nInt_eq, Int.natCast_zero, dLen_eL, sLen_eq]); rfl) ⟨Nat.zero_le _, by simp, by simp⟩ ?_
  intro ⟨k, nx⟩ ⟨hk, hx, hs⟩
  dsimp only at hk hx hs
  (conv => whnf)
  refine ifB_i (fun h1 => ?_) (fun h1 => ?_) <;> (conv => whnf) <;> simp at h1
  · obtain ⟨n, hn⟩ := get_lt h1
    rw [drop_at hn, shapeL] at hs
    refine idx_at (by simp) hn ?_
    (conv => whnf)
    refine .inl ⟨_, _, _, spec_l17Inner_spec n, rfl, ?_⟩
    (conv => whnf)
    refine ifB_i (fun h2 => ?_) (fun h2 => ?_) <;> (conv => whnf) <;> simp only [nInt_eq, Int.natCast_zero, dLen_eL, sLen_eq, nOf_eq, Int.toNat_natCast, nAdd_eq, nSub_eq, dLen_nil, dLen_cons, iLt_t, iLt_f, iLe_t, iLe_f, iEq_t, iEq_f, sEq_t, sEq_f, bNot_t, bNot_f, bAnd_t, bEq_t, bEq_f, Bool.not_eq_true, Bool.not_eq_false, Bool.true_eq_false, Bool.false_eq_true] at h2
    · have hf : n.f = -1 := by simpa [bNot, iEq] using h2
      rw [if_pos hf] at hs
      generalize hb : bNot (bAnd (iEq n.f (-1)) (bAnd (iEq n.c 0) (bAnd (iEq n.l 0) (bAnd (iEq n.r 0) (bAnd (iEq n.v n.v) true))))) = b
      cases b <;> (conv => whnf)
      · refine .inl ⟨_, _, _, spec_l14Leaf_spec n.v, rfl, ?_⟩
        (conv => whnf)
        generalize hb2 : decide (-1099511627776 ≤ n.v ∧ n.v ≤ 1099511627776) = b2
        cases b2 <;> (conv => whnf)
        · have hlb : leafBad n = true := by simp [leafBad, hb2]
          rw [if_pos hlb] at hs
          rw [shape_bad hs]
        · have hlb : leafBad n = false := by
            obtain ⟨f, c, l, r, v⟩ := n
            simp only [leafBad, hb2]
            simp_all [bNot, bAnd, iEq]
          rw [hlb] at hs
          refine ⟨(k + 1, nx), by dsimp only; omega, ⟨h1, by dsimp only; omega, by simpa using hs⟩, ?_⟩
          ((conv => whnf); simp only [St.mk.injEq, List.cons.injEq, Prod.mk.injEq, AV.c.injEq, AV.agg.injEq, AV.tup.injEq, CV.d.injEq, D.int.injEq, D.bool.injEq, D.str.injEq, D.sl.injEq, Ent.arr.injEq, Ent.box.injEq, true_and, and_true, and_self, nInt_eq, Int.natCast_zero, dLen_eL, sLen_eq, wI h1 (by omega)])
      · have hlb : leafBad n = true := by
          obtain ⟨f, c, l, r, v⟩ := n
          simp only [leafBad]
          simp_all [bNot, bAnd, iEq]
        rw [if_pos hlb] at hs
        rw [shape_bad hs]
    · have hf : ¬ n.f = -1 := by simpa [bNot, iEq] using h2
      rw [if_neg hf] at hs
      refine .inl ⟨_, _, _, spec_l1In_spec _ _ _, rfl, ?_⟩
      rw [show wSub .i64 ft 1 = ft - 1 from wSub64 (by omega) (by omega)]
      (conv => whnf)
      generalize hb1 : decide (0 ≤ n.f ∧ n.f ≤ ft - 1) = b1
      cases b1 <;> (conv => whnf)
      · have hib : innerBad n ft k nx = true := by
          have : ¬ (0 ≤ n.f ∧ n.f ≤ ft - 1) := by simpa using hb1
          simp [innerBad, this]
        rw [if_pos hib] at hs
        rw [shape_bad hs]
      · refine .inl ⟨_, _, _, spec_l6Value_spec _, rfl, ?_⟩
        (conv => whnf)
        generalize hb2 : decide (-2147483647 ≤ n.c ∧ n.c ≤ 2147483647) = b2
        cases b2 <;> (conv => whnf)
        · have hib : innerBad n ft k nx = true := by
            have : ¬ (-2147483647 ≤ n.c ∧ n.c ≤ 2147483647) := by simpa using hb2
            simp [innerBad, this]
          rw [if_pos hib] at hs
          rw [shape_bad hs]
        · generalize hb3 : iEq n.v 0 = b3
          cases b3 <;> (conv => whnf)
          · have hib : innerBad n ft k nx = true := by
              have : ¬ n.v = 0 := by simpa [iEq] using hb3
              simp [innerBad, this]
            rw [if_pos hib] at hs
            rw [shape_bad hs]
          generalize hb4 : iEq n.l (nx : Int) = b4
          cases b4 <;> (conv => whnf)
          · have hib : innerBad n ft k nx = true := by
              have : ¬ n.l = nx := by simpa [iEq] using hb4
              simp [innerBad, this]
            rw [if_pos hib] at hs
            rw [shape_bad hs]
          rw [show wAdd .i64 (nx : Int) 1 = nx + 1 from wAdd64 (by omega) (by omega)]
          generalize hb5 : iEq n.r ((nx : Int) + 1) = b5
          cases b5 <;> (conv => whnf)
          · have hib : innerBad n ft k nx = true := by
              have : ¬ n.r = nx + 1 := by simpa [iEq] using hb5
              simp [innerBad, this]
            rw [if_pos hib] at hs
            rw [shape_bad hs]
          generalize hb6 : iLe n.l ((k, nx).fst : Int) = b6
          dsimp only at hb6
          cases b6 <;> (conv => whnf)
          rotate_left
          · have hib : innerBad n ft k nx = true := by
              have : n.l ≤ k := by simpa [iLe] using hb6
              simp [innerBad, this]
            rw [if_pos hib] at hs
            rw [shape_bad hs]
          have hib : innerBad n ft k nx = false := by
            have q3 : n.v = 0 := by simpa [iEq] using hb3
            have q4 : n.l = nx := by simpa [iEq] using hb4
            have q5 : n.r = nx + 1 := by simpa [iEq] using hb5
            have q6 : ¬ n.l ≤ k := by simpa [iLe] using hb6
            have q1 : 0 ≤ n.f ∧ n.f ≤ ft - 1 := by simpa using hb1
            have q2 : -2147483647 ≤ n.c ∧ n.c ≤ 2147483647 := by simpa using hb2
            simp [innerBad, q1, q2, q3, q4, q5]
            omega
          rw [hib] at hs
          refine ⟨(k + 1, nx + 2), by dsimp only; omega, ⟨h1, by dsimp only; omega, by simpa using hs⟩, ?_⟩
          ((conv => whnf); simp only [St.mk.injEq, List.cons.injEq, Prod.mk.injEq, AV.c.injEq, AV.agg.injEq, AV.tup.injEq, CV.d.injEq, D.int.injEq, D.bool.injEq, D.str.injEq, D.sl.injEq, Ent.arr.injEq, Ent.box.injEq, true_and, and_true, and_self, nInt_eq, Int.natCast_zero, dLen_eL, sLen_eq, wI h1 (by omega), wAdd64 (show -9223372036854775808 ≤ (nx : Int) + 2 by omega) (by omega), Int.natCast_add, Int.cast_ofNat_Int])
  · obtain rfl : k = t.length := by omega
    simp only [List.drop_length, shapeL] at hs
    ((conv => whnf); simp only [St.mk.injEq, List.cons.injEq, Prod.mk.injEq, AV.c.injEq, AV.agg.injEq, AV.tup.injEq, CV.d.injEq, D.int.injEq, D.bool.injEq, D.str.injEq, D.sl.injEq, Ent.arr.injEq, Ent.box.injEq, true_and, and_true, and_self, nInt_eq, Int.natCast_zero, dLen_eL, sLen_eq])
    simp only [shapeOk, ← hs, iEq, Option.some.injEq]
end Go.H.S
namespace Go.H.S
open Go Go.Proofs Go.H
set_option linter.unusedSimpArgs false
set_option linter.unusedVariables false


theorem shape_leaf {ft : Int} : ∀ {l : List Nd} {i next m : Int}, shapeL ft l i next = some m → ∀ {j : Nat} {n : Nd}, l[j]? = some n → n.f = -1 → leafBad n = false
  | [], i, next, m, h, j, n, hj, hf => by simp at hj
  | x :: r, i, next, m, h, j, n, hj, hf => by
    simp only [shapeL] at h
    cases j with
    | zero =>
      simp at hj
      subst hj
      rw [if_pos hf] at h
      cases hb : leafBad x with
      | false => rfl
      | true => simp [hb] at h
    | succ j =>
      rw [List.getElem?_cons_succ] at hj
      split at h
      · split at h
        · cases h
        · exact shape_leaf h hj hf
      · split at h
        · cases h
        · exact shape_leaf h hj hf
theorem shape_inner {ft : Int} : ∀ {l : List Nd} {i next m : Int}, shapeL ft l i next = some m → ∀ {j : Nat} {n : Nd}, l[j]? = some n → n.f ≠ -1 → ∃ nx, next ≤ nx ∧ nx + 2 ≤ m ∧ innerBad n ft (i + j) nx = false
  | [], i, next, m, h, j, n, hj, hf => by simp at hj
  | x :: r, i, next, m, h, j, n, hj, hf => by
    have mono : ∀ {l : List Nd} {i a b : Int}, shapeL ft l i a = some b → a ≤ b := by
      intro l
      induction l with
      | nil => intro i a b h; simp [shapeL] at h; omega
      | cons y s ih =>
        intro i a b h
        simp only [shapeL] at h
        split at h
        · split at h
          · cases h
          · exact ih h
        · split at h
          · cases h
          · have := ih h; omega
    simp only [shapeL] at h
    cases j with
    | zero =>
      simp at hj
      subst hj
      rw [if_neg hf] at h
      cases hb : innerBad x ft i next with
      | false =>
        rw [hb] at h
        simp at h
        exact ⟨next, Int.le_refl _, mono h, by simpa using hb⟩
      | true => simp [hb] at h
    | succ j =>
      rw [List.getElem?_cons_succ] at hj
      split at h
      · split at h
        · cases h
        · obtain ⟨nx, h1, h2, h3⟩ := shape_inner h hj hf
          exact ⟨nx, h1, h2, by rw [show i + ((j + 1 : Nat) : Int) = i + 1 + j by omega]; exact h3⟩
      · split at h
        · cases h
        · obtain ⟨nx, h1, h2, h3⟩ := shape_inner h hj hf
          exact ⟨nx, by omega, h2, by rw [show i + ((j + 1 : Nat) : Int) = i + 1 + j by omega]; exact h3⟩
/-- An inner node of a right tree: its children lie behind it, within the tree. -/
theorem shape_kids {t : List Nd} {ft : Int} (h : shapeOk t ft = true) {j : Nat} {n : Nd} (hj : t[j]? = some n) (hf : n.f ≠ -1) :
    0 ≤ n.f ∧ n.f < ft ∧ n.v = 0 ∧ (j : Int) < n.l ∧ n.r = n.l + 1 ∧ n.r < t.length ∧ -2147483647 ≤ n.c ∧ n.c ≤ 2147483647 := by
  have hs : shapeL ft t 0 1 = some (t.length : Int) := by simpa [shapeOk] using h
  obtain ⟨nx, h1, h2, h3⟩ := shape_inner hs hj hf
  simp [innerBad] at h3
  omega
theorem shape_value {t : List Nd} {ft : Int} (h : shapeOk t ft = true) {j : Nat} {n : Nd} (hj : t[j]? = some n) (hf : n.f = -1) :
    -1099511627776 ≤ n.v ∧ n.v ≤ 1099511627776 := by
  have hs : shapeL ft t 0 1 = some (t.length : Int) := by simpa [shapeOk] using h
  have h3 := shape_leaf hs hj hf
  simp [leafBad] at h3
  omega
/-- Children come in order, each once. -/
theorem shape_order {ft : Int} : ∀ {l : List Nd} {i next m : Int}, shapeL ft l i next = some m → ∀ {j j' : Nat} {n n' : Nd}, l[j]? = some n → l[j']? = some n' → n.f ≠ -1 → n'.f ≠ -1 → j < j' → n.l + 2 ≤ n'.l
  | [], i, next, m, h, j, j', n, n', hj, hj', hf, hf', hlt => by simp at hj
  | x :: r, i, next, m, h, j, j', n, n', hj, hj', hf, hf', hlt => by
    obtain ⟨k, rfl⟩ : ∃ k, j' = k + 1 := ⟨j' - 1, by omega⟩
    rw [List.getElem?_cons_succ] at hj'
    simp only [shapeL] at h
    cases j with
    | zero =>
      simp at hj
      subst hj
      rw [if_neg hf] at h
      cases hb : innerBad x ft i next with
      | true => simp [hb] at h
      | false =>
        rw [hb] at h
        simp at h
        obtain ⟨nx, h1, h2, h3⟩ := shape_inner h hj' hf'
        simp [innerBad] at h3 hb
        omega
    | succ j =>
      rw [List.getElem?_cons_succ] at hj
      split at h
      · split at h
        · cases h
        · exact shape_order h hj hj' hf hf' (by omega)
      · split at h
        · cases h
        · exact shape_order h hj hj' hf hf' (by omega)
theorem shape_once {t : List Nd} {ft : Int} (h : shapeOk t ft = true) {j j' : Nat} {n n' : Nd} (hj : t[j]? = some n) (hj' : t[j']? = some n') (hf : n.f ≠ -1) (hf' : n'.f ≠ -1) {x : Int}
    (hx : n.l = x ∨ n.r = x) (hx' : n'.l = x ∨ n'.r = x) : j = j' := by
  have hs : shapeL ft t 0 1 = some (t.length : Int) := by simpa [shapeOk] using h
  have k1 := shape_kids h hj hf
  have k2 := shape_kids h hj' hf'
  rcases Nat.lt_trichotomy j j' with q | q | q
  · have := shape_order hs hj hj' hf hf' q
    omega
  · exact q
  · have := shape_order hs hj' hj hf' hf q
    omega
theorem idxL_at {α : Type} (p : α → Bool) : ∀ (l : List α) (k : Nat), 0 ≤ idxL p l k → ∃ (j : Nat) (x : α), idxL p l k = k + j ∧ l[j]? = some x ∧ p x = true
  | [], k, h => by simp [idxL] at h
  | x :: r, k, h => by
    simp only [idxL] at h ⊢
    split
    · exact ⟨0, x, by simp, rfl, by assumption⟩
    · rename_i hp
      rw [if_neg hp] at h
      obtain ⟨j, y, h1, h2, h3⟩ := idxL_at p r (k + 1) h
      exact ⟨j + 1, y, by rw [h1]; omega, by rw [List.getElem?_cons_succ]; exact h2, h3⟩
theorem idxL_ge {α : Type} (p : α → Bool) : ∀ (l : List α) (k : Nat) {j : Nat} {x : α}, l[j]? = some x → p x = true → 0 ≤ idxL p l k
  | [], k, j, x, h, hp => by simp at h
  | y :: r, k, j, x, h, hp => by
    simp only [idxL]
    split
    · omega
    · cases j with
      | zero => simp at h; subst h; contradiction
      | succ j => rw [List.getElem?_cons_succ] at h; exact idxL_ge p r (k + 1) h hp
/-- The parent, where there is one. -/
theorem up_at {t : List Nd} {ft : Int} (h : shapeOk t ft = true) {x : Int} (hx : 0 ≤ up t x) : ∃ (j : Nat) (n : Nd), up t x = j ∧ t[j]? = some n ∧ n.f ≠ -1 ∧ (n.l = x ∨ n.r = x) ∧ up t x < x := by
  obtain ⟨j, n, h1, h2, h3⟩ := idxL_at _ _ _ hx
  have h3' : n.f ≠ -1 ∧ (n.l = x ∨ n.r = x) := by simpa [pUp] using h3
  have hk := shape_kids h h2 h3'.1
  have hu : up t x = j := by unfold up; rw [h1]; simp
  exact ⟨j, n, hu, h2, h3'.1, h3'.2, by omega⟩
theorem up_kid {t : List Nd} {ft : Int} (h : shapeOk t ft = true) {j : Nat} {n : Nd} (hj : t[j]? = some n) (hf : n.f ≠ -1) {x : Int} (hx : n.l = x ∨ n.r = x) : up t x = j := by
  have h0 : 0 ≤ up t x := idxL_ge _ _ _ hj (by simp only [pUp, Bool.and_eq_true, Bool.or_eq_true, decide_eq_true_eq]; exact ⟨hf, hx⟩)
  obtain ⟨j', n', h1, h2, h3, h4, _⟩ := up_at h h0
  rw [h1, shape_once h h2 hj h3 hf h4 hx]
/-- z lies on the way from x to the root. -/
inductive Anc (t : List Nd) : Int → Int → Prop
  | refl (x : Int) : Anc t x x
  | up {z x : Int} : 0 ≤ up t x → Anc t z (up t x) → Anc t z x
theorem steps_anc {t : List Nd} {ft : Int} (h : shapeOk t ft = true) : ∀ (n : Nat) (x : Int), x < n → ∃ l, steps t (n + 1) x = some l ∧ ∀ z, z ∈ l ↔ Anc t z x := by
  intro n
  induction n with
  | zero =>
    intro x hx
    have hneg : up t x < 0 := by
      rcases Int.lt_or_le (up t x) 0 with q | q
      · exact q
      · obtain ⟨_, _, _, _, _, _, q2⟩ := up_at h q
        omega
    refine ⟨[x], by simp [steps, hneg], fun z => ?_⟩
    constructor
    · intro hz; simp at hz; subst hz; exact .refl _
    · intro hz
      cases hz with
      | refl => simp
      | up q _ => omega
  | succ n ih =>
    intro x hx
    rcases Int.lt_or_le (up t x) 0 with q | q
    · refine ⟨[x], by simp [steps, q], fun z => ?_⟩
      constructor
      · intro hz; simp at hz; subst hz; exact .refl _
      · intro hz
        cases hz with
        | refl => simp
        | up q' _ => omega
    · obtain ⟨_, _, _, _, _, _, q2⟩ := up_at h q
      obtain ⟨l, h1, h2⟩ := ih (up t x) (by omega)
      refine ⟨x :: l, ?_, fun z => ?_⟩
      · rw [steps, if_neg (by omega), h1]; rfl
      · rw [List.mem_cons, h2]
        constructor
        · rintro (rfl | hz)
          · exact .refl _
          · exact .up q hz
        · intro hz
          cases hz with
          | refl => exact .inl rfl
          | up _ hz => exact .inr hz
theorem Anc.trans {t : List Nd} {a b c : Int} (h1 : Anc t a b) (h2 : Anc t b c) : Anc t a c := by
  induction h2 with
  | refl => exact h1
  | up q _ ih => exact .up q ih
theorem anc_below {t : List Nd} {x y : Int} (h : Anc t x y) : x = y ∨ ∃ c, 0 ≤ up t c ∧ up t c = x ∧ Anc t c y := by
  induction h with
  | refl => exact .inl rfl
  | @up y q h ih =>
    rcases ih with e | ⟨c, h1, h2, h3⟩
    · exact .inr ⟨y, q, e.symm, .refl _⟩
    · exact .inr ⟨c, h1, h2, .up q h3⟩
theorem anc_kid {t : List Nd} {ft : Int} (h : shapeOk t ft = true) {j : Nat} {n : Nd} (hj : t[j]? = some n) (hf : n.f ≠ -1) {y : Int} (hy : y ≠ j) : Anc t j y ↔ Anc t n.l y ∨ Anc t n.r y := by
  constructor
  · intro ha
    rcases anc_below ha with e | ⟨c, h1, h2, h3⟩
    · exact absurd e.symm hy
    · obtain ⟨j', n', q1, q2, q3, q4, _⟩ := up_at h h1
      obtain rfl : j' = j := by omega
      rw [hj] at q2
      cases q2
      rcases q4 with rfl | rfl
      · exact .inl h3
      · exact .inr h3
  · have hl : Anc t j n.l := .up (by rw [up_kid h hj hf (.inl rfl)]; omega) (by rw [up_kid h hj hf (.inl rfl)]; exact .refl _)
    have hr : Anc t j n.r := .up (by rw [up_kid h hj hf (.inr rfl)]; omega) (by rw [up_kid h hj hf (.inr rfl)]; exact .refl _)
    rintro (ha | ha)
    · exact hl.trans ha
    · exact hr.trans ha
theorem way_anc {t : List Nd} {ft : Int} (h : shapeOk t ft = true) (hl : t.length ≤ 31) {x : Int} (hx : 0 ≤ x ∧ x < t.length) (z : Int) : z ∈ wayL t x ↔ Anc t z x := by
  obtain ⟨l, h1, h2⟩ := steps_anc h 31 x (by omega)
  unfold wayL
  rw [if_pos (by omega), h1]
  simp [h2]
end Go.H.S
namespace Go.H.S
open Go Go.Proofs Go.H
attribute [local irreducible] Tri FnSpec FnSpecM FnSpecX
set_option maxRecDepth 100000
set_option linter.unusedSimpArgs false
set_option linter.unusedVariables false


/-- On a way: node b lies above a, and asks the same of the feature as n again. -/
def badP (t : List Nd) (n : Nd) (b a : Int) : Bool :=
  match t[b.toNat]? with
  | some x => iEq x.f n.f && (iEq x.r a && iLe n.c x.c || iEq x.l a && iLe x.c n.c)
  | none => false
def chainBad (t : List Nd) (n : Nd) : List Int → Bool
  | a :: b :: r => badP t n b a || chainBad t n (b :: r)
  | _ => false
def nodeBad (t : List Nd) (k : Int) (n : Nd) : Bool :=
  match steps t 32 k with
  | some l => bAnd (bNot (iEq n.f (-1))) (chainBad t n l)
  | none => false
def waysBad (t : List Nd) : List Nd → Nat → Bool
  | [], _ => false
  | n :: r, k => nodeBad t k n || waysBad t r (k + 1)

set_option maxHeartbeats 1000000 in
theorem spec_l17Ways_spec (t : List Nd) (ft : Int) (h : shapeOk t ft = true) (hl : t.length ≤ 31) : FnSpec PR f_spec_l17Ways [aT t] (ab (!waysBad t t 0)) [] 0 := by
  refine FnSpec.intro hT p_spec_l17Ways rfl (by kernel_rfl) n_spec_l17Ways rfl ?_
  conv => whnf
  refine tri_loop hT [1, 3] (α := Nat) (fun x => { t := [(1, .c (.ptr 0 0)), (3, ai x)], h := [(0, .box t_impl_Tree (cTr t))], n := 1, N := 79 })
    (fun x => x ≤ t.length ∧ waysBad t (t.drop x) x = waysBad t t 0) (fun x => t.length - x) 0 (by ((conv => whnf); simp only [St.mk.injEq, List.cons.injEq, Prod.mk.injEq, AV.c.injEq, AV.agg.injEq, AV.tup.injEq, CV.d.injEq, D.int.injEq, D.bool.injEq, D.str.injEq, D.sl.injEq, Ent.arr.injEq, Ent.box.injEq, true_and, and_true, and_self, nInt_eq, Int.natCast_zero, dLen_eL, sLen_eq])) ⟨Nat.zero_le _, by simp⟩ ?_
  intro k ⟨hk, hw⟩
  (conv => whnf)
  refine ifB_i (fun h1 => ?_) (fun h1 => ?_) <;> (conv => whnf) <;> simp at h1
  · obtain ⟨n, hn⟩ := get_lt h1
    rw [drop_at hn, waysBad] at hw
    obtain ⟨l0, hl0, _⟩ := steps_anc h 31 k (by omega)
    have hnb : nodeBad t k n = bAnd (bNot (iEq n.f (-1))) (chainBad t n l0) := by unfold nodeBad; rw [hl0]
    rw [hnb] at hw
    refine idx_at (by simp) hn ?_
    (conv => whnf)
    refine .inl ⟨_, _, _, spec_l17Inner_spec n, rfl, ?_⟩
    (conv => whnf)
    generalize hb : iEq n.f (-1) = b at hw
    cases b <;> (conv => whnf)
    · refine .inl ⟨_, _, _, spec_l17Up_spec t k (by omega), rfl, ?_⟩
      (conv => whnf)
      refine tri_loop hT [1, 3, 4, 5] (α := Int × Nat × List Int) (fun x => { t := [(1, .c (.ptr 0 0)), (3, ai k), (4, ai x.1), (5, ai (up t x.1))], h := [(0, .box t_impl_Tree (cTr t))], n := 1, N := 79 })
        (fun x => 0 ≤ x.1 ∧ x.1 < t.length ∧ steps t (x.2.1 + 1) x.1 = some x.2.2 ∧ chainBad t n x.2.2 = chainBad t n l0) (fun x => x.2.1) (k, 31, l0) (by (conv => whnf)) ⟨by simp, by simpa using h1, hl0, rfl⟩ ?_
      intro ⟨fr, j, l⟩ ⟨g0, g1, g2, g3⟩
      dsimp only at g0 g1 g2 g3
      (conv => whnf)
      refine ifB_i (fun h2 => ?_) (fun h2 => ?_) <;> (conv => whnf) <;> simp only [nInt_eq, Int.natCast_zero, dLen_eL, sLen_eq, nOf_eq, Int.toNat_natCast, nAdd_eq, nSub_eq, dLen_nil, dLen_cons, iLt_t, iLt_f, iLe_t, iLe_f, iEq_t, iEq_f, sEq_t, sEq_f, bNot_t, bNot_f, bAnd_t, bEq_t, bEq_f, Bool.not_eq_true, Bool.not_eq_false, Bool.true_eq_false, Bool.false_eq_true] at h2
      · generalize hup : up t fr = at' at *
        obtain ⟨m, rfl⟩ : ∃ m : Nat, at' = m := ⟨at'.toNat, by omega⟩
        have hmlt := up_lt t fr
        rw [hup] at hmlt
        obtain ⟨x, hx⟩ := get_lt (show m < t.length by omega)
        rw [steps, hup, if_neg (by omega)] at g2
        simp only [Option.map_eq_some_iff] at g2
        obtain ⟨l', g2, rfl⟩ := g2
        cases j with
        | zero => simp [steps] at g2
        | succ j =>
        have hl2 : ∃ l2, l' = (m : Int) :: l2 := by
          rw [steps] at g2
          simp only [Option.map_eq_some_iff] at g2
          obtain ⟨l2, _, rfl⟩ := g2
          exact ⟨l2, rfl⟩
        obtain ⟨l2, rfl⟩ := hl2
        have hcb : chainBad t n (fr :: (m : Int) :: l2) = (badP t n m fr || chainBad t n ((m : Int) :: l2)) := rfl
        rw [hcb] at g3
        refine idx_at (by simp) hx ?_
        (conv => whnf)
        refine tri_conf hT hmix (by kernel_rfl) ?_
        (conv => whnf)
        refine idx_at (by simp) hn ?_
        (conv => whnf)
        have hin : ∀ v0, x.f = n.f ∧ (x.r = fr ∧ n.c ≤ x.c ∨ x.l = fr ∧ x.c ≤ n.c) ∧ v0 = true ∨ ¬ (x.f = n.f ∧ (x.r = fr ∧ n.c ≤ x.c ∨ x.l = fr ∧ x.c ≤ n.c)) ∧ v0 = false → badP t n m fr = v0 := by
          intro v0 hv
          have hb : badP t n m fr = (iEq x.f n.f && (iEq x.r fr && iLe n.c x.c || iEq x.l fr && iLe x.c n.c)) := by simp [badP, hx]
          rw [hb, Bool.eq_iff_iff]
          simp only [Bool.and_eq_true, Bool.or_eq_true, iEq, iLe, decide_eq_true_eq]
          rcases hv with ⟨h1, h2, rfl⟩ | ⟨h1, rfl⟩
          · simp [h1, h2]
          · simp only [Bool.false_eq_true, iff_false]; exact h1
        generalize e1 : iEq x.f n.f = c1
        generalize e2 : iEq x.r fr = c2
        generalize e3 : iEq x.l fr = c3
        generalize e4 : iLe n.c x.c = c4
        generalize e5 : iLe x.c n.c = c5
        cases c1
        · repeat' (first | (refine And.intro (fun q => ?_) (fun q => ?_) <;> cases q <;> (conv => whnf)) | (refine idx_at (by simp) hn ?_; (conv => whnf)) | fail)
          refine .inl ⟨_, _, _, spec_l17Up_spec t m (by omega), rfl, ?_⟩
          (conv => whnf)
          have hbp := hin false (.inr ⟨by simp_all [iEq, iLe], rfl⟩)
          rw [hbp] at g3
          refine ⟨(m, j, (m : Int) :: l2), by dsimp only; omega, ⟨by dsimp only; omega, by dsimp only; omega, g2, g3⟩, ?_⟩
          (conv => whnf)
        · repeat' (first | (refine And.intro (fun q => ?_) (fun q => ?_) <;> cases q <;> (conv => whnf)) | (refine idx_at (by simp) hn ?_; (conv => whnf)) | fail)
          rw [e2]
          cases c2
          · repeat' (first | (refine And.intro (fun q => ?_) (fun q => ?_) <;> cases q <;> (conv => whnf)) | (refine idx_at (by simp) hn ?_; (conv => whnf)) | fail)
            rw [e3]
            cases c3
            · repeat' (first | (refine And.intro (fun q => ?_) (fun q => ?_) <;> cases q <;> (conv => whnf)) | (refine idx_at (by simp) hn ?_; (conv => whnf)) | fail)
              refine .inl ⟨_, _, _, spec_l17Up_spec t m (by omega), rfl, ?_⟩
              (conv => whnf)
              have hbp := hin false (.inr ⟨by simp_all [iEq, iLe], rfl⟩)
              rw [hbp] at g3
              refine ⟨(m, j, (m : Int) :: l2), by dsimp only; omega, ⟨by dsimp only; omega, by dsimp only; omega, g2, g3⟩, ?_⟩
              (conv => whnf)
            · repeat' (first | (refine And.intro (fun q => ?_) (fun q => ?_) <;> cases q <;> (conv => whnf)) | (refine idx_at (by simp) hn ?_; (conv => whnf)) | fail)
              rw [e5]
              cases c5
              · repeat' (first | (refine And.intro (fun q => ?_) (fun q => ?_) <;> cases q <;> (conv => whnf)) | (refine idx_at (by simp) hn ?_; (conv => whnf)) | fail)
                refine .inl ⟨_, _, _, spec_l17Up_spec t m (by omega), rfl, ?_⟩
                (conv => whnf)
                have hbp := hin false (.inr ⟨by simp_all [iEq, iLe], rfl⟩)
                rw [hbp] at g3
                refine ⟨(m, j, (m : Int) :: l2), by dsimp only; omega, ⟨by dsimp only; omega, by dsimp only; omega, g2, g3⟩, ?_⟩
                (conv => whnf)
              · repeat' (first | (refine And.intro (fun q => ?_) (fun q => ?_) <;> cases q <;> (conv => whnf)) | (refine idx_at (by simp) hn ?_; (conv => whnf)) | fail)
                have hbp := hin true (.inl ⟨by simp_all [iEq, iLe], by simp_all [iEq, iLe], rfl⟩)
                rw [hbp] at g3
                rw [← g3] at hw
                (try (conv => whnf))
                rw [← hw]
                
                rfl
          · repeat' (first | (refine And.intro (fun q => ?_) (fun q => ?_) <;> cases q <;> (conv => whnf)) | (refine idx_at (by simp) hn ?_; (conv => whnf)) | fail)
            rw [e4]
            cases c4
            · repeat' (first | (refine And.intro (fun q => ?_) (fun q => ?_) <;> cases q <;> (conv => whnf)) | (refine idx_at (by simp) hn ?_; (conv => whnf)) | fail)
              rw [e3]
              cases c3
              · repeat' (first | (refine And.intro (fun q => ?_) (fun q => ?_) <;> cases q <;> (conv => whnf)) | (refine idx_at (by simp) hn ?_; (conv => whnf)) | fail)
                refine .inl ⟨_, _, _, spec_l17Up_spec t m (by omega), rfl, ?_⟩
                (conv => whnf)
                have hbp := hin false (.inr ⟨by simp_all [iEq, iLe], rfl⟩)
                rw [hbp] at g3
                refine ⟨(m, j, (m : Int) :: l2), by dsimp only; omega, ⟨by dsimp only; omega, by dsimp only; omega, g2, g3⟩, ?_⟩
                (conv => whnf)
              · repeat' (first | (refine And.intro (fun q => ?_) (fun q => ?_) <;> cases q <;> (conv => whnf)) | (refine idx_at (by simp) hn ?_; (conv => whnf)) | fail)
                rw [e5]
                cases c5
                · repeat' (first | (refine And.intro (fun q => ?_) (fun q => ?_) <;> cases q <;> (conv => whnf)) | (refine idx_at (by simp) hn ?_; (conv => whnf)) | fail)
                  refine .inl ⟨_, _, _, spec_l17Up_spec t m (by omega), rfl, ?_⟩
                  (conv => whnf)
                  have hbp := hin false (.inr ⟨by simp_all [iEq, iLe], rfl⟩)
                  rw [hbp] at g3
                  refine ⟨(m, j, (m : Int) :: l2), by dsimp only; omega, ⟨by dsimp only; omega, by dsimp only; omega, g2, g3⟩, ?_⟩
                  (conv => whnf)
                · repeat' (first | (refine And.intro (fun q => ?_) (fun q => ?_) <;> cases q <;> (conv => whnf)) | (refine idx_at (by simp) hn ?_; (conv => whnf)) | fail)
                  have hbp := hin true (.inl ⟨by simp_all [iEq, iLe], by simp_all [iEq, iLe], rfl⟩)
                  rw [hbp] at g3
                  rw [← g3] at hw
                  (try (conv => whnf))
                  rw [← hw]
                  
                  rfl
            · repeat' (first | (refine And.intro (fun q => ?_) (fun q => ?_) <;> cases q <;> (conv => whnf)) | (refine idx_at (by simp) hn ?_; (conv => whnf)) | fail)
              have hbp := hin true (.inl ⟨by simp_all [iEq, iLe], by simp_all [iEq, iLe], rfl⟩)
              rw [hbp] at g3
              rw [← g3] at hw
              (try (conv => whnf))
              rw [← hw]
              
              rfl
      · have hl : l = [fr] := by
          rw [steps, if_pos h2] at g2
          simpa using g2.symm
        rw [hl] at g3
        rw [← g3] at hw
        refine ⟨k + 1, by omega, ⟨h1, hw⟩, ?_⟩
        ((conv => whnf); simp only [St.mk.injEq, List.cons.injEq, Prod.mk.injEq, AV.c.injEq, AV.agg.injEq, AV.tup.injEq, CV.d.injEq, D.int.injEq, D.bool.injEq, D.str.injEq, D.sl.injEq, Ent.arr.injEq, Ent.box.injEq, true_and, and_true, and_self, nInt_eq, Int.natCast_zero, dLen_eL, sLen_eq, wI h1 (by omega)])
    · refine ⟨k + 1, by omega, ⟨h1, hw⟩, ?_⟩
      ((conv => whnf); simp only [St.mk.injEq, List.cons.injEq, Prod.mk.injEq, AV.c.injEq, AV.agg.injEq, AV.tup.injEq, CV.d.injEq, D.int.injEq, D.bool.injEq, D.str.injEq, D.sl.injEq, Ent.arr.injEq, Ent.box.injEq, true_and, and_true, and_self, nInt_eq, Int.natCast_zero, dLen_eL, sLen_eq, wI h1 (by omega)])
  · obtain rfl : k = t.length := by omega
    simp only [List.drop_length, waysBad] at hw
    (conv => whnf)
    rw [← hw]
    rfl


def treeOk (t : List Nd) (ft : Int) : Bool :=
  decide (1 ≤ (t.length : Int) ∧ (t.length : Int) ≤ 31) && (decide (0 ≤ ft ∧ ft ≤ 4) && (shapeOk t ft && (decide (depthK t t.length ≤ 4) && !waysBad t t 0)))

theorem spec_TreeOk_spec (t : List Nd) (ft : Int) (hl : t.length ≤ 1048576) : FnSpec PR f_spec_TreeOk [aT t, ai ft] (ab (treeOk t ft)) [] 0 := by
  refine FnSpec.intro hT p_spec_TreeOk rfl (by kernel_rfl) n_spec_TreeOk rfl ?_
  conv => whnf
  refine .inl ⟨_, _, _, spec_l1In_spec _ _ _, rfl, ?_⟩
  (conv => whnf)
  refine ifB_i (fun h1 => ?_) (fun h1 => ?_) <;> (conv => whnf) <;> simp only [nInt_eq, Int.natCast_zero, dLen_eL, sLen_eq, nOf_eq, Int.toNat_natCast, nAdd_eq, nSub_eq, dLen_nil, dLen_cons, iLt_t, iLt_f, iLe_t, iLe_f, iEq_t, iEq_f, sEq_t, sEq_f, bNot_t, bNot_f, bAnd_t, bEq_t, bEq_f, Bool.not_eq_true, Bool.not_eq_false, Bool.true_eq_false, Bool.false_eq_true] at h1
  rotate_left
  · simp [treeOk, h1]
  refine .inl ⟨_, _, _, spec_l1In_spec _ _ _, rfl, ?_⟩
  (conv => whnf)
  refine ifB_i (fun h2 => ?_) (fun h2 => ?_) <;> (conv => whnf)
  rotate_left
  · simp [treeOk, h2]
  have h1' := of_decide_eq_true h1
  have h2' := of_decide_eq_true h2
  refine .inl ⟨_, _, _, spec_l17Shape_spec t ft h2' (by omega), rfl, ?_⟩
  (conv => whnf)
  refine ifB_i (fun h3 => ?_) (fun h3 => ?_) <;> (conv => whnf)
  rotate_left
  · simp [treeOk, h3]
  refine .inl ⟨_, _, _, spec_DepthOf_spec t (by omega), rfl, ?_⟩
  (conv => whnf)
  refine ifB_i (fun h4 => ?_) (fun h4 => ?_) <;> (conv => whnf) <;> simp only [nInt_eq, Int.natCast_zero, dLen_eL, sLen_eq, nOf_eq, Int.toNat_natCast, nAdd_eq, nSub_eq, dLen_nil, dLen_cons, iLt_t, iLt_f, iLe_t, iLe_f, iEq_t, iEq_f, sEq_t, sEq_f, bNot_t, bNot_f, bAnd_t, bEq_t, bEq_f, Bool.not_eq_true, Bool.not_eq_false, Bool.true_eq_false, Bool.false_eq_true] at h4
  rotate_left
  · have : ¬ depthK t t.length ≤ 4 := by omega
    simp [treeOk, this]
  refine .inl ⟨_, _, _, spec_l17Ways_spec t ft h3 (by omega), rfl, ?_⟩
  (conv => whnf)
  simp [treeOk, h1, h2, h3, h4]
end Go.H.S
namespace Go.H.S
open Go Go.Proofs Go.H
attribute [local irreducible] Tri FnSpec FnSpecM FnSpecX
set_option maxRecDepth 100000
set_option linter.unusedSimpArgs false
set_option linter.unusedVariables false


theorem impl_isDecimal_spec (x : Int) : FnSpec PR f_impl_isDecimal [ai x] (ab (decide (-2147483647 ≤ x ∧ x ≤ 2147483647))) [] 0 := by
  refine FnSpec.intro hT p_impl_isDecimal rfl (by kernel_rfl) n_impl_isDecimal rfl ?_
  conv => whnf
  refine .inl ⟨_, _, _, impl_within_spec _ _ _, rfl, ?_⟩
  (conv => whnf)

theorem impl_isLeafValue_spec (x : Int) : FnSpec PR f_impl_isLeafValue [ai x] (ab (decide (-1099511627776 ≤ x ∧ x ≤ 1099511627776))) [] 0 := by
  refine FnSpec.intro hT p_impl_isLeafValue rfl (by kernel_rfl) n_impl_isLeafValue rfl ?_
  conv => whnf
  refine .inl ⟨_, _, _, impl_within_spec _ _ _, rfl, ?_⟩
  (conv => whnf)

theorem impl_LevelOf_spec (t : List Nd) (node : Int) (hl : t.length ≤ 9223372036854775807) : FnSpec PR f_impl_LevelOf [aT t, ai node] (ai ((wayL t node).length - 1)) [] 0 := by
  have hw := wayL_len t node
  refine FnSpec.intro hT p_impl_LevelOf rfl (by kernel_rfl) n_impl_LevelOf rfl ?_
  conv => whnf
  refine .inl ⟨_, _, _, impl_wayTo_spec t node hl, rfl, ?_⟩
  ((conv => whnf); simp only [St.mk.injEq, List.cons.injEq, Prod.mk.injEq, AV.c.injEq, AV.agg.injEq, AV.tup.injEq, CV.d.injEq, D.int.injEq, D.bool.injEq, D.str.injEq, D.sl.injEq, Ent.arr.injEq, Ent.box.injEq, true_and, and_true, and_self, nInt_eq, Int.natCast_zero, dLen_eL, sLen_eq, lenRE_none])
  exact wSub64 (by omega) (by omega)

theorem impl_shapeOk_spec (t : List Nd) (ft : Int) (hft : 0 ≤ ft ∧ ft ≤ 4) (hl : t.length ≤ 1048576) : FnSpec PR f_impl_shapeOk [aT t, ai ft] (ab (shapeOk t ft)) [] 0 := by
  refine FnSpec.intro hT p_impl_shapeOk rfl (by kernel_rfl) n_impl_shapeOk rfl ?_
  conv => whnf
  refine tri_loop hT [1, 2, 5, 9, 10, 11] (α := Nat × Nat) (fun x => { t := [(1, ai ft), (2, .c (.ptr 0 0)), (5, ai x.2), (9, aNs t), (10, ai t.length), (11, ai x.1)], h := [(0, .box t_impl_Tree (cTr t))], n := 1, N := 72 })
    (fun x => x.1 ≤ t.length ∧ x.2 ≤ 2 * x.1 + 1 ∧ shapeL ft (t.drop x.1) x.1 x.2 = shapeL ft t 0 1) (fun x => t.length - x.1) (0, 1) (by ((conv => whnf); simp only [St.mk.injEq, List.cons.injEq, Prod.mk.injEq, AV.c.injEq, AV.agg.injEq, AV.tup.injEq, CV.d.injEq, D.int.injEq, D.bool.injEq, D.str.injEq, D.sl.injEq, Ent.arr.injEq, Ent.box.injEq, true_and, and_true, and_self, nInt_eq, Int.natCast_zero, dLen_eL, sLen_eq]); rfl) ⟨Nat.zero_le _, by simp, by simp⟩ ?_
  intro ⟨k, nx⟩ ⟨hk, hx, hs⟩
  dsimp only at hk hx hs
  (conv => whnf)
  refine ifB_i (fun h1 => ?_) (fun h1 => ?_) <;> (conv => whnf) <;> simp at h1
  · obtain ⟨n, hn⟩ := get_lt h1
    rw [drop_at hn, shapeL] at hs
    refine idx_at (by simp) hn ?_
    (conv => whnf)
    refine .inl ⟨_, _, _, impl_isLeaf_spec n, rfl, ?_⟩
    (conv => whnf)
    refine ifB_i (fun h2 => ?_) (fun h2 => ?_) <;> (conv => whnf) <;> simp only [nInt_eq, Int.natCast_zero, dLen_eL, sLen_eq, nOf_eq, Int.toNat_natCast, nAdd_eq, nSub_eq, dLen_nil, dLen_cons, iLt_t, iLt_f, iLe_t, iLe_f, iEq_t, iEq_f, sEq_t, sEq_f, bNot_t, bNot_f, bAnd_t, bEq_t, bEq_f, Bool.not_eq_true, Bool.not_eq_false, Bool.true_eq_false, Bool.false_eq_true] at h2
    · rw [if_pos h2] at hs
      generalize hb : bNot (bAnd (iEq n.f (-1)) (bAnd (iEq n.c 0) (bAnd (iEq n.l 0) (bAnd (iEq n.r 0) (bAnd (iEq n.v n.v) true))))) = b
      cases b <;> (conv => whnf)
      · refine .inl ⟨_, _, _, impl_isLeafValue_spec n.v, rfl, ?_⟩
        (conv => whnf)
        generalize hb2 : decide (-1099511627776 ≤ n.v ∧ n.v ≤ 1099511627776) = b2
        cases b2 <;> (conv => whnf)
        · have hlb : leafBad n = true := by simp [leafBad, hb2]
          rw [if_pos hlb] at hs
          rw [shape_bad hs]
        · have hlb : leafBad n = false := by
            obtain ⟨f, c, l, r, v⟩ := n
            simp only [leafBad, hb2]
            simp_all [bNot, bAnd, iEq]
          rw [hlb] at hs
          refine ⟨(k + 1, nx), by dsimp only; omega, ⟨h1, by dsimp only; omega, by simpa using hs⟩, ?_⟩
          ((conv => whnf); simp only [St.mk.injEq, List.cons.injEq, Prod.mk.injEq, AV.c.injEq, AV.agg.injEq, AV.tup.injEq, CV.d.injEq, D.int.injEq, D.bool.injEq, D.str.injEq, D.sl.injEq, Ent.arr.injEq, Ent.box.injEq, true_and, and_true, and_self, nInt_eq, Int.natCast_zero, dLen_eL, sLen_eq, wI h1 (by omega)])
      · have hlb : leafBad n = true := by
          obtain ⟨f, c, l, r, v⟩ := n
          simp only [leafBad]
          simp_all [bNot, bAnd, iEq]
        rw [if_pos hlb] at hs
        rw [shape_bad hs]
    · rw [if_neg h2] at hs
      refine .inl ⟨_, _, _, impl_within_spec _ _ _, rfl, ?_⟩
      rw [show wSub .i64 ft 1 = ft - 1 from wSub64 (by omega) (by omega)]
      (conv => whnf)
      generalize hb1 : decide (0 ≤ n.f ∧ n.f ≤ ft - 1) = b1
      cases b1 <;> (conv => whnf)
      · have hib : innerBad n ft k nx = true := by
          have : ¬ (0 ≤ n.f ∧ n.f ≤ ft - 1) := by simpa using hb1
          simp [innerBad, this]
        rw [if_pos hib] at hs
        rw [shape_bad hs]
      · refine .inl ⟨_, _, _, impl_isDecimal_spec _, rfl, ?_⟩
        (conv => whnf)
        generalize hb2 : decide (-2147483647 ≤ n.c ∧ n.c ≤ 2147483647) = b2
        cases b2 <;> (conv => whnf)
        · have hib : innerBad n ft k nx = true := by
            have : ¬ (-2147483647 ≤ n.c ∧ n.c ≤ 2147483647) := by simpa using hb2
            simp [innerBad, this]
          rw [if_pos hib] at hs
          rw [shape_bad hs]
        · generalize hb3 : iEq n.v 0 = b3
          cases b3 <;> (conv => whnf)
          · have hib : innerBad n ft k nx = true := by
              have : ¬ n.v = 0 := by simpa [iEq] using hb3
              simp [innerBad, this]
            rw [if_pos hib] at hs
            rw [shape_bad hs]
          generalize hb4 : iEq n.l (nx : Int) = b4
          cases b4 <;> (conv => whnf)
          · have hib : innerBad n ft k nx = true := by
              have : ¬ n.l = nx := by simpa [iEq] using hb4
              simp [innerBad, this]
            rw [if_pos hib] at hs
            rw [shape_bad hs]
          rw [show wAdd .i64 (nx : Int) 1 = nx + 1 from wAdd64 (by omega) (by omega)]
          generalize hb5 : iEq n.r ((nx : Int) + 1) = b5
          cases b5 <;> (conv => whnf)
          · have hib : innerBad n ft k nx = true := by
              have : ¬ n.r = nx + 1 := by simpa [iEq] using hb5
              simp [innerBad, this]
            rw [if_pos hib] at hs
            rw [shape_bad hs]
          have q4 : n.l = nx := by simpa [iEq] using hb4
          generalize hb6 : iLe (nx : Int) ((k, nx).fst : Int) = b6
          dsimp only at hb6
          cases b6 <;> (conv => whnf)
          rotate_left
          · have hib : innerBad n ft k nx = true := by
              have : (nx : Int) ≤ k := by simpa [iLe] using hb6
              simp [innerBad, q4]
              omega
            rw [if_pos hib] at hs
            rw [shape_bad hs]
          have hib : innerBad n ft k nx = false := by
            have q3 : n.v = 0 := by simpa [iEq] using hb3
            have q5 : n.r = nx + 1 := by simpa [iEq] using hb5
            have q6 : ¬ (nx : Int) ≤ k := by simpa [iLe] using hb6
            have q1 : 0 ≤ n.f ∧ n.f ≤ ft - 1 := by simpa using hb1
            have q2 : -2147483647 ≤ n.c ∧ n.c ≤ 2147483647 := by simpa using hb2
            simp [innerBad, q1, q2, q3, q4, q5]
            omega
          rw [hib] at hs
          refine ⟨(k + 1, nx + 2), by dsimp only; omega, ⟨h1, by dsimp only; omega, by simpa using hs⟩, ?_⟩
          ((conv => whnf); simp only [St.mk.injEq, List.cons.injEq, Prod.mk.injEq, AV.c.injEq, AV.agg.injEq, AV.tup.injEq, CV.d.injEq, D.int.injEq, D.bool.injEq, D.str.injEq, D.sl.injEq, Ent.arr.injEq, Ent.box.injEq, true_and, and_true, and_self, nInt_eq, Int.natCast_zero, dLen_eL, sLen_eq, wI h1 (by omega), wAdd64 (show -9223372036854775808 ≤ (nx : Int) + 2 by omega) (by omega), Int.natCast_add, Int.cast_ofNat_Int])
  · obtain rfl : k = t.length := by omega
    simp only [List.drop_length, shapeL] at hs
    ((conv => whnf); simp only [St.mk.injEq, List.cons.injEq, Prod.mk.injEq, AV.c.injEq, AV.agg.injEq, AV.tup.injEq, CV.d.injEq, D.int.injEq, D.bool.injEq, D.str.injEq, D.sl.injEq, Ent.arr.injEq, Ent.box.injEq, true_and, and_true, and_self, nInt_eq, Int.natCast_zero, dLen_eL, sLen_eq])
    simp only [shapeOk, ← hs, iEq, Option.some.injEq]

def wayBad (t : List Nd) (n : Nd) : List Int → Bool
  | a :: b :: r => badP t n a b || wayBad t n (b :: r)
  | _ => false
def implBad (t : List Nd) (k : Int) (n : Nd) : Bool :=
  if n.f = -1 then decide (4 < ((wayL t k).length : Int) - 1) else wayBad t n (wayL t k)
def implBads (t : List Nd) : List Nd → Nat → Bool
  | [], _ => false
  | n :: r, k => implBad t k n || implBads t r (k + 1)

def treeOkI (t : List Nd) (ft : Int) : Bool :=
  decide (1 ≤ (t.length : Int) ∧ (t.length : Int) ≤ 31) && (decide (0 ≤ ft ∧ ft ≤ 4) && (shapeOk t ft && !implBads t t 0))
set_option maxHeartbeats 1000000 in
theorem impl_TreeOk_one (t : List Nd) (ft : Int) (hl : t.length ≤ 1048576) : FnSpec PR f_impl_TreeOk [aT t, ai ft] (ab (treeOkI t ft)) [] 0 := by
  refine FnSpec.intro hT p_impl_TreeOk rfl (by kernel_rfl) n_impl_TreeOk rfl ?_
  conv => whnf
  refine .inl ⟨_, _, _, impl_within_spec _ _ _, rfl, ?_⟩
  (conv => whnf)
  refine ifB_i (fun h2 => ?_) (fun h2 => ?_) <;> (conv => whnf) <;> simp only [nInt_eq, Int.natCast_zero, dLen_eL, sLen_eq, nOf_eq, Int.toNat_natCast, nAdd_eq, nSub_eq, dLen_nil, dLen_cons, iLt_t, iLt_f, iLe_t, iLe_f, iEq_t, iEq_f, sEq_t, sEq_f, bNot_t, bNot_f, bAnd_t, bEq_t, bEq_f, Bool.not_eq_true, Bool.not_eq_false, Bool.true_eq_false, Bool.false_eq_true] at h2
  · have : decide (0 ≤ ft ∧ ft ≤ 4) = false := by simpa using h2
    simp [treeOkI, this]
  refine .inl ⟨_, _, _, impl_within_spec _ _ _, rfl, ?_⟩
  (conv => whnf)
  refine ifB_i (fun h1 => ?_) (fun h1 => ?_) <;> (conv => whnf) <;> simp only [nInt_eq, Int.natCast_zero, dLen_eL, sLen_eq, nOf_eq, Int.toNat_natCast, nAdd_eq, nSub_eq, dLen_nil, dLen_cons, iLt_t, iLt_f, iLe_t, iLe_f, iEq_t, iEq_f, sEq_t, sEq_f, bNot_t, bNot_f, bAnd_t, bEq_t, bEq_f, Bool.not_eq_true, Bool.not_eq_false, Bool.true_eq_false, Bool.false_eq_true] at h1
  · simp [treeOkI, h1]
  have h1' := of_decide_eq_true h1
  have h2' := of_decide_eq_true h2
  refine .inl ⟨_, _, _, impl_shapeOk_spec t ft h2' (by omega), rfl, ?_⟩
  (conv => whnf)
  refine ifB_i (fun h3 => ?_) (fun h3 => ?_) <;> (conv => whnf) <;> simp only [nInt_eq, Int.natCast_zero, dLen_eL, sLen_eq, nOf_eq, Int.toNat_natCast, nAdd_eq, nSub_eq, dLen_nil, dLen_cons, iLt_t, iLt_f, iLe_t, iLe_f, iEq_t, iEq_f, sEq_t, sEq_f, bNot_t, bNot_f, bAnd_t, bEq_t, bEq_f, Bool.not_eq_true, Bool.not_eq_false, Bool.true_eq_false, Bool.false_eq_true] at h3
  · simp [treeOkI, h3]
  have hto : treeOkI t ft = !implBads t t 0 := by simp [treeOkI, h1, h2, h3]
  rw [hto]
  refine tri_loop hT [2, 28, 29, 30] (α := Nat) (fun x => { t := [(2, .c (.ptr 0 0)), (28, aNs t), (29, ai t.length), (30, ai x)], h := [(0, .box t_impl_Tree (cTr t))], n := 1, N := 99 })
    (fun x => x ≤ t.length ∧ implBads t (t.drop x) x = implBads t t 0) (fun x => t.length - x) 0 (by ((conv => whnf); simp only [St.mk.injEq, List.cons.injEq, Prod.mk.injEq, AV.c.injEq, AV.agg.injEq, AV.tup.injEq, CV.d.injEq, D.int.injEq, D.bool.injEq, D.str.injEq, D.sl.injEq, Ent.arr.injEq, Ent.box.injEq, true_and, and_true, and_self, nInt_eq, Int.natCast_zero, dLen_eL, sLen_eq])) ⟨Nat.zero_le _, by simp⟩ ?_
  intro k ⟨hk, hw⟩
  (conv => whnf)
  refine ifB_i (fun h4 => ?_) (fun h4 => ?_) <;> (conv => whnf) <;> simp at h4
  · obtain ⟨n, hn⟩ := get_lt h4
    rw [drop_at hn, implBads] at hw
    refine idx_at (by simp) hn ?_
    (conv => whnf)
    refine .inl ⟨_, _, _, impl_isLeaf_spec n, rfl, ?_⟩
    (conv => whnf)
    refine ifB_i (fun h5 => ?_) (fun h5 => ?_) <;> (conv => whnf) <;> simp only [nInt_eq, Int.natCast_zero, dLen_eL, sLen_eq, nOf_eq, Int.toNat_natCast, nAdd_eq, nSub_eq, dLen_nil, dLen_cons, iLt_t, iLt_f, iLe_t, iLe_f, iEq_t, iEq_f, sEq_t, sEq_f, bNot_t, bNot_f, bAnd_t, bEq_t, bEq_f, Bool.not_eq_true, Bool.not_eq_false, Bool.true_eq_false, Bool.false_eq_true] at h5
    · refine .inl ⟨_, _, _, impl_LevelOf_spec t k (by omega), rfl, ?_⟩
      (conv => whnf)
      refine ifB_i (fun h6 => ?_) (fun h6 => ?_) <;> (conv => whnf) <;> simp only [nInt_eq, Int.natCast_zero, dLen_eL, sLen_eq, nOf_eq, Int.toNat_natCast, nAdd_eq, nSub_eq, dLen_nil, dLen_cons, iLt_t, iLt_f, iLe_t, iLe_f, iEq_t, iEq_f, sEq_t, sEq_f, bNot_t, bNot_f, bAnd_t, bEq_t, bEq_f, Bool.not_eq_true, Bool.not_eq_false, Bool.true_eq_false, Bool.false_eq_true] at h6
      · have : implBad t k n = true := by simp only [implBad, if_pos h5]; exact decide_eq_true h6
        rw [← hw, this]
        rfl
      · have : implBad t k n = false := by simp only [implBad, if_pos h5]; exact decide_eq_false (by omega)
        rw [this, Bool.false_or] at hw
        refine ⟨k + 1, by omega, ⟨h4, hw⟩, ?_⟩
        ((conv => whnf); simp only [St.mk.injEq, List.cons.injEq, Prod.mk.injEq, AV.c.injEq, AV.agg.injEq, AV.tup.injEq, CV.d.injEq, D.int.injEq, D.bool.injEq, D.str.injEq, D.sl.injEq, Ent.arr.injEq, Ent.box.injEq, true_and, and_true, and_self, nInt_eq, Int.natCast_zero, dLen_eL, sLen_eq, wI h4 (by omega)])
    · have hib : implBad t k n = wayBad t n (wayL t k) := by simp only [implBad, if_neg h5]
      rw [hib] at hw
      obtain ⟨l0, hl0, _⟩ := steps_anc h3 31 k (by omega)
      have hway : wayL t k = l0.reverse := by unfold wayL; rw [if_pos (by omega), hl0]
      have hlen : 1 ≤ (wayL t k).length := by
        rw [hway, steps] at *
        simp only [Option.map_eq_some_iff] at hl0
        obtain ⟨r, _, rfl⟩ := hl0
        simp
      have hlt : ∀ y ∈ wayL t k, 0 ≤ y ∧ y < t.length := fun y hy => steps_lt t 32 k l0 (by omega) hl0 y (by rw [hway] at hy; simpa using hy)
      refine .inl ⟨_, _, _, impl_wayTo_spec t k (by omega), rfl, ?_⟩
      generalize wayL t k = w at *
      (conv => whnf)
      have hwl : w.length ≤ 32 := by rw [hway]; have := steps_len t 32 k l0 hl0; simpa using this
      obtain ⟨m, hm⟩ : ∃ m, w.length = m + 1 := ⟨w.length - 1, by omega⟩
      have e1 : wSub .i64 (nInt (lenRE (eL cI w) none)) 1 = (m : Int) := by
        rw [wSub64] <;> simp <;> omega
      rw [e1]
      refine ⟨by simp [InS]; omega, ?_⟩
      (conv => whnf)
      refine tri_loop hT [2, 6, 7, 28, 29, 30, 48, 49, 50] (α := Nat) (fun x => { t := [(2, .c (.ptr 0 0)), (6, .c (.ptr 1 0)), (7, .c (.ref 2 0 none)), (28, aNs t), (29, ai t.length), (30, ai k), (48, .c (.ref 2 0 (some (true, 0, m)))), (49, ai m), (50, ai x)], h := [(0, .box t_impl_Tree (cTr t)), (1, .box t_impl_Node (cNd n)), (2, .arr t_int 1 0 .own (eL cI w))], n := 3, N := 99 })
        (fun x => x ≤ m ∧ wayBad t n (w.drop x) = wayBad t n w) (fun x => m - x) 0 (by ((conv => whnf); simp only [St.mk.injEq, List.cons.injEq, Prod.mk.injEq, AV.c.injEq, AV.agg.injEq, AV.tup.injEq, CV.d.injEq, D.int.injEq, D.bool.injEq, D.str.injEq, D.sl.injEq, Ent.arr.injEq, Ent.box.injEq, true_and, and_true, and_self, nInt_eq, Int.natCast_zero, dLen_eL, sLen_eq]); simp) ⟨Nat.zero_le _, by simp⟩ ?_
      intro j ⟨g1, g2⟩
      (conv => whnf)
      refine ifB_i (fun g3 => ?_) (fun g3 => ?_) <;> (conv => whnf) <;> simp at g3
      · obtain ⟨a, ha⟩ := get_lt (show j < w.length by omega)
        obtain ⟨b, hb⟩ := get_lt (show j + 1 < w.length by omega)
        refine ref_at (k := j) (by simp) (by simp; omega) ?_
        (conv => whnf)
        refine ld_at (by simp) ha ?_
        (conv => whnf)
        obtain ⟨i, hi⟩ : ∃ i : Nat, a = i := ⟨a.toNat, by have := hlt a (List.mem_of_getElem? ha); omega⟩
        subst hi
        have hil := (hlt _ (List.mem_of_getElem? ha)).2
        obtain ⟨x, hx⟩ := get_lt (show i < t.length by omega)
        refine idx_at (by simp) hx ?_
        (conv => whnf)
        rw [drop_at ha, drop_at hb, wayBad] at g2
        have hin : ∀ v0, (iEq x.f n.f && (iEq b x.r && iLe n.c x.c || iEq b x.l && iLe x.c n.c)) = v0 → badP t n i b = v0 := by
          rintro _ rfl
          simp only [badP, Int.toNat_natCast, hx, iEq, eq_comm]
        refine ifB_i (fun g4 => ?_) (fun g4 => ?_) <;> (conv => whnf) <;> simp only [nInt_eq, Int.natCast_zero, dLen_eL, sLen_eq, nOf_eq, Int.toNat_natCast, nAdd_eq, nSub_eq, dLen_nil, dLen_cons, iLt_t, iLt_f, iLe_t, iLe_f, iEq_t, iEq_f, sEq_t, sEq_f, bNot_t, bNot_f, bAnd_t, bEq_t, bEq_f, Bool.not_eq_true, Bool.not_eq_false, Bool.true_eq_false, Bool.false_eq_true] at g4
        · rw [hin false (by simp [iEq, g4]), Bool.false_or] at g2
          refine ⟨j + 1, by omega, ⟨by omega, by rw [← g2, drop_at hb]⟩, ?_⟩
          ((conv => whnf); simp only [St.mk.injEq, List.cons.injEq, Prod.mk.injEq, AV.c.injEq, AV.agg.injEq, AV.tup.injEq, CV.d.injEq, D.int.injEq, D.bool.injEq, D.str.injEq, D.sl.injEq, Ent.arr.injEq, Ent.box.injEq, true_and, and_true, and_self, nInt_eq, Int.natCast_zero, dLen_eL, sLen_eq, wI g3 (by omega)])
        · have g4' : iEq x.f n.f = true := by simpa [iEq] using g4
          refine tri_conf hT hmix (by kernel_rfl) ?_
          (conv => whnf)
          repeat' (first | (refine And.intro (fun q => ?_) (fun q => ?_) <;> cases q <;> (conv => whnf)) | (refine ref_at (wI g3 (by omega)) (by simp; omega) ?_; (conv => whnf)) | (refine ld_at (by simp [wI g3 (show m ≤ 9223372036854775807 by omega)]) hb ?_; (conv => whnf)) | fail)
          generalize e3 : iEq b x.l = c3
          cases c3
          · repeat' (first | (refine And.intro (fun q => ?_) (fun q => ?_) <;> cases q <;> (conv => whnf)) | (refine ref_at (wI g3 (by omega)) (by simp; omega) ?_; (conv => whnf)) | (refine ld_at (by simp [wI g3 (show m ≤ 9223372036854775807 by omega)]) hb ?_; (conv => whnf)) | fail)
            generalize e2 : iEq b x.r = c2
            cases c2
            · repeat' (first | (refine And.intro (fun q => ?_) (fun q => ?_) <;> cases q <;> (conv => whnf)) | (refine ref_at (wI g3 (by omega)) (by simp; omega) ?_; (conv => whnf)) | (refine ld_at (by simp [wI g3 (show m ≤ 9223372036854775807 by omega)]) hb ?_; (conv => whnf)) | fail)
              rw [hin false (by first | (simp [e2, e3]; done) | (simp [e2, e5]; done) | (simp [e3, e4]; done) | (simp [e4, e5]; done)), Bool.false_or] at g2
              refine ⟨j + 1, by omega, ⟨by omega, by rw [← g2, drop_at hb]⟩, ?_⟩
              ((conv => whnf); simp only [St.mk.injEq, List.cons.injEq, Prod.mk.injEq, AV.c.injEq, AV.agg.injEq, AV.tup.injEq, CV.d.injEq, D.int.injEq, D.bool.injEq, D.str.injEq, D.sl.injEq, Ent.arr.injEq, Ent.box.injEq, true_and, and_true, and_self, nInt_eq, Int.natCast_zero, dLen_eL, sLen_eq, wI g3 (by omega)])
            · repeat' (first | (refine And.intro (fun q => ?_) (fun q => ?_) <;> cases q <;> (conv => whnf)) | (refine ref_at (wI g3 (by omega)) (by simp; omega) ?_; (conv => whnf)) | (refine ld_at (by simp [wI g3 (show m ≤ 9223372036854775807 by omega)]) hb ?_; (conv => whnf)) | fail)
              generalize e4 : iLe n.c x.c = c4
              cases c4
              · repeat' (first | (refine And.intro (fun q => ?_) (fun q => ?_) <;> cases q <;> (conv => whnf)) | (refine ref_at (wI g3 (by omega)) (by simp; omega) ?_; (conv => whnf)) | (refine ld_at (by simp [wI g3 (show m ≤ 9223372036854775807 by omega)]) hb ?_; (conv => whnf)) | fail)
                rw [hin false (by first | (simp [e2, e3]; done) | (simp [e2, e5]; done) | (simp [e3, e4]; done) | (simp [e4, e5]; done)), Bool.false_or] at g2
                refine ⟨j + 1, by omega, ⟨by omega, by rw [← g2, drop_at hb]⟩, ?_⟩
                ((conv => whnf); simp only [St.mk.injEq, List.cons.injEq, Prod.mk.injEq, AV.c.injEq, AV.agg.injEq, AV.tup.injEq, CV.d.injEq, D.int.injEq, D.bool.injEq, D.str.injEq, D.sl.injEq, Ent.arr.injEq, Ent.box.injEq, true_and, and_true, and_self, nInt_eq, Int.natCast_zero, dLen_eL, sLen_eq, wI g3 (by omega)])
              · repeat' (first | (refine And.intro (fun q => ?_) (fun q => ?_) <;> cases q <;> (conv => whnf)) | (refine ref_at (wI g3 (by omega)) (by simp; omega) ?_; (conv => whnf)) | (refine ld_at (by simp [wI g3 (show m ≤ 9223372036854775807 by omega)]) hb ?_; (conv => whnf)) | fail)
                rw [hin true (by first | (simp [g4', e2, e4]; done) | (simp [g4', e3, e5]; done))] at g2
                rw [← g2] at hw
                rw [← hw]
                rfl
          · repeat' (first | (refine And.intro (fun q => ?_) (fun q => ?_) <;> cases q <;> (conv => whnf)) | (refine ref_at (wI g3 (by omega)) (by simp; omega) ?_; (conv => whnf)) | (refine ld_at (by simp [wI g3 (show m ≤ 9223372036854775807 by omega)]) hb ?_; (conv => whnf)) | fail)
            generalize e5 : iLe x.c n.c = c5
            cases c5
            · repeat' (first | (refine And.intro (fun q => ?_) (fun q => ?_) <;> cases q <;> (conv => whnf)) | (refine ref_at (wI g3 (by omega)) (by simp; omega) ?_; (conv => whnf)) | (refine ld_at (by simp [wI g3 (show m ≤ 9223372036854775807 by omega)]) hb ?_; (conv => whnf)) | fail)
              generalize e2 : iEq b x.r = c2
              cases c2
              · repeat' (first | (refine And.intro (fun q => ?_) (fun q => ?_) <;> cases q <;> (conv => whnf)) | (refine ref_at (wI g3 (by omega)) (by simp; omega) ?_; (conv => whnf)) | (refine ld_at (by simp [wI g3 (show m ≤ 9223372036854775807 by omega)]) hb ?_; (conv => whnf)) | fail)
                rw [hin false (by first | (simp [e2, e3]; done) | (simp [e2, e5]; done) | (simp [e3, e4]; done) | (simp [e4, e5]; done)), Bool.false_or] at g2
                refine ⟨j + 1, by omega, ⟨by omega, by rw [← g2, drop_at hb]⟩, ?_⟩
                ((conv => whnf); simp only [St.mk.injEq, List.cons.injEq, Prod.mk.injEq, AV.c.injEq, AV.agg.injEq, AV.tup.injEq, CV.d.injEq, D.int.injEq, D.bool.injEq, D.str.injEq, D.sl.injEq, Ent.arr.injEq, Ent.box.injEq, true_and, and_true, and_self, nInt_eq, Int.natCast_zero, dLen_eL, sLen_eq, wI g3 (by omega)])
              · repeat' (first | (refine And.intro (fun q => ?_) (fun q => ?_) <;> cases q <;> (conv => whnf)) | (refine ref_at (wI g3 (by omega)) (by simp; omega) ?_; (conv => whnf)) | (refine ld_at (by simp [wI g3 (show m ≤ 9223372036854775807 by omega)]) hb ?_; (conv => whnf)) | fail)
                generalize e4 : iLe n.c x.c = c4
                cases c4
                · repeat' (first | (refine And.intro (fun q => ?_) (fun q => ?_) <;> cases q <;> (conv => whnf)) | (refine ref_at (wI g3 (by omega)) (by simp; omega) ?_; (conv => whnf)) | (refine ld_at (by simp [wI g3 (show m ≤ 9223372036854775807 by omega)]) hb ?_; (conv => whnf)) | fail)
                  rw [hin false (by first | (simp [e2, e3]; done) | (simp [e2, e5]; done) | (simp [e3, e4]; done) | (simp [e4, e5]; done)), Bool.false_or] at g2
                  refine ⟨j + 1, by omega, ⟨by omega, by rw [← g2, drop_at hb]⟩, ?_⟩
                  ((conv => whnf); simp only [St.mk.injEq, List.cons.injEq, Prod.mk.injEq, AV.c.injEq, AV.agg.injEq, AV.tup.injEq, CV.d.injEq, D.int.injEq, D.bool.injEq, D.str.injEq, D.sl.injEq, Ent.arr.injEq, Ent.box.injEq, true_and, and_true, and_self, nInt_eq, Int.natCast_zero, dLen_eL, sLen_eq, wI g3 (by omega)])
                · repeat' (first | (refine And.intro (fun q => ?_) (fun q => ?_) <;> cases q <;> (conv => whnf)) | (refine ref_at (wI g3 (by omega)) (by simp; omega) ?_; (conv => whnf)) | (refine ld_at (by simp [wI g3 (show m ≤ 9223372036854775807 by omega)]) hb ?_; (conv => whnf)) | fail)
                  rw [hin true (by first | (simp [g4', e2, e4]; done) | (simp [g4', e3, e5]; done))] at g2
                  rw [← g2] at hw
                  rw [← hw]
                  rfl
            · repeat' (first | (refine And.intro (fun q => ?_) (fun q => ?_) <;> cases q <;> (conv => whnf)) | (refine ref_at (wI g3 (by omega)) (by simp; omega) ?_; (conv => whnf)) | (refine ld_at (by simp [wI g3 (show m ≤ 9223372036854775807 by omega)]) hb ?_; (conv => whnf)) | fail)
              rw [hin true (by first | (simp [g4', e2, e4]; done) | (simp [g4', e3, e5]; done))] at g2
              rw [← g2] at hw
              rw [← hw]
              rfl
      · refine ⟨k + 1, by omega, ⟨h4, ?_⟩, ?_⟩
        · obtain rfl : j = m := by omega
          obtain ⟨a, ha⟩ := get_lt (show j < w.length by omega)
          have hd : w.drop (j + 1) = [] := List.drop_eq_nil_of_le (by omega)
          rw [drop_at ha, hd] at g2
          rw [← g2] at hw
          exact hw
        · ((conv => whnf); simp only [St.mk.injEq, List.cons.injEq, Prod.mk.injEq, AV.c.injEq, AV.agg.injEq, AV.tup.injEq, CV.d.injEq, D.int.injEq, D.bool.injEq, D.str.injEq, D.sl.injEq, Ent.arr.injEq, Ent.box.injEq, true_and, and_true, and_self, nInt_eq, Int.natCast_zero, dLen_eL, sLen_eq, wI h4 (by omega)])
  · obtain rfl : k = t.length := by omega
    simp only [List.drop_length, implBads] at hw
    (conv => whnf)
    rw [← hw]
    rfl

theorem steps_more {t : List Nd} : ∀ {n : Nat} {x : Int} {l : List Int}, steps t n x = some l → steps t (n + 1) x = some l
  | 0, x, l, h => by simp [steps] at h
  | n + 1, x, l, h => by
    rw [steps] at h ⊢
    split
    · rw [if_pos (by assumption)] at h; exact h
    · rw [if_neg (by assumption)] at h
      simp only [Option.map_eq_some_iff] at h ⊢
      obtain ⟨r, h1, h2⟩ := h
      exact ⟨r, steps_more h1, h2⟩
theorem chain_iff (t : List Nd) (n : Nd) : ∀ l : List Int, chainBad t n l = true ↔ ∃ (j : Nat) (a b : Int), l[j]? = some a ∧ l[j + 1]? = some b ∧ badP t n b a = true
  | [] => by simp [chainBad]
  | [a] => by simp [chainBad]
  | a :: b :: r => by
    simp only [chainBad, Bool.or_eq_true, chain_iff t n (b :: r)]
    constructor
    · rintro (h | ⟨j, x, y, h1, h2, h3⟩)
      · exact ⟨0, a, b, rfl, rfl, h⟩
      · exact ⟨j + 1, x, y, by simpa using h1, by simpa using h2, h3⟩
    · rintro ⟨j, x, y, h1, h2, h3⟩
      cases j with
      | zero => simp at h1 h2; subst h1; subst h2; exact .inl h3
      | succ j => exact .inr ⟨j, x, y, by simpa using h1, by simpa using h2, h3⟩
theorem way_iff (t : List Nd) (n : Nd) : ∀ l : List Int, wayBad t n l = true ↔ ∃ (j : Nat) (a b : Int), l[j]? = some a ∧ l[j + 1]? = some b ∧ badP t n a b = true
  | [] => by simp [wayBad]
  | [a] => by simp [wayBad]
  | a :: b :: r => by
    simp only [wayBad, Bool.or_eq_true, way_iff t n (b :: r)]
    constructor
    · rintro (h | ⟨j, x, y, h1, h2, h3⟩)
      · exact ⟨0, a, b, rfl, rfl, h⟩
      · exact ⟨j + 1, x, y, by simpa using h1, by simpa using h2, h3⟩
    · rintro ⟨j, x, y, h1, h2, h3⟩
      cases j with
      | zero => simp at h1 h2; subst h1; subst h2; exact .inl h3
      | succ j => exact .inr ⟨j, x, y, by simpa using h1, by simpa using h2, h3⟩
theorem way_rev (t : List Nd) (n : Nd) (l : List Int) : wayBad t n l.reverse = chainBad t n l := by
  rw [Bool.eq_iff_iff, way_iff, chain_iff]
  constructor
  · rintro ⟨j, a, b, h1, h2, h3⟩
    have hj : j + 1 < l.length := by simpa using (List.getElem?_eq_some_iff.1 h2).1
    rw [List.getElem?_reverse (by omega)] at h1
    rw [List.getElem?_reverse (by omega)] at h2
    exact ⟨l.length - 1 - (j + 1), b, a, h2, by rw [← h1]; congr 1; omega, h3⟩
  · rintro ⟨j, a, b, h1, h2, h3⟩
    have hj : j + 1 < l.length := (List.getElem?_eq_some_iff.1 h2).1
    refine ⟨l.length - 1 - (j + 1), b, a, ?_, ?_, h3⟩
    · rw [List.getElem?_reverse (by omega), ← h2]; congr 1; omega
    · rw [List.getElem?_reverse (by omega), ← h1]; congr 1; omega
theorem implBads_iff (t : List Nd) : ∀ (l : List Nd) (k : Nat), implBads t l k = true ↔ ∃ (j : Nat) (n : Nd), l[j]? = some n ∧ implBad t ((k + j : Nat) : Int) n = true
  | [], k => by simp [implBads]
  | n :: r, k => by
    simp only [implBads, Bool.or_eq_true, implBads_iff t r (k + 1)]
    constructor
    · rintro (h | ⟨j, x, h1, h2⟩)
      · exact ⟨0, n, rfl, h⟩
      · exact ⟨j + 1, x, by simpa using h1, by rw [show k + (j + 1) = k + 1 + j by omega]; exact h2⟩
    · rintro ⟨j, x, h1, h2⟩
      cases j with
      | zero => simp at h1; subst h1; exact .inl h2
      | succ j => exact .inr ⟨j, x, by simpa using h1, by rw [show k + 1 + j = k + (j + 1) by omega]; exact h2⟩
theorem waysBad_iff (t : List Nd) : ∀ (l : List Nd) (k : Nat), waysBad t l k = true ↔ ∃ (j : Nat) (n : Nd), l[j]? = some n ∧ nodeBad t ((k + j : Nat) : Int) n = true
  | [], k => by simp [waysBad]
  | n :: r, k => by
    simp only [waysBad, Bool.or_eq_true, waysBad_iff t r (k + 1)]
    constructor
    · rintro (h | ⟨j, x, h1, h2⟩)
      · exact ⟨0, n, rfl, h⟩
      · exact ⟨j + 1, x, by simpa using h1, by rw [show k + (j + 1) = k + 1 + j by omega]; exact h2⟩
    · rintro ⟨j, x, h1, h2⟩
      cases j with
      | zero => simp at h1; subst h1; exact .inl h2
      | succ j => exact .inr ⟨j, x, by simpa using h1, by rw [show k + 1 + j = k + (j + 1) by omega]; exact h2⟩
theorem depthK_le (t : List Nd) (c : Int) (hc : -1 ≤ c) : ∀ m : Nat, depthK t m ≤ c ↔ ∀ j : Nat, j < m → levelL t j ≤ c
  | 0 => by simp [depthK, hc]
  | m + 1 => by
    simp only [depthK]
    rw [show max (depthK t m) (levelL t m) ≤ c ↔ depthK t m ≤ c ∧ levelL t m ≤ c by omega, depthK_le t c hc m]
    constructor
    · rintro ⟨h1, h2⟩ j hj
      rcases Nat.lt_or_ge j m with q | q
      · exact h1 j q
      · obtain rfl : j = m := by omega
        exact h2
    · intro h
      exact ⟨fun j hj => h j (by omega), h m (by omega)⟩
theorem level_way {t : List Nd} {j : Nat} {l : List Int} (hj : j < t.length) (hs : steps t 32 j = some l) : levelL t j = (l.length : Int) - 1 := by
  unfold levelL lvl
  rw [if_pos (by omega)]
  simp only [hs, Int.add_zero]
theorem level_kid {t : List Nd} {ft : Int} (h : shapeOk t ft = true) (hl : t.length ≤ 31) {j c : Nat} (hj : j < t.length) (hc : c < t.length) (hu : up t c = j) : levelL t c = levelL t j + 1 := by
  obtain ⟨lc, h1, _⟩ := steps_anc h 31 c (by omega)
  obtain ⟨lj, h2, _⟩ := steps_anc h 31 j (by omega)
  have h1' := h1
  rw [steps, if_neg (by omega), hu] at h1'
  simp only [Option.map_eq_some_iff] at h1'
  obtain ⟨r, h3, rfl⟩ := h1'
  have h4 := steps_more h3
  rw [h2] at h4
  cases h4
  rw [level_way hc h1, level_way hj h2]
  simp
theorem levels_leaf {t : List Nd} {ft : Int} (h : shapeOk t ft = true) (hl : t.length ≤ 31) (hleaf : ∀ (j : Nat) (n : Nd), t[j]? = some n → n.f = -1 → levelL t j ≤ 4) : ∀ (d : Nat) (j : Nat), t.length - j = d → j < t.length → levelL t j ≤ 4 := by
  intro d
  induction d using Nat.strongRecOn with
  | _ d ih =>
    intro j hd hj
    obtain ⟨n, hn⟩ := get_lt hj
    by_cases hf : n.f = -1
    · exact hleaf j n hn hf
    · have hk := shape_kids h hn hf
      have hu := up_kid h hn hf (.inl rfl)
      obtain ⟨c, hc⟩ : ∃ c : Nat, n.l = c := ⟨n.l.toNat, by omega⟩
      rw [hc] at hu hk
      have := level_kid h hl hj (show c < t.length by omega) hu
      have := ih (t.length - c) (by omega) c rfl (by omega)
      omega
theorem treeOk_same (t : List Nd) (ft : Int) : treeOkI t ft = treeOk t ft := by
  unfold treeOkI treeOk
  by_cases h1 : 1 ≤ (t.length : Int) ∧ (t.length : Int) ≤ 31
  · rw [decide_eq_true h1, Bool.true_and, Bool.true_and]
    congr 1
    cases h3 : shapeOk t ft with
    | false => rfl
    | true =>
      rw [Bool.true_and, Bool.true_and]
      have hst : ∀ j : Nat, j < t.length → ∃ l, steps t 32 j = some l ∧ wayL t j = l.reverse := fun j hj => by
        obtain ⟨l, hl, _⟩ := steps_anc h3 31 j (by omega)
        exact ⟨l, hl, by unfold wayL; rw [if_pos (by omega), hl]⟩
      rw [Bool.eq_iff_iff]
      simp only [Bool.not_eq_true', Bool.and_eq_true, decide_eq_true_eq]
      rw [depthK_le t 4 (by omega)]
      have n1 := implBads_iff t t 0
      have n2 := waysBad_iff t t 0
      simp only [Nat.zero_add] at n1 n2
      constructor
      · intro hb
        have hno : ∀ (j : Nat) (n : Nd), t[j]? = some n → implBad t j n = false := fun j n hn => by
          cases hq : implBad t j n with
          | false => rfl
          | true => rw [n1.2 ⟨j, n, hn, hq⟩] at hb; cases hb
        refine ⟨fun j hj => levels_leaf h3 (by omega) (fun j n hn hf => ?_) _ j rfl hj, ?_⟩
        · have := hno j n hn
          simp only [implBad, if_pos hf, decide_eq_false_iff_not] at this
          have hj := (List.getElem?_eq_some_iff.1 hn).1
          obtain ⟨l, hl, hw⟩ := hst j hj
          rw [level_way hj hl]
          rw [hw] at this
          simp at this
          omega
        · cases hq : waysBad t t 0 with
          | false => rfl
          | true =>
            obtain ⟨j, n, hn, hbad⟩ := n2.1 hq
            have hj := (List.getElem?_eq_some_iff.1 hn).1
            obtain ⟨l, hl, hw⟩ := hst j hj
            simp only [nodeBad, hl, bAnd, Bool.and_eq_true, bNot, Bool.not_eq_true', iEq, decide_eq_false_iff_not] at hbad
            have := hno j n hn
            simp only [implBad, if_neg hbad.1, hw, way_rev] at this
            rw [hbad.2] at this
            cases this
      · rintro ⟨hd, hw⟩
        cases hq : implBads t t 0 with
        | false => rfl
        | true =>
          obtain ⟨j, n, hn, hbad⟩ := n1.1 hq
          have hj := (List.getElem?_eq_some_iff.1 hn).1
          obtain ⟨l, hl, hwy⟩ := hst j hj
          have hlev := hd j hj
          rw [level_way hj hl] at hlev
          by_cases hf : n.f = -1
          · simp only [implBad, if_pos hf, decide_eq_true_eq, hwy, List.length_reverse] at hbad
            omega
          · simp only [implBad, if_neg hf, hwy, way_rev] at hbad
            have : nodeBad t j n = true := by simp [nodeBad, hl, bAnd, bNot, iEq, hf, hbad]
            rw [n2.2 ⟨j, n, hn, this⟩] at hw
            cases hw
  · rw [decide_eq_false h1]; rfl
theorem impl_TreeOk_spec (t : List Nd) (ft : Int) (hl : t.length ≤ 1048576) : FnSpec PR f_impl_TreeOk [aT t, ai ft] (ab (treeOk t ft)) [] 0 := treeOk_same t ft ▸ impl_TreeOk_one t ft hl
end Go.H.S
namespace Go.H.S
open Go Go.Proofs Go.H
attribute [local irreducible] Tri FnSpec FnSpecM FnSpecX FnSpecJ FnSpecB
set_option maxRecDepth 100000
set_option linter.unusedSimpArgs false
set_option linter.unusedVariables false


def cU (n : Int) : List D := [.int .u8 n]
abbrev cur (code : List Int) (i h : Int) : List CV := [.d (.sl 1 (eL cU code)), .d (.int .i64 i), .d (.int .i64 h)]
theorem wAnd255 (x : Int) : 0 ≤ wAnd .i64 x 255 ∧ wAnd .i64 x 255 ≤ 255 := by
  unfold wAnd wrapB
  have h : ((BitVec.ofInt IntKind.i64.bits x &&& BitVec.ofInt IntKind.i64.bits 255).toNat) ≤ 255 := by
    rw [BitVec.toNat_and]
    exact Nat.and_le_right
  rw [wrap64] <;> omega
set_option maxHeartbeats 4000000 in
theorem spec_l1Byte_spec (code : List Int) (i h : Int) (hi : 0 ≤ i ∧ i ≤ code.length) (hl : code.length ≤ 1048576) : FnSpecB PR f_spec_l1Byte [.c (.ptr 0 0)] t_spec_l1Cur (cur code i h) (Int × Int × Int) (fun x => (0 ≤ x.1 ∧ x.1 ≤ 255) ∧ 0 ≤ x.2.1 ∧ x.2.1 ≤ code.length) (fun x => ai x.1) (fun x => cur code x.2.1 x.2.2) (fun _ => []) (fun _ => 1) := by
  refine FnSpecB.intro hT 0 p_spec_l1Byte rfl (by kernel_rfl) n_spec_l1Byte rfl rfl ?_
  intro v0
  (conv => whnf)
  refine tri_conf hT hmix (by kernel_rfl) ?_
  (conv => whnf)
  refine And.intro (by simp) ?_
  (conv => whnf)
  refine And.intro (by simp) ?_
  (conv => whnf)
  refine tri_conf hT hmix (by kernel_rfl) ?_
  (conv => whnf)
  generalize hh : wAdd .i64 (wMul .i64 h 6364136223846793005) 1442695040888963407 = h1
  have hb := wAnd255 (wXor .i64 (wShr .i64 h1 33) (wShr .i64 h1 45))
  generalize wAnd .i64 (wXor .i64 (wShr .i64 h1 33) (wShr .i64 h1 45)) 255 = x at *
  refine ifB_i (fun h2 => ?_) (fun h2 => ?_) <;> (conv => whnf) <;> simp only [nInt_eq, Int.natCast_zero, dLen_eL, sLen_eq, nOf_eq, Int.toNat_natCast, nAdd_eq, nSub_eq, dLen_nil, dLen_cons, iLt_t, iLt_f, iLe_t, iLe_f, iEq_t, iEq_f, sEq_t, sEq_f, bNot_t, bNot_f, bAnd_t, bEq_t, bEq_f, Bool.not_eq_true, Bool.not_eq_false, Bool.true_eq_false, Bool.false_eq_true] at h2
  · obtain ⟨k, rfl⟩ : ∃ k : Nat, i = k := ⟨i.toNat, by omega⟩
    obtain ⟨y, hy⟩ := get_lt (show k < code.length by omega)
    refine tri_every hT hmix [0, 3] { t := [(0, .w (.ptr 0 0) v0), (3, ai (wAnd .i64 (wAdd .i64 x (wConv .i64 y)) 255))], h := [(0, .box t_spec_l1Cur (cur code k h1))], n := 1, N := 58 } rfl ?_ ?_
    · repeat' first
        | (refine anyV_one rfl ?_; (conv => whnf))
        | (refine anyV_two rfl ?_ ?_ <;> (conv => whnf))
        | (refine anyV_three rfl ?_ ?_ ?_ <;> (conv => whnf))
        | (refine anyV_end rfl ?_; (conv => whnf))
        | (refine idx_at (by simp) hy ?_; (conv => whnf))
    (conv => whnf)
    have hb2 := wAnd255 (wAdd .i64 x (wConv .i64 y))
    refine ⟨(wAnd .i64 (wAdd .i64 x (wConv .i64 y)) 255, (k : Int) + 1, h1), ⟨hb2, by dsimp only; omega, by dsimp only; omega⟩, ?_⟩
    ((conv => whnf); simp only [St.mk.injEq, List.cons.injEq, Prod.mk.injEq, AV.c.injEq, AV.agg.injEq, AV.tup.injEq, CV.d.injEq, D.int.injEq, D.bool.injEq, D.str.injEq, D.sl.injEq, Ent.arr.injEq, Ent.box.injEq, true_and, and_true, and_self, nInt_eq, Int.natCast_zero, dLen_eL, sLen_eq, wAdd64 (show -9223372036854775808 ≤ (k : Int) + 1 by omega) (by omega)])
  · refine ⟨(x, i, h1), ⟨hb, hi⟩, ?_⟩
    (conv => whnf)

theorem wRem_mod {x n : Int} (hx : 0 ≤ x) (hn : 0 < n) : 0 ≤ wRem x n ∧ wRem x n < n := by
  unfold wRem
  rw [Int.tmod_eq_emod_of_nonneg hx]
  exact ⟨Int.emod_nonneg _ (by omega), Int.emod_lt_of_pos _ hn⟩
def inCur (code : List Int) (x : Int × Int) : Prop := 0 ≤ x.1 ∧ x.1 ≤ code.length
theorem spec_l1Below_spec (code : List Int) (i h n : Int) (hi : 0 ≤ i ∧ i ≤ code.length) (hl : code.length ≤ 1048576) : FnSpecB PR f_spec_l1Below [.c (.ptr 0 0), ai n] t_spec_l1Cur (cur code i h) (Int × Int × Int)
    (fun x => (0 ≤ x.1 ∧ (0 < n → x.1 < n) ∧ (n ≤ 0 → x.1 = 0)) ∧ inCur code x.2) (fun x => ai x.1) (fun x => cur code x.2.1 x.2.2) (fun _ => []) (fun _ => 1) := by
  refine FnSpecB.intro hT 0 p_spec_l1Below rfl (by kernel_rfl) n_spec_l1Below rfl rfl ?_
  intro v0
  (conv => whnf)
  refine ifB_i (fun h1 => ?_) (fun h1 => ?_) <;> (conv => whnf) <;> simp only [nInt_eq, Int.natCast_zero, dLen_eL, sLen_eq, nOf_eq, Int.toNat_natCast, nAdd_eq, nSub_eq, dLen_nil, dLen_cons, iLt_t, iLt_f, iLe_t, iLe_f, iEq_t, iEq_f, sEq_t, sEq_f, bNot_t, bNot_f, bAnd_t, bEq_t, bEq_f, Bool.not_eq_true, Bool.not_eq_false, Bool.true_eq_false, Bool.false_eq_true] at h1
  · refine ⟨(0, i, h), ⟨⟨by omega, fun q => by omega, fun _ => rfl⟩, hi⟩, ?_⟩
    (conv => whnf)
  refine ifB_i (fun h2 => ?_) (fun h2 => ?_) <;> (conv => whnf) <;> simp only [nInt_eq, Int.natCast_zero, dLen_eL, sLen_eq, nOf_eq, Int.toNat_natCast, nAdd_eq, nSub_eq, dLen_nil, dLen_cons, iLt_t, iLt_f, iLe_t, iLe_f, iEq_t, iEq_f, sEq_t, sEq_f, bNot_t, bNot_f, bAnd_t, bEq_t, bEq_f, Bool.not_eq_true, Bool.not_eq_false, Bool.true_eq_false, Bool.false_eq_true] at h2
  · refine .inr (.inr (.inr (.inr (.inl ⟨0, ?_⟩))))
    (conv => whnf)
    refine ⟨_, _, _, _, _, _, spec_l1Byte_spec code i h hi hl, fun ⟨x, i1, h1'⟩ ⟨hx, hi1⟩ => ⟨rfl, ?_⟩⟩
    dsimp only at hx hi1
    (conv => whnf)
    refine And.intro (by simp; omega) ?_
    (conv => whnf)
    have hm := wRem_mod hx.1 (show 0 < n by omega)
    refine ⟨(wRem x n, i1, h1'), ⟨⟨hm.1, fun _ => hm.2, fun q => by omega⟩, hi1⟩, ?_⟩
    (conv => whnf)
  refine .inr (.inr (.inr (.inr (.inl ⟨0, ?_⟩))))
  (conv => whnf)
  refine ⟨_, _, _, _, _, _, spec_l1Byte_spec code i h hi hl, fun ⟨x, i1, h1'⟩ ⟨hx, hi1⟩ => ⟨rfl, ?_⟩⟩
  dsimp only at hx hi1
  (conv => whnf)
  refine .inr (.inr (.inr (.inr (.inl ⟨0, ?_⟩))))
  (conv => whnf)
  refine ⟨_, _, _, _, _, _, spec_l1Byte_spec code i1 h1' hi1 hl, fun ⟨y, i2, h2'⟩ ⟨hy, hi2⟩ => ⟨rfl, ?_⟩⟩
  dsimp only at hy hi2
  (conv => whnf)
  refine .inr (.inr (.inr (.inr (.inl ⟨0, ?_⟩))))
  (conv => whnf)
  refine ⟨_, _, _, _, _, _, spec_l1Byte_spec code i2 h2' hi2 hl, fun ⟨z, i3, h3'⟩ ⟨hz, hi3⟩ => ⟨rfl, ?_⟩⟩
  dsimp only at hz hi3
  (conv => whnf)
  refine .inr (.inr (.inr (.inr (.inl ⟨0, ?_⟩))))
  (conv => whnf)
  refine ⟨_, _, _, _, _, _, spec_l1Byte_spec code i3 h3' hi3 hl, fun ⟨w, i4, h4'⟩ ⟨hw, hi4⟩ => ⟨rfl, ?_⟩⟩
  dsimp only at hw hi4
  (conv => whnf)
  refine And.intro (by simp; omega) ?_
  (conv => whnf)
  have e1 : wMul .i64 x 16777216 = x * 16777216 := wMul64 (by omega) (by omega)
  have e2 : wMul .i64 y 65536 = y * 65536 := wMul64 (by omega) (by omega)
  have e3 : wMul .i64 z 256 = z * 256 := wMul64 (by omega) (by omega)
  rw [e1, e2, e3]
  rw [wAdd64 (x := x * 16777216) (y := y * 65536) (by omega) (by omega)]
  rw [wAdd64 (x := x * 16777216 + y * 65536) (y := z * 256) (by omega) (by omega)]
  rw [wAdd64 (x := x * 16777216 + y * 65536 + z * 256) (y := w) (by omega) (by omega)]
  have hm := wRem_mod (x := x * 16777216 + y * 65536 + z * 256 + w) (by omega) (show 0 < n by omega)
  refine ⟨(wRem (x * 16777216 + y * 65536 + z * 256 + w) n, i4, h4'), ⟨⟨hm.1, fun _ => hm.2, fun q => by omega⟩, hi4⟩, ?_⟩
  (conv => whnf)

theorem spec_l1PickInt_spec (code : List Int) (i h : Int) (l : List Int) (hi : 0 ≤ i ∧ i ≤ code.length) (hl : code.length ≤ 1048576) (hne : 0 < l.length) (hll : l.length ≤ 1048576) : FnSpecB PR f_spec_l1PickInt [.c (.ptr 0 0), aIs l] t_spec_l1Cur (cur code i h) (Int × Int × Int)
    (fun x => x.1 ∈ l ∧ inCur code x.2) (fun x => ai x.1) (fun x => cur code x.2.1 x.2.2) (fun _ => []) (fun _ => 1) := by
  refine FnSpecB.intro hT 0 p_spec_l1PickInt rfl (by kernel_rfl) n_spec_l1PickInt rfl rfl ?_
  intro v0
  (conv => whnf)
  refine .inr (.inr (.inr (.inr (.inl ⟨0, ?_⟩))))
  (conv => whnf)
  rw [show nInt (dLen (eL cI l)) = (l.length : Int) by simp]
  refine ⟨_, _, _, _, _, _, spec_l1Below_spec code i h l.length hi hl, fun ⟨x, i1, h1'⟩ ⟨hx, hi1⟩ => ⟨rfl, ?_⟩⟩
  dsimp only at hx hi1
  (conv => whnf)
  obtain ⟨k, rfl⟩ : ∃ k : Nat, x = k := ⟨x.toNat, by omega⟩
  obtain ⟨y, hy⟩ := get_lt (show k < l.length by have := hx.2.1 (by omega); omega)
  refine idx_at (by simp) hy ?_
  (conv => whnf)
  refine ⟨(y, i1, h1'), ⟨List.mem_of_getElem? hy, hi1⟩, ?_⟩
  (conv => whnf)
end Go.H.S
namespace Go.H.S
open Go Go.Proofs Go.H
attribute [local irreducible] Tri FnSpec FnSpecM FnSpecX FnSpecJ FnSpecB
set_option maxRecDepth 100000
set_option linter.unusedSimpArgs false
set_option linter.unusedVariables false


theorem spec_l1New_spec (code : List Int) (hl : code.length ≤ 1048576) : FnSpecX PR f_spec_l1New [.c (.d (.sl 1 (eL cU code)))] Int (fun _ => True) (fun _ => .c (.ptr 0 0)) (fun h => [(0, .box t_spec_l1Cur (cur code 0 h))]) (fun _ => 1) := by
  refine FnSpecX.intro hT p_spec_l1New rfl (by kernel_rfl) n_spec_l1New rfl ?_
  (conv => whnf)
  refine tri_loop hT [0, 3, 4] (α := Nat × Int) (fun x => { t := [(0, .c (.d (.sl 1 (eL cU code)))), (3, ai x.2), (4, ai x.1)], h := [], n := 0, N := 32 })
    (fun x => x.1 ≤ code.length) (fun x => code.length - x.1) (0, wAdd .i64 28507 code.length) (by ((conv => whnf); simp only [St.mk.injEq, List.cons.injEq, Prod.mk.injEq, AV.c.injEq, AV.agg.injEq, AV.tup.injEq, CV.d.injEq, D.int.injEq, D.bool.injEq, D.str.injEq, D.sl.injEq, Ent.arr.injEq, Ent.box.injEq, true_and, and_true, and_self, nInt_eq, Int.natCast_zero, dLen_eL, sLen_eq])) (Nat.zero_le _) ?_
  intro ⟨k, h⟩ hk
  dsimp only at hk
  (conv => whnf)
  refine ifB_i (fun h1 => ?_) (fun h1 => ?_) <;> (conv => whnf) <;> simp only [nInt_eq, Int.natCast_zero, dLen_eL, sLen_eq, nOf_eq, Int.toNat_natCast, nAdd_eq, nSub_eq, dLen_nil, dLen_cons, iLt_t, iLt_f, iLe_t, iLe_f, iEq_t, iEq_f, sEq_t, sEq_f, bNot_t, bNot_f, bAnd_t, bEq_t, bEq_f, Bool.not_eq_true, Bool.not_eq_false, Bool.true_eq_false, Bool.false_eq_true] at h1
  · obtain ⟨y, hy⟩ := get_lt (show k < code.length by simpa using h1)
    refine ifB_i (fun h2 => ?_) (fun h2 => ?_) <;> (conv => whnf)
    · refine idx_at (by simp) hy ?_
      (conv => whnf)
      refine ⟨(k + 1, wAnd .i64 (wAdd .i64 (wAdd .i64 (wMul .i64 h 131) (wConv .i64 y)) 7) 1073741823), by dsimp only; omega, by dsimp only; omega, ?_⟩
      ((conv => whnf); simp only [St.mk.injEq, List.cons.injEq, Prod.mk.injEq, AV.c.injEq, AV.agg.injEq, AV.tup.injEq, CV.d.injEq, D.int.injEq, D.bool.injEq, D.str.injEq, D.sl.injEq, Ent.arr.injEq, Ent.box.injEq, true_and, and_true, and_self, nInt_eq, Int.natCast_zero, dLen_eL, sLen_eq, wI (show k < code.length by omega) (by omega)])
    · refine ⟨h, trivial, ?_⟩
      (conv => whnf)
  · refine ⟨h, trivial, ?_⟩
    (conv => whnf)

theorem spec_OneLeaf_spec (v : Int) : FnSpec PR f_spec_OneLeaf [ai v] (.agg [.ref 0 0 none]) [(0, .arr t_impl_Node 5 0 .own (eL cN [⟨-1, 0, 0, 0, v⟩]))] 1 := by
  refine FnSpec.intro hT p_spec_OneLeaf rfl (by kernel_rfl) n_spec_OneLeaf rfl ?_
  conv => whnf
  ((conv => whnf); simp only [St.mk.injEq, List.cons.injEq, Prod.mk.injEq, AV.c.injEq, AV.agg.injEq, AV.tup.injEq, CV.d.injEq, D.int.injEq, D.bool.injEq, D.str.injEq, D.sl.injEq, Ent.arr.injEq, Ent.box.injEq, true_and, and_true, and_self, nInt_eq, Int.natCast_zero, dLen_eL, sLen_eq, eL_cons, eL_nil, cN])

/-- Children come behind, within, and each has one parent. -/
structure KidsOk (N : List Nd) : Prop where
  kid : ∀ {j : Nat} {n : Nd}, N[j]? = some n → n.f ≠ -1 → (j : Int) < n.l ∧ n.r = n.l + 1 ∧ n.r < N.length
  one : ∀ {j j' : Nat} {n n' : Nd}, N[j]? = some n → N[j']? = some n' → n.f ≠ -1 → n'.f ≠ -1 → ∀ x : Int, (n.l = x ∨ n.r = x) → (n'.l = x ∨ n'.r = x) → j = j'
theorem nodup_len : ∀ (M : Nat) (l : List Int), l.Nodup → (∀ x ∈ l, 0 ≤ x ∧ x < M) → l.length ≤ M
  | 0, l, hn, hl => by
    cases l with
    | nil => simp
    | cons x r => have := hl x (by simp); omega
  | M + 1, l, hn, hl => by
    have h1 := nodup_len M (l.erase (M : Int)) (hn.erase _) (fun x hx => by
      have hm := List.mem_of_mem_erase hx
      have hne : x ≠ (M : Int) := fun e => by
        subst e
        exact (List.Nodup.not_mem_erase hn) hx
      have := hl x hm
      omega)
    have h2 : l.length ≤ (l.erase (M : Int)).length + 1 := by
      rw [List.length_erase]
      split <;> omega
    omega
theorem eL_join {α : Type} (f : α → List D) (l r : List α) : dApp (eL f l) (eL f r) = eL f (l ++ r) := by simp [dApp, eL]
structure LvInv (N : List Nd) (i : Nat) (R : List Int) : Prop where
  le : i ≤ R.length
  nd : R.Nodup
  mem : ∀ x ∈ R, 0 ≤ x ∧ x < N.length
  src : ∀ x ∈ R, x = 0 ∨ ∃ (j p : Nat) (n : Nd), j < i ∧ R[j]? = some (p : Int) ∧ N[p]? = some n ∧ n.f ≠ -1 ∧ (n.l = x ∨ n.r = x)
theorem LvInv.len {N : List Nd} {i : Nat} {R : List Int} (h : LvInv N i R) : R.length ≤ N.length := nodup_len _ _ h.nd h.mem
theorem LvInv.leaf {N : List Nd} {i : Nat} {R : List Int} (h : LvInv N i R) (hi : i < R.length) : LvInv N (i + 1) R :=
  ⟨hi, h.nd, h.mem, fun x hx => (h.src x hx).imp id fun ⟨j, p, n, h1, h2⟩ => ⟨j, p, n, by omega, h2⟩⟩
theorem LvInv.inner {N : List Nd} (hk : KidsOk N) {i p : Nat} {R : List Int} {n : Nd} (h : LvInv N i R) (hi : R[i]? = some (p : Int)) (hn : N[p]? = some n) (hf : n.f ≠ -1) : LvInv N (i + 1) (R ++ [n.l, n.r]) := by
  obtain ⟨k1, k2, k3⟩ := hk.kid hn hf
  have hil := (List.getElem?_eq_some_iff.1 hi).1
  have hfresh : ∀ x, (n.l = x ∨ n.r = x) → x ∉ R := fun x hx hm => by
    rcases h.src x hm with h0 | ⟨j, q, n', g1, g2, g3, g4, g5⟩
    · subst h0; omega
    · have := hk.one g3 hn g4 hf x g5 hx
      subst this
      have hj := (List.getElem?_eq_some_iff.1 g2).1
      have := (List.getElem?_inj hj h.nd).1 (g2.trans hi.symm)
      omega
  refine ⟨by simp; omega, ?_, fun x hx => ?_, fun x hx => ?_⟩
  · rw [List.nodup_append]
    refine ⟨h.nd, by simp; omega, fun a ha b hb => ?_⟩
    intro e
    subst e
    simp at hb
    rcases hb with rfl | rfl
    · exact hfresh _ (.inl rfl) ha
    · exact hfresh _ (.inr rfl) ha
  · rcases List.mem_append.1 hx with hx | hx
    · exact h.mem x hx
    · simp at hx
      rcases hx with rfl | rfl <;> omega
  · rcases List.mem_append.1 hx with hx | hx
    · rcases h.src x hx with h0 | ⟨j, q, n', g1, g2, g3⟩
      · exact .inl h0
      · exact .inr ⟨j, q, n', by omega, by rw [List.getElem?_append_left (by omega)]; exact g2, g3⟩
    · simp at hx
      exact .inr ⟨i, p, n, by omega, by rw [List.getElem?_append_left hil]; exact hi, hn, hf, by rcases hx with rfl | rfl <;> simp⟩

theorem spec_l17Levels_spec (N : List Nd) (hk : KidsOk N) (h1 : 0 < N.length) (hl : N.length ≤ 1048576) : FnSpecX PR f_spec_l17Levels [aNs N] (List Nd) (fun t => 0 < t.length ∧ t.length ≤ N.length) (fun _ => .agg [.ref 0 0 none]) (fun t => [(0, .arr t_impl_Node 5 0 .own (eL cN t))]) (fun _ => 1) := by
  refine FnSpecX.intro hT p_spec_l17Levels rfl (by kernel_rfl) n_spec_l17Levels rfl ?_
  (conv => whnf)
  refine tri_loop hT [0, 2, 3, 4, 5, 6] (α := Nat × List Int × List Nd × Int) (fun x => match x.1 with
      | 0 => { t := [(0, aNs N), (2, .c (.ptr 0 0)), (3, .c (.ptr 1 0)), (4, .c (.ref 2 0 none)), (5, ai x.2.2.2), (6, ai (0 : Nat))], h := [(0, .box t_impl_Tree [.nl 5]), (1, .box t_impl_Tree [.nl 5]), (2, .arr t_int 1 0 .own (eL cI x.2.1))], n := 3, N := 46 }
      | i + 1 => { t := [(0, aNs N), (2, .c (.ptr 0 0)), (3, .c (.ptr 1 0)), (4, .c (.ref 3 0 none)), (5, ai x.2.2.2), (6, ai (i + 1 : Nat))], h := [(0, .box t_impl_Tree [.nl 5]), (1, .box t_impl_Tree [.ref 2 0 none]), (2, .arr t_impl_Node 5 0 .own (eL cN x.2.2.1)), (3, .arr t_int 1 0 .own (eL cI x.2.1))], n := 4, N := 46 })
    (fun x => LvInv N x.1 x.2.1 ∧ x.2.2.1.length = x.1 ∧ 0 < x.2.1.length) (fun x => N.length - x.1) (0, [0], [], 1) (by ((conv => whnf); simp only [St.mk.injEq, List.cons.injEq, Prod.mk.injEq, AV.c.injEq, AV.agg.injEq, AV.tup.injEq, CV.d.injEq, D.int.injEq, D.bool.injEq, D.str.injEq, D.sl.injEq, Ent.arr.injEq, Ent.box.injEq, true_and, and_true, and_self, nInt_eq, Int.natCast_zero, dLen_eL, sLen_eq, eL_cons, eL_nil, cI]))
    ⟨⟨by simp, by simp, by simp; omega, by simp⟩, rfl, by simp⟩ ?_
  intro ⟨i, R, O, nx⟩ ⟨hi, hO, hR⟩
  dsimp only at hi hO hR
  have hRl := hi.len
  cases i with
  | zero =>
    obtain rfl := List.eq_nil_of_length_eq_zero hO
    (conv => whnf)
    refine ifB_i (fun h2 => ?_) (fun h2 => ?_) <;> (conv => whnf)
    · dsimp only at h2
      simp only [nInt_eq, Int.natCast_zero, dLen_eL, sLen_eq, nOf_eq, Int.toNat_natCast, nAdd_eq, nSub_eq, dLen_nil, dLen_cons, iLt_t, iLt_f, iLe_t, iLe_f, iEq_t, iEq_f, sEq_t, sEq_f, bNot_t, bNot_f, bAnd_t, bEq_t, bEq_f, Bool.not_eq_true, Bool.not_eq_false, Bool.true_eq_false, Bool.false_eq_true] at h2
      rw [show lenRE (eL cI R) none = R.length by simp [lenRE]] at h2
      obtain ⟨y, hy⟩ := get_lt (show 0 < R.length by omega)
      obtain ⟨p, rfl⟩ : ∃ p : Nat, y = p := ⟨y.toNat, by have := hi.mem _ (List.mem_of_getElem? hy); omega⟩
      obtain ⟨n, hn⟩ := get_lt (show p < N.length by have := hi.mem _ (List.mem_of_getElem? hy); omega)
      have hz := hi.inner hk hy hn
      have hz2 := hi.leaf (show 0 < R.length by omega)
      refine ref_at rfl (by simp; omega) ?_
      (conv => whnf)
      refine ld_at (by simp) hy ?_
      (conv => whnf)
      refine idx_at (by simp) hn ?_
      (conv => whnf)
      refine .inl ⟨_, _, _, spec_l17Inner_spec n, rfl, ?_⟩
      (conv => whnf)
      refine ifB_i (fun h3 => ?_) (fun h3 => ?_) <;> (conv => whnf) <;> simp only [nInt_eq, Int.natCast_zero, dLen_eL, sLen_eq, nOf_eq, Int.toNat_natCast, nAdd_eq, nSub_eq, dLen_nil, dLen_cons, iLt_t, iLt_f, iLe_t, iLe_f, iEq_t, iEq_f, sEq_t, sEq_f, bNot_t, bNot_f, bAnd_t, bEq_t, bEq_f, Bool.not_eq_true, Bool.not_eq_false, Bool.true_eq_false, Bool.false_eq_true] at h3
      · have hz' := (hz h3).len
        refine And.intro (by unfold Fits; simp at hz' ⊢; omega) ?_
        (conv => whnf)
        refine And.intro (by unfold Fits; simp at hz' ⊢ <;> omega) ?_
        (conv => whnf)
        refine ⟨(0 + 1, R ++ [n.l, n.r], [⟨n.f, n.c, nx, wAdd .i64 nx 1, n.v⟩], wAdd .i64 nx 2), by dsimp only; omega, ⟨hz h3, by simp [hO], by simp⟩, ?_⟩
        ((conv => whnf); simp only [St.mk.injEq, List.cons.injEq, Prod.mk.injEq, AV.c.injEq, AV.agg.injEq, AV.tup.injEq, CV.d.injEq, D.int.injEq, D.bool.injEq, D.str.injEq, D.sl.injEq, Ent.arr.injEq, Ent.box.injEq, true_and, and_true, and_self, nInt_eq, Int.natCast_zero, dLen_eL, sLen_eq, partOf_none])
        refine ⟨wI (show 0 < R.length by omega) (by omega), ?_⟩
        exact ⟨by simp [eL, cN], by rw [← eL_join]; simp [eL, cI]⟩
      · refine And.intro (by unfold Fits; simp at hRl ⊢ <;> omega) ?_
        (conv => whnf)
        refine ⟨(0 + 1, R, [n], nx), by dsimp only; omega, ⟨hz2, by simp [hO], hR⟩, ?_⟩
        ((conv => whnf); simp only [St.mk.injEq, List.cons.injEq, Prod.mk.injEq, AV.c.injEq, AV.agg.injEq, AV.tup.injEq, CV.d.injEq, D.int.injEq, D.bool.injEq, D.str.injEq, D.sl.injEq, Ent.arr.injEq, Ent.box.injEq, true_and, and_true, and_self, nInt_eq, Int.natCast_zero, dLen_eL, sLen_eq, partOf_none])
        refine ⟨wI (show 0 < R.length by omega) (by omega), ?_⟩
        simp [eL, cN]
    · dsimp only at h2
      simp only [nInt_eq, Int.natCast_zero, dLen_eL, sLen_eq, nOf_eq, Int.toNat_natCast, nAdd_eq, nSub_eq, dLen_nil, dLen_cons, iLt_t, iLt_f, iLe_t, iLe_f, iEq_t, iEq_f, sEq_t, sEq_f, bNot_t, bNot_f, bAnd_t, bEq_t, bEq_f, Bool.not_eq_true, Bool.not_eq_false, Bool.true_eq_false, Bool.false_eq_true] at h2
      rw [show lenRE (eL cI R) none = R.length by simp [lenRE]] at h2
      omega
  | succ i =>
    (conv => whnf)
    refine ifB_i (fun h2 => ?_) (fun h2 => ?_) <;> (conv => whnf)
    · dsimp only at h2
      simp only [nInt_eq, Int.natCast_zero, dLen_eL, sLen_eq, nOf_eq, Int.toNat_natCast, nAdd_eq, nSub_eq, dLen_nil, dLen_cons, iLt_t, iLt_f, iLe_t, iLe_f, iEq_t, iEq_f, sEq_t, sEq_f, bNot_t, bNot_f, bAnd_t, bEq_t, bEq_f, Bool.not_eq_true, Bool.not_eq_false, Bool.true_eq_false, Bool.false_eq_true] at h2
      rw [show lenRE (eL cI R) none = R.length by simp [lenRE]] at h2
      obtain ⟨y, hy⟩ := get_lt (show (i + 1) < R.length by omega)
      obtain ⟨p, rfl⟩ : ∃ p : Nat, y = p := ⟨y.toNat, by have := hi.mem _ (List.mem_of_getElem? hy); omega⟩
      obtain ⟨n, hn⟩ := get_lt (show p < N.length by have := hi.mem _ (List.mem_of_getElem? hy); omega)
      have hz := hi.inner hk hy hn
      have hz2 := hi.leaf (show (i + 1) < R.length by omega)
      refine ref_at rfl (by simp; omega) ?_
      (conv => whnf)
      refine ld_at (by simp) hy ?_
      (conv => whnf)
      refine idx_at (by simp) hn ?_
      (conv => whnf)
      refine .inl ⟨_, _, _, spec_l17Inner_spec n, rfl, ?_⟩
      (conv => whnf)
      refine ifB_i (fun h3 => ?_) (fun h3 => ?_) <;> (conv => whnf) <;> simp only [nInt_eq, Int.natCast_zero, dLen_eL, sLen_eq, nOf_eq, Int.toNat_natCast, nAdd_eq, nSub_eq, dLen_nil, dLen_cons, iLt_t, iLt_f, iLe_t, iLe_f, iEq_t, iEq_f, sEq_t, sEq_f, bNot_t, bNot_f, bAnd_t, bEq_t, bEq_f, Bool.not_eq_true, Bool.not_eq_false, Bool.true_eq_false, Bool.false_eq_true] at h3
      · have hz' := (hz h3).len
        refine And.intro (by unfold Fits; simp at hz' ⊢; omega) ?_
        (conv => whnf)
        refine And.intro (by unfold Fits; simp at hz' ⊢ <;> omega) ?_
        (conv => whnf)
        refine ⟨((i + 1) + 1, R ++ [n.l, n.r], O ++ [⟨n.f, n.c, nx, wAdd .i64 nx 1, n.v⟩], wAdd .i64 nx 2), by dsimp only; omega, ⟨hz h3, by simp [hO], by simp⟩, ?_⟩
        ((conv => whnf); simp only [St.mk.injEq, List.cons.injEq, Prod.mk.injEq, AV.c.injEq, AV.agg.injEq, AV.tup.injEq, CV.d.injEq, D.int.injEq, D.bool.injEq, D.str.injEq, D.sl.injEq, Ent.arr.injEq, Ent.box.injEq, true_and, and_true, and_self, nInt_eq, Int.natCast_zero, dLen_eL, sLen_eq, partOf_none])
        refine ⟨wI (show i + 1 < R.length by omega) (by omega), ?_⟩
        exact ⟨by rw [← eL_app]; rfl, by rw [← eL_join]; simp [eL, cI]⟩
      · refine And.intro (by unfold Fits; simp at hRl ⊢ <;> omega) ?_
        (conv => whnf)
        refine ⟨((i + 1) + 1, R, O ++ [n], nx), by dsimp only; omega, ⟨hz2, by simp [hO], hR⟩, ?_⟩
        ((conv => whnf); simp only [St.mk.injEq, List.cons.injEq, Prod.mk.injEq, AV.c.injEq, AV.agg.injEq, AV.tup.injEq, CV.d.injEq, D.int.injEq, D.bool.injEq, D.str.injEq, D.sl.injEq, Ent.arr.injEq, Ent.box.injEq, true_and, and_true, and_self, nInt_eq, Int.natCast_zero, dLen_eL, sLen_eq, partOf_none])
        refine ⟨wI (show i + 1 < R.length by omega) (by omega), ?_⟩
        rw [← eL_app]; rfl
    · dsimp only at h2
      simp only [nInt_eq, Int.natCast_zero, dLen_eL, sLen_eq, nOf_eq, Int.toNat_natCast, nAdd_eq, nSub_eq, dLen_nil, dLen_cons, iLt_t, iLt_f, iLe_t, iLe_f, iEq_t, iEq_f, sEq_t, sEq_f, bNot_t, bNot_f, bAnd_t, bEq_t, bEq_f, Bool.not_eq_true, Bool.not_eq_false, Bool.true_eq_false, Bool.false_eq_true] at h2
      rw [show lenRE (eL cI R) none = R.length by simp [lenRE]] at h2
      have h4 := hi.le
      refine ⟨O, by omega, ?_⟩
      (conv => whnf)

theorem grown_kids {t : List Nd} {ft : Int} (h : shapeOk t ft = true) {k : Nat} (hk : k < t.length) (f c a b : Int) : KidsOk (t.set k ⟨f, c, t.length, t.length + 1, 0⟩ ++ [⟨-1, 0, 0, 0, a⟩, ⟨-1, 0, 0, 0, b⟩]) := by
  have key : ∀ {j : Nat} {n : Nd}, (t.set k ⟨f, c, t.length, t.length + 1, 0⟩ ++ [⟨-1, 0, 0, 0, a⟩, ⟨-1, 0, 0, 0, b⟩])[j]? = some n → n.f ≠ -1 → (j = k ∧ n = ⟨f, c, t.length, t.length + 1, 0⟩) ∨ (j < t.length ∧ t[j]? = some n) := by
    intro j n hj hf
    by_cases hl : j < t.length
    · rw [List.getElem?_append_left (by simpa using hl), List.getElem?_set] at hj
      split at hj
      · rename_i e
        subst e
        exact .inl ⟨rfl, (Option.some.inj hj).symm⟩
      · exact .inr ⟨hl, hj⟩
    · rw [List.getElem?_append_right (by simpa using hl)] at hj
      rcases hd : j - (t.set k ⟨f, c, t.length, t.length + 1, 0⟩).length with _ | _ | d <;> rw [hd] at hj <;> simp at hj <;> subst hj <;> exact absurd rfl hf
  constructor
  · intro j n hj hf
    rcases key hj hf with ⟨rfl, rfl⟩ | ⟨hl, hj'⟩
    · simp; omega
    · have := shape_kids h hj' hf
      simp
      omega
  · intro j j' n n' hj hj' hf hf' x hx hx'
    rcases key hj hf with ⟨rfl, rfl⟩ | ⟨hl, g⟩ <;> rcases key hj' hf' with ⟨rfl, rfl⟩ | ⟨hl', g'⟩
    · rfl
    · have := shape_kids h g' hf'
      dsimp only at hx
      omega
    · have := shape_kids h g hf
      dsimp only at hx'
      omega
    · exact shape_once h g g' hf hf' hx hx'
theorem spec_l17Grown_spec (t : List Nd) (ft : Int) (h : shapeOk t ft = true) (hl : t.length ≤ 31) (k : Nat) (hk : k < t.length) (x : Nd) (a b : Int) : FnSpecX PR f_spec_l17Grown [aT t, ai k, aN x, ai a, ai b] (List Nd) (fun t' => 0 < t'.length ∧ t'.length ≤ t.length + 2) (fun _ => .agg [.ref 0 0 none]) (fun t => [(0, .arr t_impl_Node 5 0 .own (eL cN t))]) (fun _ => 1) := by
  refine FnSpecX.intro hT p_spec_l17Grown rfl (by kernel_rfl) n_spec_l17Grown rfl ?_
  (conv => whnf)
  refine And.intro (by unfold Fits; simp; omega) ?_
  rw [show dApp [] (eL cN t) = eL cN t by simp [dApp]]
  (conv => whnf)
  obtain ⟨y, hy⟩ := get_lt hk
  refine ref_at rfl (by simpa using hk) ?_
  (conv => whnf)
  refine st_at (k := k) (by simp) hy (by simp [cN]) ?_
  (conv => whnf)
  have e1 : nInt (lenRE (eL cN t) none) = (t.length : Int) := by simp [lenRE]
  have e2 : wAdd .i64 (t.length : Int) 1 = (t.length : Int) + 1 := wAdd64 (by omega) (by omega)
  rw [e1, e2]
  rw [show dSet (eL cN t) (nAdd (offR none) (nOf (k : Int))) (dOver (cN y) 0 [.int .i64 x.f, .int .i64 x.c, .int .i64 (t.length : Int), .int .i64 ((t.length : Int) + 1), .int .i64 0]) = eL cN (t.set k ⟨x.f, x.c, t.length, t.length + 1, 0⟩) by
    rw [dOver_all (by simp [cN]), show nAdd (offR none) (nOf (k : Int)) = k by simp]
    exact eL_set cN t k ⟨x.f, x.c, t.length, t.length + 1, 0⟩]
  refine And.intro (by unfold Fits; simp; omega) ?_
  rw [show dApp (eL cN (t.set k ⟨x.f, x.c, t.length, t.length + 1, 0⟩)) (partOf [[D.int IntKind.i64 (-1), D.int IntKind.i64 0, D.int IntKind.i64 0, D.int IntKind.i64 0, D.int IntKind.i64 a], [D.int IntKind.i64 (-1), D.int IntKind.i64 0, D.int IntKind.i64 0, D.int IntKind.i64 0, D.int IntKind.i64 b]] none) = eL cN (t.set k ⟨x.f, x.c, t.length, t.length + 1, 0⟩ ++ [⟨-1, 0, 0, 0, a⟩, ⟨-1, 0, 0, 0, b⟩]) by
    rw [← eL_join]; simp [eL, cN]]
  (conv => whnf)
  refine .inr (.inr (.inr (.inr (.inr (.inl ⟨_, _, _, _, _, spec_l17Levels_spec _ (grown_kids h hk x.f x.c a b) (by simp) (by simp; omega), fun t' ht' => ⟨rfl, ?_⟩⟩)))))
  simp at ht'
  refine ⟨t', by omega, ?_⟩
  (conv => whnf)
end Go.H.S
namespace Go.H.S
open Go Go.Proofs Go.H
attribute [local irreducible] Tri FnSpec FnSpecM FnSpecX FnSpecJ FnSpecB
set_option maxRecDepth 100000
set_option linter.unusedSimpArgs false
set_option linter.unusedVariables false


theorem leavesK_mem : ∀ {t : List Nd} {k j : Nat} {n : Nd}, t[j]? = some n → n.f = -1 → ((k + j : Nat) : Int) ∈ leavesK t k
  | [], k, j, n, h, hf => by simp at h
  | x :: r, k, 0, n, h, hf => by
    simp at h
    subst h
    simp [leavesK, hf]
  | x :: r, k, j + 1, n, h, hf => by
    have := leavesK_mem (k := k + 1) (show r[j]? = some n by simpa using h) hf
    rw [show k + 1 + j = k + (j + 1) by omega] at this
    simp only [leavesK]
    split
    · exact List.mem_cons_of_mem _ this
    · exact this
theorem shape_leaves {t : List Nd} {ft : Int} (h : shapeOk t ft = true) : 0 < (leavesK t 0).length := by
  have h0 : 0 < t.length := by
    cases t with
    | nil => simp [shapeOk, shapeL] at h
    | cons x r => simp
  obtain ⟨n, hn⟩ := get_lt (show t.length - 1 < t.length by omega)
  have hf : n.f = -1 := by
    by_cases hf : n.f = -1
    · exact hf
    · have := shape_kids h hn hf
      omega
  exact List.length_pos_of_mem (leavesK_mem (k := 0) hn hf)
theorem treeOk_one (v ft : Int) (hft : 0 ≤ ft ∧ ft ≤ 4) (hv : -1099511627776 ≤ v ∧ v ≤ 1099511627776) : treeOk [⟨-1, 0, 0, 0, v⟩] ft = true := by
  have hu : up [⟨-1, 0, 0, 0, v⟩] 0 = -1 := by simp [up, idxL, pUp]
  have hs : steps [⟨-1, 0, 0, 0, v⟩] 32 0 = some [0] := by simp [steps, hu]
  have hl : levelL [⟨-1, 0, 0, 0, v⟩] 0 = 0 := by
    simp only [levelL]
    rw [if_pos (by simp), lvl_lt _ (by rw [hu]; decide)]
  have hw : waysBad [⟨-1, 0, 0, 0, v⟩] [⟨-1, 0, 0, 0, v⟩] 0 = false := by
    simp [waysBad, nodeBad, hs, iEq, bNot, bAnd]
  simp [treeOk, hft, shapeOk, shapeL, leafBad, depthK, hl, hw]
  omega
theorem flat_nodes (xs : List Nd) : FlatR (eL cN xs) := fun c hc d hd => by
  rw [eL] at hc
  obtain ⟨x, _, rfl⟩ := List.mem_map.1 hc
  simp [cN] at hd
  rcases hd with rfl | rfl | rfl | rfl | rfl <;> rfl

set_option maxHeartbeats 4000000 in
theorem spec_l17Right_spec (code : List Int) (i h ft : Int) (hi : inCur code (i, h)) (hl : code.length ≤ 1048576) (hft : 1 ≤ ft ∧ ft ≤ 4) : FnSpecB PR f_spec_l17Right [.c (.ptr 0 0), ai ft] t_spec_l1Cur (cur code i h) (List Nd × Int × Int)
    (fun x => treeOk x.1 ft = true ∧ inCur code x.2) (fun x => .agg [.ref 1 0 none]) (fun x => cur code x.2.1 x.2.2) (fun x => [(1, .arr t_impl_Node 5 0 .own (eL cN x.1))]) (fun _ => 2) := by
  refine FnSpecB.intro hT 0 p_spec_l17Right rfl (by kernel_rfl) n_spec_l17Right rfl rfl ?_
  intro v0
  (conv => whnf)
  refine .inr (.inr (.inr (.inr (.inl ⟨0, ?_⟩))))
  (conv => whnf)
  refine ⟨_, _, _, _, _, _, spec_l1Below_spec code i h _ hi hl, fun ⟨x, i1, h1'⟩ ⟨hx, hi1⟩ => ⟨rfl, ?_⟩⟩
  dsimp only at hx hi1
  (conv => whnf)
  have hx2 := hx.2.1 (by decide)
  rw [show wMul .i64 50 (wSub .i64 x 10) = 50 * (x - 10) by rw [wSub64, wMul64] <;> omega]
  refine .inl ⟨_, _, _, spec_OneLeaf_spec _, rfl, ?_⟩
  (conv => whnf)
  refine .inr (.inr (.inr (.inr (.inl ⟨0, ?_⟩))))
  (conv => whnf)
  refine ⟨_, _, _, _, _, _, spec_l1Below_spec code i1 h1' _ hi1 hl, fun ⟨n, i2, h2'⟩ ⟨hn, hi2⟩ => ⟨rfl, ?_⟩⟩
  dsimp only at hn hi2
  (conv => whnf)
  obtain ⟨m, rfl⟩ : ∃ m : Nat, n = m := ⟨n.toNat, by omega⟩
  have hm := hn.2.1 (by decide)
  refine tri_loop hT [0, 1, 4, 5, 6, 7] (α := Nat × List Nd × Int × Int) (fun x => { t := [(0, .w (.ptr 0 0) v0), (1, ai ft), (4, .c (.ptr 1 0)), (5, .c (.ptr 2 0)), (6, ai m), (7, ai x.1)], h := [(0, .box t_spec_l1Cur (cur code x.2.2.1 x.2.2.2)), (1, .box t_impl_Tree [.nl 5]), (2, .box t_impl_Tree [.ref 3 0 none]), (3, .arr t_impl_Node 5 0 .own (eL cN x.2.1))], n := 4, N := 54 })
    (fun x => x.1 ≤ m ∧ treeOk x.2.1 ft = true ∧ inCur code x.2.2) (fun x => m - x.1) (0, [⟨-1, 0, 0, 0, 50 * (x - 10)⟩], i2, h2') (by ((conv => whnf); simp only [St.mk.injEq, List.cons.injEq, Prod.mk.injEq, AV.c.injEq, AV.agg.injEq, AV.tup.injEq, CV.d.injEq, D.int.injEq, D.bool.injEq, D.str.injEq, D.sl.injEq, Ent.arr.injEq, Ent.box.injEq, true_and, and_true, and_self, nInt_eq, Int.natCast_zero, dLen_eL, sLen_eq])) ⟨Nat.zero_le _, treeOk_one _ ft (by omega) (by omega), hi2⟩ ?_
  intro ⟨k, t, i3, h3⟩ ⟨hk, ht, hi3⟩
  dsimp only at hk ht hi3
  (conv => whnf)
  have htl : t.length ≤ 31 := by simp [treeOk] at ht; omega
  have hsh : shapeOk t ft = true := by simp [treeOk] at ht; exact ht.2.2.1
  refine ifB_i (fun h1 => ?_) (fun h1 => ?_) <;> (conv => whnf) <;> simp only [nInt_eq, Int.natCast_zero, dLen_eL, sLen_eq, nOf_eq, Int.toNat_natCast, nAdd_eq, nSub_eq, dLen_nil, dLen_cons, iLt_t, iLt_f, iLe_t, iLe_f, iEq_t, iEq_f, sEq_t, sEq_f, bNot_t, bNot_f, bAnd_t, bEq_t, bEq_f, Bool.not_eq_true, Bool.not_eq_false, Bool.true_eq_false, Bool.false_eq_true] at h1
  · refine .inr (.inl ⟨_, _, _, spec_LeavesOf_spec t (by omega), rfl, ⟨flat_cI _, trivial⟩, ?_⟩)
    (conv => whnf)
    have hlv := shape_leaves hsh
    have hlv2 := leavesK_len t 0
    refine .inr (.inr (.inr (.inr (.inl ⟨0, ?_⟩))))
    (conv => whnf)
    rw [show nInt (lenRE (eL cI (leavesK t 0)) none) = ((leavesK t 0).length : Int) by simp [lenRE]]
    refine ⟨_, _, _, _, _, _, spec_l1Below_spec code i3 h3 _ hi3 hl, fun ⟨q, i4, h4⟩ ⟨hq, hi4⟩ => ⟨rfl, ?_⟩⟩
    dsimp only at hq hi4
    obtain ⟨q, rfl⟩ : ∃ m : Nat, q = m := ⟨q.toNat, by omega⟩
    have hq2 := hq.2.1 (by omega)
    obtain ⟨p, hp⟩ := get_lt (show q < (leavesK t 0).length by omega)
    have hpl := leavesK_lt t 0 p (List.mem_of_getElem? hp)
    obtain ⟨p, rfl⟩ : ∃ m : Nat, p = m := ⟨p.toNat, by omega⟩
    have hpt : p < t.length := by omega
    (conv => whnf)
    refine ref_at rfl (by simp; omega) ?_
    (conv => whnf)
    refine ld_at (by simp) hp ?_
    (conv => whnf)
    refine tri_everyX hT hmix [0, 1, 4, 5, 6, 7, 10] (Y := List Nd × Int × Int) (fun y => 0 < y.1.length ∧ y.1.length ≤ t.length + 2 ∧ inCur code y.2) (fun y => { t := [(0, .w (.ptr 0 0) v0), (1, ai ft), (4, .c (.ptr 1 0)), (5, .c (.ptr 2 0)), (6, ai m), (7, ai k), (10, .c (.ptr 4 0))], h := [(0, .box t_spec_l1Cur (cur code y.2.1 y.2.2)), (1, .box t_impl_Tree [.nl 5]), (2, .box t_impl_Tree [.ref 3 0 none]), (3, .arr t_impl_Node 5 0 .own (eL cN t)), (4, .box t_impl_Tree [.ref 5 0 none]), (5, .arr t_impl_Node 5 0 .own (eL cN y.1))], n := 6, N := 54 }) rfl ?_ ?_
    · repeat' first
        | (refine anyV_one rfl ?_; (conv => whnf))
        | (refine anyV_two rfl ?_ ?_ <;> (conv => whnf))
        | (refine anyV_three rfl ?_ ?_ ?_ <;> (conv => whnf))
        | (refine .inr (.inr (.inr (.inr (.inl ⟨0, ?_⟩)))); (conv => whnf); refine ⟨_, _, _, _, _, _, spec_l1Below_spec code _ _ _ (by first | exact hj | exact hi4) hl, fun ⟨x, j, g⟩ ⟨hx, hj⟩ => ⟨rfl, ?_⟩⟩; dsimp only at hx hj; (conv => whnf))
        | (refine .inr (.inr (.inr (.inr (.inr (.inr ⟨_, _, _, _, _, spec_l17Grown_spec t ft hsh htl p hpt ⟨_, _, 0, 0, 0⟩ _ _, fun t' ht' => ⟨rfl, ⟨flat_nodes _, trivial⟩, ?_⟩⟩))))); (conv => whnf))
      all_goals refine anyV_end rfl ?_
      all_goals refine ⟨(t', j, g), ⟨ht'.1, ht'.2, hj⟩, ?_⟩
      all_goals (conv => whnf)
    · intro ⟨t', i5, h5⟩ ⟨hy1, hy2, hy3⟩
      dsimp only at hy1 hy2 hy3
      (conv => whnf)
      refine .inr (.inl ⟨_, _, _, spec_TreeOk_spec t' ft (by omega), rfl, trivial, ?_⟩)
      (conv => whnf)
      refine ifB_i (fun h2 => ?_) (fun h2 => ?_) <;> (conv => whnf)
      · refine ⟨(k + 1, t', i5, h5), by dsimp only; omega, ⟨by dsimp only; omega, h2, hy3⟩, ?_⟩
        ((conv => whnf); simp only [St.mk.injEq, List.cons.injEq, Prod.mk.injEq, AV.c.injEq, AV.agg.injEq, AV.tup.injEq, CV.d.injEq, D.int.injEq, D.bool.injEq, D.str.injEq, D.sl.injEq, Ent.arr.injEq, Ent.box.injEq, true_and, and_true, and_self, nInt_eq, Int.natCast_zero, dLen_eL, sLen_eq])
        exact wI (show k < m by omega) (by omega)
      · refine ⟨(k + 1, t, i5, h5), by dsimp only; omega, ⟨by dsimp only; omega, ht, hy3⟩, ?_⟩
        ((conv => whnf); simp only [St.mk.injEq, List.cons.injEq, Prod.mk.injEq, AV.c.injEq, AV.agg.injEq, AV.tup.injEq, CV.d.injEq, D.int.injEq, D.bool.injEq, D.str.injEq, D.sl.injEq, Ent.arr.injEq, Ent.box.injEq, true_and, and_true, and_self, nInt_eq, Int.natCast_zero, dLen_eL, sLen_eq])
        exact wI (show k < m by omega) (by omega)
  · refine ⟨(t, i3, h3), ⟨ht, hi3⟩, ?_⟩
    (conv => whnf)
end Go.H.S
namespace Go.H.S
open Go Go.Proofs Go.H
attribute [local irreducible] Tri FnSpec FnSpecM FnSpecX FnSpecJ FnSpecB
set_option maxRecDepth 100000
set_option linter.unusedSimpArgs false
set_option linter.unusedVariables false


theorem spec_l1PickInt_of (code : List Int) (i h : Int) (es : List (List D)) (l : List Int) (he : es = eL cI l) (hi : 0 ≤ i ∧ i ≤ code.length) (hl : code.length ≤ 1048576) (hne : 0 < l.length) (hll : l.length ≤ 1048576) : FnSpecB PR f_spec_l1PickInt [.c (.ptr 0 0), .c (.d (.sl 1 es))] t_spec_l1Cur (cur code i h) (Int × Int × Int)
    (fun x => x.1 ∈ l ∧ inCur code x.2) (fun x => ai x.1) (fun x => cur code x.2.1 x.2.2) (fun _ => []) (fun _ => 1) := he ▸ spec_l1PickInt_spec code i h l hi hl hne hll

theorem part_eL {α : Type} (f : α → List D) (xs : List α) (b : Bool) (o n : Nat) : partOf (eL f xs) (some (b, o, n)) = eL f ((xs.drop o).take n) := by
  simp only [partOf, dPart_eq, eL, List.map_drop, List.map_take]
theorem nodes_set (ns : List Nd) {k' k : Nat} (x y : Nd) {j : Nat} {ds : List D} (hk : k' = k) (h : dOver (cN x) j ds = cN y) : dSet (eL cN ns) k' (dOver (cN x) j ds) = eL cN (ns.set k y) := by
  rw [h, hk]
  exact eL_set cN ns k y
set_option maxHeartbeats 4000000 in
theorem spec_l17Bent_spec (code : List Int) (i h : Int) (hi : inCur code (i, h)) (hl : code.length ≤ 1048576) : FnSpecB PR f_spec_l17Bent [.c (.ptr 0 0)] t_spec_l1Cur (cur code i h) (List Nd × Int × Int)
    (fun x => x.1.length ≤ 32 ∧ inCur code x.2) (fun x => aT x.1) (fun x => cur code x.2.1 x.2.2) (fun _ => []) (fun _ => 1) := by
  refine FnSpecB.intro hT 0 p_spec_l17Bent rfl (by kernel_rfl) n_spec_l17Bent rfl rfl ?_
  intro v0
  (conv => whnf)
  refine .inr (.inr (.inr (.inr (.inl ⟨0, ?_⟩))))
  (conv => whnf)
  refine ⟨_, _, _, _, _, _, spec_l1Below_spec code i h _ hi hl, fun ⟨x, i1, h1⟩ ⟨hx, hi1⟩ => ⟨rfl, ?_⟩⟩
  dsimp only at hx hi1
  have hx2 := hx.2.1 (by decide)
  (conv => whnf)
  refine .inr (.inr (.inr (.inr (.inl ⟨0, ?_⟩))))
  (conv => whnf)
  rw [show wAdd .i64 1 x = 1 + x from wAdd64 (by omega) (by omega)]
  refine ⟨_, _, _, _, _, _, spec_l17Right_spec code i1 h1 (1 + x) hi1 hl (by omega), fun ⟨t, i2, h2⟩ ⟨ht, hi2⟩ => ⟨rfl, ?_⟩⟩
  dsimp only at ht hi2
  have htl : 1 ≤ t.length ∧ t.length ≤ 31 := by simp [treeOk] at ht; omega
  (conv => whnf)
  refine .inr (.inr (.inr (.inr (.inl ⟨0, ?_⟩))))
  (conv => whnf)
  rw [show nInt (lenRE (eL cN (t, i2, h2).1) none) = (t.length : Int) by simp [lenRE]]
  refine ⟨_, _, _, _, _, _, spec_l1Below_spec code i2 h2 t.length hi2 hl, fun ⟨k, i3, h3⟩ ⟨hk, hi3⟩ => ⟨rfl, ?_⟩⟩
  dsimp only at hk hi3
  obtain ⟨k, rfl⟩ : ∃ m : Nat, k = m := ⟨k.toNat, by omega⟩
  have hk2 := hk.2.1 (by omega)
  obtain ⟨n, hn⟩ := get_lt (show k < t.length by omega)
  (conv => whnf)
  refine .inr (.inr (.inr (.inr (.inl ⟨0, ?_⟩))))
  (conv => whnf)
  refine ⟨_, _, _, _, _, _, spec_l1Below_spec code i3 h3 _ hi3 hl, fun ⟨q, i4, h4⟩ ⟨hq, hi4⟩ => ⟨rfl, ?_⟩⟩
  dsimp only at hq hi4
  (conv => whnf)
  refine ifB_i (fun g0 => ?_) (fun g0 => ?_) <;> (conv => whnf)
  · refine tri_everyX hT hmix [0, 2, 3] (Y := List Nd × Int × Int) (fun y => y.1.length ≤ 32 ∧ inCur code y.2) (fun y => { t := [(0, .w (.ptr 0 0) v0), (2, .c (.ptr 1 0)), (3, .c (.ptr 2 0))], h := [(0, .box t_spec_l1Cur (cur code y.2.1 y.2.2)), (1, .box t_impl_Tree [.nl 5]), (2, .box t_impl_Tree [.ref 3 0 none]), (3, .arr t_impl_Node 5 0 .own (eL cN y.1))], n := 4, N := 85 }) rfl ?_ ?_
    · repeat' first
        | (refine anyV_one rfl ?_; (conv => whnf))
        | (refine anyV_two rfl ?_ ?_ <;> (conv => whnf))
        | (refine anyV_three rfl ?_ ?_ ?_ <;> (conv => whnf))
        | (refine .inr (.inr (.inr (.inr (.inl ⟨0, ?_⟩)))); (conv => whnf); refine ⟨_, _, _, _, _, _, spec_l1PickInt_of code _ _ _ [-1, 0, 1, 4, -2, 9223372036854775807] (by simp [eL, cI]) hi4 hl (by simp) (by simp), fun ⟨y, j, g⟩ ⟨hy, hj⟩ => ⟨rfl, ?_⟩⟩; dsimp only at hy hj; (conv => whnf))
        | (refine ref_at rfl (by simp; omega) ?_; (conv => whnf))
        | (refine st_at (k := k) (by simp) hn (by simp [cN]) ?_; (conv => whnf))
      all_goals refine anyV_end rfl ?_
      all_goals refine ⟨(t.set k ⟨y, n.c, n.l, n.r, n.v⟩, j, g), ⟨by simp; omega, hj⟩, ?_⟩
      all_goals ((conv => whnf); simp only [St.mk.injEq, List.cons.injEq, Prod.mk.injEq, AV.c.injEq, AV.agg.injEq, AV.tup.injEq, CV.d.injEq, D.int.injEq, D.bool.injEq, D.str.injEq, D.sl.injEq, Ent.arr.injEq, Ent.box.injEq, true_and, and_true, and_self, nInt_eq, Int.natCast_zero, dLen_eL, sLen_eq])
      all_goals exact nodes_set t n _ (by simp) (by simp [dOver, cN, over])
    · intro ⟨t', i5, h5⟩ ⟨hy1, hy2⟩
      dsimp only at hy1 hy2
      (conv => whnf)
      refine ⟨(t', i5, h5), ⟨hy1, hy2⟩, ?_⟩
      (conv => whnf)
      rfl
  refine ifB_i (fun g1 => ?_) (fun g1 => ?_) <;> (conv => whnf)
  · refine tri_everyX hT hmix [0, 2, 3] (Y := List Nd × Int × Int) (fun y => y.1.length ≤ 32 ∧ inCur code y.2) (fun y => { t := [(0, .w (.ptr 0 0) v0), (2, .c (.ptr 1 0)), (3, .c (.ptr 2 0))], h := [(0, .box t_spec_l1Cur (cur code y.2.1 y.2.2)), (1, .box t_impl_Tree [.nl 5]), (2, .box t_impl_Tree [.ref 3 0 none]), (3, .arr t_impl_Node 5 0 .own (eL cN y.1))], n := 4, N := 85 }) rfl ?_ ?_
    · repeat' first
        | (refine anyV_one rfl ?_; (conv => whnf))
        | (refine anyV_two rfl ?_ ?_ <;> (conv => whnf))
        | (refine anyV_three rfl ?_ ?_ ?_ <;> (conv => whnf))
        | (refine .inr (.inr (.inr (.inr (.inl ⟨0, ?_⟩)))); (conv => whnf); refine ⟨_, _, _, _, _, _, spec_l1PickInt_of code _ _ _ [0, 1, 2147483648, -2147483648, 500] (by simp [eL, cI]) hi4 hl (by simp) (by simp), fun ⟨y, j, g⟩ ⟨hy, hj⟩ => ⟨rfl, ?_⟩⟩; dsimp only at hy hj; (conv => whnf))
        | (refine ref_at rfl (by simp; omega) ?_; (conv => whnf))
        | (refine st_at (k := k) (by simp) hn (by simp [cN]) ?_; (conv => whnf))
      all_goals refine anyV_end rfl ?_
      all_goals refine ⟨(t.set k ⟨n.f, y, n.l, n.r, n.v⟩, j, g), ⟨by simp; omega, hj⟩, ?_⟩
      all_goals ((conv => whnf); simp only [St.mk.injEq, List.cons.injEq, Prod.mk.injEq, AV.c.injEq, AV.agg.injEq, AV.tup.injEq, CV.d.injEq, D.int.injEq, D.bool.injEq, D.str.injEq, D.sl.injEq, Ent.arr.injEq, Ent.box.injEq, true_and, and_true, and_self, nInt_eq, Int.natCast_zero, dLen_eL, sLen_eq])
      all_goals exact nodes_set t n _ (by simp) (by simp [dOver, cN, over])
    · intro ⟨t', i5, h5⟩ ⟨hy1, hy2⟩
      dsimp only at hy1 hy2
      (conv => whnf)
      refine ⟨(t', i5, h5), ⟨hy1, hy2⟩, ?_⟩
      (conv => whnf)
      rfl
  refine ifB_i (fun g2 => ?_) (fun g2 => ?_) <;> (conv => whnf)
  · refine tri_everyX hT hmix [0, 2, 3] (Y := List Nd × Int × Int) (fun y => y.1.length ≤ 32 ∧ inCur code y.2) (fun y => { t := [(0, .w (.ptr 0 0) v0), (2, .c (.ptr 1 0)), (3, .c (.ptr 2 0))], h := [(0, .box t_spec_l1Cur (cur code y.2.1 y.2.2)), (1, .box t_impl_Tree [.nl 5]), (2, .box t_impl_Tree [.ref 3 0 none]), (3, .arr t_impl_Node 5 0 .own (eL cN y.1))], n := 4, N := 85 }) rfl ?_ ?_
    · repeat' first
        | (refine anyV_one rfl ?_; (conv => whnf))
        | (refine anyV_two rfl ?_ ?_ <;> (conv => whnf))
        | (refine anyV_three rfl ?_ ?_ ?_ <;> (conv => whnf))
        | (refine .inr (.inr (.inr (.inr (.inl ⟨0, ?_⟩)))); (conv => whnf); refine ⟨_, _, _, _, _, _, spec_l1PickInt_of code _ _ _ [0, 1, 2, -1, 40, (k : Int)] (by simp [eL, cI]) hi4 hl (by simp) (by simp), fun ⟨y, j, g⟩ ⟨hy, hj⟩ => ⟨rfl, ?_⟩⟩; dsimp only at hy hj; (conv => whnf))
        | (refine ref_at rfl (by simp; omega) ?_; (conv => whnf))
        | (refine st_at (k := k) (by simp) hn (by simp [cN]) ?_; (conv => whnf))
      all_goals refine anyV_end rfl ?_
      all_goals refine ⟨(t.set k ⟨n.f, n.c, y, n.r, n.v⟩, j, g), ⟨by simp; omega, hj⟩, ?_⟩
      all_goals ((conv => whnf); simp only [St.mk.injEq, List.cons.injEq, Prod.mk.injEq, AV.c.injEq, AV.agg.injEq, AV.tup.injEq, CV.d.injEq, D.int.injEq, D.bool.injEq, D.str.injEq, D.sl.injEq, Ent.arr.injEq, Ent.box.injEq, true_and, and_true, and_self, nInt_eq, Int.natCast_zero, dLen_eL, sLen_eq])
      all_goals exact nodes_set t n _ (by simp) (by simp [dOver, cN, over])
    · intro ⟨t', i5, h5⟩ ⟨hy1, hy2⟩
      dsimp only at hy1 hy2
      (conv => whnf)
      refine ⟨(t', i5, h5), ⟨hy1, hy2⟩, ?_⟩
      (conv => whnf)
      rfl
  refine ifB_i (fun g3 => ?_) (fun g3 => ?_) <;> (conv => whnf)
  · refine tri_everyX hT hmix [0, 2, 3] (Y := List Nd × Int × Int) (fun y => y.1.length ≤ 32 ∧ inCur code y.2) (fun y => { t := [(0, .w (.ptr 0 0) v0), (2, .c (.ptr 1 0)), (3, .c (.ptr 2 0))], h := [(0, .box t_spec_l1Cur (cur code y.2.1 y.2.2)), (1, .box t_impl_Tree [.nl 5]), (2, .box t_impl_Tree [.ref 3 0 none]), (3, .arr t_impl_Node 5 0 .own (eL cN y.1))], n := 4, N := 85 }) rfl ?_ ?_
    · repeat' first
        | (refine anyV_one rfl ?_; (conv => whnf))
        | (refine anyV_two rfl ?_ ?_ <;> (conv => whnf))
        | (refine anyV_three rfl ?_ ?_ ?_ <;> (conv => whnf))
        | (refine .inr (.inr (.inr (.inr (.inl ⟨0, ?_⟩)))); (conv => whnf); refine ⟨_, _, _, _, _, _, spec_l1PickInt_of code _ _ _ [0, 1, 2, -1, 40, (k : Int)] (by simp [eL, cI]) hi4 hl (by simp) (by simp), fun ⟨y, j, g⟩ ⟨hy, hj⟩ => ⟨rfl, ?_⟩⟩; dsimp only at hy hj; (conv => whnf))
        | (refine ref_at rfl (by simp; omega) ?_; (conv => whnf))
        | (refine st_at (k := k) (by simp) hn (by simp [cN]) ?_; (conv => whnf))
      all_goals refine anyV_end rfl ?_
      all_goals refine ⟨(t.set k ⟨n.f, n.c, n.l, y, n.v⟩, j, g), ⟨by simp; omega, hj⟩, ?_⟩
      all_goals ((conv => whnf); simp only [St.mk.injEq, List.cons.injEq, Prod.mk.injEq, AV.c.injEq, AV.agg.injEq, AV.tup.injEq, CV.d.injEq, D.int.injEq, D.bool.injEq, D.str.injEq, D.sl.injEq, Ent.arr.injEq, Ent.box.injEq, true_and, and_true, and_self, nInt_eq, Int.natCast_zero, dLen_eL, sLen_eq])
      all_goals exact nodes_set t n _ (by simp) (by simp [dOver, cN, over])
    · intro ⟨t', i5, h5⟩ ⟨hy1, hy2⟩
      dsimp only at hy1 hy2
      (conv => whnf)
      refine ⟨(t', i5, h5), ⟨hy1, hy2⟩, ?_⟩
      (conv => whnf)
      rfl
  refine ifB_i (fun g4 => ?_) (fun g4 => ?_) <;> (conv => whnf)
  · refine tri_everyX hT hmix [0, 2, 3] (Y := List Nd × Int × Int) (fun y => y.1.length ≤ 32 ∧ inCur code y.2) (fun y => { t := [(0, .w (.ptr 0 0) v0), (2, .c (.ptr 1 0)), (3, .c (.ptr 2 0))], h := [(0, .box t_spec_l1Cur (cur code y.2.1 y.2.2)), (1, .box t_impl_Tree [.nl 5]), (2, .box t_impl_Tree [.ref 3 0 none]), (3, .arr t_impl_Node 5 0 .own (eL cN y.1))], n := 4, N := 85 }) rfl ?_ ?_
    · repeat' first
        | (refine anyV_one rfl ?_; (conv => whnf))
        | (refine anyV_two rfl ?_ ?_ <;> (conv => whnf))
        | (refine anyV_three rfl ?_ ?_ ?_ <;> (conv => whnf))
        | (refine .inr (.inr (.inr (.inr (.inl ⟨0, ?_⟩)))); (conv => whnf); refine ⟨_, _, _, _, _, _, spec_l1PickInt_of code _ _ _ [0, 1, 1099511627776, 1099511627777, -1099511627777] (by simp [eL, cI]) hi4 hl (by simp) (by simp), fun ⟨y, j, g⟩ ⟨hy, hj⟩ => ⟨rfl, ?_⟩⟩; dsimp only at hy hj; (conv => whnf))
        | (refine ref_at rfl (by simp; omega) ?_; (conv => whnf))
        | (refine st_at (k := k) (by simp) hn (by simp [cN]) ?_; (conv => whnf))
      all_goals refine anyV_end rfl ?_
      all_goals refine ⟨(t.set k ⟨n.f, n.c, n.l, n.r, y⟩, j, g), ⟨by simp; omega, hj⟩, ?_⟩
      all_goals ((conv => whnf); simp only [St.mk.injEq, List.cons.injEq, Prod.mk.injEq, AV.c.injEq, AV.agg.injEq, AV.tup.injEq, CV.d.injEq, D.int.injEq, D.bool.injEq, D.str.injEq, D.sl.injEq, Ent.arr.injEq, Ent.box.injEq, true_and, and_true, and_self, nInt_eq, Int.natCast_zero, dLen_eL, sLen_eq])
      all_goals exact nodes_set t n _ (by simp) (by simp [dOver, cN, over])
    · intro ⟨t', i5, h5⟩ ⟨hy1, hy2⟩
      dsimp only at hy1 hy2
      (conv => whnf)
      refine ⟨(t', i5, h5), ⟨hy1, hy2⟩, ?_⟩
      (conv => whnf)
      rfl
  refine ifB_i (fun g5 => ?_) (fun g5 => ?_) <;> (conv => whnf)
  · refine And.intro (by unfold Fits; simp; omega) ?_
    (conv => whnf)
    refine ⟨(t ++ [⟨-1, 0, 0, 0, 0⟩], i4, h4), ⟨by simp; omega, hi4⟩, ?_⟩
    ((conv => whnf); simp only [St.mk.injEq, List.cons.injEq, Prod.mk.injEq, AV.c.injEq, AV.agg.injEq, AV.tup.injEq, CV.d.injEq, D.int.injEq, D.bool.injEq, D.str.injEq, D.sl.injEq, Ent.arr.injEq, Ent.box.injEq, true_and, and_true, and_self, nInt_eq, Int.natCast_zero, dLen_eL, sLen_eq, aT])
    simp only [partOf_none]
    rw [← eL_join]
    simp [eL, cN]
  refine ifB_i (fun g6 => ?_) (fun g6 => ?_) <;> (conv => whnf)
  · refine And.intro (by simp [lenRE]; omega) ?_
    (conv => whnf)
    refine ⟨(t.take k, i4, h4), ⟨by simp; omega, hi4⟩, ?_⟩
    ((conv => whnf); simp only [St.mk.injEq, List.cons.injEq, Prod.mk.injEq, AV.c.injEq, AV.agg.injEq, AV.tup.injEq, CV.d.injEq, D.int.injEq, D.bool.injEq, D.str.injEq, D.sl.injEq, Ent.arr.injEq, Ent.box.injEq, true_and, and_true, and_self, nInt_eq, Int.natCast_zero, dLen_eL, sLen_eq, aT])
    rw [part_eL]
    simp
  refine ⟨(t, i4, h4), ⟨by dsimp only; omega, hi4⟩, ?_⟩
  (conv => whnf)
  rfl
end Go.H.S
namespace Go.H.S
open Go Go.Proofs Go.H
set_option linter.unusedSimpArgs false
set_option linter.unusedVariables false


theorem hplain : ∀ t ti, Tp t = some ti → plainT Tp ti = true := plain_tab (tab := ptab) (by kernel_rfl)
def i64 (x : Int) : Prop := -9223372036854775808 ≤ x ∧ x ≤ 9223372036854775807
theorem list_of_len {α : Type} {l : List α} {a : α} (h : l.length = 1) (h' : l.take 1 = [a]) : l = [a] := by
  match l, h with
  | [x], _ => simpa using h'
theorem wf_i64 {x : Int} (h : (Lit.int .i64 x).wf = true) : i64 x := by
  unfold Lit.wf at h
  simp only [Bool.and_eq_true, decide_eq_true_eq] at h
  exact ⟨h.1, h.2⟩
theorem ty_str {n : Nat} {c : List D} (h : TyD Tp n t_string c) : ∃ x, c = cS x ∧ x.size ≤ 9223372036854775807 := h.str rfl rfl
theorem ty_int {n : Nat} {c : List D} (h : TyD Tp n t_int c) : ∃ x, c = cI x ∧ i64 x := by
  obtain ⟨x, h1, h2⟩ := h.int rfl rfl
  exact ⟨x, h1, wf_i64 h2⟩
def rgN (n : Nd) : Prop := i64 n.f ∧ i64 n.c ∧ i64 n.l ∧ i64 n.r ∧ i64 n.v
theorem ty_ints {n : Nat} {c : List D} (h : TyD Tp n t_Lint c) : ∃ x, c = cIs x ∧ (x.length ≤ 9223372036854775807 ∧ ∀ y ∈ x, i64 y) := by
  obtain ⟨es, e, b, f⟩ := h.slice rfl rfl rfl
  obtain ⟨l, rfl, q, k⟩ := eL_of (f := cI) (fun c hc => (let ⟨_, hm⟩ := f c hc; ty_int hm))
  exact ⟨l, by rw [e]; rfl, by omega, k⟩
theorem ty_strs {n : Nat} {c : List D} (h : TyD Tp n t_Lstring c) : ∃ x, c = cSs x ∧ (x.length ≤ 9223372036854775807 ∧ ∀ y ∈ x, y.size ≤ 9223372036854775807) := by
  obtain ⟨es, e, b, f⟩ := h.slice rfl rfl rfl
  obtain ⟨l, rfl, q, k⟩ := eL_of (f := cS) (fun c hc => (let ⟨_, hm⟩ := f c hc; ty_str hm))
  exact ⟨l, by rw [e]; rfl, by omega, k⟩

theorem ty_bytes {n : Nat} {c : List D} (h : TyD Tp n t_Luint8 c) : ∃ x : List Int, c = [.sl 1 (eL (fun y => [D.int .u8 y]) x)] ∧ (x.length ≤ 9223372036854775807 ∧ ∀ y ∈ x, 0 ≤ y ∧ y ≤ 255) := by
  obtain ⟨es, e, b, f⟩ := h.slice rfl rfl rfl
  obtain ⟨l, rfl, q, k⟩ := eL_of (f := fun y => [D.int .u8 y]) (ok := fun y => 0 ≤ y ∧ y ≤ 255) (fun c hc => (let ⟨_, hm⟩ := f c hc; by
    obtain ⟨x, h1, h2⟩ := hm.int rfl rfl
    refine ⟨x, h1, ?_⟩
    unfold Lit.wf at h2
    simp only [Bool.and_eq_true, decide_eq_true_eq] at h2
    exact ⟨h2.1, h2.2⟩))
  exact ⟨l, by rw [e], by omega, k⟩

theorem ty_node {n : Nat} {c : List D} (h : TyD Tp n t_laws_Node c) : ∃ x, c = cN x ∧ rgN x := by
  obtain ⟨hl, hf⟩ := h.struct (ti := _) rfl rfl
  obtain ⟨_, g0⟩ := hf (0, t_int) (by simp) _ rfl
  obtain ⟨_, g1⟩ := hf (1, t_int) (by simp) _ rfl
  obtain ⟨_, g2⟩ := hf (2, t_int) (by simp) _ rfl
  obtain ⟨_, g3⟩ := hf (3, t_int) (by simp) _ rfl
  obtain ⟨_, g4⟩ := hf (4, t_int) (by simp) _ rfl
  obtain ⟨x0, e0, r0⟩ := ty_int g0
  obtain ⟨x1, e1, r1⟩ := ty_int g1
  obtain ⟨x2, e2, r2⟩ := ty_int g2
  obtain ⟨x3, e3, r3⟩ := ty_int g3
  obtain ⟨x4, e4, r4⟩ := ty_int g4
  refine ⟨⟨x0, x1, x2, x3, x4⟩, ?_, r0, r1, r2, r3, r4⟩
  match c, hl with
  | [c0, c1, c2, c3, c4], _ =>
    simp [cI] at e0 e1 e2 e3 e4
    simp [cN, e0, e1, e2, e3, e4]
theorem ty_tree {n : Nat} {c : List D} (h : TyD Tp n t_laws_Tree c) : ∃ x, c = cT x ∧ (x.length ≤ 9223372036854775807 ∧ ∀ n ∈ x, rgN n) := by
  obtain ⟨hl, hf⟩ := h.struct (ti := _) rfl rfl
  obtain ⟨_, g0⟩ := hf (0, t_Llaws_Node) (by simp) _ rfl
  obtain ⟨es, e0, e1, e2⟩ := g0.slice rfl rfl rfl
  obtain ⟨l, rfl, l1, k⟩ := eL_of (f := cN) (fun c hc => (let ⟨_, hm⟩ := e2 c hc; ty_node hm))
  exact ⟨l, list_of_len hl (by simpa using e0), by omega, k⟩

def rgModel (m : Mdl) : Prop := (∀ x ∈ m.signs, i64 x) ∧ i64 m.base ∧ ∀ t ∈ m.trees, ∀ n ∈ t, rgN n
theorem ty_model {n : Nat} {c : List D} (h : TyD Tp n t_laws_Model c) : ∃ m : Mdl, (okModel m ∧ rgModel m) ∧ c = [.sl 1 (eL cS m.names), .sl 1 (eL cI m.signs), .int .i64 m.base, .sl 1 (eL cT m.trees)] := by
  obtain ⟨hl, hf⟩ := h.struct (ti := _) rfl rfl
  obtain ⟨_, g0⟩ := hf (0, t_Lstring) (by simp) _ rfl
  obtain ⟨_, g1⟩ := hf (1, t_Lint) (by simp) _ rfl
  obtain ⟨_, g2⟩ := hf (2, t_int) (by simp) _ rfl
  obtain ⟨_, g3⟩ := hf (3, t_Llaws_Tree) (by simp) _ rfl
  obtain ⟨l0, e0, q0, k0⟩ := ty_strs g0
  obtain ⟨l1, e1, q1, k1⟩ := ty_ints g1
  obtain ⟨x2, e2, r2⟩ := ty_int g2
  obtain ⟨es3, e3, b3, f3⟩ := g3.slice rfl rfl rfl
  obtain ⟨l3, rfl, q3, k3⟩ := eL_of (f := cT) (fun c hc => (let ⟨_, hm⟩ := f3 c hc; ty_tree hm))
  refine ⟨⟨l0, l1, x2, l3⟩, ⟨⟨⟨q0, k0⟩, q1, by dsimp only; omega, fun t ht => (k3 t ht).1⟩, k1, r2, fun t ht => (k3 t ht).2⟩, ?_⟩
  match c, hl with
  | [c0, c1, c2, c3], _ =>
    simp [cSs, cIs, cI] at e0 e1 e2 e3
    simp [e0, e1, e2, e3]

def rgGrid (x : Grd) : Prop := (∀ r ∈ x.cuts, ∀ y ∈ r, i64 y) ∧ (∀ r ∈ x.bins, ∀ y ∈ r, i64 y)
theorem ty_grid {n : Nat} {c : List D} (h : TyD Tp n t_laws_Grid c) : ∃ x : Grd, (okGrid x ∧ rgGrid x) ∧ c = [.sl 1 (eL cIs x.cuts), .sl 1 (eL cIs x.bins)] := by
  obtain ⟨hl, hf⟩ := h.struct (ti := _) rfl rfl
  obtain ⟨_, g0⟩ := hf (0, t_LLint) (by simp) _ rfl
  obtain ⟨_, g1⟩ := hf (1, t_LLint) (by simp) _ rfl
  obtain ⟨es0, e0, b0, f0⟩ := g0.slice rfl rfl rfl
  obtain ⟨l0, rfl, q0, k0⟩ := eL_of (f := cIs) (fun c hc => (let ⟨_, hm⟩ := f0 c hc; ty_ints hm))
  obtain ⟨es1, e1, b1, f1⟩ := g1.slice rfl rfl rfl
  obtain ⟨l1, rfl, q1, k1⟩ := eL_of (f := cIs) (fun c hc => (let ⟨_, hm⟩ := f1 c hc; ty_ints hm))
  refine ⟨⟨l0, l1⟩, ⟨⟨⟨by dsimp only; omega, fun t ht => (k0 t ht).1⟩, by dsimp only; omega, fun t ht => (k1 t ht).1⟩, fun t ht => (k0 t ht).2, fun t ht => (k1 t ht).2⟩, ?_⟩
  match c, hl with
  | [c0, c1], _ =>
    simp at e0 e1
    simp [e0, e1]

theorem ty_bool {n : Nat} {c : List D} (h : TyD Tp n t_bool c) : ∃ x, c = [.bool x] := h.bool rfl rfl
end Go.H.S
namespace Go.H.S
open Go Go.Proofs Go.H
attribute [local irreducible] Tri FnSpec FnSpecM
set_option maxRecDepth 100000
set_option linter.unusedSimpArgs false
set_option linter.unusedVariables false


theorem cost_len {α : Type} (f : α → Nat) (l : List α) : l.length ≤ cost f l := by rw [cost_eq]; omega
theorem cost_costL {α : Type} (f : α → Nat) (l : List α) : costL f l ≤ cost f l := by rw [cost_eq]; omega
theorem model_small {m : Mdl} (h : costModel m ≤ 1048576) : smModel m ∧ m.trees.length ≤ 1048576 ∧ costL List.length m.trees ≤ 1048576 := by
  unfold costModel at h
  have h1 := cost_len ByteArray.size m.names
  have h2 := cost_len costTree m.trees
  have h3 := cost_costL costTree m.trees
  rw [costTree_len] at h3
  refine ⟨⟨by omega, by omega, by omega, fun s hs => ?_⟩, by omega, by omega⟩
  have := costL_mem List.length hs
  omega
theorem bud_ok {c : Nat} (h : 0 ≤ bud 1048576 c) : c ≤ 1048576 := by have := (bud_pos h).1; omega
end Go.H.S
namespace Go.H.S
open Go Go.Proofs Go.H
attribute [local irreducible] Tri FnSpec FnSpecM FnSpecX FnSpecJ
set_option maxRecDepth 100000
set_option linter.unusedSimpArgs false
set_option linter.unusedVariables false


theorem flat_cN (xs : List Nd) : FlatR (eL cN xs) := fun c hc d hd => by
  rw [eL] at hc
  obtain ⟨x, _, rfl⟩ := List.mem_map.1 hc
  simp [cN] at hd
  rcases hd with rfl | rfl | rfl | rfl | rfl <;> rfl
theorem flat_cS (xs : List ByteArray) : FlatR (eL cS xs) := fun c hc d hd => by
  rw [eL] at hc
  obtain ⟨x, _, rfl⟩ := List.mem_map.1 hc
  simp [cS] at hd
  subst hd; rfl
theorem wRem_ten {n : Nat} : wRem (n : Int) 10 = ((n % 10 : Nat) : Int) := by
  unfold wRem
  rw [Int.tmod_eq_emod_of_nonneg (by omega)]
  omega
theorem wQuo_ten {n : Nat} (h : n ≤ 9223372036854775807) : wQuo .i64 (n : Int) 10 = ((n / 10 : Nat) : Int) := by
  unfold wQuo
  rw [Int.tdiv_eq_ediv_of_nonneg (by omega), wrap64 (by omega) (by omega)]
  omega

/-- Marks: k, k + 1, .. -/
def marks (k : Int) : Nat → List Int
  | 0 => []
  | n + 1 => k :: marks (k + 1) n
theorem marks_len : ∀ (n : Nat) (k : Int), (marks k n).length = n
  | 0, _ => rfl
  | n + 1, k => by simp [marks, marks_len n]
theorem marks_get : ∀ (n : Nat) (k : Int) (j : Nat), j < n → (marks k n)[j]? = some (k + j)
  | 0, _, _, h => by omega
  | n + 1, k, 0, _ => by simp [marks]
  | n + 1, k, j + 1, h => by simp only [marks, List.getElem?_cons_succ]; rw [marks_get n (k + 1) j (by omega)]; congr 1; omega
theorem markIntS_spec (xs : List Int) (k : Int) (hk : 0 ≤ k ∧ k ≤ 1000000000000) (hx : xs.length ≤ 1000000000) : FnSpecM PR f_laws_markIntS [.c (.ref 0 0 none), ai k] t_int 1 (eL cI xs) (ai (k + xs.length)) (eL cI (marks k xs.length)) := by
  refine FnSpecM.intro hT 0 p_laws_markIntS rfl (by kernel_rfl) n_laws_markIntS rfl rfl (by simp [eL_length, marks_len]) rfl (flat_cI _) ?_
  intro v0
  (conv => whnf)
  refine tri_loop hT [0, 1, 5] (α := Nat × List Int) (fun x => { t := [(0, .w (.ref 0 0 none) v0), (1, ai (k + x.1)), (5, ai x.1)], h := [(0, .arr t_int 1 0 .own (eL cI x.2))], n := 1, N := 19 })
    (fun x => x.1 ≤ xs.length ∧ x.2.length = xs.length ∧ ∀ j, j < x.1 → x.2[j]? = some (k + j)) (fun x => xs.length - x.1) (0, xs) (by ((conv => whnf); simp only [St.mk.injEq, List.cons.injEq, Prod.mk.injEq, AV.c.injEq, AV.agg.injEq, AV.tup.injEq, CV.d.injEq, D.int.injEq, D.bool.injEq, D.str.injEq, D.sl.injEq, Ent.arr.injEq, Ent.box.injEq, true_and, and_true, and_self, nInt_eq, Int.natCast_zero, dLen_eL, sLen_eq, Int.add_zero])) ⟨Nat.zero_le _, rfl, fun j hj => by omega⟩ ?_
  intro ⟨i, ys⟩ ⟨hi, hl, hj⟩
  dsimp only at hi hl hj
  (conv => whnf)
  refine ifB_i (fun h1 => ?_) (fun h1 => ?_) <;> (conv => whnf) <;> simp at h1
  · obtain ⟨y, hy⟩ := get_lt h1
    refine ref_at (k := i) (by simp) (by simp; omega) ?_
    (conv => whnf)
    refine st_at (by simp) hy (by simp [cI]) ?_
    (conv => whnf)
    refine ⟨(i + 1, ys.set i (k + i)), by dsimp only; omega, ⟨by dsimp only; omega, by simp [hl], fun j hlt => ?_⟩, ?_⟩
    · dsimp only at hlt ⊢
      rw [List.getElem?_set]
      split
      · rename_i he; subst he; simp [hl, h1]
      · exact hj j (by omega)
    · ((conv => whnf); simp only [St.mk.injEq, List.cons.injEq, Prod.mk.injEq, AV.c.injEq, AV.agg.injEq, AV.tup.injEq, CV.d.injEq, D.int.injEq, D.bool.injEq, D.str.injEq, D.sl.injEq, Ent.arr.injEq, Ent.box.injEq, true_and, and_true, and_self, nInt_eq, Int.natCast_zero, dLen_eL, sLen_eq])
      refine ⟨⟨by rw [wAdd64] <;> omega, wI h1 (by omega)⟩, ?_⟩
      have := cI_set ys i y (k + i)
      simpa using this
  · obtain rfl : i = xs.length := by omega
    have : ys = marks k xs.length := by
      apply List.ext_getElem?
      intro j
      rcases Nat.lt_or_ge j xs.length with q | q
      · rw [hj j q, marks_get _ _ _ q]
      · rw [List.getElem?_eq_none (by omega), List.getElem?_eq_none (by rw [marks_len]; omega)]
    subst this
    (conv => whnf)

theorem heldIntS_spec (k : Int) (n : Nat) (hk : 0 ≤ k ∧ k ≤ 1000000000000) (hx : n ≤ 1000000000) : FnSpec PR f_laws_heldIntS [aIs (marks k n), ai k] (ai (k + n)) [] 0 := by
  have hml := marks_len n k
  refine FnSpec.intro hT p_laws_heldIntS rfl (by kernel_rfl) n_laws_heldIntS rfl ?_
  conv => whnf
  refine tri_loop hT [0, 1, 5] (α := Nat) (fun x => { t := [(0, aIs (marks k n)), (1, ai (k + x)), (5, ai x)], h := [], n := 0, N := 21 })
    (fun x => x ≤ n) (fun x => n - x) 0 (by ((conv => whnf); simp only [St.mk.injEq, List.cons.injEq, Prod.mk.injEq, AV.c.injEq, AV.agg.injEq, AV.tup.injEq, CV.d.injEq, D.int.injEq, D.bool.injEq, D.str.injEq, D.sl.injEq, Ent.arr.injEq, Ent.box.injEq, true_and, and_true, and_self, nInt_eq, Int.natCast_zero, dLen_eL, sLen_eq, Int.add_zero])) (Nat.zero_le _) ?_
  intro i hi
  (conv => whnf)
  refine ifB_i (fun h1 => ?_) (fun h1 => ?_) <;> (conv => whnf) <;> simp [hml] at h1
  · have hy := marks_get n k i h1
    refine idx_at (by simp) hy ?_
    (conv => whnf)
    refine ifB_i (fun h2 => ?_) (fun h2 => ?_) <;> (conv => whnf) <;> simp only [nInt_eq, Int.natCast_zero, dLen_eL, sLen_eq, nOf_eq, Int.toNat_natCast, nAdd_eq, nSub_eq, dLen_nil, dLen_cons, iLt_t, iLt_f, iLe_t, iLe_f, iEq_t, iEq_f, sEq_t, sEq_f, bNot_t, bNot_f, bAnd_t, bEq_t, bEq_f, Bool.not_eq_true, Bool.not_eq_false, Bool.true_eq_false, Bool.false_eq_true] at h2
    · exact absurd rfl h2
    · refine ⟨i + 1, by omega, by omega, ?_⟩
      ((conv => whnf); simp only [St.mk.injEq, List.cons.injEq, Prod.mk.injEq, AV.c.injEq, AV.agg.injEq, AV.tup.injEq, CV.d.injEq, D.int.injEq, D.bool.injEq, D.str.injEq, D.sl.injEq, Ent.arr.injEq, Ent.box.injEq, true_and, and_true, and_self, nInt_eq, Int.natCast_zero, dLen_eL, sLen_eq, wI h1 (by omega), wAdd64 (show -9223372036854775808 ≤ k + (i : Int) + 1 by omega) (by omega), Int.natCast_add, Int.cast_ofNat_Int, Int.add_assoc])
  · obtain rfl : i = n := by omega
    (conv => whnf)

theorem cN_set0 (ns : List Nd) (i : Nat) (x : Nd) (v : Int) : dSet (eL cN ns) i (dOver (cN x) 0 [.int .i64 v]) = eL cN (ns.set i ⟨v, x.c, x.l, x.r, x.v⟩) := by
  rw [← eL_set]; congr 1; simp [dOver, cN, over]
theorem cN_set1 (ns : List Nd) (i : Nat) (x : Nd) (v : Int) : dSet (eL cN ns) i (dOver (cN x) 1 [.int .i64 v]) = eL cN (ns.set i ⟨x.f, v, x.l, x.r, x.v⟩) := by
  rw [← eL_set]; congr 1; simp [dOver, cN, over]
theorem cN_set2 (ns : List Nd) (i : Nat) (x : Nd) (v : Int) : dSet (eL cN ns) i (dOver (cN x) 2 [.int .i64 v]) = eL cN (ns.set i ⟨x.f, x.c, v, x.r, x.v⟩) := by
  rw [← eL_set]; congr 1; simp [dOver, cN, over]
theorem cN_set3 (ns : List Nd) (i : Nat) (x : Nd) (v : Int) : dSet (eL cN ns) i (dOver (cN x) 3 [.int .i64 v]) = eL cN (ns.set i ⟨x.f, x.c, x.l, v, x.v⟩) := by
  rw [← eL_set]; congr 1; simp [dOver, cN, over]
theorem cN_set4 (ns : List Nd) (i : Nat) (x : Nd) (v : Int) : dSet (eL cN ns) i (dOver (cN x) 4 [.int .i64 v]) = eL cN (ns.set i ⟨x.f, x.c, x.l, x.r, v⟩) := by
  rw [← eL_set]; congr 1; simp [dOver, cN, over]
theorem markNodeS_lost (ns : List Nd) (k : Int) (hk : 0 ≤ k ∧ k ≤ 1000000000000) (hx : ns.length ≤ 1000000000) : FnSpecJ PR f_laws_markNodeS [.c (.ref 0 0 none), ai k] [(0, .arr t_impl_Node 5 0 .own (eL cN ns))] 1 (ai (k + 5 * ns.length)) := by
  refine FnSpecJ.intro hT p_laws_markNodeS rfl (by kernel_rfl) n_laws_markNodeS rfl rfl rfl ?_
  (conv => whnf)
  refine tri_loop hT [0, 1, 5] (α := Nat × List Nd) (fun x => { t := [(0, .c (.ref 0 0 none)), (1, ai (k + 5 * x.1)), (5, ai x.1)], h := [(0, .arr t_impl_Node 5 0 .own (eL cN x.2))], n := 1, N := 48 })
    (fun x => x.1 ≤ ns.length ∧ x.2.length = ns.length) (fun x => ns.length - x.1) (0, ns) (by ((conv => whnf); simp only [St.mk.injEq, List.cons.injEq, Prod.mk.injEq, AV.c.injEq, AV.agg.injEq, AV.tup.injEq, CV.d.injEq, D.int.injEq, D.bool.injEq, D.str.injEq, D.sl.injEq, Ent.arr.injEq, Ent.box.injEq, true_and, and_true, and_self, nInt_eq, Int.natCast_zero, dLen_eL, sLen_eq]); simp) ⟨Nat.zero_le _, rfl⟩ ?_
  intro ⟨i, ys⟩ ⟨hi, hl⟩
  dsimp only at hi hl
  (conv => whnf)
  refine ifB_i (fun h1 => ?_) (fun h1 => ?_) <;> (conv => whnf) <;> simp at h1
  · obtain ⟨y, hy⟩ := get_lt h1
    have e1 : wAdd .i64 (k + 5 * (i : Int)) 1 = k + 5 * i + 1 := by rw [wAdd64] <;> omega
    have e2 : wAdd .i64 (k + 5 * (i : Int) + 1) 1 = k + 5 * i + 2 := by rw [wAdd64] <;> omega
    have e3 : wAdd .i64 (k + 5 * (i : Int) + 2) 1 = k + 5 * i + 3 := by rw [wAdd64] <;> omega
    have e4 : wAdd .i64 (k + 5 * (i : Int) + 3) 1 = k + 5 * i + 4 := by rw [wAdd64] <;> omega
    have e5 : wAdd .i64 (k + 5 * (i : Int) + 4) 1 = k + 5 * i + 5 := by rw [wAdd64] <;> omega
    have ei : nAdd (offR none) (nOf ((i : Nat) : Int)) = i := by simp
    refine ref_at (k := i) (by simp) (by simp; omega) ?_
    (conv => whnf)
    refine st_at (by simp) hy (by simp [cN]) ?_
    dsimp only
    rw [ei, cN_set0]
    generalize hz0 : ys.set i _ = z0
    have hl0 : z0.length = ns.length := by rw [← hz0]; simp [hl]
    obtain ⟨y0, hy0⟩ := get_lt (show i < z0.length by omega)
    (conv => whnf)
    refine ref_at (k := i) (by simp) (by simp; omega) ?_
    (conv => whnf)
    refine st_at (by simp) hy0 (by simp [cN]) ?_
    dsimp only
    rw [ei, cN_set1]
    generalize hz1 : z0.set i _ = z1
    have hl1 : z1.length = ns.length := by rw [← hz1]; simp [hl0]
    obtain ⟨y1, hy1⟩ := get_lt (show i < z1.length by omega)
    (conv => whnf)
    refine ref_at (k := i) (by simp) (by simp; omega) ?_
    (conv => whnf)
    refine st_at (by simp) hy1 (by simp [cN]) ?_
    dsimp only
    rw [ei, cN_set2]
    generalize hz2 : z1.set i _ = z2
    have hl2 : z2.length = ns.length := by rw [← hz2]; simp [hl1]
    obtain ⟨y2, hy2⟩ := get_lt (show i < z2.length by omega)
    (conv => whnf)
    refine ref_at (k := i) (by simp) (by simp; omega) ?_
    (conv => whnf)
    refine st_at (by simp) hy2 (by simp [cN]) ?_
    dsimp only
    rw [ei, cN_set3]
    generalize hz3 : z2.set i _ = z3
    have hl3 : z3.length = ns.length := by rw [← hz3]; simp [hl2]
    obtain ⟨y3, hy3⟩ := get_lt (show i < z3.length by omega)
    (conv => whnf)
    refine ref_at (k := i) (by simp) (by simp; omega) ?_
    (conv => whnf)
    refine st_at (by simp) hy3 (by simp [cN]) ?_
    dsimp only
    rw [ei, cN_set4]
    generalize hz4 : z3.set i _ = z4
    have hl4 : z4.length = ns.length := by rw [← hz4]; simp [hl3]
    obtain ⟨y4, hy4⟩ := get_lt (show i < z4.length by omega)
    (conv => whnf)
    refine ⟨(i + 1, z4), by dsimp only; omega, ⟨by dsimp only; omega, hl4⟩, ?_⟩
    ((conv => whnf); simp only [St.mk.injEq, List.cons.injEq, Prod.mk.injEq, AV.c.injEq, AV.agg.injEq, AV.tup.injEq, CV.d.injEq, D.int.injEq, D.bool.injEq, D.str.injEq, D.sl.injEq, Ent.arr.injEq, Ent.box.injEq, true_and, and_true, and_self, nInt_eq, Int.natCast_zero, dLen_eL, sLen_eq, e1, e2, e3, e4, e5, wI h1 (by omega)])
    omega
  · obtain rfl : i = ns.length := by omega
    (conv => whnf)

theorem markTree_lost (ns : List Nd) (k : Int) (hk : 0 ≤ k ∧ k ≤ 1000000000000) (hx : ns.length ≤ 1000000000) : FnSpecJ PR f_laws_markTree [.agg [.ref 0 0 none], ai k] [(0, .arr t_impl_Node 5 0 .own (eL cN ns))] 1 (ai (k + 5 * ns.length)) := by
  refine FnSpecJ.intro hT p_laws_markTree rfl (by kernel_rfl) n_laws_markTree rfl rfl rfl ?_
  (conv => whnf)
  refine .inr (.inr (.inr (.inl ⟨[(0, 0)], ?_⟩)))
  (conv => whnf)
  refine ⟨[.c (.ref 0 0 none), ai k], _, ⟨rfl, rfl, rfl⟩, markNodeS_lost ns k hk hx, ?_⟩
  (conv => whnf)


/-- The digits of a number, ahead of what stands. -/
def digs : Nat → Nat → ByteArray → ByteArray
  | 0, _, s => s
  | m + 1, n, s => if n = 0 then s else digs m (n / 10) (sApp ⟨#[UInt8.ofNat (48 + n % 10)]⟩ s)
def mtext (k : Int) : ByteArray := sApp ⟨#[109]⟩ (digs 20 k.toNat ⟨#[]⟩)
theorem markText_spec (k : Int) (hk : 0 < k ∧ k ≤ 1000000000000) : FnSpec PR f_laws_markText [ai k] (aS (mtext k)) [] 0 := by
  refine FnSpec.intro hT p_laws_markText rfl (by kernel_rfl) n_laws_markText rfl ?_
  conv => whnf
  rw [show iLe k 0 = false by simp; omega]
  (conv => whnf)
  obtain ⟨n, rfl⟩ : ∃ n : Nat, k = n := ⟨k.toNat, by omega⟩
  refine tri_loop hT [0, 3] (α := Nat × Nat × ByteArray) (fun x => { t := [(0, ai x.2.1), (3, aS x.2.2)], h := [], n := 0, N := 20 })
    (fun x => x.2.1 < 10 ^ x.1 ∧ x.1 ≤ 20 ∧ x.2.1 ≤ 1000000000000 ∧ x.2.2.size + x.1 ≤ 20 ∧ digs x.1 x.2.1 x.2.2 = digs 20 n ⟨#[]⟩) (fun x => x.1) (20, n, ⟨#[]⟩) (by (conv => whnf)) ⟨Nat.lt_of_le_of_lt (show n ≤ 1000000000000 by omega) (show 1000000000000 < 10 ^ 20 by decide), Nat.le_refl _, by dsimp only; omega, Nat.le_refl _, rfl⟩ ?_
  intro ⟨m, i, s⟩ ⟨h1, h2, h3, h4, h5⟩
  dsimp only at h1 h2 h3 h4 h5
  (conv => whnf)
  refine ifB_i (fun g => ?_) (fun g => ?_) <;> (conv => whnf) <;> simp only [nInt_eq, Int.natCast_zero, dLen_eL, sLen_eq, nOf_eq, Int.toNat_natCast, nAdd_eq, nSub_eq, dLen_nil, dLen_cons, iLt_t, iLt_f, iLe_t, iLe_f, iEq_t, iEq_f, sEq_t, sEq_f, bNot_t, bNot_f, bAnd_t, bEq_t, bEq_f, Bool.not_eq_true, Bool.not_eq_false, Bool.true_eq_false, Bool.false_eq_true] at g
  · obtain ⟨m, rfl⟩ : ∃ m', m = m' + 1 := ⟨m - 1, by rcases m with _ | m <;> simp_all <;> omega⟩
    refine And.intro (by simp [NZ]) ?_
    (conv => whnf)
    rw [wRem_ten]
    have e1 : wAdd .i64 48 ((i % 10 : Nat) : Int) = ((48 + i % 10 : Nat) : Int) := by rw [wAdd64] <;> omega
    rw [e1]
    have e2 : wConv .u8 ((48 + i % 10 : Nat) : Int) = ((48 + i % 10 : Nat) : Int) := by
      unfold wConv
      have : ∀ j, j < 10 → IntKind.u8.wrap ((48 + j : Nat) : Int) = ((48 + j : Nat) : Int) := by decide
      exact this _ (Nat.mod_lt _ (by decide))
    rw [e2]
    (conv => whnf)
    refine ⟨⟨#[UInt8.ofNat (48 + i % 10)]⟩, ?_, ?_⟩
    · simp only [encB, partOf, lenR, offR]
      have : ∀ j, j < 10 → (UInt8.ofNat (48 + j)).toNat = 48 + j := by decide
      have h6 := this (i % 10) (Nat.mod_lt _ (by decide))
      simp [h6]
      try omega
    (conv => whnf)
    refine And.intro (by unfold FitsS; have : (⟨#[UInt8.ofNat (48 + i % 10)]⟩ : ByteArray).size = 1 := rfl; dsimp only; omega) ?_
    (conv => whnf)
    refine And.intro (by simp [NZ]) ?_
    (conv => whnf)
    rw [wQuo_ten (by dsimp only; omega)]
    (conv => whnf)
    refine ⟨(m, i / 10, sApp ⟨#[UInt8.ofNat (48 + i % 10)]⟩ s), by dsimp only; omega, ⟨?_, by dsimp only; omega, by dsimp only; omega, ?_, ?_⟩, ?_⟩
    · dsimp only
      rw [Nat.pow_succ] at h1
      omega
    · dsimp only
      have : (sApp ⟨#[UInt8.ofNat (48 + i % 10)]⟩ s).size = 1 + s.size := by unfold sApp; rw [ByteArray.size_append]; rfl
      omega
    · dsimp only
      rw [← h5, digs, if_neg (by omega)]
    (conv => whnf)
  · have : digs m i s = s := by
      cases m with
      | zero => rfl
      | succ m => rw [digs, if_pos (by omega)]
    rw [this] at h5
    refine And.intro (by unfold FitsS; have : (⟨#[109]⟩ : ByteArray).size = 1 := rfl; dsimp only; omega) ?_
    (conv => whnf)
    rw [show mtext (n : Int) = sApp ⟨#[109]⟩ s by rw [h5]; rfl]

def marksS (k : Int) : Nat → List ByteArray
  | 0 => []
  | n + 1 => mtext k :: marksS (k + 1) n
theorem marksS_len : ∀ (n : Nat) (k : Int), (marksS k n).length = n
  | 0, _ => rfl
  | n + 1, k => by simp [marksS, marksS_len n]
theorem marksS_get : ∀ (n : Nat) (k : Int) (j : Nat), j < n → (marksS k n)[j]? = some (mtext (k + j))
  | 0, _, _, h => by omega
  | n + 1, k, 0, _ => by simp [marksS]
  | n + 1, k, j + 1, h => by simp only [marksS, List.getElem?_cons_succ]; rw [marksS_get n (k + 1) j (by omega)]; congr 2; omega
theorem cS_set (xs : List ByteArray) (k : Nat) (x y : ByteArray) : dSet (eL cS xs) k (dOver (cS x) 0 [.str y]) = eL cS (xs.set k y) := by
  rw [dOver_all (by rfl)]; exact eL_set cS xs k y
theorem markStringS_spec (xs : List ByteArray) (k : Int) (hk : 0 < k ∧ k + xs.length ≤ 1000000000000) (hx : xs.length ≤ 1000000000) : FnSpecM PR f_laws_markStringS [.c (.ref 0 0 none), ai k] t_string 1 (eL cS xs) (ai (k + xs.length)) (eL cS (marksS k xs.length)) := by
  refine FnSpecM.intro hT 0 p_laws_markStringS rfl (by kernel_rfl) n_laws_markStringS rfl rfl (by simp [eL_length, marksS_len]) rfl (flat_cS _) ?_
  intro v0
  (conv => whnf)
  refine tri_loop hT [0, 1, 5] (α := Nat × List ByteArray) (fun x => { t := [(0, .w (.ref 0 0 none) v0), (1, ai (k + x.1)), (5, ai x.1)], h := [(0, .arr t_string 1 0 .own (eL cS x.2))], n := 1, N := 20 })
    (fun x => x.1 ≤ xs.length ∧ x.2.length = xs.length ∧ ∀ j, j < x.1 → x.2[j]? = some (mtext (k + j))) (fun x => xs.length - x.1) (0, xs) (by ((conv => whnf); simp only [St.mk.injEq, List.cons.injEq, Prod.mk.injEq, AV.c.injEq, AV.agg.injEq, AV.tup.injEq, CV.d.injEq, D.int.injEq, D.bool.injEq, D.str.injEq, D.sl.injEq, Ent.arr.injEq, Ent.box.injEq, true_and, and_true, and_self, nInt_eq, Int.natCast_zero, dLen_eL, sLen_eq, Int.add_zero])) ⟨Nat.zero_le _, rfl, fun j hj => by omega⟩ ?_
  intro ⟨i, ys⟩ ⟨hi, hl, hj⟩
  dsimp only at hi hl hj
  (conv => whnf)
  refine ifB_i (fun h1 => ?_) (fun h1 => ?_) <;> (conv => whnf) <;> simp at h1
  · obtain ⟨y, hy⟩ := get_lt h1
    have hms := markText_spec (k + i) (by omega)
    refine .inl ⟨_, _, _, hms, rfl, ?_⟩
    (conv => whnf)
    refine ref_at (k := i) (by simp) (by simp; omega) ?_
    (conv => whnf)
    refine st_at (by simp) hy (by simp [cS]) ?_
    (conv => whnf)
    refine ⟨(i + 1, ys.set i (mtext (k + i))), by dsimp only; omega, ⟨by dsimp only; omega, by simp [hl], fun j hlt => ?_⟩, ?_⟩
    · dsimp only at hlt ⊢
      rw [List.getElem?_set]
      split
      · rename_i he; subst he; simp [hl, h1]
      · exact hj j (by omega)
    · ((conv => whnf); simp only [St.mk.injEq, List.cons.injEq, Prod.mk.injEq, AV.c.injEq, AV.agg.injEq, AV.tup.injEq, CV.d.injEq, D.int.injEq, D.bool.injEq, D.str.injEq, D.sl.injEq, Ent.arr.injEq, Ent.box.injEq, true_and, and_true, and_self, nInt_eq, Int.natCast_zero, dLen_eL, sLen_eq])
      refine ⟨⟨by rw [wAdd64] <;> omega, wI h1 (by omega)⟩, ?_⟩
      have := cS_set ys i y (mtext (k + i))
      simpa using this
  · obtain rfl : i = xs.length := by omega
    have : ys = marksS k xs.length := by
      apply List.ext_getElem?
      intro j
      rcases Nat.lt_or_ge j xs.length with q | q
      · rw [hj j q, marksS_get _ _ _ q]
      · rw [List.getElem?_eq_none (by omega), List.getElem?_eq_none (by rw [marksS_len]; omega)]
    subst this
    (conv => whnf)

def marksN (k : Int) : Nat → List Nd
  | 0 => []
  | n + 1 => ⟨k, k + 1, k + 2, k + 3, k + 4⟩ :: marksN (k + 5) n
theorem marksN_len : ∀ (n : Nat) (k : Int), (marksN k n).length = n
  | 0, _ => rfl
  | n + 1, k => by simp [marksN, marksN_len n]
theorem marksN_get : ∀ (n : Nat) (k : Int) (j : Nat), j < n → (marksN k n)[j]? = some ⟨k + 5 * j, k + 5 * j + 1, k + 5 * j + 2, k + 5 * j + 3, k + 5 * j + 4⟩
  | 0, _, _, h => by omega
  | n + 1, k, 0, _ => by simp [marksN]
  | n + 1, k, j + 1, h => by
    simp only [marksN, List.getElem?_cons_succ]
    rw [marksN_get n (k + 5) j (by omega)]
    simp only [Option.some.injEq, Nd.mk.injEq]
    omega
set_option maxHeartbeats 1000000 in
theorem markNodeS_spec (ns : List Nd) (k : Int) (hk : 0 ≤ k ∧ k ≤ 1000000000000) (hx : ns.length ≤ 1000000000) : FnSpecM PR f_laws_markNodeS [.c (.ref 0 0 none), ai k] t_impl_Node 5 (eL cN ns) (ai (k + 5 * ns.length)) (eL cN (marksN k ns.length)) := by
  refine FnSpecM.intro hT 0 p_laws_markNodeS rfl (by kernel_rfl) n_laws_markNodeS rfl rfl (by simp [eL_length, marksN_len]) rfl (flat_cN _) ?_
  intro v0
  (conv => whnf)
  refine tri_loop hT [0, 1, 5] (α := Nat × List Nd) (fun x => { t := [(0, .w (.ref 0 0 none) v0), (1, ai (k + 5 * x.1)), (5, ai x.1)], h := [(0, .arr t_impl_Node 5 0 .own (eL cN x.2))], n := 1, N := 48 })
    (fun x => x.1 ≤ ns.length ∧ x.2.length = ns.length ∧ ∀ j : Nat, j < x.1 → x.2[j]? = some ⟨k + 5 * j, k + 5 * j + 1, k + 5 * j + 2, k + 5 * j + 3, k + 5 * j + 4⟩) (fun x => ns.length - x.1) (0, ns) (by ((conv => whnf); simp only [St.mk.injEq, List.cons.injEq, Prod.mk.injEq, AV.c.injEq, AV.agg.injEq, AV.tup.injEq, CV.d.injEq, D.int.injEq, D.bool.injEq, D.str.injEq, D.sl.injEq, Ent.arr.injEq, Ent.box.injEq, true_and, and_true, and_self, nInt_eq, Int.natCast_zero, dLen_eL, sLen_eq]); simp) ⟨Nat.zero_le _, rfl, fun j hj => by omega⟩ ?_
  intro ⟨i, ys⟩ ⟨hi, hl, hj⟩
  dsimp only at hi hl hj
  (conv => whnf)
  refine ifB_i (fun h1 => ?_) (fun h1 => ?_) <;> (conv => whnf) <;> simp at h1
  · obtain ⟨y, hy⟩ := get_lt h1
    rw [hl] at h1
    have e1 : wAdd .i64 (k + 5 * (i : Int)) 1 = k + 5 * i + 1 := by rw [wAdd64] <;> omega
    have e2 : wAdd .i64 (k + 5 * (i : Int) + 1) 1 = k + 5 * i + 2 := by rw [wAdd64] <;> omega
    have e3 : wAdd .i64 (k + 5 * (i : Int) + 2) 1 = k + 5 * i + 3 := by rw [wAdd64] <;> omega
    have e4 : wAdd .i64 (k + 5 * (i : Int) + 3) 1 = k + 5 * i + 4 := by rw [wAdd64] <;> omega
    have e5 : wAdd .i64 (k + 5 * (i : Int) + 4) 1 = k + 5 * i + 5 := by rw [wAdd64] <;> omega
    have ei : nAdd (offR none) (nOf ((i : Nat) : Int)) = i := by simp
    dsimp only
    obtain ⟨K, hK⟩ : ∃ K : Int, K = k + 5 * i := ⟨_, rfl⟩
    rw [← hK] at e1 e2 e3 e4 e5 ⊢
    skip
    refine ref_at (k := i) (by simp) (by simp; omega) ?_
    (conv => whnf)
    refine st_at (k := i) (by simp) hy (by simp [cN]) ?_
    dsimp only
    rw [ei, cN_set0]
    have q0 : (ys.set i (⟨K, y.c, y.l, y.r, y.v⟩ : Nd))[i]? = some (⟨K, y.c, y.l, y.r, y.v⟩ : Nd) := by rw [List.getElem?_set]; simp [hl, h1]
    have l0 : (ys.set i (⟨K, y.c, y.l, y.r, y.v⟩ : Nd)).length = ns.length := by simp [hl]
    have r0 : ∀ j, j ≠ i → (ys.set i (⟨K, y.c, y.l, y.r, y.v⟩ : Nd))[j]? = ys[j]? := fun j hj => by rw [List.getElem?_set, if_neg (fun h => hj h.symm)]
    generalize z0e : ys.set i (⟨K, y.c, y.l, y.r, y.v⟩ : Nd) = z0 at *
    (conv => whnf)
    rw [e1]
    refine ref_at (k := i) (by simp) (by simp; omega) ?_
    (conv => whnf)
    refine st_at (k := i) (by simp) q0 (by simp [cN]) ?_
    dsimp only
    rw [ei, cN_set1]
    have q1 : (z0.set i (⟨K, K + 1, y.l, y.r, y.v⟩ : Nd))[i]? = some (⟨K, K + 1, y.l, y.r, y.v⟩ : Nd) := by rw [List.getElem?_set]; simp [l0, h1]
    have l1 : (z0.set i (⟨K, K + 1, y.l, y.r, y.v⟩ : Nd)).length = ns.length := by simp [l0]
    have r1 : ∀ j, j ≠ i → (z0.set i (⟨K, K + 1, y.l, y.r, y.v⟩ : Nd))[j]? = z0[j]? := fun j hj => by rw [List.getElem?_set, if_neg (fun h => hj h.symm)]
    generalize z1e : z0.set i (⟨K, K + 1, y.l, y.r, y.v⟩ : Nd) = z1 at *
    (conv => whnf)
    rw [e2]
    refine ref_at (k := i) (by simp) (by simp; omega) ?_
    (conv => whnf)
    refine st_at (k := i) (by simp) q1 (by simp [cN]) ?_
    dsimp only
    rw [ei, cN_set2]
    have q2 : (z1.set i (⟨K, K + 1, K + 2, y.r, y.v⟩ : Nd))[i]? = some (⟨K, K + 1, K + 2, y.r, y.v⟩ : Nd) := by rw [List.getElem?_set]; simp [l1, h1]
    have l2 : (z1.set i (⟨K, K + 1, K + 2, y.r, y.v⟩ : Nd)).length = ns.length := by simp [l1]
    have r2 : ∀ j, j ≠ i → (z1.set i (⟨K, K + 1, K + 2, y.r, y.v⟩ : Nd))[j]? = z1[j]? := fun j hj => by rw [List.getElem?_set, if_neg (fun h => hj h.symm)]
    generalize z2e : z1.set i (⟨K, K + 1, K + 2, y.r, y.v⟩ : Nd) = z2 at *
    (conv => whnf)
    rw [e3]
    refine ref_at (k := i) (by simp) (by simp; omega) ?_
    (conv => whnf)
    refine st_at (k := i) (by simp) q2 (by simp [cN]) ?_
    dsimp only
    rw [ei, cN_set3]
    have q3 : (z2.set i (⟨K, K + 1, K + 2, K + 3, y.v⟩ : Nd))[i]? = some (⟨K, K + 1, K + 2, K + 3, y.v⟩ : Nd) := by rw [List.getElem?_set]; simp [l2, h1]
    have l3 : (z2.set i (⟨K, K + 1, K + 2, K + 3, y.v⟩ : Nd)).length = ns.length := by simp [l2]
    have r3 : ∀ j, j ≠ i → (z2.set i (⟨K, K + 1, K + 2, K + 3, y.v⟩ : Nd))[j]? = z2[j]? := fun j hj => by rw [List.getElem?_set, if_neg (fun h => hj h.symm)]
    generalize z3e : z2.set i (⟨K, K + 1, K + 2, K + 3, y.v⟩ : Nd) = z3 at *
    (conv => whnf)
    rw [e4]
    refine ref_at (k := i) (by simp) (by simp; omega) ?_
    (conv => whnf)
    refine st_at (k := i) (by simp) q3 (by simp [cN]) ?_
    dsimp only
    rw [ei, cN_set4]
    have q4 : (z3.set i (⟨K, K + 1, K + 2, K + 3, K + 4⟩ : Nd))[i]? = some (⟨K, K + 1, K + 2, K + 3, K + 4⟩ : Nd) := by rw [List.getElem?_set]; simp [l3, h1]
    have l4 : (z3.set i (⟨K, K + 1, K + 2, K + 3, K + 4⟩ : Nd)).length = ns.length := by simp [l3]
    have r4 : ∀ j, j ≠ i → (z3.set i (⟨K, K + 1, K + 2, K + 3, K + 4⟩ : Nd))[j]? = z3[j]? := fun j hj => by rw [List.getElem?_set, if_neg (fun h => hj h.symm)]
    generalize z4e : z3.set i (⟨K, K + 1, K + 2, K + 3, K + 4⟩ : Nd) = z4 at *
    (conv => whnf)
    rw [e5]
    refine ⟨(i + 1, z4), by dsimp only; omega, ⟨by dsimp only; omega, l4, fun j hlt => ?_⟩, ?_⟩
    · dsimp only at hlt ⊢
      rcases Nat.lt_or_ge j i with q | q
      · rw [r4 j (by omega), r3 j (by omega), r2 j (by omega), r1 j (by omega), r0 j (by omega), hj j q]
      · obtain rfl : j = i := by omega
        rw [q4, hK]
    · ((conv => whnf); simp only [St.mk.injEq, List.cons.injEq, Prod.mk.injEq, AV.c.injEq, AV.agg.injEq, AV.tup.injEq, CV.d.injEq, D.int.injEq, D.bool.injEq, D.str.injEq, D.sl.injEq, Ent.arr.injEq, Ent.box.injEq, true_and, and_true, and_self, nInt_eq, Int.natCast_zero, dLen_eL, sLen_eq, wI h1 (by omega)])
      omega
  · obtain rfl : i = ns.length := by omega
    have : ys = marksN k ns.length := by
      apply List.ext_getElem?
      intro j
      rcases Nat.lt_or_ge j ns.length with q | q
      · rw [hj j q, marksN_get _ _ _ q]
      · rw [List.getElem?_eq_none (by omega), List.getElem?_eq_none (by rw [marksN_len]; omega)]
    subst this
    (conv => whnf)
end Go.H.S
