/- Library, part Q: what the shape of a right tree says (plain). -/
import Derived.Test.YtbclkplebkencaaLP
namespace Go.H.S
open Go Go.Proofs Go.H
set_option linter.unusedSimpArgs false
set_option linter.unusedVariables false


theorem shape_leaf {ft : Int} : ∀ {l : List Nd} {i next m : Int}, shapeL ft l i next = some m → ∀ {j : Nat} {n : Nd}, l[j]? = some n → n.f = -1 → leafBad n = false
  | [], i, next, m, h, j, n, hj, hf => by simp at hj
  | x :: r, i, next, m, h, j, n, hj, hf => by
    simp only [shapeL] at h
    cases j with
    | zero =>
      simp at hj
      subst hj
      rw [if_pos hf] at h
      cases hb : leafBad x with
      | false => rfl
      | true => simp [hb] at h
    | succ j =>
      rw [List.getElem?_cons_succ] at hj
      split at h
      · split at h
        · cases h
        · exact shape_leaf h hj hf
      · split at h
        · cases h
        · exact shape_leaf h hj hf
theorem shape_inner {ft : Int} : ∀ {l : List Nd} {i next m : Int}, shapeL ft l i next = some m → ∀ {j : Nat} {n : Nd}, l[j]? = some n → n.f ≠ -1 → ∃ nx, next ≤ nx ∧ nx + 2 ≤ m ∧ innerBad n ft (i + j) nx = false
  | [], i, next, m, h, j, n, hj, hf => by simp at hj
  | x :: r, i, next, m, h, j, n, hj, hf => by
    have mono : ∀ {l : List Nd} {i a b : Int}, shapeL ft l i a = some b → a ≤ b := by
      intro l
      induction l with
      | nil => intro i a b h; simp [shapeL] at h; omega
      | cons y s ih =>
        intro i a b h
        simp only [shapeL] at h
        split at h
        · split at h
          · cases h
          · exact ih h
        · split at h
          · cases h
          · have := ih h; omega
    simp only [shapeL] at h
    cases j with
    | zero =>
      simp at hj
      subst hj
      rw [if_neg hf] at h
      cases hb : innerBad x ft i next with
      | false =>
        rw [hb] at h
        simp at h
        exact ⟨next, Int.le_refl _, mono h, by simpa using hb⟩
      | true => simp [hb] at h
    | succ j =>
      rw [List.getElem?_cons_succ] at hj
      split at h
      · split at h
        · cases h
        · obtain ⟨nx, h1, h2, h3⟩ := shape_inner h hj hf
          exact ⟨nx, h1, h2, by rw [show i + ((j + 1 : Nat) : Int) = i + 1 + j by omega]; exact h3⟩
      · split at h
        · cases h
        · obtain ⟨nx, h1, h2, h3⟩ := shape_inner h hj hf
          exact ⟨nx, by omega, h2, by rw [show i + ((j + 1 : Nat) : Int) = i + 1 + j by omega]; exact h3⟩
/-- An inner node of a right tree: its children lie behind it, within the tree. -/
theorem shape_kids {t : List Nd} {ft : Int} (h : shapeOk t ft = true) {j : Nat} {n : Nd} (hj : t[j]? = some n) (hf : n.f ≠ -1) :
    0 ≤ n.f ∧ n.f < ft ∧ n.v = 0 ∧ (j : Int) < n.l ∧ n.r = n.l + 1 ∧ n.r < t.length ∧ -2147483647 ≤ n.c ∧ n.c ≤ 2147483647 := by
  have hs : shapeL ft t 0 1 = some (t.length : Int) := by simpa [shapeOk] using h
  obtain ⟨nx, h1, h2, h3⟩ := shape_inner hs hj hf
  simp [innerBad] at h3
  omega
theorem shape_value {t : List Nd} {ft : Int} (h : shapeOk t ft = true) {j : Nat} {n : Nd} (hj : t[j]? = some n) (hf : n.f = -1) :
    -1099511627776 ≤ n.v ∧ n.v ≤ 1099511627776 := by
  have hs : shapeL ft t 0 1 = some (t.length : Int) := by simpa [shapeOk] using h
  have h3 := shape_leaf hs hj hf
  simp [leafBad] at h3
  omega
/-- Children come in order, each once. -/
theorem shape_order {ft : Int} : ∀ {l : List Nd} {i next m : Int}, shapeL ft l i next = some m → ∀ {j j' : Nat} {n n' : Nd}, l[j]? = some n → l[j']? = some n' → n.f ≠ -1 → n'.f ≠ -1 → j < j' → n.l + 2 ≤ n'.l
  | [], i, next, m, h, j, j', n, n', hj, hj', hf, hf', hlt => by simp at hj
  | x :: r, i, next, m, h, j, j', n, n', hj, hj', hf, hf', hlt => by
    obtain ⟨k, rfl⟩ : ∃ k, j' = k + 1 := ⟨j' - 1, by omega⟩
    rw [List.getElem?_cons_succ] at hj'
    simp only [shapeL] at h
    cases j with
    | zero =>
      simp at hj
      subst hj
      rw [if_neg hf] at h
      cases hb : innerBad x ft i next with
      | true => simp [hb] at h
      | false =>
        rw [hb] at h
        simp at h
        obtain ⟨nx, h1, h2, h3⟩ := shape_inner h hj' hf'
        simp [innerBad] at h3 hb
        omega
    | succ j =>
      rw [List.getElem?_cons_succ] at hj
      split at h
      · split at h
        · cases h
        · exact shape_order h hj hj' hf hf' (by omega)
      · split at h
        · cases h
        · exact shape_order h hj hj' hf hf' (by omega)
theorem shape_once {t : List Nd} {ft : Int} (h : shapeOk t ft = true) {j j' : Nat} {n n' : Nd} (hj : t[j]? = some n) (hj' : t[j']? = some n') (hf : n.f ≠ -1) (hf' : n'.f ≠ -1) {x : Int}
    (hx : n.l = x ∨ n.r = x) (hx' : n'.l = x ∨ n'.r = x) : j = j' := by
  have hs : shapeL ft t 0 1 = some (t.length : Int) := by simpa [shapeOk] using h
  have k1 := shape_kids h hj hf
  have k2 := shape_kids h hj' hf'
  rcases Nat.lt_trichotomy j j' with q | q | q
  · have := shape_order hs hj hj' hf hf' q
    omega
  · exact q
  · have := shape_order hs hj' hj hf' hf q
    omega
theorem idxL_at {α : Type} (p : α → Bool) : ∀ (l : List α) (k : Nat), 0 ≤ idxL p l k → ∃ (j : Nat) (x : α), idxL p l k = k + j ∧ l[j]? = some x ∧ p x = true
  | [], k, h => by simp [idxL] at h
  | x :: r, k, h => by
    simp only [idxL] at h ⊢
    split
    · exact ⟨0, x, by simp, rfl, by assumption⟩
    · rename_i hp
      rw [if_neg hp] at h
      obtain ⟨j, y, h1, h2, h3⟩ := idxL_at p r (k + 1) h
      exact ⟨j + 1, y, by rw [h1]; omega, by rw [List.getElem?_cons_succ]; exact h2, h3⟩
theorem idxL_ge {α : Type} (p : α → Bool) : ∀ (l : List α) (k : Nat) {j : Nat} {x : α}, l[j]? = some x → p x = true → 0 ≤ idxL p l k
  | [], k, j, x, h, hp => by simp at h
  | y :: r, k, j, x, h, hp => by
    simp only [idxL]
    split
    · omega
    · cases j with
      | zero => simp at h; subst h; contradiction
      | succ j => rw [List.getElem?_cons_succ] at h; exact idxL_ge p r (k + 1) h hp
/-- The parent, where there is one. -/
theorem up_at {t : List Nd} {ft : Int} (h : shapeOk t ft = true) {x : Int} (hx : 0 ≤ up t x) : ∃ (j : Nat) (n : Nd), up t x = j ∧ t[j]? = some n ∧ n.f ≠ -1 ∧ (n.l = x ∨ n.r = x) ∧ up t x < x := by
  obtain ⟨j, n, h1, h2, h3⟩ := idxL_at _ _ _ hx
  have h3' : n.f ≠ -1 ∧ (n.l = x ∨ n.r = x) := by simpa [pUp] using h3
  have hk := shape_kids h h2 h3'.1
  have hu : up t x = j := by unfold up; rw [h1]; simp
  exact ⟨j, n, hu, h2, h3'.1, h3'.2, by omega⟩
theorem up_kid {t : List Nd} {ft : Int} (h : shapeOk t ft = true) {j : Nat} {n : Nd} (hj : t[j]? = some n) (hf : n.f ≠ -1) {x : Int} (hx : n.l = x ∨ n.r = x) : up t x = j := by
  have h0 : 0 ≤ up t x := idxL_ge _ _ _ hj (by simp only [pUp, Bool.and_eq_true, Bool.or_eq_true, decide_eq_true_eq]; exact ⟨hf, hx⟩)
  obtain ⟨j', n', h1, h2, h3, h4, _⟩ := up_at h h0
  rw [h1, shape_once h h2 hj h3 hf h4 hx]
/-- z lies on the way from x to the root. -/
inductive Anc (t : List Nd) : Int → Int → Prop
  | refl (x : Int) : Anc t x x
  | up {z x : Int} : 0 ≤ up t x → Anc t z (up t x) → Anc t z x
theorem steps_anc {t : List Nd} {ft : Int} (h : shapeOk t ft = true) : ∀ (n : Nat) (x : Int), x < n → ∃ l, steps t (n + 1) x = some l ∧ ∀ z, z ∈ l ↔ Anc t z x := by
  intro n
  induction n with
  | zero =>
    intro x hx
    have hneg : up t x < 0 := by
      rcases Int.lt_or_le (up t x) 0 with q | q
      · exact q
      · obtain ⟨_, _, _, _, _, _, q2⟩ := up_at h q
        omega
    refine ⟨[x], by simp [steps, hneg], fun z => ?_⟩
    constructor
    · intro hz; simp at hz; subst hz; exact .refl _
    · intro hz
      cases hz with
      | refl => simp
      | up q _ => omega
  | succ n ih =>
    intro x hx
    rcases Int.lt_or_le (up t x) 0 with q | q
    · refine ⟨[x], by simp [steps, q], fun z => ?_⟩
      constructor
      · intro hz; simp at hz; subst hz; exact .refl _
      · intro hz
        cases hz with
        | refl => simp
        | up q' _ => omega
    · obtain ⟨_, _, _, _, _, _, q2⟩ := up_at h q
      obtain ⟨l, h1, h2⟩ := ih (up t x) (by omega)
      refine ⟨x :: l, ?_, fun z => ?_⟩
      · rw [steps, if_neg (by omega), h1]; rfl
      · rw [List.mem_cons, h2]
        constructor
        · rintro (rfl | hz)
          · exact .refl _
          · exact .up q hz
        · intro hz
          cases hz with
          | refl => exact .inl rfl
          | up _ hz => exact .inr hz
theorem Anc.trans {t : List Nd} {a b c : Int} (h1 : Anc t a b) (h2 : Anc t b c) : Anc t a c := by
  induction h2 with
  | refl => exact h1
  | up q _ ih => exact .up q ih
theorem anc_below {t : List Nd} {x y : Int} (h : Anc t x y) : x = y ∨ ∃ c, 0 ≤ up t c ∧ up t c = x ∧ Anc t c y := by
  induction h with
  | refl => exact .inl rfl
  | @up y q h ih =>
    rcases ih with e | ⟨c, h1, h2, h3⟩
    · exact .inr ⟨y, q, e.symm, .refl _⟩
    · exact .inr ⟨c, h1, h2, .up q h3⟩
theorem anc_kid {t : List Nd} {ft : Int} (h : shapeOk t ft = true) {j : Nat} {n : Nd} (hj : t[j]? = some n) (hf : n.f ≠ -1) {y : Int} (hy : y ≠ j) : Anc t j y ↔ Anc t n.l y ∨ Anc t n.r y := by
  constructor
  · intro ha
    rcases anc_below ha with e | ⟨c, h1, h2, h3⟩
    · exact absurd e.symm hy
    · obtain ⟨j', n', q1, q2, q3, q4, _⟩ := up_at h h1
      obtain rfl : j' = j := by omega
      rw [hj] at q2
      cases q2
      rcases q4 with rfl | rfl
      · exact .inl h3
      · exact .inr h3
  · have hl : Anc t j n.l := .up (by rw [up_kid h hj hf (.inl rfl)]; omega) (by rw [up_kid h hj hf (.inl rfl)]; exact .refl _)
    have hr : Anc t j n.r := .up (by rw [up_kid h hj hf (.inr rfl)]; omega) (by rw [up_kid h hj hf (.inr rfl)]; exact .refl _)
    rintro (ha | ha)
    · exact hl.trans ha
    · exact hr.trans ha
theorem way_anc {t : List Nd} {ft : Int} (h : shapeOk t ft = true) (hl : t.length ≤ 31) {x : Int} (hx : 0 ≤ x ∧ x < t.length) (z : Int) : z ∈ wayL t x ↔ Anc t z x := by
  obtain ⟨l, h1, h2⟩ := steps_anc h 31 x (by omega)
  unfold wayL
  rw [if_pos (by omega), h1]
  simp [h2]
end Go.H.S
