/- Library, part S: spans in a right tree (plain). -/
import Derived.Test.YtbclkplebkencaaLQ
namespace Go.H.S
open Go Go.Proofs Go.H
set_option linter.unusedSimpArgs false
set_option linter.unusedVariables false


/-- The least and the greatest of these values, or none. -/
def IsSpan (S : Int → Prop) (a : Int × Int × Bool) : Prop :=
  (a.2.2 = true → S a.1 ∧ S a.2.1 ∧ ∀ v, S v → a.1 ≤ v ∧ v ≤ a.2.1) ∧ (a.2.2 = false → ∀ v, ¬ S v)
theorem IsSpan.congr {S S' : Int → Prop} {a : Int × Int × Bool} (h : IsSpan S a) (he : ∀ v, S v ↔ S' v) : IsSpan S' a := by
  have : S = S' := funext fun v => propext (he v)
  rw [← this]; exact h
theorem span_fold (t : List Nd) (node : Int) : ∀ (l : List Int) (S : Int → Prop) (a : Int × Int × Bool), IsSpan S a → IsSpan (fun v => S v ∨ ∃ y ∈ l, node ∈ wayL t y ∧ vAt t y = v) (l.foldl (spanStep t node) a)
  | [], S, a, h => h.congr fun v => by simp
  | y :: r, S, a, h => by
    rw [List.foldl_cons]
    have h1 : IsSpan (fun v => S v ∨ (node ∈ wayL t y ∧ vAt t y = v)) (spanStep t node a y) := by
      obtain ⟨lo, hi, ok⟩ := a
      unfold spanStep
      by_cases hy : node ∈ wayL t y
      · rw [if_pos hy]
        cases ok with
        | false =>
          refine ⟨fun _ => ⟨.inr ⟨hy, rfl⟩, .inr ⟨hy, rfl⟩, fun v hv => ?_⟩, fun q => by cases q⟩
          rcases hv with hv | ⟨_, rfl⟩
          · exact absurd hv (h.2 rfl v)
          · exact ⟨Int.le_refl _, Int.le_refl _⟩
        | true =>
          obtain ⟨q1, q2, q3⟩ := h.1 rfl
          have key : ∀ m : Int, (m = lo ∨ m = hi ∨ m = vAt t y) → S m ∨ (node ∈ wayL t y ∧ vAt t y = m) := fun m hm => by
            rcases hm with rfl | rfl | rfl
            · exact .inl q1
            · exact .inl q2
            · exact .inr ⟨hy, rfl⟩
          refine ⟨fun _ => ⟨key _ (by simp only [if_true]; omega), key _ (by simp only [if_true]; omega), fun v hv => ?_⟩, fun q => by cases q⟩
          simp only [if_true]
          rcases hv with hv | ⟨_, rfl⟩
          · have := q3 v hv; simp only at this; omega
          · omega
      · rw [if_neg hy]
        exact h.congr fun v => by simp [hy]
    refine (span_fold t node r _ _ h1).congr fun v => ?_
    simp only [List.mem_cons]
    constructor
    · rintro ((h | h) | ⟨z, hz, h⟩)
      · exact .inl h
      · exact .inr ⟨y, .inl rfl, h⟩
      · exact .inr ⟨z, .inr hz, h⟩
    · rintro (h | ⟨z, rfl | hz, h⟩)
      · exact .inl (.inl h)
      · exact .inl (.inr h)
      · exact .inr ⟨z, hz, h⟩
theorem spanL_spec (t : List Nd) (node : Int) : IsSpan (fun v => ∃ y ∈ leavesK t 0, node ∈ wayL t y ∧ vAt t y = v) (spanL t node) :=
  (span_fold t node (leavesK t 0) (fun _ => False) (0, 0, false) ⟨fun h => (by cases h), fun _ _ h => h⟩).congr fun v => by simp
theorem leaf_mem : ∀ (t : List Nd) (k : Nat) (y : Int), y ∈ leavesK t k ↔ ∃ (j : Nat) (n : Nd), y = (k : Int) + j ∧ t[j]? = some n ∧ n.f = -1
  | [], k, y => by simp [leavesK]
  | x :: r, k, y => by
    have ih := leaf_mem r (k + 1) y
    have hstep : (∃ (j : Nat) (n : Nd), y = (k : Int) + j ∧ (x :: r)[j]? = some n ∧ n.f = -1) ↔ (y = k ∧ x.f = -1) ∨ ∃ (j : Nat) (n : Nd), y = ((k + 1 : Nat) : Int) + j ∧ r[j]? = some n ∧ n.f = -1 := by
      constructor
      · rintro ⟨j, n, h1, h2, h3⟩
        cases j with
        | zero => simp at h2; subst h2; exact .inl ⟨by omega, h3⟩
        | succ j => rw [List.getElem?_cons_succ] at h2; exact .inr ⟨j, n, by omega, h2, h3⟩
      · rintro (⟨h1, h2⟩ | ⟨j, n, h1, h2, h3⟩)
        · exact ⟨0, x, by omega, by simp, h2⟩
        · exact ⟨j + 1, n, by omega, by rw [List.getElem?_cons_succ]; exact h2, h3⟩
    rw [hstep, ← ih]
    simp only [leavesK]
    split
    · rename_i hf; simp [hf]
    · rename_i hf; simp [hf]
/-- The values of the leaves below x. -/
def Under (t : List Nd) (x v : Int) : Prop := ∃ (j : Nat) (n : Nd), t[j]? = some n ∧ n.f = -1 ∧ Anc t x j ∧ n.v = v
theorem span_under {t : List Nd} {ft : Int} (h : shapeOk t ft = true) (hl : t.length ≤ 31) (x : Int) : IsSpan (Under t x) (spanL t x) := by
  refine (spanL_spec t x).congr fun v => ?_
  constructor
  · rintro ⟨y, hy, hw, rfl⟩
    obtain ⟨j, n, h1, h2, h3⟩ := (leaf_mem t 0 y).1 hy
    obtain rfl : y = j := by omega
    have hj : j < t.length := (List.getElem?_eq_some_iff.1 h2).1
    exact ⟨j, n, h2, h3, (way_anc h hl ⟨by omega, by omega⟩ x).1 hw, by simp [vAt, h2]⟩
  · rintro ⟨j, n, h2, h3, ha, rfl⟩
    have hj : j < t.length := (List.getElem?_eq_some_iff.1 h2).1
    exact ⟨j, (leaf_mem t 0 j).2 ⟨j, n, by omega, h2, h3⟩, (way_anc h hl ⟨by omega, by omega⟩ x).2 ha, by simp [vAt, h2]⟩
theorem under_kids {t : List Nd} {ft : Int} (h : shapeOk t ft = true) {j : Nat} {n : Nd} (hj : t[j]? = some n) (hf : n.f ≠ -1) (v : Int) : Under t j v ↔ Under t n.l v ∨ Under t n.r v := by
  constructor
  · rintro ⟨i, m, h1, h2, h3, h4⟩
    have hne : (i : Int) ≠ j := fun e => by
      have : i = j := by omega
      subst this
      rw [hj] at h1; cases h1
      exact hf h2
    rcases (anc_kid h hj hf hne).1 h3 with q | q
    · exact .inl ⟨i, m, h1, h2, q, h4⟩
    · exact .inr ⟨i, m, h1, h2, q, h4⟩
  · rintro (⟨i, m, h1, h2, h3, h4⟩ | ⟨i, m, h1, h2, h3, h4⟩) <;> refine ⟨i, m, h1, h2, (anc_kid h hj hf (fun e => ?_)).2 (by first | exact .inl h3 | exact .inr h3), h4⟩
    all_goals
      have : i = j := by omega
      subst this
      rw [hj] at h1; cases h1
      exact hf h2
theorem under_leaf {t : List Nd} {ft : Int} (h : shapeOk t ft = true) {j : Nat} {n : Nd} (hj : t[j]? = some n) (hf : n.f = -1) (v : Int) : Under t j v ↔ v = n.v := by
  constructor
  · rintro ⟨i, m, h1, h2, h3, h4⟩
    rcases anc_below h3 with e | ⟨c, q1, q2, _⟩
    · obtain rfl : j = i := by omega
      rw [hj] at h1; cases h1
      exact h4.symm
    · obtain ⟨j', n', r1, r2, r3, _, _⟩ := up_at h q1
      obtain rfl : j' = j := by omega
      rw [hj] at r2; cases r2
      exact absurd hf r3
  · rintro rfl
    exact ⟨j, n, hj, hf, .refl _, rfl⟩
theorem under_some {t : List Nd} {ft : Int} (h : shapeOk t ft = true) : ∀ (d j : Nat), j < t.length → t.length - j ≤ d → ∃ v, Under t j v
  | 0, j, h1, h2 => by omega
  | d + 1, j, h1, h2 => by
    obtain ⟨n, hj⟩ : ∃ n, t[j]? = some n := ⟨t[j], List.getElem?_eq_getElem h1⟩
    by_cases hf : n.f = -1
    · exact ⟨n.v, (under_leaf h hj hf _).2 rfl⟩
    · have hk := shape_kids h hj hf
      obtain ⟨v, hv⟩ := under_some h d n.l.toNat (by omega) (by omega)
      rw [show ((n.l.toNat : Nat) : Int) = n.l by omega] at hv
      exact ⟨v, (under_kids h hj hf v).2 (.inl hv)⟩
/-- The span of an inner node, from its children's. -/
theorem span_law {t : List Nd} {ft : Int} (h : shapeOk t ft = true) (hl : t.length ≤ 31) {j : Nat} {n : Nd} (hj : t[j]? = some n) (hf : n.f ≠ -1) :
    (spanL t j).1 = min (spanL t n.l).1 (spanL t n.r).1 ∧ (spanL t j).2.1 = max (spanL t n.l).2.1 (spanL t n.r).2.1 := by
  have hk := shape_kids h hj hf
  have hj' : j < t.length := (List.getElem?_eq_some_iff.1 hj).1
  have some' : ∀ x : Int, 0 ≤ x → x < t.length → (spanL t x).2.2 = true := fun x h0 h1 => by
    cases hb : (spanL t x).2.2 with
    | true => rfl
    | false =>
      obtain ⟨v, hv⟩ := under_some h (t.length - x.toNat) x.toNat (by omega) (Nat.le_refl _)
      rw [show ((x.toNat : Nat) : Int) = x by omega] at hv
      exact absurd hv ((span_under h hl x).2 hb v)
  obtain ⟨a1, a2, a3⟩ := (span_under h hl j).1 (some' j (by omega) (by omega))
  obtain ⟨b1, b2, b3⟩ := (span_under h hl n.l).1 (some' n.l (by omega) (by omega))
  obtain ⟨c1, c2, c3⟩ := (span_under h hl n.r).1 (some' n.r (by omega) (by omega))
  have e := under_kids h hj hf
  have k1 := a3 _ ((e _).2 (.inl b1))
  have k2 := a3 _ ((e _).2 (.inl b2))
  have k3 := a3 _ ((e _).2 (.inr c1))
  have k4 := a3 _ ((e _).2 (.inr c2))
  constructor
  · rcases (e _).1 a1 with q | q
    · have := b3 _ q; omega
    · have := c3 _ q; omega
  · rcases (e _).1 a2 with q | q
    · have := b3 _ q; omega
    · have := c3 _ q; omega
theorem span_leaf {t : List Nd} {ft : Int} (h : shapeOk t ft = true) (hl : t.length ≤ 31) {j : Nat} {n : Nd} (hj : t[j]? = some n) (hf : n.f = -1) : spanL t j = (n.v, n.v, true) := by
  have hs := span_under h hl j
  have e := under_leaf h hj hf
  cases hb : (spanL t j).2.2 with
  | false => exact absurd ((e _).2 rfl) (hs.2 hb n.v)
  | true =>
    obtain ⟨a1, a2, _⟩ := hs.1 hb
    have := (e _).1 a1
    have := (e _).1 a2
    refine Prod.ext ?_ (Prod.ext ?_ ?_) <;> simp_all
end Go.H.S
namespace Go.H.S
open Go Go.Proofs Go.H
set_option linter.unusedSimpArgs false
set_option linter.unusedVariables false


/-- Where a row ends, from x on: the leaf. g decides at each inner node: go left. -/
inductive Ends (t : List Nd) (g : Nd → Bool) : Int → Nat → Prop
  | leaf {j : Nat} {n : Nd} : t[j]? = some n → n.f = -1 → Ends t g j j
  | left {j k : Nat} {n : Nd} : t[j]? = some n → n.f ≠ -1 → g n = true → Ends t g n.l k → Ends t g j k
  | right {j k : Nat} {n : Nd} : t[j]? = some n → n.f ≠ -1 → g n = false → Ends t g n.r k → Ends t g j k
theorem ends_under {t : List Nd} {ft : Int} (h : shapeOk t ft = true) {g : Nd → Bool} {x : Int} {k : Nat} (he : Ends t g x k) : Under t x (vAt t k) := by
  induction he with
  | @leaf j n hj hf => exact (under_leaf h hj hf _).2 (by simp [vAt, hj])
  | left hj hf _ _ ih => exact (under_kids h hj hf _).2 (.inl ih)
  | right hj hf _ _ ih => exact (under_kids h hj hf _).2 (.inr ih)
/-- Two rows that part at nodes of the feature alone, the first to the left there, the second to the right. -/
theorem ends_rise {t : List Nd} {ft : Int} (h : shapeOk t ft = true) (hl : t.length ≤ 31) {f : Int} {g g' : Nd → Bool} (hg : ∀ n, n.f ≠ f → g n = g' n) (hg2 : ∀ n, n.f = f → g' n = true → g n = true)
    (hfol : ∀ (j : Nat) (n : Nd), t[j]? = some n → n.f ≠ -1 → n.f = f → (spanL t n.l).2.1 ≤ (spanL t n.r).1) {x : Int} {k : Nat} (he : Ends t g x k) : ∀ {k' : Nat}, Ends t g' x k' → vAt t k ≤ vAt t k' := by
  have sp : ∀ {y v : Int}, Under t y v → (spanL t y).1 ≤ v ∧ v ≤ (spanL t y).2.1 := fun {y v} hv => by
    cases hb : (spanL t y).2.2 with
    | true => exact ((span_under h hl y).1 hb).2.2 v hv
    | false => exact absurd hv ((span_under h hl y).2 hb v)
  induction he with
  | @leaf j n hj hf =>
    intro k' he'
    generalize hx : (j : Int) = x at he'
    cases he' with
    | @leaf _ n' hj' hf' =>
      obtain rfl : j = k' := by omega
      exact Int.le_refl _
    | @left j' _ n' hj' hf' _ _ =>
      obtain rfl : j = j' := by omega
      rw [hj] at hj'; cases hj'; exact absurd hf hf'
    | @right j' _ n' hj' hf' _ _ =>
      obtain rfl : j = j' := by omega
      rw [hj] at hj'; cases hj'; exact absurd hf hf'
  | @left j k n hj hf hgn he ih =>
    intro k' he'
    generalize hx : (j : Int) = x at he'
    cases he' with
    | @leaf _ n' hj' hf' =>
      obtain rfl : j = k' := by omega
      rw [hj] at hj'; cases hj'; exact absurd hf' hf
    | @left j' _ n' hj' hf' _ he2 =>
      obtain rfl : j = j' := by omega
      rw [hj] at hj'; cases hj'; exact ih he2
    | @right j' _ n' hj' hf' hg' he2 =>
      obtain rfl : j = j' := by omega
      rw [hj] at hj'; cases hj'
      have hff : n.f = f := by
        rcases Decidable.em (n.f = f) with q | q
        · exact q
        · rw [hg n q, hg'] at hgn; cases hgn
      have h1 := sp (ends_under h he)
      have h2 := sp (ends_under h he2)
      have h3 := hfol j n hj hf hff
      omega
  | @right j k n hj hf hgn he ih =>
    intro k' he'
    generalize hx : (j : Int) = x at he'
    cases he' with
    | @leaf _ n' hj' hf' =>
      obtain rfl : j = k' := by omega
      rw [hj] at hj'; cases hj'; exact absurd hf' hf
    | @left j' _ n' hj' hf' hg' he2 =>
      obtain rfl : j = j' := by omega
      rw [hj] at hj'; cases hj'
      rcases Decidable.em (n.f = f) with q | q
      · rw [hg2 n q hg'] at hgn; cases hgn
      · rw [hg n q, hg'] at hgn; cases hgn
    | @right j' _ n' hj' hf' _ he2 =>
      obtain rfl : j = j' := by omega
      rw [hj] at hj'; cases hj'; exact ih he2
/-- Two rows that part at nodes of the feature alone, the first to the left there, the second to the right: the sign turned. -/
theorem ends_fall {t : List Nd} {ft : Int} (h : shapeOk t ft = true) (hl : t.length ≤ 31) {f : Int} {g g' : Nd → Bool} (hg : ∀ n, n.f ≠ f → g n = g' n) (hg2 : ∀ n, n.f = f → g' n = true → g n = true)
    (hfol : ∀ (j : Nat) (n : Nd), t[j]? = some n → n.f ≠ -1 → n.f = f → (spanL t n.r).2.1 ≤ (spanL t n.l).1) {x : Int} {k : Nat} (he : Ends t g x k) : ∀ {k' : Nat}, Ends t g' x k' → vAt t k' ≤ vAt t k := by
  have sp : ∀ {y v : Int}, Under t y v → (spanL t y).1 ≤ v ∧ v ≤ (spanL t y).2.1 := fun {y v} hv => by
    cases hb : (spanL t y).2.2 with
    | true => exact ((span_under h hl y).1 hb).2.2 v hv
    | false => exact absurd hv ((span_under h hl y).2 hb v)
  induction he with
  | @leaf j n hj hf =>
    intro k' he'
    generalize hx : (j : Int) = x at he'
    cases he' with
    | @leaf _ n' hj' hf' =>
      obtain rfl : j = k' := by omega
      exact Int.le_refl _
    | @left j' _ n' hj' hf' _ _ =>
      obtain rfl : j = j' := by omega
      rw [hj] at hj'; cases hj'; exact absurd hf hf'
    | @right j' _ n' hj' hf' _ _ =>
      obtain rfl : j = j' := by omega
      rw [hj] at hj'; cases hj'; exact absurd hf hf'
  | @left j k n hj hf hgn he ih =>
    intro k' he'
    generalize hx : (j : Int) = x at he'
    cases he' with
    | @leaf _ n' hj' hf' =>
      obtain rfl : j = k' := by omega
      rw [hj] at hj'; cases hj'; exact absurd hf' hf
    | @left j' _ n' hj' hf' _ he2 =>
      obtain rfl : j = j' := by omega
      rw [hj] at hj'; cases hj'; exact ih he2
    | @right j' _ n' hj' hf' hg' he2 =>
      obtain rfl : j = j' := by omega
      rw [hj] at hj'; cases hj'
      have hff : n.f = f := by
        rcases Decidable.em (n.f = f) with q | q
        · exact q
        · rw [hg n q, hg'] at hgn; cases hgn
      have h1 := sp (ends_under h he)
      have h2 := sp (ends_under h he2)
      have h3 := hfol j n hj hf hff
      omega
  | @right j k n hj hf hgn he ih =>
    intro k' he'
    generalize hx : (j : Int) = x at he'
    cases he' with
    | @leaf _ n' hj' hf' =>
      obtain rfl : j = k' := by omega
      rw [hj] at hj'; cases hj'; exact absurd hf' hf
    | @left j' _ n' hj' hf' hg' he2 =>
      obtain rfl : j = j' := by omega
      rw [hj] at hj'; cases hj'
      rcases Decidable.em (n.f = f) with q | q
      · rw [hg2 n q hg'] at hgn; cases hgn
      · rw [hg n q, hg'] at hgn; cases hgn
    | @right j' _ n' hj' hf' _ he2 =>
      obtain rfl : j = j' := by omega
      rw [hj] at hj'; cases hj'; exact ih he2
end Go.H.S
