/- Library, part S: spans in a right tree (plain). -/
import Derived.Test.YtbclkplebkencaaLW
import Derived.Test.YtbclkplebkencaaLDD
import Derived.Test.YtbclkplebkencaaLRB
import Derived.Test.YtbclkplebkencaaLOA
import Derived.Test.YtbclkplebkencaaLNA
namespace Go.H.S
open Go Go.Proofs Go.H
set_option linter.unusedSimpArgs false
set_option linter.unusedVariables false


/-- The least and the greatest of these values, or none. -/
def IsSpan (S : Int → Prop) (a : Int × Int × Bool) : Prop :=
  (a.2.2 = true → S a.1 ∧ S a.2.1 ∧ ∀ v, S v → a.1 ≤ v ∧ v ≤ a.2.1) ∧ (a.2.2 = false → ∀ v, ¬ S v)
theorem IsSpan.congr {S S' : Int → Prop} {a : Int × Int × Bool} (h : IsSpan S a) (he : ∀ v, S v ↔ S' v) : IsSpan S' a := by
  have : S = S' := funext fun v => propext (he v)
  rw [← this]; exact h
theorem span_fold (t : List Nd) (node : Int) : ∀ (l : List Int) (S : Int → Prop) (a : Int × Int × Bool), IsSpan S a → IsSpan (fun v => S v ∨ ∃ y ∈ l, node ∈ wayL t y ∧ vAt t y = v) (l.foldl (spanStep t node) a)
  | [], S, a, h => h.congr fun v => by simp
  | y :: r, S, a, h => by
    rw [List.foldl_cons]
    have h1 : IsSpan (fun v => S v ∨ (node ∈ wayL t y ∧ vAt t y = v)) (spanStep t node a y) := by
      obtain ⟨lo, hi, ok⟩ := a
      unfold spanStep
      by_cases hy : node ∈ wayL t y
      · rw [if_pos hy]
        cases ok with
        | false =>
          refine ⟨fun _ => ⟨.inr ⟨hy, rfl⟩, .inr ⟨hy, rfl⟩, fun v hv => ?_⟩, fun q => by cases q⟩
          rcases hv with hv | ⟨_, rfl⟩
          · exact absurd hv (h.2 rfl v)
          · exact ⟨Int.le_refl _, Int.le_refl _⟩
        | true =>
          obtain ⟨q1, q2, q3⟩ := h.1 rfl
          have key : ∀ m : Int, (m = lo ∨ m = hi ∨ m = vAt t y) → S m ∨ (node ∈ wayL t y ∧ vAt t y = m) := fun m hm => by
            rcases hm with rfl | rfl | rfl
            · exact .inl q1
            · exact .inl q2
            · exact .inr ⟨hy, rfl⟩
          refine ⟨fun _ => ⟨key _ (by simp only [if_true]; omega), key _ (by simp only [if_true]; omega), fun v hv => ?_⟩, fun q => by cases q⟩
          simp only [if_true]
          rcases hv with hv | ⟨_, rfl⟩
          · have := q3 v hv; simp only at this; omega
          · omega
      · rw [if_neg hy]
        exact h.congr fun v => by simp [hy]
    refine (span_fold t node r _ _ h1).congr fun v => ?_
    simp only [List.mem_cons]
    constructor
    · rintro ((h | h) | ⟨z, hz, h⟩)
      · exact .inl h
      · exact .inr ⟨y, .inl rfl, h⟩
      · exact .inr ⟨z, .inr hz, h⟩
    · rintro (h | ⟨z, rfl | hz, h⟩)
      · exact .inl (.inl h)
      · exact .inl (.inr h)
      · exact .inr ⟨z, hz, h⟩
theorem spanL_spec (t : List Nd) (node : Int) : IsSpan (fun v => ∃ y ∈ leavesK t 0, node ∈ wayL t y ∧ vAt t y = v) (spanL t node) :=
  (span_fold t node (leavesK t 0) (fun _ => False) (0, 0, false) ⟨fun h => (by cases h), fun _ _ h => h⟩).congr fun v => by simp
theorem leaf_mem : ∀ (t : List Nd) (k : Nat) (y : Int), y ∈ leavesK t k ↔ ∃ (j : Nat) (n : Nd), y = (k : Int) + j ∧ t[j]? = some n ∧ n.f = -1
  | [], k, y => by simp [leavesK]
  | x :: r, k, y => by
    have ih := leaf_mem r (k + 1) y
    have hstep : (∃ (j : Nat) (n : Nd), y = (k : Int) + j ∧ (x :: r)[j]? = some n ∧ n.f = -1) ↔ (y = k ∧ x.f = -1) ∨ ∃ (j : Nat) (n : Nd), y = ((k + 1 : Nat) : Int) + j ∧ r[j]? = some n ∧ n.f = -1 := by
      constructor
      · rintro ⟨j, n, h1, h2, h3⟩
        cases j with
        | zero => simp at h2; subst h2; exact .inl ⟨by omega, h3⟩
        | succ j => rw [List.getElem?_cons_succ] at h2; exact .inr ⟨j, n, by omega, h2, h3⟩
      · rintro (⟨h1, h2⟩ | ⟨j, n, h1, h2, h3⟩)
        · exact ⟨0, x, by omega, by simp, h2⟩
        · exact ⟨j + 1, n, by omega, by rw [List.getElem?_cons_succ]; exact h2, h3⟩
    rw [hstep, ← ih]
    simp only [leavesK]
    split
    · rename_i hf; simp [hf]
    · rename_i hf; simp [hf]
/-- The values of the leaves below x. -/
def Under (t : List Nd) (x v : Int) : Prop := ∃ (j : Nat) (n : Nd), t[j]? = some n ∧ n.f = -1 ∧ Anc t x j ∧ n.v = v
theorem span_under {t : List Nd} {ft : Int} (h : shapeOk t ft = true) (hl : t.length ≤ 31) (x : Int) : IsSpan (Under t x) (spanL t x) := by
  refine (spanL_spec t x).congr fun v => ?_
  constructor
  · rintro ⟨y, hy, hw, rfl⟩
    obtain ⟨j, n, h1, h2, h3⟩ := (leaf_mem t 0 y).1 hy
    obtain rfl : y = j := by omega
    have hj : j < t.length := (List.getElem?_eq_some_iff.1 h2).1
    exact ⟨j, n, h2, h3, (way_anc h hl ⟨by omega, by omega⟩ x).1 hw, by simp [vAt, h2]⟩
  · rintro ⟨j, n, h2, h3, ha, rfl⟩
    have hj : j < t.length := (List.getElem?_eq_some_iff.1 h2).1
    exact ⟨j, (leaf_mem t 0 j).2 ⟨j, n, by omega, h2, h3⟩, (way_anc h hl ⟨by omega, by omega⟩ x).2 ha, by simp [vAt, h2]⟩
theorem under_kids {t : List Nd} {ft : Int} (h : shapeOk t ft = true) {j : Nat} {n : Nd} (hj : t[j]? = some n) (hf : n.f ≠ -1) (v : Int) : Under t j v ↔ Under t n.l v ∨ Under t n.r v := by
  constructor
  · rintro ⟨i, m, h1, h2, h3, h4⟩
    have hne : (i : Int) ≠ j := fun e => by
      have : i = j := by omega
      subst this
      rw [hj] at h1; cases h1
      exact hf h2
    rcases (anc_kid h hj hf hne).1 h3 with q | q
    · exact .inl ⟨i, m, h1, h2, q, h4⟩
    · exact .inr ⟨i, m, h1, h2, q, h4⟩
  · rintro (⟨i, m, h1, h2, h3, h4⟩ | ⟨i, m, h1, h2, h3, h4⟩) <;> refine ⟨i, m, h1, h2, (anc_kid h hj hf (fun e => ?_)).2 (by first | exact .inl h3 | exact .inr h3), h4⟩
    all_goals
      have : i = j := by omega
      subst this
      rw [hj] at h1; cases h1
      exact hf h2
theorem under_leaf {t : List Nd} {ft : Int} (h : shapeOk t ft = true) {j : Nat} {n : Nd} (hj : t[j]? = some n) (hf : n.f = -1) (v : Int) : Under t j v ↔ v = n.v := by
  constructor
  · rintro ⟨i, m, h1, h2, h3, h4⟩
    rcases anc_below h3 with e | ⟨c, q1, q2, _⟩
    · obtain rfl : j = i := by omega
      rw [hj] at h1; cases h1
      exact h4.symm
    · obtain ⟨j', n', r1, r2, r3, _, _⟩ := up_at h q1
      obtain rfl : j' = j := by omega
      rw [hj] at r2; cases r2
      exact absurd hf r3
  · rintro rfl
    exact ⟨j, n, hj, hf, .refl _, rfl⟩
theorem under_some {t : List Nd} {ft : Int} (h : shapeOk t ft = true) : ∀ (d j : Nat), j < t.length → t.length - j ≤ d → ∃ v, Under t j v
  | 0, j, h1, h2 => by omega
  | d + 1, j, h1, h2 => by
    obtain ⟨n, hj⟩ : ∃ n, t[j]? = some n := ⟨t[j], List.getElem?_eq_getElem h1⟩
    by_cases hf : n.f = -1
    · exact ⟨n.v, (under_leaf h hj hf _).2 rfl⟩
    · have hk := shape_kids h hj hf
      obtain ⟨v, hv⟩ := under_some h d n.l.toNat (by omega) (by omega)
      rw [show ((n.l.toNat : Nat) : Int) = n.l by omega] at hv
      exact ⟨v, (under_kids h hj hf v).2 (.inl hv)⟩
/-- The span of an inner node, from its children's. -/
theorem span_law {t : List Nd} {ft : Int} (h : shapeOk t ft = true) (hl : t.length ≤ 31) {j : Nat} {n : Nd} (hj : t[j]? = some n) (hf : n.f ≠ -1) :
    (spanL t j).1 = min (spanL t n.l).1 (spanL t n.r).1 ∧ (spanL t j).2.1 = max (spanL t n.l).2.1 (spanL t n.r).2.1 := by
  have hk := shape_kids h hj hf
  have hj' : j < t.length := (List.getElem?_eq_some_iff.1 hj).1
  have some' : ∀ x : Int, 0 ≤ x → x < t.length → (spanL t x).2.2 = true := fun x h0 h1 => by
    cases hb : (spanL t x).2.2 with
    | true => rfl
    | false =>
      obtain ⟨v, hv⟩ := under_some h (t.length - x.toNat) x.toNat (by omega) (Nat.le_refl _)
      rw [show ((x.toNat : Nat) : Int) = x by omega] at hv
      exact absurd hv ((span_under h hl x).2 hb v)
  obtain ⟨a1, a2, a3⟩ := (span_under h hl j).1 (some' j (by omega) (by omega))
  obtain ⟨b1, b2, b3⟩ := (span_under h hl n.l).1 (some' n.l (by omega) (by omega))
  obtain ⟨c1, c2, c3⟩ := (span_under h hl n.r).1 (some' n.r (by omega) (by omega))
  have e := under_kids h hj hf
  have k1 := a3 _ ((e _).2 (.inl b1))
  have k2 := a3 _ ((e _).2 (.inl b2))
  have k3 := a3 _ ((e _).2 (.inr c1))
  have k4 := a3 _ ((e _).2 (.inr c2))
  constructor
  · rcases (e _).1 a1 with q | q
    · have := b3 _ q; omega
    · have := c3 _ q; omega
  · rcases (e _).1 a2 with q | q
    · have := b3 _ q; omega
    · have := c3 _ q; omega
theorem span_leaf {t : List Nd} {ft : Int} (h : shapeOk t ft = true) (hl : t.length ≤ 31) {j : Nat} {n : Nd} (hj : t[j]? = some n) (hf : n.f = -1) : spanL t j = (n.v, n.v, true) := by
  have hs := span_under h hl j
  have e := under_leaf h hj hf
  cases hb : (spanL t j).2.2 with
  | false => exact absurd ((e _).2 rfl) (hs.2 hb n.v)
  | true =>
    obtain ⟨a1, a2, _⟩ := hs.1 hb
    have := (e _).1 a1
    have := (e _).1 a2
    refine Prod.ext ?_ (Prod.ext ?_ ?_) <;> simp_all
end Go.H.S
namespace Go.H.S
open Go Go.Proofs Go.H
set_option linter.unusedSimpArgs false
set_option linter.unusedVariables false


/-- Where a row ends, from x on: the leaf. g decides at each inner node: go left. -/
inductive Ends (t : List Nd) (g : Nd → Bool) : Int → Nat → Prop
  | leaf {j : Nat} {n : Nd} : t[j]? = some n → n.f = -1 → Ends t g j j
  | left {j k : Nat} {n : Nd} : t[j]? = some n → n.f ≠ -1 → g n = true → Ends t g n.l k → Ends t g j k
  | right {j k : Nat} {n : Nd} : t[j]? = some n → n.f ≠ -1 → g n = false → Ends t g n.r k → Ends t g j k
theorem ends_under {t : List Nd} {ft : Int} (h : shapeOk t ft = true) {g : Nd → Bool} {x : Int} {k : Nat} (he : Ends t g x k) : Under t x (vAt t k) := by
  induction he with
  | @leaf j n hj hf => exact (under_leaf h hj hf _).2 (by simp [vAt, hj])
  | left hj hf _ _ ih => exact (under_kids h hj hf _).2 (.inl ih)
  | right hj hf _ _ ih => exact (under_kids h hj hf _).2 (.inr ih)
/-- Two rows that part at nodes of the feature alone, the first to the left there, the second to the right. -/
theorem ends_rise {t : List Nd} {ft : Int} (h : shapeOk t ft = true) (hl : t.length ≤ 31) {f : Int} {g g' : Nd → Bool} (hg : ∀ n, n.f ≠ f → g n = g' n) (hg2 : ∀ n, n.f = f → g' n = true → g n = true)
    (hfol : ∀ (j : Nat) (n : Nd), t[j]? = some n → n.f ≠ -1 → n.f = f → (spanL t n.l).2.1 ≤ (spanL t n.r).1) {x : Int} {k : Nat} (he : Ends t g x k) : ∀ {k' : Nat}, Ends t g' x k' → vAt t k ≤ vAt t k' := by
  have sp : ∀ {y v : Int}, Under t y v → (spanL t y).1 ≤ v ∧ v ≤ (spanL t y).2.1 := fun {y v} hv => by
    cases hb : (spanL t y).2.2 with
    | true => exact ((span_under h hl y).1 hb).2.2 v hv
    | false => exact absurd hv ((span_under h hl y).2 hb v)
  induction he with
  | @leaf j n hj hf =>
    intro k' he'
    generalize hx : (j : Int) = x at he'
    cases he' with
    | @leaf _ n' hj' hf' =>
      obtain rfl : j = k' := by omega
      exact Int.le_refl _
    | @left j' _ n' hj' hf' _ _ =>
      obtain rfl : j = j' := by omega
      rw [hj] at hj'; cases hj'; exact absurd hf hf'
    | @right j' _ n' hj' hf' _ _ =>
      obtain rfl : j = j' := by omega
      rw [hj] at hj'; cases hj'; exact absurd hf hf'
  | @left j k n hj hf hgn he ih =>
    intro k' he'
    generalize hx : (j : Int) = x at he'
    cases he' with
    | @leaf _ n' hj' hf' =>
      obtain rfl : j = k' := by omega
      rw [hj] at hj'; cases hj'; exact absurd hf' hf
    | @left j' _ n' hj' hf' _ he2 =>
      obtain rfl : j = j' := by omega
      rw [hj] at hj'; cases hj'; exact ih he2
    | @right j' _ n' hj' hf' hg' he2 =>
      obtain rfl : j = j' := by omega
      rw [hj] at hj'; cases hj'
      have hff : n.f = f := by
        rcases Decidable.em (n.f = f) with q | q
        · exact q
        · rw [hg n q, hg'] at hgn; cases hgn
      have h1 := sp (ends_under h he)
      have h2 := sp (ends_under h he2)
      have h3 := hfol j n hj hf hff
      omega
  | @right j k n hj hf hgn he ih =>
    intro k' he'
    generalize hx : (j : Int) = x at he'
    cases he' with
    | @leaf _ n' hj' hf' =>
      obtain rfl : j = k' := by omega
      rw [hj] at hj'; cases hj'; exact absurd hf' hf
    | @left j' _ n' hj' hf' hg' he2 =>
      obtain rfl : j = j' := by omega
      rw [hj] at hj'; cases hj'
      rcases Decidable.em (n.f = f) with q | q
      · rw [hg2 n q hg'] at hgn; cases hgn
      · rw [hg n q, hg'] at hgn; cases hgn
    | @right j' _ n' hj' hf' _ he2 =>
      obtain rfl : j = j' := by omega
      rw [hj] at hj'; cases hj'; exact ih he2
/-- Two rows that part at nodes of the feature alone, the first to the left there, the second to the right: the sign turned. -/
theorem ends_fall {t : List Nd} {ft : Int} (h : shapeOk t ft = true) (hl : t.length ≤ 31) {f : Int} {g g' : Nd → Bool} (hg : ∀ n, n.f ≠ f → g n = g' n) (hg2 : ∀ n, n.f = f → g' n = true → g n = true)
    (hfol : ∀ (j : Nat) (n : Nd), t[j]? = some n → n.f ≠ -1 → n.f = f → (spanL t n.r).2.1 ≤ (spanL t n.l).1) {x : Int} {k : Nat} (he : Ends t g x k) : ∀ {k' : Nat}, Ends t g' x k' → vAt t k' ≤ vAt t k := by
  have sp : ∀ {y v : Int}, Under t y v → (spanL t y).1 ≤ v ∧ v ≤ (spanL t y).2.1 := fun {y v} hv => by
    cases hb : (spanL t y).2.2 with
    | true => exact ((span_under h hl y).1 hb).2.2 v hv
    | false => exact absurd hv ((span_under h hl y).2 hb v)
  induction he with
  | @leaf j n hj hf =>
    intro k' he'
    generalize hx : (j : Int) = x at he'
    cases he' with
    | @leaf _ n' hj' hf' =>
      obtain rfl : j = k' := by omega
      exact Int.le_refl _
    | @left j' _ n' hj' hf' _ _ =>
      obtain rfl : j = j' := by omega
      rw [hj] at hj'; cases hj'; exact absurd hf hf'
    | @right j' _ n' hj' hf' _ _ =>
      obtain rfl : j = j' := by omega
      rw [hj] at hj'; cases hj'; exact absurd hf hf'
  | @left j k n hj hf hgn he ih =>
    intro k' he'
    generalize hx : (j : Int) = x at he'
    cases he' with
    | @leaf _ n' hj' hf' =>
      obtain rfl : j = k' := by omega
      rw [hj] at hj'; cases hj'; exact absurd hf' hf
    | @left j' _ n' hj' hf' _ he2 =>
      obtain rfl : j = j' := by omega
      rw [hj] at hj'; cases hj'; exact ih he2
    | @right j' _ n' hj' hf' hg' he2 =>
      obtain rfl : j = j' := by omega
      rw [hj] at hj'; cases hj'
      have hff : n.f = f := by
        rcases Decidable.em (n.f = f) with q | q
        · exact q
        · rw [hg n q, hg'] at hgn; cases hgn
      have h1 := sp (ends_under h he)
      have h2 := sp (ends_under h he2)
      have h3 := hfol j n hj hf hff
      omega
  | @right j k n hj hf hgn he ih =>
    intro k' he'
    generalize hx : (j : Int) = x at he'
    cases he' with
    | @leaf _ n' hj' hf' =>
      obtain rfl : j = k' := by omega
      rw [hj] at hj'; cases hj'; exact absurd hf' hf
    | @left j' _ n' hj' hf' hg' he2 =>
      obtain rfl : j = j' := by omega
      rw [hj] at hj'; cases hj'
      rcases Decidable.em (n.f = f) with q | q
      · rw [hg2 n q hg'] at hgn; cases hgn
      · rw [hg n q, hg'] at hgn; cases hgn
    | @right j' _ n' hj' hf' _ he2 =>
      obtain rfl : j = j' := by omega
      rw [hj] at hj'; cases hj'; exact ih he2
end Go.H.S
namespace Go.H.S
open Go Go.Proofs Go.H
attribute [local irreducible] Tri FnSpec FnSpecM FnSpecX FnSpecJ FnSpecB
set_option maxRecDepth 100000
set_option linter.unusedSimpArgs false
set_option linter.unusedVariables false


def rowAt (row : List Int) (f : Int) : Int := (row[f.toNat]?).getD 0
def goL (row : List Int) (n : Nd) : Bool := iLe (rowAt row n.f) n.c
def routeL (t : List Nd) (row : List Int) : Nat → Int → Option (List Int)
  | 0, _ => none
  | m + 1, x => if 0 ≤ x then match t[x.toNat]? with
      | none => none
      | some n => if n.f = -1 then some [x] else if 0 ≤ n.f ∧ n.f ≤ (row.length : Int) - 1 then (routeL t row m (if goL row n = true then n.l else n.r)).map (x :: ·) else none
    else none

def resR : Option (List Int) → AV
  | none => .c (.nl 0)
  | some _ => .c (.ref 0 0 none)
def entsR : Option (List Int) → List (Nat × Ent)
  | none => []
  | some l => [(0, .arr t_int 1 0 .own (eL cI l))]
def numR : Option (List Int) → Nat
  | none => 0
  | some _ => 1
set_option maxHeartbeats 1000000 in
theorem impl_route_spec (t : List Nd) (row : List Int) (hl : t.length ≤ 1048576) (hr : row.length ≤ 1048576) : FnSpecX PR f_impl_route [aT t, aIs row] (Option (List Int)) (fun x => x = routeL t row (t.length + 1) 0) resR entsR numR := by
  refine FnSpecX.intro hT p_impl_route rfl (by kernel_rfl) n_impl_route rfl ?_
  (conv => whnf)
  refine tri_loop hT [1, 2, 5, 6, 12, 13] (α := Nat × Int × List Int) (fun x => { t := [(1, aIs row), (2, .c (.ptr 0 0)), (5, .c (.ref 1 0 none)), (6, ai x.2.1), (12, ai (t.length + 1 : Nat)), (13, ai x.1)], h := [(0, .box t_impl_Tree (cTr t)), (1, .arr t_int 1 0 .own (eL cI x.2.2))], n := 2, N := 57 })
    (fun x => x.1 ≤ t.length + 1 ∧ x.2.2.length ≤ x.1 ∧ (routeL t row (t.length + 1 - x.1) x.2.1).map (x.2.2 ++ ·) = routeL t row (t.length + 1) 0) (fun x => t.length + 1 - x.1) (0, 0, []) (by ((conv => whnf); simp only [St.mk.injEq, List.cons.injEq, Prod.mk.injEq, AV.c.injEq, AV.agg.injEq, AV.tup.injEq, CV.d.injEq, D.int.injEq, D.bool.injEq, D.str.injEq, D.sl.injEq, Ent.arr.injEq, Ent.box.injEq, true_and, and_true, and_self, nInt_eq, Int.natCast_zero, dLen_eL, sLen_eq, eL_nil]); exact wAdd64 (by omega) (by omega)) ⟨by simp, by simp, by simp⟩ ?_
  intro ⟨k, x, o⟩ ⟨hk, ho, he⟩
  dsimp only at hk ho he
  (conv => whnf)
  refine ifB_i (fun h1 => ?_) (fun h1 => ?_) <;> (conv => whnf) <;> simp only [nInt_eq, Int.natCast_zero, dLen_eL, sLen_eq, nOf_eq, Int.toNat_natCast, nAdd_eq, nSub_eq, dLen_nil, dLen_cons, iLt_t, iLt_f, iLe_t, iLe_f, iEq_t, iEq_f, sEq_t, sEq_f, bNot_t, bNot_f, bAnd_t, bEq_t, bEq_f, Bool.not_eq_true, Bool.not_eq_false, Bool.true_eq_false, Bool.false_eq_true] at h1
  · obtain ⟨m, hm⟩ : ∃ m, t.length + 1 - k = m + 1 := ⟨t.length - k, by omega⟩
    rw [hm, routeL] at he
    rw [show nInt (dLen (eL cN t)) = (t.length : Int) by simp]
    rw [show wSub .i64 (t.length : Int) 1 = (t.length : Int) - 1 from wSub64 (by omega) (by omega)]
    refine .inl ⟨_, _, _, impl_within_spec _ _ _, rfl, ?_⟩
    (conv => whnf)
    refine ifB_i (fun h2 => ?_) (fun h2 => ?_) <;> (conv => whnf)
    · simp at h2
      refine ⟨none, ?_, ?_⟩
      · rw [← he]
        split
        · rename_i h3
          have : t[x.toNat]? = none := List.getElem?_eq_none (by have := h2 h3; omega)
          simp [this]
        · rfl
      · (conv => whnf)
        rfl
    · simp at h2
      obtain ⟨j, rfl⟩ : ∃ j : Nat, x = j := ⟨x.toNat, by omega⟩
      obtain ⟨n, hn⟩ := get_lt (show j < t.length by omega)
      rw [if_pos h2.1, show (j : Int).toNat = j by simp, hn] at he
      dsimp only at he
      refine idx_at (by simp) hn ?_
      (conv => whnf)
      refine And.intro (by unfold Fits; simp; omega) ?_
      (conv => whnf)
      refine .inl ⟨_, _, _, impl_isLeaf_spec n, rfl, ?_⟩
      (conv => whnf)
      refine ifB_i (fun h3 => ?_) (fun h3 => ?_) <;> (conv => whnf) <;> simp only [nInt_eq, Int.natCast_zero, dLen_eL, sLen_eq, nOf_eq, Int.toNat_natCast, nAdd_eq, nSub_eq, dLen_nil, dLen_cons, iLt_t, iLt_f, iLe_t, iLe_f, iEq_t, iEq_f, sEq_t, sEq_f, bNot_t, bNot_f, bAnd_t, bEq_t, bEq_f, Bool.not_eq_true, Bool.not_eq_false, Bool.true_eq_false, Bool.false_eq_true] at h3
      · rw [if_pos h3] at he
        refine ⟨some (o ++ [(j : Int)]), he, ?_⟩
        ((conv => whnf); simp only [St.mk.injEq, List.cons.injEq, Prod.mk.injEq, AV.c.injEq, AV.agg.injEq, AV.tup.injEq, CV.d.injEq, D.int.injEq, D.bool.injEq, D.str.injEq, D.sl.injEq, Ent.arr.injEq, Ent.box.injEq, true_and, and_true, and_self, nInt_eq, Int.natCast_zero, dLen_eL, sLen_eq])
        refine ⟨rfl, ?_, rfl⟩
        rw [entsR, ← eL_app]
        rfl
      · rw [if_neg h3] at he
        refine .inl ⟨_, _, _, impl_within_spec _ _ _, rfl, ?_⟩
        (conv => whnf)
        have er : wSub .i64 (nInt (dLen (eL cI row))) 1 = (row.length : Int) - 1 := by rw [show nInt (dLen (eL cI row)) = (row.length : Int) by simp]; exact wSub64 (by omega) (by omega)
        refine ifB_i (fun h4 => ?_) (fun h4 => ?_) <;> (conv => whnf)
        · rw [er] at h4
          simp at h4
          refine ⟨none, ?_, ?_⟩
          · rw [if_neg (by omega)] at he
            exact he
          · (conv => whnf)
            rfl
        · rw [er] at h4
          simp at h4
          rw [if_pos (by omega)] at he
          obtain ⟨q, hq⟩ : ∃ q : Nat, n.f = q := ⟨n.f.toNat, by omega⟩
          obtain ⟨v, hv⟩ := get_lt (show q < row.length by omega)
          have hg : goL row n = iLe v n.c := by simp [goL, rowAt, hq, hv]
          refine tri_conf hT hmix (by kernel_rfl) ?_
          (conv => whnf)
          repeat' (first | (refine And.intro (fun q => ?_) (fun q => ?_) <;> cases q <;> (conv => whnf)) | fail)
          rw [hq]
          refine idx_at (by simp) hv ?_
          (conv => whnf)
          repeat' (first | (refine And.intro (fun q => ?_) (fun q => ?_) <;> cases q <;> (conv => whnf)) | fail)
          have hm2 : t.length + 1 - (k + 1) = m := by omega
          rw [hg] at he
          refine ifB_i (fun h5 => ?_) (fun h5 => ?_) <;> (conv => whnf)
          · refine ⟨(k + 1, n.l, o ++ [(j : Int)]), by dsimp only; omega, ⟨by dsimp only; omega, by simp; omega, ?_⟩, ?_⟩
            · dsimp only
              rw [hm2, ← he, if_pos h5]
              cases routeL t row m n.l <;> simp
            · ((conv => whnf); simp only [St.mk.injEq, List.cons.injEq, Prod.mk.injEq, AV.c.injEq, AV.agg.injEq, AV.tup.injEq, CV.d.injEq, D.int.injEq, D.bool.injEq, D.str.injEq, D.sl.injEq, Ent.arr.injEq, Ent.box.injEq, true_and, and_true, and_self, nInt_eq, Int.natCast_zero, dLen_eL, sLen_eq])
              refine ⟨wI (show k < t.length + 1 by omega) (by omega), ?_⟩
              rw [← eL_app]
              rfl
          · refine ⟨(k + 1, n.r, o ++ [(j : Int)]), by dsimp only; omega, ⟨by dsimp only; omega, by simp; omega, ?_⟩, ?_⟩
            · dsimp only
              rw [hm2, ← he, if_neg (by simp [h5])]
              cases routeL t row m n.r <;> simp
            · ((conv => whnf); simp only [St.mk.injEq, List.cons.injEq, Prod.mk.injEq, AV.c.injEq, AV.agg.injEq, AV.tup.injEq, CV.d.injEq, D.int.injEq, D.bool.injEq, D.str.injEq, D.sl.injEq, Ent.arr.injEq, Ent.box.injEq, true_and, and_true, and_self, nInt_eq, Int.natCast_zero, dLen_eL, sLen_eq])
              refine ⟨wI (show k < t.length + 1 by omega) (by omega), ?_⟩
              rw [← eL_app]
              rfl
  · have : t.length + 1 - k = 0 := by omega
    rw [this] at he
    refine ⟨none, he, ?_⟩
    (conv => whnf)
    rfl

def endL (t : List Nd) (row : List Int) : Int := match routeL t row (t.length + 1) 0 with
  | some l => l.getLast?.getD (-1)
  | none => -1
def evalL (t : List Nd) (row : List Int) : Int := if endL t row < 0 then 0 else match t[(endL t row).toNat]? with | some n => n.v | none => 0
theorem routeL_ends {t : List Nd} {row : List Int} : ∀ {m : Nat} {x : Int} {l : List Int}, routeL t row m x = some l → ∃ (k : Nat) (n : Nd), l.getLast? = some (k : Int) ∧ t[k]? = some n ∧ n.f = -1 ∧ Ends t (goL row) x k ∧ 0 < l.length ∧ l.length ≤ m
  | 0, x, l, h => by simp [routeL] at h
  | m + 1, x, l, h => by
    simp only [routeL] at h
    split at h
    · rename_i h0
      split at h
      · cases h
      · rename_i n hn
        obtain ⟨j, rfl⟩ : ∃ j : Nat, x = j := ⟨x.toNat, by omega⟩
        rw [show (j : Int).toNat = j by simp] at hn
        split at h
        · rename_i hf
          cases h
          exact ⟨j, n, by simp, hn, hf, .leaf hn hf, by simp, by simp⟩
        · rename_i hf
          split at h
          · simp only [Option.map_eq_some_iff] at h
            obtain ⟨r, hr, rfl⟩ := h
            obtain ⟨k, n', h1, h2, h3, h4, h5, h6⟩ := routeL_ends hr
            refine ⟨k, n', ?_, h2, h3, ?_, by simp, by simp; omega⟩
            · cases r with
              | nil => simp at h5
              | cons a b => simpa [List.getLast?_cons_cons] using h1
            · cases hg : goL row n with
              | true => rw [hg] at h4; exact .left hn hf hg h4
              | false => rw [hg] at h4; exact .right hn hf hg h4
          · cases h
    · cases h

theorem impl_RouteTo_spec (t : List Nd) (row : List Int) (hl : t.length ≤ 1048576) (hr : row.length ≤ 1048576) : FnSpec PR f_impl_RouteTo [aT t, aIs row] (ai (endL t row)) [] 0 := by
  refine FnSpec.intro hT p_impl_RouteTo rfl (by kernel_rfl) n_impl_RouteTo rfl ?_
  conv => whnf
  refine .inr ⟨_, _, _, _, _, impl_route_spec t row hl hr, fun x hx => ⟨by cases x <;> rfl, ?_⟩⟩
  cases x with
  | none =>
    (conv => whnf)
    rw [endL, ← hx]
  | some l =>
    (conv => whnf)
    obtain ⟨k, n, h1, h2, h3, h4, h5, h6⟩ := routeL_ends hx.symm
    have he : endL t row = (k : Int) := by rw [endL, ← hx]; simp [h1]
    rw [he]
    rw [show nInt (lenRE (eL cI l) none) = (l.length : Int) by simp [lenRE]]
    refine ifB_i (fun h7 => ?_) (fun h7 => ?_) <;> (conv => whnf) <;> simp only [nInt_eq, Int.natCast_zero, dLen_eL, sLen_eq, nOf_eq, Int.toNat_natCast, nAdd_eq, nSub_eq, dLen_nil, dLen_cons, iLt_t, iLt_f, iLe_t, iLe_f, iEq_t, iEq_f, sEq_t, sEq_f, bNot_t, bNot_f, bAnd_t, bEq_t, bEq_f, Bool.not_eq_true, Bool.not_eq_false, Bool.true_eq_false, Bool.false_eq_true] at h7
    · omega
    · rw [show nInt (lenRE (eL cI l) none) = (l.length : Int) by simp [lenRE]]
      rw [show wSub .i64 (l.length : Int) 1 = ((l.length - 1 : Nat) : Int) by rw [wSub64] <;> omega]
      refine ref_at rfl (by simp; omega) ?_
      (conv => whnf)
      refine ld_at (k := l.length - 1) (by simp) (by rw [← List.getLast?_eq_getElem?]; exact h1) ?_
      (conv => whnf)

theorem impl_EvalTree_spec (t : List Nd) (row : List Int) (hl : t.length ≤ 1048576) (hr : row.length ≤ 1048576) : FnSpec PR f_impl_EvalTree [aT t, aIs row] (ai (evalL t row)) [] 0 := by
  refine FnSpec.intro hT p_impl_EvalTree rfl (by kernel_rfl) n_impl_EvalTree rfl ?_
  conv => whnf
  refine .inl ⟨_, _, _, impl_RouteTo_spec t row hl hr, rfl, ?_⟩
  (conv => whnf)
  refine ifB_i (fun h1 => ?_) (fun h1 => ?_) <;> (conv => whnf) <;> simp only [nInt_eq, Int.natCast_zero, dLen_eL, sLen_eq, nOf_eq, Int.toNat_natCast, nAdd_eq, nSub_eq, dLen_nil, dLen_cons, iLt_t, iLt_f, iLe_t, iLe_f, iEq_t, iEq_f, sEq_t, sEq_f, bNot_t, bNot_f, bAnd_t, bEq_t, bEq_f, Bool.not_eq_true, Bool.not_eq_false, Bool.true_eq_false, Bool.false_eq_true] at h1
  · rw [evalL, if_pos h1]
  · have hz : ∃ (k : Nat) (n : Nd), endL t row = k ∧ t[k]? = some n := by
      unfold endL at h1 ⊢
      cases hx : routeL t row (t.length + 1) 0 with
      | none => rw [hx] at h1; simp at h1
      | some l =>
        obtain ⟨k, n, h2, h3, _⟩ := routeL_ends hx
        exact ⟨k, n, by simp [h2], h3⟩
    obtain ⟨k, n, hk, hn⟩ := hz
    rw [hk]
    refine idx_at (by simp) hn ?_
    (conv => whnf)
    rw [evalL, hk, if_neg (by omega), show (k : Int).toNat = k by simp, hn]
end Go.H.S
namespace Go.H.S
open Go Go.Proofs Go.H
set_option maxRecDepth 100000
set_option linter.unusedSimpArgs false
set_option linter.unusedVariables false


theorem compactUpTo_sub (xs : List Int) : ∀ i, i ≤ xs.length → (Go.Lib.compactUpTo xs.toArray i).Sublist (xs.take i)
  | 0, _ => by simp [Go.Lib.compactUpTo]
  | i + 1, h => by
    obtain ⟨x, hx⟩ := get_lt (show i < xs.length by omega)
    rw [compactUpTo_succ xs i x hx, List.take_add_one, hx]
    refine (compactUpTo_sub xs i (by omega)).append ?_
    split <;> simp
theorem compact_sub (xs : List Int) : (Go.Lib.compact xs).Sublist xs := by
  have := compactUpTo_sub xs xs.length (Nat.le_refl _)
  rwa [List.take_length] at this
theorem compactUpTo_mem (xs : List Int) : ∀ i, i ≤ xs.length → ∀ x, x ∈ xs.take i → x ∈ Go.Lib.compactUpTo xs.toArray i
  | 0, _, x, hx => by simp at hx
  | i + 1, h, x, hx => by
    obtain ⟨y, hy⟩ := get_lt (show i < xs.length by omega)
    rw [compactUpTo_succ xs i y hy]
    rw [List.take_add_one, hy] at hx
    rcases List.mem_append.1 hx with hx | hx
    · exact List.mem_append_left _ (compactUpTo_mem xs i (by omega) x hx)
    · simp at hx
      subst hx
      cases hk : Go.Lib.keeps xs.toArray i with
      | true => simp
      | false =>
        have hi : i ≠ 0 ∧ xs.toArray[i]! = xs.toArray[i - 1]! := by
          simp [Go.Lib.keeps] at hk
          refine ⟨hk.1, ?_⟩
          simpa using hk.2
        obtain ⟨z, hz⟩ := get_lt (show i - 1 < xs.length by omega)
        have e1 : xs.toArray[i]! = x := by
          rw [getElem!_pos _ i (by simp; omega)]
          simpa using (List.getElem?_eq_some_iff.1 hy).2
        have e2 : xs.toArray[i - 1]! = z := by
          rw [getElem!_pos _ (i - 1) (by simp; omega)]
          simpa using (List.getElem?_eq_some_iff.1 hz).2
        have : z = x := by rw [← e1, ← e2, hi.2]
        subst this
        refine List.mem_append_left _ (compactUpTo_mem xs i (by omega) z ?_)
        exact List.mem_of_getElem? (i := i - 1) (by rw [List.getElem?_take_of_lt (by omega)]; exact hz)
theorem mem_distinctL {xs : List Int} {x : Int} (h : x ∈ xs) : x ∈ distinctL xs := by
  have h1 : x ∈ sortL xs := by simpa [sortL] using h
  have := compactUpTo_mem (sortL xs) (sortL xs).length (Nat.le_refl _) x (by rw [List.take_length]; exact h1)
  exact this
theorem distinctL_sorted (xs : List Int) : (distinctL xs).Pairwise (· ≤ ·) := List.Pairwise.sublist (compact_sub _) (sortL_sorted xs)
theorem mem_cutsL {f : Int} : ∀ {t : List Nd} {n : Nd}, n ∈ t → n.f ≠ -1 → n.f = f → n.c ∈ cutsL f t
  | [], n, h, _, _ => by cases h
  | x :: r, n, h, hf, he => by
    simp only [cutsL]
    rcases List.mem_cons.1 h with rfl | h
    · rw [if_pos (by simp [isF, he]; omega)]
      simp
    · have := mem_cutsL h hf he
      split
      · exact List.mem_cons_of_mem _ this
      · exact this

def binL (l : List Int) (x : Int) : Nat := l.countP fun c => iLt c x
theorem binL_lt : ∀ {l : List Int}, l.Pairwise (· ≤ ·) → ∀ {x : Int} {m : Nat} {v : Int}, l[m]? = some v → (v < x ↔ m < binL l x)
  | [], _, x, m, v, h => by simp at h
  | a :: r, hp, x, m, v, h => by
    rw [List.pairwise_cons] at hp
    have hz : ¬ a < x → binL r x = 0 := fun ha => by
      rw [binL, List.countP_eq_zero]
      intro b hb hlt
      have := hp.1 b hb
      simp [iLt] at hlt
      omega
    have e : binL (a :: r) x = binL r x + (if iLt a x = true then 1 else 0) := by simp [binL, List.countP_cons]
    by_cases ha : a < x
    · rw [e, if_pos (by simp [iLt, ha])]
      cases m with
      | zero =>
        simp at h
        subst h
        omega
      | succ m =>
        have := binL_lt hp.2 (x := x) (show r[m]? = some v by simpa using h)
        omega
    · rw [e, hz ha, if_neg (by simp [iLt, ha])]
      cases m with
      | zero =>
        simp at h
        subst h
        omega
      | succ m =>
        have := binL_lt hp.2 (x := x) (show r[m]? = some v by simpa using h)
        rw [hz ha] at this
        omega

theorem routeL_same {t : List Nd} {row row' : List Int} (hlen : row.length = row'.length) (hg : ∀ n ∈ t, n.f ≠ -1 → 0 ≤ n.f → n.f < row.length → goL row n = goL row' n) : ∀ (m : Nat) (x : Int), routeL t row m x = routeL t row' m x
  | 0, x => rfl
  | m + 1, x => by
    simp only [routeL]
    split
    · split
      · rfl
      · rename_i n hn
        split
        · rfl
        · rename_i hf
          rw [← hlen]
          split
          · rename_i hr
            rw [hg n (List.mem_of_getElem? hn) hf hr.1 (by omega), routeL_same hlen hg m]
          · rfl
    · rfl
/-- Rows that part at no cut. -/
theorem steps_law {t : List Nd} {row : List Int} {f : Nat} {x y : Int} (hf : f < row.length) (hx : row[f]? = some x) (hx2 : x ≤ 9223372036854775807)
    (hy : (∃ z, (stepsAtL t f)[binL (stepsAtL t f) x]? = some z ∧ y = z) ∨ ((stepsAtL t f).length ≤ binL (stepsAtL t f) x ∧ y = 9223372036854775807)) : evalL t (row.set f y) = evalL t row := by
  have hr : ∀ m x, routeL t (row.set f y) m x = routeL t row m x := by
    refine routeL_same (by simp) fun n hn hf1 h0 hlt => ?_
    unfold goL rowAt
    by_cases he : n.f = f
    · rw [he]
      simp only [Int.toNat_natCast, List.getElem?_set_self hf, hx, Option.getD_some]
      have hm : n.c ∈ stepsAtL t f := mem_distinctL (mem_cutsL hn hf1 he)
      obtain ⟨m, hm⟩ := List.mem_iff_getElem?.1 hm
      have hb := binL_lt (distinctL_sorted (cutsL f t)) (x := x) hm
      have hml := (List.getElem?_eq_some_iff.1 hm).1
      rw [show distinctL (cutsL f t) = stepsAtL t f from rfl] at hb
      have key : y ≤ n.c ↔ x ≤ n.c := by
        rcases hy with ⟨z, hz, rfl⟩ | ⟨hz, rfl⟩
        · have hb2 := binL_lt (l := stepsAtL t f) (distinctL_sorted (cutsL f t)) (x := x) hz
          have hp : (stepsAtL t f).Pairwise (· ≤ ·) := distinctL_sorted (cutsL f t)
          have hzl := (List.getElem?_eq_some_iff.1 hz).1
          have hle : ∀ {a b : Nat} {u v : Int}, (stepsAtL t f)[a]? = some u → (stepsAtL t f)[b]? = some v → a ≤ b → u ≤ v := fun {a b u v} ha hb hab => by
            rcases Nat.lt_or_ge a b with q | q
            · have h1 := List.pairwise_iff_getElem.1 hp a b (List.getElem?_eq_some_iff.1 ha).1 (List.getElem?_eq_some_iff.1 hb).1 q
              rw [(List.getElem?_eq_some_iff.1 ha).2, (List.getElem?_eq_some_iff.1 hb).2] at h1
              exact h1
            · obtain rfl : a = b := by omega
              rw [ha] at hb
              cases hb
              exact Int.le_refl _
          constructor
          · intro h1
            by_cases h2 : x ≤ n.c
            · exact h2
            · have h3 := hb.1 (by omega)
              have h4 := hle hm hz (by omega)
              have h5 := fun q => Nat.lt_irrefl _ (hb2.1 q)
              omega
          · intro h1
            have h3 : ¬ m < binL (stepsAtL t f) x := fun q => by have := hb.2 q; omega
            exact hle hz hm (by omega)
        · constructor
          · intro h1; omega
          · intro h1
            have := hb.2 (by omega)
            omega
      simp only [iLe]
      exact decide_eq_decide.2 key
    · rw [List.getElem?_set_ne (by omega)]
  unfold evalL endL
  rw [hr]
end Go.H.S
namespace Go.H.S
open Go Go.Proofs Go.H
attribute [local irreducible] Tri FnSpec FnSpecM FnSpecX FnSpecJ FnSpecB
set_option maxRecDepth 100000
set_option linter.unusedSimpArgs false
set_option linter.unusedVariables false


theorem laws_big_spec (code : List Int) : FnSpec PR f_laws_big [.c (.d (.sl 1 (eL cU code)))] (ab (iLt 1048576 code.length)) [] 0 := by
  refine FnSpec.intro hT p_laws_big rfl (by kernel_rfl) n_laws_big rfl ?_
  conv => whnf
  rw [show nInt (dLen (eL cU code)) = (code.length : Int) by simp]

theorem laws_at0_spec (code : List Int) (i : Nat) (hl : code.length ≤ 1048576) (hi : i ≤ 100) (hb : ∀ x ∈ code, 0 ≤ x ∧ x ≤ 255) : FnSpecX PR f_laws_at0 [.c (.d (.sl 1 (eL cU code))), ai i] Int (fun x => 0 ≤ x ∧ x ≤ 255) (fun x => ai x) (fun _ => []) (fun _ => 0) := by
  refine FnSpecX.intro hT p_laws_at0 rfl (by kernel_rfl) n_laws_at0 rfl ?_
  (conv => whnf)
  refine ifB_i (fun h1 => ?_) (fun h1 => ?_) <;> (conv => whnf) <;> simp only [nInt_eq, Int.natCast_zero, dLen_eL, sLen_eq, nOf_eq, Int.toNat_natCast, nAdd_eq, nSub_eq, dLen_nil, dLen_cons, iLt_t, iLt_f, iLe_t, iLe_f, iEq_t, iEq_f, sEq_t, sEq_f, bNot_t, bNot_f, bAnd_t, bEq_t, bEq_f, Bool.not_eq_true, Bool.not_eq_false, Bool.true_eq_false, Bool.false_eq_true] at h1
  · obtain ⟨y, hy⟩ := get_lt (show i < code.length by omega)
    refine idx_at (by simp) hy ?_
    (conv => whnf)
    have hy2 := hb y (List.mem_of_getElem? hy)
    have e : wConv .i64 y = y := by
      unfold wConv
      rw [wrap64] <;> omega
    refine ⟨y, hy2, ?_⟩
    ((conv => whnf); simp only [St.mk.injEq, List.cons.injEq, Prod.mk.injEq, AV.c.injEq, AV.agg.injEq, AV.tup.injEq, CV.d.injEq, D.int.injEq, D.bool.injEq, D.str.injEq, D.sl.injEq, Ent.arr.injEq, Ent.box.injEq, true_and, and_true, and_self, nInt_eq, Int.natCast_zero, dLen_eL, sLen_eq])
    exact e
  · refine And.intro (by simp [NZ]) ?_
    (conv => whnf)
    rw [show nInt (dLen (eL cU code)) = (code.length : Int) by simp]
    have e1 : wMul .i64 (i : Int) 7 = (i : Int) * 7 := wMul64 (by omega) (by omega)
    have e2 : wAdd .i64 ((i : Int) * 7) code.length = (i : Int) * 7 + code.length := wAdd64 (by omega) (by omega)
    rw [e1, e2]
    have hm := wRem_mod (x := (i : Int) * 7 + code.length) (n := 256) (by omega) (by decide)
    refine ⟨wRem ((i : Int) * 7 + code.length) 256, by omega, ?_⟩
    (conv => whnf)

abbrev tupT1 (x : List Nd × Int) : AV := .tup [(true, [.d (.sl 5 (eL cN x.1))]), (false, [.d (.int .i64 x.2)])]
abbrev tupT2 (x : List Nd × Int × Int) : AV := .tup [(true, [.d (.sl 5 (eL cN x.1))]), (false, [.d (.int .i64 x.2.1)]), (false, [.d (.int .i64 x.2.2)])]
end Go.H.S
namespace Go.H.S
open Go Go.Proofs Go.H
attribute [local irreducible] Tri FnSpec FnSpecM FnSpecX FnSpecJ FnSpecB
set_option maxRecDepth 100000
set_option linter.unusedSimpArgs false
set_option linter.unusedVariables false


theorem laws_rising_spec (l : List Int) (hs : l.Pairwise (· ≤ ·)) (hl : l.length ≤ 1048576) : FnSpec PR f_laws_rising [aIs l] (ab true) [] 0 := by
  refine FnSpec.intro hT p_laws_rising rfl (by kernel_rfl) n_laws_rising rfl ?_
  conv => whnf
  refine tri_loop hT [0, 3] (α := Nat) (fun x => { t := [(0, aIs l), (3, ai x)], h := [], n := 0, N := 20 })
    (fun x => 1 ≤ x) (fun x => l.length - x) 1 (by ((conv => whnf); simp only [St.mk.injEq, List.cons.injEq, Prod.mk.injEq, AV.c.injEq, AV.agg.injEq, AV.tup.injEq, CV.d.injEq, D.int.injEq, D.bool.injEq, D.str.injEq, D.sl.injEq, Ent.arr.injEq, Ent.box.injEq, true_and, and_true, and_self, nInt_eq, Int.natCast_zero, dLen_eL, sLen_eq]); rfl) (Nat.le_refl _) ?_
  intro i hi
  (conv => whnf)
  refine ifB_i (fun h1 => ?_) (fun h1 => ?_) <;> (conv => whnf) <;> simp only [nInt_eq, Int.natCast_zero, dLen_eL, sLen_eq, nOf_eq, Int.toNat_natCast, nAdd_eq, nSub_eq, dLen_nil, dLen_cons, iLt_t, iLt_f, iLe_t, iLe_f, iEq_t, iEq_f, sEq_t, sEq_f, bNot_t, bNot_f, bAnd_t, bEq_t, bEq_f, Bool.not_eq_true, Bool.not_eq_false, Bool.true_eq_false, Bool.false_eq_true] at h1
  · obtain ⟨x, hx⟩ := get_lt (show i - 1 < l.length by omega)
    obtain ⟨y, hy⟩ := get_lt (show i < l.length by omega)
    have hxy : x ≤ y := by
      have := List.pairwise_iff_getElem.1 hs (i - 1) i (List.getElem?_eq_some_iff.1 hx).1 (List.getElem?_eq_some_iff.1 hy).1 (by omega)
      rw [(List.getElem?_eq_some_iff.1 hx).2, (List.getElem?_eq_some_iff.1 hy).2] at this
      exact this
    have ei : wSub .i64 (i : Int) 1 = ((i - 1 : Nat) : Int) := by rw [wSub64] <;> omega
    refine tri_conf hT hmix (by kernel_rfl) ?_
    (conv => whnf)
    repeat' first
      | (refine And.intro (fun q => ?_) (fun q => ?_) <;> cases q <;> (conv => whnf))
      | (rw [ei]; refine idx_at (by simp) hx ?_; (conv => whnf))
      | (refine idx_at (by simp) hy ?_; (conv => whnf))
      | fail
    refine ifB_i (fun h2 => ?_) (fun h2 => ?_) <;> (conv => whnf) <;> simp only [nInt_eq, Int.natCast_zero, dLen_eL, sLen_eq, nOf_eq, Int.toNat_natCast, nAdd_eq, nSub_eq, dLen_nil, dLen_cons, iLt_t, iLt_f, iLe_t, iLe_f, iEq_t, iEq_f, sEq_t, sEq_f, bNot_t, bNot_f, bAnd_t, bEq_t, bEq_f, Bool.not_eq_true, Bool.not_eq_false, Bool.true_eq_false, Bool.false_eq_true] at h2
    · omega
    · refine ⟨i + 1, by omega, by omega, ?_⟩
      ((conv => whnf); simp only [St.mk.injEq, List.cons.injEq, Prod.mk.injEq, AV.c.injEq, AV.agg.injEq, AV.tup.injEq, CV.d.injEq, D.int.injEq, D.bool.injEq, D.str.injEq, D.sl.injEq, Ent.arr.injEq, Ent.box.injEq, true_and, and_true, and_self, nInt_eq, Int.natCast_zero, dLen_eL, sLen_eq])
      exact wI (show i < l.length by omega) (by omega)

theorem laws_sameInts_self (l : List Int) (hl : l.length ≤ 1048576) : FnSpec PR f_laws_sameInts [aIs l, aIs l] (ab true) [] 0 := by
  refine FnSpec.intro hT p_laws_sameInts rfl (by kernel_rfl) n_laws_sameInts rfl ?_
  conv => whnf
  refine ifB_i (fun h1 => ?_) (fun h1 => ?_) <;> (conv => whnf)
  · simp at h1
  refine tri_loop hT [0, 1, 5] (α := Nat) (fun x => { t := [(0, aIs l), (1, aIs l), (5, ai x)], h := [], n := 0, N := 26 })
    (fun x => x ≤ l.length) (fun x => l.length - x) 0 (by ((conv => whnf); simp only [St.mk.injEq, List.cons.injEq, Prod.mk.injEq, AV.c.injEq, AV.agg.injEq, AV.tup.injEq, CV.d.injEq, D.int.injEq, D.bool.injEq, D.str.injEq, D.sl.injEq, Ent.arr.injEq, Ent.box.injEq, true_and, and_true, and_self, nInt_eq, Int.natCast_zero, dLen_eL, sLen_eq])) (Nat.zero_le _) ?_
  intro i hi
  (conv => whnf)
  refine ifB_i (fun h1 => ?_) (fun h1 => ?_) <;> (conv => whnf) <;> simp only [nInt_eq, Int.natCast_zero, dLen_eL, sLen_eq, nOf_eq, Int.toNat_natCast, nAdd_eq, nSub_eq, dLen_nil, dLen_cons, iLt_t, iLt_f, iLe_t, iLe_f, iEq_t, iEq_f, sEq_t, sEq_f, bNot_t, bNot_f, bAnd_t, bEq_t, bEq_f, Bool.not_eq_true, Bool.not_eq_false, Bool.true_eq_false, Bool.false_eq_true] at h1
  · obtain ⟨y, hy⟩ := get_lt (show i < l.length by omega)
    refine tri_conf hT hmix (by kernel_rfl) ?_
    (conv => whnf)
    repeat' first
      | (refine And.intro (fun q => ?_) (fun q => ?_) <;> cases q <;> (conv => whnf))
      | (refine idx_at (by simp) hy ?_; (conv => whnf))
      | fail
    refine ifB_i (fun h2 => ?_) (fun h2 => ?_) <;> (conv => whnf) <;> simp only [nInt_eq, Int.natCast_zero, dLen_eL, sLen_eq, nOf_eq, Int.toNat_natCast, nAdd_eq, nSub_eq, dLen_nil, dLen_cons, iLt_t, iLt_f, iLe_t, iLe_f, iEq_t, iEq_f, sEq_t, sEq_f, bNot_t, bNot_f, bAnd_t, bEq_t, bEq_f, Bool.not_eq_true, Bool.not_eq_false, Bool.true_eq_false, Bool.false_eq_true] at h2
    · exact absurd rfl h2
    · refine ⟨i + 1, by omega, by omega, ?_⟩
      ((conv => whnf); simp only [St.mk.injEq, List.cons.injEq, Prod.mk.injEq, AV.c.injEq, AV.agg.injEq, AV.tup.injEq, CV.d.injEq, D.int.injEq, D.bool.injEq, D.str.injEq, D.sl.injEq, Ent.arr.injEq, Ent.box.injEq, true_and, and_true, and_self, nInt_eq, Int.natCast_zero, dLen_eL, sLen_eq])
      exact wI (show i < l.length by omega) (by omega)

theorem spec_BinOf_spec (l : List Int) (v : Int) (hl : l.length ≤ 1048576) : FnSpec PR f_spec_BinOf [aIs l, ai v] (ai (binL l v)) [] 0 := by
  refine FnSpec.intro hT p_spec_BinOf rfl (by kernel_rfl) n_spec_BinOf rfl ?_
  conv => whnf
  refine tri_loop hT [0, 1, 5, 6] (α := Nat) (fun x => { t := [(0, aIs l), (1, ai v), (5, ai (binL (l.take x) v)), (6, ai x)], h := [], n := 0, N := 22 })
    (fun x => x ≤ l.length) (fun x => l.length - x) 0 (by ((conv => whnf); simp only [St.mk.injEq, List.cons.injEq, Prod.mk.injEq, AV.c.injEq, AV.agg.injEq, AV.tup.injEq, CV.d.injEq, D.int.injEq, D.bool.injEq, D.str.injEq, D.sl.injEq, Ent.arr.injEq, Ent.box.injEq, true_and, and_true, and_self, nInt_eq, Int.natCast_zero, dLen_eL, sLen_eq, binL]); simp) (Nat.zero_le _) ?_
  intro i hi
  have hbl : binL (l.take i) v ≤ i := by
    unfold binL
    have := List.countP_le_length (p := fun c => iLt c v) (l := l.take i)
    simp at this
    omega
  (conv => whnf)
  refine ifB_i (fun h1 => ?_) (fun h1 => ?_) <;> (conv => whnf) <;> simp only [nInt_eq, Int.natCast_zero, dLen_eL, sLen_eq, nOf_eq, Int.toNat_natCast, nAdd_eq, nSub_eq, dLen_nil, dLen_cons, iLt_t, iLt_f, iLe_t, iLe_f, iEq_t, iEq_f, sEq_t, sEq_f, bNot_t, bNot_f, bAnd_t, bEq_t, bEq_f, Bool.not_eq_true, Bool.not_eq_false, Bool.true_eq_false, Bool.false_eq_true] at h1
  · obtain ⟨y, hy⟩ := get_lt (show i < l.length by omega)
    have e : binL (l.take (i + 1)) v = binL (l.take i) v + (if iLt y v = true then 1 else 0) := by
      simp [binL, List.take_add_one, hy, List.countP_append, List.countP_singleton]
    refine idx_at (by simp) hy ?_
    (conv => whnf)
    refine ifB_i (fun h2 => ?_) (fun h2 => ?_) <;> (conv => whnf)
    · rw [if_pos h2] at e
      refine ⟨i + 1, by omega, by omega, ?_⟩
      ((conv => whnf); simp only [St.mk.injEq, List.cons.injEq, Prod.mk.injEq, AV.c.injEq, AV.agg.injEq, AV.tup.injEq, CV.d.injEq, D.int.injEq, D.bool.injEq, D.str.injEq, D.sl.injEq, Ent.arr.injEq, Ent.box.injEq, true_and, and_true, and_self, nInt_eq, Int.natCast_zero, dLen_eL, sLen_eq, e])
      exact ⟨wAdd64 (by omega) (by omega), wI (show i < l.length by omega) (by omega)⟩
    · rw [if_neg (by simp [h2])] at e
      refine ⟨i + 1, by omega, by omega, ?_⟩
      ((conv => whnf); simp only [St.mk.injEq, List.cons.injEq, Prod.mk.injEq, AV.c.injEq, AV.agg.injEq, AV.tup.injEq, CV.d.injEq, D.int.injEq, D.bool.injEq, D.str.injEq, D.sl.injEq, Ent.arr.injEq, Ent.box.injEq, true_and, and_true, and_self, nInt_eq, Int.natCast_zero, dLen_eL, sLen_eq, e])
      exact ⟨rfl, wI (show i < l.length by omega) (by omega)⟩
  · obtain rfl : i = l.length := by omega
    rw [List.take_length]
end Go.H.S
namespace Go.H.S
open Go Go.Proofs Go.H
attribute [local irreducible] Tri FnSpec FnSpecM FnSpecX FnSpecJ FnSpecB
set_option maxRecDepth 100000
set_option linter.unusedSimpArgs false
set_option linter.unusedVariables false


theorem spec_DrawStepsAt_spec (code : List Int) (hl : code.length ≤ 1048576) : FnSpecX PR f_spec_DrawStepsAt [.c (.d (.sl 1 (eL cU code)))] (List Nd × Int) (fun x => x.1.length ≤ 32 ∧ -2 ≤ x.2 ∧ x.2 ≤ 2) tupT1 (fun _ => []) (fun _ => 0) := by
  refine FnSpecX.intro hT p_spec_DrawStepsAt rfl (by kernel_rfl) n_spec_DrawStepsAt rfl ?_
  (conv => whnf)
  refine .inr ⟨_, _, _, _, _, spec_l1New_spec code hl, fun h0 _ => ⟨rfl, ?_⟩⟩
  (conv => whnf)
  refine .inr (.inr (.inr (.inr (.inl ⟨1, ?_⟩))))
  (conv => whnf)
  refine ⟨_, _, _, _, _, _, spec_l17Bent_spec code 0 h0 ⟨by omega, by omega⟩ hl, fun ⟨t, i1, h1⟩ ⟨ht, hi1⟩ => ⟨rfl, ?_⟩⟩
  dsimp only at ht hi1
  (conv => whnf)
  refine .inr (.inr (.inr (.inr (.inl ⟨1, ?_⟩))))
  (conv => whnf)
  refine ⟨_, _, _, _, _, _, spec_l1Below_spec code i1 h1 _ hi1 hl, fun ⟨x, i2, h2⟩ ⟨hx, hi2⟩ => ⟨rfl, ?_⟩⟩
  dsimp only at hx hi2
  (conv => whnf)
  have hx2 := hx.2.1 (by decide)
  rw [show wSub .i64 x 2 = x - 2 from wSub64 (by omega) (by omega)]
  refine ⟨(t, x - 2), ⟨ht, by dsimp only; omega, by dsimp only; omega⟩, ?_⟩
  (conv => whnf)
end Go.H.S
namespace Go.H.S
open Go Go.Proofs Go.H
attribute [local irreducible] Tri FnSpec FnSpecM FnSpecX FnSpecJ FnSpecB
set_option maxRecDepth 100000
set_option linter.unusedSimpArgs false
set_option linter.unusedVariables false


set_option maxHeartbeats 1000000 in
theorem spec_l18Way_spec (t : List Nd) (row : List Int) (hl : t.length ≤ 1048576) (hr : row.length ≤ 1048576) : FnSpec PR f_spec_l18Way [aT t, aIs row] (.c (.ref 0 0 none)) [(0, .arr t_int 1 0 .own (eL cI ((routeL t row (t.length + 1) 0).getD [])))] 1 := by
  refine FnSpec.intro hT p_spec_l18Way rfl (by kernel_rfl) n_spec_l18Way rfl ?_
  conv => whnf
  refine tri_loop hT [1, 2, 5, 6, 7] (α := Nat × Int × List Int) (fun x => { t := [(1, aIs row), (2, .c (.ptr 0 0)), (5, .c (.ref 1 0 none)), (6, ai x.2.1), (7, ai x.1)], h := [(0, .box t_impl_Tree (cTr t)), (1, .arr t_int 1 0 .own (eL cI x.2.2))], n := 2, N := 59 })
    (fun x => x.1 ≤ t.length + 1 ∧ x.2.2.length ≤ x.1 ∧ (routeL t row (t.length + 1 - x.1) x.2.1).map (x.2.2 ++ ·) = routeL t row (t.length + 1) 0) (fun x => t.length + 1 - x.1) (0, 0, []) (by ((conv => whnf); simp only [St.mk.injEq, List.cons.injEq, Prod.mk.injEq, AV.c.injEq, AV.agg.injEq, AV.tup.injEq, CV.d.injEq, D.int.injEq, D.bool.injEq, D.str.injEq, D.sl.injEq, Ent.arr.injEq, Ent.box.injEq, true_and, and_true, and_self, nInt_eq, Int.natCast_zero, dLen_eL, sLen_eq, eL_nil])) ⟨by simp, by simp, by simp⟩ ?_
  intro ⟨k, x, o⟩ ⟨hk, ho, he⟩
  dsimp only at hk ho he
  (conv => whnf)
  rw [show nInt (dLen (eL cN t)) = (t.length : Int) by simp]
  refine ifB_i (fun h1 => ?_) (fun h1 => ?_) <;> (conv => whnf) <;> simp only [nInt_eq, Int.natCast_zero, dLen_eL, sLen_eq, nOf_eq, Int.toNat_natCast, nAdd_eq, nSub_eq, dLen_nil, dLen_cons, iLt_t, iLt_f, iLe_t, iLe_f, iEq_t, iEq_f, sEq_t, sEq_f, bNot_t, bNot_f, bAnd_t, bEq_t, bEq_f, Bool.not_eq_true, Bool.not_eq_false, Bool.true_eq_false, Bool.false_eq_true] at h1
  · obtain ⟨m, hm⟩ : ∃ m, t.length + 1 - k = m + 1 := ⟨t.length - k, by omega⟩
    rw [hm, routeL] at he
    rw [show nInt (dLen (eL cN t)) = (t.length : Int) by simp]
    rw [show wSub .i64 (t.length : Int) 1 = (t.length : Int) - 1 from wSub64 (by omega) (by omega)]
    refine .inl ⟨_, _, _, spec_l1In_spec _ _ _, rfl, ?_⟩
    (conv => whnf)
    refine ifB_i (fun h2 => ?_) (fun h2 => ?_) <;> (conv => whnf)
    · simp at h2
      have hz : routeL t row (t.length + 1) 0 = none := by
        rw [← he]
        split
        · rename_i h3
          have : t[x.toNat]? = none := List.getElem?_eq_none (by have := h2 h3; omega)
          simp [this]
        · rfl
      rw [hz]
      simp [eL_nil]
    · simp at h2
      obtain ⟨j, rfl⟩ : ∃ j : Nat, x = j := ⟨x.toNat, by omega⟩
      obtain ⟨n, hn⟩ := get_lt (show j < t.length by omega)
      rw [if_pos h2.1, show (j : Int).toNat = j by simp, hn] at he
      dsimp only at he
      refine idx_at (by simp) hn ?_
      (conv => whnf)
      refine And.intro (by unfold Fits; simp; omega) ?_
      (conv => whnf)
      refine .inl ⟨_, _, _, spec_l17Inner_spec n, rfl, ?_⟩
      (conv => whnf)
      refine ifB_i (fun h3 => ?_) (fun h3 => ?_) <;> (conv => whnf) <;> simp [bNot, iEq] at h3
      · rw [if_pos h3] at he
        simp only [Option.map_some] at he
        rw [← he, Option.getD_some, ← eL_app]
        rfl
      · rw [if_neg h3] at he
        refine .inl ⟨_, _, _, spec_l1In_spec _ _ _, rfl, ?_⟩
        (conv => whnf)
        have er : wSub .i64 (nInt (dLen (eL cI row))) 1 = (row.length : Int) - 1 := by rw [show nInt (dLen (eL cI row)) = (row.length : Int) by simp]; exact wSub64 (by omega) (by omega)
        refine ifB_i (fun h4 => ?_) (fun h4 => ?_) <;> (conv => whnf)
        · rw [er] at h4
          simp at h4
          rw [if_neg (by omega)] at he
          simp only [Option.map_none] at he
          rw [← he]
          simp [eL_nil]
        · rw [er] at h4
          simp at h4
          rw [if_pos (by omega)] at he
          obtain ⟨q, hq⟩ : ∃ q : Nat, n.f = q := ⟨n.f.toNat, by omega⟩
          obtain ⟨v, hv⟩ := get_lt (show q < row.length by omega)
          have hg : goL row n = iLe v n.c := by simp [goL, rowAt, hq, hv]
          refine tri_conf hT hmix (by kernel_rfl) ?_
          (conv => whnf)
          repeat' (first | (refine And.intro (fun q => ?_) (fun q => ?_) <;> cases q <;> (conv => whnf)) | fail)
          rw [hq]
          refine idx_at (by simp) hv ?_
          (conv => whnf)
          repeat' (first | (refine And.intro (fun q => ?_) (fun q => ?_) <;> cases q <;> (conv => whnf)) | fail)
          have hm2 : t.length + 1 - (k + 1) = m := by omega
          rw [hg] at he
          refine ifB_i (fun h5 => ?_) (fun h5 => ?_) <;> (conv => whnf)
          · refine ⟨(k + 1, n.l, o ++ [(j : Int)]), by dsimp only; omega, ⟨by dsimp only; omega, by simp; omega, ?_⟩, ?_⟩
            · dsimp only
              rw [hm2, ← he, if_pos h5]
              cases routeL t row m n.l <;> simp
            · ((conv => whnf); simp only [St.mk.injEq, List.cons.injEq, Prod.mk.injEq, AV.c.injEq, AV.agg.injEq, AV.tup.injEq, CV.d.injEq, D.int.injEq, D.bool.injEq, D.str.injEq, D.sl.injEq, Ent.arr.injEq, Ent.box.injEq, true_and, and_true, and_self, nInt_eq, Int.natCast_zero, dLen_eL, sLen_eq])
              refine ⟨wI (show k < t.length + 1 by omega) (by omega), ?_⟩
              rw [← eL_app]
              rfl
          · refine ⟨(k + 1, n.r, o ++ [(j : Int)]), by dsimp only; omega, ⟨by dsimp only; omega, by simp; omega, ?_⟩, ?_⟩
            · dsimp only
              rw [hm2, ← he, if_neg (by simp [h5])]
              cases routeL t row m n.r <;> simp
            · ((conv => whnf); simp only [St.mk.injEq, List.cons.injEq, Prod.mk.injEq, AV.c.injEq, AV.agg.injEq, AV.tup.injEq, CV.d.injEq, D.int.injEq, D.bool.injEq, D.str.injEq, D.sl.injEq, Ent.arr.injEq, Ent.box.injEq, true_and, and_true, and_self, nInt_eq, Int.natCast_zero, dLen_eL, sLen_eq])
              refine ⟨wI (show k < t.length + 1 by omega) (by omega), ?_⟩
              rw [← eL_app]
              rfl
  · have : t.length + 1 - k = 0 := by omega
    rw [this, routeL] at he
    simp only [Option.map_none] at he
    rw [← he]
    simp [eL_nil]

theorem route_end (t : List Nd) (row : List Int) : ((routeL t row (t.length + 1) 0).getD [] = [] ∧ endL t row = -1) ∨
    ((routeL t row (t.length + 1) 0).getD []).getLast? = some (endL t row) ∧ 0 < ((routeL t row (t.length + 1) 0).getD []).length ∧ ((routeL t row (t.length + 1) 0).getD []).length ≤ t.length + 1 := by
  cases hx : routeL t row (t.length + 1) 0 with
  | none => exact .inl ⟨rfl, by rw [endL, hx]⟩
  | some l =>
    obtain ⟨k, n, h1, h2, h3, h4, h5, h6⟩ := routeL_ends hx
    exact .inr ⟨by rw [endL, hx]; simp [h1], h5, h6⟩
theorem spec_RouteTo_spec (t : List Nd) (row : List Int) (hl : t.length ≤ 1048576) (hr : row.length ≤ 1048576) : FnSpec PR f_spec_RouteTo [aT t, aIs row] (ai (endL t row)) [] 0 := by
  have hw := spec_l18Way_spec t row hl hr
  have he := route_end t row
  generalize endL t row = e at *
  generalize (routeL t row (t.length + 1) 0).getD [] = l at *
  refine FnSpec.intro hT p_spec_RouteTo rfl (by kernel_rfl) n_spec_RouteTo rfl ?_
  conv => whnf
  refine .inl ⟨_, _, _, hw, rfl, ?_⟩
  (conv => whnf)
  rw [show nInt (lenRE (eL cI l) none) = (l.length : Int) by simp [lenRE]]
  refine ifB_i (fun h7 => ?_) (fun h7 => ?_) <;> (conv => whnf) <;> simp only [nInt_eq, Int.natCast_zero, dLen_eL, sLen_eq, nOf_eq, Int.toNat_natCast, nAdd_eq, nSub_eq, dLen_nil, dLen_cons, iLt_t, iLt_f, iLe_t, iLe_f, iEq_t, iEq_f, sEq_t, sEq_f, bNot_t, bNot_f, bAnd_t, bEq_t, bEq_f, Bool.not_eq_true, Bool.not_eq_false, Bool.true_eq_false, Bool.false_eq_true] at h7
  · rcases he with ⟨_, h1⟩ | ⟨_, h1, _⟩
    · rw [h1]
    · omega
  · rcases he with ⟨h1, _⟩ | ⟨h1, h2, h3⟩
    · subst h1
      exact absurd rfl h7
    · rw [show nInt (lenRE (eL cI l) none) = (l.length : Int) by simp [lenRE]]
      rw [show wSub .i64 (l.length : Int) 1 = ((l.length - 1 : Nat) : Int) by rw [wSub64] <;> omega]
      refine ref_at rfl (by simp; omega) ?_
      (conv => whnf)
      refine ld_at (k := l.length - 1) (by simp) (by rw [← List.getLast?_eq_getElem?]; exact h1) ?_
      (conv => whnf)

theorem spec_EvalTree_spec (t : List Nd) (row : List Int) (hl : t.length ≤ 1048576) (hr : row.length ≤ 1048576) : FnSpec PR f_spec_EvalTree [aT t, aIs row] (ai (evalL t row)) [] 0 := by
  refine FnSpec.intro hT p_spec_EvalTree rfl (by kernel_rfl) n_spec_EvalTree rfl ?_
  conv => whnf
  refine .inl ⟨_, _, _, spec_RouteTo_spec t row hl hr, rfl, ?_⟩
  (conv => whnf)
  refine ifB_i (fun h1 => ?_) (fun h1 => ?_) <;> (conv => whnf) <;> simp only [nInt_eq, Int.natCast_zero, dLen_eL, sLen_eq, nOf_eq, Int.toNat_natCast, nAdd_eq, nSub_eq, dLen_nil, dLen_cons, iLt_t, iLt_f, iLe_t, iLe_f, iEq_t, iEq_f, sEq_t, sEq_f, bNot_t, bNot_f, bAnd_t, bEq_t, bEq_f, Bool.not_eq_true, Bool.not_eq_false, Bool.true_eq_false, Bool.false_eq_true] at h1
  · rw [evalL, if_pos h1]
  · have hz : ∃ (k : Nat) (n : Nd), endL t row = k ∧ t[k]? = some n := by
      unfold endL at h1 ⊢
      cases hx : routeL t row (t.length + 1) 0 with
      | none => rw [hx] at h1; simp at h1
      | some l =>
        obtain ⟨k, n, h2, h3, _⟩ := routeL_ends hx
        exact ⟨k, n, by simp [h2], h3⟩
    obtain ⟨k, n, hk, hn⟩ := hz
    rw [hk]
    refine idx_at (by simp) hn ?_
    (conv => whnf)
    rw [evalL, hk, if_neg (by omega), show (k : Int).toNat = k by simp, hn]
end Go.H.S
namespace Go.H.S
open Go Go.Proofs Go.H
attribute [local irreducible] Tri FnSpec FnSpecM FnSpecX FnSpecJ
set_option maxRecDepth 100000
set_option linter.unusedSimpArgs false
set_option linter.unusedVariables false


def predL (row : List Int) : List (List Nd) → Int → Int
  | [], a => a
  | t :: r, a => predL row r (wAdd .i64 a (evalL t row))
def predictM (m : Mdl) (row : List Int) : Int × Bool := if modelOk m = true ∧ row.length = m.names.length then (predL row m.trees m.base, true) else (0, false)
abbrev tupIB (x : Int × Bool) : AV := .tup [(false, [.d (.int .i64 x.1)]), (false, [.d (.bool x.2)])]
/-- Sizes of a model. -/
structure szM (m : Mdl) : Prop where
  names : m.names.length ≤ 1048576
  texts : ∀ s ∈ m.names, s.size ≤ 9223372036854775807
  signs : m.signs.length ≤ 1048576
  trees : m.trees.length ≤ 1048576
  nodes : ∀ t ∈ m.trees, t.length ≤ 1048576
theorem szM.sm {m : Mdl} (h : szM m) : smM m := ⟨by have := h.names; omega, by have := h.signs; omega, by have := h.trees; omega, fun t ht => by have := h.nodes t ht; omega⟩

theorem impl_Predict_spec (m : Mdl) (row : List Int) (hs : szM m) (hr : row.length ≤ 1048576) : FnSpec PR f_impl_Predict [aM m, aIs row] (tupIB (predictM m row)) [] 0 := by
  have eN : nInt (dLen (eL cS m.names)) = (m.names.length : Int) := by simp
  have eR : nInt (dLen (eL cI row)) = (row.length : Int) := by simp
  refine FnSpec.intro hT p_impl_Predict rfl (by kernel_rfl) n_impl_Predict rfl ?_
  conv => whnf
  refine .inl ⟨_, _, _, impl_ModelOk_spec m hs.names hs.texts hs.signs hs.trees hs.nodes, rfl, ?_⟩
  cases hmo : modelOk m <;> (conv => whnf)
  · rw [predictM, if_neg (by simp [hmo])]
  rw [eN, eR]
  refine ifB_i (fun h => ?_) (fun h => ?_) <;> (conv => whnf) <;> simp only [nInt_eq, Int.natCast_zero, dLen_eL, sLen_eq, nOf_eq, Int.toNat_natCast, nAdd_eq, nSub_eq, dLen_nil, dLen_cons, iLt_t, iLt_f, iLe_t, iLe_f, iEq_t, iEq_f, sEq_t, sEq_f, bNot_t, bNot_f, bAnd_t, bEq_t, bEq_f, Bool.not_eq_true, Bool.not_eq_false, Bool.true_eq_false, Bool.false_eq_true] at h
  · rw [predictM, if_neg (by omega)]
  have hlen : row.length = m.names.length := by omega
  have hp : predictM m row = (predL row m.trees m.base, true) := by rw [predictM, if_pos ⟨hmo, hlen⟩]
  rw [hp]
  refine tri_loop hT [1, 6, 23, 24, 25] (α := Nat × Int) (fun x => { t := [(1, aIs row), (6, ai x.2), (23, aTs m.trees), (24, ai m.trees.length), (25, ai x.1)], h := [], n := 0, N := 36 })
    (fun x => x.1 ≤ m.trees.length ∧ predL row (m.trees.drop x.1) x.2 = predL row m.trees m.base) (fun x => m.trees.length - x.1) (0, m.base) (by ((conv => whnf); simp only [St.mk.injEq, List.cons.injEq, Prod.mk.injEq, AV.c.injEq, AV.agg.injEq, AV.tup.injEq, CV.d.injEq, D.int.injEq, D.bool.injEq, D.str.injEq, D.sl.injEq, Ent.arr.injEq, Ent.box.injEq, true_and, and_true, and_self, nInt_eq, Int.natCast_zero, dLen_eL, sLen_eq])) ⟨Nat.zero_le _, rfl⟩ ?_
  intro ⟨k, a⟩ ⟨hk, ha⟩
  dsimp only at hk ha
  (conv => whnf)
  refine ifB_i (fun h1 => ?_) (fun h1 => ?_) <;> (conv => whnf) <;> simp at h1
  · obtain ⟨t, hx⟩ := get_lt h1
    rw [drop_at hx, predL] at ha
    refine idx_at (by simp) hx ?_
    (conv => whnf)
    refine .inl ⟨_, _, _, impl_EvalTree_spec t row (hs.nodes t (List.mem_of_getElem? hx)) hr, rfl, ?_⟩
    (conv => whnf)
    refine ⟨(k + 1, wAdd .i64 a (evalL t row)), by dsimp only; omega, ⟨h1, ha⟩, ?_⟩
    ((conv => whnf); simp only [St.mk.injEq, List.cons.injEq, Prod.mk.injEq, AV.c.injEq, AV.agg.injEq, AV.tup.injEq, CV.d.injEq, D.int.injEq, D.bool.injEq, D.str.injEq, D.sl.injEq, Ent.arr.injEq, Ent.box.injEq, true_and, and_true, and_self, nInt_eq, Int.natCast_zero, dLen_eL, sLen_eq, wI h1 (by have := hs.trees; omega)])
  · obtain rfl : k = m.trees.length := by omega
    simp only [List.drop_length, predL] at ha
    rw [← ha]

theorem spec_Predict_spec (m : Mdl) (row : List Int) (hs : szM m) (hr : row.length ≤ 1048576) : FnSpec PR f_spec_Predict [aM m, aIs row] (tupIB (predictM m row)) [] 0 := by
  have eN : nInt (dLen (eL cS m.names)) = (m.names.length : Int) := by simp
  have eR : nInt (dLen (eL cI row)) = (row.length : Int) := by simp
  refine FnSpec.intro hT p_spec_Predict rfl (by kernel_rfl) n_spec_Predict rfl ?_
  conv => whnf
  refine .inl ⟨_, _, _, spec_ModelOk_spec m hs.names hs.texts hs.signs hs.trees hs.nodes, rfl, ?_⟩
  cases hmo : modelOk m <;> (conv => whnf)
  · rw [predictM, if_neg (by simp [hmo])]
  rw [eN, eR]
  refine ifB_i (fun h => ?_) (fun h => ?_) <;> (conv => whnf) <;> simp only [nInt_eq, Int.natCast_zero, dLen_eL, sLen_eq, nOf_eq, Int.toNat_natCast, nAdd_eq, nSub_eq, dLen_nil, dLen_cons, iLt_t, iLt_f, iLe_t, iLe_f, iEq_t, iEq_f, sEq_t, sEq_f, bNot_t, bNot_f, bAnd_t, bEq_t, bEq_f, Bool.not_eq_true, Bool.not_eq_false, Bool.true_eq_false, Bool.false_eq_true] at h
  · rw [predictM, if_neg (by omega)]
  have hlen : row.length = m.names.length := by omega
  have hp : predictM m row = (predL row m.trees m.base, true) := by rw [predictM, if_pos ⟨hmo, hlen⟩]
  rw [hp]
  refine tri_loop hT [1, 2, 6, 7] (α := Nat × Int) (fun x => { t := [(1, aIs row), (2, .c (.ptr 0 0)), (6, ai x.2), (7, ai x.1)], h := [(0, .box t_impl_Model (cM m))], n := 1, N := 38 })
    (fun x => x.1 ≤ m.trees.length ∧ predL row (m.trees.drop x.1) x.2 = predL row m.trees m.base) (fun x => m.trees.length - x.1) (0, m.base) (by ((conv => whnf); simp only [St.mk.injEq, List.cons.injEq, Prod.mk.injEq, AV.c.injEq, AV.agg.injEq, AV.tup.injEq, CV.d.injEq, D.int.injEq, D.bool.injEq, D.str.injEq, D.sl.injEq, Ent.arr.injEq, Ent.box.injEq, true_and, and_true, and_self, nInt_eq, Int.natCast_zero, dLen_eL, sLen_eq])) ⟨Nat.zero_le _, rfl⟩ ?_
  intro ⟨k, a⟩ ⟨hk, ha⟩
  dsimp only at hk ha
  (conv => whnf)
  refine ifB_i (fun h1 => ?_) (fun h1 => ?_) <;> (conv => whnf) <;> simp at h1
  · obtain ⟨t, hx⟩ := get_lt h1
    rw [drop_at hx, predL] at ha
    refine idx_at (by simp) hx ?_
    (conv => whnf)
    refine .inl ⟨_, _, _, spec_EvalTree_spec t row (hs.nodes t (List.mem_of_getElem? hx)) hr, rfl, ?_⟩
    (conv => whnf)
    refine ⟨(k + 1, wAdd .i64 a (evalL t row)), by dsimp only; omega, ⟨h1, ha⟩, ?_⟩
    ((conv => whnf); simp only [St.mk.injEq, List.cons.injEq, Prod.mk.injEq, AV.c.injEq, AV.agg.injEq, AV.tup.injEq, CV.d.injEq, D.int.injEq, D.bool.injEq, D.str.injEq, D.sl.injEq, Ent.arr.injEq, Ent.box.injEq, true_and, and_true, and_self, nInt_eq, Int.natCast_zero, dLen_eL, sLen_eq, wI h1 (by have := hs.trees; omega)])
  · obtain rfl : k = m.trees.length := by omega
    simp only [List.drop_length, predL] at ha
    rw [← ha]

def stageV (m : Mdl) (row : List Int) (k : Nat) : Int × Bool := predictM (firstM m k) row
def stagesL (m : Mdl) (row : List Int) : List Int := if ∀ k, k ≤ m.trees.length → (stageV m row k).2 = true then (List.range (m.trees.length + 1)).map fun k => (stageV m row k).1 else []
theorem firstM_sz {m : Mdl} (h : szM m) (k : Int) : szM (firstM m k) := ⟨h.names, h.texts, h.signs, by have := h.trees; simp [firstM]; omega, fun t ht => h.nodes t (List.mem_of_mem_take ht)⟩
theorem dPart_eL {α : Type} (f : α → List D) (xs : List α) (n : Nat) : dPart (eL f xs) 0 n = eL f (xs.take n) := by
  simp only [dPart_eq, eL, List.drop_zero, List.map_take]
theorem stagesL_len (m : Mdl) (row : List Int) : (stagesL m row).length ≤ m.trees.length + 1 := by
  unfold stagesL
  split <;> simp

theorem impl_Stages_spec (m : Mdl) (row : List Int) (hs : szM m) (hr : row.length ≤ 1048576) : FnSpec PR f_impl_Stages [aM m, aIs row] (.c (.ref 0 0 none)) [(0, .arr t_int 1 0 .own (eL cI (stagesL m row)))] 1 := by
  have hlt := hs.trees
  have e1 : wAdd .i64 (nInt (dLen (eL cT m.trees))) 1 = ((m.trees.length + 1 : Nat) : Int) := by rw [show nInt (dLen (eL cT m.trees)) = (m.trees.length : Int) by simp, wAdd64] <;> omega
  refine FnSpec.intro hT p_impl_Stages rfl (by kernel_rfl) n_impl_Stages rfl ?_
  conv => whnf
  rw [e1]
  refine tri_loop hT [1, 2, 5, 13, 14] (α := Nat × List Int) (fun x => { t := [(1, aIs row), (2, .c (.ptr 0 0)), (5, .c (.ref 1 0 none)), (13, ai (m.trees.length + 1 : Nat)), (14, ai x.1)], h := [(0, .box t_impl_Model (cM m)), (1, .arr t_int 1 0 .own (eL cI x.2))], n := 2, N := 33 })
    (fun x => x.1 ≤ m.trees.length + 1 ∧ x.2 = (List.range x.1).map (fun k => (stageV m row k).1) ∧ ∀ k, k < x.1 → (stageV m row k).2 = true) (fun x => m.trees.length + 1 - x.1) (0, []) (by ((conv => whnf); simp only [St.mk.injEq, List.cons.injEq, Prod.mk.injEq, AV.c.injEq, AV.agg.injEq, AV.tup.injEq, CV.d.injEq, D.int.injEq, D.bool.injEq, D.str.injEq, D.sl.injEq, Ent.arr.injEq, Ent.box.injEq, true_and, and_true, and_self, nInt_eq, Int.natCast_zero, dLen_eL, sLen_eq, eL_nil])) ⟨Nat.zero_le _, by simp, fun k hk => by omega⟩ ?_
  intro ⟨k, o⟩ ⟨hk, ho, hok⟩
  dsimp only at hk ho hok
  (conv => whnf)
  refine ifB_i (fun h1 => ?_) (fun h1 => ?_) <;> (conv => whnf) <;> simp only [nInt_eq, Int.natCast_zero, dLen_eL, sLen_eq, nOf_eq, Int.toNat_natCast, nAdd_eq, nSub_eq, dLen_nil, dLen_cons, iLt_t, iLt_f, iLe_t, iLe_f, iEq_t, iEq_f, sEq_t, sEq_f, bNot_t, bNot_f, bAnd_t, bEq_t, bEq_f, Bool.not_eq_true, Bool.not_eq_false, Bool.true_eq_false, Bool.false_eq_true] at h1
  · refine .inl ⟨_, _, _, impl_FirstTrees_spec m k hs.sm, rfl, ?_⟩
    (conv => whnf)
    have hp : FnSpec PR f_impl_Predict [.agg [.d (.sl 1 (eL cS m.names)), .d (.sl 1 (eL cI m.signs)), .d (.int .i64 m.base), .d (.sl 1 (dPart (eL cT m.trees) 0 (firstK m k)))], aIs row] (tupIB (predictM (firstM m k) row)) [] 0 := by
      rw [dPart_eL]; exact impl_Predict_spec (firstM m k) row (firstM_sz hs k) hr
    refine .inl ⟨_, _, _, hp, rfl, ?_⟩
    cases hv : (stageV m row k).2 with
    | false =>
      have hv' : predictM (firstM m k) row = ((stageV m row k).1, false) := by rw [← hv]; rfl
      rw [hv']
      (conv => whnf)
      have hn : stagesL m row = [] := by rw [stagesL, if_neg (fun h => by have := h k (by omega); rw [hv] at this; cases this)]
      rw [hn, eL_nil]
    | true =>
      have hv' : predictM (firstM m k) row = ((stageV m row k).1, true) := by rw [← hv]; rfl
      rw [hv']
      (conv => whnf)
      have hol : o.length = k := by rw [ho]; simp
      refine And.intro (by simp [eL_length, dLen_len]; omega) ?_
      (conv => whnf)
      refine ⟨(k + 1, o ++ [(stageV m row k).1]), by dsimp only; omega, ⟨by dsimp only; omega, by dsimp only; rw [ho, List.range_succ, List.map_append]; rfl, fun j hj => ?_⟩, ?_⟩
      · dsimp only at hj
        rcases Nat.lt_or_ge j k with q | q
        · exact hok j q
        · obtain rfl : j = k := by omega
          exact hv
      ((conv => whnf); simp only [St.mk.injEq, List.cons.injEq, Prod.mk.injEq, AV.c.injEq, AV.agg.injEq, AV.tup.injEq, CV.d.injEq, D.int.injEq, D.bool.injEq, D.str.injEq, D.sl.injEq, Ent.arr.injEq, Ent.box.injEq, true_and, and_true, and_self, nInt_eq, Int.natCast_zero, dLen_eL, sLen_eq, wI (show k < m.trees.length + 1 by omega) (by omega)])
      rw [← eL_app]
      rfl
  · obtain rfl : k = m.trees.length + 1 := by omega
    have : stagesL m row = o := by rw [stagesL, if_pos (fun j hj => hok j (by omega)), ho]
    rw [this]

theorem spec_Stages_spec (m : Mdl) (row : List Int) (hs : szM m) (hr : row.length ≤ 1048576) : FnSpec PR f_spec_Stages [aM m, aIs row] (.c (.ref 0 0 none)) [(0, .arr t_int 1 0 .own (eL cI (stagesL m row)))] 1 := by
  have hlt := hs.trees
  refine FnSpec.intro hT p_spec_Stages rfl (by kernel_rfl) n_spec_Stages rfl ?_
  conv => whnf
  refine tri_loop hT [1, 2, 5, 6] (α := Nat × List Int) (fun x => { t := [(1, aIs row), (2, .c (.ptr 0 0)), (5, .c (.ref 1 0 none)), (6, ai x.1)], h := [(0, .box t_impl_Model (cM m)), (1, .arr t_int 1 0 .own (eL cI x.2))], n := 2, N := 33 })
    (fun x => x.1 ≤ m.trees.length + 1 ∧ x.2 = (List.range x.1).map (fun k => (stageV m row k).1) ∧ ∀ k, k < x.1 → (stageV m row k).2 = true) (fun x => m.trees.length + 1 - x.1) (0, []) (by ((conv => whnf); simp only [St.mk.injEq, List.cons.injEq, Prod.mk.injEq, AV.c.injEq, AV.agg.injEq, AV.tup.injEq, CV.d.injEq, D.int.injEq, D.bool.injEq, D.str.injEq, D.sl.injEq, Ent.arr.injEq, Ent.box.injEq, true_and, and_true, and_self, nInt_eq, Int.natCast_zero, dLen_eL, sLen_eq, eL_nil])) ⟨Nat.zero_le _, by simp, fun k hk => by omega⟩ ?_
  intro ⟨k, o⟩ ⟨hk, ho, hok⟩
  dsimp only at hk ho hok
  (conv => whnf)
  refine ifB_i (fun h1 => ?_) (fun h1 => ?_) <;> (conv => whnf) <;> simp only [nInt_eq, Int.natCast_zero, dLen_eL, sLen_eq, nOf_eq, Int.toNat_natCast, nAdd_eq, nSub_eq, dLen_nil, dLen_cons, iLt_t, iLt_f, iLe_t, iLe_f, iEq_t, iEq_f, sEq_t, sEq_f, bNot_t, bNot_f, bAnd_t, bEq_t, bEq_f, Bool.not_eq_true, Bool.not_eq_false, Bool.true_eq_false, Bool.false_eq_true] at h1
  · refine .inl ⟨_, _, _, spec_FirstTrees_spec m k hs.sm, rfl, ?_⟩
    (conv => whnf)
    have hp : FnSpec PR f_spec_Predict [.agg [.d (.sl 1 (eL cS m.names)), .d (.sl 1 (eL cI m.signs)), .d (.int .i64 m.base), .d (.sl 1 (dPart (eL cT m.trees) 0 (firstK m k)))], aIs row] (tupIB (predictM (firstM m k) row)) [] 0 := by
      rw [dPart_eL]; exact spec_Predict_spec (firstM m k) row (firstM_sz hs k) hr
    refine .inl ⟨_, _, _, hp, rfl, ?_⟩
    cases hv : (stageV m row k).2 with
    | false =>
      have hv' : predictM (firstM m k) row = ((stageV m row k).1, false) := by rw [← hv]; rfl
      rw [hv']
      (conv => whnf)
      have hn : stagesL m row = [] := by rw [stagesL, if_neg (fun h => by have := h k (by omega); rw [hv] at this; cases this)]
      rw [hn, eL_nil]
    | true =>
      have hv' : predictM (firstM m k) row = ((stageV m row k).1, true) := by rw [← hv]; rfl
      rw [hv']
      (conv => whnf)
      have hol : o.length = k := by rw [ho]; simp
      refine And.intro (by simp [eL_length, dLen_len]; omega) ?_
      (conv => whnf)
      refine ⟨(k + 1, o ++ [(stageV m row k).1]), by dsimp only; omega, ⟨by dsimp only; omega, by dsimp only; rw [ho, List.range_succ, List.map_append]; rfl, fun j hj => ?_⟩, ?_⟩
      · dsimp only at hj
        rcases Nat.lt_or_ge j k with q | q
        · exact hok j q
        · obtain rfl : j = k := by omega
          exact hv
      ((conv => whnf); simp only [St.mk.injEq, List.cons.injEq, Prod.mk.injEq, AV.c.injEq, AV.agg.injEq, AV.tup.injEq, CV.d.injEq, D.int.injEq, D.bool.injEq, D.str.injEq, D.sl.injEq, Ent.arr.injEq, Ent.box.injEq, true_and, and_true, and_self, nInt_eq, Int.natCast_zero, dLen_eL, sLen_eq, wI (show k < m.trees.length + 1 by omega) (by omega)])
      rw [← eL_app]
      rfl
  · obtain rfl : k = m.trees.length + 1 := by omega
    have : stagesL m row = o := by rw [stagesL, if_pos (fun j hj => hok j (by omega)), ho]
    rw [this]
end Go.H.S
namespace Go.H.S
open Go Go.Proofs Go.H
attribute [local irreducible] Tri FnSpec FnSpecM FnSpecX FnSpecJ FnSpecB
set_option maxRecDepth 100000
set_option linter.unusedSimpArgs false
set_option linter.unusedVariables false


theorem anc_in {t : List Nd} {z x : Int} (h : Anc t z x) : 0 ≤ x ∧ x < t.length → 0 ≤ z ∧ z < t.length := by
  induction h with
  | refl => exact id
  | up h0 _ ih => exact fun _ => ih ⟨h0, (up_lt t _).2⟩
theorem treeOk_shape {t : List Nd} {ft : Int} (h : treeOk t ft = true) : shapeOk t ft = true ∧ 1 ≤ t.length ∧ t.length ≤ 31 := by
  simp only [treeOk, Bool.and_eq_true, decide_eq_true_eq] at h
  exact ⟨h.2.2.1, by omega, by omega⟩
theorem span_in {t : List Nd} {ft : Int} (h : shapeOk t ft = true) (hl : t.length ≤ 31) {x : Int} (hb : (spanL t x).2.2 = true) : 0 ≤ x ∧ x < t.length := by
  obtain ⟨j, n, h1, _, h3, _⟩ := ((span_under h hl x).1 hb).1
  exact anc_in h3 ⟨by omega, by have := (List.getElem?_eq_some_iff.1 h1).1; omega⟩
end Go.H.S
namespace Go.H.S
open Go Go.Proofs Go.H
attribute [local irreducible] Tri FnSpec FnSpecM FnSpecX FnSpecJ FnSpecB
set_option maxRecDepth 100000
set_option linter.unusedSimpArgs false
set_option linter.unusedVariables false


theorem ends_congr {t : List Nd} {g g' : Nd → Bool} (hg : ∀ n ∈ t, n.f ≠ -1 → g n = g' n) {x : Int} {k : Nat} (h : Ends t g x k) : Ends t g' x k := by
  induction h with
  | leaf hj hf => exact .leaf hj hf
  | left hj hf hgn _ ih => exact .left hj hf (by rw [← hg _ (List.mem_of_getElem? hj) hf]; exact hgn) ih
  | right hj hf hgn _ ih => exact .right hj hf (by rw [← hg _ (List.mem_of_getElem? hj) hf]; exact hgn) ih
theorem route_total {t : List Nd} {ft : Int} (h : shapeOk t ft = true) {row : List Int} (hr : ft ≤ row.length) : ∀ (m j : Nat), j < t.length → t.length - j ≤ m → ∃ l, routeL t row m j = some l
  | 0, j, h1, h2 => by omega
  | m + 1, j, h1, h2 => by
    obtain ⟨n, hn⟩ := get_lt h1
    simp only [routeL]
    rw [if_pos (by omega), show (j : Int).toNat = j by simp, hn]
    dsimp only
    split
    · exact ⟨_, rfl⟩
    · rename_i hf
      have hk := shape_kids h hn hf
      rw [if_pos (by omega)]
      obtain ⟨c, hc⟩ : ∃ c : Nat, (if goL row n = true then n.l else n.r) = c := ⟨(if goL row n = true then n.l else n.r).toNat, by split <;> omega⟩
      have hc2 : j < c ∧ c < t.length := by split at hc <;> omega
      obtain ⟨l, hl⟩ := route_total h hr m c (by omega) (by omega)
      rw [hc, hl]
      exact ⟨_, rfl⟩
theorem eval_ends {t : List Nd} {ft : Int} (h : shapeOk t ft = true) {row : List Int} (hr : ft ≤ row.length) (h0 : 0 < t.length) : ∃ k, Ends t (goL row) 0 k ∧ evalL t row = vAt t k := by
  obtain ⟨l, hl⟩ := route_total h hr (t.length + 1) 0 h0 (by omega)
  obtain ⟨k, n, h1, h2, h3, h4, h5, h6⟩ := routeL_ends hl
  refine ⟨k, h4, ?_⟩
  have he : endL t row = (k : Int) := by
    have : ((0 : Nat) : Int) = 0 := rfl
    rw [this] at hl
    rw [endL, hl]; simp [h1]
  rw [evalL, he, if_neg (by omega), show (k : Int).toNat = k by simp, h2]
  simp [vAt, h2]
end Go.H.S
namespace Go.H.S
open Go Go.Proofs Go.H
set_option maxRecDepth 100000
set_option linter.unusedSimpArgs false
set_option linter.unusedVariables false


theorem valsL_mem {n : Nd} (hf : n.f = -1) : ∀ {l : List Nd}, n ∈ l → n.v ∈ valsL l
  | [], h => by cases h
  | x :: r, h => by
    simp only [valsL]
    rcases List.mem_cons.1 h with rfl | h
    · rw [if_pos hf]; simp
    · have := valsL_mem hf h
      split
      · exact List.mem_cons_of_mem _ this
      · exact this
theorem valsL_of {x : Int} : ∀ {l : List Nd}, x ∈ valsL l → ∃ n ∈ l, n.f = -1 ∧ n.v = x
  | [], h => by simp [valsL] at h
  | y :: r, h => by
    simp only [valsL] at h
    split at h
    · rename_i hf
      rcases List.mem_cons.1 h with rfl | h
      · exact ⟨y, by simp, hf, rfl⟩
      · obtain ⟨n, h1, h2⟩ := valsL_of h; exact ⟨n, List.mem_cons_of_mem _ h1, h2⟩
    · obtain ⟨n, h1, h2⟩ := valsL_of h; exact ⟨n, List.mem_cons_of_mem _ h1, h2⟩
theorem sorted_ends {l : List Int} (hs : l.Pairwise (· ≤ ·)) {x : Int} (hx : x ∈ l) : (l[0]?).getD 0 ≤ x ∧ x ≤ (l[l.length - 1]?).getD 0 := by
  obtain ⟨j, hj, rfl⟩ := List.getElem_of_mem hx
  rw [List.pairwise_iff_getElem] at hs
  have e0 : l[0]? = some (l[0]'(by omega)) := List.getElem?_eq_getElem (by omega)
  have e1 : l[l.length - 1]? = some (l[l.length - 1]'(by omega)) := List.getElem?_eq_getElem (by omega)
  rw [e0, e1, Option.getD_some, Option.getD_some]
  constructor
  · rcases Nat.eq_zero_or_pos j with rfl | q
    · exact Int.le_refl _
    · exact hs 0 j (by omega) hj q
  · rcases Nat.lt_or_ge j (l.length - 1) with q | q
    · exact hs j (l.length - 1) hj (by omega) q
    · have : j = l.length - 1 := by omega
      subst this
      exact Int.le_refl _
theorem leaf_in {t : List Nd} {ft : Int} (h : shapeOk t ft = true) {x : Int} (hx : x ∈ valsL t) : -1099511627776 ≤ x ∧ x ≤ 1099511627776 := by
  obtain ⟨n, h1, h2, rfl⟩ := valsL_of hx
  obtain ⟨j, hj⟩ := List.mem_iff_getElem?.1 h1
  exact shape_value h hj h2
theorem evalL_mem {t : List Nd} {ft : Int} (h : treeOk t ft = true) {row : List Int} (hr : ft ≤ row.length) : evalL t row ∈ valsL t := by
  have hs : shapeOk t ft = true ∧ 1 ≤ t.length := by
    simp only [treeOk, Bool.and_eq_true, decide_eq_true_eq] at h
    exact ⟨h.2.2.1, by omega⟩
  obtain ⟨l, hl⟩ := route_total hs.1 hr (t.length + 1) 0 (by omega) (by omega)
  obtain ⟨k, n, h1, h2, h3, _⟩ := routeL_ends hl
  have he : endL t row = k := by
    unfold endL
    rw [show routeL t row (t.length + 1) 0 = some l from hl]
    simp [h1]
  unfold evalL
  rw [he, if_neg (by omega), Int.toNat_natCast, h2]
  exact valsL_mem h3 (List.mem_of_getElem? h2)
theorem ends_in {t : List Nd} {ft : Int} (h : treeOk t ft = true) : (-1099511627776 ≤ lowV t ∧ lowV t ≤ 1099511627776) ∧ (-1099511627776 ≤ highV t ∧ highV t ≤ 1099511627776) := by
  have hs : shapeOk t ft = true := by
    simp only [treeOk, Bool.and_eq_true, decide_eq_true_eq] at h
    exact h.2.2.1
  have hp := valuesL_pos h
  have key : ∀ y ∈ valuesL t, -1099511627776 ≤ y ∧ y ≤ 1099511627776 := fun y hy => by
    refine leaf_in hs (x := y) ?_
    have h1 : y ∈ sortL (valsL t) := (compact_sub _).subset hy
    unfold sortL at h1
    exact (List.mem_mergeSort.1 h1)
  obtain ⟨a, ha⟩ := get_lt hp
  obtain ⟨b, hb⟩ := get_lt (show (valuesL t).length - 1 < (valuesL t).length by omega)
  unfold lowV highV
  rw [ha, hb]
  exact ⟨key a (List.mem_of_getElem? ha), key b (List.mem_of_getElem? hb)⟩
theorem eval_reach {t : List Nd} {ft : Int} (h : treeOk t ft = true) {row : List Int} (hr : ft ≤ row.length) : lowV t ≤ evalL t row ∧ evalL t row ≤ highV t := by
  have h1 := evalL_mem h hr
  have h2 : evalL t row ∈ sortL (valsL t) := by unfold sortL; exact List.mem_mergeSort.2 h1
  have h3 : evalL t row ∈ valuesL t := by
    unfold valuesL distinctL
    have := compactUpTo_mem (sortL (valsL t)) (sortL (valsL t)).length (Nat.le_refl _) _ (by rw [List.take_length]; exact h2)
    exact this
  exact sorted_ends (distinctL_sorted (valsL t)) h3
theorem pred_reach {row : List Int} {ft : Int} (hr : ft ≤ row.length) : ∀ (l : List (List Nd)) (lo a hi : Int) (k : Nat), (∀ t ∈ l, treeOk t ft = true) → l.length + k ≤ 1000 → lo ≤ a → a ≤ hi →
    -2147483648 - 1099511627776 * (k : Int) ≤ lo → hi ≤ 2147483648 + 1099511627776 * (k : Int) → (reachL l lo hi).1 ≤ predL row l a ∧ predL row l a ≤ (reachL l lo hi).2
  | [], lo, a, hi, k, _, _, h1, h2, _, _ => by simp only [reachL, predL]; exact ⟨h1, h2⟩
  | t :: r, lo, a, hi, k, ht, hk, h1, h2, h3, h4 => by
    have he := eval_reach (ht t (by simp)) hr
    have hb := ends_in (ht t (by simp))
    simp only [List.length_cons] at hk
    simp only [reachL, predL]
    rw [wAdd64 (x := lo) (y := lowV t) (by omega) (by omega), wAdd64 (x := a) (y := evalL t row) (by omega) (by omega), wAdd64 (x := hi) (y := highV t) (by omega) (by omega)]
    exact pred_reach hr r _ _ _ (k + 1) (fun t' h' => ht t' (List.mem_cons_of_mem _ h')) (by omega) (by omega) (by omega) (by omega) (by omega)
theorem predict_reach (m : Mdl) (row : List Int) (h : (predictM m row).2 = true) : (reachM m).1 ≤ (predictM m row).1 ∧ (predictM m row).1 ≤ (reachM m).2 := by
  unfold predictM at h ⊢
  split at h
  · rename_i hq
    rw [if_pos hq]
    have hre : reachM m = reachL m.trees m.base m.base := by simp [reachM, hq.1]
    rw [hre]
    have hm := hq.1
    simp only [modelOk, Bool.and_eq_true, decide_eq_true_eq] at hm
    refine pred_reach (ft := m.names.length) (by omega) m.trees m.base m.base m.base 0 (modelOk_trees hq.1) (by omega) (Int.le_refl _) (Int.le_refl _) (by omega) (by omega)
  · cases h
end Go.H.S
namespace Go.H.S
open Go Go.Proofs Go.H
attribute [local irreducible] Tri FnSpec FnSpecM FnSpecX FnSpecJ FnSpecB
set_option maxRecDepth 100000
set_option linter.unusedSimpArgs false
set_option linter.unusedVariables false


theorem law_FnReach (code : List Int) (hm : code.length ≤ 9223372036854775807 ∧ ∀ y ∈ code, 0 ≤ y ∧ y ≤ 255) : FnSpec PR f_laws_FnReach [.c (.d (.sl 1 (eL cU code)))] (ab true) [] 0 := by
  refine FnSpec.intro hT p_laws_FnReach rfl (by kernel_rfl) n_laws_FnReach rfl ?_
  conv => whnf
  refine .inl ⟨_, _, _, laws_big_spec code, rfl, ?_⟩
  (conv => whnf)
  refine ifB_i (fun h => ?_) (fun h => ?_) <;> (conv => whnf) <;> simp only [nInt_eq, Int.natCast_zero, dLen_eL, sLen_eq, nOf_eq, Int.toNat_natCast, nAdd_eq, nSub_eq, dLen_nil, dLen_cons, iLt_t, iLt_f, iLe_t, iLe_f, iEq_t, iEq_f, sEq_t, sEq_f, bNot_t, bNot_f, bAnd_t, bEq_t, bEq_f, Bool.not_eq_true, Bool.not_eq_false, Bool.true_eq_false, Bool.false_eq_true] at h
  have hl : code.length ≤ 1048576 := by omega
  refine .inr ⟨_, _, _, _, _, spec_DrawPredict_spec code hl, fun ⟨m, row⟩ ⟨hd, hr⟩ => ⟨rfl, ?_⟩⟩
  dsimp only at hd hr
  have hz : szM m := ⟨by have := hd.names; omega, fun s hs => by have := hd.texts s hs; omega, by have := hd.signs; omega, by have := hd.trees; omega, fun t ht => by have := hd.nodes t ht; omega⟩
  have hpr := predict_reach m row
  have hpi := impl_Predict_spec m row hz (by omega)
  have hps := spec_Predict_spec m row hz (by omega)
  have hri := impl_Reach_spec m hz.names hz.texts hz.signs hz.trees hz.nodes
  have hrs := spec_Reach_spec m hz.names hz.texts hz.signs hz.trees hz.nodes
  generalize predictM m row = p at *
  obtain ⟨p, ok⟩ := p
  generalize reachM m = r at *
  obtain ⟨lo, hi⟩ := r
  dsimp only at hpr
  (conv => whnf)
  refine .inl ⟨_, _, _, hpi, rfl, ?_⟩
  (conv => whnf)
  refine .inl ⟨_, _, _, hps, rfl, ?_⟩
  (conv => whnf)
  rw [show bEq ok ok = true from by cases ok <;> rfl]
  (conv => whnf)
  refine .inl ⟨_, _, _, hri, rfl, ?_⟩
  (conv => whnf)
  refine .inl ⟨_, _, _, hrs, rfl, ?_⟩
  (conv => whnf)
  rw [show iEq lo lo = true from decide_eq_true rfl]
  (conv => whnf)
  rw [show iEq hi hi = true from decide_eq_true rfl]
  (conv => whnf)
  cases ok with
  | false => (conv => whnf)
  | true =>
    have h2 := hpr rfl
    (conv => whnf)
    rw [show iLe lo p = true from decide_eq_true h2.1]
    (conv => whnf)
    rw [show iLe p hi = true from decide_eq_true h2.2]
end Go.H.S
