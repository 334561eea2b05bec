/- Library, part I: searches of the package slices (printed by gen/idx.py). -/
import Derived.Test.YtdolkacinfjhcaaGreatLV
import Derived.Test.YtdolkacinfjhcaaGreatLNC
set_option maxRecDepth 100000
set_option linter.unusedSimpArgs false
set_option linter.unusedVariables false
namespace Go.H.S
open Go Go.Proofs Go.H
attribute [local irreducible] Tri z6 zR
theorem z6Q {α : Type} (p : α → Bool) : ∀ (l : List α) (k : Nat), (0 ≤ idxL p l k) ↔ l.any p = true
 | [], k => by simp [idxL]
 | y :: r, k => by
  simp only [idxL, List.any_cons]
  have ih := z6Q p r (k + 1)
  cases h : p y
  ·simpa using ih
  ·simp
theorem z1W (xs : List (Int)) (g : FuncId) (p : Int → Bool) (hp : ∀ x ∈ xs, z6 PR g [ai x] (ab (p x)) [] 0) (hl : xs.length ≤ 9223372036854775807) :
  z6 PR wQ [aIs xs, .c (.d (.fn g []))] (ai (idxL p xs 0)) [] 0 := by
 refine z6.intro hT (pf Tryz.func233) rfl (by kernel_rfl) Tryz.ntmps233 rfl ?_
 conv => whnf
 refine zB hT [0, 1, 7, 8] (α := Nat) (fun k => { t := [(0, aIs xs), (1, .c (.d (.fn g []))), (7, ai xs.length), (8, ai k)], h := [], n := 0, N := 19 })
  (fun k => k ≤ xs.length ∧ idxL p (xs.drop k) k = idxL p xs 0) (fun k => xs.length - k) 0 (by ((conv => whnf); simp only [eS])) ⟨Nat.zero_le _, rfl⟩ ?_
 intro k ⟨hk, hi⟩
 conv => whnf
 refine zK (fun h1 => ?_) (fun h1 => ?_) <;> (conv => whnf) <;> simp at h1
 ·obtain ⟨s, hs⟩ := zI h1
  rw [yj hs, idxL] at hi
  refine zG (by simp) hs ?_
  conv => whnf
  refine .inl ⟨_, _, _, hp s (List.mem_of_getElem? hs), rfl, ?_⟩
  conv => whnf
  refine zK (fun h2 => ?_) (fun h2 => ?_) <;> (conv => whnf)
  ·rw [if_pos h2] at hi
   ((conv => whnf); simp only [eS, hi])
  ·rw [if_neg (by simp [h2])] at hi
   refine ⟨k + 1, by omega, ⟨h1, hi⟩, ?_⟩
   ((conv => whnf); simp only [eS, wI h1 hl])
 ·obtain rfl : k = xs.length := by omega
  simp only [List.drop_length, idxL] at hi
  ((conv => whnf); simp only [eS, ← hi])
theorem yM (xs : List (Int)) (g : FuncId) (p : Int → Bool) (hp : ∀ x ∈ xs, z6 PR g [ai x] (ab (p x)) [] 0) (hl : xs.length ≤ 9223372036854775807) :
  z6 PR yu [aIs xs, .c (.d (.fn g []))] (ab (xs.any p)) [] 0 := by
 refine z6.intro hT (pf Tryz.func120) rfl (by kernel_rfl) Tryz.ntmps120 rfl ?_
 conv => whnf
 refine .inl ⟨_, _, _, z1W xs g  p hp hl, rfl, ?_⟩
 conv => whnf
 have h := z6Q p xs 0
 cases hb : xs.any p
 ·rw [hb] at h
  ((conv => whnf); simp only [eS, iLe])
  simpa using h
 ·rw [hb] at h
  ((conv => whnf); simp only [eS, iLe])
  simpa using h
theorem z1V (xs : List (Int)) (g : FuncId) (d0 : D) (p : Int → Bool) (hp : ∀ x ∈ xs, z6 PR g [ai x, .c (.d d0)] (ab (p x)) [] 0) (hl : xs.length ≤ 9223372036854775807) :
  z6 PR wQ [aIs xs, .c (.d (.fn g [d0]))] (ai (idxL p xs 0)) [] 0 := by
 refine z6.intro hT (pf Tryz.func233) rfl (by kernel_rfl) Tryz.ntmps233 rfl ?_
 conv => whnf
 refine zB hT [0, 1, 7, 8] (α := Nat) (fun k => { t := [(0, aIs xs), (1, .c (.d (.fn g [d0]))), (7, ai xs.length), (8, ai k)], h := [], n := 0, N := 19 })
  (fun k => k ≤ xs.length ∧ idxL p (xs.drop k) k = idxL p xs 0) (fun k => xs.length - k) 0 (by ((conv => whnf); simp only [eS])) ⟨Nat.zero_le _, rfl⟩ ?_
 intro k ⟨hk, hi⟩
 conv => whnf
 refine zK (fun h1 => ?_) (fun h1 => ?_) <;> (conv => whnf) <;> simp at h1
 ·obtain ⟨s, hs⟩ := zI h1
  rw [yj hs, idxL] at hi
  refine zG (by simp) hs ?_
  conv => whnf
  refine .inl ⟨_, _, _, hp s (List.mem_of_getElem? hs), rfl, ?_⟩
  conv => whnf
  refine zK (fun h2 => ?_) (fun h2 => ?_) <;> (conv => whnf)
  ·rw [if_pos h2] at hi
   ((conv => whnf); simp only [eS, hi])
  ·rw [if_neg (by simp [h2])] at hi
   refine ⟨k + 1, by omega, ⟨h1, hi⟩, ?_⟩
   ((conv => whnf); simp only [eS, wI h1 hl])
 ·obtain rfl : k = xs.length := by omega
  simp only [List.drop_length, idxL] at hi
  ((conv => whnf); simp only [eS, ← hi])
theorem z0k (xs : List (Int)) (g : FuncId) (d0 : D) (p : Int → Bool) (hp : ∀ x ∈ xs, z6 PR g [ai x, .c (.d d0)] (ab (p x)) [] 0) (hl : xs.length ≤ 9223372036854775807) :
  z6 PR yu [aIs xs, .c (.d (.fn g [d0]))] (ab (xs.any p)) [] 0 := by
 refine z6.intro hT (pf Tryz.func120) rfl (by kernel_rfl) Tryz.ntmps120 rfl ?_
 conv => whnf
 refine .inl ⟨_, _, _, z1V xs g d0 p hp hl, rfl, ?_⟩
 conv => whnf
 have h := z6Q p xs 0
 cases hb : xs.any p
 ·rw [hb] at h
  ((conv => whnf); simp only [eS, iLe])
  simpa using h
 ·rw [hb] at h
  ((conv => whnf); simp only [eS, iLe])
  simpa using h
theorem z0x (xs : List (List Int)) (g : FuncId) (d0 : D) (p : List Int → Bool) (hp : ∀ x ∈ xs, z6 PR g [aIs x, .c (.d d0)] (ab (p x)) [] 0) (hl : xs.length ≤ 9223372036854775807) :
  z6 PR z14 [aIss xs, .c (.d (.fn g [d0]))] (ai (idxL p xs 0)) [] 0 := by
 refine z6.intro hT (pf Tryz.func304) rfl (by kernel_rfl) Tryz.ntmps304 rfl ?_
 conv => whnf
 refine zB hT [0, 1, 7, 8] (α := Nat) (fun k => { t := [(0, aIss xs), (1, .c (.d (.fn g [d0]))), (7, ai xs.length), (8, ai k)], h := [], n := 0, N := 19 })
  (fun k => k ≤ xs.length ∧ idxL p (xs.drop k) k = idxL p xs 0) (fun k => xs.length - k) 0 (by ((conv => whnf); simp only [eS])) ⟨Nat.zero_le _, rfl⟩ ?_
 intro k ⟨hk, hi⟩
 conv => whnf
 refine zK (fun h1 => ?_) (fun h1 => ?_) <;> (conv => whnf) <;> simp at h1
 ·obtain ⟨s, hs⟩ := zI h1
  rw [yj hs, idxL] at hi
  refine zG (by simp) hs ?_
  conv => whnf
  refine .inl ⟨_, _, _, hp s (List.mem_of_getElem? hs), rfl, ?_⟩
  conv => whnf
  refine zK (fun h2 => ?_) (fun h2 => ?_) <;> (conv => whnf)
  ·rw [if_pos h2] at hi
   ((conv => whnf); simp only [eS, hi])
  ·rw [if_neg (by simp [h2])] at hi
   refine ⟨k + 1, by omega, ⟨h1, hi⟩, ?_⟩
   ((conv => whnf); simp only [eS, wI h1 hl])
 ·obtain rfl : k = xs.length := by omega
  simp only [List.drop_length, idxL] at hi
  ((conv => whnf); simp only [eS, ← hi])
theorem z0P (xs : List (List Int)) (g : FuncId) (d0 : D) (p : List Int → Bool) (hp : ∀ x ∈ xs, z6 PR g [aIs x, .c (.d d0)] (ab (p x)) [] 0) (hl : xs.length ≤ 9223372036854775807) :
  z6 PR z0S [aIss xs, .c (.d (.fn g [d0]))] (ab (xs.any p)) [] 0 := by
 refine z6.intro hT (pf Tryz.func253) rfl (by kernel_rfl) Tryz.ntmps253 rfl ?_
 conv => whnf
 refine .inl ⟨_, _, _, z0x xs g d0 p hp hl, rfl, ?_⟩
 conv => whnf
 have h := z6Q p xs 0
 cases hb : xs.any p
 ·rw [hb] at h
  ((conv => whnf); simp only [eS, iLe])
  simpa using h
 ·rw [hb] at h
  ((conv => whnf); simp only [eS, iLe])
  simpa using h
end Go.H.S
namespace Go.H.S
open Go Go.Proofs Go.H
attribute [local irreducible] Tri z6 zR zV zY
def yG : List Int → Int → Nat
 | [], _ => 0
 | c :: r, v => (if c < v then 1 else 0) + yG r v
theorem z6q : ∀ (l : List Int) (v : Int), yG l v ≤ l.length
 | [], v => by simp [yG]
 | c :: r, v => by
  have := z6q r v
  simp only [yG, List.length_cons]
  split <;> omega
theorem zA9 (cuts : List Int) (v : Int) (hl : cuts.length ≤ 1048576) : z6 PR zFY [aIs cuts, ai v] (ai (yG cuts v)) [] 0 := by
 have hle := z6q cuts v
 refine z6.intro hT (pf Tryz.func210) rfl (by kernel_rfl) Tryz.ntmps210 rfl ?_
 conv => whnf
 refine zB hT [1, 5, 8, 9, 10] (α := Nat × Nat) (fun x => { t := [(1, ai v), (5, ai x.2), (8, aIs cuts), (9, ai cuts.length), (10, ai x.1)], h := [], n := 0, N := 21 })
  (fun x => x.1 ≤ cuts.length ∧ x.2 + yG (cuts.drop x.1) v = yG cuts v) (fun x => cuts.length - x.1) (0, 0) (by ((conv => whnf); simp only [eS])) ⟨Nat.zero_le _, by simp⟩ ?_
 intro ⟨k, c⟩ ⟨hk, hc⟩
 dsimp only at hk hc
 conv => whnf
 refine zK (fun h1 => ?_) (fun h1 => ?_) <;> (conv => whnf) <;> simp at h1
 ·obtain ⟨x, hx⟩ := zI h1
  rw [yj hx, yG] at hc
  refine zG (by simp) hx ?_
  conv => whnf
  refine zK (fun h2 => ?_) (fun h2 => ?_) <;> (conv => whnf) <;> simp only [eH] at h2
  ·rw [if_pos h2] at hc
   refine ⟨(k + 1, c + 1), by dsimp only; omega, ⟨h1, by dsimp only; omega⟩, ?_⟩
   ((conv => whnf); simp only [eS, wI h1 (by omega), wI (show c < 1048577 by omega) (by omega)])
  ·rw [if_neg (by omega)] at hc
   refine ⟨(k + 1, c), by dsimp only; omega, ⟨h1, by dsimp only; omega⟩, ?_⟩
   ((conv => whnf); simp only [eS, wI h1 (by omega)])
 ·obtain rfl : k = cuts.length := by omega
  simp [yG] at hc
  rw [hc]
theorem z9e (cuts : List Int) (v : Int) (hl : cuts.length ≤ 1048576) : z6 PR zFW [aIs cuts, ai v] (ai (yG cuts v)) [] 0 := by
 have hle := z6q cuts v
 refine z6.intro hT (pf Tryz.func168) rfl (by kernel_rfl) Tryz.ntmps168 rfl ?_
 conv => whnf
 refine zB hT [0, 1, 5, 6] (α := Nat × Nat) (fun x => { t := [(0, aIs cuts), (1, ai v), (5, ai x.2), (6, ai x.1)], h := [], n := 0, N := 22 })
  (fun x => x.1 ≤ cuts.length ∧ x.2 + yG (cuts.drop x.1) v = yG cuts v) (fun x => cuts.length - x.1) (0, 0) (by ((conv => whnf); simp only [eS])) ⟨Nat.zero_le _, by simp⟩ ?_
 intro ⟨k, c⟩ ⟨hk, hc⟩
 dsimp only at hk hc
 conv => whnf
 refine zK (fun h1 => ?_) (fun h1 => ?_) <;> (conv => whnf) <;> simp at h1
 ·obtain ⟨x, hx⟩ := zI h1
  rw [yj hx, yG] at hc
  refine zG (by simp) hx ?_
  conv => whnf
  refine zK (fun h2 => ?_) (fun h2 => ?_) <;> (conv => whnf) <;> simp only [eH] at h2
  ·rw [if_pos h2] at hc
   refine ⟨(k + 1, c + 1), by dsimp only; omega, ⟨h1, by dsimp only; omega⟩, ?_⟩
   ((conv => whnf); simp only [eS, wI h1 (by omega), wI (show c < 1048577 by omega) (by omega)])
  ·rw [if_neg (by omega)] at hc
   refine ⟨(k + 1, c), by dsimp only; omega, ⟨h1, by dsimp only; omega⟩, ?_⟩
   ((conv => whnf); simp only [eS, wI h1 (by omega)])
 ·obtain rfl : k = cuts.length := by omega
  simp [yG] at hc
  rw [hc]
def upTo (n : Nat) : List Int := (List.range n).map fun (i : Nat) => (i : Int)
theorem z9H (n : Nat) : (upTo n).length = n := by simp [upTo]
theorem z9W (n : Nat) : upTo (n + 1) = upTo n ++ [(n : Int)] := by simp [upTo, List.range_succ]
def y9 (n : Int) : List Int := if 1 ≤ n ∧ n ≤ 40 then upTo n.toNat else []
def z1w (bins : List Int) (b : Int) (r : Int) : Option Bool := if 0 ≤ r ∧ r ≤ (bins.length : Int) - 1 then (bins[r.toNat]?).map fun x => decide (x ≤ b) else none
def yJ (bins rows : List Int) (b : Int) : List Int × List Int := (rows.filter fun r => decide (z1w bins b r = some true), rows.filter fun r => decide (z1w bins b r = some false))
theorem z6w (bins rows : List Int) (b : Int) : (yJ bins rows b).1.length ≤ rows.length ∧ (yJ bins rows b).2.length ≤ rows.length := ⟨List.length_filter_le _ _, List.length_filter_le _ _⟩
theorem wn {p : Int → Bool} {xs : List Int} {k : Nat} {x : Int} (h : xs[k]? = some x) : (xs.take (k + 1)).filter p = (xs.take k).filter p ++ (if p x then [x] else []) := by
 rw [List.take_add_one, h, List.filter_append]
 simp only [Option.toList_some, List.filter_cons, List.filter_nil]
def yR (g : Grd) : Nat := match g.bins with | [] => 0 | x :: _ => x.length
theorem wk (g : Grd) : z6 PR zE9 [aG g] (ai (yR g)) [] 0 := by
 refine z6.intro hT (pf Tryz.func105) rfl (by kernel_rfl) Tryz.ntmps105 rfl ?_
 conv => whnf
 cases hb : g.bins with
 | nil =>
  refine zK (fun h1 => ?_) (fun h1 => ?_) <;> (conv => whnf) <;> simp only [eH, zp] at h1
  ·simp [yR, hb]
  ·simp [zp] at h1
 | cons x r =>
  refine zK (fun h1 => ?_) (fun h1 => ?_) <;> (conv => whnf) <;> simp only [eH, z7l] at h1
  ·omega
  ·refine zG (by simp) (show (x :: r)[0]? = some x from rfl) ?_
   conv => whnf
   simp [yR, hb]
theorem z0u (g : Grd) : z6 PR zDe [aG g] (ai (yR g)) [] 0 := by
 refine z6.intro hT (pf Tryz.func194) rfl (by kernel_rfl) Tryz.ntmps194 rfl ?_
 conv => whnf
 cases hb : g.bins with
 | nil =>
  refine zK (fun h1 => ?_) (fun h1 => ?_) <;> (conv => whnf) <;> simp only [eH, zp] at h1
  ·simp [yR, hb]
  ·simp [zp] at h1
 | cons x r =>
  refine zK (fun h1 => ?_) (fun h1 => ?_) <;> (conv => whnf) <;> simp only [eH, z7l] at h1
  ·omega
  ·refine zG (by simp) (show (x :: r)[0]? = some x from rfl) ?_
   conv => whnf
   simp [yR, hb]
end Go.H.S
namespace Go.H.S
open Go Go.Proofs Go.H
attribute [local irreducible] Tri z6 zR zV zY
def decP (x : Int) : Prop := -2147483647 ≤ x ∧ x ≤ 2147483647
def zFg (cuts : List Int) : Prop := (∀ (j : Nat) (a b : Int), cuts[j]? = some a → cuts[j + 1]? = some b → a < b) ∧ cuts.length ≤ 7 ∧ ∀ c ∈ cuts, decP c
noncomputable def z4z (cuts : List Int) : Bool := @decide (zFg cuts) (Classical.propDecidable _)
theorem z6m {cuts : List Int} (h : zFg cuts) : z4z cuts = true := by unfold z4z; exact @decide_eq_true _ (Classical.propDecidable _) h
theorem z3E {cuts : List Int} (h : ¬ zFg cuts) : z4z cuts = false := by unfold z4z; exact @decide_eq_false _ (Classical.propDecidable _) h
theorem zCe {cuts : List Int} : z4z cuts = true ↔ zFg cuts := by
 constructor
 ·intro h
  rcases Classical.em (zFg cuts) with q | q
  ·exact q
  ·rw [z3E q] at h; cases h
 ·exact z6m
theorem z34 (x : Int) : z6 PR z1D [ai x] (ab (bNot (decide (-2147483647 ≤ x ∧ x ≤ 2147483647)))) [] 0 := by
 refine z6.intro hT (pf Tryz.func303) rfl (by kernel_rfl) Tryz.ntmps303 rfl ?_
 conv => whnf
 refine .inl ⟨_, _, _, z5P x, rfl, ?_⟩
 conv => whnf
theorem wO (xs : List Int) (hl : xs.length ≤ 1048576) : z6 PR z6h [aIs xs] (ab (bNot (xs.any fun x => bNot (decide (-2147483647 ≤ x ∧ x ≤ 2147483647))))) [] 0 := by
 refine z6.intro hT (pf Tryz.func252) rfl (by kernel_rfl) Tryz.ntmps252 rfl ?_
 conv => whnf
 refine .inl ⟨_, _, _, yM xs z1D (fun x => bNot (decide (-2147483647 ≤ x ∧ x ≤ 2147483647))) (fun x _ => z34 x) (by omega), rfl, ?_⟩
 conv => whnf
theorem z8l (cuts : List Int) (hl : cuts.length ≤ 1048576) : z6 PR zEJ [aIs cuts] (ab (z4z cuts)) [] 0 := by
 refine z6.intro hT (pf Tryz.func229) rfl (by kernel_rfl) Tryz.ntmps229 rfl ?_
 conv => whnf
 refine zB hT [0, 3] (α := Nat) (fun x => { t := [(0, aIs cuts), (3, ai (x + 1 : Nat))], h := [], n := 0, N := 27 })
  (fun x => (x + 1 ≤ cuts.length ∨ x = 0) ∧ ∀ (j : Nat) (a b : Int), j < x → cuts[j]? = some a → cuts[j + 1]? = some b → a < b) (fun x => cuts.length - x) 0 (by first | ((conv => whnf); done) | ((conv => whnf); rfl)) ⟨.inr rfl, fun j a b h => by omega⟩ ?_
 intro k ⟨hk, hr⟩
 conv => whnf
 refine zK (fun h1 => ?_) (fun h1 => ?_) <;> (conv => whnf) <;> simp only [eH] at h1
 ·obtain ⟨x, hx⟩ := zI (show k < cuts.length by omega)
  obtain ⟨y, hy⟩ := zI (show k + 1 < cuts.length by omega)
  have e1 : wSub .i64 ((k + 1 : Nat) : Int) 1 = (k : Int) := by rw [yB] <;> omega
  refine zJ hT hmix [0, 3, 19] { t := [(0, aIs cuts), (3, ai (k + 1 : Nat)), (19, ab (iLe y x))], h := [], n := 0, N := 27 } rfl ?_ ?_
  ·repeat' first
    | (refine zM rfl ?_; (conv => whnf))
    | (refine zL rfl ?_ ?_ <;> (conv => whnf))
    | (rw [e1]; (conv => whnf))
    | (refine zG (k := k + 1) rfl hy ?_; (conv => whnf))
    | (refine zG (k := k) rfl hx ?_; (conv => whnf))
    | (refine zO rfl ?_; (conv => whnf); done)
  conv => whnf
  refine zK (fun h2 => ?_) (fun h2 => ?_) <;> (conv => whnf) <;> simp only [eH] at h2
  ·rw [z3E (fun hc => by have := hc.1 k x y hx hy; omega)]
  ·refine ⟨k + 1, by omega, ⟨.inl (by omega), fun j a b hj ha hb => ?_⟩, ?_⟩
   ·rcases Nat.lt_or_ge j k with q | q
    ·exact hr j a b q ha hb
    ·obtain rfl : j = k := by omega
     rw [hx] at ha; rw [hy] at hb
     cases ha; cases hb
     omega
   ((conv => whnf); simp only [eS, wI (show k + 1 < cuts.length by omega) (by omega)])
 ·have hr2 : ∀ (j : Nat) (a b : Int), cuts[j]? = some a → cuts[j + 1]? = some b → a < b := fun j a b ha hb => hr j a b (by have := (List.getElem?_eq_some_iff.1 hb).1; omega) ha hb
  rw [show nInt (dLen (eL cI cuts)) = (cuts.length : Int) by simp]
  cases h7 : iLe (cuts.length : Int) 7
  ·conv => whnf
   simp at h7
   rw [z3E (fun hc => by have := hc.2.1; omega)]
  ·conv => whnf
   simp at h7
   refine .inl ⟨_, _, _, wO cuts hl, rfl, ?_⟩
   conv => whnf
   rw [show z4z cuts = bNot (cuts.any fun x => bNot (decide (-2147483647 ≤ x ∧ x ≤ 2147483647))) from ?_]
   cases ha : cuts.any fun x => bNot (decide (-2147483647 ≤ x ∧ x ≤ 2147483647))
   ·refine z6m ⟨hr2, by omega, fun c hc => ?_⟩
    rw [List.any_eq_false] at ha
    have := ha c hc
    simp [bNot] at this
    exact ⟨by omega, by omega⟩
   ·refine z3E fun hc => ?_
    rw [List.any_eq_true] at ha
    obtain ⟨c, hc1, hc2⟩ := ha
    have := hc.2.2 c hc1
    simp [bNot] at hc2
    unfold decP at this
    omega
theorem z8O (cuts : List Int) (hl : cuts.length ≤ 1048576) : z6 PR zDn [aIs cuts] (ab (z4z cuts)) [] 0 := by
 refine z6.intro hT (pf Tryz.func278) rfl (by kernel_rfl) Tryz.ntmps278 rfl ?_
 conv => whnf
 refine zB hT [0, 3] (α := Nat) (fun x => { t := [(0, aIs cuts), (3, ai x)], h := [], n := 0, N := 35 })
  (fun x => x ≤ cuts.length ∧ (∀ (j : Nat) (a b : Int), j + 1 < x → cuts[j]? = some a → cuts[j + 1]? = some b → a < b) ∧ ∀ (j : Nat) (a : Int), j < x → cuts[j]? = some a → decP a) (fun x => cuts.length - x) 0 (by first | ((conv => whnf); done) | ((conv => whnf); rfl)) ⟨Nat.zero_le _, fun j a b h => by omega, fun j a h => by omega⟩ ?_
 intro k ⟨hk, hr, hd⟩
 conv => whnf
 refine zK (fun h1 => ?_) (fun h1 => ?_) <;> (conv => whnf) <;> simp only [eH] at h1
 ·obtain ⟨x, hx⟩ := zI (show k < cuts.length by omega)
  refine yN hT hmix (by kernel_rfl) ?_
  conv => whnf
  refine zG rfl hx ?_
  conv => whnf
  refine ⟨_, _, z0W x, rfl, ?_⟩
  cases hd1 : decide (-2147483647 ≤ x ∧ x ≤ 2147483647)
  ·have hdx : ¬ decP x := by unfold decP; simpa using hd1
   conv => whnf
   repeat' (first | (refine And.intro (fun q => ?_) (fun q => ?_) <;> cases q <;> (conv => whnf)) | fail)
   rw [z3E (fun hc => hdx (hc.2.2 x (List.mem_of_getElem? hx)))]
  ·have hdx : decP x := by unfold decP; simpa using hd1
   have hd' : ∀ (j : Nat) (a : Int), j < k + 1 → cuts[j]? = some a → decP a := fun j a hj ha => by
    rcases Nat.lt_or_ge j k with q | q
    ·exact hd j a q ha
    ·obtain rfl : j = k := by omega
     rw [hx] at ha; cases ha; exact hdx
   conv => whnf
   cases k with
   | zero =>
    repeat' (first | (refine And.intro (fun q => ?_) (fun q => ?_) <;> cases q <;> (conv => whnf)) | fail)
    rw [show iLt 0 ((0 : Nat) : Int) = false from rfl]
    repeat' (first | (refine And.intro (fun q => ?_) (fun q => ?_) <;> cases q <;> (conv => whnf)) | fail)
    refine ⟨1, by omega, ⟨by omega, fun j a b h => by omega, hd'⟩, ?_⟩
    ((conv => whnf); simp only [eS])
    show wAdd .i64 ((0 : Nat) : Int) 1 = ((1 : Nat) : Int)
    rw [y6] <;> omega
   | succ i =>
    repeat' (first | (refine And.intro (fun q => ?_) (fun q => ?_) <;> cases q <;> (conv => whnf)) | fail)
    rw [show iLt 0 ((i + 1 : Nat) : Int) = true from decide_eq_true (by omega)]
    obtain ⟨y, hy⟩ := zI (show i < cuts.length by omega)
    have e1 : wSub .i64 ((i + 1 : Nat) : Int) 1 = (i : Int) := by rw [yB] <;> omega
    repeat' (first | (refine And.intro (fun q => ?_) (fun q => ?_) <;> cases q <;> (conv => whnf)) | fail)
    refine zG e1 hy ?_
    conv => whnf
    repeat' (first | (refine And.intro (fun q => ?_) (fun q => ?_) <;> cases q <;> (conv => whnf)) | fail)
    refine zG rfl hx ?_
    conv => whnf
    repeat' (first | (refine And.intro (fun q => ?_) (fun q => ?_) <;> cases q <;> (conv => whnf)) | fail)
    cases h3 : iLe x y
    ·simp at h3
     repeat' (first | (refine And.intro (fun q => ?_) (fun q => ?_) <;> cases q <;> (conv => whnf)) | fail)
     refine ⟨i + 1 + 1, by omega, ⟨by omega, fun j a b hj ha hb => ?_, hd'⟩, ?_⟩
     ·rcases Nat.lt_or_ge (j + 1) (i + 1) with q | q
      ·exact hr j a b q ha hb
      ·obtain rfl : j = i := by omega
       rw [hy] at ha; rw [hx] at hb
       cases ha; cases hb
       exact h3
     ((conv => whnf); simp only [eS, wI (show i + 1 < cuts.length by omega) (by omega)])
    ·simp at h3
     repeat' (first | (refine And.intro (fun q => ?_) (fun q => ?_) <;> cases q <;> (conv => whnf)) | fail)
     conv => whnf
     rw [z3E (fun hc => by have := hc.1 i y x hy hx; omega)]
 ·obtain rfl : k = cuts.length := by omega
  rw [show nInt (dLen (eL cI cuts)) = (cuts.length : Int) by simp]
  conv => whnf
  cases h7 : iLe (cuts.length : Int) 7
  ·simp at h7
   rw [z3E (fun hc => by have := hc.2.1; omega)]
  ·simp at h7
   rw [z6m ⟨fun j a b ha hb => hr j a b (by have := (List.getElem?_eq_some_iff.1 hb).1; omega) ha hb, by omega, fun c hc => by
    obtain ⟨j, hj⟩ := List.mem_iff_getElem?.1 hc
    exact hd j c (List.getElem?_eq_some_iff.1 hj).1 hj⟩]
def smG (g : Grd) : Prop := g.cuts.length ≤ 1048576 ∧ g.bins.length ≤ 1048576 ∧ (∀ c ∈ g.cuts, c.length ≤ 1048576) ∧ ∀ b ∈ g.bins, b.length ≤ 1048576
def zJX (g : Grd) (k : Nat) : Prop := ∀ c b, g.cuts[k]? = some c → g.bins[k]? = some b → zFg c ∧ b.length = yR g ∧ ∀ x ∈ b, 0 ≤ x ∧ x ≤ (c.length : Int)
def zBI (g : Grd) : Prop := (1 ≤ g.cuts.length ∧ g.cuts.length ≤ 4) ∧ g.bins.length = g.cuts.length ∧ (1 ≤ yR g ∧ yR g ≤ 40) ∧ ∀ k, zJX g k
noncomputable def z6U (g : Grd) : Bool := @decide (zBI g) (Classical.propDecidable _)
theorem z3A {g : Grd} (h : zBI g) : z6U g = true := by unfold z6U; exact @decide_eq_true _ (Classical.propDecidable _) h
theorem wX {g : Grd} (h : ¬ zBI g) : z6U g = false := by unfold z6U; exact @decide_eq_false _ (Classical.propDecidable _) h
theorem zCV {g : Grd} : z6U g = true ↔ zBI g := by
 constructor
 ·intro h
  rcases Classical.em (zBI g) with q | q
  ·exact q
  ·rw [wX q] at h; cases h
 ·exact z3A
theorem z6M (x : Int) (c : List Int) (hl : c.length ≤ 1048576) : z6 PR z47 [ai x, .c (.d (.rp [.sl 1 (eL cI c)]))] (ab (bNot (decide (0 ≤ x ∧ x ≤ (c.length : Int))))) [] 0 := by
 refine z6.intro hT (pf Tryz.func230) rfl (by kernel_rfl) Tryz.ntmps230 rfl ?_
 conv => whnf
 refine .inl ⟨_, _, _, zP _ _ _, rfl, ?_⟩
 conv => whnf
 rw [show nInt (dLen (eL cI c)) = (c.length : Int) by simp]
theorem z3R (g : Grd) (hg : smG g) : z6 PR zEH [aG g] (ab (z6U g)) [] 0 := by
 obtain ⟨z1, z2, z3, z4⟩ := hg
 refine z6.intro hT (pf Tryz.func118) rfl (by kernel_rfl) Tryz.ntmps118 rfl ?_
 conv => whnf
 refine .inl ⟨_, _, _, zP _ _ _, rfl, ?_⟩
 conv => whnf
 rw [show nInt (dLen (eL cIs g.cuts)) = (g.cuts.length : Int) by simp]
 cases h1 : decide (1 ≤ (g.cuts.length : Int) ∧ (g.cuts.length : Int) ≤ 4)
 ·conv => whnf
  rw [decide_eq_false_iff_not] at h1
  rw [wX (fun hc => h1 ⟨by have := hc.1; omega, by have := hc.1; omega⟩)]
 rw [decide_eq_true_iff] at h1
 conv => whnf
 rw [show nInt (dLen (eL cIs g.bins)) = (g.bins.length : Int) by simp, show nInt (dLen (eL cIs g.cuts)) = (g.cuts.length : Int) by simp]
 cases h2 : iEq (g.bins.length : Int) (g.cuts.length : Int)
 ·conv => whnf
  rw [wX (fun hc => by have := hc.2.1; simp at h2; omega)]
 have h2 : g.bins.length = g.cuts.length := by simp at h2; omega
 conv => whnf
 refine .inl ⟨_, _, _, wk g, rfl, ?_⟩
 conv => whnf
 refine .inl ⟨_, _, _, zP _ _ _, rfl, ?_⟩
 conv => whnf
 cases h3 : decide (1 ≤ (yR g : Int) ∧ (yR g : Int) ≤ 40)
 ·conv => whnf
  rw [decide_eq_false_iff_not] at h3
  rw [wX (fun hc => h3 ⟨by have := hc.2.2.1; omega, by have := hc.2.2.1; omega⟩)]
 rw [decide_eq_true_iff] at h3
 conv => whnf
 refine zj 0 ?_
 conv => whnf
 refine zB hT [1, 26, 27, 28] (α := Nat) (fun x => { t := [(1, .c (.d (.rp [.sl 1 (eL cIs g.cuts), .sl 1 (eL cIs g.bins)]))), (26, aIss g.cuts), (27, ai (nInt (dLen (eL cIs g.cuts)))), (28, ai x)], h := [], n := 0, N := 57 })
  (fun x => x ≤ g.cuts.length ∧ ∀ j, j < x → zJX g j) (fun x => g.cuts.length - x) 0 (by first | ((conv => whnf); done) | ((conv => whnf); rfl)) ⟨Nat.zero_le _, fun j h => by omega⟩ ?_
 intro k ⟨hk, hr⟩
 conv => whnf
 refine zK (fun h4 => ?_) (fun h4 => ?_) <;> (conv => whnf) <;> simp only [eH] at h4
 ·obtain ⟨c, hc⟩ := zI (show k < g.cuts.length by omega)
  obtain ⟨b, hb⟩ := zI (show k < g.bins.length by omega)
  refine zG rfl hc ?_
  conv => whnf
  have hcl := z3 c (List.mem_of_getElem? hc)
  have hbl := z4 b (List.mem_of_getElem? hb)
  refine zj 0 ?_
  conv => whnf
  refine yN hT hmix (by kernel_rfl) ?_
  conv => whnf
  refine ⟨_, _, z8l c hcl, rfl, ?_⟩
  cases h5 : z4z c
  ·conv => whnf
   repeat' (first | (refine And.intro (fun q => ?_) (fun q => ?_) <;> cases q <;> (conv => whnf)) | fail)
   rw [wX (fun hp => by rw [z6m (hp.2.2.2 k c b hc hb).1] at h5; cases h5)]
  have h5' := zCe.1 h5
  conv => whnf
  repeat' (first | (refine And.intro (fun q => ?_) (fun q => ?_) <;> cases q <;> (conv => whnf)) | fail)
  refine zG rfl hb ?_
  conv => whnf
  repeat' (first | (refine And.intro (fun q => ?_) (fun q => ?_) <;> cases q <;> (conv => whnf)) | fail)
  refine ⟨_, _, wk g, rfl, ?_⟩
  conv => whnf
  repeat' (first | (refine And.intro (fun q => ?_) (fun q => ?_) <;> cases q <;> (conv => whnf)) | fail)
  rw [show nInt (dLen (eL cI b)) = (b.length : Int) by simp]
  cases h6 : iEq (b.length : Int) (yR g : Int)
  ·conv => whnf
   repeat' (first | (refine And.intro (fun q => ?_) (fun q => ?_) <;> cases q <;> (conv => whnf)) | fail)
   rw [wX (fun hp => by have := (hp.2.2.2 k c b hc hb).2.1; simp at h6; omega)]
  have h6' : b.length = yR g := by simp at h6; omega
  conv => whnf
  repeat' (first | (refine And.intro (fun q => ?_) (fun q => ?_) <;> cases q <;> (conv => whnf)) | fail)
  refine zG rfl hb ?_
  conv => whnf
  repeat' (first | (refine And.intro (fun q => ?_) (fun q => ?_) <;> cases q <;> (conv => whnf)) | fail)
  refine ⟨_, _, z0k b z47 (.rp [.sl 1 (eL cI c)]) (fun x => bNot (decide (0 ≤ x ∧ x ≤ (c.length : Int)))) (fun x _ => z6M x c hcl) (by omega), rfl, ?_⟩
  conv => whnf
  repeat' (first | (refine And.intro (fun q => ?_) (fun q => ?_) <;> cases q <;> (conv => whnf)) | fail)
  refine zK (fun h7 => ?_) (fun h7 => ?_) <;> (conv => whnf)
  ·rw [wX (fun hp => ?_)]
   rw [List.any_eq_true] at h7
   obtain ⟨x, hx1, hx2⟩ := h7
   have := (hp.2.2.2 k c b hc hb).2.2 x hx1
   simp [bNot] at hx2
   omega
  ·refine ⟨k + 1, by omega, ⟨by omega, fun j hj => ?_⟩, ?_⟩
   ·rcases Nat.lt_or_ge j k with q | q
    ·exact hr j q
    ·obtain rfl : j = k := by omega
     intro c' b' hc' hb'
     rw [hc] at hc'; rw [hb] at hb'
     cases hc'; cases hb'
     refine ⟨h5', h6', fun x hx => ?_⟩
     rw [List.any_eq_false] at h7
     have h7 := h7 x hx
     simp [bNot] at h7
     exact h7
   ((conv => whnf); simp only [eS, wI (show k < g.cuts.length by omega) (by omega)])
 ·obtain rfl : k = g.cuts.length := by omega
  rw [z3A ⟨by omega, h2, by omega, fun j => ?_⟩]
  rcases Nat.lt_or_ge j g.cuts.length with q | q
  ·exact hr j q
  ·intro c b hc
   rw [List.getElem?_eq_none q] at hc
   cases hc
theorem z3L (g : Grd) (hg : smG g) : z6 PR zDl [aG g] (ab (z6U g)) [] 0 := by
 obtain ⟨z1, z2, z3, z4⟩ := hg
 refine z6.intro hT (pf Tryz.func193) rfl (by kernel_rfl) Tryz.ntmps193 rfl ?_
 conv => whnf
 refine .inl ⟨_, _, _, zS _ _ _, rfl, ?_⟩
 conv => whnf
 rw [show nInt (dLen (eL cIs g.cuts)) = (g.cuts.length : Int) by simp]
 cases h1 : decide (1 ≤ (g.cuts.length : Int) ∧ (g.cuts.length : Int) ≤ 4)
 ·conv => whnf
  rw [decide_eq_false_iff_not] at h1
  rw [wX (fun hc => h1 ⟨by have := hc.1; omega, by have := hc.1; omega⟩)]
 rw [decide_eq_true_iff] at h1
 conv => whnf
 rw [show nInt (dLen (eL cIs g.bins)) = (g.bins.length : Int) by simp, show nInt (dLen (eL cIs g.cuts)) = (g.cuts.length : Int) by simp]
 cases h2 : iEq (g.bins.length : Int) (g.cuts.length : Int)
 ·conv => whnf
  rw [wX (fun hc => by have := hc.2.1; simp at h2; omega)]
 have h2 : g.bins.length = g.cuts.length := by simp at h2; omega
 conv => whnf
 refine .inl ⟨_, _, _, z0u g, rfl, ?_⟩
 conv => whnf
 refine .inl ⟨_, _, _, zS _ _ _, rfl, ?_⟩
 conv => whnf
 cases h3 : decide (1 ≤ (yR g : Int) ∧ (yR g : Int) ≤ 40)
 ·conv => whnf
  rw [decide_eq_false_iff_not] at h3
  rw [wX (fun hc => h3 ⟨by have := hc.2.2.1; omega, by have := hc.2.2.1; omega⟩)]
 rw [decide_eq_true_iff] at h3
 conv => whnf
 refine zj 0 ?_
 conv => whnf
 refine zB hT [1, 3] (α := Nat) (fun x => { t := [(1, .c (.d (.rp [.sl 1 (eL cIs g.cuts), .sl 1 (eL cIs g.bins)]))), (3, ai x)], h := [], n := 0, N := 76 })
  (fun x => x ≤ g.cuts.length ∧ ∀ j, j < x → zJX g j) (fun x => g.cuts.length - x) 0 (by first | ((conv => whnf); done) | ((conv => whnf); rfl)) ⟨Nat.zero_le _, fun j h => by omega⟩ ?_
 intro k ⟨hk, hr⟩
 conv => whnf
 rw [show nInt (dLen (eL cIs g.cuts)) = (g.cuts.length : Int) by simp]
 refine zK (fun h4 => ?_) (fun h4 => ?_) <;> (conv => whnf) <;> simp only [eH] at h4
 ·obtain ⟨c, hc⟩ := zI (show k < g.cuts.length by omega)
  obtain ⟨b, hb⟩ := zI (show k < g.bins.length by omega)
  have hcl := z3 c (List.mem_of_getElem? hc)
  have hbl := z4 b (List.mem_of_getElem? hb)
  refine yN hT hmix (by kernel_rfl) ?_
  conv => whnf
  refine zG rfl hc ?_
  conv => whnf
  refine ⟨_, _, z8O c hcl, rfl, ?_⟩
  cases h5 : z4z c
  ·conv => whnf
   repeat' (first | (refine And.intro (fun q => ?_) (fun q => ?_) <;> cases q <;> (conv => whnf)) | fail)
   rw [wX (fun hp => by rw [z6m (hp.2.2.2 k c b hc hb).1] at h5; cases h5)]
  have h5' := zCe.1 h5
  conv => whnf
  repeat' (first | (refine And.intro (fun q => ?_) (fun q => ?_) <;> cases q <;> (conv => whnf)) | fail)
  refine zG rfl hb ?_
  conv => whnf
  repeat' (first | (refine And.intro (fun q => ?_) (fun q => ?_) <;> cases q <;> (conv => whnf)) | fail)
  refine ⟨_, _, z0u g, rfl, ?_⟩
  conv => whnf
  repeat' (first | (refine And.intro (fun q => ?_) (fun q => ?_) <;> cases q <;> (conv => whnf)) | fail)
  rw [show nInt (dLen (eL cI b)) = (b.length : Int) by simp]
  cases h6 : iEq (b.length : Int) (yR g : Int)
  ·conv => whnf
   repeat' (first | (refine And.intro (fun q => ?_) (fun q => ?_) <;> cases q <;> (conv => whnf)) | fail)
   rw [wX (fun hp => by have := (hp.2.2.2 k c b hc hb).2.1; simp at h6; omega)]
  have h6' : b.length = yR g := by simp at h6; omega
  conv => whnf
  repeat' (first | (refine And.intro (fun q => ?_) (fun q => ?_) <;> cases q <;> (conv => whnf)) | fail)
  refine zB hT [1, 3, 4] (α := Nat) (fun x => { t := [(1, .c (.d (.rp [.sl 1 (eL cIs g.cuts), .sl 1 (eL cIs g.bins)]))), (3, ai k), (4, ai x)], h := [], n := 0, N := 76 })
   (fun x => x ≤ b.length ∧ ∀ (j : Nat) (y : Int), j < x → b[j]? = some y → 0 ≤ y ∧ y ≤ (c.length : Int)) (fun x => b.length - x) 0 (by first | ((conv => whnf); done) | ((conv => whnf); rfl)) ⟨Nat.zero_le _, fun j y h => by omega⟩ ?_
  intro i ⟨hi, hq⟩
  conv => whnf
  refine zG rfl hb ?_
  conv => whnf
  rw [show nInt (dLen (eL cI b)) = (b.length : Int) by simp]
  refine zK (fun h7 => ?_) (fun h7 => ?_) <;> (conv => whnf) <;> simp only [eH] at h7
  ·obtain ⟨y, hy⟩ := zI (show i < b.length by omega)
   refine yN hT hmix (by kernel_rfl) ?_
   conv => whnf
   refine zG rfl hb ?_
   conv => whnf
   refine zG rfl hy ?_
   conv => whnf
   refine zG rfl hc ?_
   conv => whnf
   refine ⟨_, _, zS _ _ _, rfl, ?_⟩
   conv => whnf
   rw [show nInt (dLen (eL cI c)) = (c.length : Int) by simp]
   cases h8 : decide (0 ≤ y ∧ y ≤ (c.length : Int))
   ·conv => whnf
    rw [decide_eq_false_iff_not] at h8
    rw [wX (fun hp => h8 ((hp.2.2.2 k c b hc hb).2.2 y (List.mem_of_getElem? hy)))]
   ·rw [decide_eq_true_iff] at h8
    conv => whnf
    refine ⟨i + 1, by omega, ⟨by omega, fun j x hj hx => ?_⟩, ?_⟩
    ·rcases Nat.lt_or_ge j i with q | q
     ·exact hq j x q hx
     ·obtain rfl : j = i := by omega
      rw [hy] at hx; cases hx; exact h8
    ((conv => whnf); simp only [eS, wI (show i < b.length by omega) (by omega)])
  ·refine ⟨k + 1, by omega, ⟨by omega, fun j hj => ?_⟩, ?_⟩
   ·rcases Nat.lt_or_ge j k with q | q
    ·exact hr j q
    ·obtain rfl : j = k := by omega
     intro c' b' hc' hb'
     rw [hc] at hc'; rw [hb] at hb'
     cases hc'; cases hb'
     refine ⟨h5', h6', fun x hx => ?_⟩
     obtain ⟨j', hj'⟩ := List.mem_iff_getElem?.1 hx
     exact hq j' x (by have := (List.getElem?_eq_some_iff.1 hj').1; omega) hj'
   ((conv => whnf); simp only [eS, wI (show k < g.cuts.length by omega) (by omega)])
 ·obtain rfl : k = g.cuts.length := by omega
  rw [z3A ⟨by omega, h2, by omega, fun j => ?_⟩]
  rcases Nat.lt_or_ge j g.cuts.length with q | q
  ·exact hr j q
  ·intro c b hc
   rw [List.getElem?_eq_none q] at hc
   cases hc
def z82 (g : Grd) (t : List Nd) (rows : List Int) (z z' : Int) : List Int := match t[z.toNat]? with
 | none => rows
 | some n => match g.cuts[n.f.toNat]?, g.bins[n.f.toNat]? with
  | some c, some b => if n.l = z' then (yJ b rows (yG c n.c)).1 else (yJ b rows (yG c n.c)).2
  | _, _ => rows
def zD9 (g : Grd) (t : List Nd) : List Int → List Int → List Int
 | rows, z :: z' :: w => zD9 g t (z82 g t rows z z') (z' :: w)
 | rows, [_] => rows
 | rows, [] => rows
def yo (g : Grd) (t : List Nd) (node : Int) : List Int := zD9 g t (y9 (yR g)) (wayL t node)
end Go.H.S
namespace Go.H.S
open Go Go.Proofs Go.H
theorem zGj : ∀ (m n : Nat), 2 * (m &&& n) + (m ^^^ n) = m + n := by
 intro m
 induction m using Nat.strongRecOn with
 | ind m ih =>
  intro n
  rcases Nat.eq_zero_or_pos m with rfl | hm
  ·simp
  ·have h := ih (m / 2) (by omega) (n / 2)
   have h1 : (m &&& n) / 2 = m / 2 &&& n / 2 := Nat.and_div_two
   have h2 : (m ^^^ n) / 2 = m / 2 ^^^ n / 2 := Nat.xor_div_two
   have h3 : (m &&& n) % 2 = 1 ↔ m % 2 = 1 ∧ n % 2 = 1 := Nat.and_mod_two_eq_one
   have h4 : (m ^^^ n) % 2 = (m + n) % 2 := by
    have h5 := Nat.xor_mod_two_pow (a := m) (b := n) (n := 1)
    rw [show 2 ^ 1 = 2 from rfl] at h5
    rw [h5, Nat.add_mod]
    have a1 : m % 2 = 0 ∨ m % 2 = 1 := by omega
    have a2 : n % 2 = 0 ∨ n % 2 = 1 := by omega
    rcases a1 with a1 | a1 <;> rcases a2 with a2 | a2 <;> rw [a1, a2] <;> rfl
   rw [← h1, ← h2] at h
   omega
theorem zGk (x y : BitVec 64) : 2 * (x &&& y).toInt + (x ^^^ y).toInt = x.toInt + y.toInt := by
 have h := zGj x.toNat y.toNat
 rw [BitVec.toInt_eq_msb_cond, BitVec.toInt_eq_msb_cond, BitVec.toInt_eq_msb_cond, BitVec.toInt_eq_msb_cond, BitVec.msb_and, BitVec.msb_xor, BitVec.toNat_and, BitVec.toNat_xor]
 cases hx : x.msb <;> cases hy : y.msb <;> simp <;> omega
theorem zGl (x y : BitVec 64) : (x &&& y &&& 1#64).toInt = if x.toInt % 2 = 1 ∧ y.toInt % 2 = 1 then 1 else 0 := by
 have e : (x &&& y &&& 1#64).toNat = (x.toNat &&& y.toNat) % 2 := by
  rw [BitVec.toNat_and, BitVec.toNat_and]
  exact Nat.and_one_is_mod _
 have h3 : (x.toNat &&& y.toNat) % 2 = 1 ↔ x.toNat % 2 = 1 ∧ y.toNat % 2 = 1 := Nat.and_mod_two_eq_one
 have o : ∀ z : BitVec 64, z.toInt % 2 = (z.toNat % 2 : Nat) := fun z => by
  rw [BitVec.toInt_eq_toNat_cond]; split <;> omega
 rw [BitVec.toInt_eq_toNat_cond, e, o x, o y]
 by_cases q : x.toNat % 2 = 1 ∧ y.toNat % 2 = 1
 ·rw [if_pos (by omega : ((x.toNat % 2 : Nat) : Int) = 1 ∧ ((y.toNat % 2 : Nat) : Int) = 1), h3.2 q]; rfl
 ·have : (x.toNat &&& y.toNat) % 2 = 0 := by have := (not_congr h3).2 q; omega
  rw [this]
  rw [if_pos (by decide), if_neg]
  ·rfl
  ·omega
theorem zKS {n : Nat} (h : n < 18446744073709551616) : IntKind.i64.wrap (n : Int) = if 2 * n < 18446744073709551616 then (n : Int) else (n : Int) - 18446744073709551616 := by
 show (if (true && decide ((n : Int) % 18446744073709551616 ≥ 9223372036854775808)) = true then (n : Int) % 18446744073709551616 - 18446744073709551616 else (n : Int) % 18446744073709551616) = _
 rw [show ((n : Int) % 18446744073709551616) = n by omega]
 simp only [Bool.true_and, decide_eq_true_eq]
 split <;> split <;> omega
theorem zEg (r : BitVec 64) : z2o .i64 r = r.toInt := by
 unfold z2o
 refine (zKS (n := r.toNat) r.isLt).trans ?_
 rw [BitVec.toInt_eq_toNat_cond]
 rfl
theorem zCp (a b : Int) : wAnd .i64 a b = (BitVec.ofInt 64 a &&& BitVec.ofInt 64 b).toInt := by unfold wAnd; exact zEg _
theorem zKV (a b : Int) : wXor .i64 a b = (BitVec.ofInt 64 a ^^^ BitVec.ofInt 64 b).toInt := by unfold wXor; exact zEg _
theorem zCo (x : Int) : wShr .i64 x 1 = x / 2 := by
 unfold wShr
 show x.fdiv (2 ^ 1) = x / 2
 rw [Int.fdiv_eq_ediv_of_nonneg _ (by decide)]; rfl
theorem z62 {a : Int} (h : i64 a) : (BitVec.ofInt 64 a).toInt = a := by
 have h : -9223372036854775808 ≤ a ∧ a ≤ 9223372036854775807 := h
 rw [BitVec.toInt_ofInt, Int.bmod_def]
 split <;> omega
theorem zGA (r : BitVec 64) : BitVec.ofInt 64 r.toInt = r := by simp
theorem zJT {a b : Int} (ha : -4611686018427387904 ≤ a ∧ a ≤ 4611686018427387903) (hb : -4611686018427387904 ≤ b ∧ b ≤ 4611686018427387903) : wAdd .i64 (wAnd .i64 a b) (wShr .i64 (wXor .i64 a b) 1) = (a + b) / 2 := by
 have h := zGk (BitVec.ofInt 64 a) (BitVec.ofInt 64 b)
 rw [z62 (show i64 a from ⟨by omega, by omega⟩), z62 (show i64 b from ⟨by omega, by omega⟩)] at h
 rw [zCp, zKV, zCo]
 generalize (BitVec.ofInt 64 a &&& BitVec.ofInt 64 b).toInt = p at *
 generalize (BitVec.ofInt 64 a ^^^ BitVec.ofInt 64 b).toInt = q at *
 rw [y6] <;> omega
theorem zJU {a b : Int} (ha : -4611686018427387904 ≤ a ∧ a ≤ 4611686018427387903) (hb : -4611686018427387904 ≤ b ∧ b ≤ 4611686018427387903) :
  wAdd .i64 (wAdd .i64 (wShr .i64 a 1) (wShr .i64 b 1)) (wAnd .i64 (wAnd .i64 a b) 1) = (a + b) / 2 := by
 have h := zGl (BitVec.ofInt 64 a) (BitVec.ofInt 64 b)
 rw [z62 (show i64 a from ⟨by omega, by omega⟩), z62 (show i64 b from ⟨by omega, by omega⟩)] at h
 have e2 : wAnd .i64 (BitVec.ofInt 64 a &&& BitVec.ofInt 64 b).toInt 1 = (BitVec.ofInt 64 a &&& BitVec.ofInt 64 b &&& 1#64).toInt := by
  rw [zCp, zGA]; rfl
 rw [zCp a b, e2, zCo, zCo, h, y6 (x := a / 2) (y := b / 2) (by omega) (by omega)]
 split
 ·rw [y6] <;> omega
 ·rw [y6] <;> omega
end Go.H.S
