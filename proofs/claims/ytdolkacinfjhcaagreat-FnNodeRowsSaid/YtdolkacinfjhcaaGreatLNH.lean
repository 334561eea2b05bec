/- Library, part I: searches of the package slices (printed by gen/idx.py). -/
import Derived.Test.YtdolkacinfjhcaaGreatLV
import Derived.Test.YtdolkacinfjhcaaGreatLNC
set_option maxRecDepth 100000
set_option linter.unusedSimpArgs false
set_option linter.unusedVariables false
namespace Go.H.S
open Go Go.Proofs Go.H
attribute [local irreducible] Tri z6 zV
theorem z4a {α : Type} (p : α → Bool) : ∀ (l : List α) (k : Nat), (0 ≤ idxL p l k) ↔ l.any p = true
 | [], k => by simp [idxL]
 | y :: r, k => by
  simp only [idxL, List.any_cons]
  have ih := z4a p r (k + 1)
  cases h : p y
  ·simpa using ih
  ·simp
theorem wW (xs : List (List Nd)) (g : FuncId) (d0 : D) (p : List Nd → Bool) (hp : ∀ x ∈ xs, z6 PR g [aT x, .c (.d d0)] (ab (p x)) [] 0) (hl : xs.length ≤ 9223372036854775807) :
  z6 PR wc [aTs xs, .c (.d (.fn g [d0]))] (ai (idxL p xs 0)) [] 0 := by
 refine z6.intro hT (pf Tryz.func332) rfl (by kernel_rfl) Tryz.ntmps332 rfl ?_
 conv => whnf
 refine zB hT [0, 1, 7, 8] (α := Nat) (fun k => { t := [(0, aTs xs), (1, .c (.d (.fn g [d0]))), (7, ai xs.length), (8, ai k)], h := [], n := 0, N := 19 })
  (fun k => k ≤ xs.length ∧ idxL p (xs.drop k) k = idxL p xs 0) (fun k => xs.length - k) 0 (by ((conv => whnf); simp only [eS])) ⟨Nat.zero_le _, rfl⟩ ?_
 intro k ⟨hk, hi⟩
 conv => whnf
 refine zK (fun h1 => ?_) (fun h1 => ?_) <;> (conv => whnf) <;> simp at h1
 ·obtain ⟨s, hs⟩ := zH h1
  rw [zy hs, idxL] at hi
  refine zE (by simp) hs ?_
  conv => whnf
  refine .inl ⟨_, _, _, hp s (List.mem_of_getElem? hs), rfl, ?_⟩
  conv => whnf
  refine zK (fun h2 => ?_) (fun h2 => ?_) <;> (conv => whnf)
  ·rw [if_pos h2] at hi
   ((conv => whnf); simp only [eS, hi])
  ·rw [if_neg (by simp [h2])] at hi
   refine ⟨k + 1, by omega, ⟨h1, hi⟩, ?_⟩
   ((conv => whnf); simp only [eS, wI h1 hl])
 ·obtain rfl : k = xs.length := by omega
  simp only [List.drop_length, idxL] at hi
  ((conv => whnf); simp only [eS, ← hi])
theorem yO (xs : List (List Nd)) (g : FuncId) (d0 : D) (p : List Nd → Bool) (hp : ∀ x ∈ xs, z6 PR g [aT x, .c (.d d0)] (ab (p x)) [] 0) (hl : xs.length ≤ 9223372036854775807) :
  z6 PR wN [aTs xs, .c (.d (.fn g [d0]))] (ab (xs.any p)) [] 0 := by
 refine z6.intro hT (pf Tryz.func297) rfl (by kernel_rfl) Tryz.ntmps297 rfl ?_
 conv => whnf
 refine .inl ⟨_, _, _, wW xs g d0 p hp hl, rfl, ?_⟩
 conv => whnf
 have h := z4a p xs 0
 cases hb : xs.any p
 ·rw [hb] at h
  ((conv => whnf); simp only [eS, iLe])
  simpa using h
 ·rw [hb] at h
  ((conv => whnf); simp only [eS, iLe])
  simpa using h
theorem z1e (xs : List (Int)) (g : FuncId) (p : Int → Bool) (hp : ∀ x ∈ xs, z6 PR g [ai x] (ab (p x)) [] 0) (hl : xs.length ≤ 9223372036854775807) :
  z6 PR wb [aIs xs, .c (.d (.fn g []))] (ai (idxL p xs 0)) [] 0 := by
 refine z6.intro hT (pf Tryz.func233) rfl (by kernel_rfl) Tryz.ntmps233 rfl ?_
 conv => whnf
 refine zB hT [0, 1, 7, 8] (α := Nat) (fun k => { t := [(0, aIs xs), (1, .c (.d (.fn g []))), (7, ai xs.length), (8, ai k)], h := [], n := 0, N := 19 })
  (fun k => k ≤ xs.length ∧ idxL p (xs.drop k) k = idxL p xs 0) (fun k => xs.length - k) 0 (by ((conv => whnf); simp only [eS])) ⟨Nat.zero_le _, rfl⟩ ?_
 intro k ⟨hk, hi⟩
 conv => whnf
 refine zK (fun h1 => ?_) (fun h1 => ?_) <;> (conv => whnf) <;> simp at h1
 ·obtain ⟨s, hs⟩ := zH h1
  rw [zy hs, idxL] at hi
  refine zE (by simp) hs ?_
  conv => whnf
  refine .inl ⟨_, _, _, hp s (List.mem_of_getElem? hs), rfl, ?_⟩
  conv => whnf
  refine zK (fun h2 => ?_) (fun h2 => ?_) <;> (conv => whnf)
  ·rw [if_pos h2] at hi
   ((conv => whnf); simp only [eS, hi])
  ·rw [if_neg (by simp [h2])] at hi
   refine ⟨k + 1, by omega, ⟨h1, hi⟩, ?_⟩
   ((conv => whnf); simp only [eS, wI h1 hl])
 ·obtain rfl : k = xs.length := by omega
  simp only [List.drop_length, idxL] at hi
  ((conv => whnf); simp only [eS, ← hi])
theorem y6 (xs : List (Int)) (g : FuncId) (p : Int → Bool) (hp : ∀ x ∈ xs, z6 PR g [ai x] (ab (p x)) [] 0) (hl : xs.length ≤ 9223372036854775807) :
  z6 PR wB [aIs xs, .c (.d (.fn g []))] (ab (xs.any p)) [] 0 := by
 refine z6.intro hT (pf Tryz.func120) rfl (by kernel_rfl) Tryz.ntmps120 rfl ?_
 conv => whnf
 refine .inl ⟨_, _, _, z1e xs g  p hp hl, rfl, ?_⟩
 conv => whnf
 have h := z4a p xs 0
 cases hb : xs.any p
 ·rw [hb] at h
  ((conv => whnf); simp only [eS, iLe])
  simpa using h
 ·rw [hb] at h
  ((conv => whnf); simp only [eS, iLe])
  simpa using h
theorem z1d (xs : List (Int)) (g : FuncId) (d0 : D) (p : Int → Bool) (hp : ∀ x ∈ xs, z6 PR g [ai x, .c (.d d0)] (ab (p x)) [] 0) (hl : xs.length ≤ 9223372036854775807) :
  z6 PR wb [aIs xs, .c (.d (.fn g [d0]))] (ai (idxL p xs 0)) [] 0 := by
 refine z6.intro hT (pf Tryz.func233) rfl (by kernel_rfl) Tryz.ntmps233 rfl ?_
 conv => whnf
 refine zB hT [0, 1, 7, 8] (α := Nat) (fun k => { t := [(0, aIs xs), (1, .c (.d (.fn g [d0]))), (7, ai xs.length), (8, ai k)], h := [], n := 0, N := 19 })
  (fun k => k ≤ xs.length ∧ idxL p (xs.drop k) k = idxL p xs 0) (fun k => xs.length - k) 0 (by ((conv => whnf); simp only [eS])) ⟨Nat.zero_le _, rfl⟩ ?_
 intro k ⟨hk, hi⟩
 conv => whnf
 refine zK (fun h1 => ?_) (fun h1 => ?_) <;> (conv => whnf) <;> simp at h1
 ·obtain ⟨s, hs⟩ := zH h1
  rw [zy hs, idxL] at hi
  refine zE (by simp) hs ?_
  conv => whnf
  refine .inl ⟨_, _, _, hp s (List.mem_of_getElem? hs), rfl, ?_⟩
  conv => whnf
  refine zK (fun h2 => ?_) (fun h2 => ?_) <;> (conv => whnf)
  ·rw [if_pos h2] at hi
   ((conv => whnf); simp only [eS, hi])
  ·rw [if_neg (by simp [h2])] at hi
   refine ⟨k + 1, by omega, ⟨h1, hi⟩, ?_⟩
   ((conv => whnf); simp only [eS, wI h1 hl])
 ·obtain rfl : k = xs.length := by omega
  simp only [List.drop_length, idxL] at hi
  ((conv => whnf); simp only [eS, ← hi])
theorem z0n (xs : List (Int)) (g : FuncId) (d0 : D) (p : Int → Bool) (hp : ∀ x ∈ xs, z6 PR g [ai x, .c (.d d0)] (ab (p x)) [] 0) (hl : xs.length ≤ 9223372036854775807) :
  z6 PR wB [aIs xs, .c (.d (.fn g [d0]))] (ab (xs.any p)) [] 0 := by
 refine z6.intro hT (pf Tryz.func120) rfl (by kernel_rfl) Tryz.ntmps120 rfl ?_
 conv => whnf
 refine .inl ⟨_, _, _, z1d xs g d0 p hp hl, rfl, ?_⟩
 conv => whnf
 have h := z4a p xs 0
 cases hb : xs.any p
 ·rw [hb] at h
  ((conv => whnf); simp only [eS, iLe])
  simpa using h
 ·rw [hb] at h
  ((conv => whnf); simp only [eS, iLe])
  simpa using h
theorem z14 (xs : List (List Int)) (g : FuncId) (d0 : D) (p : List Int → Bool) (hp : ∀ x ∈ xs, z6 PR g [aIs x, .c (.d d0)] (ab (p x)) [] 0) (hl : xs.length ≤ 9223372036854775807) :
  z6 PR z1A [aIss xs, .c (.d (.fn g [d0]))] (ai (idxL p xs 0)) [] 0 := by
 refine z6.intro hT (pf Tryz.func304) rfl (by kernel_rfl) Tryz.ntmps304 rfl ?_
 conv => whnf
 refine zB hT [0, 1, 7, 8] (α := Nat) (fun k => { t := [(0, aIss xs), (1, .c (.d (.fn g [d0]))), (7, ai xs.length), (8, ai k)], h := [], n := 0, N := 19 })
  (fun k => k ≤ xs.length ∧ idxL p (xs.drop k) k = idxL p xs 0) (fun k => xs.length - k) 0 (by ((conv => whnf); simp only [eS])) ⟨Nat.zero_le _, rfl⟩ ?_
 intro k ⟨hk, hi⟩
 conv => whnf
 refine zK (fun h1 => ?_) (fun h1 => ?_) <;> (conv => whnf) <;> simp at h1
 ·obtain ⟨s, hs⟩ := zH h1
  rw [zy hs, idxL] at hi
  refine zE (by simp) hs ?_
  conv => whnf
  refine .inl ⟨_, _, _, hp s (List.mem_of_getElem? hs), rfl, ?_⟩
  conv => whnf
  refine zK (fun h2 => ?_) (fun h2 => ?_) <;> (conv => whnf)
  ·rw [if_pos h2] at hi
   ((conv => whnf); simp only [eS, hi])
  ·rw [if_neg (by simp [h2])] at hi
   refine ⟨k + 1, by omega, ⟨h1, hi⟩, ?_⟩
   ((conv => whnf); simp only [eS, wI h1 hl])
 ·obtain rfl : k = xs.length := by omega
  simp only [List.drop_length, idxL] at hi
  ((conv => whnf); simp only [eS, ← hi])
theorem z0U (xs : List (List Int)) (g : FuncId) (d0 : D) (p : List Int → Bool) (hp : ∀ x ∈ xs, z6 PR g [aIs x, .c (.d d0)] (ab (p x)) [] 0) (hl : xs.length ≤ 9223372036854775807) :
  z6 PR z0Y [aIss xs, .c (.d (.fn g [d0]))] (ab (xs.any p)) [] 0 := by
 refine z6.intro hT (pf Tryz.func253) rfl (by kernel_rfl) Tryz.ntmps253 rfl ?_
 conv => whnf
 refine .inl ⟨_, _, _, z14 xs g d0 p hp hl, rfl, ?_⟩
 conv => whnf
 have h := z4a p xs 0
 cases hb : xs.any p
 ·rw [hb] at h
  ((conv => whnf); simp only [eS, iLe])
  simpa using h
 ·rw [hb] at h
  ((conv => whnf); simp only [eS, iLe])
  simpa using h
end Go.H.S
namespace Go.H.S
open Go Go.Proofs Go.H
attribute [local irreducible] Tri z6 zV zU zj
def y7 : List Int → Int → Nat
 | [], _ => 0
 | c :: r, v => (if c < v then 1 else 0) + y7 r v
theorem z77 : ∀ (l : List Int) (v : Int), y7 l v ≤ l.length
 | [], v => by simp [y7]
 | c :: r, v => by
  have := z77 r v
  simp only [y7, List.length_cons]
  split <;> omega
theorem z48 (cuts : List Int) (v : Int) (hl : cuts.length ≤ 1048576) : z6 PR zFP [aIs cuts, ai v] (ai (y7 cuts v)) [] 0 := by
 have hle := z77 cuts v
 refine z6.intro hT (pf Tryz.func210) rfl (by kernel_rfl) Tryz.ntmps210 rfl ?_
 conv => whnf
 refine zB hT [1, 5, 8, 9, 10] (α := Nat × Nat) (fun x => { t := [(1, ai v), (5, ai x.2), (8, aIs cuts), (9, ai cuts.length), (10, ai x.1)], h := [], n := 0, N := 21 })
  (fun x => x.1 ≤ cuts.length ∧ x.2 + y7 (cuts.drop x.1) v = y7 cuts v) (fun x => cuts.length - x.1) (0, 0) (by ((conv => whnf); simp only [eS])) ⟨Nat.zero_le _, by simp⟩ ?_
 intro ⟨k, c⟩ ⟨hk, hc⟩
 dsimp only at hk hc
 conv => whnf
 refine zK (fun h1 => ?_) (fun h1 => ?_) <;> (conv => whnf) <;> simp at h1
 ·obtain ⟨x, hx⟩ := zH h1
  rw [zy hx, y7] at hc
  refine zE (by simp) hx ?_
  conv => whnf
  refine zK (fun h2 => ?_) (fun h2 => ?_) <;> (conv => whnf) <;> simp only [eH] at h2
  ·rw [if_pos h2] at hc
   refine ⟨(k + 1, c + 1), by dsimp only; omega, ⟨h1, by dsimp only; omega⟩, ?_⟩
   ((conv => whnf); simp only [eS, wI h1 (by omega), wI (show c < 1048577 by omega) (by omega)])
  ·rw [if_neg (by omega)] at hc
   refine ⟨(k + 1, c), by dsimp only; omega, ⟨h1, by dsimp only; omega⟩, ?_⟩
   ((conv => whnf); simp only [eS, wI h1 (by omega)])
 ·obtain rfl : k = cuts.length := by omega
  simp [y7] at hc
  rw [hc]
theorem z3t (cuts : List Int) (v : Int) (hl : cuts.length ≤ 1048576) : z6 PR zFM [aIs cuts, ai v] (ai (y7 cuts v)) [] 0 := by
 have hle := z77 cuts v
 refine z6.intro hT (pf Tryz.func168) rfl (by kernel_rfl) Tryz.ntmps168 rfl ?_
 conv => whnf
 refine zB hT [0, 1, 5, 6] (α := Nat × Nat) (fun x => { t := [(0, aIs cuts), (1, ai v), (5, ai x.2), (6, ai x.1)], h := [], n := 0, N := 22 })
  (fun x => x.1 ≤ cuts.length ∧ x.2 + y7 (cuts.drop x.1) v = y7 cuts v) (fun x => cuts.length - x.1) (0, 0) (by ((conv => whnf); simp only [eS])) ⟨Nat.zero_le _, by simp⟩ ?_
 intro ⟨k, c⟩ ⟨hk, hc⟩
 dsimp only at hk hc
 conv => whnf
 refine zK (fun h1 => ?_) (fun h1 => ?_) <;> (conv => whnf) <;> simp at h1
 ·obtain ⟨x, hx⟩ := zH h1
  rw [zy hx, y7] at hc
  refine zE (by simp) hx ?_
  conv => whnf
  refine zK (fun h2 => ?_) (fun h2 => ?_) <;> (conv => whnf) <;> simp only [eH] at h2
  ·rw [if_pos h2] at hc
   refine ⟨(k + 1, c + 1), by dsimp only; omega, ⟨h1, by dsimp only; omega⟩, ?_⟩
   ((conv => whnf); simp only [eS, wI h1 (by omega), wI (show c < 1048577 by omega) (by omega)])
  ·rw [if_neg (by omega)] at hc
   refine ⟨(k + 1, c), by dsimp only; omega, ⟨h1, by dsimp only; omega⟩, ?_⟩
   ((conv => whnf); simp only [eS, wI h1 (by omega)])
 ·obtain rfl : k = cuts.length := by omega
  simp [y7] at hc
  rw [hc]
def upTo (n : Nat) : List Int := (List.range n).map fun (i : Nat) => (i : Int)
theorem z30 (n : Nat) : (upTo n).length = n := by simp [upTo]
theorem z3p (n : Nat) : upTo (n + 1) = upTo n ++ [(n : Int)] := by simp [upTo, List.range_succ]
def zx (n : Int) : List Int := if 1 ≤ n ∧ n ≤ 40 then upTo n.toNat else []
theorem z7r (n : Int) : z6 PR z5A [ai n] (.c (.ref 0 0 none)) [(0, .arr zW 1 0 .own (eL cI (zx n)))] 1 := by
 refine z6.intro hT (pf Tryz.func104) rfl (by kernel_rfl) Tryz.ntmps104 rfl ?_
 conv => whnf
 refine .inl ⟨_, _, _, zG _ _ _, rfl, ?_⟩
 conv => whnf
 by_cases h : 1 ≤ n ∧ n ≤ 40
 ·rw [show decide (1 ≤ n ∧ n ≤ 40) = true from decide_eq_true h]
  conv => whnf
  have he : zx n = upTo n.toNat := by rw [zx, if_pos h]
  rw [he]
  obtain ⟨m, rfl⟩ : ∃ m : Nat, n = m := ⟨n.toNat, by omega⟩
  simp only [Int.toNat_natCast]
  refine zB hT [3, 10, 11] (α := Nat) (fun x => { t := [(3, .c (.ref 0 0 none)), (10, ai m), (11, ai x)], h := [(0, .arr zW 1 0 .own (eL cI (upTo x)))], n := 1, N := 20 })
   (fun x => x ≤ m) (fun x => m - x) 0 (by (conv => whnf); rw [show upTo 0 = [] from rfl, zg]; rfl) (Nat.zero_le _) ?_
  intro k hk
  conv => whnf
  refine zK (fun h1 => ?_) (fun h1 => ?_) <;> (conv => whnf) <;> simp at h1
  ·refine And.intro (by simp [zF, zS, z30]; omega) ?_
   conv => whnf
   refine ⟨k + 1, by omega, h1, ?_⟩
   ((conv => whnf); simp only [eS, wI h1 (by omega)])
   rw [z3p, ← zY]
   rfl
  ·obtain rfl : k = m := by omega
   conv => whnf
 ·rw [show decide (1 ≤ n ∧ n ≤ 40) = false from decide_eq_false h]
  conv => whnf
  rw [zx, if_neg h, zg]
theorem z7Q (n : Int) : z6 PR z58 [ai n] (.c (.ref 0 0 none)) [(0, .arr zW 1 0 .own (eL cI (zx n)))] 1 := by
 refine z6.intro hT (pf Tryz.func112) rfl (by kernel_rfl) Tryz.ntmps112 rfl ?_
 conv => whnf
 refine zB hT [0, 3, 4] (α := Nat) (fun x => { t := [(0, ai n), (3, .c (.ref 0 0 none)), (4, ai x)], h := [(0, .arr zW 1 0 .own (eL cI (upTo x)))], n := 1, N := 20 })
  (fun x => x = 0 ∨ (n ≤ 40 ∧ x ≤ n)) (fun x => 40 - x) 0 (by (conv => whnf); rw [show upTo 0 = [] from rfl, zg]; rfl) (.inl rfl) ?_
 intro k hk
 conv => whnf
 refine zK (fun h1 => ?_) (fun h1 => ?_) <;> (conv => whnf) <;> simp only [eH] at h1
 ·refine zK (fun h2 => ?_) (fun h2 => ?_) <;> (conv => whnf) <;> simp only [eH] at h2
  ·refine And.intro (by simp [zF, zS, z30]; omega) ?_
   conv => whnf
   refine ⟨k + 1, by omega, .inr (by omega), ?_⟩
   ((conv => whnf); simp only [eS, wI (show k < 40 by omega) (by omega)])
   rw [z3p, ← zY]
   rfl
  ·obtain rfl : k = 0 := by omega
   rw [zx, if_neg (by omega)]
   rfl
 ·rcases hk with rfl | hk
  ·rw [zx, if_neg (by omega)]
   rfl
  ·have : n = k := by omega
   subst this
   by_cases h0 : 1 ≤ (k : Int)
   ·rw [zx, if_pos (by omega), Int.toNat_natCast]
   ·obtain rfl : k = 0 := by omega
    rw [zx, if_neg (by omega)]
    rfl
def wO (bins : List Int) (b : Int) (r : Int) : Option Bool := if 0 ≤ r ∧ r ≤ (bins.length : Int) - 1 then (bins[r.toNat]?).map fun x => decide (x ≤ b) else none
def zp (bins rows : List Int) (b : Int) : List Int × List Int := (rows.filter fun r => decide (wO bins b r = some true), rows.filter fun r => decide (wO bins b r = some false))
abbrev tupRR : AV := .tup [(false, [.ref 0 0 none]), (false, [.ref 1 0 none])]
theorem z0e (bins rows : List Int) (b : Int) : (zp bins rows b).1.length ≤ rows.length ∧ (zp bins rows b).2.length ≤ rows.length := ⟨List.length_filter_le _ _, List.length_filter_le _ _⟩
theorem yP {p : Int → Bool} {xs : List Int} {k : Nat} {x : Int} (h : xs[k]? = some x) : (xs.take (k + 1)).filter p = (xs.take k).filter p ++ (if p x then [x] else []) := by
 rw [List.take_add_one, h, List.filter_append]
 simp only [Option.toList_some, List.filter_cons, List.filter_nil]
theorem z5h (bins rows : List Int) (b : Int) (hb : bins.length ≤ 1048576) (hr : rows.length ≤ 1048576) : z6 PR z3e [aIs bins, aIs rows, ai b] tupRR [(0, .arr zW 1 0 .own (eL cI (zp bins rows b).1)), (1, .arr zW 1 0 .own (eL cI (zp bins rows b).2))] 2 := by
 have e1 : wSub .i64 (nInt (dLen (eL cI bins))) 1 = (bins.length : Int) - 1 := by rw [show nInt (dLen (eL cI bins)) = (bins.length : Int) by simp]; exact yB (by omega) (by omega)
 refine z6.intro hT (pf Tryz.func110) rfl (by kernel_rfl) Tryz.ntmps110 rfl ?_
 conv => whnf
 refine zB hT [0, 2, 8, 9, 14, 15, 16] (α := Nat) (fun x => { t := [(0, aIs bins), (2, ai b), (8, .c (.ref 0 0 none)), (9, .c (.ref 1 0 none)), (14, aIs rows), (15, ai rows.length), (16, ai x)], h := [(0, .arr zW 1 0 .own (eL cI (zp bins (rows.take x) b).1)), (1, .arr zW 1 0 .own (eL cI (zp bins (rows.take x) b).2))], n := 2, N := 45 })
  (fun x => x ≤ rows.length) (fun x => rows.length - x) 0 (by ((conv => whnf); simp only [eS, zp, List.take_zero, List.filter_nil, zg])) (Nat.zero_le _) ?_
 intro k hk
 conv => whnf
 refine zK (fun h1 => ?_) (fun h1 => ?_) <;> (conv => whnf) <;> simp at h1
 ·obtain ⟨x, hx⟩ := zH h1
  have hl := z0e bins (rows.take k) b
  have htl : (rows.take k).length = k := by simp; omega
  refine zE (by simp) hx ?_
  conv => whnf
  rw [e1]
  refine .inl ⟨_, _, _, zG _ _ _, rfl, ?_⟩
  conv => whnf
  have f1 : (zp bins (rows.take (k + 1)) b).1 = (zp bins (rows.take k) b).1 ++ (if decide (wO bins b x = some true) then [x] else []) := yP hx
  have f2 : (zp bins (rows.take (k + 1)) b).2 = (zp bins (rows.take k) b).2 ++ (if decide (wO bins b x = some false) then [x] else []) := yP hx
  by_cases hin : 0 ≤ x ∧ x ≤ (bins.length : Int) - 1
  ·rw [show decide (0 ≤ x ∧ x ≤ (bins.length : Int) - 1) = true from decide_eq_true hin]
   conv => whnf
   obtain ⟨i, rfl⟩ : ∃ i : Nat, x = i := ⟨x.toNat, by omega⟩
   obtain ⟨y, hy⟩ := zH (show i < bins.length by omega)
   refine zE (by simp) hy ?_
   conv => whnf
   refine zK (fun h2 => ?_) (fun h2 => ?_) <;> (conv => whnf) <;> simp only [eH] at h2
   ·have ha : wO bins b i = some true := by simp [wO, hin, hy, h2]
    rw [ha] at f1 f2
    simp at f1 f2
    refine And.intro (by simp [zF, zS]; omega) ?_
    conv => whnf
    refine ⟨k + 1, by omega, h1, ?_⟩
    ((conv => whnf); simp only [eS, wI h1 (by omega)])
    rw [f1, f2, ← zY]
    exact ⟨rfl, rfl⟩
   ·have ha : wO bins b i = some false := by simp [wO, hin, hy]; omega
    rw [ha] at f1 f2
    simp at f1 f2
    refine And.intro (by simp [zF, zS]; omega) ?_
    conv => whnf
    refine ⟨k + 1, by omega, h1, ?_⟩
    ((conv => whnf); simp only [eS, wI h1 (by omega)])
    rw [f1, f2, ← zY]
    exact ⟨rfl, rfl⟩
  ·rw [show decide (0 ≤ x ∧ x ≤ (bins.length : Int) - 1) = false from decide_eq_false hin]
   conv => whnf
   have ha : wO bins b x = none := by simp only [wO]; rw [if_neg hin]
   rw [ha] at f1 f2
   simp at f1 f2
   refine ⟨k + 1, by omega, h1, ?_⟩
   ((conv => whnf); simp only [eS, wI h1 (by omega)])
   rw [f1, f2]
   exact ⟨rfl, rfl⟩
 ·obtain rfl : k = rows.length := by omega
  rw [List.take_length]
theorem z5T (bins rows : List Int) (b : Int) (hb : bins.length ≤ 1048576) (hr : rows.length ≤ 1048576) : z6 PR z3c [aIs bins, aIs rows, ai b] tupRR [(0, .arr zW 1 0 .own (eL cI (zp bins rows b).1)), (1, .arr zW 1 0 .own (eL cI (zp bins rows b).2))] 2 := by
 have e1 : wSub .i64 (nInt (dLen (eL cI bins))) 1 = (bins.length : Int) - 1 := by rw [show nInt (dLen (eL cI bins)) = (bins.length : Int) by simp]; exact yB (by omega) (by omega)
 refine z6.intro hT (pf Tryz.func114) rfl (by kernel_rfl) Tryz.ntmps114 rfl ?_
 conv => whnf
 refine zB hT [0, 1, 2, 8, 9, 10] (α := Nat) (fun x => { t := [(0, aIs bins), (1, aIs rows), (2, ai b), (8, .c (.ref 0 0 none)), (9, .c (.ref 1 0 none)), (10, ai x)], h := [(0, .arr zW 1 0 .own (eL cI (zp bins (rows.take x) b).1)), (1, .arr zW 1 0 .own (eL cI (zp bins (rows.take x) b).2))], n := 2, N := 55 })
  (fun x => x ≤ rows.length) (fun x => rows.length - x) 0 (by ((conv => whnf); simp only [eS, zp, List.take_zero, List.filter_nil, zg])) (Nat.zero_le _) ?_
 intro k hk
 conv => whnf
 refine zK (fun h1 => ?_) (fun h1 => ?_) <;> (conv => whnf) <;> simp at h1
 ·obtain ⟨x, hx⟩ := zH h1
  have hl := z0e bins (rows.take k) b
  have htl : (rows.take k).length = k := by simp; omega
  refine zE (by simp) hx ?_
  conv => whnf
  rw [e1]
  refine .inl ⟨_, _, _, zM _ _ _, rfl, ?_⟩
  conv => whnf
  have f1 : (zp bins (rows.take (k + 1)) b).1 = (zp bins (rows.take k) b).1 ++ (if decide (wO bins b x = some true) then [x] else []) := yP hx
  have f2 : (zp bins (rows.take (k + 1)) b).2 = (zp bins (rows.take k) b).2 ++ (if decide (wO bins b x = some false) then [x] else []) := yP hx
  by_cases hin : 0 ≤ x ∧ x ≤ (bins.length : Int) - 1
  ·rw [show decide (0 ≤ x ∧ x ≤ (bins.length : Int) - 1) = true from decide_eq_true hin]
   conv => whnf
   obtain ⟨i, rfl⟩ : ∃ i : Nat, x = i := ⟨x.toNat, by omega⟩
   obtain ⟨y, hy⟩ := zH (show i < bins.length by omega)
   refine zE (by simp) hx ?_
   conv => whnf
   refine zE (by simp) hy ?_
   conv => whnf
   refine zK (fun h2 => ?_) (fun h2 => ?_) <;> (conv => whnf) <;> simp only [eH] at h2
   ·have ha : wO bins b i = some true := by simp [wO, hin, hy, h2]
    rw [ha] at f1 f2
    simp at f1 f2
    refine zE (by simp) hx ?_
    conv => whnf
    refine And.intro (by simp [zF, zS]; omega) ?_
    conv => whnf
    refine ⟨k + 1, by omega, h1, ?_⟩
    ((conv => whnf); simp only [eS, wI h1 (by omega)])
    rw [f1, f2, ← zY]
    exact ⟨rfl, rfl⟩
   ·have ha : wO bins b i = some false := by simp [wO, hin, hy]; omega
    rw [ha] at f1 f2
    simp at f1 f2
    refine zE (by simp) hx ?_
    conv => whnf
    refine And.intro (by simp [zF, zS]; omega) ?_
    conv => whnf
    refine ⟨k + 1, by omega, h1, ?_⟩
    ((conv => whnf); simp only [eS, wI h1 (by omega)])
    rw [f1, f2, ← zY]
    exact ⟨rfl, rfl⟩
  ·rw [show decide (0 ≤ x ∧ x ≤ (bins.length : Int) - 1) = false from decide_eq_false hin]
   conv => whnf
   have ha : wO bins b x = none := by simp only [wO]; rw [if_neg hin]
   rw [ha] at f1 f2
   simp at f1 f2
   refine ⟨k + 1, by omega, h1, ?_⟩
   ((conv => whnf); simp only [eS, wI h1 (by omega)])
   rw [f1, f2]
   exact ⟨rfl, rfl⟩
 ·obtain rfl : k = rows.length := by omega
  rw [List.take_length]
def yS (g : Grd) : Nat := match g.bins with | [] => 0 | x :: _ => x.length
theorem wM (g : Grd) : z6 PR zDz [aG g] (ai (yS g)) [] 0 := by
 refine z6.intro hT (pf Tryz.func105) rfl (by kernel_rfl) Tryz.ntmps105 rfl ?_
 conv => whnf
 cases hb : g.bins with
 | nil =>
  refine zK (fun h1 => ?_) (fun h1 => ?_) <;> (conv => whnf) <;> simp only [eH, zg] at h1
  ·simp [yS, hb]
  ·simp [zg] at h1
 | cons x r =>
  refine zK (fun h1 => ?_) (fun h1 => ?_) <;> (conv => whnf) <;> simp only [eH, z4L] at h1
  ·omega
  ·refine zE (by simp) (show (x :: r)[0]? = some x from rfl) ?_
   conv => whnf
   simp [yS, hb]
theorem wx (g : Grd) : z6 PR zDZ [aG g] (ai (yS g)) [] 0 := by
 refine z6.intro hT (pf Tryz.func194) rfl (by kernel_rfl) Tryz.ntmps194 rfl ?_
 conv => whnf
 cases hb : g.bins with
 | nil =>
  refine zK (fun h1 => ?_) (fun h1 => ?_) <;> (conv => whnf) <;> simp only [eH, zg] at h1
  ·simp [yS, hb]
  ·simp [zg] at h1
 | cons x r =>
  refine zK (fun h1 => ?_) (fun h1 => ?_) <;> (conv => whnf) <;> simp only [eH, z4L] at h1
  ·omega
  ·refine zE (by simp) (show (x :: r)[0]? = some x from rfl) ?_
   conv => whnf
   simp [yS, hb]
end Go.H.S
namespace Go.H.S
open Go Go.Proofs Go.H
attribute [local irreducible] Tri z6 zV zU zj
def decP (x : Int) : Prop := -2147483647 ≤ x ∧ x ≤ 2147483647
def zFV (cuts : List Int) : Prop := (∀ (j : Nat) (a b : Int), cuts[j]? = some a → cuts[j + 1]? = some b → a < b) ∧ cuts.length ≤ 7 ∧ ∀ c ∈ cuts, decP c
noncomputable def z5H (cuts : List Int) : Bool := @decide (zFV cuts) (Classical.propDecidable _)
theorem z74 {cuts : List Int} (h : zFV cuts) : z5H cuts = true := by unfold z5H; exact @decide_eq_true _ (Classical.propDecidable _) h
theorem z3M {cuts : List Int} (h : ¬ zFV cuts) : z5H cuts = false := by unfold z5H; exact @decide_eq_false _ (Classical.propDecidable _) h
theorem zCb {cuts : List Int} : z5H cuts = true ↔ zFV cuts := by
 constructor
 ·intro h
  rcases Classical.em (zFV cuts) with q | q
  ·exact q
  ·rw [z3M q] at h; cases h
 ·exact z74
theorem z3E (x : Int) : z6 PR z1L [ai x] (ab (bNot (decide (-2147483647 ≤ x ∧ x ≤ 2147483647)))) [] 0 := by
 refine z6.intro hT (pf Tryz.func303) rfl (by kernel_rfl) Tryz.ntmps303 rfl ?_
 conv => whnf
 refine .inl ⟨_, _, _, wD x, rfl, ?_⟩
 conv => whnf
theorem wZ (xs : List Int) (hl : xs.length ≤ 1048576) : z6 PR z6x [aIs xs] (ab (bNot (xs.any fun x => bNot (decide (-2147483647 ≤ x ∧ x ≤ 2147483647))))) [] 0 := by
 refine z6.intro hT (pf Tryz.func252) rfl (by kernel_rfl) Tryz.ntmps252 rfl ?_
 conv => whnf
 refine .inl ⟨_, _, _, y6 xs z1L (fun x => bNot (decide (-2147483647 ≤ x ∧ x ≤ 2147483647))) (fun x _ => z3E x) (by omega), rfl, ?_⟩
 conv => whnf
theorem z92 (cuts : List Int) (hl : cuts.length ≤ 1048576) : z6 PR zE8 [aIs cuts] (ab (z5H cuts)) [] 0 := by
 refine z6.intro hT (pf Tryz.func229) rfl (by kernel_rfl) Tryz.ntmps229 rfl ?_
 conv => whnf
 refine zB hT [0, 3] (α := Nat) (fun x => { t := [(0, aIs cuts), (3, ai (x + 1 : Nat))], h := [], n := 0, N := 27 })
  (fun x => (x + 1 ≤ cuts.length ∨ x = 0) ∧ ∀ (j : Nat) (a b : Int), j < x → cuts[j]? = some a → cuts[j + 1]? = some b → a < b) (fun x => cuts.length - x) 0 (by first | ((conv => whnf); done) | ((conv => whnf); rfl)) ⟨.inr rfl, fun j a b h => by omega⟩ ?_
 intro k ⟨hk, hr⟩
 conv => whnf
 refine zK (fun h1 => ?_) (fun h1 => ?_) <;> (conv => whnf) <;> simp only [eH] at h1
 ·obtain ⟨x, hx⟩ := zH (show k < cuts.length by omega)
  obtain ⟨y, hy⟩ := zH (show k + 1 < cuts.length by omega)
  have e1 : wSub .i64 ((k + 1 : Nat) : Int) 1 = (k : Int) := by rw [yB] <;> omega
  refine zO hT hmix [0, 3, 19] { t := [(0, aIs cuts), (3, ai (k + 1 : Nat)), (19, ab (iLe y x))], h := [], n := 0, N := 27 } rfl ?_ ?_
  ·repeat' first
    | (refine zR rfl ?_; (conv => whnf))
    | (refine zQ rfl ?_ ?_ <;> (conv => whnf))
    | (rw [e1]; (conv => whnf))
    | (refine zE (k := k + 1) rfl hy ?_; (conv => whnf))
    | (refine zE (k := k) rfl hx ?_; (conv => whnf))
    | (refine zP rfl ?_; (conv => whnf); done)
  conv => whnf
  refine zK (fun h2 => ?_) (fun h2 => ?_) <;> (conv => whnf) <;> simp only [eH] at h2
  ·rw [z3M (fun hc => by have := hc.1 k x y hx hy; omega)]
  ·refine ⟨k + 1, by omega, ⟨.inl (by omega), fun j a b hj ha hb => ?_⟩, ?_⟩
   ·rcases Nat.lt_or_ge j k with q | q
    ·exact hr j a b q ha hb
    ·obtain rfl : j = k := by omega
     rw [hx] at ha; rw [hy] at hb
     cases ha; cases hb
     omega
   ((conv => whnf); simp only [eS, wI (show k + 1 < cuts.length by omega) (by omega)])
 ·have hr2 : ∀ (j : Nat) (a b : Int), cuts[j]? = some a → cuts[j + 1]? = some b → a < b := fun j a b ha hb => hr j a b (by have := (List.getElem?_eq_some_iff.1 hb).1; omega) ha hb
  rw [show nInt (dLen (eL cI cuts)) = (cuts.length : Int) by simp]
  cases h7 : iLe (cuts.length : Int) 7
  ·conv => whnf
   simp at h7
   rw [z3M (fun hc => by have := hc.2.1; omega)]
  ·conv => whnf
   simp at h7
   refine .inl ⟨_, _, _, wZ cuts hl, rfl, ?_⟩
   conv => whnf
   rw [show z5H cuts = bNot (cuts.any fun x => bNot (decide (-2147483647 ≤ x ∧ x ≤ 2147483647))) from ?_]
   cases ha : cuts.any fun x => bNot (decide (-2147483647 ≤ x ∧ x ≤ 2147483647))
   ·refine z74 ⟨hr2, by omega, fun c hc => ?_⟩
    rw [List.any_eq_false] at ha
    have := ha c hc
    simp [bNot] at this
    exact ⟨by omega, by omega⟩
   ·refine z3M fun hc => ?_
    rw [List.any_eq_true] at ha
    obtain ⟨c, hc1, hc2⟩ := ha
    have := hc.2.2 c hc1
    simp [bNot] at hc2
    unfold decP at this
    omega
theorem z8j (cuts : List Int) (hl : cuts.length ≤ 1048576) : z6 PR zDh [aIs cuts] (ab (z5H cuts)) [] 0 := by
 refine z6.intro hT (pf Tryz.func278) rfl (by kernel_rfl) Tryz.ntmps278 rfl ?_
 conv => whnf
 refine zB hT [0, 3] (α := Nat) (fun x => { t := [(0, aIs cuts), (3, ai x)], h := [], n := 0, N := 35 })
  (fun x => x ≤ cuts.length ∧ (∀ (j : Nat) (a b : Int), j + 1 < x → cuts[j]? = some a → cuts[j + 1]? = some b → a < b) ∧ ∀ (j : Nat) (a : Int), j < x → cuts[j]? = some a → decP a) (fun x => cuts.length - x) 0 (by first | ((conv => whnf); done) | ((conv => whnf); rfl)) ⟨Nat.zero_le _, fun j a b h => by omega, fun j a h => by omega⟩ ?_
 intro k ⟨hk, hr, hd⟩
 conv => whnf
 refine zK (fun h1 => ?_) (fun h1 => ?_) <;> (conv => whnf) <;> simp only [eH] at h1
 ·obtain ⟨x, hx⟩ := zH (show k < cuts.length by omega)
  refine yR hT hmix (by kernel_rfl) ?_
  conv => whnf
  refine zE rfl hx ?_
  conv => whnf
  refine ⟨_, _, yh x, rfl, ?_⟩
  cases hd1 : decide (-2147483647 ≤ x ∧ x ≤ 2147483647)
  ·have hdx : ¬ decP x := by unfold decP; simpa using hd1
   conv => whnf
   repeat' (first | (refine And.intro (fun q => ?_) (fun q => ?_) <;> cases q <;> (conv => whnf)) | fail)
   rw [z3M (fun hc => hdx (hc.2.2 x (List.mem_of_getElem? hx)))]
  ·have hdx : decP x := by unfold decP; simpa using hd1
   have hd' : ∀ (j : Nat) (a : Int), j < k + 1 → cuts[j]? = some a → decP a := fun j a hj ha => by
    rcases Nat.lt_or_ge j k with q | q
    ·exact hd j a q ha
    ·obtain rfl : j = k := by omega
     rw [hx] at ha; cases ha; exact hdx
   conv => whnf
   cases k with
   | zero =>
    repeat' (first | (refine And.intro (fun q => ?_) (fun q => ?_) <;> cases q <;> (conv => whnf)) | fail)
    rw [show iLt 0 ((0 : Nat) : Int) = false from rfl]
    repeat' (first | (refine And.intro (fun q => ?_) (fun q => ?_) <;> cases q <;> (conv => whnf)) | fail)
    refine ⟨1, by omega, ⟨by omega, fun j a b h => by omega, hd'⟩, ?_⟩
    ((conv => whnf); simp only [eS])
    show wAdd .i64 ((0 : Nat) : Int) 1 = ((1 : Nat) : Int)
    rw [y1] <;> omega
   | succ i =>
    repeat' (first | (refine And.intro (fun q => ?_) (fun q => ?_) <;> cases q <;> (conv => whnf)) | fail)
    rw [show iLt 0 ((i + 1 : Nat) : Int) = true from decide_eq_true (by omega)]
    obtain ⟨y, hy⟩ := zH (show i < cuts.length by omega)
    have e1 : wSub .i64 ((i + 1 : Nat) : Int) 1 = (i : Int) := by rw [yB] <;> omega
    repeat' (first | (refine And.intro (fun q => ?_) (fun q => ?_) <;> cases q <;> (conv => whnf)) | fail)
    refine zE e1 hy ?_
    conv => whnf
    repeat' (first | (refine And.intro (fun q => ?_) (fun q => ?_) <;> cases q <;> (conv => whnf)) | fail)
    refine zE rfl hx ?_
    conv => whnf
    repeat' (first | (refine And.intro (fun q => ?_) (fun q => ?_) <;> cases q <;> (conv => whnf)) | fail)
    cases h3 : iLe x y
    ·simp at h3
     repeat' (first | (refine And.intro (fun q => ?_) (fun q => ?_) <;> cases q <;> (conv => whnf)) | fail)
     refine ⟨i + 1 + 1, by omega, ⟨by omega, fun j a b hj ha hb => ?_, hd'⟩, ?_⟩
     ·rcases Nat.lt_or_ge (j + 1) (i + 1) with q | q
      ·exact hr j a b q ha hb
      ·obtain rfl : j = i := by omega
       rw [hy] at ha; rw [hx] at hb
       cases ha; cases hb
       exact h3
     ((conv => whnf); simp only [eS, wI (show i + 1 < cuts.length by omega) (by omega)])
    ·simp at h3
     repeat' (first | (refine And.intro (fun q => ?_) (fun q => ?_) <;> cases q <;> (conv => whnf)) | fail)
     conv => whnf
     rw [z3M (fun hc => by have := hc.1 i y x hy hx; omega)]
 ·obtain rfl : k = cuts.length := by omega
  rw [show nInt (dLen (eL cI cuts)) = (cuts.length : Int) by simp]
  conv => whnf
  cases h7 : iLe (cuts.length : Int) 7
  ·simp at h7
   rw [z3M (fun hc => by have := hc.2.1; omega)]
  ·simp at h7
   rw [z74 ⟨fun j a b ha hb => hr j a b (by have := (List.getElem?_eq_some_iff.1 hb).1; omega) ha hb, by omega, fun c hc => by
    obtain ⟨j, hj⟩ := List.mem_iff_getElem?.1 hc
    exact hd j c (List.getElem?_eq_some_iff.1 hj).1 hj⟩]
def smG (g : Grd) : Prop := g.cuts.length ≤ 1048576 ∧ g.bins.length ≤ 1048576 ∧ (∀ c ∈ g.cuts, c.length ≤ 1048576) ∧ ∀ b ∈ g.bins, b.length ≤ 1048576
def zJ2 (g : Grd) (k : Nat) : Prop := ∀ c b, g.cuts[k]? = some c → g.bins[k]? = some b → zFV c ∧ b.length = yS g ∧ ∀ x ∈ b, 0 ≤ x ∧ x ≤ (c.length : Int)
def zDG (g : Grd) : Prop := (1 ≤ g.cuts.length ∧ g.cuts.length ≤ 4) ∧ g.bins.length = g.cuts.length ∧ (1 ≤ yS g ∧ yS g ≤ 40) ∧ ∀ k, zJ2 g k
noncomputable def z1q (g : Grd) : Bool := @decide (zDG g) (Classical.propDecidable _)
theorem z2I {g : Grd} (h : zDG g) : z1q g = true := by unfold z1q; exact @decide_eq_true _ (Classical.propDecidable _) h
theorem wm {g : Grd} (h : ¬ zDG g) : z1q g = false := by unfold z1q; exact @decide_eq_false _ (Classical.propDecidable _) h
theorem z4b {g : Grd} : z1q g = true ↔ zDG g := by
 constructor
 ·intro h
  rcases Classical.em (zDG g) with q | q
  ·exact q
  ·rw [wm q] at h; cases h
 ·exact z2I
theorem z6i (x : Int) (c : List Int) (hl : c.length ≤ 1048576) : z6 PR z4K [ai x, .c (.d (.rp [.sl 1 (eL cI c)]))] (ab (bNot (decide (0 ≤ x ∧ x ≤ (c.length : Int))))) [] 0 := by
 refine z6.intro hT (pf Tryz.func230) rfl (by kernel_rfl) Tryz.ntmps230 rfl ?_
 conv => whnf
 refine .inl ⟨_, _, _, zG _ _ _, rfl, ?_⟩
 conv => whnf
 rw [show nInt (dLen (eL cI c)) = (c.length : Int) by simp]
theorem z16 (g : Grd) (hg : smG g) : z6 PR zE6 [aG g] (ab (z1q g)) [] 0 := by
 obtain ⟨z1, z2, z3, z4⟩ := hg
 refine z6.intro hT (pf Tryz.func118) rfl (by kernel_rfl) Tryz.ntmps118 rfl ?_
 conv => whnf
 refine .inl ⟨_, _, _, zG _ _ _, rfl, ?_⟩
 conv => whnf
 rw [show nInt (dLen (eL cIs g.cuts)) = (g.cuts.length : Int) by simp]
 cases h1 : decide (1 ≤ (g.cuts.length : Int) ∧ (g.cuts.length : Int) ≤ 4)
 ·conv => whnf
  rw [decide_eq_false_iff_not] at h1
  rw [wm (fun hc => h1 ⟨by have := hc.1; omega, by have := hc.1; omega⟩)]
 rw [decide_eq_true_iff] at h1
 conv => whnf
 rw [show nInt (dLen (eL cIs g.bins)) = (g.bins.length : Int) by simp, show nInt (dLen (eL cIs g.cuts)) = (g.cuts.length : Int) by simp]
 cases h2 : iEq (g.bins.length : Int) (g.cuts.length : Int)
 ·conv => whnf
  rw [wm (fun hc => by have := hc.2.1; simp at h2; omega)]
 have h2 : g.bins.length = g.cuts.length := by simp at h2; omega
 conv => whnf
 refine .inl ⟨_, _, _, wM g, rfl, ?_⟩
 conv => whnf
 refine .inl ⟨_, _, _, zG _ _ _, rfl, ?_⟩
 conv => whnf
 cases h3 : decide (1 ≤ (yS g : Int) ∧ (yS g : Int) ≤ 40)
 ·conv => whnf
  rw [decide_eq_false_iff_not] at h3
  rw [wm (fun hc => h3 ⟨by have := hc.2.2.1; omega, by have := hc.2.2.1; omega⟩)]
 rw [decide_eq_true_iff] at h3
 conv => whnf
 refine zZ 0 ?_
 conv => whnf
 refine zB hT [1, 26, 27, 28] (α := Nat) (fun x => { t := [(1, .c (.d (.rp [.sl 1 (eL cIs g.cuts), .sl 1 (eL cIs g.bins)]))), (26, aIss g.cuts), (27, ai (nInt (dLen (eL cIs g.cuts)))), (28, ai x)], h := [], n := 0, N := 57 })
  (fun x => x ≤ g.cuts.length ∧ ∀ j, j < x → zJ2 g j) (fun x => g.cuts.length - x) 0 (by first | ((conv => whnf); done) | ((conv => whnf); rfl)) ⟨Nat.zero_le _, fun j h => by omega⟩ ?_
 intro k ⟨hk, hr⟩
 conv => whnf
 refine zK (fun h4 => ?_) (fun h4 => ?_) <;> (conv => whnf) <;> simp only [eH] at h4
 ·obtain ⟨c, hc⟩ := zH (show k < g.cuts.length by omega)
  obtain ⟨b, hb⟩ := zH (show k < g.bins.length by omega)
  refine zE rfl hc ?_
  conv => whnf
  have hcl := z3 c (List.mem_of_getElem? hc)
  have hbl := z4 b (List.mem_of_getElem? hb)
  refine zZ 0 ?_
  conv => whnf
  refine yR hT hmix (by kernel_rfl) ?_
  conv => whnf
  refine ⟨_, _, z92 c hcl, rfl, ?_⟩
  cases h5 : z5H c
  ·conv => whnf
   repeat' (first | (refine And.intro (fun q => ?_) (fun q => ?_) <;> cases q <;> (conv => whnf)) | fail)
   rw [wm (fun hp => by rw [z74 (hp.2.2.2 k c b hc hb).1] at h5; cases h5)]
  have h5' := zCb.1 h5
  conv => whnf
  repeat' (first | (refine And.intro (fun q => ?_) (fun q => ?_) <;> cases q <;> (conv => whnf)) | fail)
  refine zE rfl hb ?_
  conv => whnf
  repeat' (first | (refine And.intro (fun q => ?_) (fun q => ?_) <;> cases q <;> (conv => whnf)) | fail)
  refine ⟨_, _, wM g, rfl, ?_⟩
  conv => whnf
  repeat' (first | (refine And.intro (fun q => ?_) (fun q => ?_) <;> cases q <;> (conv => whnf)) | fail)
  rw [show nInt (dLen (eL cI b)) = (b.length : Int) by simp]
  cases h6 : iEq (b.length : Int) (yS g : Int)
  ·conv => whnf
   repeat' (first | (refine And.intro (fun q => ?_) (fun q => ?_) <;> cases q <;> (conv => whnf)) | fail)
   rw [wm (fun hp => by have := (hp.2.2.2 k c b hc hb).2.1; simp at h6; omega)]
  have h6' : b.length = yS g := by simp at h6; omega
  conv => whnf
  repeat' (first | (refine And.intro (fun q => ?_) (fun q => ?_) <;> cases q <;> (conv => whnf)) | fail)
  refine zE rfl hb ?_
  conv => whnf
  repeat' (first | (refine And.intro (fun q => ?_) (fun q => ?_) <;> cases q <;> (conv => whnf)) | fail)
  refine ⟨_, _, z0n b z4K (.rp [.sl 1 (eL cI c)]) (fun x => bNot (decide (0 ≤ x ∧ x ≤ (c.length : Int)))) (fun x _ => z6i x c hcl) (by omega), rfl, ?_⟩
  conv => whnf
  repeat' (first | (refine And.intro (fun q => ?_) (fun q => ?_) <;> cases q <;> (conv => whnf)) | fail)
  refine zK (fun h7 => ?_) (fun h7 => ?_) <;> (conv => whnf)
  ·rw [wm (fun hp => ?_)]
   rw [List.any_eq_true] at h7
   obtain ⟨x, hx1, hx2⟩ := h7
   have := (hp.2.2.2 k c b hc hb).2.2 x hx1
   simp [bNot] at hx2
   omega
  ·refine ⟨k + 1, by omega, ⟨by omega, fun j hj => ?_⟩, ?_⟩
   ·rcases Nat.lt_or_ge j k with q | q
    ·exact hr j q
    ·obtain rfl : j = k := by omega
     intro c' b' hc' hb'
     rw [hc] at hc'; rw [hb] at hb'
     cases hc'; cases hb'
     refine ⟨h5', h6', fun x hx => ?_⟩
     rw [List.any_eq_false] at h7
     have h7 := h7 x hx
     simp [bNot] at h7
     exact h7
   ((conv => whnf); simp only [eS, wI (show k < g.cuts.length by omega) (by omega)])
 ·obtain rfl : k = g.cuts.length := by omega
  rw [z2I ⟨by omega, h2, by omega, fun j => ?_⟩]
  rcases Nat.lt_or_ge j g.cuts.length with q | q
  ·exact hr j q
  ·intro c b hc
   rw [List.getElem?_eq_none q] at hc
   cases hc
theorem z12 (g : Grd) (hg : smG g) : z6 PR zDf [aG g] (ab (z1q g)) [] 0 := by
 obtain ⟨z1, z2, z3, z4⟩ := hg
 refine z6.intro hT (pf Tryz.func193) rfl (by kernel_rfl) Tryz.ntmps193 rfl ?_
 conv => whnf
 refine .inl ⟨_, _, _, zM _ _ _, rfl, ?_⟩
 conv => whnf
 rw [show nInt (dLen (eL cIs g.cuts)) = (g.cuts.length : Int) by simp]
 cases h1 : decide (1 ≤ (g.cuts.length : Int) ∧ (g.cuts.length : Int) ≤ 4)
 ·conv => whnf
  rw [decide_eq_false_iff_not] at h1
  rw [wm (fun hc => h1 ⟨by have := hc.1; omega, by have := hc.1; omega⟩)]
 rw [decide_eq_true_iff] at h1
 conv => whnf
 rw [show nInt (dLen (eL cIs g.bins)) = (g.bins.length : Int) by simp, show nInt (dLen (eL cIs g.cuts)) = (g.cuts.length : Int) by simp]
 cases h2 : iEq (g.bins.length : Int) (g.cuts.length : Int)
 ·conv => whnf
  rw [wm (fun hc => by have := hc.2.1; simp at h2; omega)]
 have h2 : g.bins.length = g.cuts.length := by simp at h2; omega
 conv => whnf
 refine .inl ⟨_, _, _, wx g, rfl, ?_⟩
 conv => whnf
 refine .inl ⟨_, _, _, zM _ _ _, rfl, ?_⟩
 conv => whnf
 cases h3 : decide (1 ≤ (yS g : Int) ∧ (yS g : Int) ≤ 40)
 ·conv => whnf
  rw [decide_eq_false_iff_not] at h3
  rw [wm (fun hc => h3 ⟨by have := hc.2.2.1; omega, by have := hc.2.2.1; omega⟩)]
 rw [decide_eq_true_iff] at h3
 conv => whnf
 refine zZ 0 ?_
 conv => whnf
 refine zB hT [1, 3] (α := Nat) (fun x => { t := [(1, .c (.d (.rp [.sl 1 (eL cIs g.cuts), .sl 1 (eL cIs g.bins)]))), (3, ai x)], h := [], n := 0, N := 76 })
  (fun x => x ≤ g.cuts.length ∧ ∀ j, j < x → zJ2 g j) (fun x => g.cuts.length - x) 0 (by first | ((conv => whnf); done) | ((conv => whnf); rfl)) ⟨Nat.zero_le _, fun j h => by omega⟩ ?_
 intro k ⟨hk, hr⟩
 conv => whnf
 rw [show nInt (dLen (eL cIs g.cuts)) = (g.cuts.length : Int) by simp]
 refine zK (fun h4 => ?_) (fun h4 => ?_) <;> (conv => whnf) <;> simp only [eH] at h4
 ·obtain ⟨c, hc⟩ := zH (show k < g.cuts.length by omega)
  obtain ⟨b, hb⟩ := zH (show k < g.bins.length by omega)
  have hcl := z3 c (List.mem_of_getElem? hc)
  have hbl := z4 b (List.mem_of_getElem? hb)
  refine yR hT hmix (by kernel_rfl) ?_
  conv => whnf
  refine zE rfl hc ?_
  conv => whnf
  refine ⟨_, _, z8j c hcl, rfl, ?_⟩
  cases h5 : z5H c
  ·conv => whnf
   repeat' (first | (refine And.intro (fun q => ?_) (fun q => ?_) <;> cases q <;> (conv => whnf)) | fail)
   rw [wm (fun hp => by rw [z74 (hp.2.2.2 k c b hc hb).1] at h5; cases h5)]
  have h5' := zCb.1 h5
  conv => whnf
  repeat' (first | (refine And.intro (fun q => ?_) (fun q => ?_) <;> cases q <;> (conv => whnf)) | fail)
  refine zE rfl hb ?_
  conv => whnf
  repeat' (first | (refine And.intro (fun q => ?_) (fun q => ?_) <;> cases q <;> (conv => whnf)) | fail)
  refine ⟨_, _, wx g, rfl, ?_⟩
  conv => whnf
  repeat' (first | (refine And.intro (fun q => ?_) (fun q => ?_) <;> cases q <;> (conv => whnf)) | fail)
  rw [show nInt (dLen (eL cI b)) = (b.length : Int) by simp]
  cases h6 : iEq (b.length : Int) (yS g : Int)
  ·conv => whnf
   repeat' (first | (refine And.intro (fun q => ?_) (fun q => ?_) <;> cases q <;> (conv => whnf)) | fail)
   rw [wm (fun hp => by have := (hp.2.2.2 k c b hc hb).2.1; simp at h6; omega)]
  have h6' : b.length = yS g := by simp at h6; omega
  conv => whnf
  repeat' (first | (refine And.intro (fun q => ?_) (fun q => ?_) <;> cases q <;> (conv => whnf)) | fail)
  refine zB hT [1, 3, 4] (α := Nat) (fun x => { t := [(1, .c (.d (.rp [.sl 1 (eL cIs g.cuts), .sl 1 (eL cIs g.bins)]))), (3, ai k), (4, ai x)], h := [], n := 0, N := 76 })
   (fun x => x ≤ b.length ∧ ∀ (j : Nat) (y : Int), j < x → b[j]? = some y → 0 ≤ y ∧ y ≤ (c.length : Int)) (fun x => b.length - x) 0 (by first | ((conv => whnf); done) | ((conv => whnf); rfl)) ⟨Nat.zero_le _, fun j y h => by omega⟩ ?_
  intro i ⟨hi, hq⟩
  conv => whnf
  refine zE rfl hb ?_
  conv => whnf
  rw [show nInt (dLen (eL cI b)) = (b.length : Int) by simp]
  refine zK (fun h7 => ?_) (fun h7 => ?_) <;> (conv => whnf) <;> simp only [eH] at h7
  ·obtain ⟨y, hy⟩ := zH (show i < b.length by omega)
   refine yR hT hmix (by kernel_rfl) ?_
   conv => whnf
   refine zE rfl hb ?_
   conv => whnf
   refine zE rfl hy ?_
   conv => whnf
   refine zE rfl hc ?_
   conv => whnf
   refine ⟨_, _, zM _ _ _, rfl, ?_⟩
   conv => whnf
   rw [show nInt (dLen (eL cI c)) = (c.length : Int) by simp]
   cases h8 : decide (0 ≤ y ∧ y ≤ (c.length : Int))
   ·conv => whnf
    rw [decide_eq_false_iff_not] at h8
    rw [wm (fun hp => h8 ((hp.2.2.2 k c b hc hb).2.2 y (List.mem_of_getElem? hy)))]
   ·rw [decide_eq_true_iff] at h8
    conv => whnf
    refine ⟨i + 1, by omega, ⟨by omega, fun j x hj hx => ?_⟩, ?_⟩
    ·rcases Nat.lt_or_ge j i with q | q
     ·exact hq j x q hx
     ·obtain rfl : j = i := by omega
      rw [hy] at hx; cases hx; exact h8
    ((conv => whnf); simp only [eS, wI (show i < b.length by omega) (by omega)])
  ·refine ⟨k + 1, by omega, ⟨by omega, fun j hj => ?_⟩, ?_⟩
   ·rcases Nat.lt_or_ge j k with q | q
    ·exact hr j q
    ·obtain rfl : j = k := by omega
     intro c' b' hc' hb'
     rw [hc] at hc'; rw [hb] at hb'
     cases hc'; cases hb'
     refine ⟨h5', h6', fun x hx => ?_⟩
     obtain ⟨j', hj'⟩ := List.mem_iff_getElem?.1 hx
     exact hq j' x (by have := (List.getElem?_eq_some_iff.1 hj').1; omega) hj'
   ((conv => whnf); simp only [eS, wI (show k < g.cuts.length by omega) (by omega)])
 ·obtain rfl : k = g.cuts.length := by omega
  rw [z2I ⟨by omega, h2, by omega, fun j => ?_⟩]
  rcases Nat.lt_or_ge j g.cuts.length with q | q
  ·exact hr j q
  ·intro c b hc
   rw [List.getElem?_eq_none q] at hc
   cases hc
theorem zC7 {t : List Nd} {ft : Int} (h : yZ t ft = true) : yC t ft = true ∧ 1 ≤ t.length ∧ t.length ≤ 31 := by
 simp only [yZ, Bool.and_eq_true, decide_eq_true_eq] at h
 exact ⟨h.2.2.1, by omega, by omega⟩
theorem zCB (t : List Nd) : ∀ (n : Nat) (x : Int) (l : List Int), yN t n x = some l → ∀ (j : Nat) (a b : Int), l[j]? = some a → l[j + 1]? = some b → 0 ≤ up t a ∧ b = up t a
 | 0, x, l, h => by simp [yN] at h
 | n + 1, x, l, h => by
  simp only [yN, Option.map_eq_some_iff] at h
  obtain ⟨r, h1, rfl⟩ := h
  intro j a b ha hb
  split at h1
  ·cases h1; simp at hb
  ·rename_i hq
   cases j with
   | zero =>
    simp at ha hb
    subst ha
    refine ⟨by omega, ?_⟩
    cases n with
    | zero => simp [yN] at h1
    | succ n =>
     simp only [yN, Option.map_eq_some_iff] at h1
     obtain ⟨r', h2, rfl⟩ := h1
     simpa using hb.symm
   | succ j => exact zCB t n _ r h1 j a b (by simpa using ha) (by simpa using hb)
theorem zGZ {t : List Nd} {ft : Int} (h : yC t ft = true) {x : Int} {i : Nat} {z z' : Int} (hz : (wayL t x)[i]? = some z) (hz' : (wayL t x)[i + 1]? = some z') :
  ∃ (j : Nat) (n : Nd), z = (j : Int) ∧ t[j]? = some n ∧ n.f ≠ -1 ∧ (n.l = z' ∨ n.r = z') := by
 unfold wayL at hz hz'
 split at hz
 ·rename_i hx
  rw [if_pos hx] at hz'
  split at hz
  ·rename_i l hl
   rw [hl] at hz'
   have hi := (List.getElem?_eq_some_iff.1 hz').1
   rw [List.length_reverse] at hi
   rw [List.getElem?_reverse (by omega)] at hz hz'
   have := zCB t 32 x l hl (l.length - 1 - (i + 1)) z' z hz' (by rw [show l.length - 1 - (i + 1) + 1 = l.length - 1 - i by omega]; exact hz)
   obtain ⟨j, n, h1, h2, h3, h4, _⟩ := zI0 h this.1
   exact ⟨j, n, by rw [this.2, h1], h2, h3, h4⟩
  ·cases hz
 ·cases hz
theorem z8T (n : Int) : (zx n).length ≤ 40 := by
 unfold zx
 split
 ·simp [upTo]; omega
 ·simp
def z54 (g : Grd) (t : List Nd) (rows : List Int) (z z' : Int) : List Int := match t[z.toNat]? with
 | none => rows
 | some n => match g.cuts[n.f.toNat]?, g.bins[n.f.toNat]? with
  | some c, some b => if n.l = z' then (zp b rows (y7 c n.c)).1 else (zp b rows (y7 c n.c)).2
  | _, _ => rows
def z41 (g : Grd) (t : List Nd) : List Int → List Int → List Int
 | rows, z :: z' :: w => z41 g t (z54 g t rows z z') (z' :: w)
 | rows, [_] => rows
 | rows, [] => rows
def yx (g : Grd) (t : List Nd) (node : Int) : List Int := z41 g t (zx (yS g)) (wayL t node)
noncomputable def z2n (g : Grd) (t : List Nd) (node : Int) : List Int := if z1q g = true ∧ yZ t g.cuts.length = true ∧ 0 ≤ node ∧ node ≤ (t.length : Int) - 1 then yx g t node else []
theorem zF0 {g : Grd} {t : List Nd} {rows w : List Int} {i : Nat} {z z' : Int} (h : w[i]? = some z) (h' : w[i + 1]? = some z') : z41 g t rows (w.drop i) = z41 g t (z54 g t rows z z') (w.drop (i + 1)) := by
 rw [zy h, zy h', z41]
theorem zF1 {g : Grd} {t : List Nd} {rows w : List Int} {i : Nat} (h : ¬ i + 1 < w.length) : z41 g t rows (w.drop i) = rows := by
 have : (w.drop i).length ≤ 1 := by simp; omega
 match hd : w.drop i, this with
 | [], _ => rw [z41]
 | [x], _ => rw [z41]
theorem z6Y (g : Grd) (t : List Nd) (node : Int) (hg : smG g) (hl : t.length ≤ 1048576) (h1 : z1q g = true) (h2 : yZ t g.cuts.length = true) :
  z6 PR zAe [aG g, aT t, ai node] (.c (.ref 0 0 none)) [(0, .arr zW 1 0 .own (eL cI (yx g t node)))] 1 := by
 obtain ⟨z1, z2, z3, z4⟩ := hg
 have hG := z4b.1 h1
 have hS := (zC7 h2).1
 refine z6.intro hT (pf Tryz.func95) rfl (by kernel_rfl) Tryz.ntmps95 rfl ?_
 conv => whnf
 refine zZ 0 ?_
 conv => whnf
 refine zZ 1 ?_
 conv => whnf
 refine zO hT hmix [3, 4, 7, 8] { t := [(3, .c (.d (.rp [.sl 1 (eL cIs g.cuts), .sl 1 (eL cIs g.bins)]))), (4, .c (.d (.rp [.sl 5 (eL cN t)]))), (7, .c (.ref 0 0 none)), (8, .c (.ref 1 0 none))], h := [(0, .arr zW 1 0 .own (eL cI (zx (yS g)))), (1, .arr zW 1 0 .own (eL cI (wayL t node)))], n := 2, N := 65 } rfl ?_ ?_
 ·repeat' first
   | (refine zR rfl ?_; (conv => whnf))
   | (refine zQ rfl ?_ ?_ <;> (conv => whnf))
   | (refine .inl ⟨_, _, _, wM g, rfl, ?_⟩; (conv => whnf))
   | (refine .inl ⟨_, _, _, z7r _, rfl, ?_⟩; (conv => whnf))
   | (refine .inl ⟨_, _, _, z1l t node (by omega), rfl, ?_⟩; (conv => whnf))
   | (refine zP rfl ?_; (conv => whnf); first | done | (simp only [z7]; done) | (simp only [z7]; rfl))
 conv => whnf
 refine zB hT [3, 4, 7, 8, 9] (α := Nat × List Int) (fun x => { t := [(3, .c (.d (.rp [.sl 1 (eL cIs g.cuts), .sl 1 (eL cIs g.bins)]))), (4, .c (.d (.rp [.sl 5 (eL cN t)]))), (7, .c (.ref 0 0 none)), (8, .c (.ref 1 0 none)), (9, ai x.1)], h := [(0, .arr zW 1 0 .own (eL cI x.2)), (1, .arr zW 1 0 .own (eL cI (wayL t node)))], n := 2, N := 65 })
  (fun x => (x.1 + 1 ≤ (wayL t node).length ∨ x.1 = 0) ∧ x.2.length ≤ 1048576 ∧ z41 g t x.2 ((wayL t node).drop x.1) = yx g t node) (fun x => (wayL t node).length - x.1) (0, zx (yS g)) (by first | ((conv => whnf); done) | ((conv => whnf); rfl)) ⟨.inr rfl, by have := z8T (yS g); dsimp only; omega, rfl⟩ ?_
 intro ⟨k, rs⟩ ⟨hk, hr, hw⟩
 dsimp only at hk hr hw
 have hwl := zCi t node
 conv => whnf
 rw [show wAdd .i64 (k : Int) 1 = ((k + 1 : Nat) : Int) from by rw [y1] <;> omega]
 refine zK (fun h3 => ?_) (fun h3 => ?_) <;> (conv => whnf) <;> simp only [eH, z0C] at h3
 ·obtain ⟨z, hz⟩ := zH (show k < (wayL t node).length by omega)
  obtain ⟨z', hz'⟩ := zH (show k + 1 < (wayL t node).length by omega)
  obtain ⟨j, n, rfl, hn, hf, hlr⟩ := zGZ hS hz hz'
  obtain ⟨k1, k2, k3, k4, k5, k6, k7, k8⟩ := w6 hS hn hf
  obtain ⟨c, hc⟩ := zH (show n.f.toNat < g.cuts.length by omega)
  obtain ⟨b, hb⟩ := zH (show n.f.toNat < g.bins.length by have := hG.2.1; omega)
  have hcl := z3 c (List.mem_of_getElem? hc)
  have hbl := z4 b (List.mem_of_getElem? hb)
  have hfn : n.f = (n.f.toNat : Int) := by omega
  rw [zF0 hz hz'] at hw
  have hst : z54 g t rs (j : Int) z' = if n.l = z' then (zp b rs (y7 c n.c)).1 else (zp b rs (y7 c n.c)).2 := by simp only [z54, Int.toNat_natCast, hn, hc, hb]
  have hsl := z0e b rs (y7 c n.c)
  refine zO hT hmix [3, 4, 7, 8, 9, 10] { t := [(3, .c (.d (.rp [.sl 1 (eL cIs g.cuts), .sl 1 (eL cIs g.bins)]))), (4, .c (.d (.rp [.sl 5 (eL cN t)]))), (7, .c (.ref 0 0 none)), (8, .c (.ref 1 0 none)), (9, ai k), (10, .c (.ptr 2 0))], h := [(0, .arr zW 1 0 .own (eL cI rs)), (1, .arr zW 1 0 .own (eL cI (wayL t node))), (2, .box zn (cNd n))], n := 3, N := 65 } rfl ?_ ?_
  ·repeat' first
    | (refine zR rfl ?_; (conv => whnf))
    | (refine zQ rfl ?_ ?_ <;> (conv => whnf))
    | (refine zC rfl ?_ ?_ ?_ <;> (conv => whnf))
    | (refine yF (k := k) rfl (by first | omega | (simp only [zF]; omega) | (simp; omega)) ?_; (conv => whnf))
    | (refine wK (by simp) hz ?_; (conv => whnf))
    | (refine zE (k := j) rfl hn ?_; (conv => whnf))
    | (refine zP rfl ?_; (conv => whnf); first | done | (simp only [z7]; done) | (simp only [z7]; rfl))
  conv => whnf
  refine zZ 2 ?_
  conv => whnf
  refine zO hT hmix [3, 4, 8, 9, 10, 11, 12] { t := [(3, .c (.d (.rp [.sl 1 (eL cIs g.cuts), .sl 1 (eL cIs g.bins)]))), (4, .c (.d (.rp [.sl 5 (eL cN t)]))), (8, .c (.ref 0 0 none)), (9, ai k), (10, .c (.d (.rp (cN n)))), (11, .c (.ref 1 0 none)), (12, .c (.ref 2 0 none))], h := [(0, .arr zW 1 0 .own (eL cI (wayL t node))), (1, .arr zW 1 0 .own (eL cI (zp b rs (y7 c n.c)).1)), (2, .arr zW 1 0 .own (eL cI (zp b rs (y7 c n.c)).2))], n := 3, N := 65 } rfl ?_ ?_
  ·repeat' first
    | (refine zR rfl ?_; (conv => whnf))
    | (refine zQ rfl ?_ ?_ <;> (conv => whnf))
    | (refine zC rfl ?_ ?_ ?_ <;> (conv => whnf))
    | (refine zE hfn hc ?_; (conv => whnf))
    | (refine zE hfn hb ?_; (conv => whnf))
    | (refine .inl ⟨_, _, _, z48 c n.c hcl, rfl, ?_⟩; (conv => whnf))
    | (refine .inl ⟨_, _, _, z5h b rs (y7 c n.c) hbl hr, rfl, ?_⟩; (conv => whnf))
    | (refine zP rfl ?_; (conv => whnf); first | done | (simp only [z7]; done) | (simp only [z7]; rfl))
  conv => whnf
  refine zO hT hmix [3, 4, 8, 9, 11, 12, 61] { t := [(3, .c (.d (.rp [.sl 1 (eL cIs g.cuts), .sl 1 (eL cIs g.bins)]))), (4, .c (.d (.rp [.sl 5 (eL cN t)]))), (8, .c (.ref 0 0 none)), (9, ai k), (11, .c (.ref 1 0 none)), (12, .c (.ref 2 0 none)), (61, ab (iEq z' n.l))], h := [(0, .arr zW 1 0 .own (eL cI (wayL t node))), (1, .arr zW 1 0 .own (eL cI (zp b rs (y7 c n.c)).1)), (2, .arr zW 1 0 .own (eL cI (zp b rs (y7 c n.c)).2))], n := 3, N := 65 } rfl ?_ ?_
  ·repeat' first
    | (refine zR rfl ?_; (conv => whnf))
    | (refine zQ rfl ?_ ?_ <;> (conv => whnf))
    | (refine zC rfl ?_ ?_ ?_ <;> (conv => whnf))
    | (refine yF (k := k + 1) (by rw [y1] <;> omega) (by first | omega | (simp only [zF]; omega) | (simp; omega)) ?_; (conv => whnf))
    | (refine wK (by first | rfl | (rw [y1] <;> first | omega | (simp <;> omega))) hz' ?_; (conv => whnf))
    | (refine zP rfl ?_; (conv => whnf); first | done | (simp only [z7]; done) | (simp only [z7]; rfl))
  conv => whnf
  refine zK (fun h4 => ?_) (fun h4 => ?_) <;> (conv => whnf) <;> simp only [eH] at h4
  ·rw [hst, if_pos h4.symm] at hw
   refine ⟨(k + 1, (zp b rs (y7 c n.c)).1), by dsimp only; omega, ⟨by dsimp only; omega, by dsimp only; omega, hw⟩, ?_⟩
   ((conv => whnf); simp only [eS, wI (show k < 32 by omega) (by omega), z7])
  ·rw [hst, if_neg (fun q => h4 q.symm)] at hw
   refine ⟨(k + 1, (zp b rs (y7 c n.c)).2), by dsimp only; omega, ⟨by dsimp only; omega, by dsimp only; omega, hw⟩, ?_⟩
   ((conv => whnf); simp only [eS, wI (show k < 32 by omega) (by omega), z7])
 ·rw [zF1 (by omega)] at hw
  ((conv => whnf); simp only [eS, hw])
theorem z0B {g : Grd} {t : List Nd} {node : Int} (h : ¬ (z1q g = true ∧ yZ t g.cuts.length = true ∧ 0 ≤ node ∧ node ≤ (t.length : Int) - 1)) : z2n g t node = [] := if_neg h
theorem z6N {g : Grd} {t : List Nd} {node : Int} (h : z1q g = true ∧ yZ t g.cuts.length = true ∧ 0 ≤ node ∧ node ≤ (t.length : Int) - 1) : z2n g t node = yx g t node := if_pos h
theorem z6e (g : Grd) (t : List Nd) (node : Int) (hg : smG g) (hl : t.length ≤ 1048576) :
  z6 PR zAh [aG g, aT t, ai node] (.c (.ref 0 0 none)) [(0, .arr zW 1 0 .own (eL cI (z2n g t node)))] 1 := by
 have z1 := hg.1
 refine z6.intro hT (pf Tryz.func35) rfl (by kernel_rfl) Tryz.ntmps35 rfl ?_
 conv => whnf
 refine .inl ⟨_, _, _, z16 g hg, rfl, ?_⟩
 cases h1 : z1q g
 ·conv => whnf
  rw [z0B (fun q => by rw [h1] at q; exact absurd q.1 (by simp)), zg]
 conv => whnf
 refine .inl ⟨_, _, _, z3Y t (nInt (dLen (eL cIs g.cuts))) hl, rfl, ?_⟩
 rw [show nInt (dLen (eL cIs g.cuts)) = (g.cuts.length : Int) by simp]
 cases h2 : yZ t g.cuts.length
 ·conv => whnf
  rw [z0B (fun q => by rw [h2] at q; exact absurd q.2.1 (by simp)), zg]
 conv => whnf
 refine .inl ⟨_, _, _, zG _ _ _, rfl, ?_⟩
 conv => whnf
 rw [show wSub .i64 (nInt (dLen (eL cN t))) 1 = (t.length : Int) - 1 from by rw [show nInt (dLen (eL cN t)) = (t.length : Int) by simp, yB] <;> omega]
 cases h3 : decide (0 ≤ node ∧ node ≤ (t.length : Int) - 1)
 ·conv => whnf
  rw [decide_eq_false_iff_not] at h3
  rw [z0B (fun q => h3 q.2.2), zg]
 rw [decide_eq_true_iff] at h3
 rw [z6N ⟨h1, h2, h3⟩]
 conv => whnf
 refine .inl ⟨_, _, _, z6Y g t node hg hl h1 h2, rfl, ?_⟩
 conv => whnf
theorem z68 (g : Grd) (t : List Nd) (node : Int) (hg : smG g) (hl : t.length ≤ 1048576) :
  z6 PR zAV [aG g, aT t, ai node] (.c (.ref 0 0 none)) [(0, .arr zW 1 0 .own (eL cI (z2n g t node)))] 1 := by
 have hg' := hg
 obtain ⟨z1, z2, z3, z4⟩ := hg
 refine z6.intro hT (pf Tryz.func78) rfl (by kernel_rfl) Tryz.ntmps78 rfl ?_
 conv => whnf
 refine .inl ⟨_, _, _, z12 g hg', rfl, ?_⟩
 cases h1 : z1q g
 ·conv => whnf
  rw [z0B (fun q => by rw [h1] at q; exact absurd q.1 (by simp)), zg]
 conv => whnf
 refine .inl ⟨_, _, _, z11 t (nInt (dLen (eL cIs g.cuts))) hl, rfl, ?_⟩
 rw [show nInt (dLen (eL cIs g.cuts)) = (g.cuts.length : Int) by simp]
 cases h2 : yZ t g.cuts.length
 ·conv => whnf
  rw [z0B (fun q => by rw [h2] at q; exact absurd q.2.1 (by simp)), zg]
 conv => whnf
 refine .inl ⟨_, _, _, zM _ _ _, rfl, ?_⟩
 conv => whnf
 rw [show wSub .i64 (nInt (dLen (eL cN t))) 1 = (t.length : Int) - 1 from by rw [show nInt (dLen (eL cN t)) = (t.length : Int) by simp, yB] <;> omega]
 cases h3 : decide (0 ≤ node ∧ node ≤ (t.length : Int) - 1)
 ·conv => whnf
  rw [decide_eq_false_iff_not] at h3
  rw [z0B (fun q => h3 q.2.2), zg]
 rw [decide_eq_true_iff] at h3
 rw [z6N ⟨h1, h2, h3⟩]
 have hG := z4b.1 h1
 have hS := (zC7 h2).1
 conv => whnf
 refine .inl ⟨_, _, _, wx g, rfl, ?_⟩
 conv => whnf
 refine .inl ⟨_, _, _, z7Q _, rfl, ?_⟩
 conv => whnf
 refine .inl ⟨_, _, _, z9m t node (by omega), rfl, ?_⟩
 conv => whnf
 refine zZ 0 ?_
 conv => whnf
 refine zZ 1 ?_
 conv => whnf
 refine zB hT [3, 4, 7, 8, 9] (α := Nat × List Int) (fun x => { t := [(3, .c (.d (.rp [.sl 1 (eL cIs g.cuts), .sl 1 (eL cIs g.bins)]))), (4, .c (.d (.rp [.sl 5 (eL cN t)]))), (7, .c (.ref 0 0 none)), (8, .c (.ref 1 0 none)), (9, ai x.1)], h := [(0, .arr zW 1 0 .own (eL cI x.2)), (1, .arr zW 1 0 .own (eL cI (wayL t node)))], n := 2, N := 86 })
  (fun x => (x.1 + 1 ≤ (wayL t node).length ∨ x.1 = 0) ∧ x.2.length ≤ 1048576 ∧ z41 g t x.2 ((wayL t node).drop x.1) = yx g t node) (fun x => (wayL t node).length - x.1) (0, zx (yS g)) (by first | ((conv => whnf); done) | ((conv => whnf); rfl)) ⟨.inr rfl, by have := z8T (yS g); dsimp only; omega, rfl⟩ ?_
 intro ⟨k, rs⟩ ⟨hk, hr, hw⟩
 dsimp only at hk hr hw
 have hwl := zCi t node
 conv => whnf
 rw [show wAdd .i64 (k : Int) 1 = ((k + 1 : Nat) : Int) from by rw [y1] <;> omega]
 refine zK (fun h3 => ?_) (fun h3 => ?_) <;> (conv => whnf) <;> simp only [eH, z0C] at h3
 ·obtain ⟨z, hz⟩ := zH (show k < (wayL t node).length by omega)
  obtain ⟨z', hz'⟩ := zH (show k + 1 < (wayL t node).length by omega)
  obtain ⟨j, n, rfl, hn, hf, hlr⟩ := zGZ hS hz hz'
  obtain ⟨k1, k2, k3, k4, k5, k6, k7, k8⟩ := w6 hS hn hf
  obtain ⟨c, hc⟩ := zH (show n.f.toNat < g.cuts.length by omega)
  obtain ⟨b, hb⟩ := zH (show n.f.toNat < g.bins.length by have := hG.2.1; omega)
  have hcl := z3 c (List.mem_of_getElem? hc)
  have hbl := z4 b (List.mem_of_getElem? hb)
  have hfn : n.f = (n.f.toNat : Int) := by omega
  rw [zF0 hz hz'] at hw
  have hst : z54 g t rs (j : Int) z' = if n.l = z' then (zp b rs (y7 c n.c)).1 else (zp b rs (y7 c n.c)).2 := by simp only [z54, Int.toNat_natCast, hn, hc, hb]
  have hsl := z0e b rs (y7 c n.c)
  refine zO hT hmix [3, 4, 7, 8, 9, 10] { t := [(3, .c (.d (.rp [.sl 1 (eL cIs g.cuts), .sl 1 (eL cIs g.bins)]))), (4, .c (.d (.rp [.sl 5 (eL cN t)]))), (7, .c (.ref 0 0 none)), (8, .c (.ref 1 0 none)), (9, ai k), (10, .c (.ptr 2 0))], h := [(0, .arr zW 1 0 .own (eL cI rs)), (1, .arr zW 1 0 .own (eL cI (wayL t node))), (2, .box zn (cNd n))], n := 3, N := 86 } rfl ?_ ?_
  ·repeat' first
    | (refine zR rfl ?_; (conv => whnf))
    | (refine zQ rfl ?_ ?_ <;> (conv => whnf))
    | (refine zC rfl ?_ ?_ ?_ <;> (conv => whnf))
    | (refine yF (k := k) rfl (by first | omega | (simp only [zF]; omega) | (simp; omega)) ?_; (conv => whnf))
    | (refine wK (by simp) hz ?_; (conv => whnf))
    | (refine zE (k := j) rfl hn ?_; (conv => whnf))
    | (refine zP rfl ?_; (conv => whnf); first | done | (simp only [z7]; done) | (simp only [z7]; rfl))
  conv => whnf
  refine zZ 2 ?_
  conv => whnf
  refine zO hT hmix [3, 4, 8, 9, 10, 11, 12] { t := [(3, .c (.d (.rp [.sl 1 (eL cIs g.cuts), .sl 1 (eL cIs g.bins)]))), (4, .c (.d (.rp [.sl 5 (eL cN t)]))), (8, .c (.ref 0 0 none)), (9, ai k), (10, .c (.d (.rp (cN n)))), (11, .c (.ref 1 0 none)), (12, .c (.ref 2 0 none))], h := [(0, .arr zW 1 0 .own (eL cI (wayL t node))), (1, .arr zW 1 0 .own (eL cI (zp b rs (y7 c n.c)).1)), (2, .arr zW 1 0 .own (eL cI (zp b rs (y7 c n.c)).2))], n := 3, N := 86 } rfl ?_ ?_
  ·repeat' first
    | (refine zR rfl ?_; (conv => whnf))
    | (refine zQ rfl ?_ ?_ <;> (conv => whnf))
    | (refine zC rfl ?_ ?_ ?_ <;> (conv => whnf))
    | (refine zE hfn hc ?_; (conv => whnf))
    | (refine zE hfn hb ?_; (conv => whnf))
    | (refine .inl ⟨_, _, _, z3t c n.c hcl, rfl, ?_⟩; (conv => whnf))
    | (refine .inl ⟨_, _, _, z5T b rs (y7 c n.c) hbl hr, rfl, ?_⟩; (conv => whnf))
    | (refine zP rfl ?_; (conv => whnf); first | done | (simp only [z7]; done) | (simp only [z7]; rfl))
  conv => whnf
  refine zO hT hmix [3, 4, 7, 8, 9, 11, 83] { t := [(3, .c (.d (.rp [.sl 1 (eL cIs g.cuts), .sl 1 (eL cIs g.bins)]))), (4, .c (.d (.rp [.sl 5 (eL cN t)]))), (7, .c (.ref 0 0 none)), (8, .c (.ref 1 0 none)), (9, ai k), (11, .c (.ref 2 0 none)), (83, ab (iEq n.l z'))], h := [(0, .arr zW 1 0 .own (eL cI (zp b rs (y7 c n.c)).2)), (1, .arr zW 1 0 .own (eL cI (wayL t node))), (2, .arr zW 1 0 .own (eL cI (zp b rs (y7 c n.c)).1))], n := 3, N := 86 } rfl ?_ ?_
  ·repeat' first
    | (refine zR rfl ?_; (conv => whnf))
    | (refine zQ rfl ?_ ?_ <;> (conv => whnf))
    | (refine zC rfl ?_ ?_ ?_ <;> (conv => whnf))
    | (refine yF (k := k + 1) (by rw [y1] <;> omega) (by first | omega | (simp only [zF]; omega) | (simp; omega)) ?_; (conv => whnf))
    | (refine wK (by first | rfl | (rw [y1] <;> first | omega | (simp <;> omega))) hz' ?_; (conv => whnf))
    | (refine zP rfl ?_; (conv => whnf); first | done | (simp only [z7]; done) | (simp only [z7]; rfl))
  conv => whnf
  refine zK (fun h4 => ?_) (fun h4 => ?_) <;> (conv => whnf) <;> simp only [eH] at h4
  ·rw [hst, if_pos h4] at hw
   refine ⟨(k + 1, (zp b rs (y7 c n.c)).1), by dsimp only; omega, ⟨by dsimp only; omega, by dsimp only; omega, hw⟩, ?_⟩
   ((conv => whnf); simp only [eS, wI (show k < 32 by omega) (by omega), z7])
  ·rw [hst, if_neg h4] at hw
   refine ⟨(k + 1, (zp b rs (y7 c n.c)).2), by dsimp only; omega, ⟨by dsimp only; omega, by dsimp only; omega, hw⟩, ?_⟩
   ((conv => whnf); simp only [eS, wI (show k < 32 by omega) (by omega), z7])
 ·rw [zF1 (by omega)] at hw
  ((conv => whnf); simp only [eS, hw])
end Go.H.S
namespace Go.H.S
open Go Go.Proofs Go.H
theorem zGT : ∀ (m n : Nat), 2 * (m &&& n) + (m ^^^ n) = m + n := by
 intro m
 induction m using Nat.strongRecOn with
 | ind m ih =>
  intro n
  rcases Nat.eq_zero_or_pos m with rfl | hm
  ·simp
  ·have h := ih (m / 2) (by omega) (n / 2)
   have h1 : (m &&& n) / 2 = m / 2 &&& n / 2 := Nat.and_div_two
   have h2 : (m ^^^ n) / 2 = m / 2 ^^^ n / 2 := Nat.xor_div_two
   have h3 : (m &&& n) % 2 = 1 ↔ m % 2 = 1 ∧ n % 2 = 1 := Nat.and_mod_two_eq_one
   have h4 : (m ^^^ n) % 2 = (m + n) % 2 := by
    have h5 := Nat.xor_mod_two_pow (a := m) (b := n) (n := 1)
    rw [show 2 ^ 1 = 2 from rfl] at h5
    rw [h5, Nat.add_mod]
    have a1 : m % 2 = 0 ∨ m % 2 = 1 := by omega
    have a2 : n % 2 = 0 ∨ n % 2 = 1 := by omega
    rcases a1 with a1 | a1 <;> rcases a2 with a2 | a2 <;> rw [a1, a2] <;> rfl
   rw [← h1, ← h2] at h
   omega
theorem zGU (x y : BitVec 64) : 2 * (x &&& y).toInt + (x ^^^ y).toInt = x.toInt + y.toInt := by
 have h := zGT x.toNat y.toNat
 rw [BitVec.toInt_eq_msb_cond, BitVec.toInt_eq_msb_cond, BitVec.toInt_eq_msb_cond, BitVec.toInt_eq_msb_cond, BitVec.msb_and, BitVec.msb_xor, BitVec.toNat_and, BitVec.toNat_xor]
 cases hx : x.msb <;> cases hy : y.msb <;> simp <;> omega
theorem zGV (x y : BitVec 64) : (x &&& y &&& 1#64).toInt = if x.toInt % 2 = 1 ∧ y.toInt % 2 = 1 then 1 else 0 := by
 have e : (x &&& y &&& 1#64).toNat = (x.toNat &&& y.toNat) % 2 := by
  rw [BitVec.toNat_and, BitVec.toNat_and]
  exact Nat.and_one_is_mod _
 have h3 : (x.toNat &&& y.toNat) % 2 = 1 ↔ x.toNat % 2 = 1 ∧ y.toNat % 2 = 1 := Nat.and_mod_two_eq_one
 have o : ∀ z : BitVec 64, z.toInt % 2 = (z.toNat % 2 : Nat) := fun z => by
  rw [BitVec.toInt_eq_toNat_cond]; split <;> omega
 rw [BitVec.toInt_eq_toNat_cond, e, o x, o y]
 by_cases q : x.toNat % 2 = 1 ∧ y.toNat % 2 = 1
 ·rw [if_pos (by omega : ((x.toNat % 2 : Nat) : Int) = 1 ∧ ((y.toNat % 2 : Nat) : Int) = 1), h3.2 q]; rfl
 ·have : (x.toNat &&& y.toNat) % 2 = 0 := by have := (not_congr h3).2 q; omega
  rw [this]
  rw [if_pos (by decide), if_neg]
  ·rfl
  ·omega
theorem zJt {n : Nat} (h : n < 18446744073709551616) : IntKind.i64.wrap (n : Int) = if 2 * n < 18446744073709551616 then (n : Int) else (n : Int) - 18446744073709551616 := by
 show (if (true && decide ((n : Int) % 18446744073709551616 ≥ 9223372036854775808)) = true then (n : Int) % 18446744073709551616 - 18446744073709551616 else (n : Int) % 18446744073709551616) = _
 rw [show ((n : Int) % 18446744073709551616) = n by omega]
 simp only [Bool.true_and, decide_eq_true_eq]
 split <;> split <;> omega
theorem zEW (r : BitVec 64) : z2z .i64 r = r.toInt := by
 unfold z2z
 refine (zJt (n := r.toNat) r.isLt).trans ?_
 rw [BitVec.toInt_eq_toNat_cond]
 rfl
theorem zCk (a b : Int) : wAnd .i64 a b = (BitVec.ofInt 64 a &&& BitVec.ofInt 64 b).toInt := by unfold wAnd; exact zEW _
theorem zJx (a b : Int) : wXor .i64 a b = (BitVec.ofInt 64 a ^^^ BitVec.ofInt 64 b).toInt := by unfold wXor; exact zEW _
theorem zCj (x : Int) : wShr .i64 x 1 = x / 2 := by
 unfold wShr
 show x.fdiv (2 ^ 1) = x / 2
 rw [Int.fdiv_eq_ediv_of_nonneg _ (by decide)]; rfl
theorem z6M {a : Int} (h : i64 a) : (BitVec.ofInt 64 a).toInt = a := by
 have h : -9223372036854775808 ≤ a ∧ a ≤ 9223372036854775807 := h
 rw [BitVec.toInt_ofInt, Int.bmod_def]
 split <;> omega
theorem zFw (r : BitVec 64) : BitVec.ofInt 64 r.toInt = r := by simp
theorem zIy {a b : Int} (ha : -4611686018427387904 ≤ a ∧ a ≤ 4611686018427387903) (hb : -4611686018427387904 ≤ b ∧ b ≤ 4611686018427387903) : wAdd .i64 (wAnd .i64 a b) (wShr .i64 (wXor .i64 a b) 1) = (a + b) / 2 := by
 have h := zGU (BitVec.ofInt 64 a) (BitVec.ofInt 64 b)
 rw [z6M (show i64 a from ⟨by omega, by omega⟩), z6M (show i64 b from ⟨by omega, by omega⟩)] at h
 rw [zCk, zJx, zCj]
 generalize (BitVec.ofInt 64 a &&& BitVec.ofInt 64 b).toInt = p at *
 generalize (BitVec.ofInt 64 a ^^^ BitVec.ofInt 64 b).toInt = q at *
 rw [y1] <;> omega
theorem zIz {a b : Int} (ha : -4611686018427387904 ≤ a ∧ a ≤ 4611686018427387903) (hb : -4611686018427387904 ≤ b ∧ b ≤ 4611686018427387903) :
  wAdd .i64 (wAdd .i64 (wShr .i64 a 1) (wShr .i64 b 1)) (wAnd .i64 (wAnd .i64 a b) 1) = (a + b) / 2 := by
 have h := zGV (BitVec.ofInt 64 a) (BitVec.ofInt 64 b)
 rw [z6M (show i64 a from ⟨by omega, by omega⟩), z6M (show i64 b from ⟨by omega, by omega⟩)] at h
 have e2 : wAnd .i64 (BitVec.ofInt 64 a &&& BitVec.ofInt 64 b).toInt 1 = (BitVec.ofInt 64 a &&& BitVec.ofInt 64 b &&& 1#64).toInt := by
  rw [zCk, zFw]; rfl
 rw [zCk a b, e2, zCj, zCj, h, y1 (x := a / 2) (y := b / 2) (by omega) (by omega)]
 split
 ·rw [y1] <;> omega
 ·rw [y1] <;> omega
end Go.H.S
