/- Library, part Y: the cuts of a tree; rows that are marked. -/
import Derived.Test.YtdolkacinfjhcaaGreatLX
import Derived.Test.YtdolkacinfjhcaaGreatLDB
set_option maxRecDepth 100000
set_option linter.unusedSimpArgs false
set_option linter.unusedVariables false
namespace Go.H.S
open Go Go.Proofs Go.H
attribute [local irreducible] Tri FnSpec FnSpecM FnSpecX FnSpecJ
theorem compactUpTo_succ (xs : List Int) (i : Nat) (x : Int) (hx : xs[i]? = some x) : Go.Lib.compactUpTo xs.toArray (i + 1) = Go.Lib.compactUpTo xs.toArray i ++ (if Go.Lib.keeps xs.toArray i then [x] else []) := by
 have hlt := (List.getElem?_eq_some_iff.1 hx).1
 simp only [Go.Lib.compactUpTo, List.range_succ, List.filter_append, List.map_append]
 congr 1
 have hv : xs.toArray[i]! = x := by
  rw [getElem!_pos _ i (by simpa using hlt)]
  simpa using (List.getElem?_eq_some_iff.1 hx).2
 have hv2 : xs[i]?.getD 0 = x := by rw [hx]; rfl
 cases hk : Go.Lib.keeps xs.toArray i <;> simp [hk, hv, hv2]
theorem spec_Distinct_spec (xs : List Int) (hx : xs.length ≤ 1000000000) : FnSpec PR f_spec_Distinct [aIs xs] (.c (.ref 0 0 none)) [(0, .arr t_int 1 0 .own (eL cI (distinctL xs)))] 1 := by
 refine FnSpec.intro hT (pf Tryz.func199) rfl (by kernel_rfl) Tryz.ntmps199 rfl ?_
 conv => whnf
 refine .inl ⟨_, _, _, spec_SortInts_spec xs hx, rfl, ?_⟩
 have hsl := sortL_len xs
 have hd : distinctL xs = Go.Lib.compactUpTo (sortL xs).toArray (sortL xs).length := rfl
 rw [hd]
 generalize sortL xs = s at *
 refine tri_loop hT [3, 4, 5] (α := Nat) (fun i => { t := [(3, .c (.ref 0 0 none)), (4, .c (.ref 1 0 none)), (5, ai i)], h := [(0, .arr t_int 1 0 .own (eL cI (Go.Lib.compactUpTo s.toArray i))), (1, .arr t_int 1 0 .own (eL cI s))], n := 2, N := 37 })
  (fun i => i ≤ s.length) (fun i => s.length - i) 0 (by (conv => whnf); rw [show Go.Lib.compactUpTo s.toArray 0 = [] from rfl, eL_nil]; rfl) (Nat.zero_le _) ?_
 intro i hi
 conv => whnf
 refine ifB_i (fun h1 => ?_) (fun h1 => ?_) <;> (conv => whnf) <;> simp at h1
 ·obtain ⟨x, hxi⟩ := get_lt h1
  have hcl : (Go.Lib.compactUpTo s.toArray i).length ≤ i := by
   have h := List.length_filter_le (Go.Lib.keeps s.toArray) (List.range i)
   simp only [Go.Lib.compactUpTo, List.length_map]
   simpa using h
  have hcs := compactUpTo_succ s i x hxi
  have hk : ∀ b, Go.Lib.keeps s.toArray i = b → Go.Lib.keeps s.toArray i = b := fun _ h => h
  refine tri_conf hT hmix (by kernel_rfl) ?_
  conv => whnf
  cases i with
  | zero =>
   rw [show iEq ((0 : Nat) : Int) 0 = true from rfl]
   have hkt : Go.Lib.keeps s.toArray 0 = true := Go.Lib.keeps_lt_one _ 0 (by omega)
   rw [hkt] at hcs
   rw [if_pos rfl] at hcs
   have hnx : Go.Lib.compactUpTo s.toArray 1 = Go.Lib.compactUpTo s.toArray 0 ++ [x] := hcs
   generalize Go.Lib.compactUpTo s.toArray 0 = o at *
   repeat' (first | (refine And.intro (fun q => ?_) (fun q => ?_) <;> cases q <;> (conv => whnf)) | fail)
   refine ref_at (k := 0) (by simp) (by simp; omega) ?_
   conv => whnf
   refine ld_at (by simp) hxi ?_
   conv => whnf
   refine And.intro (by simp [eL_length, dLen_len]; omega) ?_
   conv => whnf
   refine ⟨1, by omega, h1, ?_⟩
   ((conv => whnf); simp only [eS, partOf_none])
   refine ⟨wI h1 (by omega), ?_⟩
   rw [hnx, ← eL_app]
   rfl
  | succ j =>
   rw [show iEq ((j + 1 : Nat) : Int) 0 = false from decide_eq_false (by omega)]
   obtain ⟨y, hy⟩ := get_lt (show j < s.length by omega)
   have ek : wSub .i64 ((j + 1 : Nat) : Int) 1 = (j : Int) := by rw [wSub64] <;> omega
   repeat' (first | (refine And.intro (fun q => ?_) (fun q => ?_) <;> cases q <;> (conv => whnf)) | fail)
   refine ref_at (k := j + 1) rfl (by simp; omega) ?_
   conv => whnf
   repeat' (first | (refine And.intro (fun q => ?_) (fun q => ?_) <;> cases q <;> (conv => whnf)) | fail)
   refine ld_at (by simp) hxi ?_
   conv => whnf
   repeat' (first | (refine And.intro (fun q => ?_) (fun q => ?_) <;> cases q <;> (conv => whnf)) | fail)
   refine ref_at (k := j) ek (by simp; omega) ?_
   conv => whnf
   repeat' (first | (refine And.intro (fun q => ?_) (fun q => ?_) <;> cases q <;> (conv => whnf)) | fail)
   refine ld_at (by rw [ek]; simp) hy ?_
   conv => whnf
   repeat' (first | (refine And.intro (fun q => ?_) (fun q => ?_) <;> cases q <;> (conv => whnf)) | fail)
   generalize e2 : iEq x y = c2
   have hg1 : s.toArray[j + 1]! = x := by
    rw [getElem!_pos _ (j + 1) (by simpa using h1)]
    simpa using (List.getElem?_eq_some_iff.1 hxi).2
   have hg2 : s.toArray[j + 1 - 1]! = y := by
    rw [getElem!_pos _ (j + 1 - 1) (by simp; omega)]
    simpa using (List.getElem?_eq_some_iff.1 hy).2
   cases c2
   ·have hkt : Go.Lib.keeps s.toArray (j + 1) = true := Go.Lib.keeps_pos (by rw [hg1, hg2]; simpa [iEq] using e2)
    rw [hkt, if_pos rfl] at hcs
    conv => whnf
    refine ref_at (k := j + 1) rfl (by simp; omega) ?_
    conv => whnf
    refine ld_at (by simp) hxi ?_
    conv => whnf
    refine And.intro (by simp [eL_length, dLen_len]; omega) ?_
    conv => whnf
    refine ⟨j + 1 + 1, by omega, h1, ?_⟩
    ((conv => whnf); simp only [eS, partOf_none])
    refine ⟨wI h1 (by omega), ?_⟩
    rw [hcs, ← eL_app]
    rfl
   ·have hkt : Go.Lib.keeps s.toArray (j + 1) = false := Go.Lib.keeps_neg (by omega) (by rw [hg1, hg2]; simpa [iEq] using e2)
    rw [hkt] at hcs
    simp only [Bool.false_eq_true, if_false, List.append_nil] at hcs
    conv => whnf
    refine ⟨j + 1 + 1, by omega, h1, ?_⟩
    ((conv => whnf); simp only [eS, wI h1 (by omega), hcs])
 ·obtain rfl : i = s.length := by omega
  conv => whnf
end Go.H.S
namespace Go.H.S
open Go Go.Proofs Go.H
attribute [local irreducible] Tri FnSpec FnSpecM
theorem idxL_any {α : Type} (p : α → Bool) : ∀ (l : List α) (k : Nat), (0 ≤ idxL p l k) ↔ l.any p = true
 | [], k => by simp [idxL]
 | y :: r, k => by
  simp only [idxL, List.any_cons]
  have ih := idxL_any p r (k + 1)
  cases h : p y
  ·simpa using ih
  ·simp
theorem slices_IndexFunc_Lint_int_0 (xs : List (Int)) (g : FuncId) (p : Int → Bool) (hp : ∀ x ∈ xs, FnSpec PR g [ai x] (ab (p x)) [] 0) (hl : xs.length ≤ 9223372036854775807) :
  FnSpec PR f_slices_IndexFunc_Lint_int [aIs xs, .c (.d (.fn g []))] (ai (idxL p xs 0)) [] 0 := by
 refine FnSpec.intro hT (pf Tryz.func233) rfl (by kernel_rfl) Tryz.ntmps233 rfl ?_
 conv => whnf
 refine tri_loop hT [0, 1, 7, 8] (α := Nat) (fun k => { t := [(0, aIs xs), (1, .c (.d (.fn g []))), (7, ai xs.length), (8, ai k)], h := [], n := 0, N := 19 })
  (fun k => k ≤ xs.length ∧ idxL p (xs.drop k) k = idxL p xs 0) (fun k => xs.length - k) 0 (by ((conv => whnf); simp only [eS])) ⟨Nat.zero_le _, rfl⟩ ?_
 intro k ⟨hk, hi⟩
 conv => whnf
 refine ifB_i (fun h1 => ?_) (fun h1 => ?_) <;> (conv => whnf) <;> simp at h1
 ·obtain ⟨s, hs⟩ := get_lt h1
  rw [drop_at hs, idxL] at hi
  refine idx_at (by simp) hs ?_
  conv => whnf
  refine .inl ⟨_, _, _, hp s (List.mem_of_getElem? hs), rfl, ?_⟩
  conv => whnf
  refine ifB_i (fun h2 => ?_) (fun h2 => ?_) <;> (conv => whnf)
  ·rw [if_pos h2] at hi
   ((conv => whnf); simp only [eS, hi])
  ·rw [if_neg (by simp [h2])] at hi
   refine ⟨k + 1, by omega, ⟨h1, hi⟩, ?_⟩
   ((conv => whnf); simp only [eS, wI h1 hl])
 ·obtain rfl : k = xs.length := by omega
  simp only [List.drop_length, idxL] at hi
  ((conv => whnf); simp only [eS, ← hi])
theorem slices_ContainsFunc_Lint_int_0 (xs : List (Int)) (g : FuncId) (p : Int → Bool) (hp : ∀ x ∈ xs, FnSpec PR g [ai x] (ab (p x)) [] 0) (hl : xs.length ≤ 9223372036854775807) :
  FnSpec PR f_slices_ContainsFunc_Lint_int [aIs xs, .c (.d (.fn g []))] (ab (xs.any p)) [] 0 := by
 refine FnSpec.intro hT (pf Tryz.func120) rfl (by kernel_rfl) Tryz.ntmps120 rfl ?_
 conv => whnf
 refine .inl ⟨_, _, _, slices_IndexFunc_Lint_int_0 xs g  p hp hl, rfl, ?_⟩
 conv => whnf
 have h := idxL_any p xs 0
 cases hb : xs.any p
 ·rw [hb] at h
  ((conv => whnf); simp only [eS, iLe])
  simpa using h
 ·rw [hb] at h
  ((conv => whnf); simp only [eS, iLe])
  simpa using h
theorem slices_IndexFunc_Lint_int_1 (xs : List (Int)) (g : FuncId) (d0 : D) (p : Int → Bool) (hp : ∀ x ∈ xs, FnSpec PR g [ai x, .c (.d d0)] (ab (p x)) [] 0) (hl : xs.length ≤ 9223372036854775807) :
  FnSpec PR f_slices_IndexFunc_Lint_int [aIs xs, .c (.d (.fn g [d0]))] (ai (idxL p xs 0)) [] 0 := by
 refine FnSpec.intro hT (pf Tryz.func233) rfl (by kernel_rfl) Tryz.ntmps233 rfl ?_
 conv => whnf
 refine tri_loop hT [0, 1, 7, 8] (α := Nat) (fun k => { t := [(0, aIs xs), (1, .c (.d (.fn g [d0]))), (7, ai xs.length), (8, ai k)], h := [], n := 0, N := 19 })
  (fun k => k ≤ xs.length ∧ idxL p (xs.drop k) k = idxL p xs 0) (fun k => xs.length - k) 0 (by ((conv => whnf); simp only [eS])) ⟨Nat.zero_le _, rfl⟩ ?_
 intro k ⟨hk, hi⟩
 conv => whnf
 refine ifB_i (fun h1 => ?_) (fun h1 => ?_) <;> (conv => whnf) <;> simp at h1
 ·obtain ⟨s, hs⟩ := get_lt h1
  rw [drop_at hs, idxL] at hi
  refine idx_at (by simp) hs ?_
  conv => whnf
  refine .inl ⟨_, _, _, hp s (List.mem_of_getElem? hs), rfl, ?_⟩
  conv => whnf
  refine ifB_i (fun h2 => ?_) (fun h2 => ?_) <;> (conv => whnf)
  ·rw [if_pos h2] at hi
   ((conv => whnf); simp only [eS, hi])
  ·rw [if_neg (by simp [h2])] at hi
   refine ⟨k + 1, by omega, ⟨h1, hi⟩, ?_⟩
   ((conv => whnf); simp only [eS, wI h1 hl])
 ·obtain rfl : k = xs.length := by omega
  simp only [List.drop_length, idxL] at hi
  ((conv => whnf); simp only [eS, ← hi])
theorem slices_ContainsFunc_Lint_int_1 (xs : List (Int)) (g : FuncId) (d0 : D) (p : Int → Bool) (hp : ∀ x ∈ xs, FnSpec PR g [ai x, .c (.d d0)] (ab (p x)) [] 0) (hl : xs.length ≤ 9223372036854775807) :
  FnSpec PR f_slices_ContainsFunc_Lint_int [aIs xs, .c (.d (.fn g [d0]))] (ab (xs.any p)) [] 0 := by
 refine FnSpec.intro hT (pf Tryz.func120) rfl (by kernel_rfl) Tryz.ntmps120 rfl ?_
 conv => whnf
 refine .inl ⟨_, _, _, slices_IndexFunc_Lint_int_1 xs g d0 p hp hl, rfl, ?_⟩
 conv => whnf
 have h := idxL_any p xs 0
 cases hb : xs.any p
 ·rw [hb] at h
  ((conv => whnf); simp only [eS, iLe])
  simpa using h
 ·rw [hb] at h
  ((conv => whnf); simp only [eS, iLe])
  simpa using h
end Go.H.S
namespace Go.H.S
open Go Go.Proofs Go.H
attribute [local irreducible] Tri FnSpec FnSpecM FnSpecX FnSpecJ
def binOfL : List Int → Int → Nat
 | [], _ => 0
 | c :: r, v => (if c < v then 1 else 0) + binOfL r v
theorem binOfL_le : ∀ (l : List Int) (v : Int), binOfL l v ≤ l.length
 | [], v => by simp [binOfL]
 | c :: r, v => by
  have := binOfL_le r v
  simp only [binOfL, List.length_cons]
  split <;> omega
theorem impl_BinOf_spec (cuts : List Int) (v : Int) (hl : cuts.length ≤ 1048576) : FnSpec PR f_impl_BinOf [aIs cuts, ai v] (ai (binOfL cuts v)) [] 0 := by
 have hle := binOfL_le cuts v
 refine FnSpec.intro hT (pf Tryz.func210) rfl (by kernel_rfl) Tryz.ntmps210 rfl ?_
 conv => whnf
 refine tri_loop hT [1, 5, 8, 9, 10] (α := Nat × Nat) (fun x => { t := [(1, ai v), (5, ai x.2), (8, aIs cuts), (9, ai cuts.length), (10, ai x.1)], h := [], n := 0, N := 21 })
  (fun x => x.1 ≤ cuts.length ∧ x.2 + binOfL (cuts.drop x.1) v = binOfL cuts v) (fun x => cuts.length - x.1) (0, 0) (by ((conv => whnf); simp only [eS])) ⟨Nat.zero_le _, by simp⟩ ?_
 intro ⟨k, c⟩ ⟨hk, hc⟩
 dsimp only at hk hc
 conv => whnf
 refine ifB_i (fun h1 => ?_) (fun h1 => ?_) <;> (conv => whnf) <;> simp at h1
 ·obtain ⟨x, hx⟩ := get_lt h1
  rw [drop_at hx, binOfL] at hc
  refine idx_at (by simp) hx ?_
  conv => whnf
  refine ifB_i (fun h2 => ?_) (fun h2 => ?_) <;> (conv => whnf) <;> simp only [eH] at h2
  ·rw [if_pos h2] at hc
   refine ⟨(k + 1, c + 1), by dsimp only; omega, ⟨h1, by dsimp only; omega⟩, ?_⟩
   ((conv => whnf); simp only [eS, wI h1 (by omega), wI (show c < 1048577 by omega) (by omega)])
  ·rw [if_neg (by omega)] at hc
   refine ⟨(k + 1, c), by dsimp only; omega, ⟨h1, by dsimp only; omega⟩, ?_⟩
   ((conv => whnf); simp only [eS, wI h1 (by omega)])
 ·obtain rfl : k = cuts.length := by omega
  simp [binOfL] at hc
  rw [hc]
theorem spec_BinOf_spec (cuts : List Int) (v : Int) (hl : cuts.length ≤ 1048576) : FnSpec PR f_spec_BinOf [aIs cuts, ai v] (ai (binOfL cuts v)) [] 0 := by
 have hle := binOfL_le cuts v
 refine FnSpec.intro hT (pf Tryz.func168) rfl (by kernel_rfl) Tryz.ntmps168 rfl ?_
 conv => whnf
 refine tri_loop hT [0, 1, 5, 6] (α := Nat × Nat) (fun x => { t := [(0, aIs cuts), (1, ai v), (5, ai x.2), (6, ai x.1)], h := [], n := 0, N := 22 })
  (fun x => x.1 ≤ cuts.length ∧ x.2 + binOfL (cuts.drop x.1) v = binOfL cuts v) (fun x => cuts.length - x.1) (0, 0) (by ((conv => whnf); simp only [eS])) ⟨Nat.zero_le _, by simp⟩ ?_
 intro ⟨k, c⟩ ⟨hk, hc⟩
 dsimp only at hk hc
 conv => whnf
 refine ifB_i (fun h1 => ?_) (fun h1 => ?_) <;> (conv => whnf) <;> simp at h1
 ·obtain ⟨x, hx⟩ := get_lt h1
  rw [drop_at hx, binOfL] at hc
  refine idx_at (by simp) hx ?_
  conv => whnf
  refine ifB_i (fun h2 => ?_) (fun h2 => ?_) <;> (conv => whnf) <;> simp only [eH] at h2
  ·rw [if_pos h2] at hc
   refine ⟨(k + 1, c + 1), by dsimp only; omega, ⟨h1, by dsimp only; omega⟩, ?_⟩
   ((conv => whnf); simp only [eS, wI h1 (by omega), wI (show c < 1048577 by omega) (by omega)])
  ·rw [if_neg (by omega)] at hc
   refine ⟨(k + 1, c), by dsimp only; omega, ⟨h1, by dsimp only; omega⟩, ?_⟩
   ((conv => whnf); simp only [eS, wI h1 (by omega)])
 ·obtain rfl : k = cuts.length := by omega
  simp [binOfL] at hc
  rw [hc]
def upTo (n : Nat) : List Int := (List.range n).map fun (i : Nat) => (i : Int)
theorem upTo_len (n : Nat) : (upTo n).length = n := by simp [upTo]
theorem upTo_succ (n : Nat) : upTo (n + 1) = upTo n ++ [(n : Int)] := by simp [upTo, List.range_succ]
def allRowsL (n : Int) : List Int := if 1 ≤ n ∧ n ≤ 40 then upTo n.toNat else []
theorem impl_AllRows_spec (n : Int) : FnSpec PR f_impl_AllRows [ai n] (.c (.ref 0 0 none)) [(0, .arr t_int 1 0 .own (eL cI (allRowsL n)))] 1 := by
 refine FnSpec.intro hT (pf Tryz.func104) rfl (by kernel_rfl) Tryz.ntmps104 rfl ?_
 conv => whnf
 refine .inl ⟨_, _, _, impl_within_spec _ _ _, rfl, ?_⟩
 conv => whnf
 by_cases h : 1 ≤ n ∧ n ≤ 40
 ·rw [show decide (1 ≤ n ∧ n ≤ 40) = true from decide_eq_true h]
  conv => whnf
  have he : allRowsL n = upTo n.toNat := by rw [allRowsL, if_pos h]
  rw [he]
  obtain ⟨m, rfl⟩ : ∃ m : Nat, n = m := ⟨n.toNat, by omega⟩
  simp only [Int.toNat_natCast]
  refine tri_loop hT [3, 10, 11] (α := Nat) (fun x => { t := [(3, .c (.ref 0 0 none)), (10, ai m), (11, ai x)], h := [(0, .arr t_int 1 0 .own (eL cI (upTo x)))], n := 1, N := 20 })
   (fun x => x ≤ m) (fun x => m - x) 0 (by (conv => whnf); rw [show upTo 0 = [] from rfl, eL_nil]; rfl) (Nat.zero_le _) ?_
  intro k hk
  conv => whnf
  refine ifB_i (fun h1 => ?_) (fun h1 => ?_) <;> (conv => whnf) <;> simp at h1
  ·refine And.intro (by simp [eL_length, dLen_len, upTo_len]; omega) ?_
   conv => whnf
   refine ⟨k + 1, by omega, h1, ?_⟩
   ((conv => whnf); simp only [eS, wI h1 (by omega)])
   rw [upTo_succ, ← eL_app]
   rfl
  ·obtain rfl : k = m := by omega
   conv => whnf
 ·rw [show decide (1 ≤ n ∧ n ≤ 40) = false from decide_eq_false h]
  conv => whnf
  rw [allRowsL, if_neg h, eL_nil]
theorem spec_AllRows_spec (n : Int) : FnSpec PR f_spec_AllRows [ai n] (.c (.ref 0 0 none)) [(0, .arr t_int 1 0 .own (eL cI (allRowsL n)))] 1 := by
 refine FnSpec.intro hT (pf Tryz.func112) rfl (by kernel_rfl) Tryz.ntmps112 rfl ?_
 conv => whnf
 refine tri_loop hT [0, 3, 4] (α := Nat) (fun x => { t := [(0, ai n), (3, .c (.ref 0 0 none)), (4, ai x)], h := [(0, .arr t_int 1 0 .own (eL cI (upTo x)))], n := 1, N := 20 })
  (fun x => x = 0 ∨ (n ≤ 40 ∧ x ≤ n)) (fun x => 40 - x) 0 (by (conv => whnf); rw [show upTo 0 = [] from rfl, eL_nil]; rfl) (.inl rfl) ?_
 intro k hk
 conv => whnf
 refine ifB_i (fun h1 => ?_) (fun h1 => ?_) <;> (conv => whnf) <;> simp only [eH] at h1
 ·refine ifB_i (fun h2 => ?_) (fun h2 => ?_) <;> (conv => whnf) <;> simp only [eH] at h2
  ·refine And.intro (by simp [eL_length, dLen_len, upTo_len]; omega) ?_
   conv => whnf
   refine ⟨k + 1, by omega, .inr (by omega), ?_⟩
   ((conv => whnf); simp only [eS, wI (show k < 40 by omega) (by omega)])
   rw [upTo_succ, ← eL_app]
   rfl
  ·obtain rfl : k = 0 := by omega
   rw [allRowsL, if_neg (by omega)]
   rfl
 ·rcases hk with rfl | hk
  ·rw [allRowsL, if_neg (by omega)]
   rfl
  ·have : n = k := by omega
   subst this
   by_cases h0 : 1 ≤ (k : Int)
   ·rw [allRowsL, if_pos (by omega), Int.toNat_natCast]
   ·obtain rfl : k = 0 := by omega
    rw [allRowsL, if_neg (by omega)]
    rfl
def atBin (bins : List Int) (b : Int) (r : Int) : Option Bool := if 0 ≤ r ∧ r ≤ (bins.length : Int) - 1 then (bins[r.toNat]?).map fun x => decide (x ≤ b) else none
def splitL (bins rows : List Int) (b : Int) : List Int × List Int := (rows.filter fun r => decide (atBin bins b r = some true), rows.filter fun r => decide (atBin bins b r = some false))
abbrev tupRR : AV := .tup [(false, [.ref 0 0 none]), (false, [.ref 1 0 none])]
theorem splitL_len (bins rows : List Int) (b : Int) : (splitL bins rows b).1.length ≤ rows.length ∧ (splitL bins rows b).2.length ≤ rows.length := ⟨List.length_filter_le _ _, List.length_filter_le _ _⟩
theorem filter_take_step {p : Int → Bool} {xs : List Int} {k : Nat} {x : Int} (h : xs[k]? = some x) : (xs.take (k + 1)).filter p = (xs.take k).filter p ++ (if p x then [x] else []) := by
 rw [List.take_add_one, h, List.filter_append]
 simp only [Option.toList_some, List.filter_cons, List.filter_nil]
theorem impl_SplitRows_spec (bins rows : List Int) (b : Int) (hb : bins.length ≤ 1048576) (hr : rows.length ≤ 1048576) : FnSpec PR f_impl_SplitRows [aIs bins, aIs rows, ai b] tupRR [(0, .arr t_int 1 0 .own (eL cI (splitL bins rows b).1)), (1, .arr t_int 1 0 .own (eL cI (splitL bins rows b).2))] 2 := by
 have e1 : wSub .i64 (nInt (dLen (eL cI bins))) 1 = (bins.length : Int) - 1 := by rw [show nInt (dLen (eL cI bins)) = (bins.length : Int) by simp]; exact wSub64 (by omega) (by omega)
 refine FnSpec.intro hT (pf Tryz.func110) rfl (by kernel_rfl) Tryz.ntmps110 rfl ?_
 conv => whnf
 refine tri_loop hT [0, 2, 8, 9, 14, 15, 16] (α := Nat) (fun x => { t := [(0, aIs bins), (2, ai b), (8, .c (.ref 0 0 none)), (9, .c (.ref 1 0 none)), (14, aIs rows), (15, ai rows.length), (16, ai x)], h := [(0, .arr t_int 1 0 .own (eL cI (splitL bins (rows.take x) b).1)), (1, .arr t_int 1 0 .own (eL cI (splitL bins (rows.take x) b).2))], n := 2, N := 45 })
  (fun x => x ≤ rows.length) (fun x => rows.length - x) 0 (by ((conv => whnf); simp only [eS, splitL, List.take_zero, List.filter_nil, eL_nil])) (Nat.zero_le _) ?_
 intro k hk
 conv => whnf
 refine ifB_i (fun h1 => ?_) (fun h1 => ?_) <;> (conv => whnf) <;> simp at h1
 ·obtain ⟨x, hx⟩ := get_lt h1
  have hl := splitL_len bins (rows.take k) b
  have htl : (rows.take k).length = k := by simp; omega
  refine idx_at (by simp) hx ?_
  conv => whnf
  rw [e1]
  refine .inl ⟨_, _, _, impl_within_spec _ _ _, rfl, ?_⟩
  conv => whnf
  have f1 : (splitL bins (rows.take (k + 1)) b).1 = (splitL bins (rows.take k) b).1 ++ (if decide (atBin bins b x = some true) then [x] else []) := filter_take_step hx
  have f2 : (splitL bins (rows.take (k + 1)) b).2 = (splitL bins (rows.take k) b).2 ++ (if decide (atBin bins b x = some false) then [x] else []) := filter_take_step hx
  by_cases hin : 0 ≤ x ∧ x ≤ (bins.length : Int) - 1
  ·rw [show decide (0 ≤ x ∧ x ≤ (bins.length : Int) - 1) = true from decide_eq_true hin]
   conv => whnf
   obtain ⟨i, rfl⟩ : ∃ i : Nat, x = i := ⟨x.toNat, by omega⟩
   obtain ⟨y, hy⟩ := get_lt (show i < bins.length by omega)
   refine idx_at (by simp) hy ?_
   conv => whnf
   refine ifB_i (fun h2 => ?_) (fun h2 => ?_) <;> (conv => whnf) <;> simp only [eH] at h2
   ·have ha : atBin bins b i = some true := by simp [atBin, hin, hy, h2]
    rw [ha] at f1 f2
    simp at f1 f2
    refine And.intro (by simp [eL_length, dLen_len]; omega) ?_
    conv => whnf
    refine ⟨k + 1, by omega, h1, ?_⟩
    ((conv => whnf); simp only [eS, wI h1 (by omega)])
    rw [f1, f2, ← eL_app]
    exact ⟨rfl, rfl⟩
   ·have ha : atBin bins b i = some false := by simp [atBin, hin, hy]; omega
    rw [ha] at f1 f2
    simp at f1 f2
    refine And.intro (by simp [eL_length, dLen_len]; omega) ?_
    conv => whnf
    refine ⟨k + 1, by omega, h1, ?_⟩
    ((conv => whnf); simp only [eS, wI h1 (by omega)])
    rw [f1, f2, ← eL_app]
    exact ⟨rfl, rfl⟩
  ·rw [show decide (0 ≤ x ∧ x ≤ (bins.length : Int) - 1) = false from decide_eq_false hin]
   conv => whnf
   have ha : atBin bins b x = none := by simp only [atBin]; rw [if_neg hin]
   rw [ha] at f1 f2
   simp at f1 f2
   refine ⟨k + 1, by omega, h1, ?_⟩
   ((conv => whnf); simp only [eS, wI h1 (by omega)])
   rw [f1, f2]
   exact ⟨rfl, rfl⟩
 ·obtain rfl : k = rows.length := by omega
  rw [List.take_length]
theorem spec_SplitRows_spec (bins rows : List Int) (b : Int) (hb : bins.length ≤ 1048576) (hr : rows.length ≤ 1048576) : FnSpec PR f_spec_SplitRows [aIs bins, aIs rows, ai b] tupRR [(0, .arr t_int 1 0 .own (eL cI (splitL bins rows b).1)), (1, .arr t_int 1 0 .own (eL cI (splitL bins rows b).2))] 2 := by
 have e1 : wSub .i64 (nInt (dLen (eL cI bins))) 1 = (bins.length : Int) - 1 := by rw [show nInt (dLen (eL cI bins)) = (bins.length : Int) by simp]; exact wSub64 (by omega) (by omega)
 refine FnSpec.intro hT (pf Tryz.func114) rfl (by kernel_rfl) Tryz.ntmps114 rfl ?_
 conv => whnf
 refine tri_loop hT [0, 1, 2, 8, 9, 10] (α := Nat) (fun x => { t := [(0, aIs bins), (1, aIs rows), (2, ai b), (8, .c (.ref 0 0 none)), (9, .c (.ref 1 0 none)), (10, ai x)], h := [(0, .arr t_int 1 0 .own (eL cI (splitL bins (rows.take x) b).1)), (1, .arr t_int 1 0 .own (eL cI (splitL bins (rows.take x) b).2))], n := 2, N := 55 })
  (fun x => x ≤ rows.length) (fun x => rows.length - x) 0 (by ((conv => whnf); simp only [eS, splitL, List.take_zero, List.filter_nil, eL_nil])) (Nat.zero_le _) ?_
 intro k hk
 conv => whnf
 refine ifB_i (fun h1 => ?_) (fun h1 => ?_) <;> (conv => whnf) <;> simp at h1
 ·obtain ⟨x, hx⟩ := get_lt h1
  have hl := splitL_len bins (rows.take k) b
  have htl : (rows.take k).length = k := by simp; omega
  refine idx_at (by simp) hx ?_
  conv => whnf
  rw [e1]
  refine .inl ⟨_, _, _, spec_l1In_spec _ _ _, rfl, ?_⟩
  conv => whnf
  have f1 : (splitL bins (rows.take (k + 1)) b).1 = (splitL bins (rows.take k) b).1 ++ (if decide (atBin bins b x = some true) then [x] else []) := filter_take_step hx
  have f2 : (splitL bins (rows.take (k + 1)) b).2 = (splitL bins (rows.take k) b).2 ++ (if decide (atBin bins b x = some false) then [x] else []) := filter_take_step hx
  by_cases hin : 0 ≤ x ∧ x ≤ (bins.length : Int) - 1
  ·rw [show decide (0 ≤ x ∧ x ≤ (bins.length : Int) - 1) = true from decide_eq_true hin]
   conv => whnf
   obtain ⟨i, rfl⟩ : ∃ i : Nat, x = i := ⟨x.toNat, by omega⟩
   obtain ⟨y, hy⟩ := get_lt (show i < bins.length by omega)
   refine idx_at (by simp) hx ?_
   conv => whnf
   refine idx_at (by simp) hy ?_
   conv => whnf
   refine ifB_i (fun h2 => ?_) (fun h2 => ?_) <;> (conv => whnf) <;> simp only [eH] at h2
   ·have ha : atBin bins b i = some true := by simp [atBin, hin, hy, h2]
    rw [ha] at f1 f2
    simp at f1 f2
    refine idx_at (by simp) hx ?_
    conv => whnf
    refine And.intro (by simp [eL_length, dLen_len]; omega) ?_
    conv => whnf
    refine ⟨k + 1, by omega, h1, ?_⟩
    ((conv => whnf); simp only [eS, wI h1 (by omega)])
    rw [f1, f2, ← eL_app]
    exact ⟨rfl, rfl⟩
   ·have ha : atBin bins b i = some false := by simp [atBin, hin, hy]; omega
    rw [ha] at f1 f2
    simp at f1 f2
    refine idx_at (by simp) hx ?_
    conv => whnf
    refine And.intro (by simp [eL_length, dLen_len]; omega) ?_
    conv => whnf
    refine ⟨k + 1, by omega, h1, ?_⟩
    ((conv => whnf); simp only [eS, wI h1 (by omega)])
    rw [f1, f2, ← eL_app]
    exact ⟨rfl, rfl⟩
  ·rw [show decide (0 ≤ x ∧ x ≤ (bins.length : Int) - 1) = false from decide_eq_false hin]
   conv => whnf
   have ha : atBin bins b x = none := by simp only [atBin]; rw [if_neg hin]
   rw [ha] at f1 f2
   simp at f1 f2
   refine ⟨k + 1, by omega, h1, ?_⟩
   ((conv => whnf); simp only [eS, wI h1 (by omega)])
   rw [f1, f2]
   exact ⟨rfl, rfl⟩
 ·obtain rfl : k = rows.length := by omega
  rw [List.take_length]
def rowsIn (g : Grd) : Nat := match g.bins with | [] => 0 | x :: _ => x.length
theorem impl_RowsIn_spec (g : Grd) : FnSpec PR f_impl_RowsIn [aG g] (ai (rowsIn g)) [] 0 := by
 refine FnSpec.intro hT (pf Tryz.func105) rfl (by kernel_rfl) Tryz.ntmps105 rfl ?_
 conv => whnf
 cases hb : g.bins with
 | nil =>
  refine ifB_i (fun h1 => ?_) (fun h1 => ?_) <;> (conv => whnf) <;> simp only [eH, eL_nil] at h1
  ·simp [rowsIn, hb]
  ·simp [eL_nil] at h1
 | cons x r =>
  refine ifB_i (fun h1 => ?_) (fun h1 => ?_) <;> (conv => whnf) <;> simp only [eH, eL_cons] at h1
  ·omega
  ·refine idx_at (by simp) (show (x :: r)[0]? = some x from rfl) ?_
   conv => whnf
   simp [rowsIn, hb]
theorem spec_RowsIn_spec (g : Grd) : FnSpec PR f_spec_RowsIn [aG g] (ai (rowsIn g)) [] 0 := by
 refine FnSpec.intro hT (pf Tryz.func194) rfl (by kernel_rfl) Tryz.ntmps194 rfl ?_
 conv => whnf
 cases hb : g.bins with
 | nil =>
  refine ifB_i (fun h1 => ?_) (fun h1 => ?_) <;> (conv => whnf) <;> simp only [eH, eL_nil] at h1
  ·simp [rowsIn, hb]
  ·simp [eL_nil] at h1
 | cons x r =>
  refine ifB_i (fun h1 => ?_) (fun h1 => ?_) <;> (conv => whnf) <;> simp only [eH, eL_cons] at h1
  ·omega
  ·refine idx_at (by simp) (show (x :: r)[0]? = some x from rfl) ?_
   conv => whnf
   simp [rowsIn, hb]
end Go.H.S
namespace Go.H.S
open Go Go.Proofs Go.H
attribute [local irreducible] Tri FnSpec FnSpecM FnSpecX FnSpecJ
def decP (x : Int) : Prop := -2147483647 ≤ x ∧ x ≤ 2147483647
def cutsP (cuts : List Int) : Prop := (∀ (j : Nat) (a b : Int), cuts[j]? = some a → cuts[j + 1]? = some b → a < b) ∧ cuts.length ≤ 7 ∧ ∀ c ∈ cuts, decP c
noncomputable def cutsOk (cuts : List Int) : Bool := @decide (cutsP cuts) (Classical.propDecidable _)
theorem cutsOk_t {cuts : List Int} (h : cutsP cuts) : cutsOk cuts = true := by unfold cutsOk; exact @decide_eq_true _ (Classical.propDecidable _) h
theorem cutsOk_f {cuts : List Int} (h : ¬ cutsP cuts) : cutsOk cuts = false := by unfold cutsOk; exact @decide_eq_false _ (Classical.propDecidable _) h
theorem cutsOk_iff {cuts : List Int} : cutsOk cuts = true ↔ cutsP cuts := by
 constructor
 ·intro h
  rcases Classical.em (cutsP cuts) with q | q
  ·exact q
  ·rw [cutsOk_f q] at h; cases h
 ·exact cutsOk_t
theorem impl_areDecimals_1_spec (x : Int) : FnSpec PR f_impl_areDecimals_1 [ai x] (ab (bNot (decide (-2147483647 ≤ x ∧ x ≤ 2147483647)))) [] 0 := by
 refine FnSpec.intro hT (pf Tryz.func303) rfl (by kernel_rfl) Tryz.ntmps303 rfl ?_
 conv => whnf
 refine .inl ⟨_, _, _, impl_isDecimal_spec x, rfl, ?_⟩
 conv => whnf
theorem impl_areDecimals_spec (xs : List Int) (hl : xs.length ≤ 1048576) : FnSpec PR f_impl_areDecimals [aIs xs] (ab (bNot (xs.any fun x => bNot (decide (-2147483647 ≤ x ∧ x ≤ 2147483647))))) [] 0 := by
 refine FnSpec.intro hT (pf Tryz.func252) rfl (by kernel_rfl) Tryz.ntmps252 rfl ?_
 conv => whnf
 refine .inl ⟨_, _, _, slices_ContainsFunc_Lint_int_0 xs f_impl_areDecimals_1 (fun x => bNot (decide (-2147483647 ≤ x ∧ x ≤ 2147483647))) (fun x _ => impl_areDecimals_1_spec x) (by omega), rfl, ?_⟩
 conv => whnf
theorem impl_CutsOk_spec (cuts : List Int) (hl : cuts.length ≤ 1048576) : FnSpec PR f_impl_CutsOk [aIs cuts] (ab (cutsOk cuts)) [] 0 := by
 refine FnSpec.intro hT (pf Tryz.func229) rfl (by kernel_rfl) Tryz.ntmps229 rfl ?_
 conv => whnf
 refine tri_loop hT [0, 3] (α := Nat) (fun x => { t := [(0, aIs cuts), (3, ai (x + 1 : Nat))], h := [], n := 0, N := 27 })
  (fun x => (x + 1 ≤ cuts.length ∨ x = 0) ∧ ∀ (j : Nat) (a b : Int), j < x → cuts[j]? = some a → cuts[j + 1]? = some b → a < b) (fun x => cuts.length - x) 0 (by first | ((conv => whnf); done) | ((conv => whnf); rfl)) ⟨.inr rfl, fun j a b h => by omega⟩ ?_
 intro k ⟨hk, hr⟩
 conv => whnf
 refine ifB_i (fun h1 => ?_) (fun h1 => ?_) <;> (conv => whnf) <;> simp only [eH] at h1
 ·obtain ⟨x, hx⟩ := get_lt (show k < cuts.length by omega)
  obtain ⟨y, hy⟩ := get_lt (show k + 1 < cuts.length by omega)
  have e1 : wSub .i64 ((k + 1 : Nat) : Int) 1 = (k : Int) := by rw [wSub64] <;> omega
  refine tri_every hT hmix [0, 3, 19] { t := [(0, aIs cuts), (3, ai (k + 1 : Nat)), (19, ab (iLe y x))], h := [], n := 0, N := 27 } rfl ?_ ?_
  ·repeat' first
    | (refine anyV_one rfl ?_; (conv => whnf))
    | (refine anyV_two rfl ?_ ?_ <;> (conv => whnf))
    | (rw [e1]; (conv => whnf))
    | (refine idx_at (k := k + 1) rfl hy ?_; (conv => whnf))
    | (refine idx_at (k := k) rfl hx ?_; (conv => whnf))
    | (refine anyV_end rfl ?_; (conv => whnf); done)
  conv => whnf
  refine ifB_i (fun h2 => ?_) (fun h2 => ?_) <;> (conv => whnf) <;> simp only [eH] at h2
  ·rw [cutsOk_f (fun hc => by have := hc.1 k x y hx hy; omega)]
  ·refine ⟨k + 1, by omega, ⟨.inl (by omega), fun j a b hj ha hb => ?_⟩, ?_⟩
   ·rcases Nat.lt_or_ge j k with q | q
    ·exact hr j a b q ha hb
    ·obtain rfl : j = k := by omega
     rw [hx] at ha; rw [hy] at hb
     cases ha; cases hb
     omega
   ((conv => whnf); simp only [eS, wI (show k + 1 < cuts.length by omega) (by omega)])
 ·have hr2 : ∀ (j : Nat) (a b : Int), cuts[j]? = some a → cuts[j + 1]? = some b → a < b := fun j a b ha hb => hr j a b (by have := (List.getElem?_eq_some_iff.1 hb).1; omega) ha hb
  rw [show nInt (dLen (eL cI cuts)) = (cuts.length : Int) by simp]
  cases h7 : iLe (cuts.length : Int) 7
  ·conv => whnf
   simp at h7
   rw [cutsOk_f (fun hc => by have := hc.2.1; omega)]
  ·conv => whnf
   simp at h7
   refine .inl ⟨_, _, _, impl_areDecimals_spec cuts hl, rfl, ?_⟩
   conv => whnf
   rw [show cutsOk cuts = bNot (cuts.any fun x => bNot (decide (-2147483647 ≤ x ∧ x ≤ 2147483647))) from ?_]
   cases ha : cuts.any fun x => bNot (decide (-2147483647 ≤ x ∧ x ≤ 2147483647))
   ·refine cutsOk_t ⟨hr2, by omega, fun c hc => ?_⟩
    rw [List.any_eq_false] at ha
    have := ha c hc
    simp [bNot] at this
    exact ⟨by omega, by omega⟩
   ·refine cutsOk_f fun hc => ?_
    rw [List.any_eq_true] at ha
    obtain ⟨c, hc1, hc2⟩ := ha
    have := hc.2.2 c hc1
    simp [bNot] at hc2
    unfold decP at this
    omega
theorem spec_CutsOk_spec (cuts : List Int) (hl : cuts.length ≤ 1048576) : FnSpec PR f_spec_CutsOk [aIs cuts] (ab (cutsOk cuts)) [] 0 := by
 refine FnSpec.intro hT (pf Tryz.func278) rfl (by kernel_rfl) Tryz.ntmps278 rfl ?_
 conv => whnf
 refine tri_loop hT [0, 3] (α := Nat) (fun x => { t := [(0, aIs cuts), (3, ai x)], h := [], n := 0, N := 35 })
  (fun x => x ≤ cuts.length ∧ (∀ (j : Nat) (a b : Int), j + 1 < x → cuts[j]? = some a → cuts[j + 1]? = some b → a < b) ∧ ∀ (j : Nat) (a : Int), j < x → cuts[j]? = some a → decP a) (fun x => cuts.length - x) 0 (by first | ((conv => whnf); done) | ((conv => whnf); rfl)) ⟨Nat.zero_le _, fun j a b h => by omega, fun j a h => by omega⟩ ?_
 intro k ⟨hk, hr, hd⟩
 conv => whnf
 refine ifB_i (fun h1 => ?_) (fun h1 => ?_) <;> (conv => whnf) <;> simp only [eH] at h1
 ·obtain ⟨x, hx⟩ := get_lt (show k < cuts.length by omega)
  refine tri_conf hT hmix (by kernel_rfl) ?_
  conv => whnf
  refine idx_at rfl hx ?_
  conv => whnf
  refine ⟨_, _, spec_l6Value_spec x, rfl, ?_⟩
  cases hd1 : decide (-2147483647 ≤ x ∧ x ≤ 2147483647)
  ·have hdx : ¬ decP x := by unfold decP; simpa using hd1
   conv => whnf
   repeat' (first | (refine And.intro (fun q => ?_) (fun q => ?_) <;> cases q <;> (conv => whnf)) | fail)
   rw [cutsOk_f (fun hc => hdx (hc.2.2 x (List.mem_of_getElem? hx)))]
  ·have hdx : decP x := by unfold decP; simpa using hd1
   have hd' : ∀ (j : Nat) (a : Int), j < k + 1 → cuts[j]? = some a → decP a := fun j a hj ha => by
    rcases Nat.lt_or_ge j k with q | q
    ·exact hd j a q ha
    ·obtain rfl : j = k := by omega
     rw [hx] at ha; cases ha; exact hdx
   conv => whnf
   cases k with
   | zero =>
    repeat' (first | (refine And.intro (fun q => ?_) (fun q => ?_) <;> cases q <;> (conv => whnf)) | fail)
    rw [show iLt 0 ((0 : Nat) : Int) = false from rfl]
    repeat' (first | (refine And.intro (fun q => ?_) (fun q => ?_) <;> cases q <;> (conv => whnf)) | fail)
    refine ⟨1, by omega, ⟨by omega, fun j a b h => by omega, hd'⟩, ?_⟩
    ((conv => whnf); simp only [eS])
    show wAdd .i64 ((0 : Nat) : Int) 1 = ((1 : Nat) : Int)
    rw [wAdd64] <;> omega
   | succ i =>
    repeat' (first | (refine And.intro (fun q => ?_) (fun q => ?_) <;> cases q <;> (conv => whnf)) | fail)
    rw [show iLt 0 ((i + 1 : Nat) : Int) = true from decide_eq_true (by omega)]
    obtain ⟨y, hy⟩ := get_lt (show i < cuts.length by omega)
    have e1 : wSub .i64 ((i + 1 : Nat) : Int) 1 = (i : Int) := by rw [wSub64] <;> omega
    repeat' (first | (refine And.intro (fun q => ?_) (fun q => ?_) <;> cases q <;> (conv => whnf)) | fail)
    refine idx_at e1 hy ?_
    conv => whnf
    repeat' (first | (refine And.intro (fun q => ?_) (fun q => ?_) <;> cases q <;> (conv => whnf)) | fail)
    refine idx_at rfl hx ?_
    conv => whnf
    repeat' (first | (refine And.intro (fun q => ?_) (fun q => ?_) <;> cases q <;> (conv => whnf)) | fail)
    cases h3 : iLe x y
    ·simp at h3
     repeat' (first | (refine And.intro (fun q => ?_) (fun q => ?_) <;> cases q <;> (conv => whnf)) | fail)
     refine ⟨i + 1 + 1, by omega, ⟨by omega, fun j a b hj ha hb => ?_, hd'⟩, ?_⟩
     ·rcases Nat.lt_or_ge (j + 1) (i + 1) with q | q
      ·exact hr j a b q ha hb
      ·obtain rfl : j = i := by omega
       rw [hy] at ha; rw [hx] at hb
       cases ha; cases hb
       exact h3
     ((conv => whnf); simp only [eS, wI (show i + 1 < cuts.length by omega) (by omega)])
    ·simp at h3
     repeat' (first | (refine And.intro (fun q => ?_) (fun q => ?_) <;> cases q <;> (conv => whnf)) | fail)
     conv => whnf
     rw [cutsOk_f (fun hc => by have := hc.1 i y x hy hx; omega)]
 ·obtain rfl : k = cuts.length := by omega
  rw [show nInt (dLen (eL cI cuts)) = (cuts.length : Int) by simp]
  conv => whnf
  cases h7 : iLe (cuts.length : Int) 7
  ·simp at h7
   rw [cutsOk_f (fun hc => by have := hc.2.1; omega)]
  ·simp at h7
   rw [cutsOk_t ⟨fun j a b ha hb => hr j a b (by have := (List.getElem?_eq_some_iff.1 hb).1; omega) ha hb, by omega, fun c hc => by
    obtain ⟨j, hj⟩ := List.mem_iff_getElem?.1 hc
    exact hd j c (List.getElem?_eq_some_iff.1 hj).1 hj⟩]
def smG (g : Grd) : Prop := g.cuts.length ≤ 1048576 ∧ g.bins.length ≤ 1048576 ∧ (∀ c ∈ g.cuts, c.length ≤ 1048576) ∧ ∀ b ∈ g.bins, b.length ≤ 1048576
def gridAt (g : Grd) (k : Nat) : Prop := ∀ c b, g.cuts[k]? = some c → g.bins[k]? = some b → cutsP c ∧ b.length = rowsIn g ∧ ∀ x ∈ b, 0 ≤ x ∧ x ≤ (c.length : Int)
def gridP (g : Grd) : Prop := (1 ≤ g.cuts.length ∧ g.cuts.length ≤ 4) ∧ g.bins.length = g.cuts.length ∧ (1 ≤ rowsIn g ∧ rowsIn g ≤ 40) ∧ ∀ k, gridAt g k
noncomputable def gridOk (g : Grd) : Bool := @decide (gridP g) (Classical.propDecidable _)
theorem gridOk_t {g : Grd} (h : gridP g) : gridOk g = true := by unfold gridOk; exact @decide_eq_true _ (Classical.propDecidable _) h
theorem gridOk_f {g : Grd} (h : ¬ gridP g) : gridOk g = false := by unfold gridOk; exact @decide_eq_false _ (Classical.propDecidable _) h
theorem gridOk_iff {g : Grd} : gridOk g = true ↔ gridP g := by
 constructor
 ·intro h
  rcases Classical.em (gridP g) with q | q
  ·exact q
  ·rw [gridOk_f q] at h; cases h
 ·exact gridOk_t
theorem impl_GridOk_1_spec (x : Int) (c : List Int) (hl : c.length ≤ 1048576) : FnSpec PR f_impl_GridOk_1 [ai x, .c (.d (.rp [.sl 1 (eL cI c)]))] (ab (bNot (decide (0 ≤ x ∧ x ≤ (c.length : Int))))) [] 0 := by
 refine FnSpec.intro hT (pf Tryz.func230) rfl (by kernel_rfl) Tryz.ntmps230 rfl ?_
 conv => whnf
 refine .inl ⟨_, _, _, impl_within_spec _ _ _, rfl, ?_⟩
 conv => whnf
 rw [show nInt (dLen (eL cI c)) = (c.length : Int) by simp]
theorem impl_GridOk_spec (g : Grd) (hg : smG g) : FnSpec PR f_impl_GridOk [aG g] (ab (gridOk g)) [] 0 := by
 obtain ⟨z1, z2, z3, z4⟩ := hg
 refine FnSpec.intro hT (pf Tryz.func118) rfl (by kernel_rfl) Tryz.ntmps118 rfl ?_
 conv => whnf
 refine .inl ⟨_, _, _, impl_within_spec _ _ _, rfl, ?_⟩
 conv => whnf
 rw [show nInt (dLen (eL cIs g.cuts)) = (g.cuts.length : Int) by simp]
 cases h1 : decide (1 ≤ (g.cuts.length : Int) ∧ (g.cuts.length : Int) ≤ 4)
 ·conv => whnf
  rw [decide_eq_false_iff_not] at h1
  rw [gridOk_f (fun hc => h1 ⟨by have := hc.1; omega, by have := hc.1; omega⟩)]
 rw [decide_eq_true_iff] at h1
 conv => whnf
 rw [show nInt (dLen (eL cIs g.bins)) = (g.bins.length : Int) by simp, show nInt (dLen (eL cIs g.cuts)) = (g.cuts.length : Int) by simp]
 cases h2 : iEq (g.bins.length : Int) (g.cuts.length : Int)
 ·conv => whnf
  rw [gridOk_f (fun hc => by have := hc.2.1; simp at h2; omega)]
 have h2 : g.bins.length = g.cuts.length := by simp at h2; omega
 conv => whnf
 refine .inl ⟨_, _, _, impl_RowsIn_spec g, rfl, ?_⟩
 conv => whnf
 refine .inl ⟨_, _, _, impl_within_spec _ _ _, rfl, ?_⟩
 conv => whnf
 cases h3 : decide (1 ≤ (rowsIn g : Int) ∧ (rowsIn g : Int) ≤ 40)
 ·conv => whnf
  rw [decide_eq_false_iff_not] at h3
  rw [gridOk_f (fun hc => h3 ⟨by have := hc.2.2.1; omega, by have := hc.2.2.1; omega⟩)]
 rw [decide_eq_true_iff] at h3
 conv => whnf
 refine tri_rp 0 ?_
 conv => whnf
 refine tri_loop hT [1, 26, 27, 28] (α := Nat) (fun x => { t := [(1, .c (.d (.rp [.sl 1 (eL cIs g.cuts), .sl 1 (eL cIs g.bins)]))), (26, aIss g.cuts), (27, ai (nInt (dLen (eL cIs g.cuts)))), (28, ai x)], h := [], n := 0, N := 57 })
  (fun x => x ≤ g.cuts.length ∧ ∀ j, j < x → gridAt g j) (fun x => g.cuts.length - x) 0 (by first | ((conv => whnf); done) | ((conv => whnf); rfl)) ⟨Nat.zero_le _, fun j h => by omega⟩ ?_
 intro k ⟨hk, hr⟩
 conv => whnf
 refine ifB_i (fun h4 => ?_) (fun h4 => ?_) <;> (conv => whnf) <;> simp only [eH] at h4
 ·obtain ⟨c, hc⟩ := get_lt (show k < g.cuts.length by omega)
  obtain ⟨b, hb⟩ := get_lt (show k < g.bins.length by omega)
  refine idx_at rfl hc ?_
  conv => whnf
  have hcl := z3 c (List.mem_of_getElem? hc)
  have hbl := z4 b (List.mem_of_getElem? hb)
  refine tri_rp 0 ?_
  conv => whnf
  refine tri_conf hT hmix (by kernel_rfl) ?_
  conv => whnf
  refine ⟨_, _, impl_CutsOk_spec c hcl, rfl, ?_⟩
  cases h5 : cutsOk c
  ·conv => whnf
   repeat' (first | (refine And.intro (fun q => ?_) (fun q => ?_) <;> cases q <;> (conv => whnf)) | fail)
   rw [gridOk_f (fun hp => by rw [cutsOk_t (hp.2.2.2 k c b hc hb).1] at h5; cases h5)]
  have h5' := cutsOk_iff.1 h5
  conv => whnf
  repeat' (first | (refine And.intro (fun q => ?_) (fun q => ?_) <;> cases q <;> (conv => whnf)) | fail)
  refine idx_at rfl hb ?_
  conv => whnf
  repeat' (first | (refine And.intro (fun q => ?_) (fun q => ?_) <;> cases q <;> (conv => whnf)) | fail)
  refine ⟨_, _, impl_RowsIn_spec g, rfl, ?_⟩
  conv => whnf
  repeat' (first | (refine And.intro (fun q => ?_) (fun q => ?_) <;> cases q <;> (conv => whnf)) | fail)
  rw [show nInt (dLen (eL cI b)) = (b.length : Int) by simp]
  cases h6 : iEq (b.length : Int) (rowsIn g : Int)
  ·conv => whnf
   repeat' (first | (refine And.intro (fun q => ?_) (fun q => ?_) <;> cases q <;> (conv => whnf)) | fail)
   rw [gridOk_f (fun hp => by have := (hp.2.2.2 k c b hc hb).2.1; simp at h6; omega)]
  have h6' : b.length = rowsIn g := by simp at h6; omega
  conv => whnf
  repeat' (first | (refine And.intro (fun q => ?_) (fun q => ?_) <;> cases q <;> (conv => whnf)) | fail)
  refine idx_at rfl hb ?_
  conv => whnf
  repeat' (first | (refine And.intro (fun q => ?_) (fun q => ?_) <;> cases q <;> (conv => whnf)) | fail)
  refine ⟨_, _, slices_ContainsFunc_Lint_int_1 b f_impl_GridOk_1 (.rp [.sl 1 (eL cI c)]) (fun x => bNot (decide (0 ≤ x ∧ x ≤ (c.length : Int)))) (fun x _ => impl_GridOk_1_spec x c hcl) (by omega), rfl, ?_⟩
  conv => whnf
  repeat' (first | (refine And.intro (fun q => ?_) (fun q => ?_) <;> cases q <;> (conv => whnf)) | fail)
  refine ifB_i (fun h7 => ?_) (fun h7 => ?_) <;> (conv => whnf)
  ·rw [gridOk_f (fun hp => ?_)]
   rw [List.any_eq_true] at h7
   obtain ⟨x, hx1, hx2⟩ := h7
   have := (hp.2.2.2 k c b hc hb).2.2 x hx1
   simp [bNot] at hx2
   omega
  ·refine ⟨k + 1, by omega, ⟨by omega, fun j hj => ?_⟩, ?_⟩
   ·rcases Nat.lt_or_ge j k with q | q
    ·exact hr j q
    ·obtain rfl : j = k := by omega
     intro c' b' hc' hb'
     rw [hc] at hc'; rw [hb] at hb'
     cases hc'; cases hb'
     refine ⟨h5', h6', fun x hx => ?_⟩
     rw [List.any_eq_false] at h7
     have h7 := h7 x hx
     simp [bNot] at h7
     exact h7
   ((conv => whnf); simp only [eS, wI (show k < g.cuts.length by omega) (by omega)])
 ·obtain rfl : k = g.cuts.length := by omega
  rw [gridOk_t ⟨by omega, h2, by omega, fun j => ?_⟩]
  rcases Nat.lt_or_ge j g.cuts.length with q | q
  ·exact hr j q
  ·intro c b hc
   rw [List.getElem?_eq_none q] at hc
   cases hc
theorem spec_GridOk_spec (g : Grd) (hg : smG g) : FnSpec PR f_spec_GridOk [aG g] (ab (gridOk g)) [] 0 := by
 obtain ⟨z1, z2, z3, z4⟩ := hg
 refine FnSpec.intro hT (pf Tryz.func193) rfl (by kernel_rfl) Tryz.ntmps193 rfl ?_
 conv => whnf
 refine .inl ⟨_, _, _, spec_l1In_spec _ _ _, rfl, ?_⟩
 conv => whnf
 rw [show nInt (dLen (eL cIs g.cuts)) = (g.cuts.length : Int) by simp]
 cases h1 : decide (1 ≤ (g.cuts.length : Int) ∧ (g.cuts.length : Int) ≤ 4)
 ·conv => whnf
  rw [decide_eq_false_iff_not] at h1
  rw [gridOk_f (fun hc => h1 ⟨by have := hc.1; omega, by have := hc.1; omega⟩)]
 rw [decide_eq_true_iff] at h1
 conv => whnf
 rw [show nInt (dLen (eL cIs g.bins)) = (g.bins.length : Int) by simp, show nInt (dLen (eL cIs g.cuts)) = (g.cuts.length : Int) by simp]
 cases h2 : iEq (g.bins.length : Int) (g.cuts.length : Int)
 ·conv => whnf
  rw [gridOk_f (fun hc => by have := hc.2.1; simp at h2; omega)]
 have h2 : g.bins.length = g.cuts.length := by simp at h2; omega
 conv => whnf
 refine .inl ⟨_, _, _, spec_RowsIn_spec g, rfl, ?_⟩
 conv => whnf
 refine .inl ⟨_, _, _, spec_l1In_spec _ _ _, rfl, ?_⟩
 conv => whnf
 cases h3 : decide (1 ≤ (rowsIn g : Int) ∧ (rowsIn g : Int) ≤ 40)
 ·conv => whnf
  rw [decide_eq_false_iff_not] at h3
  rw [gridOk_f (fun hc => h3 ⟨by have := hc.2.2.1; omega, by have := hc.2.2.1; omega⟩)]
 rw [decide_eq_true_iff] at h3
 conv => whnf
 refine tri_rp 0 ?_
 conv => whnf
 refine tri_loop hT [1, 3] (α := Nat) (fun x => { t := [(1, .c (.d (.rp [.sl 1 (eL cIs g.cuts), .sl 1 (eL cIs g.bins)]))), (3, ai x)], h := [], n := 0, N := 76 })
  (fun x => x ≤ g.cuts.length ∧ ∀ j, j < x → gridAt g j) (fun x => g.cuts.length - x) 0 (by first | ((conv => whnf); done) | ((conv => whnf); rfl)) ⟨Nat.zero_le _, fun j h => by omega⟩ ?_
 intro k ⟨hk, hr⟩
 conv => whnf
 rw [show nInt (dLen (eL cIs g.cuts)) = (g.cuts.length : Int) by simp]
 refine ifB_i (fun h4 => ?_) (fun h4 => ?_) <;> (conv => whnf) <;> simp only [eH] at h4
 ·obtain ⟨c, hc⟩ := get_lt (show k < g.cuts.length by omega)
  obtain ⟨b, hb⟩ := get_lt (show k < g.bins.length by omega)
  have hcl := z3 c (List.mem_of_getElem? hc)
  have hbl := z4 b (List.mem_of_getElem? hb)
  refine tri_conf hT hmix (by kernel_rfl) ?_
  conv => whnf
  refine idx_at rfl hc ?_
  conv => whnf
  refine ⟨_, _, spec_CutsOk_spec c hcl, rfl, ?_⟩
  cases h5 : cutsOk c
  ·conv => whnf
   repeat' (first | (refine And.intro (fun q => ?_) (fun q => ?_) <;> cases q <;> (conv => whnf)) | fail)
   rw [gridOk_f (fun hp => by rw [cutsOk_t (hp.2.2.2 k c b hc hb).1] at h5; cases h5)]
  have h5' := cutsOk_iff.1 h5
  conv => whnf
  repeat' (first | (refine And.intro (fun q => ?_) (fun q => ?_) <;> cases q <;> (conv => whnf)) | fail)
  refine idx_at rfl hb ?_
  conv => whnf
  repeat' (first | (refine And.intro (fun q => ?_) (fun q => ?_) <;> cases q <;> (conv => whnf)) | fail)
  refine ⟨_, _, spec_RowsIn_spec g, rfl, ?_⟩
  conv => whnf
  repeat' (first | (refine And.intro (fun q => ?_) (fun q => ?_) <;> cases q <;> (conv => whnf)) | fail)
  rw [show nInt (dLen (eL cI b)) = (b.length : Int) by simp]
  cases h6 : iEq (b.length : Int) (rowsIn g : Int)
  ·conv => whnf
   repeat' (first | (refine And.intro (fun q => ?_) (fun q => ?_) <;> cases q <;> (conv => whnf)) | fail)
   rw [gridOk_f (fun hp => by have := (hp.2.2.2 k c b hc hb).2.1; simp at h6; omega)]
  have h6' : b.length = rowsIn g := by simp at h6; omega
  conv => whnf
  repeat' (first | (refine And.intro (fun q => ?_) (fun q => ?_) <;> cases q <;> (conv => whnf)) | fail)
  refine tri_loop hT [1, 3, 4] (α := Nat) (fun x => { t := [(1, .c (.d (.rp [.sl 1 (eL cIs g.cuts), .sl 1 (eL cIs g.bins)]))), (3, ai k), (4, ai x)], h := [], n := 0, N := 76 })
   (fun x => x ≤ b.length ∧ ∀ (j : Nat) (y : Int), j < x → b[j]? = some y → 0 ≤ y ∧ y ≤ (c.length : Int)) (fun x => b.length - x) 0 (by first | ((conv => whnf); done) | ((conv => whnf); rfl)) ⟨Nat.zero_le _, fun j y h => by omega⟩ ?_
  intro i ⟨hi, hq⟩
  conv => whnf
  refine idx_at rfl hb ?_
  conv => whnf
  rw [show nInt (dLen (eL cI b)) = (b.length : Int) by simp]
  refine ifB_i (fun h7 => ?_) (fun h7 => ?_) <;> (conv => whnf) <;> simp only [eH] at h7
  ·obtain ⟨y, hy⟩ := get_lt (show i < b.length by omega)
   refine tri_conf hT hmix (by kernel_rfl) ?_
   conv => whnf
   refine idx_at rfl hb ?_
   conv => whnf
   refine idx_at rfl hy ?_
   conv => whnf
   refine idx_at rfl hc ?_
   conv => whnf
   refine ⟨_, _, spec_l1In_spec _ _ _, rfl, ?_⟩
   conv => whnf
   rw [show nInt (dLen (eL cI c)) = (c.length : Int) by simp]
   cases h8 : decide (0 ≤ y ∧ y ≤ (c.length : Int))
   ·conv => whnf
    rw [decide_eq_false_iff_not] at h8
    rw [gridOk_f (fun hp => h8 ((hp.2.2.2 k c b hc hb).2.2 y (List.mem_of_getElem? hy)))]
   ·rw [decide_eq_true_iff] at h8
    conv => whnf
    refine ⟨i + 1, by omega, ⟨by omega, fun j x hj hx => ?_⟩, ?_⟩
    ·rcases Nat.lt_or_ge j i with q | q
     ·exact hq j x q hx
     ·obtain rfl : j = i := by omega
      rw [hy] at hx; cases hx; exact h8
    ((conv => whnf); simp only [eS, wI (show i < b.length by omega) (by omega)])
  ·refine ⟨k + 1, by omega, ⟨by omega, fun j hj => ?_⟩, ?_⟩
   ·rcases Nat.lt_or_ge j k with q | q
    ·exact hr j q
    ·obtain rfl : j = k := by omega
     intro c' b' hc' hb'
     rw [hc] at hc'; rw [hb] at hb'
     cases hc'; cases hb'
     refine ⟨h5', h6', fun x hx => ?_⟩
     obtain ⟨j', hj'⟩ := List.mem_iff_getElem?.1 hx
     exact hq j' x (by have := (List.getElem?_eq_some_iff.1 hj').1; omega) hj'
   ((conv => whnf); simp only [eS, wI (show k < g.cuts.length by omega) (by omega)])
 ·obtain rfl : k = g.cuts.length := by omega
  rw [gridOk_t ⟨by omega, h2, by omega, fun j => ?_⟩]
  rcases Nat.lt_or_ge j g.cuts.length with q | q
  ·exact hr j q
  ·intro c b hc
   rw [List.getElem?_eq_none q] at hc
   cases hc
theorem treeOk_shp {t : List Nd} {ft : Int} (h : treeOk t ft = true) : shapeOk t ft = true ∧ 1 ≤ t.length ∧ t.length ≤ 31 := by
 simp only [treeOk, Bool.and_eq_true, decide_eq_true_eq] at h
 exact ⟨h.2.2.1, by omega, by omega⟩
theorem steps_next (t : List Nd) : ∀ (n : Nat) (x : Int) (l : List Int), steps t n x = some l → ∀ (j : Nat) (a b : Int), l[j]? = some a → l[j + 1]? = some b → 0 ≤ up t a ∧ b = up t a
 | 0, x, l, h => by simp [steps] at h
 | n + 1, x, l, h => by
  simp only [steps, Option.map_eq_some_iff] at h
  obtain ⟨r, h1, rfl⟩ := h
  intro j a b ha hb
  split at h1
  ·cases h1; simp at hb
  ·rename_i hq
   cases j with
   | zero =>
    simp at ha hb
    subst ha
    refine ⟨by omega, ?_⟩
    cases n with
    | zero => simp [steps] at h1
    | succ n =>
     simp only [steps, Option.map_eq_some_iff] at h1
     obtain ⟨r', h2, rfl⟩ := h1
     simpa using hb.symm
   | succ j => exact steps_next t n _ r h1 j a b (by simpa using ha) (by simpa using hb)
theorem way_next {t : List Nd} {ft : Int} (h : shapeOk t ft = true) {x : Int} {i : Nat} {z z' : Int} (hz : (wayL t x)[i]? = some z) (hz' : (wayL t x)[i + 1]? = some z') :
  ∃ (j : Nat) (n : Nd), z = (j : Int) ∧ t[j]? = some n ∧ n.f ≠ -1 ∧ (n.l = z' ∨ n.r = z') := by
 unfold wayL at hz hz'
 split at hz
 ·rename_i hx
  rw [if_pos hx] at hz'
  split at hz
  ·rename_i l hl
   rw [hl] at hz'
   have hi := (List.getElem?_eq_some_iff.1 hz').1
   rw [List.length_reverse] at hi
   rw [List.getElem?_reverse (by omega)] at hz hz'
   have := steps_next t 32 x l hl (l.length - 1 - (i + 1)) z' z hz' (by rw [show l.length - 1 - (i + 1) + 1 = l.length - 1 - i by omega]; exact hz)
   obtain ⟨j, n, h1, h2, h3, h4, _⟩ := up_at h this.1
   exact ⟨j, n, by rw [this.2, h1], h2, h3, h4⟩
  ·cases hz
 ·cases hz
theorem allRowsL_len (n : Int) : (allRowsL n).length ≤ 40 := by
 unfold allRowsL
 split
 ·simp [upTo]; omega
 ·simp
def nrStep (g : Grd) (t : List Nd) (rows : List Int) (z z' : Int) : List Int := match t[z.toNat]? with
 | none => rows
 | some n => match g.cuts[n.f.toNat]?, g.bins[n.f.toNat]? with
  | some c, some b => if n.l = z' then (splitL b rows (binOfL c n.c)).1 else (splitL b rows (binOfL c n.c)).2
  | _, _ => rows
def nrWay (g : Grd) (t : List Nd) : List Int → List Int → List Int
 | rows, z :: z' :: w => nrWay g t (nrStep g t rows z z') (z' :: w)
 | rows, [_] => rows
 | rows, [] => rows
def nodeRowsL (g : Grd) (t : List Nd) (node : Int) : List Int := nrWay g t (allRowsL (rowsIn g)) (wayL t node)
noncomputable def nodeRowsR (g : Grd) (t : List Nd) (node : Int) : List Int := if gridOk g = true ∧ treeOk t g.cuts.length = true ∧ 0 ≤ node ∧ node ≤ (t.length : Int) - 1 then nodeRowsL g t node else []
theorem nrWay_two {g : Grd} {t : List Nd} {rows w : List Int} {i : Nat} {z z' : Int} (h : w[i]? = some z) (h' : w[i + 1]? = some z') : nrWay g t rows (w.drop i) = nrWay g t (nrStep g t rows z z') (w.drop (i + 1)) := by
 rw [drop_at h, drop_at h', nrWay]
theorem nrWay_end {g : Grd} {t : List Nd} {rows w : List Int} {i : Nat} (h : ¬ i + 1 < w.length) : nrWay g t rows (w.drop i) = rows := by
 have : (w.drop i).length ≤ 1 := by simp; omega
 match hd : w.drop i, this with
 | [], _ => rw [nrWay]
 | [x], _ => rw [nrWay]
theorem impl_nodeRows_spec (g : Grd) (t : List Nd) (node : Int) (hg : smG g) (hl : t.length ≤ 1048576) (h1 : gridOk g = true) (h2 : treeOk t g.cuts.length = true) :
  FnSpec PR f_impl_nodeRows [aG g, aT t, ai node] (.c (.ref 0 0 none)) [(0, .arr t_int 1 0 .own (eL cI (nodeRowsL g t node)))] 1 := by
 obtain ⟨z1, z2, z3, z4⟩ := hg
 have hG := gridOk_iff.1 h1
 have hS := (treeOk_shp h2).1
 refine FnSpec.intro hT (pf Tryz.func95) rfl (by kernel_rfl) Tryz.ntmps95 rfl ?_
 conv => whnf
 refine tri_rp 0 ?_
 conv => whnf
 refine tri_rp 1 ?_
 conv => whnf
 refine tri_every hT hmix [3, 4, 7, 8] { t := [(3, .c (.d (.rp [.sl 1 (eL cIs g.cuts), .sl 1 (eL cIs g.bins)]))), (4, .c (.d (.rp [.sl 5 (eL cN t)]))), (7, .c (.ref 0 0 none)), (8, .c (.ref 1 0 none))], h := [(0, .arr t_int 1 0 .own (eL cI (allRowsL (rowsIn g)))), (1, .arr t_int 1 0 .own (eL cI (wayL t node)))], n := 2, N := 65 } rfl ?_ ?_
 ·repeat' first
   | (refine anyV_one rfl ?_; (conv => whnf))
   | (refine anyV_two rfl ?_ ?_ <;> (conv => whnf))
   | (refine .inl ⟨_, _, _, impl_RowsIn_spec g, rfl, ?_⟩; (conv => whnf))
   | (refine .inl ⟨_, _, _, impl_AllRows_spec _, rfl, ?_⟩; (conv => whnf))
   | (refine .inl ⟨_, _, _, impl_wayTo_spec t node (by omega), rfl, ?_⟩; (conv => whnf))
   | (refine anyV_end rfl ?_; (conv => whnf); first | done | (simp only [partOf_none]; done) | (simp only [partOf_none]; rfl))
 conv => whnf
 refine tri_loop hT [3, 4, 7, 8, 9] (α := Nat × List Int) (fun x => { t := [(3, .c (.d (.rp [.sl 1 (eL cIs g.cuts), .sl 1 (eL cIs g.bins)]))), (4, .c (.d (.rp [.sl 5 (eL cN t)]))), (7, .c (.ref 0 0 none)), (8, .c (.ref 1 0 none)), (9, ai x.1)], h := [(0, .arr t_int 1 0 .own (eL cI x.2)), (1, .arr t_int 1 0 .own (eL cI (wayL t node)))], n := 2, N := 65 })
  (fun x => (x.1 + 1 ≤ (wayL t node).length ∨ x.1 = 0) ∧ x.2.length ≤ 1048576 ∧ nrWay g t x.2 ((wayL t node).drop x.1) = nodeRowsL g t node) (fun x => (wayL t node).length - x.1) (0, allRowsL (rowsIn g)) (by first | ((conv => whnf); done) | ((conv => whnf); rfl)) ⟨.inr rfl, by have := allRowsL_len (rowsIn g); dsimp only; omega, rfl⟩ ?_
 intro ⟨k, rs⟩ ⟨hk, hr, hw⟩
 dsimp only at hk hr hw
 have hwl := wayL_len t node
 conv => whnf
 rw [show wAdd .i64 (k : Int) 1 = ((k + 1 : Nat) : Int) from by rw [wAdd64] <;> omega]
 refine ifB_i (fun h3 => ?_) (fun h3 => ?_) <;> (conv => whnf) <;> simp only [eH, lenRE_none] at h3
 ·obtain ⟨z, hz⟩ := get_lt (show k < (wayL t node).length by omega)
  obtain ⟨z', hz'⟩ := get_lt (show k + 1 < (wayL t node).length by omega)
  obtain ⟨j, n, rfl, hn, hf, hlr⟩ := way_next hS hz hz'
  obtain ⟨k1, k2, k3, k4, k5, k6, k7, k8⟩ := shape_kids hS hn hf
  obtain ⟨c, hc⟩ := get_lt (show n.f.toNat < g.cuts.length by omega)
  obtain ⟨b, hb⟩ := get_lt (show n.f.toNat < g.bins.length by have := hG.2.1; omega)
  have hcl := z3 c (List.mem_of_getElem? hc)
  have hbl := z4 b (List.mem_of_getElem? hb)
  have hfn : n.f = (n.f.toNat : Int) := by omega
  rw [nrWay_two hz hz'] at hw
  have hst : nrStep g t rs (j : Int) z' = if n.l = z' then (splitL b rs (binOfL c n.c)).1 else (splitL b rs (binOfL c n.c)).2 := by simp only [nrStep, Int.toNat_natCast, hn, hc, hb]
  have hsl := splitL_len b rs (binOfL c n.c)
  refine tri_every hT hmix [3, 4, 7, 8, 9, 10] { t := [(3, .c (.d (.rp [.sl 1 (eL cIs g.cuts), .sl 1 (eL cIs g.bins)]))), (4, .c (.d (.rp [.sl 5 (eL cN t)]))), (7, .c (.ref 0 0 none)), (8, .c (.ref 1 0 none)), (9, ai k), (10, .c (.ptr 2 0))], h := [(0, .arr t_int 1 0 .own (eL cI rs)), (1, .arr t_int 1 0 .own (eL cI (wayL t node))), (2, .box t_impl_Node (cNd n))], n := 3, N := 65 } rfl ?_ ?_
  ·repeat' first
    | (refine anyV_one rfl ?_; (conv => whnf))
    | (refine anyV_two rfl ?_ ?_ <;> (conv => whnf))
    | (refine anyV_three rfl ?_ ?_ ?_ <;> (conv => whnf))
    | (refine ref_at (k := k) rfl (by first | omega | (simp only [eL_length]; omega) | (simp; omega)) ?_; (conv => whnf))
    | (refine ld_at (by simp) hz ?_; (conv => whnf))
    | (refine idx_at (k := j) rfl hn ?_; (conv => whnf))
    | (refine anyV_end rfl ?_; (conv => whnf); first | done | (simp only [partOf_none]; done) | (simp only [partOf_none]; rfl))
  conv => whnf
  refine tri_rp 2 ?_
  conv => whnf
  refine tri_every hT hmix [3, 4, 8, 9, 10, 11, 12] { t := [(3, .c (.d (.rp [.sl 1 (eL cIs g.cuts), .sl 1 (eL cIs g.bins)]))), (4, .c (.d (.rp [.sl 5 (eL cN t)]))), (8, .c (.ref 0 0 none)), (9, ai k), (10, .c (.d (.rp (cN n)))), (11, .c (.ref 1 0 none)), (12, .c (.ref 2 0 none))], h := [(0, .arr t_int 1 0 .own (eL cI (wayL t node))), (1, .arr t_int 1 0 .own (eL cI (splitL b rs (binOfL c n.c)).1)), (2, .arr t_int 1 0 .own (eL cI (splitL b rs (binOfL c n.c)).2))], n := 3, N := 65 } rfl ?_ ?_
  ·repeat' first
    | (refine anyV_one rfl ?_; (conv => whnf))
    | (refine anyV_two rfl ?_ ?_ <;> (conv => whnf))
    | (refine anyV_three rfl ?_ ?_ ?_ <;> (conv => whnf))
    | (refine idx_at hfn hc ?_; (conv => whnf))
    | (refine idx_at hfn hb ?_; (conv => whnf))
    | (refine .inl ⟨_, _, _, impl_BinOf_spec c n.c hcl, rfl, ?_⟩; (conv => whnf))
    | (refine .inl ⟨_, _, _, impl_SplitRows_spec b rs (binOfL c n.c) hbl hr, rfl, ?_⟩; (conv => whnf))
    | (refine anyV_end rfl ?_; (conv => whnf); first | done | (simp only [partOf_none]; done) | (simp only [partOf_none]; rfl))
  conv => whnf
  refine tri_every hT hmix [3, 4, 8, 9, 11, 12, 61] { t := [(3, .c (.d (.rp [.sl 1 (eL cIs g.cuts), .sl 1 (eL cIs g.bins)]))), (4, .c (.d (.rp [.sl 5 (eL cN t)]))), (8, .c (.ref 0 0 none)), (9, ai k), (11, .c (.ref 1 0 none)), (12, .c (.ref 2 0 none)), (61, ab (iEq z' n.l))], h := [(0, .arr t_int 1 0 .own (eL cI (wayL t node))), (1, .arr t_int 1 0 .own (eL cI (splitL b rs (binOfL c n.c)).1)), (2, .arr t_int 1 0 .own (eL cI (splitL b rs (binOfL c n.c)).2))], n := 3, N := 65 } rfl ?_ ?_
  ·repeat' first
    | (refine anyV_one rfl ?_; (conv => whnf))
    | (refine anyV_two rfl ?_ ?_ <;> (conv => whnf))
    | (refine anyV_three rfl ?_ ?_ ?_ <;> (conv => whnf))
    | (refine ref_at (k := k + 1) (by rw [wAdd64] <;> omega) (by first | omega | (simp only [eL_length]; omega) | (simp; omega)) ?_; (conv => whnf))
    | (refine ld_at (by first | rfl | (rw [wAdd64] <;> first | omega | (simp <;> omega))) hz' ?_; (conv => whnf))
    | (refine anyV_end rfl ?_; (conv => whnf); first | done | (simp only [partOf_none]; done) | (simp only [partOf_none]; rfl))
  conv => whnf
  refine ifB_i (fun h4 => ?_) (fun h4 => ?_) <;> (conv => whnf) <;> simp only [eH] at h4
  ·rw [hst, if_pos h4.symm] at hw
   refine ⟨(k + 1, (splitL b rs (binOfL c n.c)).1), by dsimp only; omega, ⟨by dsimp only; omega, by dsimp only; omega, hw⟩, ?_⟩
   ((conv => whnf); simp only [eS, wI (show k < 32 by omega) (by omega), partOf_none])
  ·rw [hst, if_neg (fun q => h4 q.symm)] at hw
   refine ⟨(k + 1, (splitL b rs (binOfL c n.c)).2), by dsimp only; omega, ⟨by dsimp only; omega, by dsimp only; omega, hw⟩, ?_⟩
   ((conv => whnf); simp only [eS, wI (show k < 32 by omega) (by omega), partOf_none])
 ·rw [nrWay_end (by omega)] at hw
  ((conv => whnf); simp only [eS, hw])
theorem nodeRowsR_no {g : Grd} {t : List Nd} {node : Int} (h : ¬ (gridOk g = true ∧ treeOk t g.cuts.length = true ∧ 0 ≤ node ∧ node ≤ (t.length : Int) - 1)) : nodeRowsR g t node = [] := if_neg h
theorem nodeRowsR_yes {g : Grd} {t : List Nd} {node : Int} (h : gridOk g = true ∧ treeOk t g.cuts.length = true ∧ 0 ≤ node ∧ node ≤ (t.length : Int) - 1) : nodeRowsR g t node = nodeRowsL g t node := if_pos h
theorem impl_NodeRows_spec (g : Grd) (t : List Nd) (node : Int) (hg : smG g) (hl : t.length ≤ 1048576) :
  FnSpec PR f_impl_NodeRows [aG g, aT t, ai node] (.c (.ref 0 0 none)) [(0, .arr t_int 1 0 .own (eL cI (nodeRowsR g t node)))] 1 := by
 have z1 := hg.1
 refine FnSpec.intro hT (pf Tryz.func35) rfl (by kernel_rfl) Tryz.ntmps35 rfl ?_
 conv => whnf
 refine .inl ⟨_, _, _, impl_GridOk_spec g hg, rfl, ?_⟩
 cases h1 : gridOk g
 ·conv => whnf
  rw [nodeRowsR_no (fun q => by rw [h1] at q; exact absurd q.1 (by simp)), eL_nil]
 conv => whnf
 refine .inl ⟨_, _, _, impl_TreeOk_spec t (nInt (dLen (eL cIs g.cuts))) hl, rfl, ?_⟩
 rw [show nInt (dLen (eL cIs g.cuts)) = (g.cuts.length : Int) by simp]
 cases h2 : treeOk t g.cuts.length
 ·conv => whnf
  rw [nodeRowsR_no (fun q => by rw [h2] at q; exact absurd q.2.1 (by simp)), eL_nil]
 conv => whnf
 refine .inl ⟨_, _, _, impl_within_spec _ _ _, rfl, ?_⟩
 conv => whnf
 rw [show wSub .i64 (nInt (dLen (eL cN t))) 1 = (t.length : Int) - 1 from by rw [show nInt (dLen (eL cN t)) = (t.length : Int) by simp, wSub64] <;> omega]
 cases h3 : decide (0 ≤ node ∧ node ≤ (t.length : Int) - 1)
 ·conv => whnf
  rw [decide_eq_false_iff_not] at h3
  rw [nodeRowsR_no (fun q => h3 q.2.2), eL_nil]
 rw [decide_eq_true_iff] at h3
 rw [nodeRowsR_yes ⟨h1, h2, h3⟩]
 conv => whnf
 refine .inl ⟨_, _, _, impl_nodeRows_spec g t node hg hl h1 h2, rfl, ?_⟩
 conv => whnf
theorem spec_NodeRows_spec (g : Grd) (t : List Nd) (node : Int) (hg : smG g) (hl : t.length ≤ 1048576) :
  FnSpec PR f_spec_NodeRows [aG g, aT t, ai node] (.c (.ref 0 0 none)) [(0, .arr t_int 1 0 .own (eL cI (nodeRowsR g t node)))] 1 := by
 have hg' := hg
 obtain ⟨z1, z2, z3, z4⟩ := hg
 refine FnSpec.intro hT (pf Tryz.func78) rfl (by kernel_rfl) Tryz.ntmps78 rfl ?_
 conv => whnf
 refine .inl ⟨_, _, _, spec_GridOk_spec g hg', rfl, ?_⟩
 cases h1 : gridOk g
 ·conv => whnf
  rw [nodeRowsR_no (fun q => by rw [h1] at q; exact absurd q.1 (by simp)), eL_nil]
 conv => whnf
 refine .inl ⟨_, _, _, spec_TreeOk_spec t (nInt (dLen (eL cIs g.cuts))) hl, rfl, ?_⟩
 rw [show nInt (dLen (eL cIs g.cuts)) = (g.cuts.length : Int) by simp]
 cases h2 : treeOk t g.cuts.length
 ·conv => whnf
  rw [nodeRowsR_no (fun q => by rw [h2] at q; exact absurd q.2.1 (by simp)), eL_nil]
 conv => whnf
 refine .inl ⟨_, _, _, spec_l1In_spec _ _ _, rfl, ?_⟩
 conv => whnf
 rw [show wSub .i64 (nInt (dLen (eL cN t))) 1 = (t.length : Int) - 1 from by rw [show nInt (dLen (eL cN t)) = (t.length : Int) by simp, wSub64] <;> omega]
 cases h3 : decide (0 ≤ node ∧ node ≤ (t.length : Int) - 1)
 ·conv => whnf
  rw [decide_eq_false_iff_not] at h3
  rw [nodeRowsR_no (fun q => h3 q.2.2), eL_nil]
 rw [decide_eq_true_iff] at h3
 rw [nodeRowsR_yes ⟨h1, h2, h3⟩]
 have hG := gridOk_iff.1 h1
 have hS := (treeOk_shp h2).1
 conv => whnf
 refine .inl ⟨_, _, _, spec_RowsIn_spec g, rfl, ?_⟩
 conv => whnf
 refine .inl ⟨_, _, _, spec_AllRows_spec _, rfl, ?_⟩
 conv => whnf
 refine .inl ⟨_, _, _, spec_WayTo_spec t node (by omega), rfl, ?_⟩
 conv => whnf
 refine tri_rp 0 ?_
 conv => whnf
 refine tri_rp 1 ?_
 conv => whnf
 refine tri_loop hT [3, 4, 7, 8, 9] (α := Nat × List Int) (fun x => { t := [(3, .c (.d (.rp [.sl 1 (eL cIs g.cuts), .sl 1 (eL cIs g.bins)]))), (4, .c (.d (.rp [.sl 5 (eL cN t)]))), (7, .c (.ref 0 0 none)), (8, .c (.ref 1 0 none)), (9, ai x.1)], h := [(0, .arr t_int 1 0 .own (eL cI x.2)), (1, .arr t_int 1 0 .own (eL cI (wayL t node)))], n := 2, N := 86 })
  (fun x => (x.1 + 1 ≤ (wayL t node).length ∨ x.1 = 0) ∧ x.2.length ≤ 1048576 ∧ nrWay g t x.2 ((wayL t node).drop x.1) = nodeRowsL g t node) (fun x => (wayL t node).length - x.1) (0, allRowsL (rowsIn g)) (by first | ((conv => whnf); done) | ((conv => whnf); rfl)) ⟨.inr rfl, by have := allRowsL_len (rowsIn g); dsimp only; omega, rfl⟩ ?_
 intro ⟨k, rs⟩ ⟨hk, hr, hw⟩
 dsimp only at hk hr hw
 have hwl := wayL_len t node
 conv => whnf
 rw [show wAdd .i64 (k : Int) 1 = ((k + 1 : Nat) : Int) from by rw [wAdd64] <;> omega]
 refine ifB_i (fun h3 => ?_) (fun h3 => ?_) <;> (conv => whnf) <;> simp only [eH, lenRE_none] at h3
 ·obtain ⟨z, hz⟩ := get_lt (show k < (wayL t node).length by omega)
  obtain ⟨z', hz'⟩ := get_lt (show k + 1 < (wayL t node).length by omega)
  obtain ⟨j, n, rfl, hn, hf, hlr⟩ := way_next hS hz hz'
  obtain ⟨k1, k2, k3, k4, k5, k6, k7, k8⟩ := shape_kids hS hn hf
  obtain ⟨c, hc⟩ := get_lt (show n.f.toNat < g.cuts.length by omega)
  obtain ⟨b, hb⟩ := get_lt (show n.f.toNat < g.bins.length by have := hG.2.1; omega)
  have hcl := z3 c (List.mem_of_getElem? hc)
  have hbl := z4 b (List.mem_of_getElem? hb)
  have hfn : n.f = (n.f.toNat : Int) := by omega
  rw [nrWay_two hz hz'] at hw
  have hst : nrStep g t rs (j : Int) z' = if n.l = z' then (splitL b rs (binOfL c n.c)).1 else (splitL b rs (binOfL c n.c)).2 := by simp only [nrStep, Int.toNat_natCast, hn, hc, hb]
  have hsl := splitL_len b rs (binOfL c n.c)
  refine tri_every hT hmix [3, 4, 7, 8, 9, 10] { t := [(3, .c (.d (.rp [.sl 1 (eL cIs g.cuts), .sl 1 (eL cIs g.bins)]))), (4, .c (.d (.rp [.sl 5 (eL cN t)]))), (7, .c (.ref 0 0 none)), (8, .c (.ref 1 0 none)), (9, ai k), (10, .c (.ptr 2 0))], h := [(0, .arr t_int 1 0 .own (eL cI rs)), (1, .arr t_int 1 0 .own (eL cI (wayL t node))), (2, .box t_impl_Node (cNd n))], n := 3, N := 86 } rfl ?_ ?_
  ·repeat' first
    | (refine anyV_one rfl ?_; (conv => whnf))
    | (refine anyV_two rfl ?_ ?_ <;> (conv => whnf))
    | (refine anyV_three rfl ?_ ?_ ?_ <;> (conv => whnf))
    | (refine ref_at (k := k) rfl (by first | omega | (simp only [eL_length]; omega) | (simp; omega)) ?_; (conv => whnf))
    | (refine ld_at (by simp) hz ?_; (conv => whnf))
    | (refine idx_at (k := j) rfl hn ?_; (conv => whnf))
    | (refine anyV_end rfl ?_; (conv => whnf); first | done | (simp only [partOf_none]; done) | (simp only [partOf_none]; rfl))
  conv => whnf
  refine tri_rp 2 ?_
  conv => whnf
  refine tri_every hT hmix [3, 4, 8, 9, 10, 11, 12] { t := [(3, .c (.d (.rp [.sl 1 (eL cIs g.cuts), .sl 1 (eL cIs g.bins)]))), (4, .c (.d (.rp [.sl 5 (eL cN t)]))), (8, .c (.ref 0 0 none)), (9, ai k), (10, .c (.d (.rp (cN n)))), (11, .c (.ref 1 0 none)), (12, .c (.ref 2 0 none))], h := [(0, .arr t_int 1 0 .own (eL cI (wayL t node))), (1, .arr t_int 1 0 .own (eL cI (splitL b rs (binOfL c n.c)).1)), (2, .arr t_int 1 0 .own (eL cI (splitL b rs (binOfL c n.c)).2))], n := 3, N := 86 } rfl ?_ ?_
  ·repeat' first
    | (refine anyV_one rfl ?_; (conv => whnf))
    | (refine anyV_two rfl ?_ ?_ <;> (conv => whnf))
    | (refine anyV_three rfl ?_ ?_ ?_ <;> (conv => whnf))
    | (refine idx_at hfn hc ?_; (conv => whnf))
    | (refine idx_at hfn hb ?_; (conv => whnf))
    | (refine .inl ⟨_, _, _, spec_BinOf_spec c n.c hcl, rfl, ?_⟩; (conv => whnf))
    | (refine .inl ⟨_, _, _, spec_SplitRows_spec b rs (binOfL c n.c) hbl hr, rfl, ?_⟩; (conv => whnf))
    | (refine anyV_end rfl ?_; (conv => whnf); first | done | (simp only [partOf_none]; done) | (simp only [partOf_none]; rfl))
  conv => whnf
  refine tri_every hT hmix [3, 4, 7, 8, 9, 11, 83] { t := [(3, .c (.d (.rp [.sl 1 (eL cIs g.cuts), .sl 1 (eL cIs g.bins)]))), (4, .c (.d (.rp [.sl 5 (eL cN t)]))), (7, .c (.ref 0 0 none)), (8, .c (.ref 1 0 none)), (9, ai k), (11, .c (.ref 2 0 none)), (83, ab (iEq n.l z'))], h := [(0, .arr t_int 1 0 .own (eL cI (splitL b rs (binOfL c n.c)).2)), (1, .arr t_int 1 0 .own (eL cI (wayL t node))), (2, .arr t_int 1 0 .own (eL cI (splitL b rs (binOfL c n.c)).1))], n := 3, N := 86 } rfl ?_ ?_
  ·repeat' first
    | (refine anyV_one rfl ?_; (conv => whnf))
    | (refine anyV_two rfl ?_ ?_ <;> (conv => whnf))
    | (refine anyV_three rfl ?_ ?_ ?_ <;> (conv => whnf))
    | (refine ref_at (k := k + 1) (by rw [wAdd64] <;> omega) (by first | omega | (simp only [eL_length]; omega) | (simp; omega)) ?_; (conv => whnf))
    | (refine ld_at (by first | rfl | (rw [wAdd64] <;> first | omega | (simp <;> omega))) hz' ?_; (conv => whnf))
    | (refine anyV_end rfl ?_; (conv => whnf); first | done | (simp only [partOf_none]; done) | (simp only [partOf_none]; rfl))
  conv => whnf
  refine ifB_i (fun h4 => ?_) (fun h4 => ?_) <;> (conv => whnf) <;> simp only [eH] at h4
  ·rw [hst, if_pos h4] at hw
   refine ⟨(k + 1, (splitL b rs (binOfL c n.c)).1), by dsimp only; omega, ⟨by dsimp only; omega, by dsimp only; omega, hw⟩, ?_⟩
   ((conv => whnf); simp only [eS, wI (show k < 32 by omega) (by omega), partOf_none])
  ·rw [hst, if_neg h4] at hw
   refine ⟨(k + 1, (splitL b rs (binOfL c n.c)).2), by dsimp only; omega, ⟨by dsimp only; omega, by dsimp only; omega, hw⟩, ?_⟩
   ((conv => whnf); simp only [eS, wI (show k < 32 by omega) (by omega), partOf_none])
 ·rw [nrWay_end (by omega)] at hw
  ((conv => whnf); simp only [eS, hw])
end Go.H.S
namespace Go.H.S
open Go Go.Proofs Go.H
theorem and_xor_nat : ∀ (m n : Nat), 2 * (m &&& n) + (m ^^^ n) = m + n := by
 intro m
 induction m using Nat.strongRecOn with
 | ind m ih =>
  intro n
  rcases Nat.eq_zero_or_pos m with rfl | hm
  ·simp
  ·have h := ih (m / 2) (by omega) (n / 2)
   have h1 : (m &&& n) / 2 = m / 2 &&& n / 2 := Nat.and_div_two
   have h2 : (m ^^^ n) / 2 = m / 2 ^^^ n / 2 := Nat.xor_div_two
   have h3 : (m &&& n) % 2 = 1 ↔ m % 2 = 1 ∧ n % 2 = 1 := Nat.and_mod_two_eq_one
   have h4 : (m ^^^ n) % 2 = (m + n) % 2 := by
    have h5 := Nat.xor_mod_two_pow (a := m) (b := n) (n := 1)
    rw [show 2 ^ 1 = 2 from rfl] at h5
    rw [h5, Nat.add_mod]
    have a1 : m % 2 = 0 ∨ m % 2 = 1 := by omega
    have a2 : n % 2 = 0 ∨ n % 2 = 1 := by omega
    rcases a1 with a1 | a1 <;> rcases a2 with a2 | a2 <;> rw [a1, a2] <;> rfl
   rw [← h1, ← h2] at h
   omega
theorem and_xor_int (x y : BitVec 64) : 2 * (x &&& y).toInt + (x ^^^ y).toInt = x.toInt + y.toInt := by
 have h := and_xor_nat x.toNat y.toNat
 rw [BitVec.toInt_eq_msb_cond, BitVec.toInt_eq_msb_cond, BitVec.toInt_eq_msb_cond, BitVec.toInt_eq_msb_cond, BitVec.msb_and, BitVec.msb_xor, BitVec.toNat_and, BitVec.toNat_xor]
 cases hx : x.msb <;> cases hy : y.msb <;> simp <;> omega
theorem and_one_int (x y : BitVec 64) : (x &&& y &&& 1#64).toInt = if x.toInt % 2 = 1 ∧ y.toInt % 2 = 1 then 1 else 0 := by
 have e : (x &&& y &&& 1#64).toNat = (x.toNat &&& y.toNat) % 2 := by
  rw [BitVec.toNat_and, BitVec.toNat_and]
  exact Nat.and_one_is_mod _
 have h3 : (x.toNat &&& y.toNat) % 2 = 1 ↔ x.toNat % 2 = 1 ∧ y.toNat % 2 = 1 := Nat.and_mod_two_eq_one
 have o : ∀ z : BitVec 64, z.toInt % 2 = (z.toNat % 2 : Nat) := fun z => by
  rw [BitVec.toInt_eq_toNat_cond]; split <;> omega
 rw [BitVec.toInt_eq_toNat_cond, e, o x, o y]
 by_cases q : x.toNat % 2 = 1 ∧ y.toNat % 2 = 1
 ·rw [if_pos (by omega : ((x.toNat % 2 : Nat) : Int) = 1 ∧ ((y.toNat % 2 : Nat) : Int) = 1), h3.2 q]; rfl
 ·have : (x.toNat &&& y.toNat) % 2 = 0 := by have := (not_congr h3).2 q; omega
  rw [this]
  rw [if_pos (by decide), if_neg]
  ·rfl
  ·omega
theorem wrap_nat {n : Nat} (h : n < 18446744073709551616) : IntKind.i64.wrap (n : Int) = if 2 * n < 18446744073709551616 then (n : Int) else (n : Int) - 18446744073709551616 := by
 show (if (true && decide ((n : Int) % 18446744073709551616 ≥ 9223372036854775808)) = true then (n : Int) % 18446744073709551616 - 18446744073709551616 else (n : Int) % 18446744073709551616) = _
 rw [show ((n : Int) % 18446744073709551616) = n by omega]
 simp only [Bool.true_and, decide_eq_true_eq]
 split <;> split <;> omega
theorem wrapB_int (r : BitVec 64) : wrapB .i64 r = r.toInt := by
 unfold wrapB
 refine (wrap_nat (n := r.toNat) r.isLt).trans ?_
 rw [BitVec.toInt_eq_toNat_cond]
 rfl
theorem wAnd_int (a b : Int) : wAnd .i64 a b = (BitVec.ofInt 64 a &&& BitVec.ofInt 64 b).toInt := by unfold wAnd; exact wrapB_int _
theorem wXor_int (a b : Int) : wXor .i64 a b = (BitVec.ofInt 64 a ^^^ BitVec.ofInt 64 b).toInt := by unfold wXor; exact wrapB_int _
theorem wShr_one (x : Int) : wShr .i64 x 1 = x / 2 := by
 unfold wShr
 show x.fdiv (2 ^ 1) = x / 2
 rw [Int.fdiv_eq_ediv_of_nonneg _ (by decide)]; rfl
theorem ofInt_int {a : Int} (h : i64 a) : (BitVec.ofInt 64 a).toInt = a := by
 have h : -9223372036854775808 ≤ a ∧ a ≤ 9223372036854775807 := h
 rw [BitVec.toInt_ofInt, Int.bmod_def]
 split <;> omega
theorem ofInt_toInt (r : BitVec 64) : BitVec.ofInt 64 r.toInt = r := by simp
theorem half_spec {a b : Int} (ha : -4611686018427387904 ≤ a ∧ a ≤ 4611686018427387903) (hb : -4611686018427387904 ≤ b ∧ b ≤ 4611686018427387903) : wAdd .i64 (wAnd .i64 a b) (wShr .i64 (wXor .i64 a b) 1) = (a + b) / 2 := by
 have h := and_xor_int (BitVec.ofInt 64 a) (BitVec.ofInt 64 b)
 rw [ofInt_int (show i64 a from ⟨by omega, by omega⟩), ofInt_int (show i64 b from ⟨by omega, by omega⟩)] at h
 rw [wAnd_int, wXor_int, wShr_one]
 generalize (BitVec.ofInt 64 a &&& BitVec.ofInt 64 b).toInt = p at *
 generalize (BitVec.ofInt 64 a ^^^ BitVec.ofInt 64 b).toInt = q at *
 rw [wAdd64] <;> omega
theorem half_impl {a b : Int} (ha : -4611686018427387904 ≤ a ∧ a ≤ 4611686018427387903) (hb : -4611686018427387904 ≤ b ∧ b ≤ 4611686018427387903) :
  wAdd .i64 (wAdd .i64 (wShr .i64 a 1) (wShr .i64 b 1)) (wAnd .i64 (wAnd .i64 a b) 1) = (a + b) / 2 := by
 have h := and_one_int (BitVec.ofInt 64 a) (BitVec.ofInt 64 b)
 rw [ofInt_int (show i64 a from ⟨by omega, by omega⟩), ofInt_int (show i64 b from ⟨by omega, by omega⟩)] at h
 have e2 : wAnd .i64 (BitVec.ofInt 64 a &&& BitVec.ofInt 64 b).toInt 1 = (BitVec.ofInt 64 a &&& BitVec.ofInt 64 b &&& 1#64).toInt := by
  rw [wAnd_int, ofInt_toInt]; rfl
 rw [wAnd_int a b, e2, wShr_one, wShr_one, h, wAdd64 (x := a / 2) (y := b / 2) (by omega) (by omega)]
 split
 ·rw [wAdd64] <;> omega
 ·rw [wAdd64] <;> omega
end Go.H.S
namespace Go.H.S
open Go Go.Proofs Go.H
attribute [local irreducible] Tri FnSpec FnSpecM FnSpecX FnSpecJ
def letterB (b : UInt8) : Bool := decide (97 ≤ (b.toNat : Int) ∧ (b.toNat : Int) ≤ 122)
def digitB (b : UInt8) : Bool := decide (48 ≤ (b.toNat : Int) ∧ (b.toNat : Int) ≤ 57)
def nameL : List UInt8 → Nat → Bool
 | [], _ => true
 | b :: r, k => (letterB b || (decide (k ≠ 0) && digitB b)) && nameL r (k + 1)
def nameOk (s : ByteArray) : Bool := decide (1 ≤ (s.size : Int) ∧ (s.size : Int) ≤ 12) && nameL s.data.toList 0
theorem nameL_late : ∀ (l : List UInt8) (k : Nat), 0 < k → nameL l k = l.all fun b => letterB b || digitB b
 | [], k, h => rfl
 | b :: r, k, h => by
  simp only [nameL, List.all_cons, nameL_late r (k + 1) (by omega)]
  rw [show decide (k ≠ 0) = true from decide_eq_true (by omega), Bool.true_and]
theorem str_at {s : ByteArray} {n : Int} {k : Nat} {b : UInt8} {K : UInt8 → Prop} (hn : n = (k : Int)) (hb : s.data.toList[k]? = some b) (h : K b) : InB n s.size ∧ ∀ c, AtB s (nOf n) c → K c := by
 subst hn
 have hlt := (List.getElem?_eq_some_iff.1 hb).1
 refine ⟨by simp; exact hlt, fun c hc => ?_⟩
 have hc' : s.data.toList[nOf (k : Int)]? = some c := by unfold AtB at hc; exact hc
 rw [nOf_eq, Int.toNat_natCast, hb] at hc'
 cases hc'
 exact h
theorem byte_get {s : ByteArray} {k : Nat} (h : k < s.size) : ∃ b, s.data.toList[k]? = some b := get_lt (l := s.data.toList) (by simpa using h)
theorem bInt_eq' (b : UInt8) : bInt b = (b.toNat : Int) := by unfold bInt; rfl
theorem bInt_lt (b : UInt8) : 0 ≤ bInt b ∧ bInt b < 256 := by rw [bInt_eq']; have := b.toNat_lt; omega
theorem wConv_byte (b : UInt8) : wConv .i64 (bInt b) = bInt b := by
 have := bInt_lt b
 unfold wConv
 exact wrap64 (by omega) (by omega)
theorem letter_b (b : UInt8) : letterB b = decide (97 ≤ bInt b ∧ bInt b ≤ 122) := by rw [bInt_eq']; rfl
theorem digit_b (b : UInt8) : digitB b = decide (48 ≤ bInt b ∧ bInt b ≤ 57) := by rw [bInt_eq']; rfl
theorem toList_cons {s : ByteArray} {b : UInt8} (h : s.data.toList[0]? = some b) : ∃ r, s.data.toList = b :: r := by
 generalize s.data.toList = l at *
 cases l with
 | nil => simp at h
 | cons x r => simp at h; subst h; exact ⟨r, rfl⟩
theorem spec_NameOk_spec (s : ByteArray) (hs : s.size ≤ 9223372036854775807) : FnSpec PR f_spec_NameOk [aS s] (ab (nameOk s)) [] 0 := by
 have hsz : s.data.toList.length = s.size := by simp
 refine FnSpec.intro hT (pf Tryz.func159) rfl (by kernel_rfl) Tryz.ntmps159 rfl ?_
 conv => whnf
 refine .inl ⟨_, _, _, spec_l1In_spec _ _ _, rfl, ?_⟩
 conv => whnf
 refine ifB_i (fun h1 => ?_) (fun h1 => ?_) <;> (conv => whnf) <;> simp only [eH] at h1
 ·have : decide (1 ≤ (s.size : Int) ∧ (s.size : Int) ≤ 12) = false := by simpa using h1
  simp [nameOk, this]
 have hno : nameOk s = nameL s.data.toList 0 := by simp only [nameOk]; rw [h1]; rfl
 have h1' := of_decide_eq_true h1
 obtain ⟨b0, hb0⟩ := byte_get (s := s) (k := 0) (by omega)
 refine str_at (k := 0) rfl hb0 ?_
 conv => whnf
 refine ifB_i (fun h2 => ?_) (fun h2 => ?_) <;> (conv => whnf) <;> simp only [eH] at h2
 ·obtain ⟨r, hr⟩ := toList_cons hb0
  have hl : letterB b0 = false := by rw [letter_b]; exact decide_eq_false (by omega)
  rw [hno, hr, nameL, hl]
  rfl
 refine tri_loop hT [0, 3] (α := Nat) (fun k => { t := [(0, aS s), (3, ai k)], h := [], n := 0, N := 33 })
  (fun k => k ≤ s.size ∧ ((s.data.toList.drop k).all fun b => letterB b || digitB b) = (s.data.toList.all fun b => letterB b || digitB b)) (fun k => s.size - k) 0 (by ((conv => whnf); simp only [eS])) ⟨Nat.zero_le _, rfl⟩ ?_
 intro k ⟨hk, hn⟩
 conv => whnf
 refine ifB_i (fun h3 => ?_) (fun h3 => ?_) <;> (conv => whnf) <;> simp at h3
 ·obtain ⟨b, hb⟩ := byte_get h3
  rw [drop_at hb, List.all_cons] at hn
  refine str_at (k := k) rfl hb ?_
  conv => whnf
  refine .inl ⟨_, _, _, spec_l1In_spec _ _ _, rfl, ?_⟩
  rw [wConv_byte, ← letter_b]
  conv => whnf
  have hbad : letterB b = false → digitB b = false → nameOk s = false := fun p1 p2 => by
   rw [p1, p2] at hn
   obtain ⟨r, hr⟩ := toList_cons hb0
   rw [hno, hr, nameL, nameL_late _ _ (by omega)]
   rw [hr, List.all_cons] at hn
   simp only [Bool.or_self, Bool.false_and] at hn
   cases hq : (r.all fun b => letterB b || digitB b) with
   | false => simp
   | true =>
    rw [hq, Bool.and_true] at hn
    have hb0n : letterB b0 = false := by
     cases hq2 : letterB b0 with
     | false => rfl
     | true => rw [hq2] at hn; simp at hn
    rw [hb0n]; rfl
  cases hl : letterB b
  ·conv => whnf
   refine str_at (k := k) rfl hb ?_
   conv => whnf
   refine .inl ⟨_, _, _, spec_l1In_spec _ _ _, rfl, ?_⟩
   rw [wConv_byte, ← digit_b]
   conv => whnf
   cases hd : digitB b
   ·conv => whnf
    rw [hbad hl hd]
   ·conv => whnf
    refine ⟨k + 1, by omega, ⟨h3, by rw [hl, hd] at hn; simpa using hn⟩, ?_⟩
    ((conv => whnf); simp only [eS, wI h3 (by omega)])
  ·conv => whnf
   refine ⟨k + 1, by omega, ⟨h3, by rw [hl] at hn; simpa using hn⟩, ?_⟩
   ((conv => whnf); simp only [eS, wI h3 (by omega)])
 ·obtain rfl : k = s.size := by omega
  rw [← hsz, List.drop_length] at hn
  obtain ⟨r, hr⟩ := toList_cons hb0
  rw [hr] at hn
  simp only [List.all_nil, List.all_cons] at hn
  have hn' := hn.symm
  simp only [Bool.and_eq_true] at hn'
  have hl : letterB b0 = true := by
   have h4 := hn'.1
   simp only [Bool.or_eq_true] at h4
   rcases h4 with h4 | h4
   ·exact h4
   ·rw [digit_b, decide_eq_true_eq] at h4; omega
  have : nameOk s = true := by rw [hno, hr, nameL, nameL_late _ _ (by omega), hl, hn'.2]; rfl
  rw [this]
def hasS (x : ByteArray) (l : List ByteArray) : Bool := l.any fun y => decide (x = y)
def namesL (all : List ByteArray) : List ByteArray → Nat → Bool
 | [], _ => true
 | s :: r, k => (nameOk s && !hasS s (all.take k)) && namesL all r (k + 1)
theorem dCut_take {α : Type} (f : α → List D) (xs : List α) (k : Nat) : dCut (eL f xs) (nOf 0) (nOf (k : Int)) = eL f (xs.take k) := by simp [dCut, eL, List.map_take]
theorem spec_l9Has_spec (l : List ByteArray) (x : ByteArray) (hl : l.length ≤ 9223372036854775807) : FnSpec PR f_spec_l9Has [aSs l, aS x] (ab (hasS x l)) [] 0 := by
 refine FnSpec.intro hT (pf Tryz.func160) rfl (by kernel_rfl) Tryz.ntmps160 rfl ?_
 conv => whnf
 refine tri_loop hT [0, 1, 5] (α := Nat) (fun k => { t := [(0, aSs l), (1, aS x), (5, ai k)], h := [], n := 0, N := 18 })
  (fun k => k ≤ l.length ∧ hasS x (l.drop k) = hasS x l) (fun k => l.length - k) 0 (by ((conv => whnf); simp only [eS])) ⟨Nat.zero_le _, rfl⟩ ?_
 intro k ⟨hk, hi⟩
 conv => whnf
 refine ifB_i (fun h1 => ?_) (fun h1 => ?_) <;> (conv => whnf) <;> simp at h1
 ·obtain ⟨s, hs⟩ := get_lt h1
  refine idx_at (by simp) hs ?_
  conv => whnf
  rw [drop_at hs] at hi
  refine ifB_i (fun h2 => ?_) (fun h2 => ?_) <;> (conv => whnf) <;> simp only [eH] at h2
  ·subst h2
   rw [← hi]
   simp [hasS]
  ·refine ⟨k + 1, by omega, ⟨h1, by rw [← hi]; simp [hasS, Ne.symm h2]⟩, ?_⟩
   ((conv => whnf); simp only [eS, wI h1 hl])
 ·obtain rfl : k = l.length := by omega
  simp only [List.drop_length] at hi
  rw [← hi]
  rfl
theorem impl_isSign_spec (x : Int) : FnSpec PR f_impl_isSign [ai x] (ab (decide (-1 ≤ x ∧ x ≤ 1))) [] 0 := by
 refine FnSpec.intro hT (pf Tryz.func232) rfl (by kernel_rfl) Tryz.ntmps232 rfl ?_
 conv => whnf
 refine .inl ⟨_, _, _, impl_within_spec _ _ _, rfl, ?_⟩
 conv => whnf
end Go.H.S
namespace Go.H.S
open Go Go.Proofs Go.H
attribute [local irreducible] Tri FnSpec FnSpecM FnSpecX FnSpecJ
abbrev cB (b : Int × Int) : List CV := [.d (.int .i64 b.1), .d (.int .i64 b.2)]
abbrev aB (b : Int × Int) : AV := .agg (cB b)
def boundP (b : Int × Int) : Prop := b.1 ≤ b.2 ∧ (-1099511627776 ≤ b.1 ∧ b.1 ≤ 1099511627776) ∧ (-1099511627776 ≤ b.2 ∧ b.2 ≤ 1099511627776)
instance (b : Int × Int) : Decidable (boundP b) := by unfold boundP; infer_instance
theorem impl_BoundOk_spec (b : Int × Int) : FnSpec PR f_impl_BoundOk [aB b] (ab (decide (boundP b))) [] 0 := by
 refine FnSpec.intro hT (pf Tryz.func215) rfl (by kernel_rfl) Tryz.ntmps215 rfl ?_
 conv => whnf
 cases h1 : iLe b.1 b.2
 ·conv => whnf
  rw [decide_eq_false (fun q : boundP b => by have := q.1; simp at h1; omega)]
 conv => whnf
 simp at h1
 refine .inl ⟨_, _, _, impl_isLeafValue_spec b.1, rfl, ?_⟩
 cases h2 : decide (-1099511627776 ≤ b.1 ∧ b.1 ≤ 1099511627776)
 ·conv => whnf
  rw [decide_eq_false_iff_not] at h2
  rw [decide_eq_false (fun q : boundP b => h2 q.2.1)]
 conv => whnf
 rw [decide_eq_true_iff] at h2
 refine .inl ⟨_, _, _, impl_isLeafValue_spec b.2, rfl, ?_⟩
 conv => whnf
 rw [decide_eq_decide.2 (show boundP b ↔ (-1099511627776 ≤ b.2 ∧ b.2 ≤ 1099511627776) from ⟨fun q => q.2.2, fun q => ⟨by omega, h2, q⟩⟩)]
theorem spec_BoundOk_spec (b : Int × Int) : FnSpec PR f_spec_BoundOk [aB b] (ab (decide (boundP b))) [] 0 := by
 refine FnSpec.intro hT (pf Tryz.func42) rfl (by kernel_rfl) Tryz.ntmps42 rfl ?_
 conv => whnf
 cases h1 : iLe b.1 b.2
 ·conv => whnf
  rw [decide_eq_false (fun q : boundP b => by have := q.1; simp at h1; omega)]
 conv => whnf
 simp at h1
 refine .inl ⟨_, _, _, spec_l14Leaf_spec b.1, rfl, ?_⟩
 cases h2 : decide (-1099511627776 ≤ b.1 ∧ b.1 ≤ 1099511627776)
 ·conv => whnf
  rw [decide_eq_false_iff_not] at h2
  rw [decide_eq_false (fun q : boundP b => h2 q.2.1)]
 conv => whnf
 rw [decide_eq_true_iff] at h2
 refine .inl ⟨_, _, _, spec_l14Leaf_spec b.2, rfl, ?_⟩
 conv => whnf
 rw [decide_eq_decide.2 (show boundP b ↔ (-1099511627776 ≤ b.2 ∧ b.2 ≤ 1099511627776) from ⟨fun q => q.2.2, fun q => ⟨by omega, h2, q⟩⟩)]
theorem impl_HalfSum_spec (a b : Int) (ha : -4611686018427387904 ≤ a ∧ a ≤ 4611686018427387903) (hb : -4611686018427387904 ≤ b ∧ b ≤ 4611686018427387903) : FnSpec PR f_impl_HalfSum [ai a, ai b] (ai ((a + b) / 2)) [] 0 := by
 refine FnSpec.intro hT (pf Tryz.func227) rfl (by kernel_rfl) Tryz.ntmps227 rfl ?_
 conv => whnf
 refine And.intro (by unfold NN; omega) ?_
 conv => whnf
 refine And.intro (by unfold NN; omega) ?_
 conv => whnf
 rw [half_impl ha hb]
theorem spec_HalfSum_spec (a b : Int) (ha : -4611686018427387904 ≤ a ∧ a ≤ 4611686018427387903) (hb : -4611686018427387904 ≤ b ∧ b ≤ 4611686018427387903) : FnSpec PR f_spec_HalfSum [ai a, ai b] (ai ((a + b) / 2)) [] 0 := by
 refine FnSpec.intro hT (pf Tryz.func228) rfl (by kernel_rfl) Tryz.ntmps228 rfl ?_
 conv => whnf
 refine And.intro (by unfold NN; omega) ?_
 conv => whnf
 rw [half_spec ha hb]
abbrev tupIk (x : Int) (b : Bool) : AV := .tup [(false, [.d (.int .i64 x)]), (false, [.d (.bool b)])]
theorem floor_tdiv {a b : Int} (hb : 1 ≤ b) : a / b = a.tdiv b - (if a.tmod b ≠ 0 ∧ a < 0 then 1 else 0) := by
 rw [Int.tdiv_eq_ediv]
 have h0 : b ∣ a ↔ a.tmod b = 0 := ⟨fun h => Int.tmod_eq_zero_of_dvd h, fun h => Int.dvd_of_tmod_eq_zero h⟩
 have hs : b.sign = 1 := Int.sign_eq_one_of_pos (by omega)
 rw [hs]
 by_cases h1 : 0 ≤ a <;> by_cases h2 : b ∣ a
 ·rw [if_pos (.inl h1), if_neg (by omega)]; omega
 ·rw [if_pos (.inl h1), if_neg (by omega)]; omega
 ·rw [if_pos (.inr h2), if_neg (fun q => q.1 (h0.1 h2))]; omega
 ·rw [if_neg (by rintro (q | q); exact h1 q; exact h2 q), if_pos ⟨fun q => h2 (h0.2 q), by omega⟩]; omega
theorem tdiv_small {a b : Int} (ha : -4611686018427387904 ≤ a ∧ a ≤ 4611686018427387903) (hb : 1 ≤ b) : -4611686018427387904 ≤ a.tdiv b ∧ a.tdiv b ≤ 4611686018427387904 := by
 have h1 := Int.natAbs_tdiv_le_natAbs a b
 omega
theorem wQuo_small {a b : Int} (ha : -4611686018427387904 ≤ a ∧ a ≤ 4611686018427387903) (hb : 1 ≤ b) : wQuo .i64 a b = a.tdiv b := by
 have := tdiv_small ha hb
 unfold wQuo
 exact wrap64 (by omega) (by omega)
theorem impl_FloorDiv_spec (a b : Int) (ha : -4611686018427387904 ≤ a ∧ a ≤ 4611686018427387903) (hb : 1 ≤ b ∧ b ≤ 1000000) : FnSpec PR f_impl_FloorDiv [ai a, ai b] (tupIk (a / b) true) [] 0 := by
 refine FnSpec.intro hT (pf Tryz.func216) rfl (by kernel_rfl) Tryz.ntmps216 rfl ?_
 conv => whnf
 rw [show iEq b 0 = false from decide_eq_false (by omega)]
 conv => whnf
 rw [show iEq a (-9223372036854775808) = false from decide_eq_false (by omega)]
 conv => whnf
 refine And.intro (by unfold NZ; omega) ?_
 conv => whnf
 refine And.intro (by unfold NZ; omega) ?_
 conv => whnf
 rw [floor_tdiv hb.1]
 have hq := wQuo_small ha hb.1
 have hd := tdiv_small (b := b) ha hb.1
 have hm : wRem a b = a.tmod b := by unfold wRem; rfl
 rw [hq, hm]
 by_cases h1 : a.tmod b = 0
 ·rw [show iEq (a.tmod b) 0 = true from decide_eq_true h1]
  conv => whnf
  rw [if_neg (fun q => q.1 h1), Int.sub_zero]
 ·rw [show iEq (a.tmod b) 0 = false from decide_eq_false h1]
  conv => whnf
  rw [show iLt b 0 = false from decide_eq_false (by omega)]
  conv => whnf
  by_cases h2 : a < 0
  ·rw [show iLt a 0 = true from decide_eq_true h2]
   conv => whnf
   rw [if_pos ⟨h1, h2⟩, wSub64] <;> omega
  ·rw [show iLt a 0 = false from decide_eq_false h2]
   conv => whnf
   rw [if_neg (fun q => h2 q.2), Int.sub_zero]
theorem spec_FloorDiv_spec (a b : Int) (ha : -4611686018427387904 ≤ a ∧ a ≤ 4611686018427387903) (hb : 1 ≤ b ∧ b ≤ 1000000) : FnSpec PR f_spec_FloorDiv [ai a, ai b] (tupIk (a / b) true) [] 0 := by
 refine FnSpec.intro hT (pf Tryz.func207) rfl (by kernel_rfl) Tryz.ntmps207 rfl ?_
 conv => whnf
 rw [show iEq b 0 = false from decide_eq_false (by omega)]
 conv => whnf
 rw [show iEq b (-1) = false from decide_eq_false (by omega)]
 conv => whnf
 refine And.intro (by unfold NZ; omega) ?_
 conv => whnf
 refine And.intro (by unfold NZ; omega) ?_
 conv => whnf
 rw [floor_tdiv hb.1]
 have hq := wQuo_small ha hb.1
 have hd := tdiv_small (b := b) ha hb.1
 have hm : wRem a b = a.tmod b := by unfold wRem; rfl
 rw [hq, hm]
 by_cases h1 : a.tmod b = 0
 ·rw [show iEq (a.tmod b) 0 = true from decide_eq_true h1]
  conv => whnf
  rw [if_neg (fun q => q.1 h1), Int.sub_zero]
 ·rw [show iEq (a.tmod b) 0 = false from decide_eq_false h1]
  conv => whnf
  rw [show iLt b 0 = false from decide_eq_false (by omega)]
  conv => whnf
  by_cases h2 : a < 0
  ·rw [show iLt a 0 = true from decide_eq_true h2]
   conv => whnf
   rw [if_pos ⟨h1, h2⟩, wSub64] <;> omega
  ·rw [show iLt a 0 = false from decide_eq_false h2]
   conv => whnf
   rw [if_neg (fun q => h2 q.2), Int.sub_zero]
theorem impl_Free_spec : FnSpec PR f_impl_Free [] (aB (-1099511627776, 1099511627776)) [] 0 := by
 refine FnSpec.intro hT (pf Tryz.func106) rfl (by kernel_rfl) Tryz.ntmps106 rfl ?_
 conv => whnf
theorem spec_Free_spec : FnSpec PR f_spec_Free [] (aB (-1099511627776, 1099511627776)) [] 0 := by
 refine FnSpec.intro hT (pf Tryz.func113) rfl (by kernel_rfl) Tryz.ntmps113 rfl ?_
 conv => whnf
def signFor (c : Cfg) (f : Int) : Int := if 0 ≤ f ∧ f ≤ (c.signs.length : Int) - 1 then (c.signs[f.toNat]?).getD 0 else 0
theorem impl_SignFor_spec (c : Cfg) (f : Int) (hc : c.signs.length ≤ 1048576) : FnSpec PR f_impl_SignFor [aCf c, ai f] (ai (signFor c f)) [] 0 := by
 refine FnSpec.intro hT (pf Tryz.func109) rfl (by kernel_rfl) Tryz.ntmps109 rfl ?_
 conv => whnf
 refine .inl ⟨_, _, _, impl_within_spec _ _ _, rfl, ?_⟩
 conv => whnf
 rw [show wSub .i64 (nInt (dLen (eL cI c.signs))) 1 = (c.signs.length : Int) - 1 from by rw [show nInt (dLen (eL cI c.signs)) = (c.signs.length : Int) by simp, wSub64] <;> omega]
 unfold signFor
 by_cases h : 0 ≤ f ∧ f ≤ (c.signs.length : Int) - 1
 ·rw [decide_eq_true h, if_pos h]
  conv => whnf
  obtain ⟨x, hx⟩ := get_lt (show f.toNat < c.signs.length by omega)
  refine idx_at (show f = (f.toNat : Int) by omega) hx ?_
  conv => whnf
  rw [hx]; rfl
 ·rw [decide_eq_false h, if_neg h]
  conv => whnf
theorem spec_SignFor_spec (c : Cfg) (f : Int) (hc : c.signs.length ≤ 1048576) : FnSpec PR f_spec_SignFor [aCf c, ai f] (ai (signFor c f)) [] 0 := by
 refine FnSpec.intro hT (pf Tryz.func117) rfl (by kernel_rfl) Tryz.ntmps117 rfl ?_
 conv => whnf
 refine .inl ⟨_, _, _, spec_l1In_spec _ _ _, rfl, ?_⟩
 conv => whnf
 rw [show wSub .i64 (nInt (dLen (eL cI c.signs))) 1 = (c.signs.length : Int) - 1 from by rw [show nInt (dLen (eL cI c.signs)) = (c.signs.length : Int) by simp, wSub64] <;> omega]
 unfold signFor
 by_cases h : 0 ≤ f ∧ f ≤ (c.signs.length : Int) - 1
 ·rw [decide_eq_true h, if_pos h]
  conv => whnf
  obtain ⟨x, hx⟩ := get_lt (show f.toNat < c.signs.length by omega)
  refine idx_at (show f = (f.toNat : Int) by omega) hx ?_
  conv => whnf
  rw [hx]; rfl
 ·rw [decide_eq_false h, if_neg h]
  conv => whnf
def leafV (n s lam : Int) (b : Int × Int) : Int := brought (s / (n + lam)) b.1 b.2
theorem leafV_in {n s lam : Int} {b : Int × Int} (h : b.1 ≤ b.2) : b.1 ≤ leafV n s lam b ∧ leafV n s lam b ≤ b.2 := by
 unfold leafV brought
 split
 ·omega
 ·split <;> omega
theorem impl_isCount_spec (n lam : Int) : FnSpec PR f_impl_isCount [ai n, ai lam] (ab (decide (0 ≤ n ∧ n ≤ 40) && decide (1 ≤ lam ∧ lam ≤ 100))) [] 0 := by
 refine FnSpec.intro hT (pf Tryz.func214) rfl (by kernel_rfl) Tryz.ntmps214 rfl ?_
 conv => whnf
 refine .inl ⟨_, _, _, impl_within_spec _ _ _, rfl, ?_⟩
 cases h : decide (0 ≤ n ∧ n ≤ 40)
 ·conv => whnf
  rfl
 conv => whnf
 refine .inl ⟨_, _, _, impl_within_spec _ _ _, rfl, ?_⟩
 conv => whnf
 rw [Bool.true_and]
theorem impl_LeafOf_spec (n s lam : Int) (b : Int × Int) (hn : 0 ≤ n ∧ n ≤ 40) (hl : 1 ≤ lam ∧ lam ≤ 100) (hs : -4611686018427387904 ≤ s ∧ s ≤ 4611686018427387903) (hb : boundP b) :
  FnSpec PR f_impl_LeafOf [aB (n, s), ai lam, aB b] (tupIk (leafV n s lam b) true) [] 0 := by
 refine FnSpec.intro hT (pf Tryz.func98) rfl (by kernel_rfl) Tryz.ntmps98 rfl ?_
 conv => whnf
 refine .inl ⟨_, _, _, impl_isCount_spec n lam, rfl, ?_⟩
 rw [decide_eq_true hn, decide_eq_true hl]
 conv => whnf
 refine .inl ⟨_, _, _, impl_BoundOk_spec b, rfl, ?_⟩
 rw [decide_eq_true hb]
 conv => whnf
 rw [show wAdd .i64 n lam = n + lam from by rw [wAdd64] <;> omega]
 refine .inl ⟨_, _, _, impl_FloorDiv_spec s (n + lam) hs (by omega), rfl, ?_⟩
 conv => whnf
 refine .inl ⟨_, _, _, impl_Brought_spec _ _ _, rfl, ?_⟩
 conv => whnf
 rfl
theorem spec_LeafOf_spec (n s lam : Int) (b : Int × Int) (hn : 0 ≤ n ∧ n ≤ 40) (hl : 1 ≤ lam ∧ lam ≤ 100) (hs : -4611686018427387904 ≤ s ∧ s ≤ 4611686018427387903) (hb : boundP b) :
  FnSpec PR f_spec_LeafOf [aB (n, s), ai lam, aB b] (tupIk (leafV n s lam b) true) [] 0 := by
 refine FnSpec.intro hT (pf Tryz.func90) rfl (by kernel_rfl) Tryz.ntmps90 rfl ?_
 conv => whnf
 refine .inl ⟨_, _, _, spec_l1In_spec _ _ _, rfl, ?_⟩
 rw [decide_eq_true hn]
 conv => whnf
 refine .inl ⟨_, _, _, spec_l1In_spec _ _ _, rfl, ?_⟩
 rw [decide_eq_true hl]
 conv => whnf
 refine .inl ⟨_, _, _, spec_BoundOk_spec b, rfl, ?_⟩
 rw [decide_eq_true hb]
 conv => whnf
 rw [show wAdd .i64 n lam = n + lam from by rw [wAdd64] <;> omega]
 refine .inl ⟨_, _, _, spec_FloorDiv_spec s (n + lam) hs (by omega), rfl, ?_⟩
 conv => whnf
 refine .inl ⟨_, _, _, spec_Brought_spec _ _ _, rfl, ?_⟩
 conv => whnf
 rfl
def midV (p q : Int) (b : Int × Int) : Int := brought ((p + q) / 2) b.1 b.2
theorem midV_in {p q : Int} {b : Int × Int} (h : b.1 ≤ b.2) : b.1 ≤ midV p q b ∧ midV p q b ≤ b.2 := by
 unfold midV brought
 split
 ·omega
 ·split <;> omega
def sidesL (sign : Int) (b : Int × Int) (p q : Int) : (Int × Int) × (Int × Int) :=
 if sign = 1 then ((b.1, midV p q b), (midV p q b, b.2)) else if sign = -1 then ((midV p q b, b.2), (b.1, midV p q b)) else (b, b)
theorem sidesL_ok {sign : Int} {b : Int × Int} {p q : Int} (hb : boundP b) : boundP (sidesL sign b p q).1 ∧ boundP (sidesL sign b p q).2 := by
 have hm := midV_in (p := p) (q := q) hb.1
 have hb' := hb
 unfold boundP at hb'
 unfold sidesL
 split
 ·unfold boundP; dsimp only; omega
 ·split
  ·unfold boundP; dsimp only; omega
  ·exact ⟨hb, hb⟩
abbrev tupBB (x : (Int × Int) × (Int × Int)) : AV := .tup [(true, cB x.1), (true, cB x.2)]
theorem spec_SidesOf_spec (sign : Int) (b : Int × Int) (p q : Int) (hb : boundP b) (hp : -1099511627776 ≤ p ∧ p ≤ 1099511627776) (hq : -1099511627776 ≤ q ∧ q ≤ 1099511627776) :
  FnSpec PR f_spec_SidesOf [ai sign, aB b, ai p, ai q] (tupBB (sidesL sign b p q)) [] 0 := by
 refine FnSpec.intro hT (pf Tryz.func116) rfl (by kernel_rfl) Tryz.ntmps116 rfl ?_
 conv => whnf
 refine .inl ⟨_, _, _, spec_BoundOk_spec b, rfl, ?_⟩
 rw [decide_eq_true hb]
 conv => whnf
 refine tri_rp 0 ?_
 conv => whnf
 refine tri_every hT hmix [0, 5, 8, 9, 10] { t := [(0, ai sign), (5, .c (.d (.rp [.int .i64 b.1, .int .i64 b.2]))), (8, .c (.ptr 0 0)), (9, .c (.ptr 1 0)), (10, ai (midV p q b))], h := [(0, .box t_impl_Bound (cB (0, 0))), (1, .box t_impl_Bound (cB (0, 0)))], n := 2, N := 47 } rfl ?_ ?_
 ·repeat' first
   | (refine anyV_one rfl ?_; (conv => whnf))
   | (refine anyV_two rfl ?_ ?_ <;> (conv => whnf))
   | (refine .inl ⟨_, _, _, spec_HalfSum_spec p q (by omega) (by omega), rfl, ?_⟩; (conv => whnf))
   | (refine .inl ⟨_, _, _, spec_Brought_spec _ _ _, rfl, ?_⟩; (conv => whnf))
   | (refine anyV_end rfl ?_; (conv => whnf); first | done | rfl)
 conv => whnf
 unfold sidesL
 by_cases h1 : sign = 1
 ·rw [show iEq sign 1 = true from decide_eq_true h1, if_pos h1]
  conv => whnf
  refine tri_every hT hmix [8, 9] { t := [(8, .c (.ptr 0 0)), (9, .c (.ptr 1 0))], h := [(0, .box t_impl_Bound (cB (b.1, midV p q b))), (1, .box t_impl_Bound (cB (midV p q b, b.2)))], n := 2, N := 47 } rfl ?_ ?_
  ·repeat' first
    | (refine anyV_one rfl ?_; (conv => whnf))
    | (refine anyV_two rfl ?_ ?_ <;> (conv => whnf))
    | (refine anyV_three rfl ?_ ?_ ?_ <;> (conv => whnf))
    | (refine anyV_four rfl ?_ ?_ ?_ ?_ <;> (conv => whnf))
    | (refine anyV_end rfl ?_; (conv => whnf); first | done | rfl)
  conv => whnf
 rw [show iEq sign 1 = false from decide_eq_false h1, if_neg h1]
 conv => whnf
 by_cases h2 : sign = -1
 ·rw [show iEq sign (-1) = true from decide_eq_true h2, if_pos h2]
  conv => whnf
  refine tri_every hT hmix [8, 9] { t := [(8, .c (.ptr 0 0)), (9, .c (.ptr 1 0))], h := [(0, .box t_impl_Bound (cB (midV p q b, b.2))), (1, .box t_impl_Bound (cB (b.1, midV p q b)))], n := 2, N := 47 } rfl ?_ ?_
  ·repeat' first
    | (refine anyV_one rfl ?_; (conv => whnf))
    | (refine anyV_two rfl ?_ ?_ <;> (conv => whnf))
    | (refine anyV_three rfl ?_ ?_ ?_ <;> (conv => whnf))
    | (refine anyV_four rfl ?_ ?_ ?_ ?_ <;> (conv => whnf))
    | (refine anyV_end rfl ?_; (conv => whnf); first | done | rfl)
  conv => whnf
 rw [show iEq sign (-1) = false from decide_eq_false h2, if_neg h2]
 conv => whnf
 refine tri_every hT hmix [8, 9] { t := [(8, .c (.ptr 0 0)), (9, .c (.ptr 1 0))], h := [(0, .box t_impl_Bound (cB b)), (1, .box t_impl_Bound (cB b))], n := 2, N := 47 } rfl ?_ ?_
 ·repeat' first
   | (refine anyV_one rfl ?_; (conv => whnf))
   | (refine anyV_two rfl ?_ ?_ <;> (conv => whnf))
   | (refine anyV_three rfl ?_ ?_ ?_ <;> (conv => whnf))
   | (refine anyV_four rfl ?_ ?_ ?_ ?_ <;> (conv => whnf))
   | (refine anyV_end rfl ?_; (conv => whnf); first | done | rfl)
 conv => whnf
theorem impl_SidesOf_spec (sign : Int) (b : Int × Int) (p q : Int) (hb : boundP b) (hp : -1099511627776 ≤ p ∧ p ≤ 1099511627776) (hq : -1099511627776 ≤ q ∧ q ≤ 1099511627776) :
  FnSpec PR f_impl_SidesOf [ai sign, aB b, ai p, ai q] (tupBB (sidesL sign b p q)) [] 0 := by
 refine FnSpec.intro hT (pf Tryz.func108) rfl (by kernel_rfl) Tryz.ntmps108 rfl ?_
 conv => whnf
 refine tri_rp 0 ?_
 conv => whnf
 refine tri_every hT hmix [0, 5, 8, 9, 10] { t := [(0, ai sign), (5, .c (.d (.rp [.int .i64 b.1, .int .i64 b.2]))), (8, .c (.ptr 0 0)), (9, .c (.ptr 1 0)), (10, ai (midV p q b))], h := [(0, .box t_impl_Bound (cB (0, 0))), (1, .box t_impl_Bound (cB (0, 0)))], n := 2, N := 47 } rfl ?_ ?_
 ·repeat' first
   | (refine anyV_one rfl ?_; (conv => whnf))
   | (refine anyV_two rfl ?_ ?_ <;> (conv => whnf))
   | (refine .inl ⟨_, _, _, impl_HalfSum_spec p q (by omega) (by omega), rfl, ?_⟩; (conv => whnf))
   | (refine .inl ⟨_, _, _, impl_Brought_spec _ _ _, rfl, ?_⟩; (conv => whnf))
   | (refine anyV_end rfl ?_; (conv => whnf); first | done | rfl)
 conv => whnf
 refine tri_every hT hmix [0, 5, 8, 9, 11, 12] { t := [(0, ai sign), (5, .c (.d (.rp [.int .i64 b.1, .int .i64 b.2]))), (8, .c (.ptr 0 0)), (9, .c (.ptr 1 0)), (11, .c (.ptr 2 0)), (12, .c (.ptr 3 0))], h := [(0, .box t_impl_Bound (cB (0, 0))), (1, .box t_impl_Bound (cB (0, 0))), (2, .box t_impl_Bound (cB (b.1, midV p q b))), (3, .box t_impl_Bound (cB (midV p q b, b.2)))], n := 4, N := 47 } rfl ?_ ?_
 ·repeat' first
   | (refine anyV_one rfl ?_; (conv => whnf))
   | (refine anyV_two rfl ?_ ?_ <;> (conv => whnf))
   | (refine anyV_three rfl ?_ ?_ ?_ <;> (conv => whnf))
   | (refine anyV_four rfl ?_ ?_ ?_ ?_ <;> (conv => whnf))
   | (refine anyV_end rfl ?_; (conv => whnf); first | done | rfl)
 conv => whnf
 refine .inl ⟨_, _, _, impl_BoundOk_spec b, rfl, ?_⟩
 rw [decide_eq_true hb]
 conv => whnf
 unfold sidesL
 by_cases h1 : sign = 1
 ·rw [show iEq sign 1 = true from decide_eq_true h1, if_pos h1]
  conv => whnf
  refine tri_every hT hmix [8, 9] { t := [(8, .c (.ptr 0 0)), (9, .c (.ptr 1 0))], h := [(0, .box t_impl_Bound (cB (b.1, midV p q b))), (1, .box t_impl_Bound (cB (midV p q b, b.2)))], n := 2, N := 47 } rfl ?_ ?_
  ·repeat' first
    | (refine anyV_one rfl ?_; (conv => whnf))
    | (refine anyV_two rfl ?_ ?_ <;> (conv => whnf))
    | (refine anyV_three rfl ?_ ?_ ?_ <;> (conv => whnf))
    | (refine anyV_four rfl ?_ ?_ ?_ ?_ <;> (conv => whnf))
    | (refine anyV_end rfl ?_; (conv => whnf); first | done | rfl)
  conv => whnf
 rw [show iEq sign 1 = false from decide_eq_false h1, if_neg h1]
 conv => whnf
 by_cases h2 : sign = -1
 ·rw [show iEq sign (-1) = true from decide_eq_true h2, if_pos h2]
  conv => whnf
  refine tri_every hT hmix [8, 9] { t := [(8, .c (.ptr 0 0)), (9, .c (.ptr 1 0))], h := [(0, .box t_impl_Bound (cB (midV p q b, b.2))), (1, .box t_impl_Bound (cB (b.1, midV p q b)))], n := 2, N := 47 } rfl ?_ ?_
  ·repeat' first
    | (refine anyV_one rfl ?_; (conv => whnf))
    | (refine anyV_two rfl ?_ ?_ <;> (conv => whnf))
    | (refine anyV_three rfl ?_ ?_ ?_ <;> (conv => whnf))
    | (refine anyV_four rfl ?_ ?_ ?_ ?_ <;> (conv => whnf))
    | (refine anyV_end rfl ?_; (conv => whnf); first | done | rfl)
  conv => whnf
 rw [show iEq sign (-1) = false from decide_eq_false h2, if_neg h2]
 conv => whnf
 refine tri_every hT hmix [8, 9] { t := [(8, .c (.ptr 0 0)), (9, .c (.ptr 1 0))], h := [(0, .box t_impl_Bound (cB b)), (1, .box t_impl_Bound (cB b))], n := 2, N := 47 } rfl ?_ ?_
 ·repeat' first
   | (refine anyV_one rfl ?_; (conv => whnf))
   | (refine anyV_two rfl ?_ ?_ <;> (conv => whnf))
   | (refine anyV_three rfl ?_ ?_ ?_ <;> (conv => whnf))
   | (refine anyV_four rfl ?_ ?_ ?_ ?_ <;> (conv => whnf))
   | (refine anyV_end rfl ?_; (conv => whnf); first | done | rfl)
 conv => whnf
end Go.H.S
