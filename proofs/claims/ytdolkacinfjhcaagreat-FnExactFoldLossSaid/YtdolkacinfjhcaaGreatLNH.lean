/- Library, part I: searches of the package slices (printed by gen/idx.py). -/
import Derived.Test.YtdolkacinfjhcaaGreatLV
import Derived.Test.YtdolkacinfjhcaaGreatLNC
set_option maxRecDepth 100000
set_option linter.unusedSimpArgs false
set_option linter.unusedVariables false
namespace Go.H.S
open Go Go.Proofs Go.H
attribute [local irreducible] Tri FnSpec FnSpecM
theorem idxL_any {α : Type} (p : α → Bool) : ∀ (l : List α) (k : Nat), (0 ≤ idxL p l k) ↔ l.any p = true
 | [], k => by simp [idxL]
 | y :: r, k => by
  simp only [idxL, List.any_cons]
  have ih := idxL_any p r (k + 1)
  cases h : p y
  ·simpa using ih
  ·simp
theorem slices_IndexFunc_Limpl_Tree_impl_Tree_1 (xs : List (List Nd)) (g : FuncId) (d0 : D) (p : List Nd → Bool) (hp : ∀ x ∈ xs, FnSpec PR g [aT x, .c (.d d0)] (ab (p x)) [] 0) (hl : xs.length ≤ 9223372036854775807) :
  FnSpec PR f_slices_IndexFunc_Limpl_Tree_impl_Tree [aTs xs, .c (.d (.fn g [d0]))] (ai (idxL p xs 0)) [] 0 := by
 refine FnSpec.intro hT (pf Tryz.func332) rfl (by kernel_rfl) Tryz.ntmps332 rfl ?_
 conv => whnf
 refine tri_loop hT [0, 1, 7, 8] (α := Nat) (fun k => { t := [(0, aTs xs), (1, .c (.d (.fn g [d0]))), (7, ai xs.length), (8, ai k)], h := [], n := 0, N := 19 })
  (fun k => k ≤ xs.length ∧ idxL p (xs.drop k) k = idxL p xs 0) (fun k => xs.length - k) 0 (by ((conv => whnf); simp only [eS])) ⟨Nat.zero_le _, rfl⟩ ?_
 intro k ⟨hk, hi⟩
 conv => whnf
 refine ifB_i (fun h1 => ?_) (fun h1 => ?_) <;> (conv => whnf) <;> simp at h1
 ·obtain ⟨s, hs⟩ := get_lt h1
  rw [drop_at hs, idxL] at hi
  refine idx_at (by simp) hs ?_
  conv => whnf
  refine .inl ⟨_, _, _, hp s (List.mem_of_getElem? hs), rfl, ?_⟩
  conv => whnf
  refine ifB_i (fun h2 => ?_) (fun h2 => ?_) <;> (conv => whnf)
  ·rw [if_pos h2] at hi
   ((conv => whnf); simp only [eS, hi])
  ·rw [if_neg (by simp [h2])] at hi
   refine ⟨k + 1, by omega, ⟨h1, hi⟩, ?_⟩
   ((conv => whnf); simp only [eS, wI h1 hl])
 ·obtain rfl : k = xs.length := by omega
  simp only [List.drop_length, idxL] at hi
  ((conv => whnf); simp only [eS, ← hi])
theorem slices_ContainsFunc_Limpl_Tree_impl_Tree_1 (xs : List (List Nd)) (g : FuncId) (d0 : D) (p : List Nd → Bool) (hp : ∀ x ∈ xs, FnSpec PR g [aT x, .c (.d d0)] (ab (p x)) [] 0) (hl : xs.length ≤ 9223372036854775807) :
  FnSpec PR f_slices_ContainsFunc_Limpl_Tree_impl_Tree [aTs xs, .c (.d (.fn g [d0]))] (ab (xs.any p)) [] 0 := by
 refine FnSpec.intro hT (pf Tryz.func297) rfl (by kernel_rfl) Tryz.ntmps297 rfl ?_
 conv => whnf
 refine .inl ⟨_, _, _, slices_IndexFunc_Limpl_Tree_impl_Tree_1 xs g d0 p hp hl, rfl, ?_⟩
 conv => whnf
 have h := idxL_any p xs 0
 cases hb : xs.any p
 ·rw [hb] at h
  ((conv => whnf); simp only [eS, iLe])
  simpa using h
 ·rw [hb] at h
  ((conv => whnf); simp only [eS, iLe])
  simpa using h
theorem slices_IndexFunc_Lint_int_0 (xs : List (Int)) (g : FuncId) (p : Int → Bool) (hp : ∀ x ∈ xs, FnSpec PR g [ai x] (ab (p x)) [] 0) (hl : xs.length ≤ 9223372036854775807) :
  FnSpec PR f_slices_IndexFunc_Lint_int [aIs xs, .c (.d (.fn g []))] (ai (idxL p xs 0)) [] 0 := by
 refine FnSpec.intro hT (pf Tryz.func233) rfl (by kernel_rfl) Tryz.ntmps233 rfl ?_
 conv => whnf
 refine tri_loop hT [0, 1, 7, 8] (α := Nat) (fun k => { t := [(0, aIs xs), (1, .c (.d (.fn g []))), (7, ai xs.length), (8, ai k)], h := [], n := 0, N := 19 })
  (fun k => k ≤ xs.length ∧ idxL p (xs.drop k) k = idxL p xs 0) (fun k => xs.length - k) 0 (by ((conv => whnf); simp only [eS])) ⟨Nat.zero_le _, rfl⟩ ?_
 intro k ⟨hk, hi⟩
 conv => whnf
 refine ifB_i (fun h1 => ?_) (fun h1 => ?_) <;> (conv => whnf) <;> simp at h1
 ·obtain ⟨s, hs⟩ := get_lt h1
  rw [drop_at hs, idxL] at hi
  refine idx_at (by simp) hs ?_
  conv => whnf
  refine .inl ⟨_, _, _, hp s (List.mem_of_getElem? hs), rfl, ?_⟩
  conv => whnf
  refine ifB_i (fun h2 => ?_) (fun h2 => ?_) <;> (conv => whnf)
  ·rw [if_pos h2] at hi
   ((conv => whnf); simp only [eS, hi])
  ·rw [if_neg (by simp [h2])] at hi
   refine ⟨k + 1, by omega, ⟨h1, hi⟩, ?_⟩
   ((conv => whnf); simp only [eS, wI h1 hl])
 ·obtain rfl : k = xs.length := by omega
  simp only [List.drop_length, idxL] at hi
  ((conv => whnf); simp only [eS, ← hi])
theorem slices_ContainsFunc_Lint_int_0 (xs : List (Int)) (g : FuncId) (p : Int → Bool) (hp : ∀ x ∈ xs, FnSpec PR g [ai x] (ab (p x)) [] 0) (hl : xs.length ≤ 9223372036854775807) :
  FnSpec PR f_slices_ContainsFunc_Lint_int [aIs xs, .c (.d (.fn g []))] (ab (xs.any p)) [] 0 := by
 refine FnSpec.intro hT (pf Tryz.func120) rfl (by kernel_rfl) Tryz.ntmps120 rfl ?_
 conv => whnf
 refine .inl ⟨_, _, _, slices_IndexFunc_Lint_int_0 xs g  p hp hl, rfl, ?_⟩
 conv => whnf
 have h := idxL_any p xs 0
 cases hb : xs.any p
 ·rw [hb] at h
  ((conv => whnf); simp only [eS, iLe])
  simpa using h
 ·rw [hb] at h
  ((conv => whnf); simp only [eS, iLe])
  simpa using h
theorem slices_IndexFunc_Lint_int_1 (xs : List (Int)) (g : FuncId) (d0 : D) (p : Int → Bool) (hp : ∀ x ∈ xs, FnSpec PR g [ai x, .c (.d d0)] (ab (p x)) [] 0) (hl : xs.length ≤ 9223372036854775807) :
  FnSpec PR f_slices_IndexFunc_Lint_int [aIs xs, .c (.d (.fn g [d0]))] (ai (idxL p xs 0)) [] 0 := by
 refine FnSpec.intro hT (pf Tryz.func233) rfl (by kernel_rfl) Tryz.ntmps233 rfl ?_
 conv => whnf
 refine tri_loop hT [0, 1, 7, 8] (α := Nat) (fun k => { t := [(0, aIs xs), (1, .c (.d (.fn g [d0]))), (7, ai xs.length), (8, ai k)], h := [], n := 0, N := 19 })
  (fun k => k ≤ xs.length ∧ idxL p (xs.drop k) k = idxL p xs 0) (fun k => xs.length - k) 0 (by ((conv => whnf); simp only [eS])) ⟨Nat.zero_le _, rfl⟩ ?_
 intro k ⟨hk, hi⟩
 conv => whnf
 refine ifB_i (fun h1 => ?_) (fun h1 => ?_) <;> (conv => whnf) <;> simp at h1
 ·obtain ⟨s, hs⟩ := get_lt h1
  rw [drop_at hs, idxL] at hi
  refine idx_at (by simp) hs ?_
  conv => whnf
  refine .inl ⟨_, _, _, hp s (List.mem_of_getElem? hs), rfl, ?_⟩
  conv => whnf
  refine ifB_i (fun h2 => ?_) (fun h2 => ?_) <;> (conv => whnf)
  ·rw [if_pos h2] at hi
   ((conv => whnf); simp only [eS, hi])
  ·rw [if_neg (by simp [h2])] at hi
   refine ⟨k + 1, by omega, ⟨h1, hi⟩, ?_⟩
   ((conv => whnf); simp only [eS, wI h1 hl])
 ·obtain rfl : k = xs.length := by omega
  simp only [List.drop_length, idxL] at hi
  ((conv => whnf); simp only [eS, ← hi])
theorem slices_ContainsFunc_Lint_int_1 (xs : List (Int)) (g : FuncId) (d0 : D) (p : Int → Bool) (hp : ∀ x ∈ xs, FnSpec PR g [ai x, .c (.d d0)] (ab (p x)) [] 0) (hl : xs.length ≤ 9223372036854775807) :
  FnSpec PR f_slices_ContainsFunc_Lint_int [aIs xs, .c (.d (.fn g [d0]))] (ab (xs.any p)) [] 0 := by
 refine FnSpec.intro hT (pf Tryz.func120) rfl (by kernel_rfl) Tryz.ntmps120 rfl ?_
 conv => whnf
 refine .inl ⟨_, _, _, slices_IndexFunc_Lint_int_1 xs g d0 p hp hl, rfl, ?_⟩
 conv => whnf
 have h := idxL_any p xs 0
 cases hb : xs.any p
 ·rw [hb] at h
  ((conv => whnf); simp only [eS, iLe])
  simpa using h
 ·rw [hb] at h
  ((conv => whnf); simp only [eS, iLe])
  simpa using h
theorem slices_IndexFunc_LLint_Lint_1 (xs : List (List Int)) (g : FuncId) (d0 : D) (p : List Int → Bool) (hp : ∀ x ∈ xs, FnSpec PR g [aIs x, .c (.d d0)] (ab (p x)) [] 0) (hl : xs.length ≤ 9223372036854775807) :
  FnSpec PR f_slices_IndexFunc_LLint_Lint [aIss xs, .c (.d (.fn g [d0]))] (ai (idxL p xs 0)) [] 0 := by
 refine FnSpec.intro hT (pf Tryz.func304) rfl (by kernel_rfl) Tryz.ntmps304 rfl ?_
 conv => whnf
 refine tri_loop hT [0, 1, 7, 8] (α := Nat) (fun k => { t := [(0, aIss xs), (1, .c (.d (.fn g [d0]))), (7, ai xs.length), (8, ai k)], h := [], n := 0, N := 19 })
  (fun k => k ≤ xs.length ∧ idxL p (xs.drop k) k = idxL p xs 0) (fun k => xs.length - k) 0 (by ((conv => whnf); simp only [eS])) ⟨Nat.zero_le _, rfl⟩ ?_
 intro k ⟨hk, hi⟩
 conv => whnf
 refine ifB_i (fun h1 => ?_) (fun h1 => ?_) <;> (conv => whnf) <;> simp at h1
 ·obtain ⟨s, hs⟩ := get_lt h1
  rw [drop_at hs, idxL] at hi
  refine idx_at (by simp) hs ?_
  conv => whnf
  refine .inl ⟨_, _, _, hp s (List.mem_of_getElem? hs), rfl, ?_⟩
  conv => whnf
  refine ifB_i (fun h2 => ?_) (fun h2 => ?_) <;> (conv => whnf)
  ·rw [if_pos h2] at hi
   ((conv => whnf); simp only [eS, hi])
  ·rw [if_neg (by simp [h2])] at hi
   refine ⟨k + 1, by omega, ⟨h1, hi⟩, ?_⟩
   ((conv => whnf); simp only [eS, wI h1 hl])
 ·obtain rfl : k = xs.length := by omega
  simp only [List.drop_length, idxL] at hi
  ((conv => whnf); simp only [eS, ← hi])
theorem slices_ContainsFunc_LLint_Lint_1 (xs : List (List Int)) (g : FuncId) (d0 : D) (p : List Int → Bool) (hp : ∀ x ∈ xs, FnSpec PR g [aIs x, .c (.d d0)] (ab (p x)) [] 0) (hl : xs.length ≤ 9223372036854775807) :
  FnSpec PR f_slices_ContainsFunc_LLint_Lint [aIss xs, .c (.d (.fn g [d0]))] (ab (xs.any p)) [] 0 := by
 refine FnSpec.intro hT (pf Tryz.func253) rfl (by kernel_rfl) Tryz.ntmps253 rfl ?_
 conv => whnf
 refine .inl ⟨_, _, _, slices_IndexFunc_LLint_Lint_1 xs g d0 p hp hl, rfl, ?_⟩
 conv => whnf
 have h := idxL_any p xs 0
 cases hb : xs.any p
 ·rw [hb] at h
  ((conv => whnf); simp only [eS, iLe])
  simpa using h
 ·rw [hb] at h
  ((conv => whnf); simp only [eS, iLe])
  simpa using h
end Go.H.S
namespace Go.H.S
open Go Go.Proofs Go.H
attribute [local irreducible] Tri FnSpec FnSpecM FnSpecX FnSpecJ
def binOfL : List Int → Int → Nat
 | [], _ => 0
 | c :: r, v => (if c < v then 1 else 0) + binOfL r v
theorem binOfL_le : ∀ (l : List Int) (v : Int), binOfL l v ≤ l.length
 | [], v => by simp [binOfL]
 | c :: r, v => by
  have := binOfL_le r v
  simp only [binOfL, List.length_cons]
  split <;> omega
theorem impl_BinOf_spec (cuts : List Int) (v : Int) (hl : cuts.length ≤ 1048576) : FnSpec PR f_impl_BinOf [aIs cuts, ai v] (ai (binOfL cuts v)) [] 0 := by
 have hle := binOfL_le cuts v
 refine FnSpec.intro hT (pf Tryz.func210) rfl (by kernel_rfl) Tryz.ntmps210 rfl ?_
 conv => whnf
 refine tri_loop hT [1, 5, 8, 9, 10] (α := Nat × Nat) (fun x => { t := [(1, ai v), (5, ai x.2), (8, aIs cuts), (9, ai cuts.length), (10, ai x.1)], h := [], n := 0, N := 21 })
  (fun x => x.1 ≤ cuts.length ∧ x.2 + binOfL (cuts.drop x.1) v = binOfL cuts v) (fun x => cuts.length - x.1) (0, 0) (by ((conv => whnf); simp only [eS])) ⟨Nat.zero_le _, by simp⟩ ?_
 intro ⟨k, c⟩ ⟨hk, hc⟩
 dsimp only at hk hc
 conv => whnf
 refine ifB_i (fun h1 => ?_) (fun h1 => ?_) <;> (conv => whnf) <;> simp at h1
 ·obtain ⟨x, hx⟩ := get_lt h1
  rw [drop_at hx, binOfL] at hc
  refine idx_at (by simp) hx ?_
  conv => whnf
  refine ifB_i (fun h2 => ?_) (fun h2 => ?_) <;> (conv => whnf) <;> simp only [eH] at h2
  ·rw [if_pos h2] at hc
   refine ⟨(k + 1, c + 1), by dsimp only; omega, ⟨h1, by dsimp only; omega⟩, ?_⟩
   ((conv => whnf); simp only [eS, wI h1 (by omega), wI (show c < 1048577 by omega) (by omega)])
  ·rw [if_neg (by omega)] at hc
   refine ⟨(k + 1, c), by dsimp only; omega, ⟨h1, by dsimp only; omega⟩, ?_⟩
   ((conv => whnf); simp only [eS, wI h1 (by omega)])
 ·obtain rfl : k = cuts.length := by omega
  simp [binOfL] at hc
  rw [hc]
theorem spec_BinOf_spec (cuts : List Int) (v : Int) (hl : cuts.length ≤ 1048576) : FnSpec PR f_spec_BinOf [aIs cuts, ai v] (ai (binOfL cuts v)) [] 0 := by
 have hle := binOfL_le cuts v
 refine FnSpec.intro hT (pf Tryz.func168) rfl (by kernel_rfl) Tryz.ntmps168 rfl ?_
 conv => whnf
 refine tri_loop hT [0, 1, 5, 6] (α := Nat × Nat) (fun x => { t := [(0, aIs cuts), (1, ai v), (5, ai x.2), (6, ai x.1)], h := [], n := 0, N := 22 })
  (fun x => x.1 ≤ cuts.length ∧ x.2 + binOfL (cuts.drop x.1) v = binOfL cuts v) (fun x => cuts.length - x.1) (0, 0) (by ((conv => whnf); simp only [eS])) ⟨Nat.zero_le _, by simp⟩ ?_
 intro ⟨k, c⟩ ⟨hk, hc⟩
 dsimp only at hk hc
 conv => whnf
 refine ifB_i (fun h1 => ?_) (fun h1 => ?_) <;> (conv => whnf) <;> simp at h1
 ·obtain ⟨x, hx⟩ := get_lt h1
  rw [drop_at hx, binOfL] at hc
  refine idx_at (by simp) hx ?_
  conv => whnf
  refine ifB_i (fun h2 => ?_) (fun h2 => ?_) <;> (conv => whnf) <;> simp only [eH] at h2
  ·rw [if_pos h2] at hc
   refine ⟨(k + 1, c + 1), by dsimp only; omega, ⟨h1, by dsimp only; omega⟩, ?_⟩
   ((conv => whnf); simp only [eS, wI h1 (by omega), wI (show c < 1048577 by omega) (by omega)])
  ·rw [if_neg (by omega)] at hc
   refine ⟨(k + 1, c), by dsimp only; omega, ⟨h1, by dsimp only; omega⟩, ?_⟩
   ((conv => whnf); simp only [eS, wI h1 (by omega)])
 ·obtain rfl : k = cuts.length := by omega
  simp [binOfL] at hc
  rw [hc]
def upTo (n : Nat) : List Int := (List.range n).map fun (i : Nat) => (i : Int)
theorem upTo_len (n : Nat) : (upTo n).length = n := by simp [upTo]
theorem upTo_succ (n : Nat) : upTo (n + 1) = upTo n ++ [(n : Int)] := by simp [upTo, List.range_succ]
def allRowsL (n : Int) : List Int := if 1 ≤ n ∧ n ≤ 40 then upTo n.toNat else []
def atBin (bins : List Int) (b : Int) (r : Int) : Option Bool := if 0 ≤ r ∧ r ≤ (bins.length : Int) - 1 then (bins[r.toNat]?).map fun x => decide (x ≤ b) else none
def splitL (bins rows : List Int) (b : Int) : List Int × List Int := (rows.filter fun r => decide (atBin bins b r = some true), rows.filter fun r => decide (atBin bins b r = some false))
theorem splitL_len (bins rows : List Int) (b : Int) : (splitL bins rows b).1.length ≤ rows.length ∧ (splitL bins rows b).2.length ≤ rows.length := ⟨List.length_filter_le _ _, List.length_filter_le _ _⟩
theorem filter_take_step {p : Int → Bool} {xs : List Int} {k : Nat} {x : Int} (h : xs[k]? = some x) : (xs.take (k + 1)).filter p = (xs.take k).filter p ++ (if p x then [x] else []) := by
 rw [List.take_add_one, h, List.filter_append]
 simp only [Option.toList_some, List.filter_cons, List.filter_nil]
def rowsIn (g : Grd) : Nat := match g.bins with | [] => 0 | x :: _ => x.length
theorem impl_RowsIn_spec (g : Grd) : FnSpec PR f_impl_RowsIn [aG g] (ai (rowsIn g)) [] 0 := by
 refine FnSpec.intro hT (pf Tryz.func105) rfl (by kernel_rfl) Tryz.ntmps105 rfl ?_
 conv => whnf
 cases hb : g.bins with
 | nil =>
  refine ifB_i (fun h1 => ?_) (fun h1 => ?_) <;> (conv => whnf) <;> simp only [eH, eL_nil] at h1
  ·simp [rowsIn, hb]
  ·simp [eL_nil] at h1
 | cons x r =>
  refine ifB_i (fun h1 => ?_) (fun h1 => ?_) <;> (conv => whnf) <;> simp only [eH, eL_cons] at h1
  ·omega
  ·refine idx_at (by simp) (show (x :: r)[0]? = some x from rfl) ?_
   conv => whnf
   simp [rowsIn, hb]
theorem spec_RowsIn_spec (g : Grd) : FnSpec PR f_spec_RowsIn [aG g] (ai (rowsIn g)) [] 0 := by
 refine FnSpec.intro hT (pf Tryz.func194) rfl (by kernel_rfl) Tryz.ntmps194 rfl ?_
 conv => whnf
 cases hb : g.bins with
 | nil =>
  refine ifB_i (fun h1 => ?_) (fun h1 => ?_) <;> (conv => whnf) <;> simp only [eH, eL_nil] at h1
  ·simp [rowsIn, hb]
  ·simp [eL_nil] at h1
 | cons x r =>
  refine ifB_i (fun h1 => ?_) (fun h1 => ?_) <;> (conv => whnf) <;> simp only [eH, eL_cons] at h1
  ·omega
  ·refine idx_at (by simp) (show (x :: r)[0]? = some x from rfl) ?_
   conv => whnf
   simp [rowsIn, hb]
end Go.H.S
namespace Go.H.S
open Go Go.Proofs Go.H
attribute [local irreducible] Tri FnSpec FnSpecM FnSpecX FnSpecJ
def decP (x : Int) : Prop := -2147483647 ≤ x ∧ x ≤ 2147483647
def cutsP (cuts : List Int) : Prop := (∀ (j : Nat) (a b : Int), cuts[j]? = some a → cuts[j + 1]? = some b → a < b) ∧ cuts.length ≤ 7 ∧ ∀ c ∈ cuts, decP c
noncomputable def cutsOk (cuts : List Int) : Bool := @decide (cutsP cuts) (Classical.propDecidable _)
theorem cutsOk_t {cuts : List Int} (h : cutsP cuts) : cutsOk cuts = true := by unfold cutsOk; exact @decide_eq_true _ (Classical.propDecidable _) h
theorem cutsOk_f {cuts : List Int} (h : ¬ cutsP cuts) : cutsOk cuts = false := by unfold cutsOk; exact @decide_eq_false _ (Classical.propDecidable _) h
theorem cutsOk_iff {cuts : List Int} : cutsOk cuts = true ↔ cutsP cuts := by
 constructor
 ·intro h
  rcases Classical.em (cutsP cuts) with q | q
  ·exact q
  ·rw [cutsOk_f q] at h; cases h
 ·exact cutsOk_t
theorem impl_areDecimals_1_spec (x : Int) : FnSpec PR f_impl_areDecimals_1 [ai x] (ab (bNot (decide (-2147483647 ≤ x ∧ x ≤ 2147483647)))) [] 0 := by
 refine FnSpec.intro hT (pf Tryz.func303) rfl (by kernel_rfl) Tryz.ntmps303 rfl ?_
 conv => whnf
 refine .inl ⟨_, _, _, impl_isDecimal_spec x, rfl, ?_⟩
 conv => whnf
theorem impl_areDecimals_spec (xs : List Int) (hl : xs.length ≤ 1048576) : FnSpec PR f_impl_areDecimals [aIs xs] (ab (bNot (xs.any fun x => bNot (decide (-2147483647 ≤ x ∧ x ≤ 2147483647))))) [] 0 := by
 refine FnSpec.intro hT (pf Tryz.func252) rfl (by kernel_rfl) Tryz.ntmps252 rfl ?_
 conv => whnf
 refine .inl ⟨_, _, _, slices_ContainsFunc_Lint_int_0 xs f_impl_areDecimals_1 (fun x => bNot (decide (-2147483647 ≤ x ∧ x ≤ 2147483647))) (fun x _ => impl_areDecimals_1_spec x) (by omega), rfl, ?_⟩
 conv => whnf
theorem impl_CutsOk_spec (cuts : List Int) (hl : cuts.length ≤ 1048576) : FnSpec PR f_impl_CutsOk [aIs cuts] (ab (cutsOk cuts)) [] 0 := by
 refine FnSpec.intro hT (pf Tryz.func229) rfl (by kernel_rfl) Tryz.ntmps229 rfl ?_
 conv => whnf
 refine tri_loop hT [0, 3] (α := Nat) (fun x => { t := [(0, aIs cuts), (3, ai (x + 1 : Nat))], h := [], n := 0, N := 27 })
  (fun x => (x + 1 ≤ cuts.length ∨ x = 0) ∧ ∀ (j : Nat) (a b : Int), j < x → cuts[j]? = some a → cuts[j + 1]? = some b → a < b) (fun x => cuts.length - x) 0 (by first | ((conv => whnf); done) | ((conv => whnf); rfl)) ⟨.inr rfl, fun j a b h => by omega⟩ ?_
 intro k ⟨hk, hr⟩
 conv => whnf
 refine ifB_i (fun h1 => ?_) (fun h1 => ?_) <;> (conv => whnf) <;> simp only [eH] at h1
 ·obtain ⟨x, hx⟩ := get_lt (show k < cuts.length by omega)
  obtain ⟨y, hy⟩ := get_lt (show k + 1 < cuts.length by omega)
  have e1 : wSub .i64 ((k + 1 : Nat) : Int) 1 = (k : Int) := by rw [wSub64] <;> omega
  refine tri_every hT hmix [0, 3, 19] { t := [(0, aIs cuts), (3, ai (k + 1 : Nat)), (19, ab (iLe y x))], h := [], n := 0, N := 27 } rfl ?_ ?_
  ·repeat' first
    | (refine anyV_one rfl ?_; (conv => whnf))
    | (refine anyV_two rfl ?_ ?_ <;> (conv => whnf))
    | (rw [e1]; (conv => whnf))
    | (refine idx_at (k := k + 1) rfl hy ?_; (conv => whnf))
    | (refine idx_at (k := k) rfl hx ?_; (conv => whnf))
    | (refine anyV_end rfl ?_; (conv => whnf); done)
  conv => whnf
  refine ifB_i (fun h2 => ?_) (fun h2 => ?_) <;> (conv => whnf) <;> simp only [eH] at h2
  ·rw [cutsOk_f (fun hc => by have := hc.1 k x y hx hy; omega)]
  ·refine ⟨k + 1, by omega, ⟨.inl (by omega), fun j a b hj ha hb => ?_⟩, ?_⟩
   ·rcases Nat.lt_or_ge j k with q | q
    ·exact hr j a b q ha hb
    ·obtain rfl : j = k := by omega
     rw [hx] at ha; rw [hy] at hb
     cases ha; cases hb
     omega
   ((conv => whnf); simp only [eS, wI (show k + 1 < cuts.length by omega) (by omega)])
 ·have hr2 : ∀ (j : Nat) (a b : Int), cuts[j]? = some a → cuts[j + 1]? = some b → a < b := fun j a b ha hb => hr j a b (by have := (List.getElem?_eq_some_iff.1 hb).1; omega) ha hb
  rw [show nInt (dLen (eL cI cuts)) = (cuts.length : Int) by simp]
  cases h7 : iLe (cuts.length : Int) 7
  ·conv => whnf
   simp at h7
   rw [cutsOk_f (fun hc => by have := hc.2.1; omega)]
  ·conv => whnf
   simp at h7
   refine .inl ⟨_, _, _, impl_areDecimals_spec cuts hl, rfl, ?_⟩
   conv => whnf
   rw [show cutsOk cuts = bNot (cuts.any fun x => bNot (decide (-2147483647 ≤ x ∧ x ≤ 2147483647))) from ?_]
   cases ha : cuts.any fun x => bNot (decide (-2147483647 ≤ x ∧ x ≤ 2147483647))
   ·refine cutsOk_t ⟨hr2, by omega, fun c hc => ?_⟩
    rw [List.any_eq_false] at ha
    have := ha c hc
    simp [bNot] at this
    exact ⟨by omega, by omega⟩
   ·refine cutsOk_f fun hc => ?_
    rw [List.any_eq_true] at ha
    obtain ⟨c, hc1, hc2⟩ := ha
    have := hc.2.2 c hc1
    simp [bNot] at hc2
    unfold decP at this
    omega
theorem spec_CutsOk_spec (cuts : List Int) (hl : cuts.length ≤ 1048576) : FnSpec PR f_spec_CutsOk [aIs cuts] (ab (cutsOk cuts)) [] 0 := by
 refine FnSpec.intro hT (pf Tryz.func278) rfl (by kernel_rfl) Tryz.ntmps278 rfl ?_
 conv => whnf
 refine tri_loop hT [0, 3] (α := Nat) (fun x => { t := [(0, aIs cuts), (3, ai x)], h := [], n := 0, N := 35 })
  (fun x => x ≤ cuts.length ∧ (∀ (j : Nat) (a b : Int), j + 1 < x → cuts[j]? = some a → cuts[j + 1]? = some b → a < b) ∧ ∀ (j : Nat) (a : Int), j < x → cuts[j]? = some a → decP a) (fun x => cuts.length - x) 0 (by first | ((conv => whnf); done) | ((conv => whnf); rfl)) ⟨Nat.zero_le _, fun j a b h => by omega, fun j a h => by omega⟩ ?_
 intro k ⟨hk, hr, hd⟩
 conv => whnf
 refine ifB_i (fun h1 => ?_) (fun h1 => ?_) <;> (conv => whnf) <;> simp only [eH] at h1
 ·obtain ⟨x, hx⟩ := get_lt (show k < cuts.length by omega)
  refine tri_conf hT hmix (by kernel_rfl) ?_
  conv => whnf
  refine idx_at rfl hx ?_
  conv => whnf
  refine ⟨_, _, spec_l6Value_spec x, rfl, ?_⟩
  cases hd1 : decide (-2147483647 ≤ x ∧ x ≤ 2147483647)
  ·have hdx : ¬ decP x := by unfold decP; simpa using hd1
   conv => whnf
   repeat' (first | (refine And.intro (fun q => ?_) (fun q => ?_) <;> cases q <;> (conv => whnf)) | fail)
   rw [cutsOk_f (fun hc => hdx (hc.2.2 x (List.mem_of_getElem? hx)))]
  ·have hdx : decP x := by unfold decP; simpa using hd1
   have hd' : ∀ (j : Nat) (a : Int), j < k + 1 → cuts[j]? = some a → decP a := fun j a hj ha => by
    rcases Nat.lt_or_ge j k with q | q
    ·exact hd j a q ha
    ·obtain rfl : j = k := by omega
     rw [hx] at ha; cases ha; exact hdx
   conv => whnf
   cases k with
   | zero =>
    repeat' (first | (refine And.intro (fun q => ?_) (fun q => ?_) <;> cases q <;> (conv => whnf)) | fail)
    rw [show iLt 0 ((0 : Nat) : Int) = false from rfl]
    repeat' (first | (refine And.intro (fun q => ?_) (fun q => ?_) <;> cases q <;> (conv => whnf)) | fail)
    refine ⟨1, by omega, ⟨by omega, fun j a b h => by omega, hd'⟩, ?_⟩
    ((conv => whnf); simp only [eS])
    show wAdd .i64 ((0 : Nat) : Int) 1 = ((1 : Nat) : Int)
    rw [wAdd64] <;> omega
   | succ i =>
    repeat' (first | (refine And.intro (fun q => ?_) (fun q => ?_) <;> cases q <;> (conv => whnf)) | fail)
    rw [show iLt 0 ((i + 1 : Nat) : Int) = true from decide_eq_true (by omega)]
    obtain ⟨y, hy⟩ := get_lt (show i < cuts.length by omega)
    have e1 : wSub .i64 ((i + 1 : Nat) : Int) 1 = (i : Int) := by rw [wSub64] <;> omega
    repeat' (first | (refine And.intro (fun q => ?_) (fun q => ?_) <;> cases q <;> (conv => whnf)) | fail)
    refine idx_at e1 hy ?_
    conv => whnf
    repeat' (first | (refine And.intro (fun q => ?_) (fun q => ?_) <;> cases q <;> (conv => whnf)) | fail)
    refine idx_at rfl hx ?_
    conv => whnf
    repeat' (first | (refine And.intro (fun q => ?_) (fun q => ?_) <;> cases q <;> (conv => whnf)) | fail)
    cases h3 : iLe x y
    ·simp at h3
     repeat' (first | (refine And.intro (fun q => ?_) (fun q => ?_) <;> cases q <;> (conv => whnf)) | fail)
     refine ⟨i + 1 + 1, by omega, ⟨by omega, fun j a b hj ha hb => ?_, hd'⟩, ?_⟩
     ·rcases Nat.lt_or_ge (j + 1) (i + 1) with q | q
      ·exact hr j a b q ha hb
      ·obtain rfl : j = i := by omega
       rw [hy] at ha; rw [hx] at hb
       cases ha; cases hb
       exact h3
     ((conv => whnf); simp only [eS, wI (show i + 1 < cuts.length by omega) (by omega)])
    ·simp at h3
     repeat' (first | (refine And.intro (fun q => ?_) (fun q => ?_) <;> cases q <;> (conv => whnf)) | fail)
     conv => whnf
     rw [cutsOk_f (fun hc => by have := hc.1 i y x hy hx; omega)]
 ·obtain rfl : k = cuts.length := by omega
  rw [show nInt (dLen (eL cI cuts)) = (cuts.length : Int) by simp]
  conv => whnf
  cases h7 : iLe (cuts.length : Int) 7
  ·simp at h7
   rw [cutsOk_f (fun hc => by have := hc.2.1; omega)]
  ·simp at h7
   rw [cutsOk_t ⟨fun j a b ha hb => hr j a b (by have := (List.getElem?_eq_some_iff.1 hb).1; omega) ha hb, by omega, fun c hc => by
    obtain ⟨j, hj⟩ := List.mem_iff_getElem?.1 hc
    exact hd j c (List.getElem?_eq_some_iff.1 hj).1 hj⟩]
def smG (g : Grd) : Prop := g.cuts.length ≤ 1048576 ∧ g.bins.length ≤ 1048576 ∧ (∀ c ∈ g.cuts, c.length ≤ 1048576) ∧ ∀ b ∈ g.bins, b.length ≤ 1048576
def gridAt (g : Grd) (k : Nat) : Prop := ∀ c b, g.cuts[k]? = some c → g.bins[k]? = some b → cutsP c ∧ b.length = rowsIn g ∧ ∀ x ∈ b, 0 ≤ x ∧ x ≤ (c.length : Int)
def gridP (g : Grd) : Prop := (1 ≤ g.cuts.length ∧ g.cuts.length ≤ 4) ∧ g.bins.length = g.cuts.length ∧ (1 ≤ rowsIn g ∧ rowsIn g ≤ 40) ∧ ∀ k, gridAt g k
noncomputable def gridOk (g : Grd) : Bool := @decide (gridP g) (Classical.propDecidable _)
theorem gridOk_t {g : Grd} (h : gridP g) : gridOk g = true := by unfold gridOk; exact @decide_eq_true _ (Classical.propDecidable _) h
theorem gridOk_f {g : Grd} (h : ¬ gridP g) : gridOk g = false := by unfold gridOk; exact @decide_eq_false _ (Classical.propDecidable _) h
theorem gridOk_iff {g : Grd} : gridOk g = true ↔ gridP g := by
 constructor
 ·intro h
  rcases Classical.em (gridP g) with q | q
  ·exact q
  ·rw [gridOk_f q] at h; cases h
 ·exact gridOk_t
theorem impl_GridOk_1_spec (x : Int) (c : List Int) (hl : c.length ≤ 1048576) : FnSpec PR f_impl_GridOk_1 [ai x, .c (.d (.rp [.sl 1 (eL cI c)]))] (ab (bNot (decide (0 ≤ x ∧ x ≤ (c.length : Int))))) [] 0 := by
 refine FnSpec.intro hT (pf Tryz.func230) rfl (by kernel_rfl) Tryz.ntmps230 rfl ?_
 conv => whnf
 refine .inl ⟨_, _, _, impl_within_spec _ _ _, rfl, ?_⟩
 conv => whnf
 rw [show nInt (dLen (eL cI c)) = (c.length : Int) by simp]
theorem impl_GridOk_spec (g : Grd) (hg : smG g) : FnSpec PR f_impl_GridOk [aG g] (ab (gridOk g)) [] 0 := by
 obtain ⟨z1, z2, z3, z4⟩ := hg
 refine FnSpec.intro hT (pf Tryz.func118) rfl (by kernel_rfl) Tryz.ntmps118 rfl ?_
 conv => whnf
 refine .inl ⟨_, _, _, impl_within_spec _ _ _, rfl, ?_⟩
 conv => whnf
 rw [show nInt (dLen (eL cIs g.cuts)) = (g.cuts.length : Int) by simp]
 cases h1 : decide (1 ≤ (g.cuts.length : Int) ∧ (g.cuts.length : Int) ≤ 4)
 ·conv => whnf
  rw [decide_eq_false_iff_not] at h1
  rw [gridOk_f (fun hc => h1 ⟨by have := hc.1; omega, by have := hc.1; omega⟩)]
 rw [decide_eq_true_iff] at h1
 conv => whnf
 rw [show nInt (dLen (eL cIs g.bins)) = (g.bins.length : Int) by simp, show nInt (dLen (eL cIs g.cuts)) = (g.cuts.length : Int) by simp]
 cases h2 : iEq (g.bins.length : Int) (g.cuts.length : Int)
 ·conv => whnf
  rw [gridOk_f (fun hc => by have := hc.2.1; simp at h2; omega)]
 have h2 : g.bins.length = g.cuts.length := by simp at h2; omega
 conv => whnf
 refine .inl ⟨_, _, _, impl_RowsIn_spec g, rfl, ?_⟩
 conv => whnf
 refine .inl ⟨_, _, _, impl_within_spec _ _ _, rfl, ?_⟩
 conv => whnf
 cases h3 : decide (1 ≤ (rowsIn g : Int) ∧ (rowsIn g : Int) ≤ 40)
 ·conv => whnf
  rw [decide_eq_false_iff_not] at h3
  rw [gridOk_f (fun hc => h3 ⟨by have := hc.2.2.1; omega, by have := hc.2.2.1; omega⟩)]
 rw [decide_eq_true_iff] at h3
 conv => whnf
 refine tri_rp 0 ?_
 conv => whnf
 refine tri_loop hT [1, 26, 27, 28] (α := Nat) (fun x => { t := [(1, .c (.d (.rp [.sl 1 (eL cIs g.cuts), .sl 1 (eL cIs g.bins)]))), (26, aIss g.cuts), (27, ai (nInt (dLen (eL cIs g.cuts)))), (28, ai x)], h := [], n := 0, N := 57 })
  (fun x => x ≤ g.cuts.length ∧ ∀ j, j < x → gridAt g j) (fun x => g.cuts.length - x) 0 (by first | ((conv => whnf); done) | ((conv => whnf); rfl)) ⟨Nat.zero_le _, fun j h => by omega⟩ ?_
 intro k ⟨hk, hr⟩
 conv => whnf
 refine ifB_i (fun h4 => ?_) (fun h4 => ?_) <;> (conv => whnf) <;> simp only [eH] at h4
 ·obtain ⟨c, hc⟩ := get_lt (show k < g.cuts.length by omega)
  obtain ⟨b, hb⟩ := get_lt (show k < g.bins.length by omega)
  refine idx_at rfl hc ?_
  conv => whnf
  have hcl := z3 c (List.mem_of_getElem? hc)
  have hbl := z4 b (List.mem_of_getElem? hb)
  refine tri_rp 0 ?_
  conv => whnf
  refine tri_conf hT hmix (by kernel_rfl) ?_
  conv => whnf
  refine ⟨_, _, impl_CutsOk_spec c hcl, rfl, ?_⟩
  cases h5 : cutsOk c
  ·conv => whnf
   repeat' (first | (refine And.intro (fun q => ?_) (fun q => ?_) <;> cases q <;> (conv => whnf)) | fail)
   rw [gridOk_f (fun hp => by rw [cutsOk_t (hp.2.2.2 k c b hc hb).1] at h5; cases h5)]
  have h5' := cutsOk_iff.1 h5
  conv => whnf
  repeat' (first | (refine And.intro (fun q => ?_) (fun q => ?_) <;> cases q <;> (conv => whnf)) | fail)
  refine idx_at rfl hb ?_
  conv => whnf
  repeat' (first | (refine And.intro (fun q => ?_) (fun q => ?_) <;> cases q <;> (conv => whnf)) | fail)
  refine ⟨_, _, impl_RowsIn_spec g, rfl, ?_⟩
  conv => whnf
  repeat' (first | (refine And.intro (fun q => ?_) (fun q => ?_) <;> cases q <;> (conv => whnf)) | fail)
  rw [show nInt (dLen (eL cI b)) = (b.length : Int) by simp]
  cases h6 : iEq (b.length : Int) (rowsIn g : Int)
  ·conv => whnf
   repeat' (first | (refine And.intro (fun q => ?_) (fun q => ?_) <;> cases q <;> (conv => whnf)) | fail)
   rw [gridOk_f (fun hp => by have := (hp.2.2.2 k c b hc hb).2.1; simp at h6; omega)]
  have h6' : b.length = rowsIn g := by simp at h6; omega
  conv => whnf
  repeat' (first | (refine And.intro (fun q => ?_) (fun q => ?_) <;> cases q <;> (conv => whnf)) | fail)
  refine idx_at rfl hb ?_
  conv => whnf
  repeat' (first | (refine And.intro (fun q => ?_) (fun q => ?_) <;> cases q <;> (conv => whnf)) | fail)
  refine ⟨_, _, slices_ContainsFunc_Lint_int_1 b f_impl_GridOk_1 (.rp [.sl 1 (eL cI c)]) (fun x => bNot (decide (0 ≤ x ∧ x ≤ (c.length : Int)))) (fun x _ => impl_GridOk_1_spec x c hcl) (by omega), rfl, ?_⟩
  conv => whnf
  repeat' (first | (refine And.intro (fun q => ?_) (fun q => ?_) <;> cases q <;> (conv => whnf)) | fail)
  refine ifB_i (fun h7 => ?_) (fun h7 => ?_) <;> (conv => whnf)
  ·rw [gridOk_f (fun hp => ?_)]
   rw [List.any_eq_true] at h7
   obtain ⟨x, hx1, hx2⟩ := h7
   have := (hp.2.2.2 k c b hc hb).2.2 x hx1
   simp [bNot] at hx2
   omega
  ·refine ⟨k + 1, by omega, ⟨by omega, fun j hj => ?_⟩, ?_⟩
   ·rcases Nat.lt_or_ge j k with q | q
    ·exact hr j q
    ·obtain rfl : j = k := by omega
     intro c' b' hc' hb'
     rw [hc] at hc'; rw [hb] at hb'
     cases hc'; cases hb'
     refine ⟨h5', h6', fun x hx => ?_⟩
     rw [List.any_eq_false] at h7
     have h7 := h7 x hx
     simp [bNot] at h7
     exact h7
   ((conv => whnf); simp only [eS, wI (show k < g.cuts.length by omega) (by omega)])
 ·obtain rfl : k = g.cuts.length := by omega
  rw [gridOk_t ⟨by omega, h2, by omega, fun j => ?_⟩]
  rcases Nat.lt_or_ge j g.cuts.length with q | q
  ·exact hr j q
  ·intro c b hc
   rw [List.getElem?_eq_none q] at hc
   cases hc
theorem spec_GridOk_spec (g : Grd) (hg : smG g) : FnSpec PR f_spec_GridOk [aG g] (ab (gridOk g)) [] 0 := by
 obtain ⟨z1, z2, z3, z4⟩ := hg
 refine FnSpec.intro hT (pf Tryz.func193) rfl (by kernel_rfl) Tryz.ntmps193 rfl ?_
 conv => whnf
 refine .inl ⟨_, _, _, spec_l1In_spec _ _ _, rfl, ?_⟩
 conv => whnf
 rw [show nInt (dLen (eL cIs g.cuts)) = (g.cuts.length : Int) by simp]
 cases h1 : decide (1 ≤ (g.cuts.length : Int) ∧ (g.cuts.length : Int) ≤ 4)
 ·conv => whnf
  rw [decide_eq_false_iff_not] at h1
  rw [gridOk_f (fun hc => h1 ⟨by have := hc.1; omega, by have := hc.1; omega⟩)]
 rw [decide_eq_true_iff] at h1
 conv => whnf
 rw [show nInt (dLen (eL cIs g.bins)) = (g.bins.length : Int) by simp, show nInt (dLen (eL cIs g.cuts)) = (g.cuts.length : Int) by simp]
 cases h2 : iEq (g.bins.length : Int) (g.cuts.length : Int)
 ·conv => whnf
  rw [gridOk_f (fun hc => by have := hc.2.1; simp at h2; omega)]
 have h2 : g.bins.length = g.cuts.length := by simp at h2; omega
 conv => whnf
 refine .inl ⟨_, _, _, spec_RowsIn_spec g, rfl, ?_⟩
 conv => whnf
 refine .inl ⟨_, _, _, spec_l1In_spec _ _ _, rfl, ?_⟩
 conv => whnf
 cases h3 : decide (1 ≤ (rowsIn g : Int) ∧ (rowsIn g : Int) ≤ 40)
 ·conv => whnf
  rw [decide_eq_false_iff_not] at h3
  rw [gridOk_f (fun hc => h3 ⟨by have := hc.2.2.1; omega, by have := hc.2.2.1; omega⟩)]
 rw [decide_eq_true_iff] at h3
 conv => whnf
 refine tri_rp 0 ?_
 conv => whnf
 refine tri_loop hT [1, 3] (α := Nat) (fun x => { t := [(1, .c (.d (.rp [.sl 1 (eL cIs g.cuts), .sl 1 (eL cIs g.bins)]))), (3, ai x)], h := [], n := 0, N := 76 })
  (fun x => x ≤ g.cuts.length ∧ ∀ j, j < x → gridAt g j) (fun x => g.cuts.length - x) 0 (by first | ((conv => whnf); done) | ((conv => whnf); rfl)) ⟨Nat.zero_le _, fun j h => by omega⟩ ?_
 intro k ⟨hk, hr⟩
 conv => whnf
 rw [show nInt (dLen (eL cIs g.cuts)) = (g.cuts.length : Int) by simp]
 refine ifB_i (fun h4 => ?_) (fun h4 => ?_) <;> (conv => whnf) <;> simp only [eH] at h4
 ·obtain ⟨c, hc⟩ := get_lt (show k < g.cuts.length by omega)
  obtain ⟨b, hb⟩ := get_lt (show k < g.bins.length by omega)
  have hcl := z3 c (List.mem_of_getElem? hc)
  have hbl := z4 b (List.mem_of_getElem? hb)
  refine tri_conf hT hmix (by kernel_rfl) ?_
  conv => whnf
  refine idx_at rfl hc ?_
  conv => whnf
  refine ⟨_, _, spec_CutsOk_spec c hcl, rfl, ?_⟩
  cases h5 : cutsOk c
  ·conv => whnf
   repeat' (first | (refine And.intro (fun q => ?_) (fun q => ?_) <;> cases q <;> (conv => whnf)) | fail)
   rw [gridOk_f (fun hp => by rw [cutsOk_t (hp.2.2.2 k c b hc hb).1] at h5; cases h5)]
  have h5' := cutsOk_iff.1 h5
  conv => whnf
  repeat' (first | (refine And.intro (fun q => ?_) (fun q => ?_) <;> cases q <;> (conv => whnf)) | fail)
  refine idx_at rfl hb ?_
  conv => whnf
  repeat' (first | (refine And.intro (fun q => ?_) (fun q => ?_) <;> cases q <;> (conv => whnf)) | fail)
  refine ⟨_, _, spec_RowsIn_spec g, rfl, ?_⟩
  conv => whnf
  repeat' (first | (refine And.intro (fun q => ?_) (fun q => ?_) <;> cases q <;> (conv => whnf)) | fail)
  rw [show nInt (dLen (eL cI b)) = (b.length : Int) by simp]
  cases h6 : iEq (b.length : Int) (rowsIn g : Int)
  ·conv => whnf
   repeat' (first | (refine And.intro (fun q => ?_) (fun q => ?_) <;> cases q <;> (conv => whnf)) | fail)
   rw [gridOk_f (fun hp => by have := (hp.2.2.2 k c b hc hb).2.1; simp at h6; omega)]
  have h6' : b.length = rowsIn g := by simp at h6; omega
  conv => whnf
  repeat' (first | (refine And.intro (fun q => ?_) (fun q => ?_) <;> cases q <;> (conv => whnf)) | fail)
  refine tri_loop hT [1, 3, 4] (α := Nat) (fun x => { t := [(1, .c (.d (.rp [.sl 1 (eL cIs g.cuts), .sl 1 (eL cIs g.bins)]))), (3, ai k), (4, ai x)], h := [], n := 0, N := 76 })
   (fun x => x ≤ b.length ∧ ∀ (j : Nat) (y : Int), j < x → b[j]? = some y → 0 ≤ y ∧ y ≤ (c.length : Int)) (fun x => b.length - x) 0 (by first | ((conv => whnf); done) | ((conv => whnf); rfl)) ⟨Nat.zero_le _, fun j y h => by omega⟩ ?_
  intro i ⟨hi, hq⟩
  conv => whnf
  refine idx_at rfl hb ?_
  conv => whnf
  rw [show nInt (dLen (eL cI b)) = (b.length : Int) by simp]
  refine ifB_i (fun h7 => ?_) (fun h7 => ?_) <;> (conv => whnf) <;> simp only [eH] at h7
  ·obtain ⟨y, hy⟩ := get_lt (show i < b.length by omega)
   refine tri_conf hT hmix (by kernel_rfl) ?_
   conv => whnf
   refine idx_at rfl hb ?_
   conv => whnf
   refine idx_at rfl hy ?_
   conv => whnf
   refine idx_at rfl hc ?_
   conv => whnf
   refine ⟨_, _, spec_l1In_spec _ _ _, rfl, ?_⟩
   conv => whnf
   rw [show nInt (dLen (eL cI c)) = (c.length : Int) by simp]
   cases h8 : decide (0 ≤ y ∧ y ≤ (c.length : Int))
   ·conv => whnf
    rw [decide_eq_false_iff_not] at h8
    rw [gridOk_f (fun hp => h8 ((hp.2.2.2 k c b hc hb).2.2 y (List.mem_of_getElem? hy)))]
   ·rw [decide_eq_true_iff] at h8
    conv => whnf
    refine ⟨i + 1, by omega, ⟨by omega, fun j x hj hx => ?_⟩, ?_⟩
    ·rcases Nat.lt_or_ge j i with q | q
     ·exact hq j x q hx
     ·obtain rfl : j = i := by omega
      rw [hy] at hx; cases hx; exact h8
    ((conv => whnf); simp only [eS, wI (show i < b.length by omega) (by omega)])
  ·refine ⟨k + 1, by omega, ⟨by omega, fun j hj => ?_⟩, ?_⟩
   ·rcases Nat.lt_or_ge j k with q | q
    ·exact hr j q
    ·obtain rfl : j = k := by omega
     intro c' b' hc' hb'
     rw [hc] at hc'; rw [hb] at hb'
     cases hc'; cases hb'
     refine ⟨h5', h6', fun x hx => ?_⟩
     obtain ⟨j', hj'⟩ := List.mem_iff_getElem?.1 hx
     exact hq j' x (by have := (List.getElem?_eq_some_iff.1 hj').1; omega) hj'
   ((conv => whnf); simp only [eS, wI (show k < g.cuts.length by omega) (by omega)])
 ·obtain rfl : k = g.cuts.length := by omega
  rw [gridOk_t ⟨by omega, h2, by omega, fun j => ?_⟩]
  rcases Nat.lt_or_ge j g.cuts.length with q | q
  ·exact hr j q
  ·intro c b hc
   rw [List.getElem?_eq_none q] at hc
   cases hc
def nrStep (g : Grd) (t : List Nd) (rows : List Int) (z z' : Int) : List Int := match t[z.toNat]? with
 | none => rows
 | some n => match g.cuts[n.f.toNat]?, g.bins[n.f.toNat]? with
  | some c, some b => if n.l = z' then (splitL b rows (binOfL c n.c)).1 else (splitL b rows (binOfL c n.c)).2
  | _, _ => rows
def nrWay (g : Grd) (t : List Nd) : List Int → List Int → List Int
 | rows, z :: z' :: w => nrWay g t (nrStep g t rows z z') (z' :: w)
 | rows, [_] => rows
 | rows, [] => rows
def nodeRowsL (g : Grd) (t : List Nd) (node : Int) : List Int := nrWay g t (allRowsL (rowsIn g)) (wayL t node)
end Go.H.S
namespace Go.H.S
open Go Go.Proofs Go.H
theorem and_xor_nat : ∀ (m n : Nat), 2 * (m &&& n) + (m ^^^ n) = m + n := by
 intro m
 induction m using Nat.strongRecOn with
 | ind m ih =>
  intro n
  rcases Nat.eq_zero_or_pos m with rfl | hm
  ·simp
  ·have h := ih (m / 2) (by omega) (n / 2)
   have h1 : (m &&& n) / 2 = m / 2 &&& n / 2 := Nat.and_div_two
   have h2 : (m ^^^ n) / 2 = m / 2 ^^^ n / 2 := Nat.xor_div_two
   have h3 : (m &&& n) % 2 = 1 ↔ m % 2 = 1 ∧ n % 2 = 1 := Nat.and_mod_two_eq_one
   have h4 : (m ^^^ n) % 2 = (m + n) % 2 := by
    have h5 := Nat.xor_mod_two_pow (a := m) (b := n) (n := 1)
    rw [show 2 ^ 1 = 2 from rfl] at h5
    rw [h5, Nat.add_mod]
    have a1 : m % 2 = 0 ∨ m % 2 = 1 := by omega
    have a2 : n % 2 = 0 ∨ n % 2 = 1 := by omega
    rcases a1 with a1 | a1 <;> rcases a2 with a2 | a2 <;> rw [a1, a2] <;> rfl
   rw [← h1, ← h2] at h
   omega
theorem and_xor_int (x y : BitVec 64) : 2 * (x &&& y).toInt + (x ^^^ y).toInt = x.toInt + y.toInt := by
 have h := and_xor_nat x.toNat y.toNat
 rw [BitVec.toInt_eq_msb_cond, BitVec.toInt_eq_msb_cond, BitVec.toInt_eq_msb_cond, BitVec.toInt_eq_msb_cond, BitVec.msb_and, BitVec.msb_xor, BitVec.toNat_and, BitVec.toNat_xor]
 cases hx : x.msb <;> cases hy : y.msb <;> simp <;> omega
theorem and_one_int (x y : BitVec 64) : (x &&& y &&& 1#64).toInt = if x.toInt % 2 = 1 ∧ y.toInt % 2 = 1 then 1 else 0 := by
 have e : (x &&& y &&& 1#64).toNat = (x.toNat &&& y.toNat) % 2 := by
  rw [BitVec.toNat_and, BitVec.toNat_and]
  exact Nat.and_one_is_mod _
 have h3 : (x.toNat &&& y.toNat) % 2 = 1 ↔ x.toNat % 2 = 1 ∧ y.toNat % 2 = 1 := Nat.and_mod_two_eq_one
 have o : ∀ z : BitVec 64, z.toInt % 2 = (z.toNat % 2 : Nat) := fun z => by
  rw [BitVec.toInt_eq_toNat_cond]; split <;> omega
 rw [BitVec.toInt_eq_toNat_cond, e, o x, o y]
 by_cases q : x.toNat % 2 = 1 ∧ y.toNat % 2 = 1
 ·rw [if_pos (by omega : ((x.toNat % 2 : Nat) : Int) = 1 ∧ ((y.toNat % 2 : Nat) : Int) = 1), h3.2 q]; rfl
 ·have : (x.toNat &&& y.toNat) % 2 = 0 := by have := (not_congr h3).2 q; omega
  rw [this]
  rw [if_pos (by decide), if_neg]
  ·rfl
  ·omega
theorem wrap_nat {n : Nat} (h : n < 18446744073709551616) : IntKind.i64.wrap (n : Int) = if 2 * n < 18446744073709551616 then (n : Int) else (n : Int) - 18446744073709551616 := by
 show (if (true && decide ((n : Int) % 18446744073709551616 ≥ 9223372036854775808)) = true then (n : Int) % 18446744073709551616 - 18446744073709551616 else (n : Int) % 18446744073709551616) = _
 rw [show ((n : Int) % 18446744073709551616) = n by omega]
 simp only [Bool.true_and, decide_eq_true_eq]
 split <;> split <;> omega
theorem wrapB_int (r : BitVec 64) : wrapB .i64 r = r.toInt := by
 unfold wrapB
 refine (wrap_nat (n := r.toNat) r.isLt).trans ?_
 rw [BitVec.toInt_eq_toNat_cond]
 rfl
theorem wAnd_int (a b : Int) : wAnd .i64 a b = (BitVec.ofInt 64 a &&& BitVec.ofInt 64 b).toInt := by unfold wAnd; exact wrapB_int _
theorem wXor_int (a b : Int) : wXor .i64 a b = (BitVec.ofInt 64 a ^^^ BitVec.ofInt 64 b).toInt := by unfold wXor; exact wrapB_int _
theorem wShr_one (x : Int) : wShr .i64 x 1 = x / 2 := by
 unfold wShr
 show x.fdiv (2 ^ 1) = x / 2
 rw [Int.fdiv_eq_ediv_of_nonneg _ (by decide)]; rfl
theorem ofInt_int {a : Int} (h : i64 a) : (BitVec.ofInt 64 a).toInt = a := by
 have h : -9223372036854775808 ≤ a ∧ a ≤ 9223372036854775807 := h
 rw [BitVec.toInt_ofInt, Int.bmod_def]
 split <;> omega
theorem ofInt_toInt (r : BitVec 64) : BitVec.ofInt 64 r.toInt = r := by simp
theorem half_spec {a b : Int} (ha : -4611686018427387904 ≤ a ∧ a ≤ 4611686018427387903) (hb : -4611686018427387904 ≤ b ∧ b ≤ 4611686018427387903) : wAdd .i64 (wAnd .i64 a b) (wShr .i64 (wXor .i64 a b) 1) = (a + b) / 2 := by
 have h := and_xor_int (BitVec.ofInt 64 a) (BitVec.ofInt 64 b)
 rw [ofInt_int (show i64 a from ⟨by omega, by omega⟩), ofInt_int (show i64 b from ⟨by omega, by omega⟩)] at h
 rw [wAnd_int, wXor_int, wShr_one]
 generalize (BitVec.ofInt 64 a &&& BitVec.ofInt 64 b).toInt = p at *
 generalize (BitVec.ofInt 64 a ^^^ BitVec.ofInt 64 b).toInt = q at *
 rw [wAdd64] <;> omega
theorem half_impl {a b : Int} (ha : -4611686018427387904 ≤ a ∧ a ≤ 4611686018427387903) (hb : -4611686018427387904 ≤ b ∧ b ≤ 4611686018427387903) :
  wAdd .i64 (wAdd .i64 (wShr .i64 a 1) (wShr .i64 b 1)) (wAnd .i64 (wAnd .i64 a b) 1) = (a + b) / 2 := by
 have h := and_one_int (BitVec.ofInt 64 a) (BitVec.ofInt 64 b)
 rw [ofInt_int (show i64 a from ⟨by omega, by omega⟩), ofInt_int (show i64 b from ⟨by omega, by omega⟩)] at h
 have e2 : wAnd .i64 (BitVec.ofInt 64 a &&& BitVec.ofInt 64 b).toInt 1 = (BitVec.ofInt 64 a &&& BitVec.ofInt 64 b &&& 1#64).toInt := by
  rw [wAnd_int, ofInt_toInt]; rfl
 rw [wAnd_int a b, e2, wShr_one, wShr_one, h, wAdd64 (x := a / 2) (y := b / 2) (by omega) (by omega)]
 split
 ·rw [wAdd64] <;> omega
 ·rw [wAdd64] <;> omega
end Go.H.S
