/- Library, part OA: draws of models and rows. -/
import Derived.Test.YtdolkacinfjhcaaGreatLNC
import Derived.Test.YtdolkacinfjhcaaGreatH29
import Derived.Test.YtdolkacinfjhcaaGreatShelf
import Derived.Sort.OwnSortedInts
set_option maxRecDepth 100000
set_option linter.unusedSimpArgs false
set_option linter.unusedVariables false
namespace Go.H.S
open Go Go.Proofs Go.H
attribute [local irreducible] Tri FnSpec FnSpecM FnSpecX FnSpecJ FnSpecB
end Go.H.S
namespace Go.H.S
open Go Go.Proofs Go.H
attribute [local irreducible] Tri FnSpec FnSpecM FnSpecX FnSpecJ FnSpecB
end Go.H.S
namespace Go.H.S
open Go Go.Proofs Go.H
attribute [local irreducible] Tri FnSpec FnSpecM FnSpecX FnSpecJ FnSpecB
end Go.H.S
namespace Go.H.S
open Go Go.Proofs Go.H
attribute [local irreducible] Tri FnSpec FnSpecM FnSpecX
theorem own_ints {w : World} {F : Nat → Prop} {e : TypeId} {v : Value} {xs : List Int} (h : OwnRep w F e 1 v (eL cI xs)) : w.ownsRow 0 e 1 v xs.length (xs.map (Value.int .i64)) := by
 obtain ⟨ys, h1, h2⟩ := h
 rw [eL_length] at h1
 have hl : ys.length = xs.length := by have := h1.1; omega
 have : ys = xs.map (Value.int .i64) := by
  apply List.ext_getElem?
  intro i
  rcases Nat.lt_or_ge i xs.length with q | q
  ·obtain ⟨x, hx⟩ := get_lt q
   obtain ⟨_, h3⟩ := h2 i (cI x) (by rw [eL_get, hx]; rfl)
   obtain ⟨u, hu, hf⟩ := h3 0 (.int .i64 x) rfl
   cases hf
   rw [List.getElem?_map, hx]
   simpa using hu
  ·rw [List.getElem?_eq_none (by omega), List.getElem?_eq_none (by simp; omega)]
 rw [← this]
 exact h1
theorem ints_own {w : World} {F : Nat → Prop} {e : TypeId} {v : Value} {xs : List Int} (h : w.ownsRow 0 e 1 v xs.length (xs.map (Value.int .i64))) : OwnRep w F e 1 v (eL cI xs) := by
 refine ⟨xs.map (Value.int .i64), by rw [eL_length]; exact h, fun i c hc => ?_⟩
 rw [eL_get] at hc
 simp only [Option.map_eq_some_iff] at hc
 obtain ⟨x, hx, rfl⟩ := hc
 refine ⟨rfl, fun j d hj => ?_⟩
 cases j with
 | zero =>
  simp [cI] at hj
  subst hj
  exact ⟨.int .i64 x, by simp [hx], .int _ _⟩
 | succ j => simp [cI] at hj
theorem lent_val {w : World} {F : Nat → Prop} {e sz : TypeId} {v0 v : Value} {es : List (List D)} (ho : OwnRep w F e sz v0 es) (h : AVRep w (conM F v0) [(0, .arr e sz 0 .own es)] (.c (.ref 0 0 none)) v) : v = v0 := by
 obtain ⟨_, _, _, h4⟩ := h
 obtain ⟨_, a, n, c, a', c', hv, rfl, hc, _, hh⟩ := h4 e sz .own es rfl
 obtain ⟨_, rfl, rfl⟩ := hh rfl
 obtain ⟨A, c2, hs, _⟩ := own_shape ho
 have hv0 : v0 = .slice a' n c' := hv
 rw [hv0] at hs ⊢
 simp only [Value.slice.injEq] at hs
 rw [hs.2.1]
 rfl
theorem grewX_of {L : Nat → Prop} {w w' : World} {row : Option Nat} (h : w.grownBy w' row) (hL : ∀ b, row = some b → L b) : GrewX L w w' :=
 ⟨h.os, h.tape, h.output, h.size, fun k hk hn => h.block k hk (fun e => hn (hL k e.symm))⟩
theorem partOf_eL {α : Type} (f : α → List D) (xs : List α) (b : Bool) (o n : Nat) : partOf (eL f xs) (some (b, o, n)) = eL f ((xs.drop o).take n) := by
 simp only [partOf, dPart_eq, eL, List.map_drop, List.map_take]
def sortL (xs : List Int) : List Int := xs.mergeSort fun x y => decide (x ≤ y)
theorem sortL_len (xs : List Int) : (sortL xs).length = xs.length := by simp [sortL]
theorem slices_Sort_spec (xs : List Int) (hx : xs.length ≤ 4000000000) : FnSpecM PR f_slices_Sort_Lint_int [.c (.ref 0 0 none)] t_int 1 (eL cI xs) (.tup []) (eL cI (sortL xs)) := by
 unfold FnSpecM
 refine ⟨⟨_, (pf Tryz.func280), rfl, by kernel_rfl⟩, by rw [eL_length, eL_length, sortL_len], rfl, flat_cI _, fun F w v0 vals hF ho hl hv => ?_⟩
 match vals, hl, hv with
 | [v], _, hv =>
  have e0 := lent_val ho (hv 0 _ v rfl rfl)
  subst e0
  have hi := own_ints ho
  unfold PR
  rcases hi.2 with ⟨rfl, h0⟩ | ⟨g, cap, cur, rfl, _, hg, h1, h2, h3, h4⟩
  ·have hx0 : xs = [] := List.eq_nil_of_length_eq_zero h0
   subst hx0
   refine (Try.slices_Sort_int_none none 0 w).mono fun en w' ⟨he, hw⟩ => ?_
   subst hw
   exact ⟨_, he, ⟨[], rfl, rfl, fun j x u hj => by simp at hj⟩, ⟨rfl, rfl, rfl, Nat.le_refl _, fun _ _ _ => rfl⟩, ints_own (by rw [show sortL [] = [] from List.eq_nil_of_length_eq_zero (sortL_len [])]; exact hi)⟩
  ·have hh : Go.Sort.Holds (Value.int .i64) w g 0 xs.toArray := holds_of_blockI hg (by rw [Nat.mul_one] at h4; exact h4)
   refine (Try.slices_Sort_int g 0 cap xs w hh (Array.getElem?_eq_some_iff.1 hg).1 (by omega)).mono fun en w' ⟨he, n, os, hw⟩ => ?_
   subst hw
   refine ⟨_, he, ⟨[], rfl, rfl, fun j x u hj => by simp at hj⟩, grewX_of (grownBy_sortedI _) (fun b hb => hb), ints_own ?_⟩
   have := ownsRow_sortedI (base := 0) (n := n) (os := os) (ts := sortL xs) (sortL_len xs) (Nat.zero_le _) hg h1 h2 h3
   rw [sortL_len]
   exact this
theorem compact_len (xs : List Int) : (Go.Lib.compact xs).length ≤ xs.length := by
 have h := List.length_filter_le (Go.Lib.keeps xs.toArray) (List.range xs.length)
 simp only [Go.Lib.compact, Go.Lib.compactUpTo, List.length_map]
 simpa using h
theorem slices_Compact_spec (xs : List Int) (hx : xs.length ≤ 4000000000) : FnSpecV PR f_slices_Compact_Lint_int [.c (.ref 0 0 none)] t_int 1 (eL cI xs) (eL cI (Go.Lib.compact xs)) := by
 refine ⟨⟨_, (pf Tryz.func201), rfl, by kernel_rfl⟩, flat_cI _, fun F w v0 vals hF ho hl hv => ?_⟩
 match vals, hl, hv with
 | [v], _, hv =>
  have e0 := lent_val ho (hv 0 _ v rfl rfl)
  subst e0
  have hi := own_ints ho
  unfold PR
  rcases hi.2 with ⟨rfl, h0⟩ | ⟨g, cap, cur, rfl, _, hg, h1, h2, h3, h4⟩
  ·have hx0 : xs = [] := List.eq_nil_of_length_eq_zero h0
   subst hx0
   refine (Try.slices_Compact_int_empty none 0 w).mono fun en w' ⟨he, hw⟩ => ?_
   subst hw
   exact ⟨_, he, ⟨rfl, rfl, rfl, Nat.le_refl _, fun _ _ _ => rfl⟩, ints_own hi, fun b hb => .inl hb⟩
  ·have hh : Go.Sort.Holds (Value.int .i64) w g 0 xs.toArray := holds_of_blockI hg (by rw [Nat.mul_one] at h4; exact h4)
   have hcl := compact_len xs
   refine (Try.slices_Compact_int g 0 cap xs w hh (by omega) h1).mono fun en w' ⟨he, q, hw⟩ => ?_
   subst hw
   have hgr := grownBy_sortedI (w := w) (g := g) (n := q) (os := #[]) (Go.Lib.compact xs ++ List.replicate (xs.length - (Go.Lib.compact xs).length) 0).toArray
   have hrow := ownsRow_sortedI (base := 0) (n := q) (os := #[]) (ss := xs) (ts := Go.Lib.compact xs ++ List.replicate (xs.length - (Go.Lib.compact xs).length) 0) (by simp; omega) (Nat.zero_le _) hg h1 h2 h3
   rw [Go.Sort.grow_empty] at hgr hrow
   refine ⟨_, he, grewX_of hgr (fun b hb => hb), ints_own ?_, fun b hb => .inl hb⟩
   rcases hrow.2 with ⟨h, _⟩ | ⟨g', cap', cur', hv', hb', hg', n1, n2, n3, n4⟩
   ·cases h
   ·cases hv'
    refine ⟨by simp, .inr ⟨g, cap, cur', rfl, Nat.zero_le _, hg', by omega, n2, n3, ?_⟩⟩
    rw [Nat.mul_one] at n4 ⊢
    have := congrArg (List.take (Go.Lib.compact xs).length) n4
    rw [List.take_take, Nat.min_eq_left hcl, List.map_append, List.take_left' (by simp)] at this
    exact this
theorem slices_Clone_ints_spec (xs : List Int) (hx : xs.length ≤ 1000000000) : FnSpec PR f_slices_Clone_Lint_int [aIs xs] (.c (.ref 0 0 none)) [(0, .arr t_int 1 0 .own (eL cI xs))] 1 := by
 refine FnSpec.intro hT (pf Tryz.func245) rfl (by kernel_rfl) Tryz.ntmps245 rfl ?_
 conv => whnf
 intro b hb
 cases b <;> (conv => whnf)
 ·refine ⟨by simp [eL_length, dLen_len]; omega, ?_⟩
  ((conv => whnf); simp only [eS, partOf_none, dApp_nil])
 ·have := hb rfl
  ((conv => whnf); simp only [eS, this])
theorem impl_SortInts_spec (xs : List Int) (hx : xs.length ≤ 1000000000) : FnSpec PR f_impl_SortInts [aIs xs] (.c (.ref 0 0 none)) [(0, .arr t_int 1 0 .own (eL cI (sortL xs)))] 1 := by
 refine FnSpec.intro hT (pf Tryz.func200) rfl (by kernel_rfl) Tryz.ntmps200 rfl ?_
 conv => whnf
 refine .inl ⟨_, _, _, slices_Clone_ints_spec xs hx, rfl, ?_⟩
 conv => whnf
 refine .inr (.inr (.inl ⟨0, ?_⟩))
 conv => whnf
 refine .inl ⟨_, _, slices_Sort_spec xs (by omega), ?_⟩
 conv => whnf
def distinctL (xs : List Int) : List Int := Go.Lib.compact (sortL xs)
theorem distinctL_len (xs : List Int) : (distinctL xs).length ≤ xs.length := by have := compact_len (sortL xs); rw [sortL_len] at this; exact this
theorem sortL_uniq {a : List Int} {xs : List Int} (h1 : a.Pairwise (· ≤ ·)) (h2 : a.Perm xs) : a = sortL xs := by
 refine List.Perm.eq_of_pairwise (le := fun x y => x ≤ y) (fun a b _ _ p q => by omega) h1 ?_ (h2.trans (List.mergeSort_perm xs _).symm)
 have := List.pairwise_mergeSort (le := fun x y : Int => decide (x ≤ y)) (fun a b c => by simp; omega) (fun a b => by simp; omega) xs
 simpa [sortL] using this
theorem sortL_sorted (xs : List Int) : (sortL xs).Pairwise (· ≤ ·) := by
 have := List.pairwise_mergeSort (le := fun x y : Int => decide (x ≤ y)) (fun a b c => by simp; omega) (fun a b => by simp; omega) xs
 simpa [sortL] using this
theorem sortL_put {xs : List Int} {x : Int} {k : Nat} (hk : k ≤ (sortL xs).length) (h1 : ∀ y, (sortL xs)[k - 1]? = some y → 0 < k → y ≤ x) (h2 : ∀ (j : Nat) (y : Int), k ≤ j → (sortL xs)[j]? = some y → x < y) :
  (sortL xs).take k ++ [x] ++ (sortL xs).drop k = sortL (xs ++ [x]) := by
 have hs := sortL_sorted xs
 have hs' := hs
 rw [← List.take_append_drop k (sortL xs), List.pairwise_append] at hs'
 obtain ⟨q1, q2, q3⟩ := hs'
 apply sortL_uniq
 ·rw [List.append_assoc, List.pairwise_append]
  refine ⟨q1, ?_, fun a ha b hb => ?_⟩
  ·simp only [List.singleton_append, List.pairwise_cons]
   refine ⟨fun b hb => ?_, q2⟩
   obtain ⟨j, hj⟩ := List.getElem?_of_mem hb
   rw [List.getElem?_drop] at hj
   have := h2 (k + j) b (by omega) hj
   omega
  ·have hax : a ≤ x := by
    obtain ⟨j, hj⟩ := List.getElem?_of_mem ha
    rw [List.getElem?_take] at hj
    split at hj
    ·rename_i hjk
     obtain ⟨y, hy⟩ := get_lt (show k - 1 < (sortL xs).length by omega)
     have hyx := h1 y hy (by omega)
     rcases Nat.lt_or_ge j (k - 1) with q | q
     ·have := List.pairwise_iff_getElem.1 hs j (k - 1) (List.getElem?_eq_some_iff.1 hj).1 (List.getElem?_eq_some_iff.1 hy).1 q
      rw [(List.getElem?_eq_some_iff.1 hj).2, (List.getElem?_eq_some_iff.1 hy).2] at this
      omega
     ·obtain rfl : j = k - 1 := by omega
      rw [hj] at hy; cases hy; exact hyx
    ·cases hj
   simp only [List.singleton_append, List.mem_cons] at hb
   rcases hb with rfl | hb
   ·exact hax
   ·exact q3 a ha b hb
 ·rw [List.append_assoc]
  refine List.perm_middle.trans ?_
  show (x :: ((sortL xs).take k ++ (sortL xs).drop k)).Perm _
  rw [List.take_append_drop]
  have hp : (sortL xs).Perm xs := List.mergeSort_perm xs _
  refine (List.Perm.cons x hp).trans ?_
  exact (List.perm_append_comm (l₁ := [x]) (l₂ := xs))
theorem ins_eq (s : List Int) (k : Nat) (x : Int) : dApp (dApp [] (partOf (eL cI s) (some (true, nAdd (offR none) (nOf 0), nSub (nOf (k : Int)) (nOf 0))))) (partOf [[D.int .i64 x]] none) = eL cI (s.take k ++ [x]) := by
 simp [partOf_eL, dApp_nil, nOf_eq, nSub_eq, nAdd_eq]
 rw [show [[D.int .i64 x]] = [cI x] from rfl, eL_app]
theorem eL_apps {α : Type} (f : α → List D) (l r : List α) : dApp (eL f l) (eL f r) = eL f (l ++ r) := by simp [dApp, eL]
set_option maxHeartbeats 4000000 in
theorem spec_SortInts_spec (xs : List Int) (hx : xs.length ≤ 1000000000) : FnSpec PR f_spec_SortInts [aIs xs] (.c (.ref 0 0 none)) [(0, .arr t_int 1 0 .own (eL cI (sortL xs)))] 1 := by
 refine FnSpec.intro hT (pf Tryz.func258) rfl (by kernel_rfl) Tryz.ntmps258 rfl ?_
 conv => whnf
 refine tri_loop hT [0, 3, 4] (α := Nat) (fun x => { t := [(0, aIs xs), (3, .c (.ref 0 0 none)), (4, ai x)], h := [(0, .arr t_int 1 0 .own (eL cI (sortL (xs.take x))))], n := 1, N := 49 })
  (fun x => x ≤ xs.length) (fun x => xs.length - x) 0 (by ((conv => whnf); simp only [eS]); simp [sortL, eL_nil]) (Nat.zero_le _) ?_
 intro i hi
 conv => whnf
 refine ifB_i (fun h1 => ?_) (fun h1 => ?_) <;> (conv => whnf) <;> simp at h1
 ·obtain ⟨x, hxi⟩ := get_lt h1
  have hlen : (sortL (xs.take i)).length = i := by rw [sortL_len]; simp; omega
  generalize hs : sortL (xs.take i) = s at *
  refine tri_loop hT [0, 3, 4, 5] (α := Nat) (fun k => { t := [(0, aIs xs), (3, .c (.ref 0 0 none)), (4, ai i), (5, ai k)], h := [(0, .arr t_int 1 0 .own (eL cI s))], n := 1, N := 49 })
   (fun k => k ≤ i ∧ ∀ (j : Nat) (y : Int), k ≤ j → s[j]? = some y → x < y) (fun k => k) i (by ((conv => whnf); simp only [eS]); simp [hlen]) ⟨Nat.le_refl _, fun j y hj hy => by have := (List.getElem?_eq_some_iff.1 hy).1; omega⟩ ?_
  intro k ⟨hk, hgt⟩
  conv => whnf
  refine tri_conf hT hmix (by kernel_rfl) ?_
  conv => whnf
  cases k with
  | zero =>
   rw [show iLt 0 ((0 : Nat) : Int) = false from rfl]
   repeat' (first | (refine And.intro (fun q => ?_) (fun q => ?_) <;> cases q <;> (conv => whnf)) | fail)
   refine tri_every hT hmix [0, 3, 4, 5, 6] { t := [(0, aIs xs), (3, .c (.ref 0 0 none)), (4, ai i), (5, ai (0 : Nat)), (6, .c (.ref 1 0 none))], h := [(0, .arr t_int 1 0 .own (eL cI s)), (1, .arr t_int 1 0 .own (eL cI (s.take (0) ++ [x])))], n := 2, N := 49 } rfl ?_ ?_
   ·repeat' first
     | (refine anyV_one rfl ?_; (conv => whnf))
     | (refine anyV_two rfl ?_ ?_ <;> (conv => whnf))
     | (refine anyV_three rfl ?_ ?_ ?_ <;> (conv => whnf))
     | (refine anyV_end rfl ?_; (conv => whnf); rw [ins_eq s (0) x])
     | (refine idx_at (by simp) hxi ?_; (conv => whnf))
     | (refine And.intro (by simp [partOf_eL, dApp_nil, eL_length, dLen_len]; try omega) ?_; (conv => whnf))
   ·conv => whnf
    refine And.intro (by simp; try omega) ?_
    conv => whnf
    refine And.intro (by simp [partOf_eL, eL_length, dLen_len]; try omega) ?_
    conv => whnf
    have hput := sortL_put (xs := xs.take i) (x := x) (k := 0) (by rw [hs]; omega) (fun y hy h0 => by omega) (fun j y hj hy => by rw [hs] at hy; exact hgt j y hj hy)
    rw [hs] at hput
    have htk : xs.take (i + 1) = xs.take i ++ [x] := by rw [List.take_add_one, hxi]; rfl
    refine ⟨i + 1, by omega, h1, ?_⟩
    ((conv => whnf); simp only [eS, wI h1 (by omega), htk, ← hput])
    simp [partOf_eL, eL_apps, nOf_eq, nSub_eq, nAdd_eq]
  | succ k' =>
   rw [show iLt 0 ((k' + 1 : Nat) : Int) = true from decide_eq_true (by omega)]
   have ek : wSub .i64 ((k' + 1 : Nat) : Int) 1 = (k' : Int) := by rw [wSub64] <;> omega
   obtain ⟨y, hy⟩ := get_lt (show k' < s.length by omega)
   repeat' (first | (refine And.intro (fun q => ?_) (fun q => ?_) <;> cases q <;> (conv => whnf)) | (refine idx_at (by simp) hxi ?_; (conv => whnf)) | (refine ref_at (k := k') ek (by simp; omega) ?_; (conv => whnf)) | (refine ld_at (by rw [ek]; simp) hy ?_; (conv => whnf)) | fail)
   generalize e2 : iLt x y = c2
   cases c2
   ·repeat' (first | (refine And.intro (fun q => ?_) (fun q => ?_) <;> cases q <;> (conv => whnf)) | (refine idx_at (by simp) hxi ?_; (conv => whnf)) | (refine ref_at (k := k') ek (by simp; omega) ?_; (conv => whnf)) | (refine ld_at (by rw [ek]; simp) hy ?_; (conv => whnf)) | fail)
    conv => whnf
    refine tri_every hT hmix [0, 3, 4, 5, 6] { t := [(0, aIs xs), (3, .c (.ref 0 0 none)), (4, ai i), (5, ai (k' + 1 : Nat)), (6, .c (.ref 1 0 none))], h := [(0, .arr t_int 1 0 .own (eL cI s)), (1, .arr t_int 1 0 .own (eL cI (s.take (k' + 1) ++ [x])))], n := 2, N := 49 } rfl ?_ ?_
    ·repeat' first
      | (refine anyV_one rfl ?_; (conv => whnf))
      | (refine anyV_two rfl ?_ ?_ <;> (conv => whnf))
      | (refine anyV_three rfl ?_ ?_ ?_ <;> (conv => whnf))
      | (refine anyV_end rfl ?_; (conv => whnf); rw [ins_eq s (k' + 1) x])
      | (refine idx_at (by simp) hxi ?_; (conv => whnf))
      | (refine And.intro (by simp [partOf_eL, dApp_nil, eL_length, dLen_len]; try omega) ?_; (conv => whnf))
    ·conv => whnf
     refine And.intro (by simp; try omega) ?_
     conv => whnf
     refine And.intro (by simp [partOf_eL, eL_length, dLen_len]; try omega) ?_
     conv => whnf
     have hf : ∀ y', (sortL (xs.take i))[k' + 1 - 1]? = some y' → 0 < k' + 1 → y' ≤ x := by
      intro y' hy' _
      rw [hs, show k' + 1 - 1 = k' from rfl, hy] at hy'
      cases hy'
      have : ¬ x < y := by simpa [iLt] using e2
      omega
     have hput := sortL_put (xs := xs.take i) (x := x) (k := k' + 1) (by rw [hs]; omega) hf (fun j y hj hy => by rw [hs] at hy; exact hgt j y hj hy)
     rw [hs] at hput
     have htk : xs.take (i + 1) = xs.take i ++ [x] := by rw [List.take_add_one, hxi]; rfl
     refine ⟨i + 1, by omega, h1, ?_⟩
     ((conv => whnf); simp only [eS, wI h1 (by omega), htk, ← hput])
     simp [partOf_eL, eL_apps, nOf_eq, nSub_eq, nAdd_eq]
     rw [show (s.drop (k' + 1)).take (s.length - (k' + 1)) = s.drop (k' + 1) from List.take_of_length_le (by simp)]
   ·repeat' (first | (refine And.intro (fun q => ?_) (fun q => ?_) <;> cases q <;> (conv => whnf)) | (refine idx_at (by simp) hxi ?_; (conv => whnf)) | (refine ref_at (k := k') ek (by simp; omega) ?_; (conv => whnf)) | (refine ld_at (by rw [ek]; simp) hy ?_; (conv => whnf)) | fail)
    conv => whnf
    refine ⟨k', by omega, ⟨by omega, fun j y2 hj hy2 => ?_⟩, ?_⟩
    ·rcases Nat.eq_or_lt_of_le hj with rfl | q
     ·rw [hy] at hy2; cases hy2; simpa [iLt] using e2
     ·exact hgt j y2 q hy2
    ·((conv => whnf); simp only [eS, ek])
 ·obtain rfl : i = xs.length := by omega
  rw [List.take_length]
end Go.H.S
namespace Go.H.S
open Go Go.Proofs Go.H
attribute [local irreducible] Tri FnSpec FnSpecM FnSpecX FnSpecJ
theorem compactUpTo_succ (xs : List Int) (i : Nat) (x : Int) (hx : xs[i]? = some x) : Go.Lib.compactUpTo xs.toArray (i + 1) = Go.Lib.compactUpTo xs.toArray i ++ (if Go.Lib.keeps xs.toArray i then [x] else []) := by
 have hlt := (List.getElem?_eq_some_iff.1 hx).1
 simp only [Go.Lib.compactUpTo, List.range_succ, List.filter_append, List.map_append]
 congr 1
 have hv : xs.toArray[i]! = x := by
  rw [getElem!_pos _ i (by simpa using hlt)]
  simpa using (List.getElem?_eq_some_iff.1 hx).2
 have hv2 : xs[i]?.getD 0 = x := by rw [hx]; rfl
 cases hk : Go.Lib.keeps xs.toArray i <;> simp [hk, hv, hv2]
theorem spec_Distinct_spec (xs : List Int) (hx : xs.length ≤ 1000000000) : FnSpec PR f_spec_Distinct [aIs xs] (.c (.ref 0 0 none)) [(0, .arr t_int 1 0 .own (eL cI (distinctL xs)))] 1 := by
 refine FnSpec.intro hT (pf Tryz.func199) rfl (by kernel_rfl) Tryz.ntmps199 rfl ?_
 conv => whnf
 refine .inl ⟨_, _, _, spec_SortInts_spec xs hx, rfl, ?_⟩
 have hsl := sortL_len xs
 have hd : distinctL xs = Go.Lib.compactUpTo (sortL xs).toArray (sortL xs).length := rfl
 rw [hd]
 generalize sortL xs = s at *
 refine tri_loop hT [3, 4, 5] (α := Nat) (fun i => { t := [(3, .c (.ref 0 0 none)), (4, .c (.ref 1 0 none)), (5, ai i)], h := [(0, .arr t_int 1 0 .own (eL cI (Go.Lib.compactUpTo s.toArray i))), (1, .arr t_int 1 0 .own (eL cI s))], n := 2, N := 37 })
  (fun i => i ≤ s.length) (fun i => s.length - i) 0 (by (conv => whnf); rw [show Go.Lib.compactUpTo s.toArray 0 = [] from rfl, eL_nil]; rfl) (Nat.zero_le _) ?_
 intro i hi
 conv => whnf
 refine ifB_i (fun h1 => ?_) (fun h1 => ?_) <;> (conv => whnf) <;> simp at h1
 ·obtain ⟨x, hxi⟩ := get_lt h1
  have hcl : (Go.Lib.compactUpTo s.toArray i).length ≤ i := by
   have h := List.length_filter_le (Go.Lib.keeps s.toArray) (List.range i)
   simp only [Go.Lib.compactUpTo, List.length_map]
   simpa using h
  have hcs := compactUpTo_succ s i x hxi
  have hk : ∀ b, Go.Lib.keeps s.toArray i = b → Go.Lib.keeps s.toArray i = b := fun _ h => h
  refine tri_conf hT hmix (by kernel_rfl) ?_
  conv => whnf
  cases i with
  | zero =>
   rw [show iEq ((0 : Nat) : Int) 0 = true from rfl]
   have hkt : Go.Lib.keeps s.toArray 0 = true := Go.Lib.keeps_lt_one _ 0 (by omega)
   rw [hkt] at hcs
   rw [if_pos rfl] at hcs
   have hnx : Go.Lib.compactUpTo s.toArray 1 = Go.Lib.compactUpTo s.toArray 0 ++ [x] := hcs
   generalize Go.Lib.compactUpTo s.toArray 0 = o at *
   repeat' (first | (refine And.intro (fun q => ?_) (fun q => ?_) <;> cases q <;> (conv => whnf)) | fail)
   refine ref_at (k := 0) (by simp) (by simp; omega) ?_
   conv => whnf
   refine ld_at (by simp) hxi ?_
   conv => whnf
   refine And.intro (by simp [eL_length, dLen_len]; omega) ?_
   conv => whnf
   refine ⟨1, by omega, h1, ?_⟩
   ((conv => whnf); simp only [eS, partOf_none])
   refine ⟨wI h1 (by omega), ?_⟩
   rw [hnx, ← eL_app]
   rfl
  | succ j =>
   rw [show iEq ((j + 1 : Nat) : Int) 0 = false from decide_eq_false (by omega)]
   obtain ⟨y, hy⟩ := get_lt (show j < s.length by omega)
   have ek : wSub .i64 ((j + 1 : Nat) : Int) 1 = (j : Int) := by rw [wSub64] <;> omega
   repeat' (first | (refine And.intro (fun q => ?_) (fun q => ?_) <;> cases q <;> (conv => whnf)) | fail)
   refine ref_at (k := j + 1) rfl (by simp; omega) ?_
   conv => whnf
   repeat' (first | (refine And.intro (fun q => ?_) (fun q => ?_) <;> cases q <;> (conv => whnf)) | fail)
   refine ld_at (by simp) hxi ?_
   conv => whnf
   repeat' (first | (refine And.intro (fun q => ?_) (fun q => ?_) <;> cases q <;> (conv => whnf)) | fail)
   refine ref_at (k := j) ek (by simp; omega) ?_
   conv => whnf
   repeat' (first | (refine And.intro (fun q => ?_) (fun q => ?_) <;> cases q <;> (conv => whnf)) | fail)
   refine ld_at (by rw [ek]; simp) hy ?_
   conv => whnf
   repeat' (first | (refine And.intro (fun q => ?_) (fun q => ?_) <;> cases q <;> (conv => whnf)) | fail)
   generalize e2 : iEq x y = c2
   have hg1 : s.toArray[j + 1]! = x := by
    rw [getElem!_pos _ (j + 1) (by simpa using h1)]
    simpa using (List.getElem?_eq_some_iff.1 hxi).2
   have hg2 : s.toArray[j + 1 - 1]! = y := by
    rw [getElem!_pos _ (j + 1 - 1) (by simp; omega)]
    simpa using (List.getElem?_eq_some_iff.1 hy).2
   cases c2
   ·have hkt : Go.Lib.keeps s.toArray (j + 1) = true := Go.Lib.keeps_pos (by rw [hg1, hg2]; simpa [iEq] using e2)
    rw [hkt, if_pos rfl] at hcs
    conv => whnf
    refine ref_at (k := j + 1) rfl (by simp; omega) ?_
    conv => whnf
    refine ld_at (by simp) hxi ?_
    conv => whnf
    refine And.intro (by simp [eL_length, dLen_len]; omega) ?_
    conv => whnf
    refine ⟨j + 1 + 1, by omega, h1, ?_⟩
    ((conv => whnf); simp only [eS, partOf_none])
    refine ⟨wI h1 (by omega), ?_⟩
    rw [hcs, ← eL_app]
    rfl
   ·have hkt : Go.Lib.keeps s.toArray (j + 1) = false := Go.Lib.keeps_neg (by omega) (by rw [hg1, hg2]; simpa [iEq] using e2)
    rw [hkt] at hcs
    simp only [Bool.false_eq_true, if_false, List.append_nil] at hcs
    conv => whnf
    refine ⟨j + 1 + 1, by omega, h1, ?_⟩
    ((conv => whnf); simp only [eS, wI h1 (by omega), hcs])
 ·obtain rfl : i = s.length := by omega
  conv => whnf
end Go.H.S
