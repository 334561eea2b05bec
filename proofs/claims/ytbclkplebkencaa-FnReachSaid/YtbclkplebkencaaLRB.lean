/- Library, part X: numbers sorted, and each once. -/
import Derived.Test.YtbclkplebkencaaLW
import Derived.Test.YtbclkplebkencaaShelf
import Derived.Sort.OwnSortedInts
import Derived.Test.YtbclkplebkencaaLNA
namespace Go.H.S
open Go Go.Proofs Go.H
attribute [local irreducible] Tri FnSpec FnSpecM FnSpecX
set_option maxRecDepth 100000
set_option linter.unusedSimpArgs false
set_option linter.unusedVariables false


theorem own_ints {w : World} {F : Nat → Prop} {e : TypeId} {v : Value} {xs : List Int} (h : OwnRep w F e 1 v (eL cI xs)) : w.ownsRow 0 e 1 v xs.length (xs.map (Value.int .i64)) := by
  obtain ⟨ys, h1, h2⟩ := h
  rw [eL_length] at h1
  have hl : ys.length = xs.length := by have := h1.1; omega
  have : ys = xs.map (Value.int .i64) := by
    apply List.ext_getElem?
    intro i
    rcases Nat.lt_or_ge i xs.length with q | q
    · obtain ⟨x, hx⟩ := get_lt q
      obtain ⟨_, h3⟩ := h2 i (cI x) (by rw [eL_get, hx]; rfl)
      obtain ⟨u, hu, hf⟩ := h3 0 (.int .i64 x) rfl
      cases hf
      rw [List.getElem?_map, hx]
      simpa using hu
    · rw [List.getElem?_eq_none (by omega), List.getElem?_eq_none (by simp; omega)]
  rw [← this]
  exact h1
theorem ints_own {w : World} {F : Nat → Prop} {e : TypeId} {v : Value} {xs : List Int} (h : w.ownsRow 0 e 1 v xs.length (xs.map (Value.int .i64))) : OwnRep w F e 1 v (eL cI xs) := by
  refine ⟨xs.map (Value.int .i64), by rw [eL_length]; exact h, fun i c hc => ?_⟩
  rw [eL_get] at hc
  simp only [Option.map_eq_some_iff] at hc
  obtain ⟨x, hx, rfl⟩ := hc
  refine ⟨rfl, fun j d hj => ?_⟩
  cases j with
  | zero =>
    simp [cI] at hj
    subst hj
    exact ⟨.int .i64 x, by simp [hx], .int _ _⟩
  | succ j => simp [cI] at hj
/-- The value of a row that is lent whole. -/
theorem lent_val {w : World} {F : Nat → Prop} {e sz : TypeId} {v0 v : Value} {es : List (List D)} (ho : OwnRep w F e sz v0 es) (h : AVRep w (conM F v0) [(0, .arr e sz 0 .own es)] (.c (.ref 0 0 none)) v) : v = v0 := by
  obtain ⟨_, _, _, h4⟩ := h
  obtain ⟨_, a, n, c, a', c', hv, rfl, hc, _, hh⟩ := h4 e sz .own es rfl
  obtain ⟨_, rfl, rfl⟩ := hh rfl
  obtain ⟨A, c2, hs, _⟩ := own_shape ho
  have hv0 : v0 = .slice a' n c' := hv
  rw [hv0] at hs ⊢
  simp only [Value.slice.injEq] at hs
  rw [hs.2.1]
  rfl
theorem grewX_of {L : Nat → Prop} {w w' : World} {row : Option Nat} (h : w.grownBy w' row) (hL : ∀ b, row = some b → L b) : GrewX L w w' :=
  ⟨h.os, h.tape, h.output, h.size, fun k hk hn => h.block k hk (fun e => hn (hL k e.symm))⟩
theorem partOf_eL {α : Type} (f : α → List D) (xs : List α) (b : Bool) (o n : Nat) : partOf (eL f xs) (some (b, o, n)) = eL f ((xs.drop o).take n) := by
  simp only [partOf, dPart_eq, eL, List.map_drop, List.map_take]

def sortL (xs : List Int) : List Int := xs.mergeSort fun x y => decide (x ≤ y)
theorem sortL_len (xs : List Int) : (sortL xs).length = xs.length := by simp [sortL]
theorem slices_Sort_spec (xs : List Int) (hx : xs.length ≤ 4000000000) : FnSpecM PR f_slices_Sort_Lint_int [.c (.ref 0 0 none)] t_int 1 (eL cI xs) (.tup []) (eL cI (sortL xs)) := by
  unfold FnSpecM
  refine ⟨⟨_, p_slices_Sort_Lint_int, rfl, by kernel_rfl⟩, by rw [eL_length, eL_length, sortL_len], rfl, flat_cI _, fun F w v0 vals hF ho hl hv => ?_⟩
  match vals, hl, hv with
  | [v], _, hv =>
    have e0 := lent_val ho (hv 0 _ v rfl rfl)
    subst e0
    have hi := own_ints ho
    unfold PR
    rcases hi.2 with ⟨rfl, h0⟩ | ⟨g, cap, cur, rfl, _, hg, h1, h2, h3, h4⟩
    · have hx0 : xs = [] := List.eq_nil_of_length_eq_zero h0
      subst hx0
      refine (Try.slices_Sort_int_none none 0 w).mono fun en w' ⟨he, hw⟩ => ?_
      subst hw
      exact ⟨_, he, ⟨[], rfl, rfl, fun j x u hj => by simp at hj⟩, ⟨rfl, rfl, rfl, Nat.le_refl _, fun _ _ _ => rfl⟩, ints_own (by rw [show sortL [] = [] from List.eq_nil_of_length_eq_zero (sortL_len [])]; exact hi)⟩
    · have hh : Go.Sort.Holds (Value.int .i64) w g 0 xs.toArray := holds_of_blockI hg (by rw [Nat.mul_one] at h4; exact h4)
      refine (Try.slices_Sort_int g 0 cap xs w hh (Array.getElem?_eq_some_iff.1 hg).1 (by omega)).mono fun en w' ⟨he, n, os, hw⟩ => ?_
      subst hw
      refine ⟨_, he, ⟨[], rfl, rfl, fun j x u hj => by simp at hj⟩, grewX_of (grownBy_sortedI _) (fun b hb => hb), ints_own ?_⟩
      have := ownsRow_sortedI (base := 0) (n := n) (os := os) (ts := sortL xs) (sortL_len xs) (Nat.zero_le _) hg h1 h2 h3
      rw [sortL_len]
      exact this

theorem compact_len (xs : List Int) : (Go.Lib.compact xs).length ≤ xs.length := by
  have h := List.length_filter_le (Go.Lib.keeps xs.toArray) (List.range xs.length)
  simp only [Go.Lib.compact, Go.Lib.compactUpTo, List.length_map]
  simpa using h
theorem slices_Compact_spec (xs : List Int) (hx : xs.length ≤ 4000000000) : FnSpecV PR f_slices_Compact_Lint_int [.c (.ref 0 0 none)] t_int 1 (eL cI xs) (eL cI (Go.Lib.compact xs)) := by
  refine ⟨⟨_, p_slices_Compact_Lint_int, rfl, by kernel_rfl⟩, flat_cI _, fun F w v0 vals hF ho hl hv => ?_⟩
  match vals, hl, hv with
  | [v], _, hv =>
    have e0 := lent_val ho (hv 0 _ v rfl rfl)
    subst e0
    have hi := own_ints ho
    unfold PR
    rcases hi.2 with ⟨rfl, h0⟩ | ⟨g, cap, cur, rfl, _, hg, h1, h2, h3, h4⟩
    · have hx0 : xs = [] := List.eq_nil_of_length_eq_zero h0
      subst hx0
      refine (Try.slices_Compact_int_empty none 0 w).mono fun en w' ⟨he, hw⟩ => ?_
      subst hw
      exact ⟨_, he, ⟨rfl, rfl, rfl, Nat.le_refl _, fun _ _ _ => rfl⟩, ints_own hi, fun b hb => .inl hb⟩
    · have hh : Go.Sort.Holds (Value.int .i64) w g 0 xs.toArray := holds_of_blockI hg (by rw [Nat.mul_one] at h4; exact h4)
      have hcl := compact_len xs
      refine (Try.slices_Compact_int g 0 cap xs w hh (by omega) h1).mono fun en w' ⟨he, q, hw⟩ => ?_
      subst hw
      have hgr := grownBy_sortedI (w := w) (g := g) (n := q) (os := #[]) (Go.Lib.compact xs ++ List.replicate (xs.length - (Go.Lib.compact xs).length) 0).toArray
      have hrow := ownsRow_sortedI (base := 0) (n := q) (os := #[]) (ss := xs) (ts := Go.Lib.compact xs ++ List.replicate (xs.length - (Go.Lib.compact xs).length) 0) (by simp; omega) (Nat.zero_le _) hg h1 h2 h3
      rw [Go.Sort.grow_empty] at hgr hrow
      refine ⟨_, he, grewX_of hgr (fun b hb => hb), ints_own ?_, fun b hb => .inl hb⟩
      rcases hrow.2 with ⟨h, _⟩ | ⟨g', cap', cur', hv', hb', hg', n1, n2, n3, n4⟩
      · cases h
      · cases hv'
        refine ⟨by simp, .inr ⟨g, cap, cur', rfl, Nat.zero_le _, hg', by omega, n2, n3, ?_⟩⟩
        rw [Nat.mul_one] at n4 ⊢
        have := congrArg (List.take (Go.Lib.compact xs).length) n4
        rw [List.take_take, Nat.min_eq_left hcl, List.map_append, List.take_left' (by simp)] at this
        exact this

theorem slices_Clone_ints_spec (xs : List Int) (hx : xs.length ≤ 1000000000) : FnSpec PR f_slices_Clone_Lint_int [aIs xs] (.c (.ref 0 0 none)) [(0, .arr t_int 1 0 .own (eL cI xs))] 1 := by
  refine FnSpec.intro hT p_slices_Clone_Lint_int rfl (by kernel_rfl) n_slices_Clone_Lint_int rfl ?_
  conv => whnf
  intro b hb
  cases b <;> (conv => whnf)
  · refine ⟨by simp [eL_length, dLen_len]; omega, ?_⟩
    ((conv => whnf); simp only [St.mk.injEq, List.cons.injEq, Prod.mk.injEq, AV.c.injEq, AV.agg.injEq, AV.tup.injEq, CV.d.injEq, D.int.injEq, D.bool.injEq, D.str.injEq, D.sl.injEq, Ent.arr.injEq, Ent.box.injEq, true_and, and_true, and_self, nInt_eq, Int.natCast_zero, dLen_eL, sLen_eq, partOf_none, dApp_nil])
  · have := hb rfl
    ((conv => whnf); simp only [St.mk.injEq, List.cons.injEq, Prod.mk.injEq, AV.c.injEq, AV.agg.injEq, AV.tup.injEq, CV.d.injEq, D.int.injEq, D.bool.injEq, D.str.injEq, D.sl.injEq, Ent.arr.injEq, Ent.box.injEq, true_and, and_true, and_self, nInt_eq, Int.natCast_zero, dLen_eL, sLen_eq, this])

theorem impl_SortInts_spec (xs : List Int) (hx : xs.length ≤ 1000000000) : FnSpec PR f_impl_SortInts [aIs xs] (.c (.ref 0 0 none)) [(0, .arr t_int 1 0 .own (eL cI (sortL xs)))] 1 := by
  refine FnSpec.intro hT p_impl_SortInts rfl (by kernel_rfl) n_impl_SortInts rfl ?_
  conv => whnf
  refine .inl ⟨_, _, _, slices_Clone_ints_spec xs hx, rfl, ?_⟩
  (conv => whnf)
  refine .inr (.inr (.inl ⟨0, ?_⟩))
  (conv => whnf)
  refine .inl ⟨_, _, slices_Sort_spec xs (by omega), ?_⟩
  (conv => whnf)

def distinctL (xs : List Int) : List Int := Go.Lib.compact (sortL xs)
theorem distinctL_len (xs : List Int) : (distinctL xs).length ≤ xs.length := by have := compact_len (sortL xs); rw [sortL_len] at this; exact this
theorem impl_Distinct_spec (xs : List Int) (hx : xs.length ≤ 1000000000) : FnSpec PR f_impl_Distinct [aIs xs] (.c (.ref 0 0 none)) [(0, .arr t_int 1 0 .own (eL cI (distinctL xs)))] 1 := by
  refine FnSpec.intro hT p_impl_Distinct rfl (by kernel_rfl) n_impl_Distinct rfl ?_
  conv => whnf
  refine .inl ⟨_, _, _, impl_SortInts_spec xs hx, rfl, ?_⟩
  (conv => whnf)
  refine .inr (.inr (.inl ⟨0, ?_⟩))
  (conv => whnf)
  refine .inr ⟨_, slices_Compact_spec (sortL xs) (by rw [sortL_len]; omega), ?_⟩
  (conv => whnf)
  rfl

theorem sortL_uniq {a : List Int} {xs : List Int} (h1 : a.Pairwise (· ≤ ·)) (h2 : a.Perm xs) : a = sortL xs := by
  refine List.Perm.eq_of_pairwise (le := fun x y => x ≤ y) (fun a b _ _ p q => by omega) h1 ?_ (h2.trans (List.mergeSort_perm xs _).symm)
  have := List.pairwise_mergeSort (le := fun x y : Int => decide (x ≤ y)) (fun a b c => by simp; omega) (fun a b => by simp; omega) xs
  simpa [sortL] using this
theorem sortL_sorted (xs : List Int) : (sortL xs).Pairwise (· ≤ ·) := by
  have := List.pairwise_mergeSort (le := fun x y : Int => decide (x ≤ y)) (fun a b c => by simp; omega) (fun a b => by simp; omega) xs
  simpa [sortL] using this
/-- Put in where it belongs. -/
theorem sortL_put {xs : List Int} {x : Int} {k : Nat} (hk : k ≤ (sortL xs).length) (h1 : ∀ y, (sortL xs)[k - 1]? = some y → 0 < k → y ≤ x) (h2 : ∀ (j : Nat) (y : Int), k ≤ j → (sortL xs)[j]? = some y → x < y) :
    (sortL xs).take k ++ [x] ++ (sortL xs).drop k = sortL (xs ++ [x]) := by
  have hs := sortL_sorted xs
  have hs' := hs
  rw [← List.take_append_drop k (sortL xs), List.pairwise_append] at hs'
  obtain ⟨q1, q2, q3⟩ := hs'
  apply sortL_uniq
  · rw [List.append_assoc, List.pairwise_append]
    refine ⟨q1, ?_, fun a ha b hb => ?_⟩
    · simp only [List.singleton_append, List.pairwise_cons]
      refine ⟨fun b hb => ?_, q2⟩
      obtain ⟨j, hj⟩ := List.getElem?_of_mem hb
      rw [List.getElem?_drop] at hj
      have := h2 (k + j) b (by omega) hj
      omega
    · have hax : a ≤ x := by
        obtain ⟨j, hj⟩ := List.getElem?_of_mem ha
        rw [List.getElem?_take] at hj
        split at hj
        · rename_i hjk
          obtain ⟨y, hy⟩ := get_lt (show k - 1 < (sortL xs).length by omega)
          have hyx := h1 y hy (by omega)
          rcases Nat.lt_or_ge j (k - 1) with q | q
          · have := List.pairwise_iff_getElem.1 hs j (k - 1) (List.getElem?_eq_some_iff.1 hj).1 (List.getElem?_eq_some_iff.1 hy).1 q
            rw [(List.getElem?_eq_some_iff.1 hj).2, (List.getElem?_eq_some_iff.1 hy).2] at this
            omega
          · obtain rfl : j = k - 1 := by omega
            rw [hj] at hy; cases hy; exact hyx
        · cases hj
      simp only [List.singleton_append, List.mem_cons] at hb
      rcases hb with rfl | hb
      · exact hax
      · exact q3 a ha b hb
  · rw [List.append_assoc]
    refine List.perm_middle.trans ?_
    show (x :: ((sortL xs).take k ++ (sortL xs).drop k)).Perm _
    rw [List.take_append_drop]
    have hp : (sortL xs).Perm xs := List.mergeSort_perm xs _
    refine (List.Perm.cons x hp).trans ?_
    exact (List.perm_append_comm (l₁ := [x]) (l₂ := xs))
theorem ins_eq (s : List Int) (k : Nat) (x : Int) : dApp (dApp [] (partOf (eL cI s) (some (true, nAdd (offR none) (nOf 0), nSub (nOf (k : Int)) (nOf 0))))) (partOf [[D.int .i64 x]] none) = eL cI (s.take k ++ [x]) := by
  simp [partOf_eL, dApp_nil, nOf_eq, nSub_eq, nAdd_eq]
  rw [show [[D.int .i64 x]] = [cI x] from rfl, eL_app]
theorem eL_apps {α : Type} (f : α → List D) (l r : List α) : dApp (eL f l) (eL f r) = eL f (l ++ r) := by simp [dApp, eL]
set_option maxHeartbeats 4000000 in
theorem spec_SortInts_spec (xs : List Int) (hx : xs.length ≤ 1000000000) : FnSpec PR f_spec_SortInts [aIs xs] (.c (.ref 0 0 none)) [(0, .arr t_int 1 0 .own (eL cI (sortL xs)))] 1 := by
  refine FnSpec.intro hT p_spec_SortInts rfl (by kernel_rfl) n_spec_SortInts rfl ?_
  conv => whnf
  refine tri_loop hT [0, 3, 4] (α := Nat) (fun x => { t := [(0, aIs xs), (3, .c (.ref 0 0 none)), (4, ai x)], h := [(0, .arr t_int 1 0 .own (eL cI (sortL (xs.take x))))], n := 1, N := 49 })
    (fun x => x ≤ xs.length) (fun x => xs.length - x) 0 (by ((conv => whnf); simp only [St.mk.injEq, List.cons.injEq, Prod.mk.injEq, AV.c.injEq, AV.agg.injEq, AV.tup.injEq, CV.d.injEq, D.int.injEq, D.bool.injEq, D.str.injEq, D.sl.injEq, Ent.arr.injEq, Ent.box.injEq, true_and, and_true, and_self, nInt_eq, Int.natCast_zero, dLen_eL, sLen_eq]); simp [sortL, eL_nil]) (Nat.zero_le _) ?_
  intro i hi
  (conv => whnf)
  refine ifB_i (fun h1 => ?_) (fun h1 => ?_) <;> (conv => whnf) <;> simp at h1
  · obtain ⟨x, hxi⟩ := get_lt h1
    have hlen : (sortL (xs.take i)).length = i := by rw [sortL_len]; simp; omega
    generalize hs : sortL (xs.take i) = s at *
    refine tri_loop hT [0, 3, 4, 5] (α := Nat) (fun k => { t := [(0, aIs xs), (3, .c (.ref 0 0 none)), (4, ai i), (5, ai k)], h := [(0, .arr t_int 1 0 .own (eL cI s))], n := 1, N := 49 })
      (fun k => k ≤ i ∧ ∀ (j : Nat) (y : Int), k ≤ j → s[j]? = some y → x < y) (fun k => k) i (by ((conv => whnf); simp only [St.mk.injEq, List.cons.injEq, Prod.mk.injEq, AV.c.injEq, AV.agg.injEq, AV.tup.injEq, CV.d.injEq, D.int.injEq, D.bool.injEq, D.str.injEq, D.sl.injEq, Ent.arr.injEq, Ent.box.injEq, true_and, and_true, and_self, nInt_eq, Int.natCast_zero, dLen_eL, sLen_eq]); simp [hlen]) ⟨Nat.le_refl _, fun j y hj hy => by have := (List.getElem?_eq_some_iff.1 hy).1; omega⟩ ?_
    intro k ⟨hk, hgt⟩
    (conv => whnf)
    refine tri_conf hT hmix (by kernel_rfl) ?_
    (conv => whnf)
    cases k with
    | zero =>
      rw [show iLt 0 ((0 : Nat) : Int) = false from rfl]
      repeat' (first | (refine And.intro (fun q => ?_) (fun q => ?_) <;> cases q <;> (conv => whnf)) | fail)
      refine tri_every hT hmix [0, 3, 4, 5, 6] { t := [(0, aIs xs), (3, .c (.ref 0 0 none)), (4, ai i), (5, ai (0 : Nat)), (6, .c (.ref 1 0 none))], h := [(0, .arr t_int 1 0 .own (eL cI s)), (1, .arr t_int 1 0 .own (eL cI (s.take (0) ++ [x])))], n := 2, N := 49 } rfl ?_ ?_
      · repeat' first
          | (refine anyV_one rfl ?_; (conv => whnf))
          | (refine anyV_two rfl ?_ ?_ <;> (conv => whnf))
          | (refine anyV_three rfl ?_ ?_ ?_ <;> (conv => whnf))
          | (refine anyV_end rfl ?_; (conv => whnf); rw [ins_eq s (0) x])
          | (refine idx_at (by simp) hxi ?_; (conv => whnf))
          | (refine And.intro (by simp [partOf_eL, dApp_nil, eL_length, dLen_len]; try omega) ?_; (conv => whnf))
      · (conv => whnf)
        refine And.intro (by simp; try omega) ?_
        (conv => whnf)
        refine And.intro (by simp [partOf_eL, eL_length, dLen_len]; try omega) ?_
        (conv => whnf)
        have hput := sortL_put (xs := xs.take i) (x := x) (k := 0) (by rw [hs]; omega) (fun y hy h0 => by omega) (fun j y hj hy => by rw [hs] at hy; exact hgt j y hj hy)
        rw [hs] at hput
        have htk : xs.take (i + 1) = xs.take i ++ [x] := by rw [List.take_add_one, hxi]; rfl
        refine ⟨i + 1, by omega, h1, ?_⟩
        ((conv => whnf); simp only [St.mk.injEq, List.cons.injEq, Prod.mk.injEq, AV.c.injEq, AV.agg.injEq, AV.tup.injEq, CV.d.injEq, D.int.injEq, D.bool.injEq, D.str.injEq, D.sl.injEq, Ent.arr.injEq, Ent.box.injEq, true_and, and_true, and_self, nInt_eq, Int.natCast_zero, dLen_eL, sLen_eq, wI h1 (by omega), htk, ← hput])
        simp [partOf_eL, eL_apps, nOf_eq, nSub_eq, nAdd_eq]
    | succ k' =>
      rw [show iLt 0 ((k' + 1 : Nat) : Int) = true from decide_eq_true (by omega)]
      have ek : wSub .i64 ((k' + 1 : Nat) : Int) 1 = (k' : Int) := by rw [wSub64] <;> omega
      obtain ⟨y, hy⟩ := get_lt (show k' < s.length by omega)
      repeat' (first | (refine And.intro (fun q => ?_) (fun q => ?_) <;> cases q <;> (conv => whnf)) | (refine idx_at (by simp) hxi ?_; (conv => whnf)) | (refine ref_at (k := k') ek (by simp; omega) ?_; (conv => whnf)) | (refine ld_at (by rw [ek]; simp) hy ?_; (conv => whnf)) | fail)
      generalize e2 : iLt x y = c2
      cases c2
      · repeat' (first | (refine And.intro (fun q => ?_) (fun q => ?_) <;> cases q <;> (conv => whnf)) | (refine idx_at (by simp) hxi ?_; (conv => whnf)) | (refine ref_at (k := k') ek (by simp; omega) ?_; (conv => whnf)) | (refine ld_at (by rw [ek]; simp) hy ?_; (conv => whnf)) | fail)
        (conv => whnf)
        refine tri_every hT hmix [0, 3, 4, 5, 6] { t := [(0, aIs xs), (3, .c (.ref 0 0 none)), (4, ai i), (5, ai (k' + 1 : Nat)), (6, .c (.ref 1 0 none))], h := [(0, .arr t_int 1 0 .own (eL cI s)), (1, .arr t_int 1 0 .own (eL cI (s.take (k' + 1) ++ [x])))], n := 2, N := 49 } rfl ?_ ?_
        · repeat' first
            | (refine anyV_one rfl ?_; (conv => whnf))
            | (refine anyV_two rfl ?_ ?_ <;> (conv => whnf))
            | (refine anyV_three rfl ?_ ?_ ?_ <;> (conv => whnf))
            | (refine anyV_end rfl ?_; (conv => whnf); rw [ins_eq s (k' + 1) x])
            | (refine idx_at (by simp) hxi ?_; (conv => whnf))
            | (refine And.intro (by simp [partOf_eL, dApp_nil, eL_length, dLen_len]; try omega) ?_; (conv => whnf))
        · (conv => whnf)
          refine And.intro (by simp; try omega) ?_
          (conv => whnf)
          refine And.intro (by simp [partOf_eL, eL_length, dLen_len]; try omega) ?_
          (conv => whnf)
          have hf : ∀ y', (sortL (xs.take i))[k' + 1 - 1]? = some y' → 0 < k' + 1 → y' ≤ x := by
            intro y' hy' _
            rw [hs, show k' + 1 - 1 = k' from rfl, hy] at hy'
            cases hy'
            have : ¬ x < y := by simpa [iLt] using e2
            omega
          have hput := sortL_put (xs := xs.take i) (x := x) (k := k' + 1) (by rw [hs]; omega) hf (fun j y hj hy => by rw [hs] at hy; exact hgt j y hj hy)
          rw [hs] at hput
          have htk : xs.take (i + 1) = xs.take i ++ [x] := by rw [List.take_add_one, hxi]; rfl
          refine ⟨i + 1, by omega, h1, ?_⟩
          ((conv => whnf); simp only [St.mk.injEq, List.cons.injEq, Prod.mk.injEq, AV.c.injEq, AV.agg.injEq, AV.tup.injEq, CV.d.injEq, D.int.injEq, D.bool.injEq, D.str.injEq, D.sl.injEq, Ent.arr.injEq, Ent.box.injEq, true_and, and_true, and_self, nInt_eq, Int.natCast_zero, dLen_eL, sLen_eq, wI h1 (by omega), htk, ← hput])
          simp [partOf_eL, eL_apps, nOf_eq, nSub_eq, nAdd_eq]
          rw [show (s.drop (k' + 1)).take (s.length - (k' + 1)) = s.drop (k' + 1) from List.take_of_length_le (by simp)]
      · repeat' (first | (refine And.intro (fun q => ?_) (fun q => ?_) <;> cases q <;> (conv => whnf)) | (refine idx_at (by simp) hxi ?_; (conv => whnf)) | (refine ref_at (k := k') ek (by simp; omega) ?_; (conv => whnf)) | (refine ld_at (by rw [ek]; simp) hy ?_; (conv => whnf)) | fail)
        (conv => whnf)
        refine ⟨k', by omega, ⟨by omega, fun j y2 hj hy2 => ?_⟩, ?_⟩
        · rcases Nat.eq_or_lt_of_le hj with rfl | q
          · rw [hy] at hy2; cases hy2; simpa [iLt] using e2
          · exact hgt j y2 q hy2
        · ((conv => whnf); simp only [St.mk.injEq, List.cons.injEq, Prod.mk.injEq, AV.c.injEq, AV.agg.injEq, AV.tup.injEq, CV.d.injEq, D.int.injEq, D.bool.injEq, D.str.injEq, D.sl.injEq, Ent.arr.injEq, Ent.box.injEq, true_and, and_true, and_self, nInt_eq, Int.natCast_zero, dLen_eL, sLen_eq, ek])
  · obtain rfl : i = xs.length := by omega
    rw [List.take_length]
end Go.H.S
namespace Go.H.S
open Go Go.Proofs Go.H
attribute [local irreducible] Tri FnSpec FnSpecM FnSpecX FnSpecJ
set_option maxRecDepth 100000
set_option linter.unusedSimpArgs false
set_option linter.unusedVariables false


theorem compactUpTo_succ (xs : List Int) (i : Nat) (x : Int) (hx : xs[i]? = some x) : Go.Lib.compactUpTo xs.toArray (i + 1) = Go.Lib.compactUpTo xs.toArray i ++ (if Go.Lib.keeps xs.toArray i then [x] else []) := by
  have hlt := (List.getElem?_eq_some_iff.1 hx).1
  simp only [Go.Lib.compactUpTo, List.range_succ, List.filter_append, List.map_append]
  congr 1
  have hv : xs.toArray[i]! = x := by
    rw [getElem!_pos _ i (by simpa using hlt)]
    simpa using (List.getElem?_eq_some_iff.1 hx).2
  have hv2 : xs[i]?.getD 0 = x := by rw [hx]; rfl
  cases hk : Go.Lib.keeps xs.toArray i <;> simp [hk, hv, hv2]
theorem spec_Distinct_spec (xs : List Int) (hx : xs.length ≤ 1000000000) : FnSpec PR f_spec_Distinct [aIs xs] (.c (.ref 0 0 none)) [(0, .arr t_int 1 0 .own (eL cI (distinctL xs)))] 1 := by
  refine FnSpec.intro hT p_spec_Distinct rfl (by kernel_rfl) n_spec_Distinct rfl ?_
  conv => whnf
  refine .inl ⟨_, _, _, spec_SortInts_spec xs hx, rfl, ?_⟩
  have hsl := sortL_len xs
  have hd : distinctL xs = Go.Lib.compactUpTo (sortL xs).toArray (sortL xs).length := rfl
  rw [hd]
  generalize sortL xs = s at *
  refine tri_loop hT [3, 4, 5] (α := Nat) (fun i => { t := [(3, .c (.ref 0 0 none)), (4, .c (.ref 1 0 none)), (5, ai i)], h := [(0, .arr t_int 1 0 .own (eL cI (Go.Lib.compactUpTo s.toArray i))), (1, .arr t_int 1 0 .own (eL cI s))], n := 2, N := 37 })
    (fun i => i ≤ s.length) (fun i => s.length - i) 0 (by (conv => whnf); rw [show Go.Lib.compactUpTo s.toArray 0 = [] from rfl, eL_nil]; rfl) (Nat.zero_le _) ?_
  intro i hi
  (conv => whnf)
  refine ifB_i (fun h1 => ?_) (fun h1 => ?_) <;> (conv => whnf) <;> simp at h1
  · obtain ⟨x, hxi⟩ := get_lt h1
    have hcl : (Go.Lib.compactUpTo s.toArray i).length ≤ i := by
      have h := List.length_filter_le (Go.Lib.keeps s.toArray) (List.range i)
      simp only [Go.Lib.compactUpTo, List.length_map]
      simpa using h
    have hcs := compactUpTo_succ s i x hxi
    have hk : ∀ b, Go.Lib.keeps s.toArray i = b → Go.Lib.keeps s.toArray i = b := fun _ h => h
    refine tri_conf hT hmix (by kernel_rfl) ?_
    (conv => whnf)
    cases i with
    | zero =>
      rw [show iEq ((0 : Nat) : Int) 0 = true from rfl]
      have hkt : Go.Lib.keeps s.toArray 0 = true := Go.Lib.keeps_lt_one _ 0 (by omega)
      rw [hkt] at hcs
      rw [if_pos rfl] at hcs
      have hnx : Go.Lib.compactUpTo s.toArray 1 = Go.Lib.compactUpTo s.toArray 0 ++ [x] := hcs
      generalize Go.Lib.compactUpTo s.toArray 0 = o at *
      repeat' (first | (refine And.intro (fun q => ?_) (fun q => ?_) <;> cases q <;> (conv => whnf)) | fail)
      refine ref_at (k := 0) (by simp) (by simp; omega) ?_
      (conv => whnf)
      refine ld_at (by simp) hxi ?_
      (conv => whnf)
      refine And.intro (by simp [eL_length, dLen_len]; omega) ?_
      (conv => whnf)
      refine ⟨1, by omega, h1, ?_⟩
      ((conv => whnf); simp only [St.mk.injEq, List.cons.injEq, Prod.mk.injEq, AV.c.injEq, AV.agg.injEq, AV.tup.injEq, CV.d.injEq, D.int.injEq, D.bool.injEq, D.str.injEq, D.sl.injEq, Ent.arr.injEq, Ent.box.injEq, true_and, and_true, and_self, nInt_eq, Int.natCast_zero, dLen_eL, sLen_eq, partOf_none])
      refine ⟨wI h1 (by omega), ?_⟩
      rw [hnx, ← eL_app]
      rfl
    | succ j =>
      rw [show iEq ((j + 1 : Nat) : Int) 0 = false from decide_eq_false (by omega)]
      obtain ⟨y, hy⟩ := get_lt (show j < s.length by omega)
      have ek : wSub .i64 ((j + 1 : Nat) : Int) 1 = (j : Int) := by rw [wSub64] <;> omega
      repeat' (first | (refine And.intro (fun q => ?_) (fun q => ?_) <;> cases q <;> (conv => whnf)) | fail)
      refine ref_at (k := j + 1) rfl (by simp; omega) ?_
      (conv => whnf)
      repeat' (first | (refine And.intro (fun q => ?_) (fun q => ?_) <;> cases q <;> (conv => whnf)) | fail)
      refine ld_at (by simp) hxi ?_
      (conv => whnf)
      repeat' (first | (refine And.intro (fun q => ?_) (fun q => ?_) <;> cases q <;> (conv => whnf)) | fail)
      refine ref_at (k := j) ek (by simp; omega) ?_
      (conv => whnf)
      repeat' (first | (refine And.intro (fun q => ?_) (fun q => ?_) <;> cases q <;> (conv => whnf)) | fail)
      refine ld_at (by rw [ek]; simp) hy ?_
      (conv => whnf)
      repeat' (first | (refine And.intro (fun q => ?_) (fun q => ?_) <;> cases q <;> (conv => whnf)) | fail)
      generalize e2 : iEq x y = c2
      have hg1 : s.toArray[j + 1]! = x := by
        rw [getElem!_pos _ (j + 1) (by simpa using h1)]
        simpa using (List.getElem?_eq_some_iff.1 hxi).2
      have hg2 : s.toArray[j + 1 - 1]! = y := by
        rw [getElem!_pos _ (j + 1 - 1) (by simp; omega)]
        simpa using (List.getElem?_eq_some_iff.1 hy).2
      cases c2
      · have hkt : Go.Lib.keeps s.toArray (j + 1) = true := Go.Lib.keeps_pos (by rw [hg1, hg2]; simpa [iEq] using e2)
        rw [hkt, if_pos rfl] at hcs
        (conv => whnf)
        refine ref_at (k := j + 1) rfl (by simp; omega) ?_
        (conv => whnf)
        refine ld_at (by simp) hxi ?_
        (conv => whnf)
        refine And.intro (by simp [eL_length, dLen_len]; omega) ?_
        (conv => whnf)
        refine ⟨j + 1 + 1, by omega, h1, ?_⟩
        ((conv => whnf); simp only [St.mk.injEq, List.cons.injEq, Prod.mk.injEq, AV.c.injEq, AV.agg.injEq, AV.tup.injEq, CV.d.injEq, D.int.injEq, D.bool.injEq, D.str.injEq, D.sl.injEq, Ent.arr.injEq, Ent.box.injEq, true_and, and_true, and_self, nInt_eq, Int.natCast_zero, dLen_eL, sLen_eq, partOf_none])
        refine ⟨wI h1 (by omega), ?_⟩
        rw [hcs, ← eL_app]
        rfl
      · have hkt : Go.Lib.keeps s.toArray (j + 1) = false := Go.Lib.keeps_neg (by omega) (by rw [hg1, hg2]; simpa [iEq] using e2)
        rw [hkt] at hcs
        simp only [Bool.false_eq_true, if_false, List.append_nil] at hcs
        (conv => whnf)
        refine ⟨j + 1 + 1, by omega, h1, ?_⟩
        ((conv => whnf); simp only [St.mk.injEq, List.cons.injEq, Prod.mk.injEq, AV.c.injEq, AV.agg.injEq, AV.tup.injEq, CV.d.injEq, D.int.injEq, D.bool.injEq, D.str.injEq, D.sl.injEq, Ent.arr.injEq, Ent.box.injEq, true_and, and_true, and_self, nInt_eq, Int.natCast_zero, dLen_eL, sLen_eq, wI h1 (by omega), hcs])
  · obtain rfl : i = s.length := by omega
    (conv => whnf)

def cutsL (f : Int) : List Nd → List Int
  | [] => []
  | n :: r => if isF f n then n.c :: cutsL f r else cutsL f r
theorem cutsL_len (f : Int) : ∀ t : List Nd, (cutsL f t).length ≤ t.length
  | [] => by simp [cutsL]
  | n :: r => by
    have := cutsL_len f r
    simp only [cutsL]
    split <;> simp <;> omega
def stepsAtL (t : List Nd) (f : Int) : List Int := distinctL (cutsL f t)
theorem impl_StepsAt_spec (t : List Nd) (f : Int) (hl : t.length ≤ 1048576) : FnSpec PR f_impl_StepsAt [aT t, ai f] (.c (.ref 0 0 none)) [(0, .arr t_int 1 0 .own (eL cI (stepsAtL t f)))] 1 := by
  have hcl := cutsL_len f t
  refine FnSpec.intro hT p_impl_StepsAt rfl (by kernel_rfl) n_impl_StepsAt rfl ?_
  conv => whnf
  refine tri_loop hT [1, 5, 10, 11, 12] (α := Nat × List Int) (fun x => { t := [(1, ai f), (5, .c (.ref 0 0 none)), (10, aNs t), (11, ai t.length), (12, ai x.1)], h := [(0, .arr t_int 1 0 .own (eL cI x.2))], n := 1, N := 33 })
    (fun x => x.1 ≤ t.length ∧ x.2 ++ cutsL f (t.drop x.1) = cutsL f t) (fun x => t.length - x.1) (0, []) (by ((conv => whnf); simp only [St.mk.injEq, List.cons.injEq, Prod.mk.injEq, AV.c.injEq, AV.agg.injEq, AV.tup.injEq, CV.d.injEq, D.int.injEq, D.bool.injEq, D.str.injEq, D.sl.injEq, Ent.arr.injEq, Ent.box.injEq, true_and, and_true, and_self, nInt_eq, Int.natCast_zero, dLen_eL, sLen_eq, eL_nil])) ⟨Nat.zero_le _, by simp⟩ ?_
  intro ⟨k, o⟩ ⟨hk, ho⟩
  dsimp only at hk ho
  have hol : o.length ≤ t.length := by have := congrArg List.length ho; simp at this; omega
  (conv => whnf)
  refine ifB_i (fun h1 => ?_) (fun h1 => ?_) <;> (conv => whnf) <;> simp at h1
  · obtain ⟨n, hn⟩ := get_lt h1
    rw [drop_at hn, cutsL] at ho
    refine idx_at (by simp) hn ?_
    (conv => whnf)
    refine .inl ⟨_, _, _, impl_isLeaf_spec n, rfl, ?_⟩
    (conv => whnf)
    refine ifB_i (fun h2 => ?_) (fun h2 => ?_) <;> (conv => whnf)
    all_goals try (refine ifB_i (fun h4 => ?_) (fun h4 => ?_) <;> (conv => whnf))
    all_goals
      first | (have hb : isF f n = true := by simp_all [isF, bNot, iEq]) | (have hb : isF f n = false := by simp_all [isF, bNot, iEq])
      rw [hb] at ho
    all_goals first
      | (refine And.intro (by simp [eL_length, dLen_len]; omega) ?_
         (conv => whnf)
         refine ⟨(k + 1, o ++ [n.c]), by dsimp only; omega, ⟨h1, by simpa using ho⟩, ?_⟩
         ((conv => whnf); simp only [St.mk.injEq, List.cons.injEq, Prod.mk.injEq, AV.c.injEq, AV.agg.injEq, AV.tup.injEq, CV.d.injEq, D.int.injEq, D.bool.injEq, D.str.injEq, D.sl.injEq, Ent.arr.injEq, Ent.box.injEq, true_and, and_true, and_self, nInt_eq, Int.natCast_zero, dLen_eL, sLen_eq, partOf_none, wI h1 (by omega)])
         rw [← eL_app]
         rfl)
      | (refine ⟨(k + 1, o), by dsimp only; omega, ⟨h1, by simpa using ho⟩, ?_⟩
         ((conv => whnf); simp only [St.mk.injEq, List.cons.injEq, Prod.mk.injEq, AV.c.injEq, AV.agg.injEq, AV.tup.injEq, CV.d.injEq, D.int.injEq, D.bool.injEq, D.str.injEq, D.sl.injEq, Ent.arr.injEq, Ent.box.injEq, true_and, and_true, and_self, nInt_eq, Int.natCast_zero, dLen_eL, sLen_eq, wI h1 (by omega)])
         done)
  · obtain rfl : k = t.length := by omega
    simp [cutsL] at ho
    subst ho
    refine .inr (.inl ⟨_, _, _, impl_Distinct_spec _ (by dsimp only; omega), rfl, ⟨flat_cI _, trivial⟩, ?_⟩)
    (conv => whnf)
    rfl

theorem spec_StepsAt_spec (t : List Nd) (f : Int) (hl : t.length ≤ 1048576) : FnSpec PR f_spec_StepsAt [aT t, ai f] (.c (.ref 0 0 none)) [(0, .arr t_int 1 0 .own (eL cI (stepsAtL t f)))] 1 := by
  have hcl := cutsL_len f t
  refine FnSpec.intro hT p_spec_StepsAt rfl (by kernel_rfl) n_spec_StepsAt rfl ?_
  conv => whnf
  refine tri_loop hT [1, 2, 5, 6] (α := Nat × List Int) (fun x => { t := [(1, ai f), (2, .c (.ptr 0 0)), (5, .c (.ref 1 0 none)), (6, ai x.1)], h := [(0, .box t_impl_Tree (cTr t)), (1, .arr t_int 1 0 .own (eL cI x.2))], n := 2, N := 42 })
    (fun x => x.1 ≤ t.length ∧ x.2 ++ cutsL f (t.drop x.1) = cutsL f t) (fun x => t.length - x.1) (0, []) (by ((conv => whnf); simp only [St.mk.injEq, List.cons.injEq, Prod.mk.injEq, AV.c.injEq, AV.agg.injEq, AV.tup.injEq, CV.d.injEq, D.int.injEq, D.bool.injEq, D.str.injEq, D.sl.injEq, Ent.arr.injEq, Ent.box.injEq, true_and, and_true, and_self, nInt_eq, Int.natCast_zero, dLen_eL, sLen_eq, eL_nil])) ⟨Nat.zero_le _, by simp⟩ ?_
  intro ⟨k, o⟩ ⟨hk, ho⟩
  dsimp only at hk ho
  have hol : o.length ≤ t.length := by have := congrArg List.length ho; simp at this; omega
  (conv => whnf)
  refine ifB_i (fun h1 => ?_) (fun h1 => ?_) <;> (conv => whnf) <;> simp at h1
  · obtain ⟨n, hn⟩ := get_lt h1
    rw [drop_at hn, cutsL] at ho
    refine idx_at (by simp) hn ?_
    (conv => whnf)
    refine .inl ⟨_, _, _, spec_l17Inner_spec n, rfl, ?_⟩
    (conv => whnf)
    refine ifB_i (fun h2 => ?_) (fun h2 => ?_) <;> (conv => whnf)
    all_goals try (refine idx_at (by simp) hn ?_; (conv => whnf))
    all_goals try (refine ifB_i (fun h4 => ?_) (fun h4 => ?_) <;> (conv => whnf))
    all_goals
      first | (have hb : isF f n = true := by simp_all [isF, bNot, iEq]) | (have hb : isF f n = false := by simp_all [isF, bNot, iEq])
      rw [hb] at ho
    all_goals try (refine idx_at (by simp) hn ?_; (conv => whnf))
    all_goals first
      | (refine And.intro (by simp [eL_length, dLen_len]; omega) ?_
         (conv => whnf)
         refine ⟨(k + 1, o ++ [n.c]), by dsimp only; omega, ⟨h1, by simpa using ho⟩, ?_⟩
         ((conv => whnf); simp only [St.mk.injEq, List.cons.injEq, Prod.mk.injEq, AV.c.injEq, AV.agg.injEq, AV.tup.injEq, CV.d.injEq, D.int.injEq, D.bool.injEq, D.str.injEq, D.sl.injEq, Ent.arr.injEq, Ent.box.injEq, true_and, and_true, and_self, nInt_eq, Int.natCast_zero, dLen_eL, sLen_eq, partOf_none, wI h1 (by omega)])
         rw [← eL_app]
         rfl)
      | (refine ⟨(k + 1, o), by dsimp only; omega, ⟨h1, by simpa using ho⟩, ?_⟩
         ((conv => whnf); simp only [St.mk.injEq, List.cons.injEq, Prod.mk.injEq, AV.c.injEq, AV.agg.injEq, AV.tup.injEq, CV.d.injEq, D.int.injEq, D.bool.injEq, D.str.injEq, D.sl.injEq, Ent.arr.injEq, Ent.box.injEq, true_and, and_true, and_self, nInt_eq, Int.natCast_zero, dLen_eL, sLen_eq, wI h1 (by omega)])
         done)
  · obtain rfl : k = t.length := by omega
    simp [cutsL] at ho
    subst ho
    refine .inr (.inl ⟨_, _, _, spec_Distinct_spec _ (by dsimp only; omega), rfl, ⟨flat_cI _, trivial⟩, ?_⟩)
    (conv => whnf)
    rfl
end Go.H.S
namespace Go.H.S
open Go Go.Proofs Go.H
attribute [local irreducible] Tri FnSpec FnSpecM FnSpecX FnSpecJ
set_option maxRecDepth 100000
set_option linter.unusedSimpArgs false
set_option linter.unusedVariables false


def letterB (b : UInt8) : Bool := decide (97 ≤ (b.toNat : Int) ∧ (b.toNat : Int) ≤ 122)
def digitB (b : UInt8) : Bool := decide (48 ≤ (b.toNat : Int) ∧ (b.toNat : Int) ≤ 57)
def nameL : List UInt8 → Nat → Bool
  | [], _ => true
  | b :: r, k => (letterB b || (decide (k ≠ 0) && digitB b)) && nameL r (k + 1)
def nameOk (s : ByteArray) : Bool := decide (1 ≤ (s.size : Int) ∧ (s.size : Int) ≤ 12) && nameL s.data.toList 0
theorem nameL_late : ∀ (l : List UInt8) (k : Nat), 0 < k → nameL l k = l.all fun b => letterB b || digitB b
  | [], k, h => rfl
  | b :: r, k, h => by
    simp only [nameL, List.all_cons, nameL_late r (k + 1) (by omega)]
    rw [show decide (k ≠ 0) = true from decide_eq_true (by omega), Bool.true_and]
theorem str_at {s : ByteArray} {n : Int} {k : Nat} {b : UInt8} {K : UInt8 → Prop} (hn : n = (k : Int)) (hb : s.data.toList[k]? = some b) (h : K b) : InB n s.size ∧ ∀ c, AtB s (nOf n) c → K c := by
  subst hn
  have hlt := (List.getElem?_eq_some_iff.1 hb).1
  refine ⟨by simp; exact hlt, fun c hc => ?_⟩
  have hc' : s.data.toList[nOf (k : Int)]? = some c := by unfold AtB at hc; exact hc
  rw [nOf_eq, Int.toNat_natCast, hb] at hc'
  cases hc'
  exact h
theorem byte_get {s : ByteArray} {k : Nat} (h : k < s.size) : ∃ b, s.data.toList[k]? = some b := get_lt (l := s.data.toList) (by simpa using h)
theorem bInt_eq' (b : UInt8) : bInt b = (b.toNat : Int) := by unfold bInt; rfl
theorem bInt_lt (b : UInt8) : 0 ≤ bInt b ∧ bInt b < 256 := by rw [bInt_eq']; have := b.toNat_lt; omega
theorem wConv_byte (b : UInt8) : wConv .i64 (bInt b) = bInt b := by
  have := bInt_lt b
  unfold wConv
  exact wrap64 (by omega) (by omega)
theorem letter_b (b : UInt8) : letterB b = decide (97 ≤ bInt b ∧ bInt b ≤ 122) := by rw [bInt_eq']; rfl
theorem digit_b (b : UInt8) : digitB b = decide (48 ≤ bInt b ∧ bInt b ≤ 57) := by rw [bInt_eq']; rfl
theorem toList_cons {s : ByteArray} {b : UInt8} (h : s.data.toList[0]? = some b) : ∃ r, s.data.toList = b :: r := by
  generalize s.data.toList = l at *
  cases l with
  | nil => simp at h
  | cons x r => simp at h; subst h; exact ⟨r, rfl⟩

theorem spec_NameOk_spec (s : ByteArray) (hs : s.size ≤ 9223372036854775807) : FnSpec PR f_spec_NameOk [aS s] (ab (nameOk s)) [] 0 := by
  have hsz : s.data.toList.length = s.size := by simp
  refine FnSpec.intro hT p_spec_NameOk rfl (by kernel_rfl) n_spec_NameOk rfl ?_
  conv => whnf
  refine .inl ⟨_, _, _, spec_l1In_spec _ _ _, rfl, ?_⟩
  (conv => whnf)
  refine ifB_i (fun h1 => ?_) (fun h1 => ?_) <;> (conv => whnf) <;> simp only [nInt_eq, Int.natCast_zero, dLen_eL, sLen_eq, nOf_eq, Int.toNat_natCast, nAdd_eq, nSub_eq, dLen_nil, dLen_cons, iLt_t, iLt_f, iLe_t, iLe_f, iEq_t, iEq_f, sEq_t, sEq_f, bNot_t, bNot_f, bAnd_t, bEq_t, bEq_f, Bool.not_eq_true, Bool.not_eq_false, Bool.true_eq_false, Bool.false_eq_true] at h1
  · have : decide (1 ≤ (s.size : Int) ∧ (s.size : Int) ≤ 12) = false := by simpa using h1
    simp [nameOk, this]
  have hno : nameOk s = nameL s.data.toList 0 := by simp only [nameOk]; rw [h1]; rfl
  have h1' := of_decide_eq_true h1
  obtain ⟨b0, hb0⟩ := byte_get (s := s) (k := 0) (by omega)
  refine str_at (k := 0) rfl hb0 ?_
  (conv => whnf)
  refine ifB_i (fun h2 => ?_) (fun h2 => ?_) <;> (conv => whnf) <;> simp only [nInt_eq, Int.natCast_zero, dLen_eL, sLen_eq, nOf_eq, Int.toNat_natCast, nAdd_eq, nSub_eq, dLen_nil, dLen_cons, iLt_t, iLt_f, iLe_t, iLe_f, iEq_t, iEq_f, sEq_t, sEq_f, bNot_t, bNot_f, bAnd_t, bEq_t, bEq_f, Bool.not_eq_true, Bool.not_eq_false, Bool.true_eq_false, Bool.false_eq_true] at h2
  · obtain ⟨r, hr⟩ := toList_cons hb0
    have hl : letterB b0 = false := by rw [letter_b]; exact decide_eq_false (by omega)
    rw [hno, hr, nameL, hl]
    rfl
  refine tri_loop hT [0, 3] (α := Nat) (fun k => { t := [(0, aS s), (3, ai k)], h := [], n := 0, N := 33 })
    (fun k => k ≤ s.size ∧ ((s.data.toList.drop k).all fun b => letterB b || digitB b) = (s.data.toList.all fun b => letterB b || digitB b)) (fun k => s.size - k) 0 (by ((conv => whnf); simp only [St.mk.injEq, List.cons.injEq, Prod.mk.injEq, AV.c.injEq, AV.agg.injEq, AV.tup.injEq, CV.d.injEq, D.int.injEq, D.bool.injEq, D.str.injEq, D.sl.injEq, Ent.arr.injEq, Ent.box.injEq, true_and, and_true, and_self, nInt_eq, Int.natCast_zero, dLen_eL, sLen_eq])) ⟨Nat.zero_le _, rfl⟩ ?_
  intro k ⟨hk, hn⟩
  (conv => whnf)
  refine ifB_i (fun h3 => ?_) (fun h3 => ?_) <;> (conv => whnf) <;> simp at h3
  · obtain ⟨b, hb⟩ := byte_get h3
    rw [drop_at hb, List.all_cons] at hn
    refine str_at (k := k) rfl hb ?_
    (conv => whnf)
    refine .inl ⟨_, _, _, spec_l1In_spec _ _ _, rfl, ?_⟩
    rw [wConv_byte, ← letter_b]
    (conv => whnf)
    have hbad : letterB b = false → digitB b = false → nameOk s = false := fun p1 p2 => by
      rw [p1, p2] at hn
      obtain ⟨r, hr⟩ := toList_cons hb0
      rw [hno, hr, nameL, nameL_late _ _ (by omega)]
      rw [hr, List.all_cons] at hn
      simp only [Bool.or_self, Bool.false_and] at hn
      cases hq : (r.all fun b => letterB b || digitB b) with
      | false => simp
      | true =>
        rw [hq, Bool.and_true] at hn
        have hb0n : letterB b0 = false := by
          cases hq2 : letterB b0 with
          | false => rfl
          | true => rw [hq2] at hn; simp at hn
        rw [hb0n]; rfl
    cases hl : letterB b
    · (conv => whnf)
      refine str_at (k := k) rfl hb ?_
      (conv => whnf)
      refine .inl ⟨_, _, _, spec_l1In_spec _ _ _, rfl, ?_⟩
      rw [wConv_byte, ← digit_b]
      (conv => whnf)
      cases hd : digitB b
      · (conv => whnf)
        rw [hbad hl hd]
      · (conv => whnf)
        refine ⟨k + 1, by omega, ⟨h3, by rw [hl, hd] at hn; simpa using hn⟩, ?_⟩
        ((conv => whnf); simp only [St.mk.injEq, List.cons.injEq, Prod.mk.injEq, AV.c.injEq, AV.agg.injEq, AV.tup.injEq, CV.d.injEq, D.int.injEq, D.bool.injEq, D.str.injEq, D.sl.injEq, Ent.arr.injEq, Ent.box.injEq, true_and, and_true, and_self, nInt_eq, Int.natCast_zero, dLen_eL, sLen_eq, wI h3 (by omega)])
    · (conv => whnf)
      refine ⟨k + 1, by omega, ⟨h3, by rw [hl] at hn; simpa using hn⟩, ?_⟩
      ((conv => whnf); simp only [St.mk.injEq, List.cons.injEq, Prod.mk.injEq, AV.c.injEq, AV.agg.injEq, AV.tup.injEq, CV.d.injEq, D.int.injEq, D.bool.injEq, D.str.injEq, D.sl.injEq, Ent.arr.injEq, Ent.box.injEq, true_and, and_true, and_self, nInt_eq, Int.natCast_zero, dLen_eL, sLen_eq, wI h3 (by omega)])
  · obtain rfl : k = s.size := by omega
    rw [← hsz, List.drop_length] at hn
    obtain ⟨r, hr⟩ := toList_cons hb0
    rw [hr] at hn
    simp only [List.all_nil, List.all_cons] at hn
    have hn' := hn.symm
    simp only [Bool.and_eq_true] at hn'
    have hl : letterB b0 = true := by
      have h4 := hn'.1
      simp only [Bool.or_eq_true] at h4
      rcases h4 with h4 | h4
      · exact h4
      · rw [digit_b, decide_eq_true_eq] at h4; omega
    have : nameOk s = true := by rw [hno, hr, nameL, nameL_late _ _ (by omega), hl, hn'.2]; rfl
    rw [this]

theorem impl_NameOk_spec (s : ByteArray) (hs : s.size ≤ 9223372036854775807) : FnSpec PR f_impl_NameOk [aS s] (ab (nameOk s)) [] 0 := by
  refine FnSpec.intro hT p_impl_NameOk rfl (by kernel_rfl) n_impl_NameOk rfl ?_
  conv => whnf
  refine tri_loop hT [0, 6, 7] (α := Nat) (fun k => { t := [(0, aS s), (6, ai s.size), (7, ai k)], h := [], n := 0, N := 42 })
    (fun k => k ≤ s.size ∧ nameL (s.data.toList.drop k) k = nameL s.data.toList 0) (fun k => s.size - k) 0 (by ((conv => whnf); simp only [St.mk.injEq, List.cons.injEq, Prod.mk.injEq, AV.c.injEq, AV.agg.injEq, AV.tup.injEq, CV.d.injEq, D.int.injEq, D.bool.injEq, D.str.injEq, D.sl.injEq, Ent.arr.injEq, Ent.box.injEq, true_and, and_true, and_self, nInt_eq, Int.natCast_zero, dLen_eL, sLen_eq])) ⟨Nat.zero_le _, rfl⟩ ?_
  intro k ⟨hk, hn⟩
  (conv => whnf)
  refine ifB_i (fun h1 => ?_) (fun h1 => ?_) <;> (conv => whnf) <;> simp at h1
  · obtain ⟨b, hb⟩ := byte_get h1
    rw [drop_at hb, nameL] at hn
    have hbad : (letterB b || (decide (k ≠ 0) && digitB b)) = false → nameOk s = false := fun p => by
      rw [p, Bool.false_and] at hn
      simp [nameOk, ← hn]
    have hgood : (letterB b || (decide (k ≠ 0) && digitB b)) = true → nameL (s.data.toList.drop (k + 1)) (k + 1) = nameL s.data.toList 0 := fun p => by
      rw [p, Bool.true_and] at hn
      exact hn
    rw [letter_b, digit_b] at hbad hgood
    refine str_at (k := k) rfl hb ?_
    (conv => whnf)
    generalize e1 : iLe 97 (bInt b) = c1
    cases c1 <;> (conv => whnf)
    · have h97 : ¬ 97 ≤ bInt b := by simpa [iLe] using e1
      have hnl : decide (97 ≤ bInt b ∧ bInt b ≤ 122) = false := decide_eq_false (by omega)
      generalize e3 : iEq (k : Int) 0 = c3
      cases c3 <;> (conv => whnf)
      · have hk0 : ¬ k = 0 := by intro h; subst h; simp [iEq] at e3
        refine str_at (k := k) rfl hb ?_
        (conv => whnf)
        generalize e4 : iLt (bInt b) 48 = c4
        cases c4 <;> (conv => whnf)
        · refine str_at (k := k) rfl hb ?_
          (conv => whnf)
          generalize e5 : iLt 57 (bInt b) = c5
          cases c5 <;> (conv => whnf)
          · refine ⟨k + 1, by omega, ⟨h1, hgood ?_⟩, ?_⟩
            · have h48 : ¬ bInt b < 48 := by simpa [iLt] using e4
              have h57 : ¬ 57 < bInt b := by simpa [iLt] using e5
              rw [decide_eq_true hk0, decide_eq_true (show 48 ≤ bInt b ∧ bInt b ≤ 57 by omega)]
              simp
            · ((conv => whnf); simp only [St.mk.injEq, List.cons.injEq, Prod.mk.injEq, AV.c.injEq, AV.agg.injEq, AV.tup.injEq, CV.d.injEq, D.int.injEq, D.bool.injEq, D.str.injEq, D.sl.injEq, Ent.arr.injEq, Ent.box.injEq, true_and, and_true, and_self, nInt_eq, Int.natCast_zero, dLen_eL, sLen_eq, wI h1 hs])
          · have h57 : 57 < bInt b := by simpa [iLt] using e5
            rw [hbad (by rw [hnl, decide_eq_false (show ¬ (48 ≤ bInt b ∧ bInt b ≤ 57) by omega)]; simp)]
        · have h48 : bInt b < 48 := by simpa [iLt] using e4
          rw [hbad (by rw [hnl, decide_eq_false (show ¬ (48 ≤ bInt b ∧ bInt b ≤ 57) by omega)]; simp)]
      · have hk0 : k = 0 := by simpa [iEq] using e3
        rw [hbad (by rw [hnl]; simp [hk0])]
    · have h97 : 97 ≤ bInt b := by simpa [iLe] using e1
      refine str_at (k := k) rfl hb ?_
      (conv => whnf)
      generalize e2 : iLe (bInt b) 122 = c2
      cases c2 <;> (conv => whnf)
      · have h122 : ¬ bInt b ≤ 122 := by simpa [iLe] using e2
        have hnl : decide (97 ≤ bInt b ∧ bInt b ≤ 122) = false := decide_eq_false (by omega)
        generalize e3 : iEq (k : Int) 0 = c3
        cases c3 <;> (conv => whnf)
        · have hk0 : ¬ k = 0 := by intro h; subst h; simp [iEq] at e3
          refine str_at (k := k) rfl hb ?_
          (conv => whnf)
          generalize e4 : iLt (bInt b) 48 = c4
          cases c4 <;> (conv => whnf)
          · refine str_at (k := k) rfl hb ?_
            (conv => whnf)
            generalize e5 : iLt 57 (bInt b) = c5
            cases c5 <;> (conv => whnf)
            · refine ⟨k + 1, by omega, ⟨h1, hgood ?_⟩, ?_⟩
              · have h48 : ¬ bInt b < 48 := by simpa [iLt] using e4
                have h57 : ¬ 57 < bInt b := by simpa [iLt] using e5
                rw [decide_eq_true hk0, decide_eq_true (show 48 ≤ bInt b ∧ bInt b ≤ 57 by omega)]
                simp
              · ((conv => whnf); simp only [St.mk.injEq, List.cons.injEq, Prod.mk.injEq, AV.c.injEq, AV.agg.injEq, AV.tup.injEq, CV.d.injEq, D.int.injEq, D.bool.injEq, D.str.injEq, D.sl.injEq, Ent.arr.injEq, Ent.box.injEq, true_and, and_true, and_self, nInt_eq, Int.natCast_zero, dLen_eL, sLen_eq, wI h1 hs])
            · have h57 : 57 < bInt b := by simpa [iLt] using e5
              rw [hbad (by rw [hnl, decide_eq_false (show ¬ (48 ≤ bInt b ∧ bInt b ≤ 57) by omega)]; simp)]
          · have h48 : bInt b < 48 := by simpa [iLt] using e4
            rw [hbad (by rw [hnl, decide_eq_false (show ¬ (48 ≤ bInt b ∧ bInt b ≤ 57) by omega)]; simp)]
        · have hk0 : k = 0 := by simpa [iEq] using e3
          rw [hbad (by rw [hnl]; simp [hk0])]
      · have h122 : bInt b ≤ 122 := by simpa [iLe] using e2
        refine ⟨k + 1, by omega, ⟨h1, hgood (by rw [decide_eq_true (show 97 ≤ bInt b ∧ bInt b ≤ 122 by omega)]; rfl)⟩, ?_⟩
        ((conv => whnf); simp only [St.mk.injEq, List.cons.injEq, Prod.mk.injEq, AV.c.injEq, AV.agg.injEq, AV.tup.injEq, CV.d.injEq, D.int.injEq, D.bool.injEq, D.str.injEq, D.sl.injEq, Ent.arr.injEq, Ent.box.injEq, true_and, and_true, and_self, nInt_eq, Int.natCast_zero, dLen_eL, sLen_eq, wI h1 hs])
  · obtain rfl : k = s.size := by omega
    refine .inl ⟨_, _, _, impl_within_spec _ _ _, rfl, ?_⟩
    rw [sLen_eq]
    have hd : s.data.toList.drop s.size = [] := List.drop_eq_nil_of_le (by simp)
    rw [hd] at hn
    have : nameOk s = decide (1 ≤ (s.size : Int) ∧ (s.size : Int) ≤ 12) := by simp [nameOk, ← hn, nameL]
    rw [this]
    (conv => whnf)

def hasS (x : ByteArray) (l : List ByteArray) : Bool := l.any fun y => decide (x = y)
/-- Names that are right, each once. -/
def namesL (all : List ByteArray) : List ByteArray → Nat → Bool
  | [], _ => true
  | s :: r, k => (nameOk s && !hasS s (all.take k)) && namesL all r (k + 1)
/-- The first k elements of a slice. -/
theorem dCut_take {α : Type} (f : α → List D) (xs : List α) (k : Nat) : dCut (eL f xs) (nOf 0) (nOf (k : Int)) = eL f (xs.take k) := by simp [dCut, eL, List.map_take]

theorem spec_l9Has_spec (l : List ByteArray) (x : ByteArray) (hl : l.length ≤ 9223372036854775807) : FnSpec PR f_spec_l9Has [aSs l, aS x] (ab (hasS x l)) [] 0 := by
  refine FnSpec.intro hT p_spec_l9Has rfl (by kernel_rfl) n_spec_l9Has rfl ?_
  conv => whnf
  refine tri_loop hT [0, 1, 5] (α := Nat) (fun k => { t := [(0, aSs l), (1, aS x), (5, ai k)], h := [], n := 0, N := 18 })
    (fun k => k ≤ l.length ∧ hasS x (l.drop k) = hasS x l) (fun k => l.length - k) 0 (by ((conv => whnf); simp only [St.mk.injEq, List.cons.injEq, Prod.mk.injEq, AV.c.injEq, AV.agg.injEq, AV.tup.injEq, CV.d.injEq, D.int.injEq, D.bool.injEq, D.str.injEq, D.sl.injEq, Ent.arr.injEq, Ent.box.injEq, true_and, and_true, and_self, nInt_eq, Int.natCast_zero, dLen_eL, sLen_eq])) ⟨Nat.zero_le _, rfl⟩ ?_
  intro k ⟨hk, hi⟩
  (conv => whnf)
  refine ifB_i (fun h1 => ?_) (fun h1 => ?_) <;> (conv => whnf) <;> simp at h1
  · obtain ⟨s, hs⟩ := get_lt h1
    refine idx_at (by simp) hs ?_
    (conv => whnf)
    rw [drop_at hs] at hi
    refine ifB_i (fun h2 => ?_) (fun h2 => ?_) <;> (conv => whnf) <;> simp only [nInt_eq, Int.natCast_zero, dLen_eL, sLen_eq, nOf_eq, Int.toNat_natCast, nAdd_eq, nSub_eq, dLen_nil, dLen_cons, iLt_t, iLt_f, iLe_t, iLe_f, iEq_t, iEq_f, sEq_t, sEq_f, bNot_t, bNot_f, bAnd_t, bEq_t, bEq_f, Bool.not_eq_true, Bool.not_eq_false, Bool.true_eq_false, Bool.false_eq_true] at h2
    · subst h2
      rw [← hi]
      simp [hasS]
    · refine ⟨k + 1, by omega, ⟨h1, by rw [← hi]; simp [hasS, Ne.symm h2]⟩, ?_⟩
      ((conv => whnf); simp only [St.mk.injEq, List.cons.injEq, Prod.mk.injEq, AV.c.injEq, AV.agg.injEq, AV.tup.injEq, CV.d.injEq, D.int.injEq, D.bool.injEq, D.str.injEq, D.sl.injEq, Ent.arr.injEq, Ent.box.injEq, true_and, and_true, and_self, nInt_eq, Int.natCast_zero, dLen_eL, sLen_eq, wI h1 hl])
  · obtain rfl : k = l.length := by omega
    simp only [List.drop_length] at hi
    rw [← hi]
    rfl

theorem slices_IndexS_spec (l : List ByteArray) (x : ByteArray) (hl : l.length ≤ 9223372036854775807) : FnSpec PR f_slices_Index_Lstring_string [aSs l, aS x] (ai (idxL (fun y => decide (x = y)) l 0)) [] 0 := by
  refine FnSpec.intro hT p_slices_Index_Lstring_string rfl (by kernel_rfl) n_slices_Index_Lstring_string rfl ?_
  conv => whnf
  refine tri_loop hT [0, 1, 7, 8] (α := Nat) (fun k => { t := [(0, aSs l), (1, aS x), (7, ai l.length), (8, ai k)], h := [], n := 0, N := 19 })
    (fun k => k ≤ l.length ∧ idxL (fun y => decide (x = y)) (l.drop k) k = idxL (fun y => decide (x = y)) l 0) (fun k => l.length - k) 0 (by ((conv => whnf); simp only [St.mk.injEq, List.cons.injEq, Prod.mk.injEq, AV.c.injEq, AV.agg.injEq, AV.tup.injEq, CV.d.injEq, D.int.injEq, D.bool.injEq, D.str.injEq, D.sl.injEq, Ent.arr.injEq, Ent.box.injEq, true_and, and_true, and_self, nInt_eq, Int.natCast_zero, dLen_eL, sLen_eq])) ⟨Nat.zero_le _, rfl⟩ ?_
  intro k ⟨hk, hi⟩
  (conv => whnf)
  refine ifB_i (fun h1 => ?_) (fun h1 => ?_) <;> (conv => whnf) <;> simp at h1
  · obtain ⟨s, hs⟩ := get_lt h1
    refine idx_at (by simp) hs ?_
    (conv => whnf)
    rw [drop_at hs, idxL] at hi
    refine ifB_i (fun h2 => ?_) (fun h2 => ?_) <;> (conv => whnf) <;> simp only [nInt_eq, Int.natCast_zero, dLen_eL, sLen_eq, nOf_eq, Int.toNat_natCast, nAdd_eq, nSub_eq, dLen_nil, dLen_cons, iLt_t, iLt_f, iLe_t, iLe_f, iEq_t, iEq_f, sEq_t, sEq_f, bNot_t, bNot_f, bAnd_t, bEq_t, bEq_f, Bool.not_eq_true, Bool.not_eq_false, Bool.true_eq_false, Bool.false_eq_true] at h2
    · rw [if_pos (by simpa using h2)] at hi
      ((conv => whnf); simp only [St.mk.injEq, List.cons.injEq, Prod.mk.injEq, AV.c.injEq, AV.agg.injEq, AV.tup.injEq, CV.d.injEq, D.int.injEq, D.bool.injEq, D.str.injEq, D.sl.injEq, Ent.arr.injEq, Ent.box.injEq, true_and, and_true, and_self, nInt_eq, Int.natCast_zero, dLen_eL, sLen_eq, hi])
    · rw [if_neg (by simpa using h2)] at hi
      refine ⟨k + 1, by omega, ⟨h1, hi⟩, ?_⟩
      ((conv => whnf); simp only [St.mk.injEq, List.cons.injEq, Prod.mk.injEq, AV.c.injEq, AV.agg.injEq, AV.tup.injEq, CV.d.injEq, D.int.injEq, D.bool.injEq, D.str.injEq, D.sl.injEq, Ent.arr.injEq, Ent.box.injEq, true_and, and_true, and_self, nInt_eq, Int.natCast_zero, dLen_eL, sLen_eq, wI h1 hl])
  · obtain rfl : k = l.length := by omega
    simp only [List.drop_length, idxL] at hi
    ((conv => whnf); simp only [St.mk.injEq, List.cons.injEq, Prod.mk.injEq, AV.c.injEq, AV.agg.injEq, AV.tup.injEq, CV.d.injEq, D.int.injEq, D.bool.injEq, D.str.injEq, D.sl.injEq, Ent.arr.injEq, Ent.box.injEq, true_and, and_true, and_self, nInt_eq, Int.natCast_zero, dLen_eL, sLen_eq, ← hi])

theorem slices_ContainsS_spec (l : List ByteArray) (x : ByteArray) (hl : l.length ≤ 9223372036854775807) : FnSpec PR f_slices_Contains_Lstring_string [aSs l, aS x] (ab (hasS x l)) [] 0 := by
  refine FnSpec.intro hT p_slices_Contains_Lstring_string rfl (by kernel_rfl) n_slices_Contains_Lstring_string rfl ?_
  conv => whnf
  refine .inl ⟨_, _, _, slices_IndexS_spec l x hl, rfl, ?_⟩
  have h := idxL_any (fun y => decide (x = y)) l 0
  ((conv => whnf); simp only [St.mk.injEq, List.cons.injEq, Prod.mk.injEq, AV.c.injEq, AV.agg.injEq, AV.tup.injEq, CV.d.injEq, D.int.injEq, D.bool.injEq, D.str.injEq, D.sl.injEq, Ent.arr.injEq, Ent.box.injEq, true_and, and_true, and_self, nInt_eq, Int.natCast_zero, dLen_eL, sLen_eq, iLe])
  rw [Bool.eq_iff_iff, decide_eq_true_eq]
  exact h

theorem impl_areNames_spec (l : List ByteArray) (hl : l.length ≤ 1048576) (hs : ∀ s ∈ l, s.size ≤ 9223372036854775807) : FnSpec PR f_impl_areNames [aSs l] (ab (namesL l l 0)) [] 0 := by
  refine FnSpec.intro hT p_impl_areNames rfl (by kernel_rfl) n_impl_areNames rfl ?_
  conv => whnf
  refine tri_loop hT [0, 5, 6, 7] (α := Nat) (fun k => { t := [(0, aSs l), (5, aSs l), (6, ai l.length), (7, ai k)], h := [], n := 0, N := 23 })
    (fun k => k ≤ l.length ∧ namesL l (l.drop k) k = namesL l l 0) (fun k => l.length - k) 0 (by ((conv => whnf); simp only [St.mk.injEq, List.cons.injEq, Prod.mk.injEq, AV.c.injEq, AV.agg.injEq, AV.tup.injEq, CV.d.injEq, D.int.injEq, D.bool.injEq, D.str.injEq, D.sl.injEq, Ent.arr.injEq, Ent.box.injEq, true_and, and_true, and_self, nInt_eq, Int.natCast_zero, dLen_eL, sLen_eq])) ⟨Nat.zero_le _, rfl⟩ ?_
  intro k ⟨hk, hi⟩
  (conv => whnf)
  refine ifB_i (fun h1 => ?_) (fun h1 => ?_) <;> (conv => whnf) <;> simp at h1
  · obtain ⟨s, hs'⟩ := get_lt h1
    rw [drop_at hs', namesL] at hi
    refine idx_at (by simp) hs' ?_
    (conv => whnf)
    refine .inl ⟨_, _, _, impl_NameOk_spec s (hs s (List.mem_of_getElem? hs')), rfl, ?_⟩
    (conv => whnf)
    cases hb : nameOk s <;> (conv => whnf)
    · rw [hb] at hi
      rw [← hi]
      simp
    · rw [hb, Bool.true_and] at hi
      refine And.intro (by simp; omega) ?_
      rw [dCut_take]
      (conv => whnf)
      refine .inl ⟨_, _, _, slices_ContainsS_spec (l.take k) s (by simp; omega), rfl, ?_⟩
      (conv => whnf)
      cases hh : hasS s (l.take k) <;> (conv => whnf)
      · rw [hh] at hi
        refine ⟨k + 1, by omega, ⟨h1, by simpa using hi⟩, ?_⟩
        ((conv => whnf); simp only [St.mk.injEq, List.cons.injEq, Prod.mk.injEq, AV.c.injEq, AV.agg.injEq, AV.tup.injEq, CV.d.injEq, D.int.injEq, D.bool.injEq, D.str.injEq, D.sl.injEq, Ent.arr.injEq, Ent.box.injEq, true_and, and_true, and_self, nInt_eq, Int.natCast_zero, dLen_eL, sLen_eq, wI h1 (by omega)])
      · rw [hh] at hi
        rw [← hi]
        rfl
  · obtain rfl : k = l.length := by omega
    simp only [List.drop_length, namesL] at hi
    rw [← hi]

theorem impl_isSign_spec (x : Int) : FnSpec PR f_impl_isSign [ai x] (ab (decide (-1 ≤ x ∧ x ≤ 1))) [] 0 := by
  refine FnSpec.intro hT p_impl_isSign rfl (by kernel_rfl) n_impl_isSign rfl ?_
  conv => whnf
  refine .inl ⟨_, _, _, impl_within_spec _ _ _, rfl, ?_⟩
  (conv => whnf)

theorem impl_ModelOk_1_spec (x : Int) : FnSpec PR f_impl_ModelOk_1 [ai x] (ab (bNot (decide (-1 ≤ x ∧ x ≤ 1)))) [] 0 := by
  refine FnSpec.intro hT p_impl_ModelOk_1 rfl (by kernel_rfl) n_impl_ModelOk_1 rfl ?_
  conv => whnf
  refine .inl ⟨_, _, _, impl_isSign_spec _, rfl, ?_⟩
  (conv => whnf)

theorem impl_ModelOk_2_spec (t : List Nd) (n : Int) (hl : t.length ≤ 1048576) : FnSpec PR f_impl_ModelOk_2 [aT t, .c (.d (.rp [.int .i64 n]))] (ab (bNot (treeOk t n))) [] 0 := by
  refine FnSpec.intro hT p_impl_ModelOk_2 rfl (by kernel_rfl) n_impl_ModelOk_2 rfl ?_
  conv => whnf
  refine .inl ⟨_, _, _, impl_TreeOk_spec t n hl, rfl, ?_⟩
  (conv => whnf)

def signOk (x : Int) : Bool := decide (-1 ≤ x ∧ x ≤ 1)
def modelOk (m : Mdl) : Bool :=
  decide (1 ≤ (m.names.length : Int) ∧ (m.names.length : Int) ≤ 4) && ((decide (m.signs.length = 0) || decide (m.signs.length = m.names.length)) && (decide (-2147483647 ≤ m.base ∧ m.base ≤ 2147483647) && (decide (m.trees.length ≤ 8) &&
    (namesL m.names m.names 0 && (m.signs.all signOk && m.trees.all fun t => treeOk t m.names.length)))))

set_option maxHeartbeats 1000000 in
theorem spec_ModelOk_spec (m : Mdl) (hn : m.names.length ≤ 1048576) (hns : ∀ s ∈ m.names, s.size ≤ 9223372036854775807) (hs : m.signs.length ≤ 1048576) (hm : m.trees.length ≤ 1048576) (ht : ∀ t ∈ m.trees, t.length ≤ 1048576) : FnSpec PR f_spec_ModelOk [aM m] (ab (modelOk m)) [] 0 := by
  have eS : nInt (dLen (eL cI m.signs)) = (m.signs.length : Int) := by simp
  have eN : nInt (dLen (eL cS m.names)) = (m.names.length : Int) := by simp
  have eT : nInt (dLen (eL cT m.trees)) = (m.trees.length : Int) := by simp
  refine FnSpec.intro hT p_spec_ModelOk rfl (by kernel_rfl) n_spec_ModelOk rfl ?_
  conv => whnf
  rw [eN]
  refine .inl ⟨_, _, _, spec_l1In_spec _ _ _, rfl, ?_⟩
  (conv => whnf)
  refine ifB_i (fun h1 => ?_) (fun h1 => ?_) <;> (conv => whnf) <;> simp only [nInt_eq, Int.natCast_zero, dLen_eL, sLen_eq, nOf_eq, Int.toNat_natCast, nAdd_eq, nSub_eq, dLen_nil, dLen_cons, iLt_t, iLt_f, iLe_t, iLe_f, iEq_t, iEq_f, sEq_t, sEq_f, bNot_t, bNot_f, bAnd_t, bEq_t, bEq_f, Bool.not_eq_true, Bool.not_eq_false, Bool.true_eq_false, Bool.false_eq_true] at h1
  · have : decide (1 ≤ (m.names.length : Int) ∧ (m.names.length : Int) ≤ 4) = false := by simpa using h1
    simp [modelOk, this]
  rw [eS]
  generalize e1 : iEq (m.signs.length : Int) 0 = c1
  cases c1 <;> (conv => whnf)
  · rw [eS]
    generalize e2 : iEq (m.signs.length : Int) (m.names.length : Int) = c2
    have h0 : ¬ m.signs.length = 0 := by intro h; rw [h] at e1; simp [iEq] at e1
    cases c2 <;> (conv => whnf)
    · have : ¬ m.signs.length = m.names.length := by intro h; rw [h] at e2; simp [iEq] at e2
      simp [modelOk, h0, this]
    · have hsg : (decide (m.signs.length = 0) || decide (m.signs.length = m.names.length)) = true := by
        have : (m.signs.length : Int) = m.names.length := by simpa [iEq] using e2
        rw [decide_eq_true (show m.signs.length = m.names.length by omega)]; simp
      refine .inl ⟨_, _, _, spec_l6Value_spec _, rfl, ?_⟩
      (conv => whnf)
      generalize e3 : decide (-2147483647 ≤ m.base ∧ m.base ≤ 2147483647) = c3
      cases c3 <;> (conv => whnf)
      · simp [modelOk, e3]
      rw [eT]
      generalize e4 : iLt 8 (m.trees.length : Int) = c4
      cases c4 <;> (conv => whnf)
      rotate_left
      · have : ¬ m.trees.length ≤ 8 := by have : (8 : Int) < m.trees.length := by simpa [iLt] using e4
                                          omega
        simp [modelOk, this]
      have h4 : decide (m.trees.length ≤ 8) = true := decide_eq_true (by have : ¬ (8 : Int) < m.trees.length := by simpa [iLt] using e4
                                                                         omega)
      have hmo : modelOk m = (namesL m.names m.names 0 && (m.signs.all signOk && m.trees.all fun t => treeOk t m.names.length)) := by simp only [modelOk]; rw [h1, hsg, e3, h4]; rfl
      rw [hmo]
      refine tri_loop hT [1, 3, 4] (α := Nat) (fun k => { t := [(1, .c (.ptr 0 0)), (3, ai m.names.length), (4, ai k)], h := [(0, .box t_impl_Model (cM m))], n := 1, N := 91 })
        (fun k => k ≤ m.names.length ∧ namesL m.names (m.names.drop k) k = namesL m.names m.names 0) (fun k => m.names.length - k) 0 (by ((conv => whnf); simp only [St.mk.injEq, List.cons.injEq, Prod.mk.injEq, AV.c.injEq, AV.agg.injEq, AV.tup.injEq, CV.d.injEq, D.int.injEq, D.bool.injEq, D.str.injEq, D.sl.injEq, Ent.arr.injEq, Ent.box.injEq, true_and, and_true, and_self, nInt_eq, Int.natCast_zero, dLen_eL, sLen_eq]); first | done | simp) ⟨Nat.zero_le _, rfl⟩ ?_
      intro k ⟨hk, hi⟩
      (conv => whnf)
      refine ifB_i (fun g1 => ?_) (fun g1 => ?_) <;> (conv => whnf) <;> simp at g1
      · obtain ⟨s, hs'⟩ := get_lt g1
        rw [drop_at hs', namesL] at hi
        refine tri_conf hT hmix (by kernel_rfl) ?_
        (conv => whnf)
        refine idx_at (by simp) hs' ?_
        (conv => whnf)
        refine ⟨_, _, spec_NameOk_spec s (hns s (List.mem_of_getElem? hs')), rfl, ?_⟩
        cases hb : nameOk s
        · (conv => whnf)
          repeat' (first | (refine And.intro (fun q => ?_) (fun q => ?_) <;> cases q <;> (conv => whnf)) | fail)
          rw [hb] at hi
          have : namesL m.names m.names 0 = false := by rw [← hi]; simp
          rw [this]
          (conv => whnf)
          rfl
        · rw [hb, Bool.true_and] at hi
          (conv => whnf)
          repeat' (first | (refine And.intro (fun q => ?_) (fun q => ?_) <;> cases q <;> (conv => whnf)) | fail)
          refine And.intro (by simp; omega) ?_
          rw [dCut_take]
          (conv => whnf)
          repeat' (first | (refine And.intro (fun q => ?_) (fun q => ?_) <;> cases q <;> (conv => whnf)) | fail)
          refine idx_at (by simp) hs' ?_
          (conv => whnf)
          repeat' (first | (refine And.intro (fun q => ?_) (fun q => ?_) <;> cases q <;> (conv => whnf)) | fail)
          refine ⟨_, _, spec_l9Has_spec (m.names.take k) s (by simp; omega), rfl, ?_⟩
          cases hh : hasS s (m.names.take k)
          · (conv => whnf)
            repeat' (first | (refine And.intro (fun q => ?_) (fun q => ?_) <;> cases q <;> (conv => whnf)) | fail)
            rw [hh] at hi
            refine ⟨k + 1, by omega, ⟨g1, by simpa using hi⟩, ?_⟩
            ((conv => whnf); simp only [St.mk.injEq, List.cons.injEq, Prod.mk.injEq, AV.c.injEq, AV.agg.injEq, AV.tup.injEq, CV.d.injEq, D.int.injEq, D.bool.injEq, D.str.injEq, D.sl.injEq, Ent.arr.injEq, Ent.box.injEq, true_and, and_true, and_self, nInt_eq, Int.natCast_zero, dLen_eL, sLen_eq, wI g1 (by omega)])
          · (conv => whnf)
            repeat' (first | (refine And.intro (fun q => ?_) (fun q => ?_) <;> cases q <;> (conv => whnf)) | fail)
            rw [hh] at hi
            have : namesL m.names m.names 0 = false := by rw [← hi]; simp
            rw [this]
            (conv => whnf)
            rfl
      · obtain rfl : k = m.names.length := by omega
        simp only [List.drop_length, namesL] at hi
        rw [← hi, Bool.true_and]
        refine tri_loop hT [1, 3, 5] (α := Nat) (fun k => { t := [(1, .c (.ptr 0 0)), (3, ai m.names.length), (5, ai k)], h := [(0, .box t_impl_Model (cM m))], n := 1, N := 91 })
          (fun k => k ≤ m.signs.length ∧ (m.signs.drop k).all signOk = m.signs.all signOk) (fun k => m.signs.length - k) 0 (by ((conv => whnf); simp only [St.mk.injEq, List.cons.injEq, Prod.mk.injEq, AV.c.injEq, AV.agg.injEq, AV.tup.injEq, CV.d.injEq, D.int.injEq, D.bool.injEq, D.str.injEq, D.sl.injEq, Ent.arr.injEq, Ent.box.injEq, true_and, and_true, and_self, nInt_eq, Int.natCast_zero, dLen_eL, sLen_eq])) ⟨Nat.zero_le _, rfl⟩ ?_
        intro k ⟨hk2, hj⟩
        (conv => whnf)
        refine ifB_i (fun g2 => ?_) (fun g2 => ?_) <;> (conv => whnf) <;> simp at g2
        · obtain ⟨x, hx⟩ := get_lt g2
          rw [drop_at hx, List.all_cons] at hj
          refine idx_at (by simp) hx ?_
          (conv => whnf)
          refine .inl ⟨_, _, _, spec_l1In_spec _ _ _, rfl, ?_⟩
          rw [show decide (-1 ≤ x ∧ x ≤ 1) = signOk x from rfl]
          cases hb : signOk x
          · (conv => whnf)
            rw [hb] at hj
            rw [← hj]
            rfl
          · (conv => whnf)
            rw [hb] at hj
            refine ⟨k + 1, by omega, ⟨g2, by simpa using hj⟩, ?_⟩
            ((conv => whnf); simp only [St.mk.injEq, List.cons.injEq, Prod.mk.injEq, AV.c.injEq, AV.agg.injEq, AV.tup.injEq, CV.d.injEq, D.int.injEq, D.bool.injEq, D.str.injEq, D.sl.injEq, Ent.arr.injEq, Ent.box.injEq, true_and, and_true, and_self, nInt_eq, Int.natCast_zero, dLen_eL, sLen_eq, wI g2 (by omega)])
        · obtain rfl : k = m.signs.length := by omega
          simp only [List.drop_length, List.all_nil] at hj
          rw [← hj, Bool.true_and]
          refine tri_loop hT [1, 3, 6] (α := Nat) (fun k => { t := [(1, .c (.ptr 0 0)), (3, ai m.names.length), (6, ai k)], h := [(0, .box t_impl_Model (cM m))], n := 1, N := 91 })
            (fun k => k ≤ m.trees.length ∧ ((m.trees.drop k).all fun t => treeOk t m.names.length) = m.trees.all fun t => treeOk t m.names.length) (fun k => m.trees.length - k) 0 (by ((conv => whnf); simp only [St.mk.injEq, List.cons.injEq, Prod.mk.injEq, AV.c.injEq, AV.agg.injEq, AV.tup.injEq, CV.d.injEq, D.int.injEq, D.bool.injEq, D.str.injEq, D.sl.injEq, Ent.arr.injEq, Ent.box.injEq, true_and, and_true, and_self, nInt_eq, Int.natCast_zero, dLen_eL, sLen_eq])) ⟨Nat.zero_le _, rfl⟩ ?_
          intro k ⟨hk3, hl⟩
          (conv => whnf)
          refine ifB_i (fun g3 => ?_) (fun g3 => ?_) <;> (conv => whnf) <;> simp at g3
          · obtain ⟨t, ht'⟩ := get_lt g3
            rw [drop_at ht', List.all_cons] at hl
            refine idx_at (by simp) ht' ?_
            (conv => whnf)
            refine .inl ⟨_, _, _, spec_TreeOk_spec t m.names.length (ht t (List.mem_of_getElem? ht')), rfl, ?_⟩
            cases hb : treeOk t m.names.length
            · (conv => whnf)
              rw [hb] at hl
              rw [← hl]
              rfl
            · (conv => whnf)
              rw [hb] at hl
              refine ⟨k + 1, by omega, ⟨g3, by simpa using hl⟩, ?_⟩
              ((conv => whnf); simp only [St.mk.injEq, List.cons.injEq, Prod.mk.injEq, AV.c.injEq, AV.agg.injEq, AV.tup.injEq, CV.d.injEq, D.int.injEq, D.bool.injEq, D.str.injEq, D.sl.injEq, Ent.arr.injEq, Ent.box.injEq, true_and, and_true, and_self, nInt_eq, Int.natCast_zero, dLen_eL, sLen_eq, wI g3 (by omega)])
          · obtain rfl : k = m.trees.length := by omega
            simp only [List.drop_length, List.all_nil] at hl
            rw [← hl]
  · have hsg : (decide (m.signs.length = 0) || decide (m.signs.length = m.names.length)) = true := by
      have : (m.signs.length : Int) = 0 := by simpa [iEq] using e1
      rw [decide_eq_true (show m.signs.length = 0 by omega)]; rfl
    refine .inl ⟨_, _, _, spec_l6Value_spec _, rfl, ?_⟩
    (conv => whnf)
    generalize e3 : decide (-2147483647 ≤ m.base ∧ m.base ≤ 2147483647) = c3
    cases c3 <;> (conv => whnf)
    · simp [modelOk, e3]
    rw [eT]
    generalize e4 : iLt 8 (m.trees.length : Int) = c4
    cases c4 <;> (conv => whnf)
    rotate_left
    · have : ¬ m.trees.length ≤ 8 := by have : (8 : Int) < m.trees.length := by simpa [iLt] using e4
                                        omega
      simp [modelOk, this]
    have h4 : decide (m.trees.length ≤ 8) = true := decide_eq_true (by have : ¬ (8 : Int) < m.trees.length := by simpa [iLt] using e4
                                                                       omega)
    have hmo : modelOk m = (namesL m.names m.names 0 && (m.signs.all signOk && m.trees.all fun t => treeOk t m.names.length)) := by simp only [modelOk]; rw [h1, hsg, e3, h4]; rfl
    rw [hmo]
    refine tri_loop hT [1, 3, 4] (α := Nat) (fun k => { t := [(1, .c (.ptr 0 0)), (3, ai m.names.length), (4, ai k)], h := [(0, .box t_impl_Model (cM m))], n := 1, N := 91 })
      (fun k => k ≤ m.names.length ∧ namesL m.names (m.names.drop k) k = namesL m.names m.names 0) (fun k => m.names.length - k) 0 (by ((conv => whnf); simp only [St.mk.injEq, List.cons.injEq, Prod.mk.injEq, AV.c.injEq, AV.agg.injEq, AV.tup.injEq, CV.d.injEq, D.int.injEq, D.bool.injEq, D.str.injEq, D.sl.injEq, Ent.arr.injEq, Ent.box.injEq, true_and, and_true, and_self, nInt_eq, Int.natCast_zero, dLen_eL, sLen_eq]); first | done | simp) ⟨Nat.zero_le _, rfl⟩ ?_
    intro k ⟨hk, hi⟩
    (conv => whnf)
    refine ifB_i (fun g1 => ?_) (fun g1 => ?_) <;> (conv => whnf) <;> simp at g1
    · obtain ⟨s, hs'⟩ := get_lt g1
      rw [drop_at hs', namesL] at hi
      refine tri_conf hT hmix (by kernel_rfl) ?_
      (conv => whnf)
      refine idx_at (by simp) hs' ?_
      (conv => whnf)
      refine ⟨_, _, spec_NameOk_spec s (hns s (List.mem_of_getElem? hs')), rfl, ?_⟩
      cases hb : nameOk s
      · (conv => whnf)
        repeat' (first | (refine And.intro (fun q => ?_) (fun q => ?_) <;> cases q <;> (conv => whnf)) | fail)
        rw [hb] at hi
        have : namesL m.names m.names 0 = false := by rw [← hi]; simp
        rw [this]
        (conv => whnf)
        rfl
      · rw [hb, Bool.true_and] at hi
        (conv => whnf)
        repeat' (first | (refine And.intro (fun q => ?_) (fun q => ?_) <;> cases q <;> (conv => whnf)) | fail)
        refine And.intro (by simp; omega) ?_
        rw [dCut_take]
        (conv => whnf)
        repeat' (first | (refine And.intro (fun q => ?_) (fun q => ?_) <;> cases q <;> (conv => whnf)) | fail)
        refine idx_at (by simp) hs' ?_
        (conv => whnf)
        repeat' (first | (refine And.intro (fun q => ?_) (fun q => ?_) <;> cases q <;> (conv => whnf)) | fail)
        refine ⟨_, _, spec_l9Has_spec (m.names.take k) s (by simp; omega), rfl, ?_⟩
        cases hh : hasS s (m.names.take k)
        · (conv => whnf)
          repeat' (first | (refine And.intro (fun q => ?_) (fun q => ?_) <;> cases q <;> (conv => whnf)) | fail)
          rw [hh] at hi
          refine ⟨k + 1, by omega, ⟨g1, by simpa using hi⟩, ?_⟩
          ((conv => whnf); simp only [St.mk.injEq, List.cons.injEq, Prod.mk.injEq, AV.c.injEq, AV.agg.injEq, AV.tup.injEq, CV.d.injEq, D.int.injEq, D.bool.injEq, D.str.injEq, D.sl.injEq, Ent.arr.injEq, Ent.box.injEq, true_and, and_true, and_self, nInt_eq, Int.natCast_zero, dLen_eL, sLen_eq, wI g1 (by omega)])
        · (conv => whnf)
          repeat' (first | (refine And.intro (fun q => ?_) (fun q => ?_) <;> cases q <;> (conv => whnf)) | fail)
          rw [hh] at hi
          have : namesL m.names m.names 0 = false := by rw [← hi]; simp
          rw [this]
          (conv => whnf)
          rfl
    · obtain rfl : k = m.names.length := by omega
      simp only [List.drop_length, namesL] at hi
      rw [← hi, Bool.true_and]
      refine tri_loop hT [1, 3, 5] (α := Nat) (fun k => { t := [(1, .c (.ptr 0 0)), (3, ai m.names.length), (5, ai k)], h := [(0, .box t_impl_Model (cM m))], n := 1, N := 91 })
        (fun k => k ≤ m.signs.length ∧ (m.signs.drop k).all signOk = m.signs.all signOk) (fun k => m.signs.length - k) 0 (by ((conv => whnf); simp only [St.mk.injEq, List.cons.injEq, Prod.mk.injEq, AV.c.injEq, AV.agg.injEq, AV.tup.injEq, CV.d.injEq, D.int.injEq, D.bool.injEq, D.str.injEq, D.sl.injEq, Ent.arr.injEq, Ent.box.injEq, true_and, and_true, and_self, nInt_eq, Int.natCast_zero, dLen_eL, sLen_eq])) ⟨Nat.zero_le _, rfl⟩ ?_
      intro k ⟨hk2, hj⟩
      (conv => whnf)
      refine ifB_i (fun g2 => ?_) (fun g2 => ?_) <;> (conv => whnf) <;> simp at g2
      · obtain ⟨x, hx⟩ := get_lt g2
        rw [drop_at hx, List.all_cons] at hj
        refine idx_at (by simp) hx ?_
        (conv => whnf)
        refine .inl ⟨_, _, _, spec_l1In_spec _ _ _, rfl, ?_⟩
        rw [show decide (-1 ≤ x ∧ x ≤ 1) = signOk x from rfl]
        cases hb : signOk x
        · (conv => whnf)
          rw [hb] at hj
          rw [← hj]
          rfl
        · (conv => whnf)
          rw [hb] at hj
          refine ⟨k + 1, by omega, ⟨g2, by simpa using hj⟩, ?_⟩
          ((conv => whnf); simp only [St.mk.injEq, List.cons.injEq, Prod.mk.injEq, AV.c.injEq, AV.agg.injEq, AV.tup.injEq, CV.d.injEq, D.int.injEq, D.bool.injEq, D.str.injEq, D.sl.injEq, Ent.arr.injEq, Ent.box.injEq, true_and, and_true, and_self, nInt_eq, Int.natCast_zero, dLen_eL, sLen_eq, wI g2 (by omega)])
      · obtain rfl : k = m.signs.length := by omega
        simp only [List.drop_length, List.all_nil] at hj
        rw [← hj, Bool.true_and]
        refine tri_loop hT [1, 3, 6] (α := Nat) (fun k => { t := [(1, .c (.ptr 0 0)), (3, ai m.names.length), (6, ai k)], h := [(0, .box t_impl_Model (cM m))], n := 1, N := 91 })
          (fun k => k ≤ m.trees.length ∧ ((m.trees.drop k).all fun t => treeOk t m.names.length) = m.trees.all fun t => treeOk t m.names.length) (fun k => m.trees.length - k) 0 (by ((conv => whnf); simp only [St.mk.injEq, List.cons.injEq, Prod.mk.injEq, AV.c.injEq, AV.agg.injEq, AV.tup.injEq, CV.d.injEq, D.int.injEq, D.bool.injEq, D.str.injEq, D.sl.injEq, Ent.arr.injEq, Ent.box.injEq, true_and, and_true, and_self, nInt_eq, Int.natCast_zero, dLen_eL, sLen_eq])) ⟨Nat.zero_le _, rfl⟩ ?_
        intro k ⟨hk3, hl⟩
        (conv => whnf)
        refine ifB_i (fun g3 => ?_) (fun g3 => ?_) <;> (conv => whnf) <;> simp at g3
        · obtain ⟨t, ht'⟩ := get_lt g3
          rw [drop_at ht', List.all_cons] at hl
          refine idx_at (by simp) ht' ?_
          (conv => whnf)
          refine .inl ⟨_, _, _, spec_TreeOk_spec t m.names.length (ht t (List.mem_of_getElem? ht')), rfl, ?_⟩
          cases hb : treeOk t m.names.length
          · (conv => whnf)
            rw [hb] at hl
            rw [← hl]
            rfl
          · (conv => whnf)
            rw [hb] at hl
            refine ⟨k + 1, by omega, ⟨g3, by simpa using hl⟩, ?_⟩
            ((conv => whnf); simp only [St.mk.injEq, List.cons.injEq, Prod.mk.injEq, AV.c.injEq, AV.agg.injEq, AV.tup.injEq, CV.d.injEq, D.int.injEq, D.bool.injEq, D.str.injEq, D.sl.injEq, Ent.arr.injEq, Ent.box.injEq, true_and, and_true, and_self, nInt_eq, Int.natCast_zero, dLen_eL, sLen_eq, wI g3 (by omega)])
        · obtain rfl : k = m.trees.length := by omega
          simp only [List.drop_length, List.all_nil] at hl
          rw [← hl]

theorem any_all {α : Type} (p : α → Bool) (l : List α) : (l.any fun x => bNot (p x)) = !l.all p := by
  induction l with
  | nil => rfl
  | cons x r ih => rw [List.any_cons, List.all_cons, ih, Bool.not_and]; rfl
set_option maxHeartbeats 1000000 in
theorem impl_ModelOk_spec (m : Mdl) (hn : m.names.length ≤ 1048576) (hns : ∀ s ∈ m.names, s.size ≤ 9223372036854775807) (hs : m.signs.length ≤ 1048576) (hm : m.trees.length ≤ 1048576) (ht : ∀ t ∈ m.trees, t.length ≤ 1048576) : FnSpec PR f_impl_ModelOk [aM m] (ab (modelOk m)) [] 0 := by
  have eS : nInt (dLen (eL cI m.signs)) = (m.signs.length : Int) := by simp
  have eN : nInt (dLen (eL cS m.names)) = (m.names.length : Int) := by simp
  have eT : nInt (dLen (eL cT m.trees)) = (m.trees.length : Int) := by simp
  refine FnSpec.intro hT p_impl_ModelOk rfl (by kernel_rfl) n_impl_ModelOk rfl ?_
  conv => whnf
  rw [eN]
  refine .inl ⟨_, _, _, impl_within_spec _ _ _, rfl, ?_⟩
  (conv => whnf)
  refine ifB_i (fun h1 => ?_) (fun h1 => ?_) <;> (conv => whnf) <;> simp only [nInt_eq, Int.natCast_zero, dLen_eL, sLen_eq, nOf_eq, Int.toNat_natCast, nAdd_eq, nSub_eq, dLen_nil, dLen_cons, iLt_t, iLt_f, iLe_t, iLe_f, iEq_t, iEq_f, sEq_t, sEq_f, bNot_t, bNot_f, bAnd_t, bEq_t, bEq_f, Bool.not_eq_true, Bool.not_eq_false, Bool.true_eq_false, Bool.false_eq_true] at h1
  · have : decide (1 ≤ (m.names.length : Int) ∧ (m.names.length : Int) ≤ 4) = false := by simpa using h1
    simp [modelOk, this]
  refine .inl ⟨_, _, _, impl_areNames_spec m.names hn hns, rfl, ?_⟩
  cases hnm : namesL m.names m.names 0
  · (conv => whnf)
    simp [modelOk, hnm]
  (conv => whnf)
  rw [eS]
  generalize e1 : iEq (m.signs.length : Int) 0 = c1
  cases c1 <;> (conv => whnf)
  · rw [eS]
    generalize e2 : iEq (m.signs.length : Int) (m.names.length : Int) = c2
    have h0 : ¬ m.signs.length = 0 := by intro h; rw [h] at e1; simp [iEq] at e1
    cases c2 <;> (conv => whnf)
    · have : ¬ m.signs.length = m.names.length := by intro h; rw [h] at e2; simp [iEq] at e2
      simp [modelOk, h0, this]
    · have hsg : (decide (m.signs.length = 0) || decide (m.signs.length = m.names.length)) = true := by
        have : (m.signs.length : Int) = m.names.length := by simpa [iEq] using e2
        rw [decide_eq_true (show m.signs.length = m.names.length by omega)]; simp
      refine .inl ⟨_, _, _, slices_ContainsFunc_Lint_int_0 m.signs f_impl_ModelOk_1 (fun x => bNot (signOk x)) (fun x _ => impl_ModelOk_1_spec x) (by omega), rfl, ?_⟩
      rw [any_all]
      cases hsa : m.signs.all signOk
      rotate_left
      · (conv => whnf)
        refine .inl ⟨_, _, _, impl_isDecimal_spec _, rfl, ?_⟩
        (conv => whnf)
        generalize e3 : decide (-2147483647 ≤ m.base ∧ m.base ≤ 2147483647) = c3
        cases c3 <;> (conv => whnf)
        · simp [modelOk, e3]
        rw [eT]
        generalize e4 : iLe (m.trees.length : Int) 8 = c4
        cases c4 <;> (conv => whnf)
        · have : ¬ m.trees.length ≤ 8 := by have : ¬ (m.trees.length : Int) ≤ 8 := by simpa [iLe] using e4
                                            omega
          simp [modelOk, this]
        have h4 : decide (m.trees.length ≤ 8) = true := decide_eq_true (by have : (m.trees.length : Int) ≤ 8 := by simpa [iLe] using e4
                                                                           omega)
        refine .inr (.inl ⟨_, _, _, slices_ContainsFunc_Limpl_Tree_impl_Tree_1 m.trees f_impl_ModelOk_2 (.rp [.int .i64 m.names.length]) (fun t => bNot (treeOk t m.names.length)) (fun t htm => impl_ModelOk_2_spec t m.names.length (ht t htm)) (by omega), rfl, trivial, ?_⟩)
        rw [any_all]
        (conv => whnf)
        have hmo : modelOk m = m.trees.all fun t => treeOk t m.names.length := by simp only [modelOk]; rw [h1, hsg, e3, h4, hnm, hsa]; rfl
        rw [hmo]
        simp [bNot]
      · (conv => whnf)
        simp [modelOk, hsa]
  · have hsg : (decide (m.signs.length = 0) || decide (m.signs.length = m.names.length)) = true := by
      have : (m.signs.length : Int) = 0 := by simpa [iEq] using e1
      rw [decide_eq_true (show m.signs.length = 0 by omega)]; rfl
    refine .inl ⟨_, _, _, slices_ContainsFunc_Lint_int_0 m.signs f_impl_ModelOk_1 (fun x => bNot (signOk x)) (fun x _ => impl_ModelOk_1_spec x) (by omega), rfl, ?_⟩
    rw [any_all]
    cases hsa : m.signs.all signOk
    rotate_left
    · (conv => whnf)
      refine .inl ⟨_, _, _, impl_isDecimal_spec _, rfl, ?_⟩
      (conv => whnf)
      generalize e3 : decide (-2147483647 ≤ m.base ∧ m.base ≤ 2147483647) = c3
      cases c3 <;> (conv => whnf)
      · simp [modelOk, e3]
      rw [eT]
      generalize e4 : iLe (m.trees.length : Int) 8 = c4
      cases c4 <;> (conv => whnf)
      · have : ¬ m.trees.length ≤ 8 := by have : ¬ (m.trees.length : Int) ≤ 8 := by simpa [iLe] using e4
                                          omega
        simp [modelOk, this]
      have h4 : decide (m.trees.length ≤ 8) = true := decide_eq_true (by have : (m.trees.length : Int) ≤ 8 := by simpa [iLe] using e4
                                                                         omega)
      refine .inr (.inl ⟨_, _, _, slices_ContainsFunc_Limpl_Tree_impl_Tree_1 m.trees f_impl_ModelOk_2 (.rp [.int .i64 m.names.length]) (fun t => bNot (treeOk t m.names.length)) (fun t htm => impl_ModelOk_2_spec t m.names.length (ht t htm)) (by omega), rfl, trivial, ?_⟩)
      rw [any_all]
      (conv => whnf)
      have hmo : modelOk m = m.trees.all fun t => treeOk t m.names.length := by simp only [modelOk]; rw [h1, hsg, e3, h4, hnm, hsa]; rfl
      rw [hmo]
      simp [bNot]
    · (conv => whnf)
      simp [modelOk, hsa]
end Go.H.S
namespace Go.H.S
open Go Go.Proofs Go.H
attribute [local irreducible] Tri FnSpec FnSpecM FnSpecX FnSpecJ
set_option maxRecDepth 100000
set_option linter.unusedSimpArgs false
set_option linter.unusedVariables false


def valsL : List Nd → List Int
  | [] => []
  | n :: r => if n.f = -1 then n.v :: valsL r else valsL r
theorem valsL_eq : ∀ (t : List Nd) (k : Nat) (all : List Nd), (∀ j n, t[j]? = some n → all[k + j]? = some n) → (leavesK t k).map (fun i => match all[i.toNat]? with | some n => n.v | none => 0) = valsL t
  | [], k, all, h => rfl
  | n :: r, k, all, h => by
    have ih := valsL_eq r (k + 1) all (fun j n hj => by rw [show k + 1 + j = k + (j + 1) by omega]; exact h (j + 1) n hj)
    have h0 := h 0 n rfl
    simp only [leavesK, valsL]
    split
    · rw [List.map_cons, ih, Int.toNat_natCast, show all[k]? = some n from h0]
    · exact ih
theorem valsL_len : ∀ t : List Nd, (valsL t).length ≤ t.length
  | [] => by simp [valsL]
  | n :: r => by
    have := valsL_len r
    simp only [valsL]
    split <;> simp <;> omega
def valuesL (t : List Nd) : List Int := distinctL (valsL t)
def vAtI (t : List Nd) (i : Int) : Int := match t[i.toNat]? with | some n => n.v | none => 0
theorem leaf_vals (t : List Nd) : (leavesK t 0).map (vAtI t) = valsL t := valsL_eq t 0 t (fun j n h => by rw [Nat.zero_add]; exact h)
theorem spec_ValuesIn_spec (t : List Nd) (hl : t.length ≤ 1048576) : FnSpec PR f_spec_ValuesIn [aT t] (.c (.ref 0 0 none)) [(0, .arr t_int 1 0 .own (eL cI (valuesL t)))] 1 := by
  have hll := leavesK_len t 0
  have hlt := leavesK_lt t 0
  have hlv := leaf_vals t
  refine FnSpec.intro hT p_spec_ValuesIn rfl (by kernel_rfl) n_spec_ValuesIn rfl ?_
  conv => whnf
  refine .inl ⟨_, _, _, spec_LeavesOf_spec t hl, rfl, ?_⟩
  generalize leavesK t 0 = L at *
  (conv => whnf)
  refine tri_loop hT [1, 3, 4, 5] (α := Nat) (fun k => { t := [(1, .c (.ptr 0 0)), (3, .c (.ref 1 0 none)), (4, .c (.ref 2 0 none)), (5, ai k)], h := [(0, .box t_impl_Tree (cTr t)), (1, .arr t_int 1 0 .own (eL cI ((L.take k).map (vAtI t)))), (2, .arr t_int 1 0 .own (eL cI L))], n := 3, N := 29 })
    (fun k => k ≤ L.length) (fun k => L.length - k) 0 (by ((conv => whnf); simp only [St.mk.injEq, List.cons.injEq, Prod.mk.injEq, AV.c.injEq, AV.agg.injEq, AV.tup.injEq, CV.d.injEq, D.int.injEq, D.bool.injEq, D.str.injEq, D.sl.injEq, Ent.arr.injEq, Ent.box.injEq, true_and, and_true, and_self, nInt_eq, Int.natCast_zero, dLen_eL, sLen_eq, List.take_zero, List.map_nil, eL_nil])) (Nat.zero_le _) ?_
  intro k hk
  (conv => whnf)
  refine ifB_i (fun h1 => ?_) (fun h1 => ?_) <;> (conv => whnf) <;> simp at h1
  · obtain ⟨i, hi⟩ := get_lt h1
    have hib := hlt i (List.mem_of_getElem? hi)
    obtain ⟨j, rfl⟩ : ∃ j : Nat, i = j := ⟨i.toNat, by omega⟩
    obtain ⟨n, hn⟩ := get_lt (show j < t.length by omega)
    have hv : vAtI t j = n.v := by simp [vAtI, hn]
    have hnx : (L.take (k + 1)).map (vAtI t) = (L.take k).map (vAtI t) ++ [n.v] := by rw [List.take_add_one, hi]; simp [hv]
    refine tri_every hT hmix [1, 3, 4, 5] { t := [(1, .c (.ptr 0 0)), (3, .c (.ref 1 0 none)), (4, .c (.ref 2 0 none)), (5, ai k)], h := [(0, .box t_impl_Tree (cTr t)), (1, .arr t_int 1 0 .own (eL cI ((L.take (k + 1)).map (vAtI t)))), (2, .arr t_int 1 0 .own (eL cI L))], n := 3, N := 29 } rfl ?_ ?_
    · repeat' first
        | (refine anyV_one rfl ?_; (conv => whnf))
        | (refine anyV_two rfl ?_ ?_ <;> (conv => whnf))
        | (refine anyV_three rfl ?_ ?_ ?_ <;> (conv => whnf))
        | (refine anyV_end rfl ?_; (conv => whnf); first | done | (rw [hnx, ← eL_app, partOf_none]; rfl))
        | (refine idx_at (by simp) hn ?_; (conv => whnf))
        | (refine ref_at (k := k) (by simp) (by simp; omega) ?_; (conv => whnf))
        | (refine ld_at (by simp) hi ?_; (conv => whnf))
        | (refine And.intro (by simp [eL_length, dLen_len]; omega) ?_; (conv => whnf))
    · (conv => whnf)
      refine ⟨k + 1, by omega, h1, ?_⟩
      ((conv => whnf); simp only [St.mk.injEq, List.cons.injEq, Prod.mk.injEq, AV.c.injEq, AV.agg.injEq, AV.tup.injEq, CV.d.injEq, D.int.injEq, D.bool.injEq, D.str.injEq, D.sl.injEq, Ent.arr.injEq, Ent.box.injEq, true_and, and_true, and_self, nInt_eq, Int.natCast_zero, dLen_eL, sLen_eq, wI h1 (by omega)])
  · obtain rfl : k = L.length := by omega
    rw [List.take_length, hlv]
    refine .inr (.inl ⟨_, _, _, spec_Distinct_spec (valsL t) (by have := valsL_len t; omega), rfl, ⟨flat_cI _, trivial⟩, ?_⟩)
    (conv => whnf)
    rfl

theorem impl_ValuesIn_spec (t : List Nd) (hl : t.length ≤ 1048576) : FnSpec PR f_impl_ValuesIn [aT t] (.c (.ref 0 0 none)) [(0, .arr t_int 1 0 .own (eL cI (valuesL t)))] 1 := by
  have hll := leavesK_len t 0
  have hlt := leavesK_lt t 0
  have hlv := leaf_vals t
  refine FnSpec.intro hT p_impl_ValuesIn rfl (by kernel_rfl) n_impl_ValuesIn rfl ?_
  conv => whnf
  refine .inl ⟨_, _, _, impl_LeavesOf_spec t hl, rfl, ?_⟩
  generalize leavesK t 0 = L at *
  (conv => whnf)
  refine tri_loop hT [1, 3, 8, 9, 10] (α := Nat) (fun k => { t := [(1, .c (.ptr 0 0)), (3, .c (.ref 1 0 none)), (8, .c (.ref 2 0 none)), (9, ai L.length), (10, ai k)], h := [(0, .box t_impl_Tree (cTr t)), (1, .arr t_int 1 0 .own (eL cI ((L.take k).map (vAtI t)))), (2, .arr t_int 1 0 .own (eL cI L))], n := 3, N := 26 })
    (fun k => k ≤ L.length) (fun k => L.length - k) 0 (by ((conv => whnf); simp only [St.mk.injEq, List.cons.injEq, Prod.mk.injEq, AV.c.injEq, AV.agg.injEq, AV.tup.injEq, CV.d.injEq, D.int.injEq, D.bool.injEq, D.str.injEq, D.sl.injEq, Ent.arr.injEq, Ent.box.injEq, true_and, and_true, and_self, nInt_eq, Int.natCast_zero, dLen_eL, sLen_eq, List.take_zero, List.map_nil, eL_nil, lenRE_none])) (Nat.zero_le _) ?_
  intro k hk
  (conv => whnf)
  refine ifB_i (fun h1 => ?_) (fun h1 => ?_) <;> (conv => whnf) <;> simp at h1
  · obtain ⟨i, hi⟩ := get_lt h1
    have hib := hlt i (List.mem_of_getElem? hi)
    obtain ⟨j, rfl⟩ : ∃ j : Nat, i = j := ⟨i.toNat, by omega⟩
    obtain ⟨n, hn⟩ := get_lt (show j < t.length by omega)
    have hv : vAtI t j = n.v := by simp [vAtI, hn]
    have hnx : (L.take (k + 1)).map (vAtI t) = (L.take k).map (vAtI t) ++ [n.v] := by rw [List.take_add_one, hi]; simp [hv]
    refine ref_at (k := k) (by simp) (by simp; omega) ?_
    (conv => whnf)
    refine ld_at (by simp) hi ?_
    (conv => whnf)
    refine idx_at (by simp) hn ?_
    (conv => whnf)
    refine And.intro (by simp [eL_length, dLen_len]; omega) ?_
    (conv => whnf)
    refine ⟨k + 1, by omega, h1, ?_⟩
    rw [hnx, ← eL_app]
    ((conv => whnf); simp only [St.mk.injEq, List.cons.injEq, Prod.mk.injEq, AV.c.injEq, AV.agg.injEq, AV.tup.injEq, CV.d.injEq, D.int.injEq, D.bool.injEq, D.str.injEq, D.sl.injEq, Ent.arr.injEq, Ent.box.injEq, true_and, and_true, and_self, nInt_eq, Int.natCast_zero, dLen_eL, sLen_eq, wI h1 (by omega), partOf_none])
    rfl
  · obtain rfl : k = L.length := by omega
    rw [List.take_length, hlv]
    refine .inr (.inl ⟨_, _, _, impl_Distinct_spec (valsL t) (by have := valsL_len t; omega), rfl, ⟨flat_cI _, trivial⟩, ?_⟩)
    (conv => whnf)
    rfl

theorem valuesL_pos {t : List Nd} {ft : Int} (h : treeOk t ft = true) : 0 < (valuesL t).length := by
  simp only [treeOk, Bool.and_eq_true, decide_eq_true_eq] at h
  obtain ⟨h1, _, h3, _⟩ := h
  obtain ⟨n, hn⟩ := get_lt (show t.length - 1 < t.length by omega)
  have hf : n.f = -1 := by
    by_cases q : n.f = -1
    · exact q
    · have := shape_kids h3 hn q; omega
  have hmem : n.v ∈ valsL t := by
    have key : ∀ l : List Nd, n ∈ l → n.v ∈ valsL l := by
      intro l
      induction l with
      | nil => intro h; cases h
      | cons x r ih =>
        intro h
        simp only [valsL]
        rcases List.mem_cons.1 h with rfl | h
        · rw [if_pos hf]; simp
        · split
          · exact List.mem_cons_of_mem _ (ih h)
          · exact ih h
    exact key t (List.mem_of_getElem? hn)
  have hpos : 0 < (sortL (valsL t)).length := by rw [sortL_len]; exact List.length_pos_of_mem hmem
  unfold valuesL distinctL Go.Lib.compact
  generalize sortL (valsL t) = s at *
  obtain ⟨m, hm⟩ : ∃ m, s.length = m + 1 := ⟨s.length - 1, by omega⟩
  rw [hm]
  have : 0 ∈ (List.range (m + 1)).filter (Go.Lib.keeps s.toArray) := by
    rw [List.mem_filter]
    exact ⟨by simp, Go.Lib.keeps_lt_one _ 0 (by omega)⟩
  simp only [Go.Lib.compactUpTo, List.length_map]
  exact List.length_pos_of_mem this
def lowV (t : List Nd) : Int := ((valuesL t)[0]?).getD 0
def highV (t : List Nd) : Int := ((valuesL t)[(valuesL t).length - 1]?).getD 0
def reachL : List (List Nd) → Int → Int → Int × Int
  | [], lo, hi => (lo, hi)
  | t :: r, lo, hi => reachL r (wAdd .i64 lo (lowV t)) (wAdd .i64 hi (highV t))
def reachM (m : Mdl) : Int × Int := if modelOk m then reachL m.trees m.base m.base else (0, 0)
theorem modelOk_trees {m : Mdl} (h : modelOk m = true) : ∀ t ∈ m.trees, treeOk t m.names.length = true := by
  simp only [modelOk, Bool.and_eq_true] at h
  have := h.2.2.2.2.2.2
  rw [List.all_eq_true] at this
  exact this
abbrev tup2 (x : Int × Int) : AV := .tup [(false, [.d (.int .i64 x.1)]), (false, [.d (.int .i64 x.2)])]

theorem spec_Reach_spec (m : Mdl) (hn : m.names.length ≤ 1048576) (hns : ∀ s ∈ m.names, s.size ≤ 9223372036854775807) (hs : m.signs.length ≤ 1048576) (hm : m.trees.length ≤ 1048576) (ht : ∀ t ∈ m.trees, t.length ≤ 1048576) : FnSpec PR f_spec_Reach [aM m] (tup2 (reachM m)) [] 0 := by
  have eT : nInt (dLen (eL cT m.trees)) = (m.trees.length : Int) := by simp
  refine FnSpec.intro hT p_spec_Reach rfl (by kernel_rfl) n_spec_Reach rfl ?_
  conv => whnf
  refine .inl ⟨_, _, _, spec_ModelOk_spec m hn hns hs hm ht, rfl, ?_⟩
  cases hmo : modelOk m <;> (conv => whnf)
  · simp [reachM, hmo]
  have htr := modelOk_trees hmo
  have hre : reachM m = reachL m.trees m.base m.base := by simp [reachM, hmo]
  rw [hre]
  refine tri_loop hT [1, 4, 5, 6] (α := Nat × Int × Int) (fun x => { t := [(1, .c (.ptr 0 0)), (4, ai x.2.1), (5, ai x.2.2), (6, ai x.1)], h := [(0, .box t_impl_Model (cM m))], n := 1, N := 43 })
    (fun x => x.1 ≤ m.trees.length ∧ reachL (m.trees.drop x.1) x.2.1 x.2.2 = reachL m.trees m.base m.base) (fun x => m.trees.length - x.1) (0, m.base, m.base) (by ((conv => whnf); simp only [St.mk.injEq, List.cons.injEq, Prod.mk.injEq, AV.c.injEq, AV.agg.injEq, AV.tup.injEq, CV.d.injEq, D.int.injEq, D.bool.injEq, D.str.injEq, D.sl.injEq, Ent.arr.injEq, Ent.box.injEq, true_and, and_true, and_self, nInt_eq, Int.natCast_zero, dLen_eL, sLen_eq])) ⟨Nat.zero_le _, rfl⟩ ?_
  intro ⟨k, lo, hi⟩ ⟨hk, hr⟩
  dsimp only at hk hr
  (conv => whnf)
  refine ifB_i (fun h1 => ?_) (fun h1 => ?_) <;> (conv => whnf) <;> simp at h1
  · obtain ⟨t, hx⟩ := get_lt h1
    have hlt := ht t (List.mem_of_getElem? hx)
    have hpos := valuesL_pos (htr t (List.mem_of_getElem? hx))
    rw [drop_at hx, reachL] at hr
    refine idx_at (by simp) hx ?_
    (conv => whnf)
    refine .inl ⟨_, _, _, spec_ValuesIn_spec t hlt, rfl, ?_⟩
    have hvl : (valuesL t).length ≤ 1048576 := by have := distinctL_len (valsL t); have := valsL_len t; unfold valuesL; omega
    obtain ⟨a, ha⟩ := get_lt hpos
    obtain ⟨b, hb⟩ := get_lt (show (valuesL t).length - 1 < (valuesL t).length by omega)
    have hla : lowV t = a := by simp [lowV, ha]
    have hhb : highV t = b := by simp [highV, hb]
    rw [hla, hhb] at hr
    generalize valuesL t = V at *
    obtain ⟨m', hm'⟩ : ∃ m', V.length = m' + 1 := ⟨V.length - 1, by omega⟩
    rw [hm'] at hb
    have e1 : wSub .i64 (nInt (lenRE (eL cI V) none)) 1 = (m' : Int) := by rw [wSub64] <;> simp <;> omega
    have e0 : nAdd (offR none) (nOf 0) = 0 := by simp
    have e2 : nAdd (offR none) (nOf (wSub .i64 (nInt (lenRE (eL cI V) none)) 1)) = m' := by rw [e1]; simp
    (conv => whnf)
    refine ref_at (k := 0) (by simp) (by simp; omega) ?_
    (conv => whnf)
    refine ld_at (by simp) ha ?_
    (conv => whnf)
    refine ref_at (k := m') e1 (by simp; omega) ?_
    (conv => whnf)
    refine ld_at (by rw [e1]; simp) hb ?_
    (conv => whnf)
    refine ⟨(k + 1, wAdd .i64 lo a, wAdd .i64 hi b), by dsimp only; omega, ⟨h1, hr⟩, ?_⟩
    ((conv => whnf); simp only [St.mk.injEq, List.cons.injEq, Prod.mk.injEq, AV.c.injEq, AV.agg.injEq, AV.tup.injEq, CV.d.injEq, D.int.injEq, D.bool.injEq, D.str.injEq, D.sl.injEq, Ent.arr.injEq, Ent.box.injEq, true_and, and_true, and_self, nInt_eq, Int.natCast_zero, dLen_eL, sLen_eq, wI h1 (by omega)])
  · obtain rfl : k = m.trees.length := by omega
    simp only [List.drop_length, reachL] at hr
    rw [← hr]

set_option maxHeartbeats 4000000 in
theorem impl_Reach_spec (m : Mdl) (hn : m.names.length ≤ 1048576) (hns : ∀ s ∈ m.names, s.size ≤ 9223372036854775807) (hs : m.signs.length ≤ 1048576) (hm : m.trees.length ≤ 1048576) (ht : ∀ t ∈ m.trees, t.length ≤ 1048576) : FnSpec PR f_impl_Reach [aM m] (tup2 (reachM m)) [] 0 := by
  have eT : nInt (dLen (eL cT m.trees)) = (m.trees.length : Int) := by simp
  refine FnSpec.intro hT p_impl_Reach rfl (by kernel_rfl) n_impl_Reach rfl ?_
  conv => whnf
  refine .inl ⟨_, _, _, impl_ModelOk_spec m hn hns hs hm ht, rfl, ?_⟩
  cases hmo : modelOk m <;> (conv => whnf)
  · simp [reachM, hmo]
  have htr := modelOk_trees hmo
  have hre : reachM m = reachL m.trees m.base m.base := by simp [reachM, hmo]
  rw [hre]
  refine tri_every hT hmix [1, 4, 5] { t := [(1, .c (.ptr 0 0)), (4, ai m.base), (5, ai m.base)], h := [(0, .box t_impl_Model (cM m))], n := 1, N := 41 } rfl ?_ ?_
  · repeat' first
      | (refine anyV_one rfl ?_; (conv => whnf))
      | (refine anyV_two rfl ?_ ?_ <;> (conv => whnf))
      | (refine anyV_end rfl ?_; (conv => whnf))
  (conv => whnf)
  refine tri_loop hT [4, 5, 17, 18, 19] (α := Nat × Int × Int) (fun x => { t := [(4, ai x.2.1), (5, ai x.2.2), (17, aTs m.trees), (18, ai m.trees.length), (19, ai x.1)], h := [], n := 0, N := 41 })
    (fun x => x.1 ≤ m.trees.length ∧ reachL (m.trees.drop x.1) x.2.1 x.2.2 = reachL m.trees m.base m.base) (fun x => m.trees.length - x.1) (0, m.base, m.base) (by ((conv => whnf); simp only [St.mk.injEq, List.cons.injEq, Prod.mk.injEq, AV.c.injEq, AV.agg.injEq, AV.tup.injEq, CV.d.injEq, D.int.injEq, D.bool.injEq, D.str.injEq, D.sl.injEq, Ent.arr.injEq, Ent.box.injEq, true_and, and_true, and_self, nInt_eq, Int.natCast_zero, dLen_eL, sLen_eq])) ⟨Nat.zero_le _, rfl⟩ ?_
  intro ⟨k, lo, hi⟩ ⟨hk, hr⟩
  dsimp only at hk hr
  (conv => whnf)
  refine ifB_i (fun h1 => ?_) (fun h1 => ?_) <;> (conv => whnf) <;> simp at h1
  · obtain ⟨t, hx⟩ := get_lt h1
    have hlt := ht t (List.mem_of_getElem? hx)
    have hpos := valuesL_pos (htr t (List.mem_of_getElem? hx))
    rw [drop_at hx, reachL] at hr
    refine idx_at (by simp) hx ?_
    (conv => whnf)
    refine .inl ⟨_, _, _, impl_ValuesIn_spec t hlt, rfl, ?_⟩
    have hvl : (valuesL t).length ≤ 1048576 := by have := distinctL_len (valsL t); have := valsL_len t; unfold valuesL; omega
    obtain ⟨a, ha⟩ := get_lt hpos
    obtain ⟨b, hb⟩ := get_lt (show (valuesL t).length - 1 < (valuesL t).length by omega)
    have hla : lowV t = a := by simp [lowV, ha]
    have hhb : highV t = b := by simp [highV, hb]
    rw [hla, hhb] at hr
    generalize valuesL t = V at *
    obtain ⟨m', hm'⟩ : ∃ m', V.length = m' + 1 := ⟨V.length - 1, by omega⟩
    rw [hm'] at hb
    have e1 : wSub .i64 (nInt (lenRE (eL cI V) none)) 1 = (m' : Int) := by rw [wSub64] <;> simp <;> omega
    have e0 : nAdd (offR none) (nOf 0) = 0 := by simp
    have e2 : nAdd (offR none) (nOf (wSub .i64 (nInt (lenRE (eL cI V) none)) 1)) = m' := by rw [e1]; simp
    (conv => whnf)
    refine tri_every hT hmix [4, 5, 17, 18, 19] { t := [(4, ai (wAdd .i64 lo a)), (5, ai (wAdd .i64 hi b)), (17, aTs m.trees), (18, ai m.trees.length), (19, ai k)], h := [], n := 0, N := 41 } rfl ?_ ?_
    · repeat' first
        | (refine anyV_one rfl ?_; (conv => whnf))
        | (refine anyV_two rfl ?_ ?_ <;> (conv => whnf))
        | (refine anyV_three rfl ?_ ?_ ?_ <;> (conv => whnf))
        | (refine anyV_end rfl ?_; (conv => whnf))
        | (refine ref_at (k := 0) rfl (by simp; omega) ?_; (conv => whnf))
        | (refine ref_at (k := m') e1 (by simp; omega) ?_; (conv => whnf))
        | (refine ld_at e0 ha ?_; (conv => whnf))
        | (refine ld_at e2 hb ?_; (conv => whnf))
    (conv => whnf)
    refine ⟨(k + 1, wAdd .i64 lo a, wAdd .i64 hi b), by dsimp only; omega, ⟨h1, hr⟩, ?_⟩
    ((conv => whnf); simp only [St.mk.injEq, List.cons.injEq, Prod.mk.injEq, AV.c.injEq, AV.agg.injEq, AV.tup.injEq, CV.d.injEq, D.int.injEq, D.bool.injEq, D.str.injEq, D.sl.injEq, Ent.arr.injEq, Ent.box.injEq, true_and, and_true, and_self, nInt_eq, Int.natCast_zero, dLen_eL, sLen_eq, wI h1 (by omega)])
  · obtain rfl : k = m.trees.length := by omega
    simp only [List.drop_length, reachL] at hr
    rw [← hr]

set_option maxHeartbeats 1000000 in
theorem law_FnExactReach (m : Mdl) (hm : okModel m ∧ rgModel m) : FnSpec PR f_laws_FnExactReach [aM m] (ab true) [] 0 := by
  refine FnSpec.intro hT p_laws_FnExactReach rfl (by kernel_rfl) n_laws_FnExactReach rfl ?_
  conv => whnf
  refine .inl ⟨_, _, _, szModel_spec m 1048576 (by omega) (by omega) hm.1, rfl, ?_⟩
  (conv => whnf)
  refine ifB_i (fun h => ?_) (fun h => ?_) <;> (conv => whnf) <;> simp only [nInt_eq, Int.natCast_zero, dLen_eL, sLen_eq, nOf_eq, Int.toNat_natCast, nAdd_eq, nSub_eq, dLen_nil, dLen_cons, iLt_t, iLt_f, iLe_t, iLe_f, iEq_t, iEq_f, sEq_t, sEq_f, bNot_t, bNot_f, bAnd_t, bEq_t, bEq_f, Bool.not_eq_true, Bool.not_eq_false, Bool.true_eq_false, Bool.false_eq_true] at h
  have hcost := bud_ok h
  obtain ⟨hsm, hl, hc⟩ := model_small hcost
  have hs : m.signs.length ≤ 1048576 := by unfold costModel at hcost; omega
  have hn : m.names.length ≤ 1048576 := by have := cost_len ByteArray.size m.names; unfold costModel at hcost; omega
  have ht : ∀ t ∈ m.trees, t.length ≤ 1048576 := fun t htm => by have := costL_mem List.length htm; omega
  have hns : ∀ s ∈ m.names, s.size ≤ 9223372036854775807 := fun s hsm => by
    have h1 := costL_mem ByteArray.size hsm
    have h2 := cost_costL ByteArray.size m.names
    unfold costModel at hcost
    omega
  refine .inl ⟨_, _, _, toModel_spec m hsm, rfl, ?_⟩
  (conv => whnf)
  refine .inl ⟨_, _, _, spec_Reach_spec m hn hns hs hl ht, rfl, ?_⟩
  (conv => whnf)
  refine .inl ⟨_, _, _, toModel_spec m hsm, rfl, ?_⟩
  (conv => whnf)
  refine .inl ⟨_, _, _, impl_Reach_spec m hn hns hs hl ht, rfl, ?_⟩
  generalize reachM m = p
  obtain ⟨a, b⟩ := p
  have ee : ∀ x : Int, iEq x x = true := fun x => decide_eq_true rfl
  (conv => whnf)
  rw [ee]
  (conv => whnf)
  rw [ee]
  (conv => whnf)
  refine tri_every hT hmix [39] { t := [(39, ab (bNot true))], h := [], n := 0, N := 40 } rfl ?_ ?_
  · repeat' first
      | (refine anyV_one rfl ?_; (conv => whnf))
      | (refine anyV_two rfl ?_ ?_ <;> (conv => whnf))
      | (refine anyV_end rfl ?_; (conv => whnf); first | done | (simp only [partOf_none]; done) | (simp only [partOf_none]; rfl))
      | (refine .inl ⟨_, _, _, toModel_spec m hsm, rfl, ?_⟩; (conv => whnf))
      | (refine .inl ⟨_, _, _, eqModel_spec m hm.1, rfl, ?_⟩; (conv => whnf))
      | (refine .inr (.inl ⟨_, _, _, eqModel_spec m hm.1, rfl, trivial, ?_⟩); (conv => whnf))
  (conv => whnf)
end Go.H.S
