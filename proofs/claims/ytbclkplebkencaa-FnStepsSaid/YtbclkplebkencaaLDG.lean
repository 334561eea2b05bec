/- Library, part DE: where a row ends. -/
import Derived.Test.YtbclkplebkencaaLDD
import Derived.Test.YtbclkplebkencaaLU
import Derived.Test.YtbclkplebkencaaLY
namespace Go.H.S
open Go Go.Proofs Go.H
attribute [local irreducible] Tri FnSpec FnSpecM FnSpecX FnSpecJ FnSpecB
set_option maxRecDepth 100000
set_option linter.unusedSimpArgs false
set_option linter.unusedVariables false


def rowAt (row : List Int) (f : Int) : Int := (row[f.toNat]?).getD 0
def goL (row : List Int) (n : Nd) : Bool := iLe (rowAt row n.f) n.c
def routeL (t : List Nd) (row : List Int) : Nat → Int → Option (List Int)
  | 0, _ => none
  | m + 1, x => if 0 ≤ x then match t[x.toNat]? with
      | none => none
      | some n => if n.f = -1 then some [x] else if 0 ≤ n.f ∧ n.f ≤ (row.length : Int) - 1 then (routeL t row m (if goL row n = true then n.l else n.r)).map (x :: ·) else none
    else none

def resR : Option (List Int) → AV
  | none => .c (.nl 0)
  | some _ => .c (.ref 0 0 none)
def entsR : Option (List Int) → List (Nat × Ent)
  | none => []
  | some l => [(0, .arr t_int 1 0 true (eL cI l))]
def numR : Option (List Int) → Nat
  | none => 0
  | some _ => 1
set_option maxHeartbeats 1000000 in
theorem impl_route_spec (t : List Nd) (row : List Int) (hl : t.length ≤ 1048576) (hr : row.length ≤ 1048576) : FnSpecX PR f_impl_route [aT t, aIs row] (Option (List Int)) (fun x => x = routeL t row (t.length + 1) 0) resR entsR numR := by
  refine FnSpecX.intro hT p_impl_route rfl (by kernel_rfl) n_impl_route rfl ?_
  (conv => whnf)
  refine tri_loop hT [1, 2, 5, 6, 12, 13] (α := Nat × Int × List Int) (fun x => { t := [(1, aIs row), (2, .c (.ptr 0 0)), (5, .c (.ref 1 0 none)), (6, ai x.2.1), (12, ai (t.length + 1 : Nat)), (13, ai x.1)], h := [(0, .box t_impl_Tree (cTr t)), (1, .arr t_int 1 0 true (eL cI x.2.2))], n := 2, N := 57 })
    (fun x => x.1 ≤ t.length + 1 ∧ x.2.2.length ≤ x.1 ∧ (routeL t row (t.length + 1 - x.1) x.2.1).map (x.2.2 ++ ·) = routeL t row (t.length + 1) 0) (fun x => t.length + 1 - x.1) (0, 0, []) (by ((conv => whnf); simp only [St.mk.injEq, List.cons.injEq, Prod.mk.injEq, AV.c.injEq, AV.agg.injEq, AV.tup.injEq, CV.d.injEq, D.int.injEq, D.bool.injEq, D.str.injEq, D.sl.injEq, Ent.arr.injEq, Ent.box.injEq, true_and, and_true, and_self, nInt_eq, Int.natCast_zero, dLen_eL, sLen_eq, eL_nil]); exact wAdd64 (by omega) (by omega)) ⟨by simp, by simp, by simp⟩ ?_
  intro ⟨k, x, o⟩ ⟨hk, ho, he⟩
  dsimp only at hk ho he
  (conv => whnf)
  refine ifB_i (fun h1 => ?_) (fun h1 => ?_) <;> (conv => whnf) <;> simp only [nInt_eq, Int.natCast_zero, dLen_eL, sLen_eq, nOf_eq, Int.toNat_natCast, nAdd_eq, nSub_eq, dLen_nil, dLen_cons, iLt_t, iLt_f, iLe_t, iLe_f, iEq_t, iEq_f, sEq_t, sEq_f, bNot_t, bNot_f, bAnd_t, bEq_t, bEq_f, Bool.not_eq_true, Bool.not_eq_false, Bool.true_eq_false, Bool.false_eq_true] at h1
  · obtain ⟨m, hm⟩ : ∃ m, t.length + 1 - k = m + 1 := ⟨t.length - k, by omega⟩
    rw [hm, routeL] at he
    rw [show nInt (dLen (eL cN t)) = (t.length : Int) by simp]
    rw [show wSub .i64 (t.length : Int) 1 = (t.length : Int) - 1 from wSub64 (by omega) (by omega)]
    refine .inl ⟨_, _, _, impl_within_spec _ _ _, rfl, ?_⟩
    (conv => whnf)
    refine ifB_i (fun h2 => ?_) (fun h2 => ?_) <;> (conv => whnf)
    · simp at h2
      refine ⟨none, ?_, ?_⟩
      · rw [← he]
        split
        · rename_i h3
          have : t[x.toNat]? = none := List.getElem?_eq_none (by have := h2 h3; omega)
          simp [this]
        · rfl
      · (conv => whnf)
        rfl
    · simp at h2
      obtain ⟨j, rfl⟩ : ∃ j : Nat, x = j := ⟨x.toNat, by omega⟩
      obtain ⟨n, hn⟩ := get_lt (show j < t.length by omega)
      rw [if_pos h2.1, show (j : Int).toNat = j by simp, hn] at he
      dsimp only at he
      refine idx_at (by simp) hn ?_
      (conv => whnf)
      refine And.intro (by unfold Fits; simp; omega) ?_
      (conv => whnf)
      refine .inl ⟨_, _, _, impl_isLeaf_spec n, rfl, ?_⟩
      (conv => whnf)
      refine ifB_i (fun h3 => ?_) (fun h3 => ?_) <;> (conv => whnf) <;> simp only [nInt_eq, Int.natCast_zero, dLen_eL, sLen_eq, nOf_eq, Int.toNat_natCast, nAdd_eq, nSub_eq, dLen_nil, dLen_cons, iLt_t, iLt_f, iLe_t, iLe_f, iEq_t, iEq_f, sEq_t, sEq_f, bNot_t, bNot_f, bAnd_t, bEq_t, bEq_f, Bool.not_eq_true, Bool.not_eq_false, Bool.true_eq_false, Bool.false_eq_true] at h3
      · rw [if_pos h3] at he
        refine ⟨some (o ++ [(j : Int)]), he, ?_⟩
        ((conv => whnf); simp only [St.mk.injEq, List.cons.injEq, Prod.mk.injEq, AV.c.injEq, AV.agg.injEq, AV.tup.injEq, CV.d.injEq, D.int.injEq, D.bool.injEq, D.str.injEq, D.sl.injEq, Ent.arr.injEq, Ent.box.injEq, true_and, and_true, and_self, nInt_eq, Int.natCast_zero, dLen_eL, sLen_eq])
        refine ⟨rfl, ?_, rfl⟩
        rw [entsR, ← eL_app]
        rfl
      · rw [if_neg h3] at he
        refine .inl ⟨_, _, _, impl_within_spec _ _ _, rfl, ?_⟩
        (conv => whnf)
        have er : wSub .i64 (nInt (dLen (eL cI row))) 1 = (row.length : Int) - 1 := by rw [show nInt (dLen (eL cI row)) = (row.length : Int) by simp]; exact wSub64 (by omega) (by omega)
        refine ifB_i (fun h4 => ?_) (fun h4 => ?_) <;> (conv => whnf)
        · rw [er] at h4
          simp at h4
          refine ⟨none, ?_, ?_⟩
          · rw [if_neg (by omega)] at he
            exact he
          · (conv => whnf)
            rfl
        · rw [er] at h4
          simp at h4
          rw [if_pos (by omega)] at he
          obtain ⟨q, hq⟩ : ∃ q : Nat, n.f = q := ⟨n.f.toNat, by omega⟩
          obtain ⟨v, hv⟩ := get_lt (show q < row.length by omega)
          have hg : goL row n = iLe v n.c := by simp [goL, rowAt, hq, hv]
          refine tri_conf hT hmix (by kernel_rfl) ?_
          (conv => whnf)
          repeat' (first | (refine And.intro (fun q => ?_) (fun q => ?_) <;> cases q <;> (conv => whnf)) | fail)
          rw [hq]
          refine idx_at (by simp) hv ?_
          (conv => whnf)
          repeat' (first | (refine And.intro (fun q => ?_) (fun q => ?_) <;> cases q <;> (conv => whnf)) | fail)
          have hm2 : t.length + 1 - (k + 1) = m := by omega
          rw [hg] at he
          refine ifB_i (fun h5 => ?_) (fun h5 => ?_) <;> (conv => whnf)
          · refine ⟨(k + 1, n.l, o ++ [(j : Int)]), by dsimp only; omega, ⟨by dsimp only; omega, by simp; omega, ?_⟩, ?_⟩
            · dsimp only
              rw [hm2, ← he, if_pos h5]
              cases routeL t row m n.l <;> simp
            · ((conv => whnf); simp only [St.mk.injEq, List.cons.injEq, Prod.mk.injEq, AV.c.injEq, AV.agg.injEq, AV.tup.injEq, CV.d.injEq, D.int.injEq, D.bool.injEq, D.str.injEq, D.sl.injEq, Ent.arr.injEq, Ent.box.injEq, true_and, and_true, and_self, nInt_eq, Int.natCast_zero, dLen_eL, sLen_eq])
              refine ⟨wI (show k < t.length + 1 by omega) (by omega), ?_⟩
              rw [← eL_app]
              rfl
          · refine ⟨(k + 1, n.r, o ++ [(j : Int)]), by dsimp only; omega, ⟨by dsimp only; omega, by simp; omega, ?_⟩, ?_⟩
            · dsimp only
              rw [hm2, ← he, if_neg (by simp [h5])]
              cases routeL t row m n.r <;> simp
            · ((conv => whnf); simp only [St.mk.injEq, List.cons.injEq, Prod.mk.injEq, AV.c.injEq, AV.agg.injEq, AV.tup.injEq, CV.d.injEq, D.int.injEq, D.bool.injEq, D.str.injEq, D.sl.injEq, Ent.arr.injEq, Ent.box.injEq, true_and, and_true, and_self, nInt_eq, Int.natCast_zero, dLen_eL, sLen_eq])
              refine ⟨wI (show k < t.length + 1 by omega) (by omega), ?_⟩
              rw [← eL_app]
              rfl
  · have : t.length + 1 - k = 0 := by omega
    rw [this] at he
    refine ⟨none, he, ?_⟩
    (conv => whnf)
    rfl

def endL (t : List Nd) (row : List Int) : Int := match routeL t row (t.length + 1) 0 with
  | some l => l.getLast?.getD (-1)
  | none => -1
def evalL (t : List Nd) (row : List Int) : Int := if endL t row < 0 then 0 else match t[(endL t row).toNat]? with | some n => n.v | none => 0
theorem routeL_ends {t : List Nd} {row : List Int} : ∀ {m : Nat} {x : Int} {l : List Int}, routeL t row m x = some l → ∃ (k : Nat) (n : Nd), l.getLast? = some (k : Int) ∧ t[k]? = some n ∧ n.f = -1 ∧ Ends t (goL row) x k ∧ 0 < l.length ∧ l.length ≤ m
  | 0, x, l, h => by simp [routeL] at h
  | m + 1, x, l, h => by
    simp only [routeL] at h
    split at h
    · rename_i h0
      split at h
      · cases h
      · rename_i n hn
        obtain ⟨j, rfl⟩ : ∃ j : Nat, x = j := ⟨x.toNat, by omega⟩
        rw [show (j : Int).toNat = j by simp] at hn
        split at h
        · rename_i hf
          cases h
          exact ⟨j, n, by simp, hn, hf, .leaf hn hf, by simp, by simp⟩
        · rename_i hf
          split at h
          · simp only [Option.map_eq_some_iff] at h
            obtain ⟨r, hr, rfl⟩ := h
            obtain ⟨k, n', h1, h2, h3, h4, h5, h6⟩ := routeL_ends hr
            refine ⟨k, n', ?_, h2, h3, ?_, by simp, by simp; omega⟩
            · cases r with
              | nil => simp at h5
              | cons a b => simpa [List.getLast?_cons_cons] using h1
            · cases hg : goL row n with
              | true => rw [hg] at h4; exact .left hn hf hg h4
              | false => rw [hg] at h4; exact .right hn hf hg h4
          · cases h
    · cases h

theorem impl_RouteTo_spec (t : List Nd) (row : List Int) (hl : t.length ≤ 1048576) (hr : row.length ≤ 1048576) : FnSpec PR f_impl_RouteTo [aT t, aIs row] (ai (endL t row)) [] 0 := by
  refine FnSpec.intro hT p_impl_RouteTo rfl (by kernel_rfl) n_impl_RouteTo rfl ?_
  conv => whnf
  refine .inr ⟨_, _, _, _, _, impl_route_spec t row hl hr, fun x hx => ⟨by cases x <;> rfl, ?_⟩⟩
  cases x with
  | none =>
    (conv => whnf)
    rw [endL, ← hx]
  | some l =>
    (conv => whnf)
    obtain ⟨k, n, h1, h2, h3, h4, h5, h6⟩ := routeL_ends hx.symm
    have he : endL t row = (k : Int) := by rw [endL, ← hx]; simp [h1]
    rw [he]
    rw [show nInt (lenRE (eL cI l) none) = (l.length : Int) by simp [lenRE]]
    refine ifB_i (fun h7 => ?_) (fun h7 => ?_) <;> (conv => whnf) <;> simp only [nInt_eq, Int.natCast_zero, dLen_eL, sLen_eq, nOf_eq, Int.toNat_natCast, nAdd_eq, nSub_eq, dLen_nil, dLen_cons, iLt_t, iLt_f, iLe_t, iLe_f, iEq_t, iEq_f, sEq_t, sEq_f, bNot_t, bNot_f, bAnd_t, bEq_t, bEq_f, Bool.not_eq_true, Bool.not_eq_false, Bool.true_eq_false, Bool.false_eq_true] at h7
    · omega
    · rw [show nInt (lenRE (eL cI l) none) = (l.length : Int) by simp [lenRE]]
      rw [show wSub .i64 (l.length : Int) 1 = ((l.length - 1 : Nat) : Int) by rw [wSub64] <;> omega]
      refine ref_at rfl (by simp; omega) ?_
      (conv => whnf)
      refine ld_at (k := l.length - 1) (by simp) (by rw [← List.getLast?_eq_getElem?]; exact h1) ?_
      (conv => whnf)

theorem impl_EvalTree_spec (t : List Nd) (row : List Int) (hl : t.length ≤ 1048576) (hr : row.length ≤ 1048576) : FnSpec PR f_impl_EvalTree [aT t, aIs row] (ai (evalL t row)) [] 0 := by
  refine FnSpec.intro hT p_impl_EvalTree rfl (by kernel_rfl) n_impl_EvalTree rfl ?_
  conv => whnf
  refine .inl ⟨_, _, _, impl_RouteTo_spec t row hl hr, rfl, ?_⟩
  (conv => whnf)
  refine ifB_i (fun h1 => ?_) (fun h1 => ?_) <;> (conv => whnf) <;> simp only [nInt_eq, Int.natCast_zero, dLen_eL, sLen_eq, nOf_eq, Int.toNat_natCast, nAdd_eq, nSub_eq, dLen_nil, dLen_cons, iLt_t, iLt_f, iLe_t, iLe_f, iEq_t, iEq_f, sEq_t, sEq_f, bNot_t, bNot_f, bAnd_t, bEq_t, bEq_f, Bool.not_eq_true, Bool.not_eq_false, Bool.true_eq_false, Bool.false_eq_true] at h1
  · rw [evalL, if_pos h1]
  · have hz : ∃ (k : Nat) (n : Nd), endL t row = k ∧ t[k]? = some n := by
      unfold endL at h1 ⊢
      cases hx : routeL t row (t.length + 1) 0 with
      | none => rw [hx] at h1; simp at h1
      | some l =>
        obtain ⟨k, n, h2, h3, _⟩ := routeL_ends hx
        exact ⟨k, n, by simp [h2], h3⟩
    obtain ⟨k, n, hk, hn⟩ := hz
    rw [hk]
    refine idx_at (by simp) hn ?_
    (conv => whnf)
    rw [evalL, hk, if_neg (by omega), show (k : Int).toNat = k by simp, hn]
end Go.H.S
namespace Go.H.S
open Go Go.Proofs Go.H
set_option maxRecDepth 100000
set_option linter.unusedSimpArgs false
set_option linter.unusedVariables false


theorem compactUpTo_sub (xs : List Int) : ∀ i, i ≤ xs.length → (Go.Lib.compactUpTo xs.toArray i).Sublist (xs.take i)
  | 0, _ => by simp [Go.Lib.compactUpTo]
  | i + 1, h => by
    obtain ⟨x, hx⟩ := get_lt (show i < xs.length by omega)
    rw [compactUpTo_succ xs i x hx, List.take_add_one, hx]
    refine (compactUpTo_sub xs i (by omega)).append ?_
    split <;> simp
theorem compact_sub (xs : List Int) : (Go.Lib.compact xs).Sublist xs := by
  have := compactUpTo_sub xs xs.length (Nat.le_refl _)
  rwa [List.take_length] at this
theorem compactUpTo_mem (xs : List Int) : ∀ i, i ≤ xs.length → ∀ x, x ∈ xs.take i → x ∈ Go.Lib.compactUpTo xs.toArray i
  | 0, _, x, hx => by simp at hx
  | i + 1, h, x, hx => by
    obtain ⟨y, hy⟩ := get_lt (show i < xs.length by omega)
    rw [compactUpTo_succ xs i y hy]
    rw [List.take_add_one, hy] at hx
    rcases List.mem_append.1 hx with hx | hx
    · exact List.mem_append_left _ (compactUpTo_mem xs i (by omega) x hx)
    · simp at hx
      subst hx
      cases hk : Go.Lib.keeps xs.toArray i with
      | true => simp
      | false =>
        have hi : i ≠ 0 ∧ xs.toArray[i]! = xs.toArray[i - 1]! := by
          simp [Go.Lib.keeps] at hk
          refine ⟨hk.1, ?_⟩
          simpa using hk.2
        obtain ⟨z, hz⟩ := get_lt (show i - 1 < xs.length by omega)
        have e1 : xs.toArray[i]! = x := by
          rw [getElem!_pos _ i (by simp; omega)]
          simpa using (List.getElem?_eq_some_iff.1 hy).2
        have e2 : xs.toArray[i - 1]! = z := by
          rw [getElem!_pos _ (i - 1) (by simp; omega)]
          simpa using (List.getElem?_eq_some_iff.1 hz).2
        have : z = x := by rw [← e1, ← e2, hi.2]
        subst this
        refine List.mem_append_left _ (compactUpTo_mem xs i (by omega) z ?_)
        exact List.mem_of_getElem? (i := i - 1) (by rw [List.getElem?_take_of_lt (by omega)]; exact hz)
theorem mem_distinctL {xs : List Int} {x : Int} (h : x ∈ xs) : x ∈ distinctL xs := by
  have h1 : x ∈ sortL xs := by simpa [sortL] using h
  have := compactUpTo_mem (sortL xs) (sortL xs).length (Nat.le_refl _) x (by rw [List.take_length]; exact h1)
  exact this
theorem distinctL_sorted (xs : List Int) : (distinctL xs).Pairwise (· ≤ ·) := List.Pairwise.sublist (compact_sub _) (sortL_sorted xs)
theorem mem_cutsL {f : Int} : ∀ {t : List Nd} {n : Nd}, n ∈ t → n.f ≠ -1 → n.f = f → n.c ∈ cutsL f t
  | [], n, h, _, _ => by cases h
  | x :: r, n, h, hf, he => by
    simp only [cutsL]
    rcases List.mem_cons.1 h with rfl | h
    · rw [if_pos (by simp [isF, he]; omega)]
      simp
    · have := mem_cutsL h hf he
      split
      · exact List.mem_cons_of_mem _ this
      · exact this

def binL (l : List Int) (x : Int) : Nat := l.countP fun c => iLt c x
theorem binL_lt : ∀ {l : List Int}, l.Pairwise (· ≤ ·) → ∀ {x : Int} {m : Nat} {v : Int}, l[m]? = some v → (v < x ↔ m < binL l x)
  | [], _, x, m, v, h => by simp at h
  | a :: r, hp, x, m, v, h => by
    rw [List.pairwise_cons] at hp
    have hz : ¬ a < x → binL r x = 0 := fun ha => by
      rw [binL, List.countP_eq_zero]
      intro b hb hlt
      have := hp.1 b hb
      simp [iLt] at hlt
      omega
    have e : binL (a :: r) x = binL r x + (if iLt a x = true then 1 else 0) := by simp [binL, List.countP_cons]
    by_cases ha : a < x
    · rw [e, if_pos (by simp [iLt, ha])]
      cases m with
      | zero =>
        simp at h
        subst h
        omega
      | succ m =>
        have := binL_lt hp.2 (x := x) (show r[m]? = some v by simpa using h)
        omega
    · rw [e, hz ha, if_neg (by simp [iLt, ha])]
      cases m with
      | zero =>
        simp at h
        subst h
        omega
      | succ m =>
        have := binL_lt hp.2 (x := x) (show r[m]? = some v by simpa using h)
        rw [hz ha] at this
        omega

theorem routeL_same {t : List Nd} {row row' : List Int} (hlen : row.length = row'.length) (hg : ∀ n ∈ t, n.f ≠ -1 → 0 ≤ n.f → n.f < row.length → goL row n = goL row' n) : ∀ (m : Nat) (x : Int), routeL t row m x = routeL t row' m x
  | 0, x => rfl
  | m + 1, x => by
    simp only [routeL]
    split
    · split
      · rfl
      · rename_i n hn
        split
        · rfl
        · rename_i hf
          rw [← hlen]
          split
          · rename_i hr
            rw [hg n (List.mem_of_getElem? hn) hf hr.1 (by omega), routeL_same hlen hg m]
          · rfl
    · rfl
/-- Rows that part at no cut. -/
theorem steps_law {t : List Nd} {row : List Int} {f : Nat} {x y : Int} (hf : f < row.length) (hx : row[f]? = some x) (hx2 : x ≤ 9223372036854775807)
    (hy : (∃ z, (stepsAtL t f)[binL (stepsAtL t f) x]? = some z ∧ y = z) ∨ ((stepsAtL t f).length ≤ binL (stepsAtL t f) x ∧ y = 9223372036854775807)) : evalL t (row.set f y) = evalL t row := by
  have hr : ∀ m x, routeL t (row.set f y) m x = routeL t row m x := by
    refine routeL_same (by simp) fun n hn hf1 h0 hlt => ?_
    unfold goL rowAt
    by_cases he : n.f = f
    · rw [he]
      simp only [Int.toNat_natCast, List.getElem?_set_self hf, hx, Option.getD_some]
      have hm : n.c ∈ stepsAtL t f := mem_distinctL (mem_cutsL hn hf1 he)
      obtain ⟨m, hm⟩ := List.mem_iff_getElem?.1 hm
      have hb := binL_lt (distinctL_sorted (cutsL f t)) (x := x) hm
      have hml := (List.getElem?_eq_some_iff.1 hm).1
      rw [show distinctL (cutsL f t) = stepsAtL t f from rfl] at hb
      have key : y ≤ n.c ↔ x ≤ n.c := by
        rcases hy with ⟨z, hz, rfl⟩ | ⟨hz, rfl⟩
        · have hb2 := binL_lt (l := stepsAtL t f) (distinctL_sorted (cutsL f t)) (x := x) hz
          have hp : (stepsAtL t f).Pairwise (· ≤ ·) := distinctL_sorted (cutsL f t)
          have hzl := (List.getElem?_eq_some_iff.1 hz).1
          have hle : ∀ {a b : Nat} {u v : Int}, (stepsAtL t f)[a]? = some u → (stepsAtL t f)[b]? = some v → a ≤ b → u ≤ v := fun {a b u v} ha hb hab => by
            rcases Nat.lt_or_ge a b with q | q
            · have h1 := List.pairwise_iff_getElem.1 hp a b (List.getElem?_eq_some_iff.1 ha).1 (List.getElem?_eq_some_iff.1 hb).1 q
              rw [(List.getElem?_eq_some_iff.1 ha).2, (List.getElem?_eq_some_iff.1 hb).2] at h1
              exact h1
            · obtain rfl : a = b := by omega
              rw [ha] at hb
              cases hb
              exact Int.le_refl _
          constructor
          · intro h1
            by_cases h2 : x ≤ n.c
            · exact h2
            · have h3 := hb.1 (by omega)
              have h4 := hle hm hz (by omega)
              have h5 := fun q => Nat.lt_irrefl _ (hb2.1 q)
              omega
          · intro h1
            have h3 : ¬ m < binL (stepsAtL t f) x := fun q => by have := hb.2 q; omega
            exact hle hz hm (by omega)
        · constructor
          · intro h1; omega
          · intro h1
            have := hb.2 (by omega)
            omega
      simp only [iLe]
      exact decide_eq_decide.2 key
    · rw [List.getElem?_set_ne (by omega)]
  unfold evalL endL
  rw [hr]
end Go.H.S
namespace Go.H.S
open Go Go.Proofs Go.H
attribute [local irreducible] Tri FnSpec FnSpecM FnSpecX FnSpecJ FnSpecB
set_option maxRecDepth 100000
set_option linter.unusedSimpArgs false
set_option linter.unusedVariables false


theorem laws_big_spec (code : List Int) : FnSpec PR f_laws_big [.c (.d (.sl 1 (eL cU code)))] (ab (iLt 1048576 code.length)) [] 0 := by
  refine FnSpec.intro hT p_laws_big rfl (by kernel_rfl) n_laws_big rfl ?_
  conv => whnf
  rw [show nInt (dLen (eL cU code)) = (code.length : Int) by simp]

theorem laws_at0_spec (code : List Int) (i : Nat) (hl : code.length ≤ 1048576) (hi : i ≤ 100) (hb : ∀ x ∈ code, 0 ≤ x ∧ x ≤ 255) : FnSpecX PR f_laws_at0 [.c (.d (.sl 1 (eL cU code))), ai i] Int (fun x => 0 ≤ x ∧ x ≤ 255) (fun x => ai x) (fun _ => []) (fun _ => 0) := by
  refine FnSpecX.intro hT p_laws_at0 rfl (by kernel_rfl) n_laws_at0 rfl ?_
  (conv => whnf)
  refine ifB_i (fun h1 => ?_) (fun h1 => ?_) <;> (conv => whnf) <;> simp only [nInt_eq, Int.natCast_zero, dLen_eL, sLen_eq, nOf_eq, Int.toNat_natCast, nAdd_eq, nSub_eq, dLen_nil, dLen_cons, iLt_t, iLt_f, iLe_t, iLe_f, iEq_t, iEq_f, sEq_t, sEq_f, bNot_t, bNot_f, bAnd_t, bEq_t, bEq_f, Bool.not_eq_true, Bool.not_eq_false, Bool.true_eq_false, Bool.false_eq_true] at h1
  · obtain ⟨y, hy⟩ := get_lt (show i < code.length by omega)
    refine idx_at (by simp) hy ?_
    (conv => whnf)
    have hy2 := hb y (List.mem_of_getElem? hy)
    have e : wConv .i64 y = y := by
      unfold wConv
      rw [wrap64] <;> omega
    refine ⟨y, hy2, ?_⟩
    ((conv => whnf); simp only [St.mk.injEq, List.cons.injEq, Prod.mk.injEq, AV.c.injEq, AV.agg.injEq, AV.tup.injEq, CV.d.injEq, D.int.injEq, D.bool.injEq, D.str.injEq, D.sl.injEq, Ent.arr.injEq, Ent.box.injEq, true_and, and_true, and_self, nInt_eq, Int.natCast_zero, dLen_eL, sLen_eq])
    exact e
  · refine And.intro (by simp [NZ]) ?_
    (conv => whnf)
    rw [show nInt (dLen (eL cU code)) = (code.length : Int) by simp]
    have e1 : wMul .i64 (i : Int) 7 = (i : Int) * 7 := wMul64 (by omega) (by omega)
    have e2 : wAdd .i64 ((i : Int) * 7) code.length = (i : Int) * 7 + code.length := wAdd64 (by omega) (by omega)
    rw [e1, e2]
    have hm := wRem_mod (x := (i : Int) * 7 + code.length) (n := 256) (by omega) (by decide)
    refine ⟨wRem ((i : Int) * 7 + code.length) 256, by omega, ?_⟩
    (conv => whnf)

theorem laws_rising_spec (l : List Int) (hs : l.Pairwise (· ≤ ·)) (hl : l.length ≤ 1048576) : FnSpec PR f_laws_rising [aIs l] (ab true) [] 0 := by
  refine FnSpec.intro hT p_laws_rising rfl (by kernel_rfl) n_laws_rising rfl ?_
  conv => whnf
  refine tri_loop hT [0, 3] (α := Nat) (fun x => { t := [(0, aIs l), (3, ai x)], h := [], n := 0, N := 20 })
    (fun x => 1 ≤ x) (fun x => l.length - x) 1 (by ((conv => whnf); simp only [St.mk.injEq, List.cons.injEq, Prod.mk.injEq, AV.c.injEq, AV.agg.injEq, AV.tup.injEq, CV.d.injEq, D.int.injEq, D.bool.injEq, D.str.injEq, D.sl.injEq, Ent.arr.injEq, Ent.box.injEq, true_and, and_true, and_self, nInt_eq, Int.natCast_zero, dLen_eL, sLen_eq]); rfl) (Nat.le_refl _) ?_
  intro i hi
  (conv => whnf)
  refine ifB_i (fun h1 => ?_) (fun h1 => ?_) <;> (conv => whnf) <;> simp only [nInt_eq, Int.natCast_zero, dLen_eL, sLen_eq, nOf_eq, Int.toNat_natCast, nAdd_eq, nSub_eq, dLen_nil, dLen_cons, iLt_t, iLt_f, iLe_t, iLe_f, iEq_t, iEq_f, sEq_t, sEq_f, bNot_t, bNot_f, bAnd_t, bEq_t, bEq_f, Bool.not_eq_true, Bool.not_eq_false, Bool.true_eq_false, Bool.false_eq_true] at h1
  · obtain ⟨x, hx⟩ := get_lt (show i - 1 < l.length by omega)
    obtain ⟨y, hy⟩ := get_lt (show i < l.length by omega)
    have hxy : x ≤ y := by
      have := List.pairwise_iff_getElem.1 hs (i - 1) i (List.getElem?_eq_some_iff.1 hx).1 (List.getElem?_eq_some_iff.1 hy).1 (by omega)
      rw [(List.getElem?_eq_some_iff.1 hx).2, (List.getElem?_eq_some_iff.1 hy).2] at this
      exact this
    have ei : wSub .i64 (i : Int) 1 = ((i - 1 : Nat) : Int) := by rw [wSub64] <;> omega
    refine tri_conf hT hmix (by kernel_rfl) ?_
    (conv => whnf)
    repeat' first
      | (refine And.intro (fun q => ?_) (fun q => ?_) <;> cases q <;> (conv => whnf))
      | (rw [ei]; refine idx_at (by simp) hx ?_; (conv => whnf))
      | (refine idx_at (by simp) hy ?_; (conv => whnf))
      | fail
    refine ifB_i (fun h2 => ?_) (fun h2 => ?_) <;> (conv => whnf) <;> simp only [nInt_eq, Int.natCast_zero, dLen_eL, sLen_eq, nOf_eq, Int.toNat_natCast, nAdd_eq, nSub_eq, dLen_nil, dLen_cons, iLt_t, iLt_f, iLe_t, iLe_f, iEq_t, iEq_f, sEq_t, sEq_f, bNot_t, bNot_f, bAnd_t, bEq_t, bEq_f, Bool.not_eq_true, Bool.not_eq_false, Bool.true_eq_false, Bool.false_eq_true] at h2
    · omega
    · refine ⟨i + 1, by omega, by omega, ?_⟩
      ((conv => whnf); simp only [St.mk.injEq, List.cons.injEq, Prod.mk.injEq, AV.c.injEq, AV.agg.injEq, AV.tup.injEq, CV.d.injEq, D.int.injEq, D.bool.injEq, D.str.injEq, D.sl.injEq, Ent.arr.injEq, Ent.box.injEq, true_and, and_true, and_self, nInt_eq, Int.natCast_zero, dLen_eL, sLen_eq])
      exact wI (show i < l.length by omega) (by omega)

theorem laws_sameInts_self (l : List Int) (hl : l.length ≤ 1048576) : FnSpec PR f_laws_sameInts [aIs l, aIs l] (ab true) [] 0 := by
  refine FnSpec.intro hT p_laws_sameInts rfl (by kernel_rfl) n_laws_sameInts rfl ?_
  conv => whnf
  refine ifB_i (fun h1 => ?_) (fun h1 => ?_) <;> (conv => whnf)
  · simp at h1
  refine tri_loop hT [0, 1, 5] (α := Nat) (fun x => { t := [(0, aIs l), (1, aIs l), (5, ai x)], h := [], n := 0, N := 26 })
    (fun x => x ≤ l.length) (fun x => l.length - x) 0 (by ((conv => whnf); simp only [St.mk.injEq, List.cons.injEq, Prod.mk.injEq, AV.c.injEq, AV.agg.injEq, AV.tup.injEq, CV.d.injEq, D.int.injEq, D.bool.injEq, D.str.injEq, D.sl.injEq, Ent.arr.injEq, Ent.box.injEq, true_and, and_true, and_self, nInt_eq, Int.natCast_zero, dLen_eL, sLen_eq])) (Nat.zero_le _) ?_
  intro i hi
  (conv => whnf)
  refine ifB_i (fun h1 => ?_) (fun h1 => ?_) <;> (conv => whnf) <;> simp only [nInt_eq, Int.natCast_zero, dLen_eL, sLen_eq, nOf_eq, Int.toNat_natCast, nAdd_eq, nSub_eq, dLen_nil, dLen_cons, iLt_t, iLt_f, iLe_t, iLe_f, iEq_t, iEq_f, sEq_t, sEq_f, bNot_t, bNot_f, bAnd_t, bEq_t, bEq_f, Bool.not_eq_true, Bool.not_eq_false, Bool.true_eq_false, Bool.false_eq_true] at h1
  · obtain ⟨y, hy⟩ := get_lt (show i < l.length by omega)
    refine tri_conf hT hmix (by kernel_rfl) ?_
    (conv => whnf)
    repeat' first
      | (refine And.intro (fun q => ?_) (fun q => ?_) <;> cases q <;> (conv => whnf))
      | (refine idx_at (by simp) hy ?_; (conv => whnf))
      | fail
    refine ifB_i (fun h2 => ?_) (fun h2 => ?_) <;> (conv => whnf) <;> simp only [nInt_eq, Int.natCast_zero, dLen_eL, sLen_eq, nOf_eq, Int.toNat_natCast, nAdd_eq, nSub_eq, dLen_nil, dLen_cons, iLt_t, iLt_f, iLe_t, iLe_f, iEq_t, iEq_f, sEq_t, sEq_f, bNot_t, bNot_f, bAnd_t, bEq_t, bEq_f, Bool.not_eq_true, Bool.not_eq_false, Bool.true_eq_false, Bool.false_eq_true] at h2
    · exact absurd rfl h2
    · refine ⟨i + 1, by omega, by omega, ?_⟩
      ((conv => whnf); simp only [St.mk.injEq, List.cons.injEq, Prod.mk.injEq, AV.c.injEq, AV.agg.injEq, AV.tup.injEq, CV.d.injEq, D.int.injEq, D.bool.injEq, D.str.injEq, D.sl.injEq, Ent.arr.injEq, Ent.box.injEq, true_and, and_true, and_self, nInt_eq, Int.natCast_zero, dLen_eL, sLen_eq])
      exact wI (show i < l.length by omega) (by omega)

theorem spec_BinOf_spec (l : List Int) (v : Int) (hl : l.length ≤ 1048576) : FnSpec PR f_spec_BinOf [aIs l, ai v] (ai (binL l v)) [] 0 := by
  refine FnSpec.intro hT p_spec_BinOf rfl (by kernel_rfl) n_spec_BinOf rfl ?_
  conv => whnf
  refine tri_loop hT [0, 1, 5, 6] (α := Nat) (fun x => { t := [(0, aIs l), (1, ai v), (5, ai (binL (l.take x) v)), (6, ai x)], h := [], n := 0, N := 22 })
    (fun x => x ≤ l.length) (fun x => l.length - x) 0 (by ((conv => whnf); simp only [St.mk.injEq, List.cons.injEq, Prod.mk.injEq, AV.c.injEq, AV.agg.injEq, AV.tup.injEq, CV.d.injEq, D.int.injEq, D.bool.injEq, D.str.injEq, D.sl.injEq, Ent.arr.injEq, Ent.box.injEq, true_and, and_true, and_self, nInt_eq, Int.natCast_zero, dLen_eL, sLen_eq, binL]); simp) (Nat.zero_le _) ?_
  intro i hi
  have hbl : binL (l.take i) v ≤ i := by
    unfold binL
    have := List.countP_le_length (p := fun c => iLt c v) (l := l.take i)
    simp at this
    omega
  (conv => whnf)
  refine ifB_i (fun h1 => ?_) (fun h1 => ?_) <;> (conv => whnf) <;> simp only [nInt_eq, Int.natCast_zero, dLen_eL, sLen_eq, nOf_eq, Int.toNat_natCast, nAdd_eq, nSub_eq, dLen_nil, dLen_cons, iLt_t, iLt_f, iLe_t, iLe_f, iEq_t, iEq_f, sEq_t, sEq_f, bNot_t, bNot_f, bAnd_t, bEq_t, bEq_f, Bool.not_eq_true, Bool.not_eq_false, Bool.true_eq_false, Bool.false_eq_true] at h1
  · obtain ⟨y, hy⟩ := get_lt (show i < l.length by omega)
    have e : binL (l.take (i + 1)) v = binL (l.take i) v + (if iLt y v = true then 1 else 0) := by
      simp [binL, List.take_add_one, hy, List.countP_append, List.countP_singleton]
    refine idx_at (by simp) hy ?_
    (conv => whnf)
    refine ifB_i (fun h2 => ?_) (fun h2 => ?_) <;> (conv => whnf)
    · rw [if_pos h2] at e
      refine ⟨i + 1, by omega, by omega, ?_⟩
      ((conv => whnf); simp only [St.mk.injEq, List.cons.injEq, Prod.mk.injEq, AV.c.injEq, AV.agg.injEq, AV.tup.injEq, CV.d.injEq, D.int.injEq, D.bool.injEq, D.str.injEq, D.sl.injEq, Ent.arr.injEq, Ent.box.injEq, true_and, and_true, and_self, nInt_eq, Int.natCast_zero, dLen_eL, sLen_eq, e])
      exact ⟨wAdd64 (by omega) (by omega), wI (show i < l.length by omega) (by omega)⟩
    · rw [if_neg (by simp [h2])] at e
      refine ⟨i + 1, by omega, by omega, ?_⟩
      ((conv => whnf); simp only [St.mk.injEq, List.cons.injEq, Prod.mk.injEq, AV.c.injEq, AV.agg.injEq, AV.tup.injEq, CV.d.injEq, D.int.injEq, D.bool.injEq, D.str.injEq, D.sl.injEq, Ent.arr.injEq, Ent.box.injEq, true_and, and_true, and_self, nInt_eq, Int.natCast_zero, dLen_eL, sLen_eq, e])
      exact ⟨rfl, wI (show i < l.length by omega) (by omega)⟩
  · obtain rfl : i = l.length := by omega
    rw [List.take_length]
end Go.H.S
