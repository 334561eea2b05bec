/- Library, part S: spans in a right tree (plain). -/
import Derived.Test.YtdolkacinfjhcaaGreatLV
import Derived.Test.YtdolkacinfjhcaaGreatLNC
import Derived.Test.YtdolkacinfjhcaaGreatLY
import Derived.Test.YtdolkacinfjhcaaGreatLQO
import Derived.Test.YtdolkacinfjhcaaGreatLPQ
import Derived.Test.YtdolkacinfjhcaaGreatLPL
import Derived.Test.YtdolkacinfjhcaaGreatLPS
set_option linter.unusedSimpArgs false
set_option linter.unusedVariables false
set_option maxRecDepth 100000
namespace Go.H.S
open Go Go.Proofs Go.H
def IsSpan (S : Int → Prop) (a : Int × Int × Bool) : Prop :=
 (a.2.2 = true → S a.1 ∧ S a.2.1 ∧ ∀ v, S v → a.1 ≤ v ∧ v ≤ a.2.1) ∧ (a.2.2 = false → ∀ v, ¬ S v)
theorem IsSpan.congr {S S' : Int → Prop} {a : Int × Int × Bool} (h : IsSpan S a) (he : ∀ v, S v ↔ S' v) : IsSpan S' a := by
 have : S = S' := funext fun v => propext (he v)
 rw [← this]; exact h
theorem leaf_mem : ∀ (t : List Nd) (k : Nat) (y : Int), y ∈ leavesK t k ↔ ∃ (j : Nat) (n : Nd), y = (k : Int) + j ∧ t[j]? = some n ∧ n.f = -1
 | [], k, y => by simp [leavesK]
 | x :: r, k, y => by
  have ih := leaf_mem r (k + 1) y
  have hstep : (∃ (j : Nat) (n : Nd), y = (k : Int) + j ∧ (x :: r)[j]? = some n ∧ n.f = -1) ↔ (y = k ∧ x.f = -1) ∨ ∃ (j : Nat) (n : Nd), y = ((k + 1 : Nat) : Int) + j ∧ r[j]? = some n ∧ n.f = -1 := by
   constructor
   ·rintro ⟨j, n, h1, h2, h3⟩
    cases j with
    | zero => simp at h2; subst h2; exact .inl ⟨by omega, h3⟩
    | succ j => rw [List.getElem?_cons_succ] at h2; exact .inr ⟨j, n, by omega, h2, h3⟩
   ·rintro (⟨h1, h2⟩ | ⟨j, n, h1, h2, h3⟩)
    ·exact ⟨0, x, by omega, by simp, h2⟩
    ·exact ⟨j + 1, n, by omega, by rw [List.getElem?_cons_succ]; exact h2, h3⟩
  rw [hstep, ← ih]
  simp only [leavesK]
  split
  ·rename_i hf; simp [hf]
  ·rename_i hf; simp [hf]
end Go.H.S
namespace Go.H.S
open Go Go.Proofs Go.H
inductive Ends (t : List Nd) (g : Nd → Bool) : Int → Nat → Prop
 | leaf {j : Nat} {n : Nd} : t[j]? = some n → n.f = -1 → Ends t g j j
 | left {j k : Nat} {n : Nd} : t[j]? = some n → n.f ≠ -1 → g n = true → Ends t g n.l k → Ends t g j k
 | right {j k : Nat} {n : Nd} : t[j]? = some n → n.f ≠ -1 → g n = false → Ends t g n.r k → Ends t g j k
end Go.H.S
namespace Go.H.S
open Go Go.Proofs Go.H
attribute [local irreducible] Tri FnSpec FnSpecM FnSpecX FnSpecJ FnSpecB
def rowAt (row : List Int) (f : Int) : Int := (row[f.toNat]?).getD 0
def goL (row : List Int) (n : Nd) : Bool := iLe (rowAt row n.f) n.c
def routeL (t : List Nd) (row : List Int) : Nat → Int → Option (List Int)
 | 0, _ => none
 | m + 1, x => if 0 ≤ x then match t[x.toNat]? with
   | none => none
   | some n => if n.f = -1 then some [x] else if 0 ≤ n.f ∧ n.f ≤ (row.length : Int) - 1 then (routeL t row m (if goL row n = true then n.l else n.r)).map (x :: ·) else none
  else none
def resR : Option (List Int) → AV
 | none => .c (.nl 0)
 | some _ => .c (.ref 0 0 none)
def entsR : Option (List Int) → List (Nat × Ent)
 | none => []
 | some l => [(0, .arr t_int 1 0 .own (eL cI l))]
def numR : Option (List Int) → Nat
 | none => 0
 | some _ => 1
set_option maxHeartbeats 1000000 in
theorem impl_route_spec (t : List Nd) (row : List Int) (hl : t.length ≤ 1048576) (hr : row.length ≤ 1048576) : FnSpecX PR f_impl_route [aT t, aIs row] (Option (List Int)) (fun x => x = routeL t row (t.length + 1) 0) resR entsR numR := by
 refine FnSpecX.intro hT (pf Tryz.func192) rfl (by kernel_rfl) Tryz.ntmps192 rfl ?_
 conv => whnf
 refine tri_loop hT [1, 2, 5, 6, 12, 13] (α := Nat × Int × List Int) (fun x => { t := [(1, aIs row), (2, .c (.ptr 0 0)), (5, .c (.ref 1 0 none)), (6, ai x.2.1), (12, ai (t.length + 1 : Nat)), (13, ai x.1)], h := [(0, .box t_impl_Tree (cTr t)), (1, .arr t_int 1 0 .own (eL cI x.2.2))], n := 2, N := 57 })
  (fun x => x.1 ≤ t.length + 1 ∧ x.2.2.length ≤ x.1 ∧ (routeL t row (t.length + 1 - x.1) x.2.1).map (x.2.2 ++ ·) = routeL t row (t.length + 1) 0) (fun x => t.length + 1 - x.1) (0, 0, []) (by ((conv => whnf); simp only [eS, eL_nil]); exact wAdd64 (by omega) (by omega)) ⟨by simp, by simp, by simp⟩ ?_
 intro ⟨k, x, o⟩ ⟨hk, ho, he⟩
 dsimp only at hk ho he
 conv => whnf
 refine ifB_i (fun h1 => ?_) (fun h1 => ?_) <;> (conv => whnf) <;> simp only [eH] at h1
 ·obtain ⟨m, hm⟩ : ∃ m, t.length + 1 - k = m + 1 := ⟨t.length - k, by omega⟩
  rw [hm, routeL] at he
  rw [show nInt (dLen (eL cN t)) = (t.length : Int) by simp]
  rw [show wSub .i64 (t.length : Int) 1 = (t.length : Int) - 1 from wSub64 (by omega) (by omega)]
  refine .inl ⟨_, _, _, impl_within_spec _ _ _, rfl, ?_⟩
  conv => whnf
  refine ifB_i (fun h2 => ?_) (fun h2 => ?_) <;> (conv => whnf)
  ·simp at h2
   refine ⟨none, ?_, ?_⟩
   ·rw [← he]
    split
    ·rename_i h3
     have : t[x.toNat]? = none := List.getElem?_eq_none (by have := h2 h3; omega)
     simp [this]
    ·rfl
   ·conv => whnf
    rfl
  ·simp at h2
   obtain ⟨j, rfl⟩ : ∃ j : Nat, x = j := ⟨x.toNat, by omega⟩
   obtain ⟨n, hn⟩ := get_lt (show j < t.length by omega)
   rw [if_pos h2.1, show (j : Int).toNat = j by simp, hn] at he
   dsimp only at he
   refine idx_at (by simp) hn ?_
   conv => whnf
   refine And.intro (by unfold Fits; simp; omega) ?_
   conv => whnf
   refine .inl ⟨_, _, _, impl_isLeaf_spec n, rfl, ?_⟩
   conv => whnf
   refine ifB_i (fun h3 => ?_) (fun h3 => ?_) <;> (conv => whnf) <;> simp only [eH] at h3
   ·rw [if_pos h3] at he
    refine ⟨some (o ++ [(j : Int)]), he, ?_⟩
    ((conv => whnf); simp only [eS])
    refine ⟨rfl, ?_, rfl⟩
    rw [entsR, ← eL_app]
    rfl
   ·rw [if_neg h3] at he
    refine .inl ⟨_, _, _, impl_within_spec _ _ _, rfl, ?_⟩
    conv => whnf
    have er : wSub .i64 (nInt (dLen (eL cI row))) 1 = (row.length : Int) - 1 := by rw [show nInt (dLen (eL cI row)) = (row.length : Int) by simp]; exact wSub64 (by omega) (by omega)
    refine ifB_i (fun h4 => ?_) (fun h4 => ?_) <;> (conv => whnf)
    ·rw [er] at h4
     simp at h4
     refine ⟨none, ?_, ?_⟩
     ·rw [if_neg (by omega)] at he
      exact he
     ·conv => whnf
      rfl
    ·rw [er] at h4
     simp at h4
     rw [if_pos (by omega)] at he
     obtain ⟨q, hq⟩ : ∃ q : Nat, n.f = q := ⟨n.f.toNat, by omega⟩
     obtain ⟨v, hv⟩ := get_lt (show q < row.length by omega)
     have hg : goL row n = iLe v n.c := by simp [goL, rowAt, hq, hv]
     refine tri_conf hT hmix (by kernel_rfl) ?_
     conv => whnf
     repeat' (first | (refine And.intro (fun q => ?_) (fun q => ?_) <;> cases q <;> (conv => whnf)) | fail)
     rw [hq]
     refine idx_at (by simp) hv ?_
     conv => whnf
     repeat' (first | (refine And.intro (fun q => ?_) (fun q => ?_) <;> cases q <;> (conv => whnf)) | fail)
     have hm2 : t.length + 1 - (k + 1) = m := by omega
     rw [hg] at he
     refine ifB_i (fun h5 => ?_) (fun h5 => ?_) <;> (conv => whnf)
     ·refine ⟨(k + 1, n.l, o ++ [(j : Int)]), by dsimp only; omega, ⟨by dsimp only; omega, by simp; omega, ?_⟩, ?_⟩
      ·dsimp only
       rw [hm2, ← he, if_pos h5]
       cases routeL t row m n.l <;> simp
      ·((conv => whnf); simp only [eS])
       refine ⟨wI (show k < t.length + 1 by omega) (by omega), ?_⟩
       rw [← eL_app]
       rfl
     ·refine ⟨(k + 1, n.r, o ++ [(j : Int)]), by dsimp only; omega, ⟨by dsimp only; omega, by simp; omega, ?_⟩, ?_⟩
      ·dsimp only
       rw [hm2, ← he, if_neg (by simp [h5])]
       cases routeL t row m n.r <;> simp
      ·((conv => whnf); simp only [eS])
       refine ⟨wI (show k < t.length + 1 by omega) (by omega), ?_⟩
       rw [← eL_app]
       rfl
 ·have : t.length + 1 - k = 0 := by omega
  rw [this] at he
  refine ⟨none, he, ?_⟩
  conv => whnf
  rfl
def endL (t : List Nd) (row : List Int) : Int := match routeL t row (t.length + 1) 0 with
 | some l => l.getLast?.getD (-1)
 | none => -1
def evalL (t : List Nd) (row : List Int) : Int := if endL t row < 0 then 0 else match t[(endL t row).toNat]? with | some n => n.v | none => 0
theorem routeL_ends {t : List Nd} {row : List Int} : ∀ {m : Nat} {x : Int} {l : List Int}, routeL t row m x = some l → ∃ (k : Nat) (n : Nd), l.getLast? = some (k : Int) ∧ t[k]? = some n ∧ n.f = -1 ∧ Ends t (goL row) x k ∧ 0 < l.length ∧ l.length ≤ m
 | 0, x, l, h => by simp [routeL] at h
 | m + 1, x, l, h => by
  simp only [routeL] at h
  split at h
  ·rename_i h0
   split at h
   ·cases h
   ·rename_i n hn
    obtain ⟨j, rfl⟩ : ∃ j : Nat, x = j := ⟨x.toNat, by omega⟩
    rw [show (j : Int).toNat = j by simp] at hn
    split at h
    ·rename_i hf
     cases h
     exact ⟨j, n, by simp, hn, hf, .leaf hn hf, by simp, by simp⟩
    ·rename_i hf
     split at h
     ·simp only [Option.map_eq_some_iff] at h
      obtain ⟨r, hr, rfl⟩ := h
      obtain ⟨k, n', h1, h2, h3, h4, h5, h6⟩ := routeL_ends hr
      refine ⟨k, n', ?_, h2, h3, ?_, by simp, by simp; omega⟩
      ·cases r with
       | nil => simp at h5
       | cons a b => simpa [List.getLast?_cons_cons] using h1
      ·cases hg : goL row n with
       | true => rw [hg] at h4; exact .left hn hf hg h4
       | false => rw [hg] at h4; exact .right hn hf hg h4
     ·cases h
  ·cases h
theorem impl_RouteTo_spec (t : List Nd) (row : List Int) (hl : t.length ≤ 1048576) (hr : row.length ≤ 1048576) : FnSpec PR f_impl_RouteTo [aT t, aIs row] (ai (endL t row)) [] 0 := by
 refine FnSpec.intro hT (pf Tryz.func270) rfl (by kernel_rfl) Tryz.ntmps270 rfl ?_
 conv => whnf
 refine .inr ⟨_, _, _, _, _, impl_route_spec t row hl hr, fun x hx => ⟨by cases x <;> rfl, ?_⟩⟩
 cases x with
 | none =>
  conv => whnf
  rw [endL, ← hx]
 | some l =>
  conv => whnf
  obtain ⟨k, n, h1, h2, h3, h4, h5, h6⟩ := routeL_ends hx.symm
  have he : endL t row = (k : Int) := by rw [endL, ← hx]; simp [h1]
  rw [he]
  rw [show nInt (lenRE (eL cI l) none) = (l.length : Int) by simp [lenRE]]
  refine ifB_i (fun h7 => ?_) (fun h7 => ?_) <;> (conv => whnf) <;> simp only [eH] at h7
  ·omega
  ·rw [show nInt (lenRE (eL cI l) none) = (l.length : Int) by simp [lenRE]]
   rw [show wSub .i64 (l.length : Int) 1 = ((l.length - 1 : Nat) : Int) by rw [wSub64] <;> omega]
   refine ref_at rfl (by simp; omega) ?_
   conv => whnf
   refine ld_at (k := l.length - 1) (by simp) (by rw [← List.getLast?_eq_getElem?]; exact h1) ?_
   conv => whnf
theorem impl_EvalTree_spec (t : List Nd) (row : List Int) (hl : t.length ≤ 1048576) (hr : row.length ≤ 1048576) : FnSpec PR f_impl_EvalTree [aT t, aIs row] (ai (evalL t row)) [] 0 := by
 refine FnSpec.intro hT (pf Tryz.func179) rfl (by kernel_rfl) Tryz.ntmps179 rfl ?_
 conv => whnf
 refine .inl ⟨_, _, _, impl_RouteTo_spec t row hl hr, rfl, ?_⟩
 conv => whnf
 refine ifB_i (fun h1 => ?_) (fun h1 => ?_) <;> (conv => whnf) <;> simp only [eH] at h1
 ·rw [evalL, if_pos h1]
 ·have hz : ∃ (k : Nat) (n : Nd), endL t row = k ∧ t[k]? = some n := by
   unfold endL at h1 ⊢
   cases hx : routeL t row (t.length + 1) 0 with
   | none => rw [hx] at h1; simp at h1
   | some l =>
    obtain ⟨k, n, h2, h3, _⟩ := routeL_ends hx
    exact ⟨k, n, by simp [h2], h3⟩
  obtain ⟨k, n, hk, hn⟩ := hz
  rw [hk]
  refine idx_at (by simp) hn ?_
  conv => whnf
  rw [evalL, hk, if_neg (by omega), show (k : Int).toNat = k by simp, hn]
end Go.H.S
namespace Go.H.S
open Go Go.Proofs Go.H
end Go.H.S
namespace Go.H.S
open Go Go.Proofs Go.H
attribute [local irreducible] Tri FnSpec FnSpecM FnSpecX FnSpecJ FnSpecB
end Go.H.S
namespace Go.H.S
open Go Go.Proofs Go.H
attribute [local irreducible] Tri FnSpec FnSpecM FnSpecX FnSpecJ FnSpecB
end Go.H.S
namespace Go.H.S
open Go Go.Proofs Go.H
attribute [local irreducible] Tri FnSpec FnSpecM FnSpecX FnSpecJ FnSpecB
end Go.H.S
namespace Go.H.S
open Go Go.Proofs Go.H
attribute [local irreducible] Tri FnSpec FnSpecM FnSpecX FnSpecJ
theorem modelOk_trees {m : Mdl} (h : modelOk m = true) : ∀ t ∈ m.trees, treeOk t m.names.length = true := by
 simp only [modelOk, Bool.and_eq_true] at h
 have := h.2.2.2.2.2.2
 rw [List.all_eq_true] at this
 exact this
end Go.H.S
namespace Go.H.S
open Go Go.Proofs Go.H
attribute [local irreducible] Tri FnSpec FnSpecM FnSpecX FnSpecJ FnSpecB
set_option maxHeartbeats 1000000 in
theorem spec_l18Way_spec (t : List Nd) (row : List Int) (hl : t.length ≤ 1048576) (hr : row.length ≤ 1048576) : FnSpec PR f_spec_l18Way [aT t, aIs row] (.c (.ref 0 0 none)) [(0, .arr t_int 1 0 .own (eL cI ((routeL t row (t.length + 1) 0).getD [])))] 1 := by
 refine FnSpec.intro hT (pf Tryz.func312) rfl (by kernel_rfl) Tryz.ntmps312 rfl ?_
 conv => whnf
 refine tri_loop hT [1, 2, 5, 6, 7] (α := Nat × Int × List Int) (fun x => { t := [(1, aIs row), (2, .c (.ptr 0 0)), (5, .c (.ref 1 0 none)), (6, ai x.2.1), (7, ai x.1)], h := [(0, .box t_impl_Tree (cTr t)), (1, .arr t_int 1 0 .own (eL cI x.2.2))], n := 2, N := 59 })
  (fun x => x.1 ≤ t.length + 1 ∧ x.2.2.length ≤ x.1 ∧ (routeL t row (t.length + 1 - x.1) x.2.1).map (x.2.2 ++ ·) = routeL t row (t.length + 1) 0) (fun x => t.length + 1 - x.1) (0, 0, []) (by ((conv => whnf); simp only [eS, eL_nil])) ⟨by simp, by simp, by simp⟩ ?_
 intro ⟨k, x, o⟩ ⟨hk, ho, he⟩
 dsimp only at hk ho he
 conv => whnf
 rw [show nInt (dLen (eL cN t)) = (t.length : Int) by simp]
 refine ifB_i (fun h1 => ?_) (fun h1 => ?_) <;> (conv => whnf) <;> simp only [eH] at h1
 ·obtain ⟨m, hm⟩ : ∃ m, t.length + 1 - k = m + 1 := ⟨t.length - k, by omega⟩
  rw [hm, routeL] at he
  rw [show nInt (dLen (eL cN t)) = (t.length : Int) by simp]
  rw [show wSub .i64 (t.length : Int) 1 = (t.length : Int) - 1 from wSub64 (by omega) (by omega)]
  refine .inl ⟨_, _, _, spec_l1In_spec _ _ _, rfl, ?_⟩
  conv => whnf
  refine ifB_i (fun h2 => ?_) (fun h2 => ?_) <;> (conv => whnf)
  ·simp at h2
   have hz : routeL t row (t.length + 1) 0 = none := by
    rw [← he]
    split
    ·rename_i h3
     have : t[x.toNat]? = none := List.getElem?_eq_none (by have := h2 h3; omega)
     simp [this]
    ·rfl
   rw [hz]
   simp [eL_nil]
  ·simp at h2
   obtain ⟨j, rfl⟩ : ∃ j : Nat, x = j := ⟨x.toNat, by omega⟩
   obtain ⟨n, hn⟩ := get_lt (show j < t.length by omega)
   rw [if_pos h2.1, show (j : Int).toNat = j by simp, hn] at he
   dsimp only at he
   refine idx_at (by simp) hn ?_
   conv => whnf
   refine And.intro (by unfold Fits; simp; omega) ?_
   conv => whnf
   refine .inl ⟨_, _, _, spec_l17Inner_spec n, rfl, ?_⟩
   conv => whnf
   refine ifB_i (fun h3 => ?_) (fun h3 => ?_) <;> (conv => whnf) <;> simp [bNot, iEq] at h3
   ·rw [if_pos h3] at he
    simp only [Option.map_some] at he
    rw [← he, Option.getD_some, ← eL_app]
    rfl
   ·rw [if_neg h3] at he
    refine .inl ⟨_, _, _, spec_l1In_spec _ _ _, rfl, ?_⟩
    conv => whnf
    have er : wSub .i64 (nInt (dLen (eL cI row))) 1 = (row.length : Int) - 1 := by rw [show nInt (dLen (eL cI row)) = (row.length : Int) by simp]; exact wSub64 (by omega) (by omega)
    refine ifB_i (fun h4 => ?_) (fun h4 => ?_) <;> (conv => whnf)
    ·rw [er] at h4
     simp at h4
     rw [if_neg (by omega)] at he
     simp only [Option.map_none] at he
     rw [← he]
     simp [eL_nil]
    ·rw [er] at h4
     simp at h4
     rw [if_pos (by omega)] at he
     obtain ⟨q, hq⟩ : ∃ q : Nat, n.f = q := ⟨n.f.toNat, by omega⟩
     obtain ⟨v, hv⟩ := get_lt (show q < row.length by omega)
     have hg : goL row n = iLe v n.c := by simp [goL, rowAt, hq, hv]
     refine tri_conf hT hmix (by kernel_rfl) ?_
     conv => whnf
     repeat' (first | (refine And.intro (fun q => ?_) (fun q => ?_) <;> cases q <;> (conv => whnf)) | fail)
     rw [hq]
     refine idx_at (by simp) hv ?_
     conv => whnf
     repeat' (first | (refine And.intro (fun q => ?_) (fun q => ?_) <;> cases q <;> (conv => whnf)) | fail)
     have hm2 : t.length + 1 - (k + 1) = m := by omega
     rw [hg] at he
     refine ifB_i (fun h5 => ?_) (fun h5 => ?_) <;> (conv => whnf)
     ·refine ⟨(k + 1, n.l, o ++ [(j : Int)]), by dsimp only; omega, ⟨by dsimp only; omega, by simp; omega, ?_⟩, ?_⟩
      ·dsimp only
       rw [hm2, ← he, if_pos h5]
       cases routeL t row m n.l <;> simp
      ·((conv => whnf); simp only [eS])
       refine ⟨wI (show k < t.length + 1 by omega) (by omega), ?_⟩
       rw [← eL_app]
       rfl
     ·refine ⟨(k + 1, n.r, o ++ [(j : Int)]), by dsimp only; omega, ⟨by dsimp only; omega, by simp; omega, ?_⟩, ?_⟩
      ·dsimp only
       rw [hm2, ← he, if_neg (by simp [h5])]
       cases routeL t row m n.r <;> simp
      ·((conv => whnf); simp only [eS])
       refine ⟨wI (show k < t.length + 1 by omega) (by omega), ?_⟩
       rw [← eL_app]
       rfl
 ·have : t.length + 1 - k = 0 := by omega
  rw [this, routeL] at he
  simp only [Option.map_none] at he
  rw [← he]
  simp [eL_nil]
theorem route_end (t : List Nd) (row : List Int) : ((routeL t row (t.length + 1) 0).getD [] = [] ∧ endL t row = -1) ∨
  ((routeL t row (t.length + 1) 0).getD []).getLast? = some (endL t row) ∧ 0 < ((routeL t row (t.length + 1) 0).getD []).length ∧ ((routeL t row (t.length + 1) 0).getD []).length ≤ t.length + 1 := by
 cases hx : routeL t row (t.length + 1) 0 with
 | none => exact .inl ⟨rfl, by rw [endL, hx]⟩
 | some l =>
  obtain ⟨k, n, h1, h2, h3, h4, h5, h6⟩ := routeL_ends hx
  exact .inr ⟨by rw [endL, hx]; simp [h1], h5, h6⟩
theorem spec_RouteTo_spec (t : List Nd) (row : List Int) (hl : t.length ≤ 1048576) (hr : row.length ≤ 1048576) : FnSpec PR f_spec_RouteTo [aT t, aIs row] (ai (endL t row)) [] 0 := by
 have hw := spec_l18Way_spec t row hl hr
 have he := route_end t row
 generalize endL t row = e at *
 generalize (routeL t row (t.length + 1) 0).getD [] = l at *
 refine FnSpec.intro hT (pf Tryz.func274) rfl (by kernel_rfl) Tryz.ntmps274 rfl ?_
 conv => whnf
 refine .inl ⟨_, _, _, hw, rfl, ?_⟩
 conv => whnf
 rw [show nInt (lenRE (eL cI l) none) = (l.length : Int) by simp [lenRE]]
 refine ifB_i (fun h7 => ?_) (fun h7 => ?_) <;> (conv => whnf) <;> simp only [eH] at h7
 ·rcases he with ⟨_, h1⟩ | ⟨_, h1, _⟩
  ·rw [h1]
  ·omega
 ·rcases he with ⟨h1, _⟩ | ⟨h1, h2, h3⟩
  ·subst h1
   exact absurd rfl h7
  ·rw [show nInt (lenRE (eL cI l) none) = (l.length : Int) by simp [lenRE]]
   rw [show wSub .i64 (l.length : Int) 1 = ((l.length - 1 : Nat) : Int) by rw [wSub64] <;> omega]
   refine ref_at rfl (by simp; omega) ?_
   conv => whnf
   refine ld_at (k := l.length - 1) (by simp) (by rw [← List.getLast?_eq_getElem?]; exact h1) ?_
   conv => whnf
theorem spec_EvalTree_spec (t : List Nd) (row : List Int) (hl : t.length ≤ 1048576) (hr : row.length ≤ 1048576) : FnSpec PR f_spec_EvalTree [aT t, aIs row] (ai (evalL t row)) [] 0 := by
 refine FnSpec.intro hT (pf Tryz.func187) rfl (by kernel_rfl) Tryz.ntmps187 rfl ?_
 conv => whnf
 refine .inl ⟨_, _, _, spec_RouteTo_spec t row hl hr, rfl, ?_⟩
 conv => whnf
 refine ifB_i (fun h1 => ?_) (fun h1 => ?_) <;> (conv => whnf) <;> simp only [eH] at h1
 ·rw [evalL, if_pos h1]
 ·have hz : ∃ (k : Nat) (n : Nd), endL t row = k ∧ t[k]? = some n := by
   unfold endL at h1 ⊢
   cases hx : routeL t row (t.length + 1) 0 with
   | none => rw [hx] at h1; simp at h1
   | some l =>
    obtain ⟨k, n, h2, h3, _⟩ := routeL_ends hx
    exact ⟨k, n, by simp [h2], h3⟩
  obtain ⟨k, n, hk, hn⟩ := hz
  rw [hk]
  refine idx_at (by simp) hn ?_
  conv => whnf
  rw [evalL, hk, if_neg (by omega), show (k : Int).toNat = k by simp, hn]
end Go.H.S
namespace Go.H.S
open Go Go.Proofs Go.H
theorem shapeL_snoc (ft : Int) (n : Nd) : ∀ (l : List Nd) (i next : Int), shapeL ft (l ++ [n]) i next = (shapeL ft l i next).bind fun m => shapeL ft [n] (i + l.length) m
 | [], i, next => by simp [shapeL]
 | x :: r, i, next => by
  simp only [List.cons_append, shapeL]
  split
  ·split
   ·rfl
   ·rw [shapeL_snoc ft n r (i + 1) next, show i + 1 + (r.length : Int) = i + ((x :: r).length : Nat) by simp; omega]; rfl
  ·split
   ·rfl
   ·rw [shapeL_snoc ft n r (i + 1) (next + 2), show i + 1 + (r.length : Int) = i + ((x :: r).length : Nat) by simp; omega]; rfl
theorem shape_leafI {grads : List Int} {c : Cfg} {x : Itm} (hb : boundP x.bd) (ft i m : Int) : shapeL ft [leafI grads c x] i m = some m := by
 have h := leafV_in (n := x.rows.length) (s := sumR grads x.rows) (lam := c.lambda) hb.1
 have h1 : leafBad (leafI grads c x) = false := by
  unfold boundP at hb
  have h2 : decide (leafI grads c x ≠ ⟨-1, 0, 0, 0, (leafI grads c x).v⟩) = false := decide_eq_false (fun q => q rfl)
  have h3 : decide (-1099511627776 ≤ (leafI grads c x).v ∧ (leafI grads c x).v ≤ 1099511627776) = true := decide_eq_true (by show -1099511627776 ≤ leafV _ _ _ _ ∧ leafV _ _ _ _ ≤ _; omega)
  unfold leafBad
  rw [h2, h3]
  rfl
 simp only [shapeL]
 rw [if_pos (show (leafI grads c x).f = -1 from rfl), h1]
 rfl
theorem shape_innerI {g : Grd} {z : Cd} {f b : Nat} (hg : gridP g) (hf : f < g.cuts.length) (hb : b < (cutsF g f).length) (hzf : z.f = f) (hzb : z.b = b) {k n : Nat} (hk : k < n) : shapeL g.cuts.length [innerI g z n] k n = some ((n + 2 : Nat) : Int) := by
 obtain ⟨_, _, g3, _⟩ := grid_at hg hf
 obtain ⟨cv, hcv⟩ := get_lt hb
 have hc : cutAt g z.f z.b = cv := by unfold cutAt; rw [hzf, hzb, Int.toNat_natCast, Int.toNat_natCast, hcv]; rfl
 have hcr : -2147483647 ≤ cv ∧ cv ≤ 2147483647 := by
  have := g3.2.2 cv (List.mem_of_getElem? hcv)
  unfold decP at this
  omega
 have h1 : innerBad (innerI g z n) g.cuts.length k n = false := by
  rw [hzf] at hc
  simp only [innerBad, innerI, hzf, hc, Bool.or_eq_false_iff, decide_eq_false_iff_not]
  refine ⟨⟨⟨⟨⟨?_, ?_⟩, ?_⟩, ?_⟩, ?_⟩, ?_⟩ <;> omega
 have h2 : ¬ (innerI g z n).f = -1 := by show ¬ z.f = -1; rw [hzf]; omega
 simp only [shapeL]
 rw [if_neg h2, h1]
 simp
theorem grow_shape {g : Grd} {grads : List Int} {c : Cfg} (ht : taskP g grads c) : ∀ k, k ≤ (growK g grads c k).1.length → grP g grads c k ∧ shapeL g.cuts.length (growK g grads c k).2 0 1 = some ((growK g grads c k).1.length : Int)
 | 0, _ => ⟨grow_zero ht, by simp [growK, shapeL]⟩
 | k + 1, hk => by
  cases hx : (growK g grads c k).1[k]? with
  | none =>
   have hle : (growK g grads c k).1.length ≤ k := by
    rcases Nat.lt_or_ge k (growK g grads c k).1.length with q | q
    ·rw [List.getElem?_eq_getElem q] at hx; cases hx
    ·exact q
   rw [growK, hx] at hk
   dsimp only at hk
   omega
  | some x =>
   have hlt : k < (growK g grads c k).1.length := by
    rcases Nat.lt_or_ge k (growK g grads c k).1.length with q | q
    ·exact q
    ·rw [List.getElem?_eq_none q] at hx; cases hx
   obtain ⟨hp, ih⟩ := grow_shape ht k (by omega)
   refine ⟨grow_next hp hx, ?_⟩
   have hip := hp.it x (List.mem_of_getElem? hx)
   have ho := hp.out
   have e := grow_step hx
   cases hz : partI g grads c x with
   | none =>
    have e2 : growK g grads c (k + 1) = ((growK g grads c k).1, (growK g grads c k).2 ++ [leafI grads c x]) := by rw [e, stepG, hz]
    rw [e2]
    dsimp only
    rw [shapeL_snoc, ih]
    show shapeL _ _ _ _ = _
    rw [shape_leafI hip.2.1]
   | some z =>
    have hz2 : partL g grads c x.rows x.bd = some z := by
     unfold partI at hz
     split at hz
     ·exact hz
     ·cases hz
    obtain ⟨f, b, hf, hb, hze⟩ := partL_in hz2
    have e2 : growK g grads c (k + 1) = ((growK g grads c k).1 ++ [kidL g c x z, kidR g c x z], (growK g grads c k).2 ++ [innerI g z (growK g grads c k).1.length]) := by rw [e, stepG, hz]
    rw [e2]
    dsimp only
    rw [shapeL_snoc, ih, ho]
    show shapeL _ _ _ _ = _
    rw [Int.zero_add, shape_innerI ht.1 hf hb (by rw [hze]; rfl) (by rw [hze]; rfl) hlt]
    simp
theorem grow_fin {g : Grd} {grads : List Int} {c : Cfg} (ht : taskP g grads c) : ∃ k, k ≤ 31 ∧ k = (growK g grads c k).1.length := by
 have key : ∀ j, (∃ k, k < j ∧ k = (growK g grads c k).1.length) ∨ j ≤ (growK g grads c j).1.length := by
  intro j
  induction j with
  | zero => exact .inr (Nat.zero_le _)
  | succ j ih =>
   rcases ih with ⟨k, h1, h2⟩ | h
   ·exact .inl ⟨k, by omega, h2⟩
   ·rcases Nat.lt_or_ge j (growK g grads c j).1.length with q | q
    ·obtain ⟨x, hx⟩ := get_lt q
     refine .inr ?_
     rw [grow_step hx]
     unfold stepG
     split
     ·dsimp only; omega
     ·simp; omega
    ·exact .inl ⟨j, by omega, by omega⟩
 rcases key 32 with ⟨k, h1, h2⟩ | h
 ·exact ⟨k, by omega, h2⟩
 ·have := (grow_shape ht 32 h).1.wt
  omega
theorem grown_shape {g : Grd} {grads : List Int} {c : Cfg} (ht : taskP g grads c) : shapeOk (growL g grads c) g.cuts.length = true ∧ 1 ≤ (growL g grads c).length ∧ (growL g grads c).length ≤ 31 := by
 obtain ⟨k, hk, he⟩ := grow_fin ht
 obtain ⟨hp, hs⟩ := grow_shape ht k (by omega)
 have hg := grow_end hp he
 have ho := hp.out
 rw [hg] at hs ho
 rw [← he] at hs
 have h1 : 1 ≤ k := by
  rcases Nat.eq_zero_or_pos k with rfl | q
  ·simp [growK] at he
  ·exact q
 refine ⟨?_, by omega, by omega⟩
 unfold shapeOk
 rw [hs, ho]
 exact decide_eq_true rfl
theorem grow_pre {g : Grd} {grads : List Int} {c : Cfg} (k : Nat) : ∀ j, ∃ a b, growK g grads c (k + j) = ((growK g grads c k).1 ++ a, (growK g grads c k).2 ++ b)
 | 0 => ⟨[], [], by simp⟩
 | j + 1 => by
  obtain ⟨a, b, h⟩ := grow_pre (g := g) (grads := grads) (c := c) k j
  rw [← Nat.add_assoc, growK]
  split
  ·exact ⟨a, b, h⟩
  ·rw [h]
   unfold stepG
   split
   ·exact ⟨a, _, by rw [List.append_assoc]⟩
   ·exact ⟨_, _, by rw [List.append_assoc, List.append_assoc]⟩
def quL (g : Grd) (grads : List Int) (c : Cfg) : List Itm := (growK g grads c 31).1
theorem grow_node {g : Grd} {grads : List Int} {c : Cfg} (ht : taskP g grads c) : (quL g grads c).length = (growL g grads c).length ∧ ∀ j, j < (growL g grads c).length → ∃ x, (quL g grads c)[j]? = some x ∧ itmP g c x ∧
  ((partI g grads c x = none ∧ (growL g grads c)[j]? = some (leafI grads c x)) ∨ ∃ z, partI g grads c x = some z ∧ (growL g grads c)[j]? = some (innerI g z (growK g grads c j).1.length) ∧ j < (growK g grads c j).1.length ∧ (quL g grads c)[(growK g grads c j).1.length]? = some (kidL g c x z) ∧ (quL g grads c)[(growK g grads c j).1.length + 1]? = some (kidR g c x z)) := by
 obtain ⟨K, hK, he⟩ := grow_fin ht
 obtain ⟨hp, _⟩ := grow_shape ht K (by omega)
 have hg := grow_end hp he
 have ho := hp.out
 have hq : quL g grads c = (growK g grads c K).1 := by
  unfold quL
  rw [show 31 = K + (31 - K) by omega, grow_stop (by omega)]
 rw [← hg, ho, hq]
 refine ⟨he.symm, fun j hj => ?_⟩
 have hlt : j < (growK g grads c j).1.length := by
  rcases Nat.lt_or_ge j (growK g grads c j).1.length with q | q
  ·exact q
  ·have := grow_stop q (K - j)
   rw [show j + (K - j) = K by omega] at this
   rw [this] at he
   omega
 obtain ⟨x, hx⟩ := get_lt hlt
 obtain ⟨hpj, _⟩ := grow_shape ht j (by omega)
 have hip := hpj.it x (List.mem_of_getElem? hx)
 have hoj := hpj.out
 have e := grow_step hx
 obtain ⟨a, b, hab⟩ := grow_pre (g := g) (grads := grads) (c := c) (j + 1) (K - (j + 1))
 rw [show j + 1 + (K - (j + 1)) = K by omega, e] at hab
 rw [hab]
 cases hz : partI g grads c x with
 | none =>
  have e2 : stepG g grads c (growK g grads c j).1 (growK g grads c j).2 x = ((growK g grads c j).1, (growK g grads c j).2 ++ [leafI grads c x]) := by rw [stepG, hz]
  rw [e2]
  dsimp only
  refine ⟨x, by rw [List.getElem?_append_left hlt]; exact hx, hip, .inl ⟨hz, ?_⟩⟩
  rw [List.getElem?_append_left (by simp; omega), List.getElem?_append_right (by omega), hoj]
  simp
 | some z =>
  have e2 : stepG g grads c (growK g grads c j).1 (growK g grads c j).2 x = ((growK g grads c j).1 ++ [kidL g c x z, kidR g c x z], (growK g grads c j).2 ++ [innerI g z (growK g grads c j).1.length]) := by rw [stepG, hz]
  rw [e2]
  dsimp only
  refine ⟨x, by rw [List.append_assoc, List.getElem?_append_left hlt]; exact hx, hip, .inr ⟨z, hz, ?_, hlt, ?_, ?_⟩⟩
  ·rw [List.getElem?_append_left (by simp; omega), List.getElem?_append_right (by omega), hoj]
   simp
  ·rw [List.append_assoc, List.getElem?_append_right (by omega)]
   simp
  ·rw [List.append_assoc, List.getElem?_append_right (by omega)]
   simp
theorem items_at {g : Grd} {grads : List Int} {c : Cfg} (ht : taskP g grads c) (P : Nat → Itm → Prop) (h0 : P 0 ⟨allRowsL grads.length, freeB, 0⟩)
  (hk : ∀ (j L : Nat) (x : Itm) (z : Cd), P j x → itmP g c x → partI g grads c x = some z → (growL g grads c)[j]? = some (innerI g z L) → j < L → L + 1 < (growL g grads c).length → P L (kidL g c x z) ∧ P (L + 1) (kidR g c x z)) :
  ∀ k, k ≤ (growL g grads c).length → ∀ j x, (growK g grads c k).1[j]? = some x → P j x
 | 0, _, j, x, hx => by
  simp only [growK] at hx
  match j, hx with
  | 0, hx => simp at hx; subst hx; exact h0
  | j + 1, hx => simp at hx
 | k + 1, hkn, j, x, hx => by
  obtain ⟨hlen, hn⟩ := grow_node ht
  obtain ⟨y, hy, hyp, hc⟩ := hn k (by omega)
  have ih := items_at ht P h0 hk k (by omega)
  cases hyk : (growK g grads c k).1[k]? with
  | none => rw [growK, hyk] at hx; exact ih j x hx
  | some y' =>
   have hpre := grow_pre (g := g) (grads := grads) (c := c) k (31 - k)
   have hn31 : (growL g grads c).length ≤ 31 := (grown_shape ht).2.2
   rw [show k + (31 - k) = 31 by omega] at hpre
   obtain ⟨a, b, hab⟩ := hpre
   have hlt : k < (growK g grads c k).1.length := (List.getElem?_eq_some_iff.1 hyk).1
   have hyy : y' = y := by
    have : (quL g grads c)[k]? = some y' := by unfold quL; rw [hab]; dsimp only; rw [List.getElem?_append_left hlt]; exact hyk
    rw [hy] at this
    cases this; rfl
   subst hyy
   rw [grow_step hyk] at hx
   have hpk := ih k y' hyk
   rcases hc with ⟨hz, _⟩ | ⟨z, hz, hnode, hL, hl1, hl2⟩
   ·rw [stepG, hz] at hx
    exact ih j x hx
   ·rw [stepG, hz] at hx
    dsimp only at hx
    have hL1 : (growK g grads c k).1.length + 1 < (growL g grads c).length := by
     rw [← hlen]; exact (List.getElem?_eq_some_iff.1 hl2).1
    obtain ⟨p1, p2⟩ := hk k _ y' z hpk hyp hz hnode hL hL1
    rcases Nat.lt_or_ge j (growK g grads c k).1.length with q | q
    ·rw [List.getElem?_append_left q] at hx
     exact ih j x hx
    ·rw [List.getElem?_append_right q] at hx
     obtain ⟨i, hi⟩ : ∃ i, j = (growK g grads c k).1.length + i := ⟨j - (growK g grads c k).1.length, by omega⟩
     subst hi
     rw [Nat.add_sub_cancel_left] at hx
     match i, hx with
     | 0, hx => simp at hx; subst hx; exact p1
     | 1, hx => simp at hx; subst hx; exact p2
     | i + 2, hx => simp at hx
end Go.H.S
namespace Go.H.S
open Go Go.Proofs Go.H
structure Parted (g : Grd) (c : Cfg) (x : Itm) (z : Cd) (f b : Nat) : Prop where
 hf : f < g.cuts.length
 hb : b < (cutsF g f).length
 zf : z.f = f
 zb : z.b = b
 q1 : (kidL g c x z).rows = leftR (binsF g f) x.rows b
 q2 : (kidR g c x z).rows = rightR (binsF g f) x.rows b
 n1 : c.rows ≤ ((leftR (binsF g f) x.rows b).length : Int)
 n2 : c.rows ≤ ((rightR (binsF g f) x.rows b).length : Int)
end Go.H.S
namespace Go.H.S
open Go Go.Proofs Go.H
attribute [local irreducible] Tri FnSpec FnSpecM FnSpecX FnSpecJ FnSpecB
def addL (tr : List Nd) (rows : List (List Int)) (ps : List Int) : List Int := List.zipWith (fun p r => p + evalL tr r) ps rows
theorem addL_take {tr : List Nd} {rows : List (List Int)} {ps : List Int} {k : Nat} {p : Int} {r : List Int} (hp : ps[k]? = some p) (hr : rows[k]? = some r) : (addL tr rows ps).take (k + 1) = (addL tr rows ps).take k ++ [p + evalL tr r] := by
 have h : (addL tr rows ps)[k]? = some (p + evalL tr r) := by rw [addL, List.getElem?_zipWith, hp, hr]
 rw [List.take_add_one, h]; rfl
theorem addL_len {tr : List Nd} {rows : List (List Int)} {ps : List Int} (h : ps.length = rows.length) : (addL tr rows ps).length = ps.length := by simp [addL, h]
set_option maxHeartbeats 4000000 in
theorem spec_RoundOf_spec (t : Tbl) (b : Nat) (c : Cfg) (ps : List Int) (ts : List (List Nd)) (tr : List Nd) (hz : szT t) (ht : tableOk t = true) (hc : cfgP c) (hb : c.bins = (b : Int)) (hbb : 2 ≤ b ∧ b ≤ 8) (hsm : smG (gridT t b)) (hpl : ps.length = t.ys.length) (hpb : ∀ p ∈ ps, -1152921504606846976 ≤ p ∧ p ≤ 1152921504606846976)
  (hts : ts.length ≤ 1000) (htl : ∀ x ∈ ts, x.length ≤ 1000) (htk : taskP (gridT t b) (resL t.ys ps) c) (hgl : tr.length ≤ 1000) (hlf : ∀ n ∈ tr, leafP n) (htr : growL (gridT t b) (resL t.ys ps) c = tr) (hev : ∀ r, -1152921504606846976 ≤ evalL (shrT c tr) r ∧ evalL (shrT c tr) r ≤ 1152921504606846976) :
  FnSpec PR f_spec_RoundOf [aTb t, aG (gridT t b), aCf c, aSt ps ts] (tupSt (addL (shrT c tr) t.rows ps) (ts ++ [shrT c tr]) true) [] 0 := by
 have hv := tableOk_v ht
 have hcl : c.signs.length ≤ 1048576 := by have := hc.2.2.2.2; omega
 have hrl := resL_len hpl.symm
 have hyl := hv.yl
 have hr40 := hv.r40
 have hgrow := spec_GrowTree_spec (gridT t b) (resL t.ys ps) c hsm (by omega) hcl htk
 rw [htr] at hgrow
 clear htr htk
 have hgrid := spec_GridOf_d t b hbb ht hz.n hz.ns hz.tg hz.r hz.c hz.y
 have hres := spec_Residuals_spec t.ys ps hpl.symm (by omega) hv.yv hpb
 generalize gridT t b = g at hsm hgrow hgrid ⊢
 generalize resL t.ys ps = res at *
 refine FnSpec.intro hT (pf Tryz.func73) rfl (by kernel_rfl) Tryz.ntmps73 rfl ?_
 conv => whnf
 refine tri_rp 0 ?_
 conv => whnf
 refine tri_rp 1 ?_
 conv => whnf
 refine tri_rp 2 ?_
 conv => whnf
 refine tri_rp 3 ?_
 conv => whnf
 refine tri_every hT hmix [4, 5, 6, 7, 8, 31] { t := [(4, rpTb t), (5, .c (.d (.rp [.sl 1 (eL cIs g.cuts), .sl 1 (eL cIs g.bins)]))), (6, .c (.d (.rp [.int .i64 c.rounds, .int .i64 c.depth, .int .i64 c.bins, .int .i64 c.lambda, .int .i64 c.rows, .int .i64 c.num, .int .i64 c.den, .sl 1 (eL cI c.signs)]))), (7, .c (.d (.rp [.sl 1 (eL cI ps), .sl 1 (eL cT ts)]))), (8, .c (.ptr 0 0)), (31, ab false)], h := [(0, .box t_impl_State [.nl 1, .nl 1])], n := 1, N := 104 } rfl ?_ ?_
 ·repeat' first
   | (refine anyV_one rfl ?_; (conv => whnf))
   | (refine anyV_two rfl ?_ ?_ <;> (conv => whnf))
   | (refine anyV_three rfl ?_ ?_ ?_ <;> (conv => whnf))
   | (refine .inl ⟨_, _, _, spec_TableOk_spec t hz.n hz.ns hz.tg hz.r hz.c hz.y, rfl, ?_⟩; rw [ht]; (conv => whnf))
   | (rw [hb]; refine .inl ⟨_, _, _, hgrid, rfl, ?_⟩; (conv => whnf))
   | (refine .inl ⟨_, _, _, spec_SameGrid_same g hsm, rfl, ?_⟩; (conv => whnf))
   | (refine anyV_end rfl ?_; (conv => whnf); first | done | rfl)
 conv => whnf
 refine .inl ⟨_, _, _, hres, rfl, ?_⟩
 conv => whnf
 refine .inl ⟨_, _, _, hgrow, rfl, ?_⟩
 conv => whnf
 refine .inl ⟨_, _, _, spec_ShrunkTree_spec tr c hc hgl hlf, rfl, ?_⟩
 conv => whnf
 refine tri_rp 3 ?_
 conv => whnf
 refine tri_every hT hmix [4, 7, 8, 14, 16] { t := [(4, rpTb t), (7, .c (.d (.rp [.sl 1 (eL cI ps), .sl 1 (eL cT ts)]))), (8, .c (.ptr 0 0)), (14, .c (.d (.rp [.sl 5 (eL cN (shrT c tr))]))), (16, .c (.ptr 1 0))], h := [(0, .box t_impl_State [.nl 1, .nl 1]), (1, .box t_impl_State [.nl 1, .ref 2 0 none]), (2, .arr t_impl_Tree 1 0 .own (eL cT (ts ++ [shrT c tr])))], n := 3, N := 104 } rfl ?_ ?_
 ·repeat' first
   | (refine anyV_one rfl ?_; (conv => whnf))
   | (refine anyV_two rfl ?_ ?_ <;> (conv => whnf))
   | (refine anyV_three rfl ?_ ?_ ?_ <;> (conv => whnf))
   | (refine anyV_four rfl ?_ ?_ ?_ ?_ <;> (conv => whnf))
   | (refine .inl ⟨_, _, _, spec_l22Trees_d ts (by omega) (fun x hx => by have := htl x hx; omega), rfl, ?_⟩; (conv => whnf))
   | (refine And.intro (by simp [eL_length, dLen_len]; omega) ?_; (conv => whnf))
   | (refine anyV_end rfl ?_; (conv => whnf); simp only [partOf_none]; rw [show dApp (eL cT ts) [[D.sl 5 (eL cN (shrT c tr))]] = eL cT (ts ++ [shrT c tr]) from eL_app cT ts _]; first | done | rfl)
 conv => whnf
 refine tri_nl 1 0 t_int 1 ?_
 conv => whnf
 refine tri_loop hT [4, 7, 8, 14, 16, 17] (α := Nat) (fun k => { t := [(4, rpTb t), (7, .c (.d (.rp [.sl 1 (eL cI ps), .sl 1 (eL cT ts)]))), (8, .c (.ptr 0 0)), (14, .c (.d (.rp [.sl 5 (eL cN (shrT c tr))]))), (16, .c (.ptr 1 0)), (17, ai k)], h := [(0, .box t_impl_State [.nl 1, .nl 1]), (1, .box t_impl_State [.ref 2 0 none, .ref 3 0 none]), (2, .arr t_int 1 0 .own (eL cI ((addL (shrT c tr) t.rows ps).take k))), (3, .arr t_impl_Tree 1 0 .own (eL cT (ts ++ [shrT c tr])))], n := 4, N := 104 })
  (fun k => k ≤ ps.length) (fun k => ps.length - k) 0 (by (conv => whnf); simp only [List.take_zero, eL_nil]; rfl) (Nat.zero_le _) ?_
 intro k hk
 conv => whnf
 refine ifB_i (fun q => ?_) (fun q => ?_) <;> (conv => whnf) <;> simp only [eH] at q
 ·obtain ⟨p, hp⟩ := get_lt (show k < ps.length by omega)
  obtain ⟨r, hr⟩ := get_lt (show k < t.rows.length by omega)
  have hpk := hpb p (List.mem_of_getElem? hp)
  have hrc := hv.cols r (List.mem_of_getElem? hr)
  have hn4 := hv.n4
  have hek := hev r
  have hsl : (shrT c tr).length ≤ 1048576 := by simp [shrT]; omega
  refine tri_every hT hmix [4, 7, 8, 14, 16, 17, 18, 19] { t := [(4, rpTb t), (7, .c (.d (.rp [.sl 1 (eL cI ps), .sl 1 (eL cT ts)]))), (8, .c (.ptr 0 0)), (14, .c (.d (.rp [.sl 5 (eL cN (shrT c tr))]))), (16, .c (.ptr 1 0)), (17, ai k), (18, ai (p + evalL (shrT c tr) r)), (19, ab true)], h := [(0, .box t_impl_State [.nl 1, .nl 1]), (1, .box t_impl_State [.ref 2 0 none, .ref 3 0 none]), (2, .arr t_int 1 0 .own (eL cI ((addL (shrT c tr) t.rows ps).take k))), (3, .arr t_impl_Tree 1 0 .own (eL cT (ts ++ [shrT c tr])))], n := 4, N := 104 } rfl ?_ ?_
  ·repeat' first
    | (refine anyV_one rfl ?_; (conv => whnf))
    | (refine anyV_two rfl ?_ ?_ <;> (conv => whnf))
    | (refine anyV_three rfl ?_ ?_ ?_ <;> (conv => whnf))
    | (refine idx_at (k := k) rfl hp ?_; (conv => whnf))
    | (refine idx_at (k := k) rfl hr ?_; (conv => whnf))
    | (refine .inl ⟨_, _, _, spec_EvalTree_spec (shrT c tr) r hsl (by omega), rfl, ?_⟩; (conv => whnf))
    | (refine .inl ⟨_, _, _, spec_AddInt_small p (evalL (shrT c tr) r) (by omega) (by omega), rfl, ?_⟩; (conv => whnf))
    | (refine anyV_end rfl ?_; (conv => whnf); first | done | rfl)
  conv => whnf
  have hal := addL_len (tr := shrT c tr) (hpl.trans hyl)
  refine And.intro (by simp [partOf_none, eL_length, dLen_len]; omega) ?_
  conv => whnf
  refine ⟨k + 1, by omega, by omega, ?_⟩
  ((conv => whnf); simp only [eS, wI (show k < ps.length by omega) (by omega)])
  rw [addL_take hp hr, ← eL_app, partOf_none]
  first | done | rfl | exact ⟨rfl, rfl⟩
 ·obtain rfl : k = ps.length := by omega
  rw [← addL_len (tr := shrT c tr) (hpl.trans hyl), List.take_length]
  simp only [partOf_none]
  first | done | rfl
end Go.H.S
namespace Go.H.S
open Go Go.Proofs Go.H
theorem evalL_abs {t : List Nd} {row : List Int} {B : Int} (h0 : 0 ≤ B) (h : ∀ n ∈ t, -B ≤ n.v ∧ n.v ≤ B) : -B ≤ evalL t row ∧ evalL t row ≤ B := by
 unfold evalL
 split
 ·omega
 ·split
  ·rename_i n hn
   exact h n (List.mem_of_getElem? hn)
  ·omega
theorem div_abs {v n d B : Int} (h0 : 0 ≤ B) (hd : 1 ≤ d) (hn : 1 ≤ n) (hnd : n ≤ d) (hv : -B ≤ v ∧ v ≤ B) : -B ≤ v * n / d ∧ v * n / d ≤ B := by
 have a : v * n ≤ B * d := Int.le_trans (Int.mul_le_mul_of_nonneg_right hv.2 (by omega)) (Int.mul_le_mul_of_nonneg_left hnd h0)
 have b : -B * d ≤ v * n := by
  have h1 : -B * n ≤ v * n := Int.mul_le_mul_of_nonneg_right hv.1 (by omega)
  have h2 : B * n ≤ B * d := Int.mul_le_mul_of_nonneg_left hnd h0
  rw [Int.neg_mul] at h1 ⊢
  omega
 exact ⟨(Int.le_ediv_iff_mul_le (by omega)).2 b, Int.ediv_le_of_le_mul (by omega) a⟩
theorem shrT_abs {c : Cfg} {t : List Nd} {B : Int} (h0 : 0 ≤ B) (hc : cfgP c) (h : ∀ n ∈ t, -B ≤ n.v ∧ n.v ≤ B) : ∀ n ∈ shrT c t, -B ≤ n.v ∧ n.v ≤ B := by
 intro n hn
 simp only [shrT, List.mem_map] at hn
 obtain ⟨m, hm, rfl⟩ := hn
 unfold shrN
 split
 ·exact div_abs h0 hc.2.2.1.1 hc.2.2.2.1.1 hc.2.2.2.1.2 (h m hm)
 ·exact h m hm
theorem grown_leafP {g : Grd} {grads : List Int} {c : Cfg} (ht : taskP g grads c) : ∀ n ∈ growL g grads c, leafP n := fun n hn hf => by
 obtain ⟨j, hj⟩ := List.getElem?_of_mem hn
 exact shape_value (grown_shape ht).1 hj hf
theorem grown_len {g : Grd} {grads : List Int} {c : Cfg} (ht : taskP g grads c) : (growL g grads c).length ≤ 1000 := by
 have := (grown_shape ht).2.2
 omega
theorem grown_v {g : Grd} {grads : List Int} {c : Cfg} (ht : taskP g grads c) : ∀ n ∈ growL g grads c, -1099511627776 ≤ n.v ∧ n.v ≤ 1099511627776 := fun n hn => by
 obtain ⟨j, hj⟩ := List.getElem?_of_mem hn
 by_cases hf : n.f = -1
 ·exact shape_value (grown_shape ht).1 hj hf
 ·have := (shape_kids (grown_shape ht).1 hj hf).2.2.1
  omega
theorem round_abs {g : Grd} {grads : List Int} {c : Cfg} (ht : taskP g grads c) (row : List Int) : -1099511627776 ≤ evalL (shrT c (growL g grads c)) row ∧ evalL (shrT c (growL g grads c)) row ≤ 1099511627776 :=
 evalL_abs (by decide) (shrT_abs (by decide) ht.2.1 (grown_v ht))
theorem resL_abs {ys ps : List Int} {A B : Int} (hy : ∀ y ∈ ys, -A ≤ y ∧ y ≤ A) (hp : ∀ p ∈ ps, -B ≤ p ∧ p ≤ B) : ∀ x ∈ resL ys ps, -(A + B) ≤ x ∧ x ≤ A + B := by
 intro x hx
 obtain ⟨k, hk⟩ := List.getElem?_of_mem hx
 rw [resL, List.getElem?_zipWith] at hk
 cases h1 : ys[k]? with
 | none => rw [h1] at hk; simp at hk
 | some p =>
  cases h2 : ps[k]? with
  | none => rw [h1, h2] at hk; simp at hk
  | some r =>
   rw [h1, h2] at hk
   simp at hk
   subst hk
   have := hy p (List.mem_of_getElem? h1)
   have := hp r (List.mem_of_getElem? h2)
   omega
theorem leafV_abs {n s lam M : Int} {b : Int × Int} (hM : 0 ≤ M) (hn : 0 ≤ n) (hl : 1 ≤ lam) (hs : -(n * M) ≤ s ∧ s ≤ n * M) (h1 : b.1 ≤ M) (h2 : -M ≤ b.2) : -M ≤ leafV n s lam b ∧ leafV n s lam b ≤ M := by
 have hm : n * M ≤ (n + lam) * M := Int.mul_le_mul_of_nonneg_right (by omega) hM
 have a : s / (n + lam) ≤ M := Int.ediv_le_of_le_mul (by omega) (by rw [Int.mul_comm M]; omega)
 have a2 : -M ≤ s / (n + lam) := (Int.le_ediv_iff_mul_le (by omega)).2 (by rw [Int.neg_mul, Int.mul_comm M]; omega)
 unfold leafV brought
 split
 ·omega
 ·split <;> omega
theorem sumR_abs {grads : List Int} {M : Int} (hM : 0 ≤ M) (h : ∀ x ∈ grads, -M ≤ x ∧ x ≤ M) : ∀ rs : List Int, -((rs.length : Int) * M) ≤ sumR grads rs ∧ sumR grads rs ≤ (rs.length : Int) * M
 | [] => by simp [sumR]
 | r :: rs => by
  have ih := sumR_abs hM h rs
  have hg : -M ≤ gAt grads r ∧ gAt grads r ≤ M := by
   unfold gAt
   cases hx : grads[r.toNat]? with
   | none => simp; omega
   | some x => simp; exact h x (List.mem_of_getElem? hx)
  have e : ((r :: rs).length : Int) * M = (rs.length : Int) * M + M := by simp only [List.length_cons, Int.natCast_add, Int.natCast_one]; rw [Int.add_mul, Int.one_mul]
  rw [e]
  simp only [sumR]
  omega
theorem midV_abs {p q M : Int} {b : Int × Int} (hp : -M ≤ p ∧ p ≤ M) (hq : -M ≤ q ∧ q ≤ M) (h1 : b.1 ≤ M) (h2 : -M ≤ b.2) : -M ≤ midV p q b ∧ midV p q b ≤ M := by
 unfold midV brought
 split
 ·omega
 ·split <;> omega
theorem side_abs {g : Grd} {grads : List Int} {c : Cfg} {rows : List Int} {bd : Int × Int} {z : Cd} {M : Int} (hM : 0 ≤ M) (h : ∀ x ∈ grads, -M ≤ x ∧ x ≤ M) (hl : 1 ≤ c.lambda) (hz : partL g grads c rows bd = some z) (h1 : bd.1 ≤ M) (h2 : -M ≤ bd.2) :
  (-M ≤ sideL c bd z ∧ sideL c bd z ≤ M) ∧ (-M ≤ sideR c bd z ∧ sideR c bd z ≤ M) := by
 obtain ⟨f, k, _, _, rfl⟩ := partL_in hz
 exact ⟨leafV_abs hM (by exact Int.natCast_nonneg _) hl (sumR_abs hM h _) h1 h2, leafV_abs hM (by exact Int.natCast_nonneg _) hl (sumR_abs hM h _) h1 h2⟩
theorem sides_abs {sign : Int} {b : Int × Int} {p q M : Int} (hM : 0 ≤ M) (hp : -M ≤ p ∧ p ≤ M) (hq : -M ≤ q ∧ q ≤ M) (h1 : b.1 ≤ M) (h2 : -M ≤ b.2) :
  ((sidesL sign b p q).1.1 ≤ M ∧ -M ≤ (sidesL sign b p q).1.2) ∧ ((sidesL sign b p q).2.1 ≤ M ∧ -M ≤ (sidesL sign b p q).2.2) := by
 have hm := midV_abs hp hq h1 h2
 unfold sidesL
 split
 ·exact ⟨⟨h1, hm.1⟩, ⟨hm.2, h2⟩⟩
 ·split
  ·exact ⟨⟨hm.2, h2⟩, ⟨h1, hm.1⟩⟩
  ·exact ⟨⟨h1, h2⟩, ⟨h1, h2⟩⟩
theorem grown_abs {g : Grd} {grads : List Int} {c : Cfg} (ht : taskP g grads c) {M : Int} (hM : 0 ≤ M) (hM2 : M ≤ 1099511627776) (h : ∀ x ∈ grads, -M ≤ x ∧ x ≤ M) : ∀ n ∈ growL g grads c, -M ≤ n.v ∧ n.v ≤ M := fun n hn => by
 have hlam := (cfgP.lam ht.2.1).1
 have hk : ∀ (j L : Nat) (x : Itm) (z : Cd), (x.bd.1 ≤ M ∧ -M ≤ x.bd.2) → itmP g c x → partI g grads c x = some z → (growL g grads c)[j]? = some (innerI g z L) → j < L → L + 1 < (growL g grads c).length → ((kidL g c x z).bd.1 ≤ M ∧ -M ≤ (kidL g c x z).bd.2) ∧ ((kidR g c x z).bd.1 ≤ M ∧ -M ≤ (kidR g c x z).bd.2) := fun j L x z hx _ hz _ _ _ => by
  have hz2 : partL g grads c x.rows x.bd = some z := by
   unfold partI at hz
   split at hz
   ·exact hz
   ·cases hz
  obtain ⟨a, b⟩ := side_abs hM h hlam hz2 hx.1 hx.2
  exact sides_abs hM a b hx.1 hx.2
 obtain ⟨K, hK, he⟩ := grow_fin ht
 obtain ⟨hp, _⟩ := grow_shape ht K (by omega)
 have hlen : (growL g grads c).length = K := by rw [← grow_end hp he]; exact hp.out
 have hq : quL g grads c = (growK g grads c K).1 := by
  unfold quL
  rw [show 31 = K + (31 - K) by omega, grow_stop (by omega)]
 obtain ⟨j, hj⟩ := List.getElem?_of_mem hn
 have hjl := (List.getElem?_eq_some_iff.1 hj).1
 obtain ⟨x, hx, _, hn2⟩ := (grow_node ht).2 j hjl
 rw [hq] at hx
 have hb := items_at ht (fun _ (x : Itm) => x.bd.1 ≤ M ∧ -M ≤ x.bd.2) ⟨by show (-1099511627776 : Int) ≤ M; omega, by show -M ≤ (1099511627776 : Int); omega⟩ hk K (by omega) j x hx
 rcases hn2 with ⟨_, e⟩ | ⟨z, _, e, _⟩
 ·rw [hj] at e
  cases e
  exact leafV_abs hM (by exact Int.natCast_nonneg _) hlam (sumR_abs hM h _) hb.1 hb.2
 ·rw [hj] at e
  cases e
  exact ⟨by show -M ≤ (0 : Int); omega, hM⟩
end Go.H.S
namespace Go.H.S
open Go Go.Proofs Go.H
def trainK (t : Tbl) (c : Cfg) (g : Grd) : Nat → List Int × List (List Nd)
 | 0 => (firstP t, [])
 | k + 1 => (addL (shrT c (growL g (resL t.ys (trainK t c g k).1) c)) t.rows (trainK t c g k).1, (trainK t c g k).2 ++ [shrT c (growL g (resL t.ys (trainK t c g k).1) c)])
theorem trainK_trees (t : Tbl) (c : Cfg) (g : Grd) : ∀ k, (trainK t c g k).2.length = k
 | 0 => rfl
 | k + 1 => by simp [trainK, trainK_trees t c g k]
theorem trainK_len {t : Tbl} {c : Cfg} {g : Grd} (hl : t.ys.length = t.rows.length) : ∀ k, (trainK t c g k).1.length = t.ys.length
 | 0 => by simp [trainK, firstP]
 | k + 1 => by
  have ih := trainK_len (c := c) (g := g) hl k
  show (addL _ _ _).length = _
  rw [addL_len (by omega)]
  exact ih
theorem res_next {tr : List Nd} {rows : List (List Int)} {ys ps : List Int} {M : Int} (h : ∀ x ∈ resL ys ps, -M ≤ x ∧ x ≤ M) (hv : ∀ r, -M ≤ evalL tr r ∧ evalL tr r ≤ M) : ∀ x ∈ resL ys (addL tr rows ps), -(2 * M) ≤ x ∧ x ≤ 2 * M := by
 intro x hx
 obtain ⟨k, hk⟩ := List.getElem?_of_mem hx
 rw [resL, List.getElem?_zipWith, addL, List.getElem?_zipWith] at hk
 cases h1 : ys[k]? with
 | none => rw [h1] at hk; simp at hk
 | some y =>
  cases h2 : ps[k]? with
  | none => rw [h1, h2] at hk; simp at hk
  | some p =>
   cases h3 : rows[k]? with
   | none => rw [h1, h2, h3] at hk; simp at hk
   | some r =>
    rw [h1, h2, h3] at hk
    simp at hk
    subst hk
    have hm : (resL ys ps)[k]? = some (y - p) := by rw [resL, List.getElem?_zipWith, h1, h2]
    have a := h _ (List.mem_of_getElem? hm)
    have b := hv r
    omega
theorem base_abs {ys : List Int} {B : Int} (h0 : 0 ≤ B) (h1 : 1 ≤ ys.length) (h : ∀ y ∈ ys, -B ≤ y ∧ y ≤ B) : -B ≤ baseL ys ∧ baseL ys ≤ B := by
 have hs := sumI_abs ys h
 unfold baseL
 exact ⟨(Int.le_ediv_iff_mul_le (by omega)).2 (by rw [Int.neg_mul]; exact hs.1), Int.ediv_le_of_le_mul (by omega) hs.2⟩
theorem res_first {t : Tbl} (hv : tabV t) : ∀ x ∈ resL t.ys (firstP t), -4294967296 ≤ x ∧ x ≤ 4294967296 := by
 have hb := base_abs (B := 2147483647) (by decide) (by have := hv.yl; have := hv.r1; omega) hv.yv
 have := resL_abs (A := 2147483647) (B := 2147483647) hv.yv (ps := firstP t) (fun p hp => by
  unfold firstP at hp
  rw [List.mem_replicate] at hp
  rw [hp.2]; exact hb)
 intro x hx
 have := this x hx
 omega
theorem trainK_res {t : Tbl} {c : Cfg} {g : Grd} (hv : tabV t) (ht : ∀ k, k < 8 → (∀ x ∈ resL t.ys (trainK t c g k).1, -1099511627776 ≤ x ∧ x ≤ 1099511627776) → taskP g (resL t.ys (trainK t c g k).1) c) :
  ∀ k, k ≤ 8 → ∀ x ∈ resL t.ys (trainK t c g k).1, -(4294967296 * 2 ^ k) ≤ x ∧ x ≤ 4294967296 * 2 ^ k
 | 0, _ => by
  have := res_first hv
  intro x hx
  have := this x hx
  simpa using this
 | k + 1, hk => by
  have ih := trainK_res hv ht k (by omega)
  have hM2 : (4294967296 : Int) * 2 ^ k ≤ 549755813888 := by
   have hk7 : k ≤ 7 := by omega
   match k, hk7 with
   | 0, _ | 1, _ | 2, _ | 3, _ | 4, _ | 5, _ | 6, _ | 7, _ => decide
  have hM : (0 : Int) ≤ 4294967296 * 2 ^ k := by
   have : (0 : Int) ≤ 2 ^ k := Int.pow_nonneg (by decide)
   omega
  have htk := ht k (by omega) (fun x hx => by have := ih x hx; omega)
  have hn := res_next ih (tr := shrT c (growL g (resL t.ys (trainK t c g k).1) c)) (rows := t.rows) fun r => evalL_abs hM (shrT_abs hM htk.2.1 (grown_abs htk hM (by omega) ih))
  intro x hx
  have := hn x hx
  rw [Int.pow_succ]
  omega
end Go.H.S
namespace Go.H.S
open Go Go.Proofs Go.H
theorem cut_succ (xs : List Int) (i : Nat) (x : Int) (hx : xs[i]? = some x) : Go.Lib.compactUpTo xs.toArray (i + 1) = Go.Lib.compactUpTo xs.toArray i ++ (if Go.Lib.keeps xs.toArray i then [x] else []) := by
 rw [Go.Lib.compactUpTo_succ]
 have e1 : xs.toArray[i]! = x := by
  rw [getElem!_pos _ i (by simp; exact (List.getElem?_eq_some_iff.1 hx).1)]
  simpa using (List.getElem?_eq_some_iff.1 hx).2
 rw [e1]
theorem cut_mem (xs : List Int) : ∀ i, i ≤ xs.length → ∀ x ∈ Go.Lib.compactUpTo xs.toArray i, ∃ j, j < i ∧ xs[j]? = some x
 | 0, _, x, hx => by simp [Go.Lib.compactUpTo] at hx
 | i + 1, h, x, hx => by
  obtain ⟨y, hy⟩ := get_lt (show i < xs.length by omega)
  rw [cut_succ xs i y hy] at hx
  rcases List.mem_append.1 hx with hx | hx
  ·obtain ⟨j, h1, h2⟩ := cut_mem xs i (by omega) x hx
   exact ⟨j, by omega, h2⟩
  ·split at hx
   ·simp at hx; subst hx; exact ⟨i, by omega, hy⟩
   ·simp at hx
theorem cut_lt {xs : List Int} (hs : xs.Pairwise (· ≤ ·)) : ∀ i, i ≤ xs.length → (Go.Lib.compactUpTo xs.toArray i).Pairwise (· < ·)
 | 0, _ => by simp [Go.Lib.compactUpTo]
 | i + 1, h => by
  obtain ⟨y, hy⟩ := get_lt (show i < xs.length by omega)
  rw [cut_succ xs i y hy, List.pairwise_append]
  refine ⟨cut_lt hs i (by omega), by split <;> simp, fun a ha b hb => ?_⟩
  split at hb
  ·rename_i hk
   simp at hb
   subst hb
   obtain ⟨j, hj, hja⟩ := cut_mem xs i (by omega) a ha
   obtain ⟨z, hz⟩ := get_lt (show i - 1 < xs.length by omega)
   have e1 : xs.toArray[i]! = b := by
    rw [getElem!_pos _ i (by simp; omega)]
    simpa using (List.getElem?_eq_some_iff.1 hy).2
   have e2 : xs.toArray[i - 1]! = z := by
    rw [getElem!_pos _ (i - 1) (by simp; omega)]
    simpa using (List.getElem?_eq_some_iff.1 hz).2
   have hne : z ≠ b := by
    simp [Go.Lib.keeps] at hk
    rcases hk with hk | hk
    ·omega
    ·rw [← e1, ← e2]
     intro q
     apply hk
     simpa using q.symm
   have hle : ∀ (p q : Nat) (u v : Int), p ≤ q → xs[p]? = some u → xs[q]? = some v → u ≤ v := fun p q u v hpq hu hv => by
    rcases Nat.lt_or_ge p q with hlt | hge
    ·obtain ⟨hp1, hp2⟩ := List.getElem?_eq_some_iff.1 hu
     obtain ⟨hq1, hq2⟩ := List.getElem?_eq_some_iff.1 hv
     rw [← hp2, ← hq2]
     exact List.pairwise_iff_getElem.1 hs p q hp1 hq1 hlt
    ·have : p = q := by omega
     subst this
     rw [hu] at hv
     cases hv
     exact Int.le_refl _
   have h1 := hle j (i - 1) a z (by omega) hja hz
   have h2 := hle (i - 1) i z b (by omega) hz hy
   omega
  ·simp at hb
theorem pw_next {l : List Int} (h : l.Pairwise (· < ·)) {j : Nat} {a b : Int} (ha : l[j]? = some a) (hb : l[j + 1]? = some b) : a < b := by
 obtain ⟨h1, h2⟩ := List.getElem?_eq_some_iff.1 ha
 obtain ⟨h3, h4⟩ := List.getElem?_eq_some_iff.1 hb
 rw [← h2, ← h4]
 exact List.pairwise_iff_getElem.1 h j (j + 1) h1 h3 (by omega)
theorem distinctL_lt (xs : List Int) : (distinctL xs).Pairwise (· < ·) := cut_lt (sortL_sorted xs) _ (Nat.le_refl _)
theorem distinctL_mem {xs : List Int} {x : Int} (h : x ∈ distinctL xs) : x ∈ xs := by
 obtain ⟨j, _, hj⟩ := cut_mem (sortL xs) _ (Nat.le_refl _) x h
 have := List.mem_of_getElem? hj
 simpa [sortL] using this
theorem cutK_zero (s : List Int) (n b : Nat) : cutK s n b 0 = none := by simp [cutK]
theorem cutsAll_len7 (s : List Int) (n b : Nat) (hb : 1 ≤ b) : (cutsAll s n b b).length ≤ b - 1 := by
 obtain ⟨k, rfl⟩ : ∃ k, b = k + 1 := ⟨b - 1, by omega⟩
 unfold cutsAll
 rw [List.range_succ_eq_map, List.filterMap_cons, cutK_zero]
 have := List.length_filterMap_le (cutK s n (k + 1)) ((List.range k).map Nat.succ)
 simpa using this
theorem cutsAll_mem {s : List Int} {n b k : Nat} {x : Int} (h : x ∈ cutsAll s n b k) : x = 0 ∨ x ∈ s := by
 unfold cutsAll at h
 obtain ⟨j, _, hj⟩ := List.mem_filterMap.1 h
 unfold cutK at hj
 split at hj
 ·simp only [Option.some.injEq] at hj
  cases hs : s[n * j / b - 1]? with
  | none => rw [hs] at hj; simp at hj; exact .inl hj.symm
  | some v => rw [hs] at hj; simp at hj; subst hj; exact .inr (List.mem_of_getElem? hs)
 ·cases hj
theorem columnL_dec {t : Tbl} (hv : tabV t) (f : Nat) : ∀ x ∈ columnL t f, decP x := by
 intro x hx
 unfold columnL at hx
 obtain ⟨r, hr, e⟩ := List.mem_map.1 hx
 cases hf : r[f]? with
 | none => rw [hf] at e; simp at e; subst e; exact ⟨by decide, by decide⟩
 | some y => rw [hf] at e; simp at e; subst e; exact hv.rv r hr _ (List.mem_of_getElem? hf)
theorem cutsT_p {t : Tbl} (hv : tabV t) {b : Nat} (hb : 2 ≤ b ∧ b ≤ 8) (f : Nat) : cutsP (cutsT t b f) := by
 refine ⟨fun j x y hx hy => pw_next (distinctL_lt _) hx hy, ?_, fun x hx => ?_⟩
 ·have h1 := distinctL_len (cutsAll (sortL (columnL t f)) (columnL t f).length b b)
  have h2 := cutsAll_len7 (sortL (columnL t f)) (columnL t f).length b (by omega)
  show (distinctL _).length ≤ 7
  omega
 ·have h1 := distinctL_mem hx
  rcases cutsAll_mem h1 with h | h
  ·subst h; exact ⟨by decide, by decide⟩
  ·exact columnL_dec hv f x (by simpa [sortL] using h)
theorem cutsT_at {t : Tbl} {b f : Nat} (hf : f < t.names.length) : (gridT t b).cuts[f]? = some (cutsT t b f) := by simp [gridT, cutsTo, hf]
theorem binsT_at {t : Tbl} {b f : Nat} (hf : f < t.names.length) : (gridT t b).bins[f]? = some (binsT t b f) := by simp [gridT, binsTo, hf]
theorem binsT_len (t : Tbl) (b f : Nat) : (binsT t b f).length = t.rows.length := by simp [binsT, columnL]
theorem gridT_rows {t : Tbl} (hv : tabV t) (b : Nat) : rowsIn (gridT t b) = t.rows.length := by
 have h := binsT_at (b := b) (f := 0) (t := t) (by have := hv.n1; omega)
 unfold rowsIn
 cases hb : (gridT t b).bins with
 | nil => rw [hb] at h; cases h
 | cons x r => rw [hb] at h; simp at h; subst h; exact binsT_len t b 0
theorem gridT_ok {t : Tbl} (hv : tabV t) {b : Nat} (hb : 2 ≤ b ∧ b ≤ 8) : gridP (gridT t b) := by
 have hc : (gridT t b).cuts.length = t.names.length := cutsTo_len t b _
 have hbl : (gridT t b).bins.length = t.names.length := binsTo_len t b _
 have hr := gridT_rows hv b
 refine ⟨by rw [hc]; exact ⟨hv.n1, hv.n4⟩, by omega, by rw [hr]; exact ⟨hv.r1, hv.r40⟩, fun k c bs h1 h2 => ?_⟩
 have hk : k < t.names.length := by have := (List.getElem?_eq_some_iff.1 h1).1; omega
 rw [cutsT_at hk] at h1
 rw [binsT_at hk] at h2
 cases h1
 cases h2
 refine ⟨cutsT_p hv hb k, by rw [hr, binsT_len], fun x hx => ?_⟩
 unfold binsT at hx
 obtain ⟨v, _, e⟩ := List.mem_map.1 hx
 have := binOfL_le (cutsT t b k) v
 omega
theorem gridT_sm {t : Tbl} (hv : tabV t) {b : Nat} (hb : b ≤ 8) : smG (gridT t b) := by
 have hc : (gridT t b).cuts.length = t.names.length := cutsTo_len t b _
 have hbl : (gridT t b).bins.length = t.names.length := binsTo_len t b _
 have := hv.n4
 have := hv.r40
 refine ⟨by omega, by omega, fun x hx => ?_, fun x hx => ?_⟩
 ·simp only [gridT, cutsTo] at hx
  obtain ⟨f, _, rfl⟩ := List.mem_map.1 hx
  have := cutsT_len t (f := f) hb
  omega
 ·simp only [gridT, binsTo] at hx
  obtain ⟨f, _, rfl⟩ := List.mem_map.1 hx
  rw [binsT_len]
  omega
theorem train_task {t : Tbl} {c : Cfg} {b : Nat} (hv : tabV t) (hb : 2 ≤ b ∧ b ≤ 8) (hc : cfgP c) (k : Nat) (h : ∀ x ∈ resL t.ys (trainK t c (gridT t b) k).1, -1099511627776 ≤ x ∧ x ≤ 1099511627776) : taskP (gridT t b) (resL t.ys (trainK t c (gridT t b) k).1) c := by
 refine ⟨gridT_ok hv hb, hc, ?_, fun x hx => ?_⟩
 ·rw [gridT_rows hv b, resL_len (trainK_len hv.yl k).symm]
  exact hv.yl
 ·have := h x hx
  omega
theorem two_le {k : Nat} (hk : k ≤ 8) : (4294967296 : Int) * 2 ^ k ≤ 1099511627776 ∧ (0 : Int) ≤ 4294967296 * 2 ^ k := by
 match k, hk with
 | 0, _ | 1, _ | 2, _ | 3, _ | 4, _ | 5, _ | 6, _ | 7, _ | 8, _ => decide
theorem train_res {t : Tbl} {c : Cfg} {b : Nat} (hv : tabV t) (hb : 2 ≤ b ∧ b ≤ 8) (hc : cfgP c) (k : Nat) (hk : k ≤ 8) : ∀ x ∈ resL t.ys (trainK t c (gridT t b) k).1, -(4294967296 * 2 ^ k) ≤ x ∧ x ≤ 4294967296 * 2 ^ k :=
 trainK_res hv (fun k _ h => train_task hv hb hc k h) k hk
theorem train_tk {t : Tbl} {c : Cfg} {b : Nat} (hv : tabV t) (hb : 2 ≤ b ∧ b ≤ 8) (hc : cfgP c) {k : Nat} (hk : k ≤ 8) : taskP (gridT t b) (resL t.ys (trainK t c (gridT t b) k).1) c := by
 refine train_task hv hb hc k fun x hx => ?_
 have h1 := train_res hv hb hc k hk x hx
 have h2 := two_le hk
 omega
theorem train_preds {t : Tbl} {c : Cfg} {b : Nat} (hv : tabV t) (hb : 2 ≤ b ∧ b ≤ 8) (hc : cfgP c) {k : Nat} (hk : k ≤ 8) : ∀ p ∈ (trainK t c (gridT t b) k).1, -2199023255552 ≤ p ∧ p ≤ 2199023255552 := by
 intro p hp
 obtain ⟨i, hi⟩ := List.getElem?_of_mem hp
 have hl := trainK_len (c := c) (g := gridT t b) hv.yl k
 obtain ⟨y, hy⟩ := get_lt (show i < t.ys.length by have := (List.getElem?_eq_some_iff.1 hi).1; omega)
 have hm : (resL t.ys (trainK t c (gridT t b) k).1)[i]? = some (y - p) := by rw [resL, List.getElem?_zipWith, hy, hi]
 have h1 := train_res hv hb hc k hk _ (List.mem_of_getElem? hm)
 have h2 := two_le hk
 have h3 := hv.yv y (List.mem_of_getElem? hy)
 omega
theorem trainK_at (t : Tbl) (c : Cfg) (g : Grd) : ∀ k i, i < k → (trainK t c g k).2[i]? = some (shrT c (growL g (resL t.ys (trainK t c g i).1) c))
 | k + 1, i, h => by
  have hl := trainK_trees t c g k
  show ((trainK t c g k).2 ++ [_])[i]? = _
  rcases Nat.lt_or_ge i k with q | q
  ·rw [List.getElem?_append_left (by omega)]
   exact trainK_at t c g k i q
  ·obtain rfl : i = k := by omega
   rw [List.getElem?_append_right (by omega), hl, Nat.sub_self]
   rfl
end Go.H.S
namespace Go.H.S
open Go Go.Proofs Go.H
attribute [local irreducible] Tri FnSpec FnSpecM FnSpecX FnSpecJ
end Go.H.S
namespace Go.H.S
open Go Go.Proofs Go.H
end Go.H.S
namespace Go.H.S
open Go Go.Proofs Go.H
attribute [local irreducible] Tri FnSpec FnSpecM FnSpecX FnSpecJ FnSpecB
theorem impl_Column_spec (t : Tbl) (f : Nat) (hf : f < t.names.length) (hn : t.names.length ≤ 1000) (hr : t.rows.length ≤ 1048576) (hc : ∀ r ∈ t.rows, r.length ≤ 1048576) : FnSpec PR f_impl_Column [aTb t, ai f] (.c (.ref 0 0 none)) [(0, .arr t_int 1 0 .own (eL cI (columnL t f)))] 1 := by
 have e1 : wSub .i64 (nInt (dLen (eL cS t.names))) 1 = (t.names.length : Int) - 1 := by rw [show nInt (dLen (eL cS t.names)) = (t.names.length : Int) by simp]; exact wSub64 (by omega) (by omega)
 refine FnSpec.intro hT (pf Tryz.func83) rfl (by kernel_rfl) Tryz.ntmps83 rfl ?_
 conv => whnf
 rw [e1]
 refine .inl ⟨_, _, _, impl_within_spec _ _ _, rfl, ?_⟩
 rw [show decide ((0 : Int) ≤ (f : Int) ∧ (f : Int) ≤ (t.names.length : Int) - 1) = true from decide_eq_true (by omega)]
 conv => whnf
 refine tri_loop hT [1, 5, 19, 20, 21] (α := Nat) (fun k => { t := [(1, ai f), (5, .c (.ref 0 0 none)), (19, aIss t.rows), (20, ai t.rows.length), (21, ai k)], h := [(0, .arr t_int 1 0 .own (eL cI ((t.rows.take k).map fun r => (r[f]?).getD 0)))], n := 1, N := 39 })
  (fun k => k ≤ t.rows.length) (fun k => t.rows.length - k) 0 (by (conv => whnf); simp only [List.take_zero, List.map_nil, eL_nil]; first | done | rfl | (rw [show nInt (dLen (eL cIs t.rows)) = (t.rows.length : Int) by simp]; rfl)) (Nat.zero_le _) ?_
 intro k hk
 conv => whnf
 refine ifB_i (fun h1 => ?_) (fun h1 => ?_) <;> (conv => whnf) <;> simp only [eH] at h1
 ·obtain ⟨r, hrk⟩ := get_lt (show k < t.rows.length by omega)
  have hrl := hc r (List.mem_of_getElem? hrk)
  have hstep := column_take (f := f) hrk
  refine idx_at (by simp) hrk ?_
  conv => whnf
  refine ifB_i (fun h2 => ?_) (fun h2 => ?_) <;> (conv => whnf) <;> simp only [eH] at h2
  ·obtain ⟨v, hv⟩ := get_lt (show f < r.length by omega)
   refine idx_at (k := f) rfl hv ?_
   conv => whnf
   refine And.intro (by simp [eL_length, dLen_len]; omega) ?_
   conv => whnf
   refine ⟨k + 1, by omega, by omega, ?_⟩
   ((conv => whnf); simp only [eS, wI (show k < t.rows.length by omega) (by omega)])
   rw [hstep, hv, ← eL_app]
   first | exact ⟨rfl, rfl⟩ | rfl
  ·refine And.intro (by simp [eL_length, dLen_len]; omega) ?_
   conv => whnf
   refine ⟨k + 1, by omega, by omega, ?_⟩
   ((conv => whnf); simp only [eS, wI (show k < t.rows.length by omega) (by omega)])
   rw [hstep, List.getElem?_eq_none (by omega), ← eL_app]
   first | exact ⟨rfl, rfl⟩ | rfl
 ·obtain rfl : k = t.rows.length := by omega
  rw [List.take_length]
  first | done | rfl
theorem sorted_at {s : List Int} (h : s.Pairwise (· ≤ ·)) {i j : Nat} {y z : Int} (hij : i ≤ j) (hy : s[i]? = some y) (hz : s[j]? = some z) : y ≤ z := by
 obtain ⟨h1, h2⟩ := List.getElem?_eq_some_iff.1 hy
 obtain ⟨h3, h4⟩ := List.getElem?_eq_some_iff.1 hz
 rcases Nat.lt_or_ge i j with q | q
 ·rw [← h2, ← h4]
  exact List.pairwise_iff_getElem.1 h i j h1 h3 q
 ·obtain rfl : i = j := by omega
  rw [hy] at hz
  cases hz
  exact Int.le_refl _
theorem cutsAll_sorted {s : List Int} (h : s.Pairwise (· ≤ ·)) (n b : Nat) (hb : 1 ≤ b) (hn : s.length = n) : ∀ k, k ≤ b → (cutsAll s n b k).Pairwise (· ≤ ·) ∧ ∀ x ∈ cutsAll s n b k, ∃ j, j ≤ n * (k - 1) / b - 1 ∧ s[j]? = some x
 | 0, _ => by simp [cutsAll]
 | k + 1, hk => by
  obtain ⟨h1, h2⟩ := cutsAll_sorted h n b hb hn k (by omega)
  rw [cutsAll_step]
  have hmono : n * (k - 1) / b - 1 ≤ n * k / b - 1 := by
   have : n * (k - 1) / b ≤ n * k / b := Nat.div_le_div_right (Nat.mul_le_mul_left n (by omega))
   omega
  cases hc : cutK s n b k with
  | none =>
   simp only [Option.toList_none, List.append_nil, Nat.add_sub_cancel]
   refine ⟨h1, fun x hx => ?_⟩
   obtain ⟨j, hj, hx2⟩ := h2 x hx
   exact ⟨j, by omega, hx2⟩
  | some v =>
   have hv : s[n * k / b - 1]? = some v := by
    unfold cutK at hc
    split at hc
    ·rename_i q
     have hlt : n * k / b - 1 < s.length := by
      have : n * k / b ≤ n := by
       rw [Nat.div_le_iff_le_mul_add_pred (by omega)]
       have := Nat.mul_le_mul_left n (show k ≤ b by omega)
       rw [Nat.mul_comm b n]
       omega
      omega
     obtain ⟨y, hy⟩ := get_lt hlt
     rw [hy] at hc
     simp at hc
     rw [hy, hc]
    ·cases hc
   simp only [Option.toList_some, Nat.add_sub_cancel]
   refine ⟨List.pairwise_append.2 ⟨h1, by simp, fun a ha c hcv => ?_⟩, fun x hx => ?_⟩
   ·simp at hcv
    subst hcv
    obtain ⟨j, hj, hx2⟩ := h2 a ha
    exact sorted_at h (show j ≤ n * k / b - 1 by omega) hx2 hv
   ·rcases List.mem_append.1 hx with hx | hx
    ·obtain ⟨j, hj, hx2⟩ := h2 x hx
     exact ⟨j, by omega, hx2⟩
    ·simp at hx
     subst hx
     exact ⟨_, Nat.le_refl _, hv⟩
theorem sortL_of {s : List Int} (h : s.Pairwise (· ≤ ·)) : sortL s = s := (sortL_uniq h (List.Perm.refl _)).symm
set_option maxHeartbeats 4000000 in
theorem impl_CutsOf_spec (xs : List Int) (b : Nat) (hb : 2 ≤ b ∧ b ≤ 8) (hx : 1 ≤ xs.length ∧ xs.length ≤ 40) : FnSpec PR f_impl_CutsOf [aIs xs, ai b] (.c (.ref 0 0 none)) [(0, .arr t_int 1 0 .own (eL cI (cutsOfL xs b)))] 1 := by
 have eX : nInt (dLen (eL cI xs)) = (xs.length : Int) := by simp
 have hso := sortL_sorted xs
 refine FnSpec.intro hT (pf Tryz.func82) rfl (by kernel_rfl) Tryz.ntmps82 rfl ?_
 conv => whnf
 refine .inl ⟨_, _, _, impl_within_spec _ _ _, rfl, ?_⟩
 rw [show decide ((2 : Int) ≤ (b : Int) ∧ (b : Int) ≤ 8) = true from decide_eq_true (by omega)]
 conv => whnf
 rw [eX]
 refine .inl ⟨_, _, _, impl_within_spec _ _ _, rfl, ?_⟩
 rw [show decide ((1 : Int) ≤ (xs.length : Int) ∧ (xs.length : Int) ≤ 40) = true from decide_eq_true (by omega)]
 conv => whnf
 refine .inl ⟨_, _, _, impl_SortInts_spec xs (by omega), rfl, ?_⟩
 have hsl := sortL_len xs
 have hd : cutsOfL xs b = distinctL (cutsAll (sortL xs) xs.length b b) := rfl
 rw [hd]
 clear hd
 generalize sortL xs = s at *
 generalize hnn : xs.length = n at *
 conv => whnf
 have h0 : cutsAll s n b 1 = [] := by simp [cutsAll, cutK]
 have heD : distinctL (cutsAll s n b b) = Go.Lib.compact (cutsAll s n b b) := by
  show Go.Lib.compact (sortL (cutsAll s n b b)) = _
  rw [sortL_of (cutsAll_sorted hso n b (by omega) hsl b (Nat.le_refl _)).1]
 refine tri_loop hT [0, 1, 5, 6, 7] (α := Nat) (fun k => { t := [(0, aIs xs), (1, ai b), (5, .c (.ref 0 0 none)), (6, aIs s), (7, ai k)], h := [(0, .arr t_int 1 0 .own (eL cI (cutsAll s n b k)))], n := 1, N := 59 })
  (fun k => 1 ≤ k ∧ k ≤ b) (fun k => b - k) 1 (by ((conv => whnf); simp only [eS, h0, eL_nil, partOf_none]); first | done | rfl | exact ⟨rfl, rfl⟩) (by omega) ?_
 intro k ⟨hk1, hk⟩
 conv => whnf
 refine ifB_i (fun q1 => ?_) (fun q1 => ?_) <;> (conv => whnf) <;> simp only [eH] at q1
 ·have hnk : n * k ≤ 320 := by
   have : n * k ≤ 40 * 8 := Nat.mul_le_mul hx.2 (by omega)
   omega
  have hnb : n * k / b < n := by
   rw [Nat.div_lt_iff_lt_mul (by omega)]
   exact Nat.mul_lt_mul_of_pos_left (by omega) (by omega)
  have hc : (n : Int) * (k : Int) = ((n * k : Nat) : Int) := (Int.natCast_mul n k).symm
  have e1 : wMul .i64 (n : Int) (k : Int) = ((n * k : Nat) : Int) := by rw [wMul64 (by rw [hc]; omega) (by rw [hc]; omega), hc]
  have e2 : wQuo .i64 ((n * k : Nat) : Int) (b : Int) = ((n * k / b : Nat) : Int) := by rw [wQuo_small (by omega) (by omega)]; rfl
  have hstep := cutsAll_step s n b k
  have hcl := cutsAll_len s n b k
  have hck : cutK s n b k = if 1 ≤ n * k / b ∧ (s[n * k / b - 1]?).getD 0 < (s[n - 1]?).getD 0 then some ((s[n * k / b - 1]?).getD 0) else none := rfl
  rw [eX]
  refine And.intro (by unfold NZ; omega) ?_
  rw [e1]
  conv => whnf
  rw [e2]
  generalize n * k / b = i at *
  obtain ⟨z, hz⟩ := get_lt (show n - 1 < s.length by omega)
  have e4 : wSub .i64 (nInt (dLen (eL cI s))) 1 = ((n - 1 : Nat) : Int) := by rw [show nInt (dLen (eL cI s)) = (n : Int) by simp [hsl], wSub64] <;> omega
  refine tri_conf hT hmix (by kernel_rfl) ?_
  conv => whnf
  cases q2 : iLe 1 (i : Int) <;> simp only [eH] at q2 <;> (conv => whnf)
  ·repeat' (first | (refine And.intro (fun q => ?_) (fun q => ?_) <;> cases q <;> (conv => whnf)) | fail)
   refine ⟨k + 1, by omega, by omega, ?_⟩
   rw [if_neg (by omega)] at hck
   rw [hck] at hstep
   simp only [Option.toList_none, List.append_nil] at hstep
   ((conv => whnf); simp only [eS, wI (show k < b by omega) (by omega)])
   rw [hstep]
  ·obtain ⟨y, hy⟩ := get_lt (show i - 1 < s.length by omega)
   have hyz := sorted_at hso (show i - 1 ≤ n - 1 by omega) hy hz
   have e3 : wSub .i64 (i : Int) 1 = ((i - 1 : Nat) : Int) := by rw [wSub64] <;> omega
   rw [hy, hz] at hck
   simp only [Option.getD_some] at hck
   repeat' first
    | (refine And.intro (fun q => ?_) (fun q => ?_) <;> cases q <;> (conv => whnf))
    | (refine idx_at e3 hy ?_; (conv => whnf))
    | (refine idx_at e4 hz ?_; (conv => whnf))
   refine ifB_i (fun q3 => ?_) (fun q3 => ?_) <;> (conv => whnf) <;> simp only [eH] at q3
   ·refine idx_at e3 hy ?_
    conv => whnf
    refine And.intro (by simp [eL_length, dLen_len]; omega) ?_
    conv => whnf
    rw [if_pos ⟨by omega, by omega⟩] at hck
    rw [hck] at hstep
    simp only [Option.toList_some] at hstep
    refine ⟨k + 1, by omega, by omega, ?_⟩
    ((conv => whnf); simp only [eS, wI (show k < b by omega) (by omega)])
    rw [hstep, ← eL_app]
    first | exact ⟨rfl, rfl⟩ | rfl
   ·rw [if_neg (by omega)] at hck
    rw [hck] at hstep
    simp only [Option.toList_none, List.append_nil] at hstep
    refine ⟨k + 1, by omega, by omega, ?_⟩
    ((conv => whnf); simp only [eS, wI (show k < b by omega) (by omega)])
    rw [hstep]
 ·obtain rfl : k = b := by omega
  have hcl := cutsAll_len s n k k
  rw [heD]
  refine .inr (.inr (.inl ⟨0, ?_⟩))
  conv => whnf
  refine .inr ⟨_, slices_Compact_spec (cutsAll s n k k) (by omega), ?_⟩
  conv => whnf
  first | done | rfl
end Go.H.S
