/- Library, part S: spans in a right tree (plain). -/
import Derived.Test.YtdolkacinfjhcaaGreatLV
import Derived.Test.YtdolkacinfjhcaaGreatLNC
import Derived.Test.YtdolkacinfjhcaaGreatLY
import Derived.Test.YtdolkacinfjhcaaGreatLQO
import Derived.Test.YtdolkacinfjhcaaGreatLPQ
import Derived.Test.YtdolkacinfjhcaaGreatLPL
import Derived.Test.YtdolkacinfjhcaaGreatLPS
set_option linter.unusedSimpArgs false
set_option linter.unusedVariables false
set_option maxRecDepth 100000
namespace Go.H.S
open Go Go.Proofs Go.H
def IsSpan (S : Int → Prop) (a : Int × Int × Bool) : Prop :=
 (a.2.2 = true → S a.1 ∧ S a.2.1 ∧ ∀ v, S v → a.1 ≤ v ∧ v ≤ a.2.1) ∧ (a.2.2 = false → ∀ v, ¬ S v)
theorem IsSpan.congr {S S' : Int → Prop} {a : Int × Int × Bool} (h : IsSpan S a) (he : ∀ v, S v ↔ S' v) : IsSpan S' a := by
 have : S = S' := funext fun v => propext (he v)
 rw [← this]; exact h
end Go.H.S
namespace Go.H.S
open Go Go.Proofs Go.H
inductive Ends (t : List Nd) (g : Nd → Bool) : Int → Nat → Prop
 | leaf {j : Nat} {n : Nd} : t[j]? = some n → n.f = -1 → Ends t g j j
 | left {j k : Nat} {n : Nd} : t[j]? = some n → n.f ≠ -1 → g n = true → Ends t g n.l k → Ends t g j k
 | right {j k : Nat} {n : Nd} : t[j]? = some n → n.f ≠ -1 → g n = false → Ends t g n.r k → Ends t g j k
end Go.H.S
namespace Go.H.S
open Go Go.Proofs Go.H
attribute [local irreducible] Tri FnSpec FnSpecM FnSpecX FnSpecJ FnSpecB
def rowAt (row : List Int) (f : Int) : Int := (row[f.toNat]?).getD 0
def goL (row : List Int) (n : Nd) : Bool := iLe (rowAt row n.f) n.c
def routeL (t : List Nd) (row : List Int) : Nat → Int → Option (List Int)
 | 0, _ => none
 | m + 1, x => if 0 ≤ x then match t[x.toNat]? with
   | none => none
   | some n => if n.f = -1 then some [x] else if 0 ≤ n.f ∧ n.f ≤ (row.length : Int) - 1 then (routeL t row m (if goL row n = true then n.l else n.r)).map (x :: ·) else none
  else none
def endL (t : List Nd) (row : List Int) : Int := match routeL t row (t.length + 1) 0 with
 | some l => l.getLast?.getD (-1)
 | none => -1
def evalL (t : List Nd) (row : List Int) : Int := if endL t row < 0 then 0 else match t[(endL t row).toNat]? with | some n => n.v | none => 0
theorem routeL_ends {t : List Nd} {row : List Int} : ∀ {m : Nat} {x : Int} {l : List Int}, routeL t row m x = some l → ∃ (k : Nat) (n : Nd), l.getLast? = some (k : Int) ∧ t[k]? = some n ∧ n.f = -1 ∧ Ends t (goL row) x k ∧ 0 < l.length ∧ l.length ≤ m
 | 0, x, l, h => by simp [routeL] at h
 | m + 1, x, l, h => by
  simp only [routeL] at h
  split at h
  ·rename_i h0
   split at h
   ·cases h
   ·rename_i n hn
    obtain ⟨j, rfl⟩ : ∃ j : Nat, x = j := ⟨x.toNat, by omega⟩
    rw [show (j : Int).toNat = j by simp] at hn
    split at h
    ·rename_i hf
     cases h
     exact ⟨j, n, by simp, hn, hf, .leaf hn hf, by simp, by simp⟩
    ·rename_i hf
     split at h
     ·simp only [Option.map_eq_some_iff] at h
      obtain ⟨r, hr, rfl⟩ := h
      obtain ⟨k, n', h1, h2, h3, h4, h5, h6⟩ := routeL_ends hr
      refine ⟨k, n', ?_, h2, h3, ?_, by simp, by simp; omega⟩
      ·cases r with
       | nil => simp at h5
       | cons a b => simpa [List.getLast?_cons_cons] using h1
      ·cases hg : goL row n with
       | true => rw [hg] at h4; exact .left hn hf hg h4
       | false => rw [hg] at h4; exact .right hn hf hg h4
     ·cases h
  ·cases h
end Go.H.S
namespace Go.H.S
open Go Go.Proofs Go.H
end Go.H.S
namespace Go.H.S
open Go Go.Proofs Go.H
attribute [local irreducible] Tri FnSpec FnSpecM FnSpecX FnSpecJ FnSpecB
theorem laws_big_spec (code : List Int) : FnSpec PR f_laws_big [.c (.d (.sl 1 (eL cU code)))] (ab (iLt 1048576 code.length)) [] 0 := by
 refine FnSpec.intro hT (pf Tryz.func29) rfl (by kernel_rfl) Tryz.ntmps29 rfl ?_
 conv => whnf
 rw [show nInt (dLen (eL cU code)) = (code.length : Int) by simp]
end Go.H.S
namespace Go.H.S
open Go Go.Proofs Go.H
attribute [local irreducible] Tri FnSpec FnSpecM FnSpecX FnSpecJ FnSpecB
theorem laws_sameInts_self (l : List Int) (hl : l.length ≤ 1048576) : FnSpec PR f_laws_sameInts [aIs l, aIs l] (ab true) [] 0 := by
 refine FnSpec.intro hT (pf Tryz.func76) rfl (by kernel_rfl) Tryz.ntmps76 rfl ?_
 conv => whnf
 refine ifB_i (fun h1 => ?_) (fun h1 => ?_) <;> (conv => whnf)
 ·simp at h1
 refine tri_loop hT [0, 1, 5] (α := Nat) (fun x => { t := [(0, aIs l), (1, aIs l), (5, ai x)], h := [], n := 0, N := 26 })
  (fun x => x ≤ l.length) (fun x => l.length - x) 0 (by ((conv => whnf); simp only [eS])) (Nat.zero_le _) ?_
 intro i hi
 conv => whnf
 refine ifB_i (fun h1 => ?_) (fun h1 => ?_) <;> (conv => whnf) <;> simp only [eH] at h1
 ·obtain ⟨y, hy⟩ := get_lt (show i < l.length by omega)
  refine tri_conf hT hmix (by kernel_rfl) ?_
  conv => whnf
  repeat' first
   | (refine And.intro (fun q => ?_) (fun q => ?_) <;> cases q <;> (conv => whnf))
   | (refine idx_at (by simp) hy ?_; (conv => whnf))
   | fail
  refine ifB_i (fun h2 => ?_) (fun h2 => ?_) <;> (conv => whnf) <;> simp only [eH] at h2
  ·exact absurd rfl h2
  ·refine ⟨i + 1, by omega, by omega, ?_⟩
   ((conv => whnf); simp only [eS])
   exact wI (show i < l.length by omega) (by omega)
end Go.H.S
namespace Go.H.S
open Go Go.Proofs Go.H
attribute [local irreducible] Tri FnSpec FnSpecM FnSpecX FnSpecJ FnSpecB
end Go.H.S
namespace Go.H.S
open Go Go.Proofs Go.H
attribute [local irreducible] Tri FnSpec FnSpecM FnSpecX FnSpecJ
end Go.H.S
namespace Go.H.S
open Go Go.Proofs Go.H
attribute [local irreducible] Tri FnSpec FnSpecM FnSpecX FnSpecJ FnSpecB
set_option maxHeartbeats 1000000 in
theorem spec_l18Way_spec (t : List Nd) (row : List Int) (hl : t.length ≤ 1048576) (hr : row.length ≤ 1048576) : FnSpec PR f_spec_l18Way [aT t, aIs row] (.c (.ref 0 0 none)) [(0, .arr t_int 1 0 .own (eL cI ((routeL t row (t.length + 1) 0).getD [])))] 1 := by
 refine FnSpec.intro hT (pf Tryz.func312) rfl (by kernel_rfl) Tryz.ntmps312 rfl ?_
 conv => whnf
 refine tri_loop hT [1, 2, 5, 6, 7] (α := Nat × Int × List Int) (fun x => { t := [(1, aIs row), (2, .c (.ptr 0 0)), (5, .c (.ref 1 0 none)), (6, ai x.2.1), (7, ai x.1)], h := [(0, .box t_impl_Tree (cTr t)), (1, .arr t_int 1 0 .own (eL cI x.2.2))], n := 2, N := 59 })
  (fun x => x.1 ≤ t.length + 1 ∧ x.2.2.length ≤ x.1 ∧ (routeL t row (t.length + 1 - x.1) x.2.1).map (x.2.2 ++ ·) = routeL t row (t.length + 1) 0) (fun x => t.length + 1 - x.1) (0, 0, []) (by ((conv => whnf); simp only [eS, eL_nil])) ⟨by simp, by simp, by simp⟩ ?_
 intro ⟨k, x, o⟩ ⟨hk, ho, he⟩
 dsimp only at hk ho he
 conv => whnf
 rw [show nInt (dLen (eL cN t)) = (t.length : Int) by simp]
 refine ifB_i (fun h1 => ?_) (fun h1 => ?_) <;> (conv => whnf) <;> simp only [eH] at h1
 ·obtain ⟨m, hm⟩ : ∃ m, t.length + 1 - k = m + 1 := ⟨t.length - k, by omega⟩
  rw [hm, routeL] at he
  rw [show nInt (dLen (eL cN t)) = (t.length : Int) by simp]
  rw [show wSub .i64 (t.length : Int) 1 = (t.length : Int) - 1 from wSub64 (by omega) (by omega)]
  refine .inl ⟨_, _, _, spec_l1In_spec _ _ _, rfl, ?_⟩
  conv => whnf
  refine ifB_i (fun h2 => ?_) (fun h2 => ?_) <;> (conv => whnf)
  ·simp at h2
   have hz : routeL t row (t.length + 1) 0 = none := by
    rw [← he]
    split
    ·rename_i h3
     have : t[x.toNat]? = none := List.getElem?_eq_none (by have := h2 h3; omega)
     simp [this]
    ·rfl
   rw [hz]
   simp [eL_nil]
  ·simp at h2
   obtain ⟨j, rfl⟩ : ∃ j : Nat, x = j := ⟨x.toNat, by omega⟩
   obtain ⟨n, hn⟩ := get_lt (show j < t.length by omega)
   rw [if_pos h2.1, show (j : Int).toNat = j by simp, hn] at he
   dsimp only at he
   refine idx_at (by simp) hn ?_
   conv => whnf
   refine And.intro (by unfold Fits; simp; omega) ?_
   conv => whnf
   refine .inl ⟨_, _, _, spec_l17Inner_spec n, rfl, ?_⟩
   conv => whnf
   refine ifB_i (fun h3 => ?_) (fun h3 => ?_) <;> (conv => whnf) <;> simp [bNot, iEq] at h3
   ·rw [if_pos h3] at he
    simp only [Option.map_some] at he
    rw [← he, Option.getD_some, ← eL_app]
    rfl
   ·rw [if_neg h3] at he
    refine .inl ⟨_, _, _, spec_l1In_spec _ _ _, rfl, ?_⟩
    conv => whnf
    have er : wSub .i64 (nInt (dLen (eL cI row))) 1 = (row.length : Int) - 1 := by rw [show nInt (dLen (eL cI row)) = (row.length : Int) by simp]; exact wSub64 (by omega) (by omega)
    refine ifB_i (fun h4 => ?_) (fun h4 => ?_) <;> (conv => whnf)
    ·rw [er] at h4
     simp at h4
     rw [if_neg (by omega)] at he
     simp only [Option.map_none] at he
     rw [← he]
     simp [eL_nil]
    ·rw [er] at h4
     simp at h4
     rw [if_pos (by omega)] at he
     obtain ⟨q, hq⟩ : ∃ q : Nat, n.f = q := ⟨n.f.toNat, by omega⟩
     obtain ⟨v, hv⟩ := get_lt (show q < row.length by omega)
     have hg : goL row n = iLe v n.c := by simp [goL, rowAt, hq, hv]
     refine tri_conf hT hmix (by kernel_rfl) ?_
     conv => whnf
     repeat' (first | (refine And.intro (fun q => ?_) (fun q => ?_) <;> cases q <;> (conv => whnf)) | fail)
     rw [hq]
     refine idx_at (by simp) hv ?_
     conv => whnf
     repeat' (first | (refine And.intro (fun q => ?_) (fun q => ?_) <;> cases q <;> (conv => whnf)) | fail)
     have hm2 : t.length + 1 - (k + 1) = m := by omega
     rw [hg] at he
     refine ifB_i (fun h5 => ?_) (fun h5 => ?_) <;> (conv => whnf)
     ·refine ⟨(k + 1, n.l, o ++ [(j : Int)]), by dsimp only; omega, ⟨by dsimp only; omega, by simp; omega, ?_⟩, ?_⟩
      ·dsimp only
       rw [hm2, ← he, if_pos h5]
       cases routeL t row m n.l <;> simp
      ·((conv => whnf); simp only [eS])
       refine ⟨wI (show k < t.length + 1 by omega) (by omega), ?_⟩
       rw [← eL_app]
       rfl
     ·refine ⟨(k + 1, n.r, o ++ [(j : Int)]), by dsimp only; omega, ⟨by dsimp only; omega, by simp; omega, ?_⟩, ?_⟩
      ·dsimp only
       rw [hm2, ← he, if_neg (by simp [h5])]
       cases routeL t row m n.r <;> simp
      ·((conv => whnf); simp only [eS])
       refine ⟨wI (show k < t.length + 1 by omega) (by omega), ?_⟩
       rw [← eL_app]
       rfl
 ·have : t.length + 1 - k = 0 := by omega
  rw [this, routeL] at he
  simp only [Option.map_none] at he
  rw [← he]
  simp [eL_nil]
theorem route_end (t : List Nd) (row : List Int) : ((routeL t row (t.length + 1) 0).getD [] = [] ∧ endL t row = -1) ∨
  ((routeL t row (t.length + 1) 0).getD []).getLast? = some (endL t row) ∧ 0 < ((routeL t row (t.length + 1) 0).getD []).length ∧ ((routeL t row (t.length + 1) 0).getD []).length ≤ t.length + 1 := by
 cases hx : routeL t row (t.length + 1) 0 with
 | none => exact .inl ⟨rfl, by rw [endL, hx]⟩
 | some l =>
  obtain ⟨k, n, h1, h2, h3, h4, h5, h6⟩ := routeL_ends hx
  exact .inr ⟨by rw [endL, hx]; simp [h1], h5, h6⟩
theorem spec_RouteTo_spec (t : List Nd) (row : List Int) (hl : t.length ≤ 1048576) (hr : row.length ≤ 1048576) : FnSpec PR f_spec_RouteTo [aT t, aIs row] (ai (endL t row)) [] 0 := by
 have hw := spec_l18Way_spec t row hl hr
 have he := route_end t row
 generalize endL t row = e at *
 generalize (routeL t row (t.length + 1) 0).getD [] = l at *
 refine FnSpec.intro hT (pf Tryz.func274) rfl (by kernel_rfl) Tryz.ntmps274 rfl ?_
 conv => whnf
 refine .inl ⟨_, _, _, hw, rfl, ?_⟩
 conv => whnf
 rw [show nInt (lenRE (eL cI l) none) = (l.length : Int) by simp [lenRE]]
 refine ifB_i (fun h7 => ?_) (fun h7 => ?_) <;> (conv => whnf) <;> simp only [eH] at h7
 ·rcases he with ⟨_, h1⟩ | ⟨_, h1, _⟩
  ·rw [h1]
  ·omega
 ·rcases he with ⟨h1, _⟩ | ⟨h1, h2, h3⟩
  ·subst h1
   exact absurd rfl h7
  ·rw [show nInt (lenRE (eL cI l) none) = (l.length : Int) by simp [lenRE]]
   rw [show wSub .i64 (l.length : Int) 1 = ((l.length - 1 : Nat) : Int) by rw [wSub64] <;> omega]
   refine ref_at rfl (by simp; omega) ?_
   conv => whnf
   refine ld_at (k := l.length - 1) (by simp) (by rw [← List.getLast?_eq_getElem?]; exact h1) ?_
   conv => whnf
theorem spec_EvalTree_spec (t : List Nd) (row : List Int) (hl : t.length ≤ 1048576) (hr : row.length ≤ 1048576) : FnSpec PR f_spec_EvalTree [aT t, aIs row] (ai (evalL t row)) [] 0 := by
 refine FnSpec.intro hT (pf Tryz.func187) rfl (by kernel_rfl) Tryz.ntmps187 rfl ?_
 conv => whnf
 refine .inl ⟨_, _, _, spec_RouteTo_spec t row hl hr, rfl, ?_⟩
 conv => whnf
 refine ifB_i (fun h1 => ?_) (fun h1 => ?_) <;> (conv => whnf) <;> simp only [eH] at h1
 ·rw [evalL, if_pos h1]
 ·have hz : ∃ (k : Nat) (n : Nd), endL t row = k ∧ t[k]? = some n := by
   unfold endL at h1 ⊢
   cases hx : routeL t row (t.length + 1) 0 with
   | none => rw [hx] at h1; simp at h1
   | some l =>
    obtain ⟨k, n, h2, h3, _⟩ := routeL_ends hx
    exact ⟨k, n, by simp [h2], h3⟩
  obtain ⟨k, n, hk, hn⟩ := hz
  rw [hk]
  refine idx_at (by simp) hn ?_
  conv => whnf
  rw [evalL, hk, if_neg (by omega), show (k : Int).toNat = k by simp, hn]
end Go.H.S
namespace Go.H.S
open Go Go.Proofs Go.H
theorem shapeL_snoc (ft : Int) (n : Nd) : ∀ (l : List Nd) (i next : Int), shapeL ft (l ++ [n]) i next = (shapeL ft l i next).bind fun m => shapeL ft [n] (i + l.length) m
 | [], i, next => by simp [shapeL]
 | x :: r, i, next => by
  simp only [List.cons_append, shapeL]
  split
  ·split
   ·rfl
   ·rw [shapeL_snoc ft n r (i + 1) next, show i + 1 + (r.length : Int) = i + ((x :: r).length : Nat) by simp; omega]; rfl
  ·split
   ·rfl
   ·rw [shapeL_snoc ft n r (i + 1) (next + 2), show i + 1 + (r.length : Int) = i + ((x :: r).length : Nat) by simp; omega]; rfl
theorem shape_leafI {grads : List Int} {c : Cfg} {x : Itm} (hb : boundP x.bd) (ft i m : Int) : shapeL ft [leafI grads c x] i m = some m := by
 have h := leafV_in (n := x.rows.length) (s := sumR grads x.rows) (lam := c.lambda) hb.1
 have h1 : leafBad (leafI grads c x) = false := by
  unfold boundP at hb
  have h2 : decide (leafI grads c x ≠ ⟨-1, 0, 0, 0, (leafI grads c x).v⟩) = false := decide_eq_false (fun q => q rfl)
  have h3 : decide (-1099511627776 ≤ (leafI grads c x).v ∧ (leafI grads c x).v ≤ 1099511627776) = true := decide_eq_true (by show -1099511627776 ≤ leafV _ _ _ _ ∧ leafV _ _ _ _ ≤ _; omega)
  unfold leafBad
  rw [h2, h3]
  rfl
 simp only [shapeL]
 rw [if_pos (show (leafI grads c x).f = -1 from rfl), h1]
 rfl
theorem shape_innerI {g : Grd} {z : Cd} {f b : Nat} (hg : gridP g) (hf : f < g.cuts.length) (hb : b < (cutsF g f).length) (hzf : z.f = f) (hzb : z.b = b) {k n : Nat} (hk : k < n) : shapeL g.cuts.length [innerI g z n] k n = some ((n + 2 : Nat) : Int) := by
 obtain ⟨_, _, g3, _⟩ := grid_at hg hf
 obtain ⟨cv, hcv⟩ := get_lt hb
 have hc : cutAt g z.f z.b = cv := by unfold cutAt; rw [hzf, hzb, Int.toNat_natCast, Int.toNat_natCast, hcv]; rfl
 have hcr : -2147483647 ≤ cv ∧ cv ≤ 2147483647 := by
  have := g3.2.2 cv (List.mem_of_getElem? hcv)
  unfold decP at this
  omega
 have h1 : innerBad (innerI g z n) g.cuts.length k n = false := by
  rw [hzf] at hc
  simp only [innerBad, innerI, hzf, hc, Bool.or_eq_false_iff, decide_eq_false_iff_not]
  refine ⟨⟨⟨⟨⟨?_, ?_⟩, ?_⟩, ?_⟩, ?_⟩, ?_⟩ <;> omega
 have h2 : ¬ (innerI g z n).f = -1 := by show ¬ z.f = -1; rw [hzf]; omega
 simp only [shapeL]
 rw [if_neg h2, h1]
 simp
theorem grow_shape {g : Grd} {grads : List Int} {c : Cfg} (ht : taskP g grads c) : ∀ k, k ≤ (growK g grads c k).1.length → grP g grads c k ∧ shapeL g.cuts.length (growK g grads c k).2 0 1 = some ((growK g grads c k).1.length : Int)
 | 0, _ => ⟨grow_zero ht, by simp [growK, shapeL]⟩
 | k + 1, hk => by
  cases hx : (growK g grads c k).1[k]? with
  | none =>
   have hle : (growK g grads c k).1.length ≤ k := by
    rcases Nat.lt_or_ge k (growK g grads c k).1.length with q | q
    ·rw [List.getElem?_eq_getElem q] at hx; cases hx
    ·exact q
   rw [growK, hx] at hk
   dsimp only at hk
   omega
  | some x =>
   have hlt : k < (growK g grads c k).1.length := by
    rcases Nat.lt_or_ge k (growK g grads c k).1.length with q | q
    ·exact q
    ·rw [List.getElem?_eq_none q] at hx; cases hx
   obtain ⟨hp, ih⟩ := grow_shape ht k (by omega)
   refine ⟨grow_next hp hx, ?_⟩
   have hip := hp.it x (List.mem_of_getElem? hx)
   have ho := hp.out
   have e := grow_step hx
   cases hz : partI g grads c x with
   | none =>
    have e2 : growK g grads c (k + 1) = ((growK g grads c k).1, (growK g grads c k).2 ++ [leafI grads c x]) := by rw [e, stepG, hz]
    rw [e2]
    dsimp only
    rw [shapeL_snoc, ih]
    show shapeL _ _ _ _ = _
    rw [shape_leafI hip.2.1]
   | some z =>
    have hz2 : partL g grads c x.rows x.bd = some z := by
     unfold partI at hz
     split at hz
     ·exact hz
     ·cases hz
    obtain ⟨f, b, hf, hb, hze⟩ := partL_in hz2
    have e2 : growK g grads c (k + 1) = ((growK g grads c k).1 ++ [kidL g c x z, kidR g c x z], (growK g grads c k).2 ++ [innerI g z (growK g grads c k).1.length]) := by rw [e, stepG, hz]
    rw [e2]
    dsimp only
    rw [shapeL_snoc, ih, ho]
    show shapeL _ _ _ _ = _
    rw [Int.zero_add, shape_innerI ht.1 hf hb (by rw [hze]; rfl) (by rw [hze]; rfl) hlt]
    simp
theorem grow_fin {g : Grd} {grads : List Int} {c : Cfg} (ht : taskP g grads c) : ∃ k, k ≤ 31 ∧ k = (growK g grads c k).1.length := by
 have key : ∀ j, (∃ k, k < j ∧ k = (growK g grads c k).1.length) ∨ j ≤ (growK g grads c j).1.length := by
  intro j
  induction j with
  | zero => exact .inr (Nat.zero_le _)
  | succ j ih =>
   rcases ih with ⟨k, h1, h2⟩ | h
   ·exact .inl ⟨k, by omega, h2⟩
   ·rcases Nat.lt_or_ge j (growK g grads c j).1.length with q | q
    ·obtain ⟨x, hx⟩ := get_lt q
     refine .inr ?_
     rw [grow_step hx]
     unfold stepG
     split
     ·dsimp only; omega
     ·simp; omega
    ·exact .inl ⟨j, by omega, by omega⟩
 rcases key 32 with ⟨k, h1, h2⟩ | h
 ·exact ⟨k, by omega, h2⟩
 ·have := (grow_shape ht 32 h).1.wt
  omega
theorem grown_shape {g : Grd} {grads : List Int} {c : Cfg} (ht : taskP g grads c) : shapeOk (growL g grads c) g.cuts.length = true ∧ 1 ≤ (growL g grads c).length ∧ (growL g grads c).length ≤ 31 := by
 obtain ⟨k, hk, he⟩ := grow_fin ht
 obtain ⟨hp, hs⟩ := grow_shape ht k (by omega)
 have hg := grow_end hp he
 have ho := hp.out
 rw [hg] at hs ho
 rw [← he] at hs
 have h1 : 1 ≤ k := by
  rcases Nat.eq_zero_or_pos k with rfl | q
  ·simp [growK] at he
  ·exact q
 refine ⟨?_, by omega, by omega⟩
 unfold shapeOk
 rw [hs, ho]
 exact decide_eq_true rfl
theorem grow_pre {g : Grd} {grads : List Int} {c : Cfg} (k : Nat) : ∀ j, ∃ a b, growK g grads c (k + j) = ((growK g grads c k).1 ++ a, (growK g grads c k).2 ++ b)
 | 0 => ⟨[], [], by simp⟩
 | j + 1 => by
  obtain ⟨a, b, h⟩ := grow_pre (g := g) (grads := grads) (c := c) k j
  rw [← Nat.add_assoc, growK]
  split
  ·exact ⟨a, b, h⟩
  ·rw [h]
   unfold stepG
   split
   ·exact ⟨a, _, by rw [List.append_assoc]⟩
   ·exact ⟨_, _, by rw [List.append_assoc, List.append_assoc]⟩
def quL (g : Grd) (grads : List Int) (c : Cfg) : List Itm := (growK g grads c 31).1
theorem grow_node {g : Grd} {grads : List Int} {c : Cfg} (ht : taskP g grads c) : (quL g grads c).length = (growL g grads c).length ∧ ∀ j, j < (growL g grads c).length → ∃ x, (quL g grads c)[j]? = some x ∧ itmP g c x ∧
  ((partI g grads c x = none ∧ (growL g grads c)[j]? = some (leafI grads c x)) ∨ ∃ z, partI g grads c x = some z ∧ (growL g grads c)[j]? = some (innerI g z (growK g grads c j).1.length) ∧ j < (growK g grads c j).1.length ∧ (quL g grads c)[(growK g grads c j).1.length]? = some (kidL g c x z) ∧ (quL g grads c)[(growK g grads c j).1.length + 1]? = some (kidR g c x z)) := by
 obtain ⟨K, hK, he⟩ := grow_fin ht
 obtain ⟨hp, _⟩ := grow_shape ht K (by omega)
 have hg := grow_end hp he
 have ho := hp.out
 have hq : quL g grads c = (growK g grads c K).1 := by
  unfold quL
  rw [show 31 = K + (31 - K) by omega, grow_stop (by omega)]
 rw [← hg, ho, hq]
 refine ⟨he.symm, fun j hj => ?_⟩
 have hlt : j < (growK g grads c j).1.length := by
  rcases Nat.lt_or_ge j (growK g grads c j).1.length with q | q
  ·exact q
  ·have := grow_stop q (K - j)
   rw [show j + (K - j) = K by omega] at this
   rw [this] at he
   omega
 obtain ⟨x, hx⟩ := get_lt hlt
 obtain ⟨hpj, _⟩ := grow_shape ht j (by omega)
 have hip := hpj.it x (List.mem_of_getElem? hx)
 have hoj := hpj.out
 have e := grow_step hx
 obtain ⟨a, b, hab⟩ := grow_pre (g := g) (grads := grads) (c := c) (j + 1) (K - (j + 1))
 rw [show j + 1 + (K - (j + 1)) = K by omega, e] at hab
 rw [hab]
 cases hz : partI g grads c x with
 | none =>
  have e2 : stepG g grads c (growK g grads c j).1 (growK g grads c j).2 x = ((growK g grads c j).1, (growK g grads c j).2 ++ [leafI grads c x]) := by rw [stepG, hz]
  rw [e2]
  dsimp only
  refine ⟨x, by rw [List.getElem?_append_left hlt]; exact hx, hip, .inl ⟨hz, ?_⟩⟩
  rw [List.getElem?_append_left (by simp; omega), List.getElem?_append_right (by omega), hoj]
  simp
 | some z =>
  have e2 : stepG g grads c (growK g grads c j).1 (growK g grads c j).2 x = ((growK g grads c j).1 ++ [kidL g c x z, kidR g c x z], (growK g grads c j).2 ++ [innerI g z (growK g grads c j).1.length]) := by rw [stepG, hz]
  rw [e2]
  dsimp only
  refine ⟨x, by rw [List.append_assoc, List.getElem?_append_left hlt]; exact hx, hip, .inr ⟨z, hz, ?_, hlt, ?_, ?_⟩⟩
  ·rw [List.getElem?_append_left (by simp; omega), List.getElem?_append_right (by omega), hoj]
   simp
  ·rw [List.append_assoc, List.getElem?_append_right (by omega)]
   simp
  ·rw [List.append_assoc, List.getElem?_append_right (by omega)]
   simp
theorem items_at {g : Grd} {grads : List Int} {c : Cfg} (ht : taskP g grads c) (P : Nat → Itm → Prop) (h0 : P 0 ⟨allRowsL grads.length, freeB, 0⟩)
  (hk : ∀ (j L : Nat) (x : Itm) (z : Cd), P j x → itmP g c x → partI g grads c x = some z → (growL g grads c)[j]? = some (innerI g z L) → j < L → L + 1 < (growL g grads c).length → P L (kidL g c x z) ∧ P (L + 1) (kidR g c x z)) :
  ∀ k, k ≤ (growL g grads c).length → ∀ j x, (growK g grads c k).1[j]? = some x → P j x
 | 0, _, j, x, hx => by
  simp only [growK] at hx
  match j, hx with
  | 0, hx => simp at hx; subst hx; exact h0
  | j + 1, hx => simp at hx
 | k + 1, hkn, j, x, hx => by
  obtain ⟨hlen, hn⟩ := grow_node ht
  obtain ⟨y, hy, hyp, hc⟩ := hn k (by omega)
  have ih := items_at ht P h0 hk k (by omega)
  cases hyk : (growK g grads c k).1[k]? with
  | none => rw [growK, hyk] at hx; exact ih j x hx
  | some y' =>
   have hpre := grow_pre (g := g) (grads := grads) (c := c) k (31 - k)
   have hn31 : (growL g grads c).length ≤ 31 := (grown_shape ht).2.2
   rw [show k + (31 - k) = 31 by omega] at hpre
   obtain ⟨a, b, hab⟩ := hpre
   have hlt : k < (growK g grads c k).1.length := (List.getElem?_eq_some_iff.1 hyk).1
   have hyy : y' = y := by
    have : (quL g grads c)[k]? = some y' := by unfold quL; rw [hab]; dsimp only; rw [List.getElem?_append_left hlt]; exact hyk
    rw [hy] at this
    cases this; rfl
   subst hyy
   rw [grow_step hyk] at hx
   have hpk := ih k y' hyk
   rcases hc with ⟨hz, _⟩ | ⟨z, hz, hnode, hL, hl1, hl2⟩
   ·rw [stepG, hz] at hx
    exact ih j x hx
   ·rw [stepG, hz] at hx
    dsimp only at hx
    have hL1 : (growK g grads c k).1.length + 1 < (growL g grads c).length := by
     rw [← hlen]; exact (List.getElem?_eq_some_iff.1 hl2).1
    obtain ⟨p1, p2⟩ := hk k _ y' z hpk hyp hz hnode hL hL1
    rcases Nat.lt_or_ge j (growK g grads c k).1.length with q | q
    ·rw [List.getElem?_append_left q] at hx
     exact ih j x hx
    ·rw [List.getElem?_append_right q] at hx
     obtain ⟨i, hi⟩ : ∃ i, j = (growK g grads c k).1.length + i := ⟨j - (growK g grads c k).1.length, by omega⟩
     subst hi
     rw [Nat.add_sub_cancel_left] at hx
     match i, hx with
     | 0, hx => simp at hx; subst hx; exact p1
     | 1, hx => simp at hx; subst hx; exact p2
     | i + 2, hx => simp at hx
theorem split_lr {bins rows : List Int} (b : Int) (h : ∀ r ∈ rows, 0 ≤ r ∧ r < (bins.length : Int)) : (splitL bins rows b).1 = leftR bins rows b ∧ (splitL bins rows b).2 = rightR bins rows b := by
 have key : ∀ r ∈ rows, atBin bins b r = some (decide (binAt bins r ≤ b)) := fun r hr => by
  obtain ⟨h1, h2⟩ := h r hr
  obtain ⟨v, hv⟩ := get_lt (show r.toNat < bins.length by omega)
  unfold atBin binAt
  rw [if_pos (by omega), hv]
  rfl
 refine ⟨List.filter_congr fun r hr => ?_, List.filter_congr fun r hr => ?_⟩
 ·rw [key r hr]; simp
 ·rw [key r hr]; simp
end Go.H.S
namespace Go.H.S
open Go Go.Proofs Go.H
theorem partI_some {g : Grd} {grads : List Int} {c : Cfg} {x : Itm} {z : Cd} (h : partI g grads c x = some z) : x.lev < c.depth ∧ partL g grads c x.rows x.bd = some z := by
 unfold partI at h
 split at h
 ·rename_i q; exact ⟨q, h⟩
 ·cases h
structure Parted (g : Grd) (c : Cfg) (x : Itm) (z : Cd) (f b : Nat) : Prop where
 hf : f < g.cuts.length
 hb : b < (cutsF g f).length
 zf : z.f = f
 zb : z.b = b
 q1 : (kidL g c x z).rows = leftR (binsF g f) x.rows b
 q2 : (kidR g c x z).rows = rightR (binsF g f) x.rows b
 n1 : c.rows ≤ ((leftR (binsF g f) x.rows b).length : Int)
 n2 : c.rows ≤ ((rightR (binsF g f) x.rows b).length : Int)
theorem parted {g : Grd} {grads : List Int} {c : Cfg} (ht : taskP g grads c) {x : Itm} {z : Cd} (hip : itmP g c x) (hz : partI g grads c x = some z) : ∃ f b, Parted g c x z f b := by
 obtain ⟨f, b, hf, hb, hze, h1, h2⟩ := candL_mem (bestL_mem (partI_some hz).2).1
 have hzf : z.f = f := by rw [hze]; rfl
 have hzb : z.b = b := by rw [hze]; rfl
 obtain ⟨_, _, g3, hbl, _⟩ := grid_at ht.1 hf
 obtain ⟨s1, s2⟩ := split_lr (bins := binsF g f) (rows := x.rows) (b : Int) (fun r hr => by rw [hbl]; exact hip.1.mem r hr)
 have q1 : (kidL g c x z).rows = leftR (binsF g f) x.rows b := by unfold kidL; dsimp only; rw [hzf, hzb, Int.toNat_natCast]; exact s1
 have q2 : (kidR g c x z).rows = rightR (binsF g f) x.rows b := by unfold kidR; dsimp only; rw [hzf, hzb, Int.toNat_natCast]; exact s2
 rw [hze] at h1 h2
 exact ⟨f, b, ⟨hf, hb, hzf, hzb, q1, q2, h1, h2⟩⟩
end Go.H.S
namespace Go.H.S
open Go Go.Proofs Go.H
attribute [local irreducible] Tri FnSpec FnSpecM FnSpecX FnSpecJ FnSpecB
def addL (tr : List Nd) (rows : List (List Int)) (ps : List Int) : List Int := List.zipWith (fun p r => p + evalL tr r) ps rows
theorem addL_take {tr : List Nd} {rows : List (List Int)} {ps : List Int} {k : Nat} {p : Int} {r : List Int} (hp : ps[k]? = some p) (hr : rows[k]? = some r) : (addL tr rows ps).take (k + 1) = (addL tr rows ps).take k ++ [p + evalL tr r] := by
 have h : (addL tr rows ps)[k]? = some (p + evalL tr r) := by rw [addL, List.getElem?_zipWith, hp, hr]
 rw [List.take_add_one, h]; rfl
theorem addL_len {tr : List Nd} {rows : List (List Int)} {ps : List Int} (h : ps.length = rows.length) : (addL tr rows ps).length = ps.length := by simp [addL, h]
set_option maxHeartbeats 4000000 in
theorem spec_RoundOf_spec (t : Tbl) (b : Nat) (c : Cfg) (ps : List Int) (ts : List (List Nd)) (tr : List Nd) (hz : szT t) (ht : tableOk t = true) (hc : cfgP c) (hb : c.bins = (b : Int)) (hbb : 2 ≤ b ∧ b ≤ 8) (hsm : smG (gridT t b)) (hpl : ps.length = t.ys.length) (hpb : ∀ p ∈ ps, -1152921504606846976 ≤ p ∧ p ≤ 1152921504606846976)
  (hts : ts.length ≤ 1000) (htl : ∀ x ∈ ts, x.length ≤ 1000) (htk : taskP (gridT t b) (resL t.ys ps) c) (hgl : tr.length ≤ 1000) (hlf : ∀ n ∈ tr, leafP n) (htr : growL (gridT t b) (resL t.ys ps) c = tr) (hev : ∀ r, -1152921504606846976 ≤ evalL (shrT c tr) r ∧ evalL (shrT c tr) r ≤ 1152921504606846976) :
  FnSpec PR f_spec_RoundOf [aTb t, aG (gridT t b), aCf c, aSt ps ts] (tupSt (addL (shrT c tr) t.rows ps) (ts ++ [shrT c tr]) true) [] 0 := by
 have hv := tableOk_v ht
 have hcl : c.signs.length ≤ 1048576 := by have := hc.2.2.2.2; omega
 have hrl := resL_len hpl.symm
 have hyl := hv.yl
 have hr40 := hv.r40
 have hgrow := spec_GrowTree_spec (gridT t b) (resL t.ys ps) c hsm (by omega) hcl htk
 rw [htr] at hgrow
 clear htr htk
 have hgrid := spec_GridOf_d t b hbb ht hz.n hz.ns hz.tg hz.r hz.c hz.y
 have hres := spec_Residuals_spec t.ys ps hpl.symm (by omega) hv.yv hpb
 generalize gridT t b = g at hsm hgrow hgrid ⊢
 generalize resL t.ys ps = res at *
 refine FnSpec.intro hT (pf Tryz.func73) rfl (by kernel_rfl) Tryz.ntmps73 rfl ?_
 conv => whnf
 refine tri_rp 0 ?_
 conv => whnf
 refine tri_rp 1 ?_
 conv => whnf
 refine tri_rp 2 ?_
 conv => whnf
 refine tri_rp 3 ?_
 conv => whnf
 refine tri_every hT hmix [4, 5, 6, 7, 8, 31] { t := [(4, rpTb t), (5, .c (.d (.rp [.sl 1 (eL cIs g.cuts), .sl 1 (eL cIs g.bins)]))), (6, .c (.d (.rp [.int .i64 c.rounds, .int .i64 c.depth, .int .i64 c.bins, .int .i64 c.lambda, .int .i64 c.rows, .int .i64 c.num, .int .i64 c.den, .sl 1 (eL cI c.signs)]))), (7, .c (.d (.rp [.sl 1 (eL cI ps), .sl 1 (eL cT ts)]))), (8, .c (.ptr 0 0)), (31, ab false)], h := [(0, .box t_impl_State [.nl 1, .nl 1])], n := 1, N := 104 } rfl ?_ ?_
 ·repeat' first
   | (refine anyV_one rfl ?_; (conv => whnf))
   | (refine anyV_two rfl ?_ ?_ <;> (conv => whnf))
   | (refine anyV_three rfl ?_ ?_ ?_ <;> (conv => whnf))
   | (refine .inl ⟨_, _, _, spec_TableOk_spec t hz.n hz.ns hz.tg hz.r hz.c hz.y, rfl, ?_⟩; rw [ht]; (conv => whnf))
   | (rw [hb]; refine .inl ⟨_, _, _, hgrid, rfl, ?_⟩; (conv => whnf))
   | (refine .inl ⟨_, _, _, spec_SameGrid_same g hsm, rfl, ?_⟩; (conv => whnf))
   | (refine anyV_end rfl ?_; (conv => whnf); first | done | rfl)
 conv => whnf
 refine .inl ⟨_, _, _, hres, rfl, ?_⟩
 conv => whnf
 refine .inl ⟨_, _, _, hgrow, rfl, ?_⟩
 conv => whnf
 refine .inl ⟨_, _, _, spec_ShrunkTree_spec tr c hc hgl hlf, rfl, ?_⟩
 conv => whnf
 refine tri_rp 3 ?_
 conv => whnf
 refine tri_every hT hmix [4, 7, 8, 14, 16] { t := [(4, rpTb t), (7, .c (.d (.rp [.sl 1 (eL cI ps), .sl 1 (eL cT ts)]))), (8, .c (.ptr 0 0)), (14, .c (.d (.rp [.sl 5 (eL cN (shrT c tr))]))), (16, .c (.ptr 1 0))], h := [(0, .box t_impl_State [.nl 1, .nl 1]), (1, .box t_impl_State [.nl 1, .ref 2 0 none]), (2, .arr t_impl_Tree 1 0 .own (eL cT (ts ++ [shrT c tr])))], n := 3, N := 104 } rfl ?_ ?_
 ·repeat' first
   | (refine anyV_one rfl ?_; (conv => whnf))
   | (refine anyV_two rfl ?_ ?_ <;> (conv => whnf))
   | (refine anyV_three rfl ?_ ?_ ?_ <;> (conv => whnf))
   | (refine anyV_four rfl ?_ ?_ ?_ ?_ <;> (conv => whnf))
   | (refine .inl ⟨_, _, _, spec_l22Trees_d ts (by omega) (fun x hx => by have := htl x hx; omega), rfl, ?_⟩; (conv => whnf))
   | (refine And.intro (by simp [eL_length, dLen_len]; omega) ?_; (conv => whnf))
   | (refine anyV_end rfl ?_; (conv => whnf); simp only [partOf_none]; rw [show dApp (eL cT ts) [[D.sl 5 (eL cN (shrT c tr))]] = eL cT (ts ++ [shrT c tr]) from eL_app cT ts _]; first | done | rfl)
 conv => whnf
 refine tri_nl 1 0 t_int 1 ?_
 conv => whnf
 refine tri_loop hT [4, 7, 8, 14, 16, 17] (α := Nat) (fun k => { t := [(4, rpTb t), (7, .c (.d (.rp [.sl 1 (eL cI ps), .sl 1 (eL cT ts)]))), (8, .c (.ptr 0 0)), (14, .c (.d (.rp [.sl 5 (eL cN (shrT c tr))]))), (16, .c (.ptr 1 0)), (17, ai k)], h := [(0, .box t_impl_State [.nl 1, .nl 1]), (1, .box t_impl_State [.ref 2 0 none, .ref 3 0 none]), (2, .arr t_int 1 0 .own (eL cI ((addL (shrT c tr) t.rows ps).take k))), (3, .arr t_impl_Tree 1 0 .own (eL cT (ts ++ [shrT c tr])))], n := 4, N := 104 })
  (fun k => k ≤ ps.length) (fun k => ps.length - k) 0 (by (conv => whnf); simp only [List.take_zero, eL_nil]; rfl) (Nat.zero_le _) ?_
 intro k hk
 conv => whnf
 refine ifB_i (fun q => ?_) (fun q => ?_) <;> (conv => whnf) <;> simp only [eH] at q
 ·obtain ⟨p, hp⟩ := get_lt (show k < ps.length by omega)
  obtain ⟨r, hr⟩ := get_lt (show k < t.rows.length by omega)
  have hpk := hpb p (List.mem_of_getElem? hp)
  have hrc := hv.cols r (List.mem_of_getElem? hr)
  have hn4 := hv.n4
  have hek := hev r
  have hsl : (shrT c tr).length ≤ 1048576 := by simp [shrT]; omega
  refine tri_every hT hmix [4, 7, 8, 14, 16, 17, 18, 19] { t := [(4, rpTb t), (7, .c (.d (.rp [.sl 1 (eL cI ps), .sl 1 (eL cT ts)]))), (8, .c (.ptr 0 0)), (14, .c (.d (.rp [.sl 5 (eL cN (shrT c tr))]))), (16, .c (.ptr 1 0)), (17, ai k), (18, ai (p + evalL (shrT c tr) r)), (19, ab true)], h := [(0, .box t_impl_State [.nl 1, .nl 1]), (1, .box t_impl_State [.ref 2 0 none, .ref 3 0 none]), (2, .arr t_int 1 0 .own (eL cI ((addL (shrT c tr) t.rows ps).take k))), (3, .arr t_impl_Tree 1 0 .own (eL cT (ts ++ [shrT c tr])))], n := 4, N := 104 } rfl ?_ ?_
  ·repeat' first
    | (refine anyV_one rfl ?_; (conv => whnf))
    | (refine anyV_two rfl ?_ ?_ <;> (conv => whnf))
    | (refine anyV_three rfl ?_ ?_ ?_ <;> (conv => whnf))
    | (refine idx_at (k := k) rfl hp ?_; (conv => whnf))
    | (refine idx_at (k := k) rfl hr ?_; (conv => whnf))
    | (refine .inl ⟨_, _, _, spec_EvalTree_spec (shrT c tr) r hsl (by omega), rfl, ?_⟩; (conv => whnf))
    | (refine .inl ⟨_, _, _, spec_AddInt_small p (evalL (shrT c tr) r) (by omega) (by omega), rfl, ?_⟩; (conv => whnf))
    | (refine anyV_end rfl ?_; (conv => whnf); first | done | rfl)
  conv => whnf
  have hal := addL_len (tr := shrT c tr) (hpl.trans hyl)
  refine And.intro (by simp [partOf_none, eL_length, dLen_len]; omega) ?_
  conv => whnf
  refine ⟨k + 1, by omega, by omega, ?_⟩
  ((conv => whnf); simp only [eS, wI (show k < ps.length by omega) (by omega)])
  rw [addL_take hp hr, ← eL_app, partOf_none]
  first | done | rfl | exact ⟨rfl, rfl⟩
 ·obtain rfl : k = ps.length := by omega
  rw [← addL_len (tr := shrT c tr) (hpl.trans hyl), List.take_length]
  simp only [partOf_none]
  first | done | rfl
end Go.H.S
namespace Go.H.S
open Go Go.Proofs Go.H
theorem evalL_abs {t : List Nd} {row : List Int} {B : Int} (h0 : 0 ≤ B) (h : ∀ n ∈ t, -B ≤ n.v ∧ n.v ≤ B) : -B ≤ evalL t row ∧ evalL t row ≤ B := by
 unfold evalL
 split
 ·omega
 ·split
  ·rename_i n hn
   exact h n (List.mem_of_getElem? hn)
  ·omega
theorem div_abs {v n d B : Int} (h0 : 0 ≤ B) (hd : 1 ≤ d) (hn : 1 ≤ n) (hnd : n ≤ d) (hv : -B ≤ v ∧ v ≤ B) : -B ≤ v * n / d ∧ v * n / d ≤ B := by
 have a : v * n ≤ B * d := Int.le_trans (Int.mul_le_mul_of_nonneg_right hv.2 (by omega)) (Int.mul_le_mul_of_nonneg_left hnd h0)
 have b : -B * d ≤ v * n := by
  have h1 : -B * n ≤ v * n := Int.mul_le_mul_of_nonneg_right hv.1 (by omega)
  have h2 : B * n ≤ B * d := Int.mul_le_mul_of_nonneg_left hnd h0
  rw [Int.neg_mul] at h1 ⊢
  omega
 exact ⟨(Int.le_ediv_iff_mul_le (by omega)).2 b, Int.ediv_le_of_le_mul (by omega) a⟩
theorem shrT_abs {c : Cfg} {t : List Nd} {B : Int} (h0 : 0 ≤ B) (hc : cfgP c) (h : ∀ n ∈ t, -B ≤ n.v ∧ n.v ≤ B) : ∀ n ∈ shrT c t, -B ≤ n.v ∧ n.v ≤ B := by
 intro n hn
 simp only [shrT, List.mem_map] at hn
 obtain ⟨m, hm, rfl⟩ := hn
 unfold shrN
 split
 ·exact div_abs h0 hc.2.2.1.1 hc.2.2.2.1.1 hc.2.2.2.1.2 (h m hm)
 ·exact h m hm
theorem grown_leafP {g : Grd} {grads : List Int} {c : Cfg} (ht : taskP g grads c) : ∀ n ∈ growL g grads c, leafP n := fun n hn hf => by
 obtain ⟨j, hj⟩ := List.getElem?_of_mem hn
 exact shape_value (grown_shape ht).1 hj hf
theorem grown_len {g : Grd} {grads : List Int} {c : Cfg} (ht : taskP g grads c) : (growL g grads c).length ≤ 1000 := by
 have := (grown_shape ht).2.2
 omega
theorem grown_v {g : Grd} {grads : List Int} {c : Cfg} (ht : taskP g grads c) : ∀ n ∈ growL g grads c, -1099511627776 ≤ n.v ∧ n.v ≤ 1099511627776 := fun n hn => by
 obtain ⟨j, hj⟩ := List.getElem?_of_mem hn
 by_cases hf : n.f = -1
 ·exact shape_value (grown_shape ht).1 hj hf
 ·have := (shape_kids (grown_shape ht).1 hj hf).2.2.1
  omega
theorem round_abs {g : Grd} {grads : List Int} {c : Cfg} (ht : taskP g grads c) (row : List Int) : -1099511627776 ≤ evalL (shrT c (growL g grads c)) row ∧ evalL (shrT c (growL g grads c)) row ≤ 1099511627776 :=
 evalL_abs (by decide) (shrT_abs (by decide) ht.2.1 (grown_v ht))
theorem resL_abs {ys ps : List Int} {A B : Int} (hy : ∀ y ∈ ys, -A ≤ y ∧ y ≤ A) (hp : ∀ p ∈ ps, -B ≤ p ∧ p ≤ B) : ∀ x ∈ resL ys ps, -(A + B) ≤ x ∧ x ≤ A + B := by
 intro x hx
 obtain ⟨k, hk⟩ := List.getElem?_of_mem hx
 rw [resL, List.getElem?_zipWith] at hk
 cases h1 : ys[k]? with
 | none => rw [h1] at hk; simp at hk
 | some p =>
  cases h2 : ps[k]? with
  | none => rw [h1, h2] at hk; simp at hk
  | some r =>
   rw [h1, h2] at hk
   simp at hk
   subst hk
   have := hy p (List.mem_of_getElem? h1)
   have := hp r (List.mem_of_getElem? h2)
   omega
theorem leafV_abs {n s lam M : Int} {b : Int × Int} (hM : 0 ≤ M) (hn : 0 ≤ n) (hl : 1 ≤ lam) (hs : -(n * M) ≤ s ∧ s ≤ n * M) (h1 : b.1 ≤ M) (h2 : -M ≤ b.2) : -M ≤ leafV n s lam b ∧ leafV n s lam b ≤ M := by
 have hm : n * M ≤ (n + lam) * M := Int.mul_le_mul_of_nonneg_right (by omega) hM
 have a : s / (n + lam) ≤ M := Int.ediv_le_of_le_mul (by omega) (by rw [Int.mul_comm M]; omega)
 have a2 : -M ≤ s / (n + lam) := (Int.le_ediv_iff_mul_le (by omega)).2 (by rw [Int.neg_mul, Int.mul_comm M]; omega)
 unfold leafV brought
 split
 ·omega
 ·split <;> omega
theorem sumR_abs {grads : List Int} {M : Int} (hM : 0 ≤ M) (h : ∀ x ∈ grads, -M ≤ x ∧ x ≤ M) : ∀ rs : List Int, -((rs.length : Int) * M) ≤ sumR grads rs ∧ sumR grads rs ≤ (rs.length : Int) * M
 | [] => by simp [sumR]
 | r :: rs => by
  have ih := sumR_abs hM h rs
  have hg : -M ≤ gAt grads r ∧ gAt grads r ≤ M := by
   unfold gAt
   cases hx : grads[r.toNat]? with
   | none => simp; omega
   | some x => simp; exact h x (List.mem_of_getElem? hx)
  have e : ((r :: rs).length : Int) * M = (rs.length : Int) * M + M := by simp only [List.length_cons, Int.natCast_add, Int.natCast_one]; rw [Int.add_mul, Int.one_mul]
  rw [e]
  simp only [sumR]
  omega
theorem midV_abs {p q M : Int} {b : Int × Int} (hp : -M ≤ p ∧ p ≤ M) (hq : -M ≤ q ∧ q ≤ M) (h1 : b.1 ≤ M) (h2 : -M ≤ b.2) : -M ≤ midV p q b ∧ midV p q b ≤ M := by
 unfold midV brought
 split
 ·omega
 ·split <;> omega
theorem side_abs {g : Grd} {grads : List Int} {c : Cfg} {rows : List Int} {bd : Int × Int} {z : Cd} {M : Int} (hM : 0 ≤ M) (h : ∀ x ∈ grads, -M ≤ x ∧ x ≤ M) (hl : 1 ≤ c.lambda) (hz : partL g grads c rows bd = some z) (h1 : bd.1 ≤ M) (h2 : -M ≤ bd.2) :
  (-M ≤ sideL c bd z ∧ sideL c bd z ≤ M) ∧ (-M ≤ sideR c bd z ∧ sideR c bd z ≤ M) := by
 obtain ⟨f, k, _, _, rfl⟩ := partL_in hz
 exact ⟨leafV_abs hM (by exact Int.natCast_nonneg _) hl (sumR_abs hM h _) h1 h2, leafV_abs hM (by exact Int.natCast_nonneg _) hl (sumR_abs hM h _) h1 h2⟩
theorem sides_abs {sign : Int} {b : Int × Int} {p q M : Int} (hM : 0 ≤ M) (hp : -M ≤ p ∧ p ≤ M) (hq : -M ≤ q ∧ q ≤ M) (h1 : b.1 ≤ M) (h2 : -M ≤ b.2) :
  ((sidesL sign b p q).1.1 ≤ M ∧ -M ≤ (sidesL sign b p q).1.2) ∧ ((sidesL sign b p q).2.1 ≤ M ∧ -M ≤ (sidesL sign b p q).2.2) := by
 have hm := midV_abs hp hq h1 h2
 unfold sidesL
 split
 ·exact ⟨⟨h1, hm.1⟩, ⟨hm.2, h2⟩⟩
 ·split
  ·exact ⟨⟨hm.2, h2⟩, ⟨h1, hm.1⟩⟩
  ·exact ⟨⟨h1, h2⟩, ⟨h1, h2⟩⟩
theorem grown_abs {g : Grd} {grads : List Int} {c : Cfg} (ht : taskP g grads c) {M : Int} (hM : 0 ≤ M) (hM2 : M ≤ 1099511627776) (h : ∀ x ∈ grads, -M ≤ x ∧ x ≤ M) : ∀ n ∈ growL g grads c, -M ≤ n.v ∧ n.v ≤ M := fun n hn => by
 have hlam := (cfgP.lam ht.2.1).1
 have hk : ∀ (j L : Nat) (x : Itm) (z : Cd), (x.bd.1 ≤ M ∧ -M ≤ x.bd.2) → itmP g c x → partI g grads c x = some z → (growL g grads c)[j]? = some (innerI g z L) → j < L → L + 1 < (growL g grads c).length → ((kidL g c x z).bd.1 ≤ M ∧ -M ≤ (kidL g c x z).bd.2) ∧ ((kidR g c x z).bd.1 ≤ M ∧ -M ≤ (kidR g c x z).bd.2) := fun j L x z hx _ hz _ _ _ => by
  have hz2 : partL g grads c x.rows x.bd = some z := by
   unfold partI at hz
   split at hz
   ·exact hz
   ·cases hz
  obtain ⟨a, b⟩ := side_abs hM h hlam hz2 hx.1 hx.2
  exact sides_abs hM a b hx.1 hx.2
 obtain ⟨K, hK, he⟩ := grow_fin ht
 obtain ⟨hp, _⟩ := grow_shape ht K (by omega)
 have hlen : (growL g grads c).length = K := by rw [← grow_end hp he]; exact hp.out
 have hq : quL g grads c = (growK g grads c K).1 := by
  unfold quL
  rw [show 31 = K + (31 - K) by omega, grow_stop (by omega)]
 obtain ⟨j, hj⟩ := List.getElem?_of_mem hn
 have hjl := (List.getElem?_eq_some_iff.1 hj).1
 obtain ⟨x, hx, _, hn2⟩ := (grow_node ht).2 j hjl
 rw [hq] at hx
 have hb := items_at ht (fun _ (x : Itm) => x.bd.1 ≤ M ∧ -M ≤ x.bd.2) ⟨by show (-1099511627776 : Int) ≤ M; omega, by show -M ≤ (1099511627776 : Int); omega⟩ hk K (by omega) j x hx
 rcases hn2 with ⟨_, e⟩ | ⟨z, _, e, _⟩
 ·rw [hj] at e
  cases e
  exact leafV_abs hM (by exact Int.natCast_nonneg _) hlam (sumR_abs hM h _) hb.1 hb.2
 ·rw [hj] at e
  cases e
  exact ⟨by show -M ≤ (0 : Int); omega, hM⟩
end Go.H.S
namespace Go.H.S
open Go Go.Proofs Go.H
def trainK (t : Tbl) (c : Cfg) (g : Grd) : Nat → List Int × List (List Nd)
 | 0 => (firstP t, [])
 | k + 1 => (addL (shrT c (growL g (resL t.ys (trainK t c g k).1) c)) t.rows (trainK t c g k).1, (trainK t c g k).2 ++ [shrT c (growL g (resL t.ys (trainK t c g k).1) c)])
theorem trainK_trees (t : Tbl) (c : Cfg) (g : Grd) : ∀ k, (trainK t c g k).2.length = k
 | 0 => rfl
 | k + 1 => by simp [trainK, trainK_trees t c g k]
theorem trainK_len {t : Tbl} {c : Cfg} {g : Grd} (hl : t.ys.length = t.rows.length) : ∀ k, (trainK t c g k).1.length = t.ys.length
 | 0 => by simp [trainK, firstP]
 | k + 1 => by
  have ih := trainK_len (c := c) (g := g) hl k
  show (addL _ _ _).length = _
  rw [addL_len (by omega)]
  exact ih
theorem res_next {tr : List Nd} {rows : List (List Int)} {ys ps : List Int} {M : Int} (h : ∀ x ∈ resL ys ps, -M ≤ x ∧ x ≤ M) (hv : ∀ r, -M ≤ evalL tr r ∧ evalL tr r ≤ M) : ∀ x ∈ resL ys (addL tr rows ps), -(2 * M) ≤ x ∧ x ≤ 2 * M := by
 intro x hx
 obtain ⟨k, hk⟩ := List.getElem?_of_mem hx
 rw [resL, List.getElem?_zipWith, addL, List.getElem?_zipWith] at hk
 cases h1 : ys[k]? with
 | none => rw [h1] at hk; simp at hk
 | some y =>
  cases h2 : ps[k]? with
  | none => rw [h1, h2] at hk; simp at hk
  | some p =>
   cases h3 : rows[k]? with
   | none => rw [h1, h2, h3] at hk; simp at hk
   | some r =>
    rw [h1, h2, h3] at hk
    simp at hk
    subst hk
    have hm : (resL ys ps)[k]? = some (y - p) := by rw [resL, List.getElem?_zipWith, h1, h2]
    have a := h _ (List.mem_of_getElem? hm)
    have b := hv r
    omega
theorem base_abs {ys : List Int} {B : Int} (h0 : 0 ≤ B) (h1 : 1 ≤ ys.length) (h : ∀ y ∈ ys, -B ≤ y ∧ y ≤ B) : -B ≤ baseL ys ∧ baseL ys ≤ B := by
 have hs := sumI_abs ys h
 unfold baseL
 exact ⟨(Int.le_ediv_iff_mul_le (by omega)).2 (by rw [Int.neg_mul]; exact hs.1), Int.ediv_le_of_le_mul (by omega) hs.2⟩
theorem res_first {t : Tbl} (hv : tabV t) : ∀ x ∈ resL t.ys (firstP t), -4294967296 ≤ x ∧ x ≤ 4294967296 := by
 have hb := base_abs (B := 2147483647) (by decide) (by have := hv.yl; have := hv.r1; omega) hv.yv
 have := resL_abs (A := 2147483647) (B := 2147483647) hv.yv (ps := firstP t) (fun p hp => by
  unfold firstP at hp
  rw [List.mem_replicate] at hp
  rw [hp.2]; exact hb)
 intro x hx
 have := this x hx
 omega
theorem trainK_res {t : Tbl} {c : Cfg} {g : Grd} (hv : tabV t) (ht : ∀ k, k < 8 → (∀ x ∈ resL t.ys (trainK t c g k).1, -1099511627776 ≤ x ∧ x ≤ 1099511627776) → taskP g (resL t.ys (trainK t c g k).1) c) :
  ∀ k, k ≤ 8 → ∀ x ∈ resL t.ys (trainK t c g k).1, -(4294967296 * 2 ^ k) ≤ x ∧ x ≤ 4294967296 * 2 ^ k
 | 0, _ => by
  have := res_first hv
  intro x hx
  have := this x hx
  simpa using this
 | k + 1, hk => by
  have ih := trainK_res hv ht k (by omega)
  have hM2 : (4294967296 : Int) * 2 ^ k ≤ 549755813888 := by
   have hk7 : k ≤ 7 := by omega
   match k, hk7 with
   | 0, _ | 1, _ | 2, _ | 3, _ | 4, _ | 5, _ | 6, _ | 7, _ => decide
  have hM : (0 : Int) ≤ 4294967296 * 2 ^ k := by
   have : (0 : Int) ≤ 2 ^ k := Int.pow_nonneg (by decide)
   omega
  have htk := ht k (by omega) (fun x hx => by have := ih x hx; omega)
  have hn := res_next ih (tr := shrT c (growL g (resL t.ys (trainK t c g k).1) c)) (rows := t.rows) fun r => evalL_abs hM (shrT_abs hM htk.2.1 (grown_abs htk hM (by omega) ih))
  intro x hx
  have := hn x hx
  rw [Int.pow_succ]
  omega
end Go.H.S
namespace Go.H.S
open Go Go.Proofs Go.H
theorem cut_succ (xs : List Int) (i : Nat) (x : Int) (hx : xs[i]? = some x) : Go.Lib.compactUpTo xs.toArray (i + 1) = Go.Lib.compactUpTo xs.toArray i ++ (if Go.Lib.keeps xs.toArray i then [x] else []) := by
 rw [Go.Lib.compactUpTo_succ]
 have e1 : xs.toArray[i]! = x := by
  rw [getElem!_pos _ i (by simp; exact (List.getElem?_eq_some_iff.1 hx).1)]
  simpa using (List.getElem?_eq_some_iff.1 hx).2
 rw [e1]
theorem cut_mem (xs : List Int) : ∀ i, i ≤ xs.length → ∀ x ∈ Go.Lib.compactUpTo xs.toArray i, ∃ j, j < i ∧ xs[j]? = some x
 | 0, _, x, hx => by simp [Go.Lib.compactUpTo] at hx
 | i + 1, h, x, hx => by
  obtain ⟨y, hy⟩ := get_lt (show i < xs.length by omega)
  rw [cut_succ xs i y hy] at hx
  rcases List.mem_append.1 hx with hx | hx
  ·obtain ⟨j, h1, h2⟩ := cut_mem xs i (by omega) x hx
   exact ⟨j, by omega, h2⟩
  ·split at hx
   ·simp at hx; subst hx; exact ⟨i, by omega, hy⟩
   ·simp at hx
theorem cut_lt {xs : List Int} (hs : xs.Pairwise (· ≤ ·)) : ∀ i, i ≤ xs.length → (Go.Lib.compactUpTo xs.toArray i).Pairwise (· < ·)
 | 0, _ => by simp [Go.Lib.compactUpTo]
 | i + 1, h => by
  obtain ⟨y, hy⟩ := get_lt (show i < xs.length by omega)
  rw [cut_succ xs i y hy, List.pairwise_append]
  refine ⟨cut_lt hs i (by omega), by split <;> simp, fun a ha b hb => ?_⟩
  split at hb
  ·rename_i hk
   simp at hb
   subst hb
   obtain ⟨j, hj, hja⟩ := cut_mem xs i (by omega) a ha
   obtain ⟨z, hz⟩ := get_lt (show i - 1 < xs.length by omega)
   have e1 : xs.toArray[i]! = b := by
    rw [getElem!_pos _ i (by simp; omega)]
    simpa using (List.getElem?_eq_some_iff.1 hy).2
   have e2 : xs.toArray[i - 1]! = z := by
    rw [getElem!_pos _ (i - 1) (by simp; omega)]
    simpa using (List.getElem?_eq_some_iff.1 hz).2
   have hne : z ≠ b := by
    simp [Go.Lib.keeps] at hk
    rcases hk with hk | hk
    ·omega
    ·rw [← e1, ← e2]
     intro q
     apply hk
     simpa using q.symm
   have hle : ∀ (p q : Nat) (u v : Int), p ≤ q → xs[p]? = some u → xs[q]? = some v → u ≤ v := fun p q u v hpq hu hv => by
    rcases Nat.lt_or_ge p q with hlt | hge
    ·obtain ⟨hp1, hp2⟩ := List.getElem?_eq_some_iff.1 hu
     obtain ⟨hq1, hq2⟩ := List.getElem?_eq_some_iff.1 hv
     rw [← hp2, ← hq2]
     exact List.pairwise_iff_getElem.1 hs p q hp1 hq1 hlt
    ·have : p = q := by omega
     subst this
     rw [hu] at hv
     cases hv
     exact Int.le_refl _
   have h1 := hle j (i - 1) a z (by omega) hja hz
   have h2 := hle (i - 1) i z b (by omega) hz hy
   omega
  ·simp at hb
theorem pw_next {l : List Int} (h : l.Pairwise (· < ·)) {j : Nat} {a b : Int} (ha : l[j]? = some a) (hb : l[j + 1]? = some b) : a < b := by
 obtain ⟨h1, h2⟩ := List.getElem?_eq_some_iff.1 ha
 obtain ⟨h3, h4⟩ := List.getElem?_eq_some_iff.1 hb
 rw [← h2, ← h4]
 exact List.pairwise_iff_getElem.1 h j (j + 1) h1 h3 (by omega)
theorem distinctL_lt (xs : List Int) : (distinctL xs).Pairwise (· < ·) := cut_lt (sortL_sorted xs) _ (Nat.le_refl _)
theorem distinctL_mem {xs : List Int} {x : Int} (h : x ∈ distinctL xs) : x ∈ xs := by
 obtain ⟨j, _, hj⟩ := cut_mem (sortL xs) _ (Nat.le_refl _) x h
 have := List.mem_of_getElem? hj
 simpa [sortL] using this
theorem cutK_zero (s : List Int) (n b : Nat) : cutK s n b 0 = none := by simp [cutK]
theorem cutsAll_len7 (s : List Int) (n b : Nat) (hb : 1 ≤ b) : (cutsAll s n b b).length ≤ b - 1 := by
 obtain ⟨k, rfl⟩ : ∃ k, b = k + 1 := ⟨b - 1, by omega⟩
 unfold cutsAll
 rw [List.range_succ_eq_map, List.filterMap_cons, cutK_zero]
 have := List.length_filterMap_le (cutK s n (k + 1)) ((List.range k).map Nat.succ)
 simpa using this
theorem cutsAll_mem {s : List Int} {n b k : Nat} {x : Int} (h : x ∈ cutsAll s n b k) : x = 0 ∨ x ∈ s := by
 unfold cutsAll at h
 obtain ⟨j, _, hj⟩ := List.mem_filterMap.1 h
 unfold cutK at hj
 split at hj
 ·simp only [Option.some.injEq] at hj
  cases hs : s[n * j / b - 1]? with
  | none => rw [hs] at hj; simp at hj; exact .inl hj.symm
  | some v => rw [hs] at hj; simp at hj; subst hj; exact .inr (List.mem_of_getElem? hs)
 ·cases hj
theorem columnL_dec {t : Tbl} (hv : tabV t) (f : Nat) : ∀ x ∈ columnL t f, decP x := by
 intro x hx
 unfold columnL at hx
 obtain ⟨r, hr, e⟩ := List.mem_map.1 hx
 cases hf : r[f]? with
 | none => rw [hf] at e; simp at e; subst e; exact ⟨by decide, by decide⟩
 | some y => rw [hf] at e; simp at e; subst e; exact hv.rv r hr _ (List.mem_of_getElem? hf)
theorem cutsT_p {t : Tbl} (hv : tabV t) {b : Nat} (hb : 2 ≤ b ∧ b ≤ 8) (f : Nat) : cutsP (cutsT t b f) := by
 refine ⟨fun j x y hx hy => pw_next (distinctL_lt _) hx hy, ?_, fun x hx => ?_⟩
 ·have h1 := distinctL_len (cutsAll (sortL (columnL t f)) (columnL t f).length b b)
  have h2 := cutsAll_len7 (sortL (columnL t f)) (columnL t f).length b (by omega)
  show (distinctL _).length ≤ 7
  omega
 ·have h1 := distinctL_mem hx
  rcases cutsAll_mem h1 with h | h
  ·subst h; exact ⟨by decide, by decide⟩
  ·exact columnL_dec hv f x (by simpa [sortL] using h)
theorem cutsT_at {t : Tbl} {b f : Nat} (hf : f < t.names.length) : (gridT t b).cuts[f]? = some (cutsT t b f) := by simp [gridT, cutsTo, hf]
theorem binsT_at {t : Tbl} {b f : Nat} (hf : f < t.names.length) : (gridT t b).bins[f]? = some (binsT t b f) := by simp [gridT, binsTo, hf]
theorem binsT_len (t : Tbl) (b f : Nat) : (binsT t b f).length = t.rows.length := by simp [binsT, columnL]
theorem gridT_rows {t : Tbl} (hv : tabV t) (b : Nat) : rowsIn (gridT t b) = t.rows.length := by
 have h := binsT_at (b := b) (f := 0) (t := t) (by have := hv.n1; omega)
 unfold rowsIn
 cases hb : (gridT t b).bins with
 | nil => rw [hb] at h; cases h
 | cons x r => rw [hb] at h; simp at h; subst h; exact binsT_len t b 0
theorem gridT_ok {t : Tbl} (hv : tabV t) {b : Nat} (hb : 2 ≤ b ∧ b ≤ 8) : gridP (gridT t b) := by
 have hc : (gridT t b).cuts.length = t.names.length := cutsTo_len t b _
 have hbl : (gridT t b).bins.length = t.names.length := binsTo_len t b _
 have hr := gridT_rows hv b
 refine ⟨by rw [hc]; exact ⟨hv.n1, hv.n4⟩, by omega, by rw [hr]; exact ⟨hv.r1, hv.r40⟩, fun k c bs h1 h2 => ?_⟩
 have hk : k < t.names.length := by have := (List.getElem?_eq_some_iff.1 h1).1; omega
 rw [cutsT_at hk] at h1
 rw [binsT_at hk] at h2
 cases h1
 cases h2
 refine ⟨cutsT_p hv hb k, by rw [hr, binsT_len], fun x hx => ?_⟩
 unfold binsT at hx
 obtain ⟨v, _, e⟩ := List.mem_map.1 hx
 have := binOfL_le (cutsT t b k) v
 omega
theorem gridT_sm {t : Tbl} (hv : tabV t) {b : Nat} (hb : b ≤ 8) : smG (gridT t b) := by
 have hc : (gridT t b).cuts.length = t.names.length := cutsTo_len t b _
 have hbl : (gridT t b).bins.length = t.names.length := binsTo_len t b _
 have := hv.n4
 have := hv.r40
 refine ⟨by omega, by omega, fun x hx => ?_, fun x hx => ?_⟩
 ·simp only [gridT, cutsTo] at hx
  obtain ⟨f, _, rfl⟩ := List.mem_map.1 hx
  have := cutsT_len t (f := f) hb
  omega
 ·simp only [gridT, binsTo] at hx
  obtain ⟨f, _, rfl⟩ := List.mem_map.1 hx
  rw [binsT_len]
  omega
theorem train_task {t : Tbl} {c : Cfg} {b : Nat} (hv : tabV t) (hb : 2 ≤ b ∧ b ≤ 8) (hc : cfgP c) (k : Nat) (h : ∀ x ∈ resL t.ys (trainK t c (gridT t b) k).1, -1099511627776 ≤ x ∧ x ≤ 1099511627776) : taskP (gridT t b) (resL t.ys (trainK t c (gridT t b) k).1) c := by
 refine ⟨gridT_ok hv hb, hc, ?_, fun x hx => ?_⟩
 ·rw [gridT_rows hv b, resL_len (trainK_len hv.yl k).symm]
  exact hv.yl
 ·have := h x hx
  omega
theorem two_le {k : Nat} (hk : k ≤ 8) : (4294967296 : Int) * 2 ^ k ≤ 1099511627776 ∧ (0 : Int) ≤ 4294967296 * 2 ^ k := by
 match k, hk with
 | 0, _ | 1, _ | 2, _ | 3, _ | 4, _ | 5, _ | 6, _ | 7, _ | 8, _ => decide
theorem train_res {t : Tbl} {c : Cfg} {b : Nat} (hv : tabV t) (hb : 2 ≤ b ∧ b ≤ 8) (hc : cfgP c) (k : Nat) (hk : k ≤ 8) : ∀ x ∈ resL t.ys (trainK t c (gridT t b) k).1, -(4294967296 * 2 ^ k) ≤ x ∧ x ≤ 4294967296 * 2 ^ k :=
 trainK_res hv (fun k _ h => train_task hv hb hc k h) k hk
theorem train_tk {t : Tbl} {c : Cfg} {b : Nat} (hv : tabV t) (hb : 2 ≤ b ∧ b ≤ 8) (hc : cfgP c) {k : Nat} (hk : k ≤ 8) : taskP (gridT t b) (resL t.ys (trainK t c (gridT t b) k).1) c := by
 refine train_task hv hb hc k fun x hx => ?_
 have h1 := train_res hv hb hc k hk x hx
 have h2 := two_le hk
 omega
theorem train_preds {t : Tbl} {c : Cfg} {b : Nat} (hv : tabV t) (hb : 2 ≤ b ∧ b ≤ 8) (hc : cfgP c) {k : Nat} (hk : k ≤ 8) : ∀ p ∈ (trainK t c (gridT t b) k).1, -2199023255552 ≤ p ∧ p ≤ 2199023255552 := by
 intro p hp
 obtain ⟨i, hi⟩ := List.getElem?_of_mem hp
 have hl := trainK_len (c := c) (g := gridT t b) hv.yl k
 obtain ⟨y, hy⟩ := get_lt (show i < t.ys.length by have := (List.getElem?_eq_some_iff.1 hi).1; omega)
 have hm : (resL t.ys (trainK t c (gridT t b) k).1)[i]? = some (y - p) := by rw [resL, List.getElem?_zipWith, hy, hi]
 have h1 := train_res hv hb hc k hk _ (List.mem_of_getElem? hm)
 have h2 := two_le hk
 have h3 := hv.yv y (List.mem_of_getElem? hy)
 omega
theorem trainK_at (t : Tbl) (c : Cfg) (g : Grd) : ∀ k i, i < k → (trainK t c g k).2[i]? = some (shrT c (growL g (resL t.ys (trainK t c g i).1) c))
 | k + 1, i, h => by
  have hl := trainK_trees t c g k
  show ((trainK t c g k).2 ++ [_])[i]? = _
  rcases Nat.lt_or_ge i k with q | q
  ·rw [List.getElem?_append_left (by omega)]
   exact trainK_at t c g k i q
  ·obtain rfl : i = k := by omega
   rw [List.getElem?_append_right (by omega), hl, Nat.sub_self]
   rfl
end Go.H.S
namespace Go.H.S
open Go Go.Proofs Go.H
attribute [local irreducible] Tri FnSpec FnSpecM FnSpecX FnSpecJ
def catL (f : Int) : List (List Nd) → List Int
 | [] => []
 | t :: r => stepsAtL t f ++ catL f r
theorem stepsAtL_len (t : List Nd) (f : Int) : (stepsAtL t f).length ≤ t.length := by
 have h1 := distinctL_len (cutsL f t)
 have h2 := cutsL_len f t
 unfold stepsAtL
 omega
theorem catL_len (f : Int) : ∀ ts : List (List Nd), (catL f ts).length ≤ costL List.length ts
 | [] => by simp [catL, costL]
 | t :: r => by
  have := catL_len f r
  have := stepsAtL_len t f
  simp only [catL, costL, List.length_append]
  omega
def cutsInL (m : Mdl) (f : Int) : List Int := distinctL (catL f m.trees)
theorem cutsInL_len (m : Mdl) (f : Int) : (cutsInL m f).length ≤ costL List.length m.trees := by
 have h1 := distinctL_len (catL f m.trees)
 have h2 := catL_len f m.trees
 unfold cutsInL
 omega
theorem impl_CutsIn_spec (m : Mdl) (f : Int) (hl : m.trees.length ≤ 1048576) (hc : costL List.length m.trees ≤ 1048576) : FnSpec PR f_impl_CutsIn [aM m, ai f] (.c (.ref 0 0 none)) [(0, .arr t_int 1 0 .own (eL cI (cutsInL m f)))] 1 := by
 have hcl := catL_len f m.trees
 refine FnSpec.intro hT (pf Tryz.func80) rfl (by kernel_rfl) Tryz.ntmps80 rfl ?_
 conv => whnf
 refine tri_loop hT [1, 5, 10, 11, 12] (α := Nat × List Int) (fun x => { t := [(1, ai f), (5, .c (.ref 0 0 none)), (10, aTs m.trees), (11, ai m.trees.length), (12, ai x.1)], h := [(0, .arr t_int 1 0 .own (eL cI x.2))], n := 1, N := 24 })
  (fun x => x.1 ≤ m.trees.length ∧ x.2 ++ catL f (m.trees.drop x.1) = catL f m.trees) (fun x => m.trees.length - x.1) (0, []) (by ((conv => whnf); simp only [eS, eL_nil])) ⟨Nat.zero_le _, by simp⟩ ?_
 intro ⟨k, o⟩ ⟨hk, ho⟩
 dsimp only at hk ho
 have hol : o.length ≤ costL List.length m.trees := by have := congrArg List.length ho; simp at this; omega
 conv => whnf
 refine ifB_i (fun h1 => ?_) (fun h1 => ?_) <;> (conv => whnf) <;> simp at h1
 ·obtain ⟨t, ht⟩ := get_lt h1
  have htl := costL_mem List.length (List.mem_of_getElem? ht)
  have hsl := stepsAtL_len t f
  rw [drop_at ht, catL] at ho
  refine idx_at (by simp) ht ?_
  conv => whnf
  refine .inl ⟨_, _, _, impl_StepsAt_spec t f (by omega), rfl, ?_⟩
  conv => whnf
  refine And.intro (by simp [eL_length, dLen_len]; omega) ?_
  conv => whnf
  refine ⟨(k + 1, o ++ stepsAtL t f), by dsimp only; omega, ⟨h1, by simpa using ho⟩, ?_⟩
  ((conv => whnf); simp only [eS, partOf_none, wI h1 (by omega)])
  rw [← eL_apps]
  try rfl
 ·obtain rfl : k = m.trees.length := by omega
  simp [catL] at ho
  subst ho
  refine .inr (.inl ⟨_, _, _, impl_Distinct_spec _ (by dsimp only; omega), rfl, ⟨flat_cI _, trivial⟩, ?_⟩)
  conv => whnf
  try rfl
theorem spec_CutsIn_spec (m : Mdl) (f : Int) (hl : m.trees.length ≤ 1048576) (hc : costL List.length m.trees ≤ 1048576) : FnSpec PR f_spec_CutsIn [aM m, ai f] (.c (.ref 0 0 none)) [(0, .arr t_int 1 0 .own (eL cI (cutsInL m f)))] 1 := by
 have hcl := catL_len f m.trees
 refine FnSpec.intro hT (pf Tryz.func81) rfl (by kernel_rfl) Tryz.ntmps81 rfl ?_
 conv => whnf
 refine tri_loop hT [1, 2, 5, 6] (α := Nat × List Int) (fun x => { t := [(1, ai f), (2, .c (.ptr 0 0)), (5, .c (.ref 1 0 none)), (6, ai x.1)], h := [(0, .box t_impl_Model (cM m)), (1, .arr t_int 1 0 .own (eL cI x.2))], n := 2, N := 26 })
  (fun x => x.1 ≤ m.trees.length ∧ x.2 ++ catL f (m.trees.drop x.1) = catL f m.trees) (fun x => m.trees.length - x.1) (0, []) (by ((conv => whnf); simp only [eS, eL_nil])) ⟨Nat.zero_le _, by simp⟩ ?_
 intro ⟨k, o⟩ ⟨hk, ho⟩
 dsimp only at hk ho
 have hol : o.length ≤ costL List.length m.trees := by have := congrArg List.length ho; simp at this; omega
 conv => whnf
 refine ifB_i (fun h1 => ?_) (fun h1 => ?_) <;> (conv => whnf) <;> simp at h1
 ·obtain ⟨t, ht⟩ := get_lt h1
  have htl := costL_mem List.length (List.mem_of_getElem? ht)
  have hsl := stepsAtL_len t f
  rw [drop_at ht, catL] at ho
  refine idx_at (by simp) ht ?_
  conv => whnf
  refine .inl ⟨_, _, _, spec_StepsAt_spec t f (by omega), rfl, ?_⟩
  conv => whnf
  refine And.intro (by simp [eL_length, dLen_len]; omega) ?_
  conv => whnf
  refine ⟨(k + 1, o ++ stepsAtL t f), by dsimp only; omega, ⟨h1, by simpa using ho⟩, ?_⟩
  ((conv => whnf); simp only [eS, partOf_none, wI h1 (by omega)])
  rw [← eL_apps]
  try rfl
 ·obtain rfl : k = m.trees.length := by omega
  simp [catL] at ho
  subst ho
  refine .inr (.inl ⟨_, _, _, spec_Distinct_spec _ (by dsimp only; omega), rfl, ⟨flat_cI _, trivial⟩, ?_⟩)
  conv => whnf
  try rfl
end Go.H.S
namespace Go.H.S
open Go Go.Proofs Go.H
theorem cutsL_node {f : Int} {x : Int} : ∀ {t : List Nd}, x ∈ cutsL f t → ∃ n ∈ t, n.f = f ∧ n.c = x
 | [], h => by simp [cutsL] at h
 | n :: r, h => by
  simp only [cutsL] at h
  split at h
  ·rename_i q
   rcases List.mem_cons.1 h with h | h
   ·exact ⟨n, by simp, by simp only [isF, Bool.and_eq_true, decide_eq_true_eq] at q; omega, h.symm⟩
   ·obtain ⟨m, h1, h2⟩ := cutsL_node h
    exact ⟨m, by simp [h1], h2⟩
  ·obtain ⟨m, h1, h2⟩ := cutsL_node h
   exact ⟨m, by simp [h1], h2⟩
theorem catL_mem {f : Int} {x : Int} : ∀ {ts : List (List Nd)}, x ∈ catL f ts → ∃ t ∈ ts, x ∈ stepsAtL t f
 | [], h => by simp [catL] at h
 | t :: r, h => by
  simp only [catL] at h
  rcases List.mem_append.1 h with h | h
  ·exact ⟨t, by simp, h⟩
  ·obtain ⟨u, h1, h2⟩ := catL_mem h
   exact ⟨u, by simp [h1], h2⟩
theorem cutsInL_node {m : Mdl} {f x : Int} (h : x ∈ cutsInL m f) : ∃ t ∈ m.trees, ∃ n ∈ t, n.f = f ∧ n.c = x := by
 obtain ⟨t, ht, hx⟩ := catL_mem (distinctL_mem h)
 exact ⟨t, ht, cutsL_node (distinctL_mem hx)⟩
theorem grown_cut {g : Grd} {grads : List Int} {c : Cfg} (ht : taskP g grads c) {n : Nd} (hn : n ∈ growL g grads c) {f : Nat} (hf : n.f = (f : Int)) : n.c ∈ cutsF g f := by
 obtain ⟨j, hj⟩ := List.getElem?_of_mem hn
 obtain ⟨x, hx, hip, h⟩ := (grow_node ht).2 j (List.getElem?_eq_some_iff.1 hj).1
 rcases h with ⟨_, h⟩ | ⟨z, hz, h, _⟩
 ·rw [hj] at h
  cases h
  exfalso
  have : (leafI grads c x).f = -1 := rfl
  omega
 ·obtain ⟨f2, b, hp⟩ := parted ht hip hz
  rw [hj] at h
  cases h
  have h1 : z.f = (f : Int) := hf
  obtain rfl : f2 = f := by have := hp.zf; omega
  show cutAt g z.f z.b ∈ _
  unfold cutAt
  rw [hp.zf, hp.zb, Int.toNat_natCast, Int.toNat_natCast]
  obtain ⟨u, hu⟩ := get_lt hp.hb
  rw [hu]
  exact List.mem_of_getElem? hu
theorem cutsF_T {t : Tbl} {b f : Nat} (hf : f < t.names.length) : cutsF (gridT t b) f = cutsT t b f := by
 unfold cutsF
 rw [cutsT_at hf]
 rfl
theorem train_cut {t : Tbl} {c : Cfg} {b : Nat} (hv : tabV t) (hb : 2 ≤ b ∧ b ≤ 8) (hc : cfgP c) {k : Nat} (hk : k ≤ 8) {m : Mdl} (hm : m.trees = (trainK t c (gridT t b) k).2) {f : Nat} (hf : f < t.names.length) {x : Int} (hx : x ∈ cutsInL m f) : x ∈ cutsT t b f := by
 obtain ⟨tr, htr, n, hn, hnf, hnc⟩ := cutsInL_node hx
 rw [hm] at htr
 obtain ⟨i, hi⟩ := List.getElem?_of_mem htr
 have hik : i < k := by have := (List.getElem?_eq_some_iff.1 hi).1; rw [trainK_trees] at this; exact this
 obtain rfl := Option.some.inj ((trainK_at t c _ k i hik).symm.trans hi)
 simp only [shrT, List.mem_map] at hn
 obtain ⟨n0, hn0, rfl⟩ := hn
 have e1 : (shrN c n0).f = n0.f := by unfold shrN; split <;> rfl
 have e2 : (shrN c n0).c = n0.c := by unfold shrN; split <;> rfl
 rw [e1] at hnf
 rw [e2] at hnc
 have := grown_cut (train_tk hv hb hc (k := i) (by omega)) hn0 hnf
 rw [hnc, cutsF_T hf] at this
 exact this
end Go.H.S
namespace Go.H.S
open Go Go.Proofs Go.H
attribute [local irreducible] Tri FnSpec FnSpecM FnSpecX FnSpecJ FnSpecB
abbrev tupMB (x : Mdl × Bool) : AV := .tup [(true, cM x.1), (false, [.d (.bool x.2)])]
def emptyM : Mdl := ⟨[], [], 0, []⟩
def modelOf (t : Tbl) (c : Cfg) (ts : List (List Nd)) : Mdl := ⟨t.names, c.signs, baseL t.ys, ts⟩
def modelR (t : Tbl) (c : Cfg) (ts : List (List Nd)) : Mdl × Bool := if modelOk (modelOf t c ts) = true then (modelOf t c ts, true) else (emptyM, false)
def boostT (t : Tbl) (c : Cfg) : List Int × List (List Nd) := trainK t c (gridT t c.bins.toNat) c.rounds.toNat
noncomputable def trainR (t : Tbl) (c : Cfg) : Mdl × Bool := if tableOk t = true ∧ cfgOk c = true then modelR t c (boostT t c).2 else (emptyM, false)
theorem cfg_nats {c : Cfg} (hc : cfgP c) : (c.bins = (c.bins.toNat : Int) ∧ 2 ≤ c.bins.toNat ∧ c.bins.toNat ≤ 8) ∧ c.rounds = (c.rounds.toNat : Int) ∧ 1 ≤ c.rounds.toNat ∧ c.rounds.toNat ≤ 8 := by
 have := (cfg_five c).1 hc.1
 omega
theorem train_tlen {t : Tbl} {c : Cfg} {b : Nat} (hv : tabV t) (hb : 2 ≤ b ∧ b ≤ 8) (hc : cfgP c) {k : Nat} (hk : k ≤ 8) : ∀ x ∈ (trainK t c (gridT t b) k).2, x.length ≤ 31 := by
 intro x hx
 obtain ⟨i, hi⟩ := List.getElem?_of_mem hx
 have hik : i < k := by have := (List.getElem?_eq_some_iff.1 hi).1; rw [trainK_trees] at this; exact this
 obtain rfl := Option.some.inj ((trainK_at t c _ k i hik).symm.trans hi)
 simp only [shrT, List.length_map]
 exact (grown_shape (train_tk hv hb hc (k := i) (by omega))).2.2
set_option maxHeartbeats 4000000 in
theorem spec_Boost_no (t : Tbl) (c : Cfg) (hz : szT t) (hcl : c.signs.length ≤ 1048576) (h : ¬ (tableOk t = true ∧ cfgOk c = true)) : FnSpec PR f_spec_Boost [aTb t, aCf c] (tupSt [] [] false) [] 0 := by
 refine FnSpec.intro hT (pf Tryz.func142) rfl (by kernel_rfl) Tryz.ntmps142 rfl ?_
 conv => whnf
 cases ht : tableOk t with
 | false =>
  refine .inl ⟨_, _, _, spec_StateNew_no t hz ht, rfl, ?_⟩
  conv => whnf
  simp only [tupSt, cSt, eL_nil]
  first | done | rfl
 | true =>
  have hc : cfgOk c = false := by cases q : cfgOk c with | true => exact absurd ⟨ht, q⟩ h | false => rfl
  refine .inl ⟨_, _, _, spec_StateNew_spec t hz ht, rfl, ?_⟩
  conv => whnf
  refine .inl ⟨_, _, _, spec_ConfigOk_spec c hcl, rfl, ?_⟩
  rw [hc]
  conv => whnf
  simp only [tupSt, cSt, eL_nil]
  first | done | rfl
set_option maxHeartbeats 4000000 in
theorem spec_Boost_of (t : Tbl) (c : Cfg) (g : Grd) (P : Nat → List Int) (T : Nat → List (List Nd)) (n : Nat) (hc : cfgOk c = true) (hcl : c.signs.length ≤ 1048576) (hn : c.rounds = n) (hn8 : n ≤ 8) (hgrid : FnSpec PR f_spec_GridOf [aTb t, ai c.bins] (aG g) [] 0) (hnew : FnSpec PR f_spec_StateNew [aTb t] (tupSt (P 0) (T 0) true) [] 0)
  (hround : ∀ k, k < n → FnSpec PR f_spec_RoundOf [aTb t, aG g, aCf c, aSt (P k) (T k)] (tupSt (P (k + 1)) (T (k + 1)) true) [] 0) : FnSpec PR f_spec_Boost [aTb t, aCf c] (tupSt (P n) (T n) true) [] 0 := by
 refine FnSpec.intro hT (pf Tryz.func142) rfl (by kernel_rfl) Tryz.ntmps142 rfl ?_
 conv => whnf
 refine .inl ⟨_, _, _, hnew, rfl, ?_⟩
 conv => whnf
 refine .inl ⟨_, _, _, spec_ConfigOk_spec c hcl, rfl, ?_⟩
 rw [hc]
 conv => whnf
 refine .inl ⟨_, _, _, hgrid, rfl, ?_⟩
 conv => whnf
 refine tri_rp 0 ?_
 conv => whnf
 refine tri_rp 1 ?_
 conv => whnf
 refine tri_rp 4 ?_
 conv => whnf
 refine tri_loop hT [2, 3, 4, 6, 8, 9] (α := Nat) (fun k => { t := [(2, rpTb t), (3, rpCf c), (4, .c (.ptr 0 0)), (6, .c (.ptr 1 0)), (8, rpG g), (9, ai k)], h := [(0, .box t_impl_State [.nl 1, .nl 1]), (1, .box t_impl_State (cSt (P k) (T k)))], n := 2, N := 48 })
  (fun k => k ≤ n) (fun k => n - k) 0 (by (conv => whnf); first | done | rfl) (Nat.zero_le _) ?_
 intro k hk
 conv => whnf
 refine ifB_i (fun q => ?_) (fun q => ?_) <;> (conv => whnf) <;> simp [iLt, hn] at q
 ·refine .inl ⟨_, _, _, hround k q, rfl, ?_⟩
  conv => whnf
  refine ⟨k + 1, by omega, by omega, ?_⟩
  ((conv => whnf); simp only [eS, wI (show k < n by omega) (by omega)])
  first | done | rfl | exact ⟨rfl, rfl⟩
 ·obtain rfl : k = n := by omega
  first | done | rfl
theorem spec_Boost_yes (t : Tbl) (c : Cfg) (hz : szT t) (ht : tableOk t = true) (hco : cfgOk c = true) : FnSpec PR f_spec_Boost [aTb t, aCf c] (tupSt (boostT t c).1 (boostT t c).2 true) [] 0 := by
 have hv := tableOk_v ht
 have hc := cfgOk_iff.1 hco
 obtain ⟨⟨hb, hbb⟩, hn, hn1, hn8⟩ := cfg_nats hc
 have hgrid := spec_GridOf_d t c.bins.toNat hbb ht hz.n hz.ns hz.tg hz.r hz.c hz.y
 rw [← hb] at hgrid
 refine spec_Boost_of t c (gridT t c.bins.toNat) (fun k => (trainK t c (gridT t c.bins.toNat) k).1) (fun k => (trainK t c (gridT t c.bins.toNat) k).2) c.rounds.toNat hco (by have := hc.2.2.2.2; omega) hn hn8 hgrid (spec_StateNew_spec t hz ht) fun k hk => ?_
 have htk := train_tk hv hbb hc (k := k) (by omega)
 exact spec_RoundOf_spec t c.bins.toNat c _ _ (growL (gridT t c.bins.toNat) (resL t.ys (trainK t c (gridT t c.bins.toNat) k).1) c) hz ht hc hb hbb (gridT_sm hv hbb.2) (trainK_len hv.yl k) (fun p hp => by have := train_preds hv hbb hc (k := k) (by omega) p hp; omega)
  (by rw [trainK_trees]; omega) (fun x hx => by have := train_tlen hv hbb hc (k := k) (by omega) x hx; omega) htk (grown_len htk) (grown_leafP htk) rfl (fun r => by have := round_abs htk r; omega)
set_option maxHeartbeats 4000000 in
theorem spec_ModelFrom_spec (t : Tbl) (c : Cfg) (ps : List Int) (ts : List (List Nd)) (hz : szT t) (ht : tableOk t = true) (hc : cfgOk c = true) (hcl : c.signs.length ≤ 1048576) (hts : ts.length ≤ 1000) (htl : ∀ x ∈ ts, x.length ≤ 1000) :
  FnSpec PR f_spec_ModelFrom [aTb t, aCf c, aSt ps ts] (tupMB (modelR t c ts)) [] 0 := by
 have hv := tableOk_v ht
 have hzn := hz.n
 have hok := spec_ModelOk_spec (modelOf t c ts) hz.n hz.ns hcl (by show ts.length ≤ _; omega) (fun x hx => by have := htl x hx; omega)
 unfold modelR
 unfold modelOf at hok ⊢
 refine FnSpec.intro hT (pf Tryz.func143) rfl (by kernel_rfl) Tryz.ntmps143 rfl ?_
 conv => whnf
 refine .inl ⟨_, _, _, spec_TableOk_spec t hz.n hz.ns hz.tg hz.r hz.c hz.y, rfl, ?_⟩
 rw [ht]
 conv => whnf
 refine .inl ⟨_, _, _, spec_ConfigOk_spec c hcl, rfl, ?_⟩
 rw [hc]
 conv => whnf
 refine .inl ⟨_, _, _, spec_BaseOf_spec t.ys (by have := hv.yl; have := hv.r1; omega) (by have := hv.yl; have := hv.r40; omega) hv.yv, rfl, ?_⟩
 conv => whnf
 refine tri_rp 0 ?_
 conv => whnf
 refine tri_rp 1 ?_
 conv => whnf
 refine tri_rp 2 ?_
 conv => whnf
 refine tri_every hT hmix [6, 10] { t := [(6, .c (.ptr 0 0)), (10, .c (.ptr 1 0))], h := [(0, .box t_impl_Model [.nl 1, .nl 1, .d (.int .i64 0), .nl 1]), (1, .box t_impl_Model [.ref 2 0 none, .ref 3 0 none, .d (.int .i64 (baseL t.ys)), .ref 4 0 none]), (2, .arr t_string 1 0 .own (eL cS t.names)), (3, .arr t_int 1 0 .own (eL cI c.signs)), (4, .arr t_impl_Tree 1 0 .own (eL cT ts))], n := 5, N := 44 } rfl ?_ ?_
 ·repeat' first
   | (refine anyV_one rfl ?_; (conv => whnf))
   | (refine anyV_two rfl ?_ ?_ <;> (conv => whnf))
   | (refine anyV_three rfl ?_ ?_ ?_ <;> (conv => whnf))
   | (refine anyV_four rfl ?_ ?_ ?_ ?_ <;> (conv => whnf))
   | (refine .inl ⟨_, _, _, spec_l22Trees_d ts (by omega) (fun x hx => by have := htl x hx; omega), rfl, ?_⟩; (conv => whnf))
   | (refine And.intro (by simp [eL_length, dLen_len]; first | done | omega) ?_; (conv => whnf))
   | (refine anyV_end rfl ?_; (conv => whnf); simp only [dApp_nil, partOf_none]; first | done | rfl)
 conv => whnf
 refine .inl ⟨_, _, _, hok, rfl, ?_⟩
 cases hq : modelOk { names := t.names, signs := c.signs, base := baseL t.ys, trees := ts } with
 | true =>
  conv => whnf
  rw [if_pos rfl]
  first | done | rfl
 | false =>
  conv => whnf
  rw [if_neg (by decide)]
  simp only [emptyM, tupMB, cM, eL_nil]
  first | done | rfl
set_option maxHeartbeats 4000000 in
theorem spec_TrainModel_spec (t : Tbl) (c : Cfg) (hz : szT t) (hcl : c.signs.length ≤ 1048576) : FnSpec PR f_spec_TrainModel [aTb t, aCf c] (tupMB (trainR t c)) [] 0 := by
 by_cases h : tableOk t = true ∧ cfgOk c = true
 ·unfold trainR
  rw [if_pos h]
  have hv := tableOk_v h.1
  have hc := cfgOk_iff.1 h.2
  obtain ⟨⟨hb, hbb⟩, hn, hn1, hn8⟩ := cfg_nats hc
  have hbst := spec_Boost_yes t c hz h.1 h.2
  have hmf := spec_ModelFrom_spec t c (boostT t c).1 (boostT t c).2 hz h.1 h.2 hcl (by unfold boostT; rw [trainK_trees]; omega) (fun x hx => by have := train_tlen hv hbb hc hn8 x hx; omega)
  generalize modelR t c (boostT t c).2 = r at *
  generalize boostT t c = x at *
  refine FnSpec.intro hT (pf Tryz.func55) rfl (by kernel_rfl) Tryz.ntmps55 rfl ?_
  conv => whnf
  refine .inl ⟨_, _, _, hbst, rfl, ?_⟩
  conv => whnf
  refine .inl ⟨_, _, _, hmf, rfl, ?_⟩
  conv => whnf
  first | done | rfl
 ·unfold trainR
  rw [if_neg h]
  have hbst := spec_Boost_no t c hz hcl h
  refine FnSpec.intro hT (pf Tryz.func55) rfl (by kernel_rfl) Tryz.ntmps55 rfl ?_
  conv => whnf
  refine .inl ⟨_, _, _, hbst, rfl, ?_⟩
  conv => whnf
  simp only [emptyM, tupMB, cM, eL_nil]
  first | done | rfl
end Go.H.S
