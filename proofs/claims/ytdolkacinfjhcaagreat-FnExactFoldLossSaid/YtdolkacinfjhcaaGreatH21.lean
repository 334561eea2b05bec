/- Framework H, part 21: what the names that the computation leaves standing mean. -/
import Derived.Test.YtdolkacinfjhcaaGreatH20
set_option linter.unusedSimpArgs false
set_option linter.unusedVariables false
set_option linter.constructorNameAsVariable false
namespace Go.H
open Go.RowKit
@[irreducible] def nLen {α : Type} (l : List α) : Nat := l.length
@[irreducible] def eL {α : Type} (f : α → List D) (l : List α) : List (List D) := l.map f
@[simp] theorem dLen_eL {α : Type} (f : α → List D) (l : List α) : dLen (eL f l) = l.length := by simp [dLen, eL]
@[simp] theorem lenRE_none (es : List (List D)) : lenRE es none = dLen es := rfl
@[simp] theorem lenRE_some (es : List (List D)) (b : Bool) (o n : Nat) : lenRE es (some (b, o, n)) = n := rfl
@[simp] theorem offR_none : offR none = 0 := rfl
@[simp] theorem offR_some (b : Bool) (o n : Nat) : offR (some (b, o, n)) = o := rfl
@[simp] theorem partOf_none (es : List (List D)) : partOf es none = es := rfl
@[simp] theorem dLen_nil : dLen [] = 0 := by simp [dLen]
@[simp] theorem dLen_cons (c : List D) (es : List (List D)) : dLen (c :: es) = dLen es + 1 := by simp [dLen]
theorem at_eL {α : Type} {f : α → List D} {l : List α} {i : Nat} {c : List D} (h : AtD (eL f l) i c) : ∃ x, l[i]? = some x ∧ c = f x := by
 simp only [AtD, eL, List.getElem?_map, Option.map_eq_some_iff] at h
 obtain ⟨x, h1, h2⟩ := h
 exact ⟨x, h1, h2.symm⟩
theorem dLen_len (es : List (List D)) : dLen es = es.length := by unfold dLen; rfl
theorem eL_app {α : Type} (f : α → List D) (l : List α) (x : α) : dApp (eL f l) [f x] = eL f (l ++ [x]) := by simp [dApp, eL]
theorem eL_set {α : Type} (f : α → List D) (l : List α) (i : Nat) (x : α) : dSet (eL f l) i (f x) = eL f (l.set i x) := by simp [dSet, eL, List.map_set]
theorem eL_rep {α : Type} (f : α → List D) (z : α) (n : Int) : dRep n (f z) = eL f (List.replicate n.toNat z) := by simp [dRep, eL]
@[simp] theorem iLt_t (x y : Int) : (iLt x y = true) = (x < y) := by simp [iLt]
@[simp] theorem iLt_f (x y : Int) : (iLt x y = false) = (y ≤ x) := by simp [iLt]
@[simp] theorem iLe_t (x y : Int) : (iLe x y = true) = (x ≤ y) := by simp [iLe]
@[simp] theorem iLe_f (x y : Int) : (iLe x y = false) = (y < x) := by simp [iLe]
@[simp] theorem iEq_t (x y : Int) : (iEq x y = true) = (x = y) := by simp [iEq]
@[simp] theorem iEq_f (x y : Int) : (iEq x y = false) = (x ≠ y) := by simp [iEq]
@[simp] theorem sEq_t (x y : ByteArray) : (sEq x y = true) = (x = y) := by
 simp only [sEq, beq_iff_eq, eq_iff_iff]
 refine ⟨fun h => ?_, fun h => by rw [h]⟩
 have h1 : ∀ z : ByteArray, z.toList = z.data.toList := fun z => ByteArray.toList_eq z
 rw [h1, h1] at h
 cases x; cases y
 simp only at h
 congr 1
 exact Array.toList_inj.1 h
@[simp] theorem sEq_f (x y : ByteArray) : (sEq x y = false) = (x ≠ y) := by
 have := sEq_t x y
 cases h : sEq x y with
 | false => simp only [h, Bool.false_eq_true, eq_iff_iff, false_iff] at this; simp [this]
 | true => simp only [h, eq_iff_iff, true_iff] at this; simp [this]
@[simp] theorem bNot_t (x : Bool) : (bNot x = true) = (x = false) := by cases x <;> simp [bNot]
@[simp] theorem bNot_f (x : Bool) : (bNot x = false) = (x = true) := by cases x <;> simp [bNot]
@[simp] theorem bAnd_t (x y : Bool) : (bAnd x y = true) = (x = true ∧ y = true) := by cases x <;> cases y <;> simp [bAnd]
@[simp] theorem bEq_t (x y : Bool) : (bEq x y = true) = (x = y) := by cases x <;> cases y <;> simp [bEq]
@[simp] theorem bEq_f (x y : Bool) : (bEq x y = false) = (x ≠ y) := by cases x <;> cases y <;> simp [bEq]
@[simp] theorem nLen_eq {α : Type} (l : List α) : nLen l = l.length := by unfold nLen; rfl
@[simp] theorem nInt_eq (n : Nat) : nInt n = (n : Int) := by unfold nInt; rfl
@[simp] theorem nAdd_eq (x y : Nat) : nAdd x y = x + y := by unfold nAdd; rfl
@[simp] theorem nSub_eq (x y : Nat) : nSub x y = x - y := by unfold nSub; rfl
@[simp] theorem nOf_eq (x : Int) : nOf x = x.toNat := by unfold nOf; rfl
@[simp] theorem sLen_eq (s : ByteArray) : sLen s = (s.size : Int) := by unfold sLen; rfl
@[simp] theorem InB_eq (n : Int) (m : Nat) : InB n m = (0 ≤ n ∧ n < m) := by unfold InB; rfl
@[simp] theorem InS_eq (l h : Int) (m : Nat) : InS l h m = (0 ≤ l ∧ l ≤ h ∧ h ≤ m) := by unfold InS; rfl
@[simp] theorem NZ_eq (y : Int) : NZ y = (y ≠ 0) := by unfold NZ; rfl
@[simp] theorem NN_eq (y : Int) : NN y = (0 ≤ y) := by unfold NN; rfl
@[simp] theorem Fits_eq (m n : Nat) : Fits m n = (m + n ≤ 4000000000) := by unfold Fits; rfl
@[simp] theorem FitsM_eq (l c : Int) : FitsM l c = (0 ≤ l ∧ l ≤ c ∧ c ≤ 4000000000) := by unfold FitsM; rfl
theorem wrap64 {x : Int} (h1 : -9223372036854775808 ≤ x) (h2 : x < 9223372036854775808) : IntKind.wrap .i64 x = x := by
 simp only [IntKind.wrap, IntKind.bits, IntKind.signed]
 simp
 omega
theorem wAdd64 {x y : Int} (h1 : -9223372036854775808 ≤ x + y) (h2 : x + y < 9223372036854775808) : wAdd .i64 x y = x + y := by unfold wAdd; exact wrap64 h1 h2
theorem wSub64 {x y : Int} (h1 : -9223372036854775808 ≤ x - y) (h2 : x - y < 9223372036854775808) : wSub .i64 x y = x - y := by unfold wSub; exact wrap64 h1 h2
theorem wMul64 {x y : Int} (h1 : -9223372036854775808 ≤ x * y) (h2 : x * y < 9223372036854775808) : wMul .i64 x y = x * y := by unfold wMul; exact wrap64 h1 h2
theorem wInc {k n : Nat} (h : k < n) (hn : n ≤ 9223372036854775807) : wAdd .i64 (nInt k) 1 = nInt (k + 1) := by
 rw [wAdd64] <;> simp only [nInt_eq] <;> omega
@[simp] theorem dRoom_eq (j n : Nat) (c : List D) : dRoom j n c = (j + n ≤ c.length) := by unfold dRoom; rfl
theorem dOver_all {c ds : List D} (h : ds.length = c.length) : dOver c 0 ds = ds := by
 simp [dOver, over, h]
structure Fill {α : Type} (f : α → List D) (sz : Nat) (xs : List α) (k : Nat) (es : List (List D)) : Prop where
 len : es.length = xs.length
 sz : ∀ (i : Nat) (c : List D), es[i]? = some c → c.length = sz
 eq : es.take k = (xs.map f).take k
theorem Fill.start {α : Type} (f : α → List D) {sz : Nat} (xs : List α) {z : List D} (hz : z.length = sz) : Fill f sz xs 0 (dRep (nInt (dLen (eL f xs))) z) where
 len := by simp [dRep]
 sz i c h := by
  simp only [dRep, List.getElem?_replicate] at h
  split at h
  ·cases h; exact hz
  ·cases h
 eq := by simp
theorem Fill.room {α : Type} {f : α → List D} {sz : Nat} {xs : List α} {k : Nat} {es : List (List D)} (h : Fill f sz xs k es) {i : Nat} {c : List D} (hc : AtD es i c) : c.length = sz := h.sz i c (by unfold AtD at hc; exact hc)
theorem Fill.step {α : Type} {f : α → List D} {sz : Nat} {xs : List α} {k : Nat} {es : List (List D)} (h : Fill f sz xs k es) {x : α} (hx : xs[k]? = some x) (hf : (f x).length = sz) : Fill f sz xs (k + 1) (dSet es k (f x)) where
 len := by simp [dSet, h.len]
 sz i c hc := by
  simp only [dSet, List.getElem?_set] at hc
  split at hc
  ·split at hc
   ·cases hc; exact hf
   ·cases hc
  ·exact h.sz i c hc
 eq := by
  have hk : k < es.length := by rw [h.len]; exact (List.getElem?_eq_some_iff.1 hx).1
  apply List.ext_getElem?
  intro i
  have he := congrArg (·[i]?) h.eq
  simp only [List.getElem?_take] at he
  simp only [dSet, List.getElem?_take, List.getElem?_set]
  by_cases hi : i < k
  ·simp only [hi, if_true] at he
   have h1 : i < k + 1 := by omega
   have h2 : ¬ k = i := by omega
   simp only [h1, h2, if_true, if_false]
   exact he
  ·by_cases hik : i = k
   ·subst hik
    have h1 : i < i + 1 := by omega
    simp [hx, hk]
   ·have h1 : ¬ i < k + 1 := by omega
    simp only [h1, if_false]
theorem Fill.done {α : Type} {f : α → List D} {sz : Nat} {xs : List α} {es : List (List D)} (h : Fill f sz xs xs.length es) : es = eL f xs := by
 have := h.eq
 rw [List.take_of_length_le (by rw [h.len]; exact Nat.le_refl _), List.take_of_length_le (by simp)] at this
 simp only [eL]; exact this
theorem drop_at {α : Type} {l : List α} {k : Nat} {x : α} (h : l[k]? = some x) : l.drop k = x :: l.drop (k + 1) := by
 obtain ⟨h1, rfl⟩ := List.getElem?_eq_some_iff.1 h
 exact List.drop_eq_getElem_cons h1
end Go.H
