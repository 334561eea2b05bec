/- Library, part RA: names, signs, models that are right. -/
import Derived.Test.YtdolkacinfjhcaaGreatLY
import Derived.Test.YtdolkacinfjhcaaGreatLNH
import Derived.Test.YtdolkacinfjhcaaGreatLNC
import Derived.Test.YtdolkacinfjhcaaGreatH31
set_option maxRecDepth 100000
set_option linter.unusedSimpArgs false
set_option linter.unusedVariables false
namespace Go.H.S
open Go Go.Proofs Go.H
attribute [local irreducible] Tri FnSpec FnSpecM FnSpecX FnSpecJ
def letterB (b : UInt8) : Bool := decide (97 ≤ (b.toNat : Int) ∧ (b.toNat : Int) ≤ 122)
def digitB (b : UInt8) : Bool := decide (48 ≤ (b.toNat : Int) ∧ (b.toNat : Int) ≤ 57)
def nameL : List UInt8 → Nat → Bool
 | [], _ => true
 | b :: r, k => (letterB b || (decide (k ≠ 0) && digitB b)) && nameL r (k + 1)
def nameOk (s : ByteArray) : Bool := decide (1 ≤ (s.size : Int) ∧ (s.size : Int) ≤ 12) && nameL s.data.toList 0
theorem nameL_late : ∀ (l : List UInt8) (k : Nat), 0 < k → nameL l k = l.all fun b => letterB b || digitB b
 | [], k, h => rfl
 | b :: r, k, h => by
  simp only [nameL, List.all_cons, nameL_late r (k + 1) (by omega)]
  rw [show decide (k ≠ 0) = true from decide_eq_true (by omega), Bool.true_and]
theorem str_at {s : ByteArray} {n : Int} {k : Nat} {b : UInt8} {K : UInt8 → Prop} (hn : n = (k : Int)) (hb : s.data.toList[k]? = some b) (h : K b) : InB n s.size ∧ ∀ c, AtB s (nOf n) c → K c := by
 subst hn
 have hlt := (List.getElem?_eq_some_iff.1 hb).1
 refine ⟨by simp; exact hlt, fun c hc => ?_⟩
 have hc' : s.data.toList[nOf (k : Int)]? = some c := by unfold AtB at hc; exact hc
 rw [nOf_eq, Int.toNat_natCast, hb] at hc'
 cases hc'
 exact h
theorem byte_get {s : ByteArray} {k : Nat} (h : k < s.size) : ∃ b, s.data.toList[k]? = some b := get_lt (l := s.data.toList) (by simpa using h)
theorem bInt_eq' (b : UInt8) : bInt b = (b.toNat : Int) := by unfold bInt; rfl
theorem bInt_lt (b : UInt8) : 0 ≤ bInt b ∧ bInt b < 256 := by rw [bInt_eq']; have := b.toNat_lt; omega
theorem wConv_byte (b : UInt8) : wConv .i64 (bInt b) = bInt b := by
 have := bInt_lt b
 unfold wConv
 exact wrap64 (by omega) (by omega)
theorem letter_b (b : UInt8) : letterB b = decide (97 ≤ bInt b ∧ bInt b ≤ 122) := by rw [bInt_eq']; rfl
theorem digit_b (b : UInt8) : digitB b = decide (48 ≤ bInt b ∧ bInt b ≤ 57) := by rw [bInt_eq']; rfl
theorem toList_cons {s : ByteArray} {b : UInt8} (h : s.data.toList[0]? = some b) : ∃ r, s.data.toList = b :: r := by
 generalize s.data.toList = l at *
 cases l with
 | nil => simp at h
 | cons x r => simp at h; subst h; exact ⟨r, rfl⟩
theorem spec_NameOk_spec (s : ByteArray) (hs : s.size ≤ 9223372036854775807) : FnSpec PR f_spec_NameOk [aS s] (ab (nameOk s)) [] 0 := by
 have hsz : s.data.toList.length = s.size := by simp
 refine FnSpec.intro hT (pf Tryz.func159) rfl (by kernel_rfl) Tryz.ntmps159 rfl ?_
 conv => whnf
 refine .inl ⟨_, _, _, spec_l1In_spec _ _ _, rfl, ?_⟩
 conv => whnf
 refine ifB_i (fun h1 => ?_) (fun h1 => ?_) <;> (conv => whnf) <;> simp only [eH] at h1
 ·have : decide (1 ≤ (s.size : Int) ∧ (s.size : Int) ≤ 12) = false := by simpa using h1
  simp [nameOk, this]
 have hno : nameOk s = nameL s.data.toList 0 := by simp only [nameOk]; rw [h1]; rfl
 have h1' := of_decide_eq_true h1
 obtain ⟨b0, hb0⟩ := byte_get (s := s) (k := 0) (by omega)
 refine str_at (k := 0) rfl hb0 ?_
 conv => whnf
 refine ifB_i (fun h2 => ?_) (fun h2 => ?_) <;> (conv => whnf) <;> simp only [eH] at h2
 ·obtain ⟨r, hr⟩ := toList_cons hb0
  have hl : letterB b0 = false := by rw [letter_b]; exact decide_eq_false (by omega)
  rw [hno, hr, nameL, hl]
  rfl
 refine tri_loop hT [0, 3] (α := Nat) (fun k => { t := [(0, aS s), (3, ai k)], h := [], n := 0, N := 33 })
  (fun k => k ≤ s.size ∧ ((s.data.toList.drop k).all fun b => letterB b || digitB b) = (s.data.toList.all fun b => letterB b || digitB b)) (fun k => s.size - k) 0 (by ((conv => whnf); simp only [eS])) ⟨Nat.zero_le _, rfl⟩ ?_
 intro k ⟨hk, hn⟩
 conv => whnf
 refine ifB_i (fun h3 => ?_) (fun h3 => ?_) <;> (conv => whnf) <;> simp at h3
 ·obtain ⟨b, hb⟩ := byte_get h3
  rw [drop_at hb, List.all_cons] at hn
  refine str_at (k := k) rfl hb ?_
  conv => whnf
  refine .inl ⟨_, _, _, spec_l1In_spec _ _ _, rfl, ?_⟩
  rw [wConv_byte, ← letter_b]
  conv => whnf
  have hbad : letterB b = false → digitB b = false → nameOk s = false := fun p1 p2 => by
   rw [p1, p2] at hn
   obtain ⟨r, hr⟩ := toList_cons hb0
   rw [hno, hr, nameL, nameL_late _ _ (by omega)]
   rw [hr, List.all_cons] at hn
   simp only [Bool.or_self, Bool.false_and] at hn
   cases hq : (r.all fun b => letterB b || digitB b) with
   | false => simp
   | true =>
    rw [hq, Bool.and_true] at hn
    have hb0n : letterB b0 = false := by
     cases hq2 : letterB b0 with
     | false => rfl
     | true => rw [hq2] at hn; simp at hn
    rw [hb0n]; rfl
  cases hl : letterB b
  ·conv => whnf
   refine str_at (k := k) rfl hb ?_
   conv => whnf
   refine .inl ⟨_, _, _, spec_l1In_spec _ _ _, rfl, ?_⟩
   rw [wConv_byte, ← digit_b]
   conv => whnf
   cases hd : digitB b
   ·conv => whnf
    rw [hbad hl hd]
   ·conv => whnf
    refine ⟨k + 1, by omega, ⟨h3, by rw [hl, hd] at hn; simpa using hn⟩, ?_⟩
    ((conv => whnf); simp only [eS, wI h3 (by omega)])
  ·conv => whnf
   refine ⟨k + 1, by omega, ⟨h3, by rw [hl] at hn; simpa using hn⟩, ?_⟩
   ((conv => whnf); simp only [eS, wI h3 (by omega)])
 ·obtain rfl : k = s.size := by omega
  rw [← hsz, List.drop_length] at hn
  obtain ⟨r, hr⟩ := toList_cons hb0
  rw [hr] at hn
  simp only [List.all_nil, List.all_cons] at hn
  have hn' := hn.symm
  simp only [Bool.and_eq_true] at hn'
  have hl : letterB b0 = true := by
   have h4 := hn'.1
   simp only [Bool.or_eq_true] at h4
   rcases h4 with h4 | h4
   ·exact h4
   ·rw [digit_b, decide_eq_true_eq] at h4; omega
  have : nameOk s = true := by rw [hno, hr, nameL, nameL_late _ _ (by omega), hl, hn'.2]; rfl
  rw [this]
theorem impl_NameOk_spec (s : ByteArray) (hs : s.size ≤ 9223372036854775807) : FnSpec PR f_impl_NameOk [aS s] (ab (nameOk s)) [] 0 := by
 refine FnSpec.intro hT (pf Tryz.func301) rfl (by kernel_rfl) Tryz.ntmps301 rfl ?_
 conv => whnf
 refine tri_loop hT [0, 6, 7] (α := Nat) (fun k => { t := [(0, aS s), (6, ai s.size), (7, ai k)], h := [], n := 0, N := 42 })
  (fun k => k ≤ s.size ∧ nameL (s.data.toList.drop k) k = nameL s.data.toList 0) (fun k => s.size - k) 0 (by ((conv => whnf); simp only [eS])) ⟨Nat.zero_le _, rfl⟩ ?_
 intro k ⟨hk, hn⟩
 conv => whnf
 refine ifB_i (fun h1 => ?_) (fun h1 => ?_) <;> (conv => whnf) <;> simp at h1
 ·obtain ⟨b, hb⟩ := byte_get h1
  rw [drop_at hb, nameL] at hn
  have hbad : (letterB b || (decide (k ≠ 0) && digitB b)) = false → nameOk s = false := fun p => by
   rw [p, Bool.false_and] at hn
   simp [nameOk, ← hn]
  have hgood : (letterB b || (decide (k ≠ 0) && digitB b)) = true → nameL (s.data.toList.drop (k + 1)) (k + 1) = nameL s.data.toList 0 := fun p => by
   rw [p, Bool.true_and] at hn
   exact hn
  rw [letter_b, digit_b] at hbad hgood
  refine str_at (k := k) rfl hb ?_
  conv => whnf
  generalize e1 : iLe 97 (bInt b) = c1
  cases c1 <;> (conv => whnf)
  ·have h97 : ¬ 97 ≤ bInt b := by simpa [iLe] using e1
   have hnl : decide (97 ≤ bInt b ∧ bInt b ≤ 122) = false := decide_eq_false (by omega)
   generalize e3 : iEq (k : Int) 0 = c3
   cases c3 <;> (conv => whnf)
   ·have hk0 : ¬ k = 0 := by intro h; subst h; simp [iEq] at e3
    refine str_at (k := k) rfl hb ?_
    conv => whnf
    generalize e4 : iLt (bInt b) 48 = c4
    cases c4 <;> (conv => whnf)
    ·refine str_at (k := k) rfl hb ?_
     conv => whnf
     generalize e5 : iLt 57 (bInt b) = c5
     cases c5 <;> (conv => whnf)
     ·refine ⟨k + 1, by omega, ⟨h1, hgood ?_⟩, ?_⟩
      ·have h48 : ¬ bInt b < 48 := by simpa [iLt] using e4
       have h57 : ¬ 57 < bInt b := by simpa [iLt] using e5
       rw [decide_eq_true hk0, decide_eq_true (show 48 ≤ bInt b ∧ bInt b ≤ 57 by omega)]
       simp
      ·((conv => whnf); simp only [eS, wI h1 hs])
     ·have h57 : 57 < bInt b := by simpa [iLt] using e5
      rw [hbad (by rw [hnl, decide_eq_false (show ¬ (48 ≤ bInt b ∧ bInt b ≤ 57) by omega)]; simp)]
    ·have h48 : bInt b < 48 := by simpa [iLt] using e4
     rw [hbad (by rw [hnl, decide_eq_false (show ¬ (48 ≤ bInt b ∧ bInt b ≤ 57) by omega)]; simp)]
   ·have hk0 : k = 0 := by simpa [iEq] using e3
    rw [hbad (by rw [hnl]; simp [hk0])]
  ·have h97 : 97 ≤ bInt b := by simpa [iLe] using e1
   refine str_at (k := k) rfl hb ?_
   conv => whnf
   generalize e2 : iLe (bInt b) 122 = c2
   cases c2 <;> (conv => whnf)
   ·have h122 : ¬ bInt b ≤ 122 := by simpa [iLe] using e2
    have hnl : decide (97 ≤ bInt b ∧ bInt b ≤ 122) = false := decide_eq_false (by omega)
    generalize e3 : iEq (k : Int) 0 = c3
    cases c3 <;> (conv => whnf)
    ·have hk0 : ¬ k = 0 := by intro h; subst h; simp [iEq] at e3
     refine str_at (k := k) rfl hb ?_
     conv => whnf
     generalize e4 : iLt (bInt b) 48 = c4
     cases c4 <;> (conv => whnf)
     ·refine str_at (k := k) rfl hb ?_
      conv => whnf
      generalize e5 : iLt 57 (bInt b) = c5
      cases c5 <;> (conv => whnf)
      ·refine ⟨k + 1, by omega, ⟨h1, hgood ?_⟩, ?_⟩
       ·have h48 : ¬ bInt b < 48 := by simpa [iLt] using e4
        have h57 : ¬ 57 < bInt b := by simpa [iLt] using e5
        rw [decide_eq_true hk0, decide_eq_true (show 48 ≤ bInt b ∧ bInt b ≤ 57 by omega)]
        simp
       ·((conv => whnf); simp only [eS, wI h1 hs])
      ·have h57 : 57 < bInt b := by simpa [iLt] using e5
       rw [hbad (by rw [hnl, decide_eq_false (show ¬ (48 ≤ bInt b ∧ bInt b ≤ 57) by omega)]; simp)]
     ·have h48 : bInt b < 48 := by simpa [iLt] using e4
      rw [hbad (by rw [hnl, decide_eq_false (show ¬ (48 ≤ bInt b ∧ bInt b ≤ 57) by omega)]; simp)]
    ·have hk0 : k = 0 := by simpa [iEq] using e3
     rw [hbad (by rw [hnl]; simp [hk0])]
   ·have h122 : bInt b ≤ 122 := by simpa [iLe] using e2
    refine ⟨k + 1, by omega, ⟨h1, hgood (by rw [decide_eq_true (show 97 ≤ bInt b ∧ bInt b ≤ 122 by omega)]; rfl)⟩, ?_⟩
    ((conv => whnf); simp only [eS, wI h1 hs])
 ·obtain rfl : k = s.size := by omega
  refine .inl ⟨_, _, _, impl_within_spec _ _ _, rfl, ?_⟩
  rw [sLen_eq]
  have hd : s.data.toList.drop s.size = [] := List.drop_eq_nil_of_le (by simp)
  rw [hd] at hn
  have : nameOk s = decide (1 ≤ (s.size : Int) ∧ (s.size : Int) ≤ 12) := by simp [nameOk, ← hn, nameL]
  rw [this]
  conv => whnf
def hasS (x : ByteArray) (l : List ByteArray) : Bool := l.any fun y => decide (x = y)
def namesL (all : List ByteArray) : List ByteArray → Nat → Bool
 | [], _ => true
 | s :: r, k => (nameOk s && !hasS s (all.take k)) && namesL all r (k + 1)
theorem dCut_take {α : Type} (f : α → List D) (xs : List α) (k : Nat) : dCut (eL f xs) (nOf 0) (nOf (k : Int)) = eL f (xs.take k) := by simp [dCut, eL, List.map_take]
theorem spec_l9Has_spec (l : List ByteArray) (x : ByteArray) (hl : l.length ≤ 9223372036854775807) : FnSpec PR f_spec_l9Has [aSs l, aS x] (ab (hasS x l)) [] 0 := by
 refine FnSpec.intro hT (pf Tryz.func160) rfl (by kernel_rfl) Tryz.ntmps160 rfl ?_
 conv => whnf
 refine tri_loop hT [0, 1, 5] (α := Nat) (fun k => { t := [(0, aSs l), (1, aS x), (5, ai k)], h := [], n := 0, N := 18 })
  (fun k => k ≤ l.length ∧ hasS x (l.drop k) = hasS x l) (fun k => l.length - k) 0 (by ((conv => whnf); simp only [eS])) ⟨Nat.zero_le _, rfl⟩ ?_
 intro k ⟨hk, hi⟩
 conv => whnf
 refine ifB_i (fun h1 => ?_) (fun h1 => ?_) <;> (conv => whnf) <;> simp at h1
 ·obtain ⟨s, hs⟩ := get_lt h1
  refine idx_at (by simp) hs ?_
  conv => whnf
  rw [drop_at hs] at hi
  refine ifB_i (fun h2 => ?_) (fun h2 => ?_) <;> (conv => whnf) <;> simp only [eH] at h2
  ·subst h2
   rw [← hi]
   simp [hasS]
  ·refine ⟨k + 1, by omega, ⟨h1, by rw [← hi]; simp [hasS, Ne.symm h2]⟩, ?_⟩
   ((conv => whnf); simp only [eS, wI h1 hl])
 ·obtain rfl : k = l.length := by omega
  simp only [List.drop_length] at hi
  rw [← hi]
  rfl
theorem slices_IndexS_spec (l : List ByteArray) (x : ByteArray) (hl : l.length ≤ 9223372036854775807) : FnSpec PR f_slices_Index_Lstring_string [aSs l, aS x] (ai (idxL (fun y => decide (x = y)) l 0)) [] 0 := by
 refine FnSpec.intro hT (pf Tryz.func333) rfl (by kernel_rfl) Tryz.ntmps333 rfl ?_
 conv => whnf
 refine tri_loop hT [0, 1, 7, 8] (α := Nat) (fun k => { t := [(0, aSs l), (1, aS x), (7, ai l.length), (8, ai k)], h := [], n := 0, N := 19 })
  (fun k => k ≤ l.length ∧ idxL (fun y => decide (x = y)) (l.drop k) k = idxL (fun y => decide (x = y)) l 0) (fun k => l.length - k) 0 (by ((conv => whnf); simp only [eS])) ⟨Nat.zero_le _, rfl⟩ ?_
 intro k ⟨hk, hi⟩
 conv => whnf
 refine ifB_i (fun h1 => ?_) (fun h1 => ?_) <;> (conv => whnf) <;> simp at h1
 ·obtain ⟨s, hs⟩ := get_lt h1
  refine idx_at (by simp) hs ?_
  conv => whnf
  rw [drop_at hs, idxL] at hi
  refine ifB_i (fun h2 => ?_) (fun h2 => ?_) <;> (conv => whnf) <;> simp only [eH] at h2
  ·rw [if_pos (by simpa using h2)] at hi
   ((conv => whnf); simp only [eS, hi])
  ·rw [if_neg (by simpa using h2)] at hi
   refine ⟨k + 1, by omega, ⟨h1, hi⟩, ?_⟩
   ((conv => whnf); simp only [eS, wI h1 hl])
 ·obtain rfl : k = l.length := by omega
  simp only [List.drop_length, idxL] at hi
  ((conv => whnf); simp only [eS, ← hi])
theorem slices_ContainsS_spec (l : List ByteArray) (x : ByteArray) (hl : l.length ≤ 9223372036854775807) : FnSpec PR f_slices_Contains_Lstring_string [aSs l, aS x] (ab (hasS x l)) [] 0 := by
 refine FnSpec.intro hT (pf Tryz.func302) rfl (by kernel_rfl) Tryz.ntmps302 rfl ?_
 conv => whnf
 refine .inl ⟨_, _, _, slices_IndexS_spec l x hl, rfl, ?_⟩
 have h := idxL_any (fun y => decide (x = y)) l 0
 ((conv => whnf); simp only [eS, iLe])
 rw [Bool.eq_iff_iff, decide_eq_true_eq]
 exact h
theorem impl_areNames_spec (l : List ByteArray) (hl : l.length ≤ 1048576) (hs : ∀ s ∈ l, s.size ≤ 9223372036854775807) : FnSpec PR f_impl_areNames [aSs l] (ab (namesL l l 0)) [] 0 := by
 refine FnSpec.intro hT (pf Tryz.func251) rfl (by kernel_rfl) Tryz.ntmps251 rfl ?_
 conv => whnf
 refine tri_loop hT [0, 5, 6, 7] (α := Nat) (fun k => { t := [(0, aSs l), (5, aSs l), (6, ai l.length), (7, ai k)], h := [], n := 0, N := 23 })
  (fun k => k ≤ l.length ∧ namesL l (l.drop k) k = namesL l l 0) (fun k => l.length - k) 0 (by ((conv => whnf); simp only [eS])) ⟨Nat.zero_le _, rfl⟩ ?_
 intro k ⟨hk, hi⟩
 conv => whnf
 refine ifB_i (fun h1 => ?_) (fun h1 => ?_) <;> (conv => whnf) <;> simp at h1
 ·obtain ⟨s, hs'⟩ := get_lt h1
  rw [drop_at hs', namesL] at hi
  refine idx_at (by simp) hs' ?_
  conv => whnf
  refine .inl ⟨_, _, _, impl_NameOk_spec s (hs s (List.mem_of_getElem? hs')), rfl, ?_⟩
  conv => whnf
  cases hb : nameOk s <;> (conv => whnf)
  ·rw [hb] at hi
   rw [← hi]
   simp
  ·rw [hb, Bool.true_and] at hi
   refine And.intro (by simp; omega) ?_
   rw [dCut_take]
   conv => whnf
   refine .inl ⟨_, _, _, slices_ContainsS_spec (l.take k) s (by simp; omega), rfl, ?_⟩
   conv => whnf
   cases hh : hasS s (l.take k) <;> (conv => whnf)
   ·rw [hh] at hi
    refine ⟨k + 1, by omega, ⟨h1, by simpa using hi⟩, ?_⟩
    ((conv => whnf); simp only [eS, wI h1 (by omega)])
   ·rw [hh] at hi
    rw [← hi]
    rfl
 ·obtain rfl : k = l.length := by omega
  simp only [List.drop_length, namesL] at hi
  rw [← hi]
theorem impl_isSign_spec (x : Int) : FnSpec PR f_impl_isSign [ai x] (ab (decide (-1 ≤ x ∧ x ≤ 1))) [] 0 := by
 refine FnSpec.intro hT (pf Tryz.func232) rfl (by kernel_rfl) Tryz.ntmps232 rfl ?_
 conv => whnf
 refine .inl ⟨_, _, _, impl_within_spec _ _ _, rfl, ?_⟩
 conv => whnf
theorem impl_ModelOk_1_spec (x : Int) : FnSpec PR f_impl_ModelOk_1 [ai x] (ab (bNot (decide (-1 ≤ x ∧ x ≤ 1)))) [] 0 := by
 refine FnSpec.intro hT (pf Tryz.func296) rfl (by kernel_rfl) Tryz.ntmps296 rfl ?_
 conv => whnf
 refine .inl ⟨_, _, _, impl_isSign_spec _, rfl, ?_⟩
 conv => whnf
theorem impl_ModelOk_2_spec (t : List Nd) (n : Int) (hl : t.length ≤ 1048576) : FnSpec PR f_impl_ModelOk_2 [aT t, .c (.d (.rp [.int .i64 n]))] (ab (bNot (treeOk t n))) [] 0 := by
 refine FnSpec.intro hT (pf Tryz.func298) rfl (by kernel_rfl) Tryz.ntmps298 rfl ?_
 conv => whnf
 refine .inl ⟨_, _, _, impl_TreeOk_spec t n hl, rfl, ?_⟩
 conv => whnf
def signOk (x : Int) : Bool := decide (-1 ≤ x ∧ x ≤ 1)
def modelOk (m : Mdl) : Bool :=
 decide (1 ≤ (m.names.length : Int) ∧ (m.names.length : Int) ≤ 4) && ((decide (m.signs.length = 0) || decide (m.signs.length = m.names.length)) && (decide (-2147483647 ≤ m.base ∧ m.base ≤ 2147483647) && (decide (m.trees.length ≤ 8) &&
  (namesL m.names m.names 0 && (m.signs.all signOk && m.trees.all fun t => treeOk t m.names.length)))))
set_option maxHeartbeats 1000000 in
theorem spec_ModelOk_spec (m : Mdl) (hn : m.names.length ≤ 1048576) (hns : ∀ s ∈ m.names, s.size ≤ 9223372036854775807) (hs : m.signs.length ≤ 1048576) (hm : m.trees.length ≤ 1048576) (ht : ∀ t ∈ m.trees, t.length ≤ 1048576) : FnSpec PR f_spec_ModelOk [aM m] (ab (modelOk m)) [] 0 := by
  have eSi : nInt (dLen (eL cI m.signs)) = (m.signs.length : Int) := by simp
  have eN : nInt (dLen (eL cS m.names)) = (m.names.length : Int) := by simp
  have eT : nInt (dLen (eL cT m.trees)) = (m.trees.length : Int) := by simp
  refine FnSpec.intro hT (pf Tryz.func242) rfl (by kernel_rfl) Tryz.ntmps242 rfl ?_
  conv => whnf
  rw [eN]
  refine .inl ⟨_, _, _, spec_l1In_spec _ _ _, rfl, ?_⟩
  conv => whnf
  refine ifB_i (fun h1 => ?_) (fun h1 => ?_) <;> (conv => whnf) <;> simp only [eH] at h1
  · have : decide (1 ≤ (m.names.length : Int) ∧ (m.names.length : Int) ≤ 4) = false := by simpa using h1
    simp [modelOk, this]
  rw [eSi]
  generalize e1 : iEq (m.signs.length : Int) 0 = c1
  cases c1 <;> (conv => whnf)
  · rw [eSi]
    generalize e2 : iEq (m.signs.length : Int) (m.names.length : Int) = c2
    have h0 : ¬ m.signs.length = 0 := by intro h; rw [h] at e1; simp [iEq] at e1
    cases c2 <;> (conv => whnf)
    · have : ¬ m.signs.length = m.names.length := by intro h; rw [h] at e2; simp [iEq] at e2
      simp [modelOk, h0, this]
    · have hsg : (decide (m.signs.length = 0) || decide (m.signs.length = m.names.length)) = true := by
        have : (m.signs.length : Int) = m.names.length := by simpa [iEq] using e2
        rw [decide_eq_true (show m.signs.length = m.names.length by omega)]; simp
      refine .inl ⟨_, _, _, spec_l6Value_spec _, rfl, ?_⟩
      conv => whnf
      generalize e3 : decide (-2147483647 ≤ m.base ∧ m.base ≤ 2147483647) = c3
      cases c3 <;> (conv => whnf)
      · simp [modelOk, e3]
      rw [eT]
      generalize e4 : iLt 8 (m.trees.length : Int) = c4
      cases c4 <;> (conv => whnf)
      rotate_left
      · have : ¬ m.trees.length ≤ 8 := by have : (8 : Int) < m.trees.length := by simpa [iLt] using e4
                                          omega
        simp [modelOk, this]
      have h4 : decide (m.trees.length ≤ 8) = true := decide_eq_true (by have : ¬ (8 : Int) < m.trees.length := by simpa [iLt] using e4
                                                                         omega)
      have hmo : modelOk m = (namesL m.names m.names 0 && (m.signs.all signOk && m.trees.all fun t => treeOk t m.names.length)) := by simp only [modelOk]; rw [h1, hsg, e3, h4]; rfl
      rw [hmo]
      refine tri_loop hT [1, 3, 4] (α := Nat) (fun k => { t := [(1, .c (.ptr 0 0)), (3, ai m.names.length), (4, ai k)], h := [(0, .box t_impl_Model (cM m))], n := 1, N := 91 })
        (fun k => k ≤ m.names.length ∧ namesL m.names (m.names.drop k) k = namesL m.names m.names 0) (fun k => m.names.length - k) 0 (by ((conv => whnf); simp only [eS]); first | done | simp) ⟨Nat.zero_le _, rfl⟩ ?_
      intro k ⟨hk, hi⟩
      conv => whnf
      refine ifB_i (fun g1 => ?_) (fun g1 => ?_) <;> (conv => whnf) <;> simp at g1
      · obtain ⟨s, hs'⟩ := get_lt g1
        rw [drop_at hs', namesL] at hi
        refine tri_conf hT hmix (by kernel_rfl) ?_
        conv => whnf
        refine idx_at (by simp) hs' ?_
        conv => whnf
        refine ⟨_, _, spec_NameOk_spec s (hns s (List.mem_of_getElem? hs')), rfl, ?_⟩
        cases hb : nameOk s
        · (conv => whnf)
          repeat' (first | (refine And.intro (fun q => ?_) (fun q => ?_) <;> cases q <;> (conv => whnf)) | fail)
          rw [hb] at hi
          have : namesL m.names m.names 0 = false := by rw [← hi]; simp
          rw [this]
          conv => whnf
          rfl
        · rw [hb, Bool.true_and] at hi
          conv => whnf
          repeat' (first | (refine And.intro (fun q => ?_) (fun q => ?_) <;> cases q <;> (conv => whnf)) | fail)
          refine And.intro (by simp; omega) ?_
          rw [dCut_take]
          conv => whnf
          repeat' (first | (refine And.intro (fun q => ?_) (fun q => ?_) <;> cases q <;> (conv => whnf)) | fail)
          refine idx_at (by simp) hs' ?_
          conv => whnf
          repeat' (first | (refine And.intro (fun q => ?_) (fun q => ?_) <;> cases q <;> (conv => whnf)) | fail)
          refine ⟨_, _, spec_l9Has_spec (m.names.take k) s (by simp; omega), rfl, ?_⟩
          cases hh : hasS s (m.names.take k)
          · (conv => whnf)
            repeat' (first | (refine And.intro (fun q => ?_) (fun q => ?_) <;> cases q <;> (conv => whnf)) | fail)
            rw [hh] at hi
            refine ⟨k + 1, by omega, ⟨g1, by simpa using hi⟩, ?_⟩
            ((conv => whnf); simp only [eS, wI g1 (by omega)])
          · (conv => whnf)
            repeat' (first | (refine And.intro (fun q => ?_) (fun q => ?_) <;> cases q <;> (conv => whnf)) | fail)
            rw [hh] at hi
            have : namesL m.names m.names 0 = false := by rw [← hi]; simp
            rw [this]
            conv => whnf
            rfl
      · obtain rfl : k = m.names.length := by omega
        simp only [List.drop_length, namesL] at hi
        rw [← hi, Bool.true_and]
        refine tri_loop hT [1, 3, 5] (α := Nat) (fun k => { t := [(1, .c (.ptr 0 0)), (3, ai m.names.length), (5, ai k)], h := [(0, .box t_impl_Model (cM m))], n := 1, N := 91 })
          (fun k => k ≤ m.signs.length ∧ (m.signs.drop k).all signOk = m.signs.all signOk) (fun k => m.signs.length - k) 0 (by ((conv => whnf); simp only [eS])) ⟨Nat.zero_le _, rfl⟩ ?_
        intro k ⟨hk2, hj⟩
        conv => whnf
        refine ifB_i (fun g2 => ?_) (fun g2 => ?_) <;> (conv => whnf) <;> simp at g2
        · obtain ⟨x, hx⟩ := get_lt g2
          rw [drop_at hx, List.all_cons] at hj
          refine idx_at (by simp) hx ?_
          conv => whnf
          refine .inl ⟨_, _, _, spec_l1In_spec _ _ _, rfl, ?_⟩
          rw [show decide (-1 ≤ x ∧ x ≤ 1) = signOk x from rfl]
          cases hb : signOk x
          · (conv => whnf)
            rw [hb] at hj
            rw [← hj]
            rfl
          · (conv => whnf)
            rw [hb] at hj
            refine ⟨k + 1, by omega, ⟨g2, by simpa using hj⟩, ?_⟩
            ((conv => whnf); simp only [eS, wI g2 (by omega)])
        · obtain rfl : k = m.signs.length := by omega
          simp only [List.drop_length, List.all_nil] at hj
          rw [← hj, Bool.true_and]
          refine tri_loop hT [1, 3, 6] (α := Nat) (fun k => { t := [(1, .c (.ptr 0 0)), (3, ai m.names.length), (6, ai k)], h := [(0, .box t_impl_Model (cM m))], n := 1, N := 91 })
            (fun k => k ≤ m.trees.length ∧ ((m.trees.drop k).all fun t => treeOk t m.names.length) = m.trees.all fun t => treeOk t m.names.length) (fun k => m.trees.length - k) 0 (by ((conv => whnf); simp only [eS])) ⟨Nat.zero_le _, rfl⟩ ?_
          intro k ⟨hk3, hl⟩
          conv => whnf
          refine ifB_i (fun g3 => ?_) (fun g3 => ?_) <;> (conv => whnf) <;> simp at g3
          · obtain ⟨t, ht'⟩ := get_lt g3
            rw [drop_at ht', List.all_cons] at hl
            refine idx_at (by simp) ht' ?_
            conv => whnf
            refine .inl ⟨_, _, _, spec_TreeOk_spec t m.names.length (ht t (List.mem_of_getElem? ht')), rfl, ?_⟩
            cases hb : treeOk t m.names.length
            · (conv => whnf)
              rw [hb] at hl
              rw [← hl]
              rfl
            · (conv => whnf)
              rw [hb] at hl
              refine ⟨k + 1, by omega, ⟨g3, by simpa using hl⟩, ?_⟩
              ((conv => whnf); simp only [eS, wI g3 (by omega)])
          · obtain rfl : k = m.trees.length := by omega
            simp only [List.drop_length, List.all_nil] at hl
            rw [← hl]
  · have hsg : (decide (m.signs.length = 0) || decide (m.signs.length = m.names.length)) = true := by
      have : (m.signs.length : Int) = 0 := by simpa [iEq] using e1
      rw [decide_eq_true (show m.signs.length = 0 by omega)]; rfl
    refine .inl ⟨_, _, _, spec_l6Value_spec _, rfl, ?_⟩
    conv => whnf
    generalize e3 : decide (-2147483647 ≤ m.base ∧ m.base ≤ 2147483647) = c3
    cases c3 <;> (conv => whnf)
    · simp [modelOk, e3]
    rw [eT]
    generalize e4 : iLt 8 (m.trees.length : Int) = c4
    cases c4 <;> (conv => whnf)
    rotate_left
    · have : ¬ m.trees.length ≤ 8 := by have : (8 : Int) < m.trees.length := by simpa [iLt] using e4
                                        omega
      simp [modelOk, this]
    have h4 : decide (m.trees.length ≤ 8) = true := decide_eq_true (by have : ¬ (8 : Int) < m.trees.length := by simpa [iLt] using e4
                                                                       omega)
    have hmo : modelOk m = (namesL m.names m.names 0 && (m.signs.all signOk && m.trees.all fun t => treeOk t m.names.length)) := by simp only [modelOk]; rw [h1, hsg, e3, h4]; rfl
    rw [hmo]
    refine tri_loop hT [1, 3, 4] (α := Nat) (fun k => { t := [(1, .c (.ptr 0 0)), (3, ai m.names.length), (4, ai k)], h := [(0, .box t_impl_Model (cM m))], n := 1, N := 91 })
      (fun k => k ≤ m.names.length ∧ namesL m.names (m.names.drop k) k = namesL m.names m.names 0) (fun k => m.names.length - k) 0 (by ((conv => whnf); simp only [eS]); first | done | simp) ⟨Nat.zero_le _, rfl⟩ ?_
    intro k ⟨hk, hi⟩
    conv => whnf
    refine ifB_i (fun g1 => ?_) (fun g1 => ?_) <;> (conv => whnf) <;> simp at g1
    · obtain ⟨s, hs'⟩ := get_lt g1
      rw [drop_at hs', namesL] at hi
      refine tri_conf hT hmix (by kernel_rfl) ?_
      conv => whnf
      refine idx_at (by simp) hs' ?_
      conv => whnf
      refine ⟨_, _, spec_NameOk_spec s (hns s (List.mem_of_getElem? hs')), rfl, ?_⟩
      cases hb : nameOk s
      · (conv => whnf)
        repeat' (first | (refine And.intro (fun q => ?_) (fun q => ?_) <;> cases q <;> (conv => whnf)) | fail)
        rw [hb] at hi
        have : namesL m.names m.names 0 = false := by rw [← hi]; simp
        rw [this]
        conv => whnf
        rfl
      · rw [hb, Bool.true_and] at hi
        conv => whnf
        repeat' (first | (refine And.intro (fun q => ?_) (fun q => ?_) <;> cases q <;> (conv => whnf)) | fail)
        refine And.intro (by simp; omega) ?_
        rw [dCut_take]
        conv => whnf
        repeat' (first | (refine And.intro (fun q => ?_) (fun q => ?_) <;> cases q <;> (conv => whnf)) | fail)
        refine idx_at (by simp) hs' ?_
        conv => whnf
        repeat' (first | (refine And.intro (fun q => ?_) (fun q => ?_) <;> cases q <;> (conv => whnf)) | fail)
        refine ⟨_, _, spec_l9Has_spec (m.names.take k) s (by simp; omega), rfl, ?_⟩
        cases hh : hasS s (m.names.take k)
        · (conv => whnf)
          repeat' (first | (refine And.intro (fun q => ?_) (fun q => ?_) <;> cases q <;> (conv => whnf)) | fail)
          rw [hh] at hi
          refine ⟨k + 1, by omega, ⟨g1, by simpa using hi⟩, ?_⟩
          ((conv => whnf); simp only [eS, wI g1 (by omega)])
        · (conv => whnf)
          repeat' (first | (refine And.intro (fun q => ?_) (fun q => ?_) <;> cases q <;> (conv => whnf)) | fail)
          rw [hh] at hi
          have : namesL m.names m.names 0 = false := by rw [← hi]; simp
          rw [this]
          conv => whnf
          rfl
    · obtain rfl : k = m.names.length := by omega
      simp only [List.drop_length, namesL] at hi
      rw [← hi, Bool.true_and]
      refine tri_loop hT [1, 3, 5] (α := Nat) (fun k => { t := [(1, .c (.ptr 0 0)), (3, ai m.names.length), (5, ai k)], h := [(0, .box t_impl_Model (cM m))], n := 1, N := 91 })
        (fun k => k ≤ m.signs.length ∧ (m.signs.drop k).all signOk = m.signs.all signOk) (fun k => m.signs.length - k) 0 (by ((conv => whnf); simp only [eS])) ⟨Nat.zero_le _, rfl⟩ ?_
      intro k ⟨hk2, hj⟩
      conv => whnf
      refine ifB_i (fun g2 => ?_) (fun g2 => ?_) <;> (conv => whnf) <;> simp at g2
      · obtain ⟨x, hx⟩ := get_lt g2
        rw [drop_at hx, List.all_cons] at hj
        refine idx_at (by simp) hx ?_
        conv => whnf
        refine .inl ⟨_, _, _, spec_l1In_spec _ _ _, rfl, ?_⟩
        rw [show decide (-1 ≤ x ∧ x ≤ 1) = signOk x from rfl]
        cases hb : signOk x
        · (conv => whnf)
          rw [hb] at hj
          rw [← hj]
          rfl
        · (conv => whnf)
          rw [hb] at hj
          refine ⟨k + 1, by omega, ⟨g2, by simpa using hj⟩, ?_⟩
          ((conv => whnf); simp only [eS, wI g2 (by omega)])
      · obtain rfl : k = m.signs.length := by omega
        simp only [List.drop_length, List.all_nil] at hj
        rw [← hj, Bool.true_and]
        refine tri_loop hT [1, 3, 6] (α := Nat) (fun k => { t := [(1, .c (.ptr 0 0)), (3, ai m.names.length), (6, ai k)], h := [(0, .box t_impl_Model (cM m))], n := 1, N := 91 })
          (fun k => k ≤ m.trees.length ∧ ((m.trees.drop k).all fun t => treeOk t m.names.length) = m.trees.all fun t => treeOk t m.names.length) (fun k => m.trees.length - k) 0 (by ((conv => whnf); simp only [eS])) ⟨Nat.zero_le _, rfl⟩ ?_
        intro k ⟨hk3, hl⟩
        conv => whnf
        refine ifB_i (fun g3 => ?_) (fun g3 => ?_) <;> (conv => whnf) <;> simp at g3
        · obtain ⟨t, ht'⟩ := get_lt g3
          rw [drop_at ht', List.all_cons] at hl
          refine idx_at (by simp) ht' ?_
          conv => whnf
          refine .inl ⟨_, _, _, spec_TreeOk_spec t m.names.length (ht t (List.mem_of_getElem? ht')), rfl, ?_⟩
          cases hb : treeOk t m.names.length
          · (conv => whnf)
            rw [hb] at hl
            rw [← hl]
            rfl
          · (conv => whnf)
            rw [hb] at hl
            refine ⟨k + 1, by omega, ⟨g3, by simpa using hl⟩, ?_⟩
            ((conv => whnf); simp only [eS, wI g3 (by omega)])
        · obtain rfl : k = m.trees.length := by omega
          simp only [List.drop_length, List.all_nil] at hl
          rw [← hl]
theorem any_all {α : Type} (p : α → Bool) (l : List α) : (l.any fun x => bNot (p x)) = !l.all p := by
 induction l with
 | nil => rfl
 | cons x r ih => rw [List.any_cons, List.all_cons, ih, Bool.not_and]; rfl
set_option maxHeartbeats 1000000 in
theorem impl_ModelOk_spec (m : Mdl) (hn : m.names.length ≤ 1048576) (hns : ∀ s ∈ m.names, s.size ≤ 9223372036854775807) (hs : m.signs.length ≤ 1048576) (hm : m.trees.length ≤ 1048576) (ht : ∀ t ∈ m.trees, t.length ≤ 1048576) : FnSpec PR f_impl_ModelOk [aM m] (ab (modelOk m)) [] 0 := by
  have eSi : nInt (dLen (eL cI m.signs)) = (m.signs.length : Int) := by simp
  have eN : nInt (dLen (eL cS m.names)) = (m.names.length : Int) := by simp
  have eT : nInt (dLen (eL cT m.trees)) = (m.trees.length : Int) := by simp
  refine FnSpec.intro hT (pf Tryz.func246) rfl (by kernel_rfl) Tryz.ntmps246 rfl ?_
  conv => whnf
  rw [eN]
  refine .inl ⟨_, _, _, impl_within_spec _ _ _, rfl, ?_⟩
  conv => whnf
  refine ifB_i (fun h1 => ?_) (fun h1 => ?_) <;> (conv => whnf) <;> simp only [eH] at h1
  · have : decide (1 ≤ (m.names.length : Int) ∧ (m.names.length : Int) ≤ 4) = false := by simpa using h1
    simp [modelOk, this]
  refine .inl ⟨_, _, _, impl_areNames_spec m.names hn hns, rfl, ?_⟩
  cases hnm : namesL m.names m.names 0
  · (conv => whnf)
    simp [modelOk, hnm]
  conv => whnf
  rw [eSi]
  generalize e1 : iEq (m.signs.length : Int) 0 = c1
  cases c1 <;> (conv => whnf)
  · rw [eSi]
    generalize e2 : iEq (m.signs.length : Int) (m.names.length : Int) = c2
    have h0 : ¬ m.signs.length = 0 := by intro h; rw [h] at e1; simp [iEq] at e1
    cases c2 <;> (conv => whnf)
    · have : ¬ m.signs.length = m.names.length := by intro h; rw [h] at e2; simp [iEq] at e2
      simp [modelOk, h0, this]
    · have hsg : (decide (m.signs.length = 0) || decide (m.signs.length = m.names.length)) = true := by
        have : (m.signs.length : Int) = m.names.length := by simpa [iEq] using e2
        rw [decide_eq_true (show m.signs.length = m.names.length by omega)]; simp
      refine .inl ⟨_, _, _, slices_ContainsFunc_Lint_int_0 m.signs f_impl_ModelOk_1 (fun x => bNot (signOk x)) (fun x _ => impl_ModelOk_1_spec x) (by omega), rfl, ?_⟩
      rw [any_all]
      cases hsa : m.signs.all signOk
      rotate_left
      · (conv => whnf)
        refine .inl ⟨_, _, _, impl_isDecimal_spec _, rfl, ?_⟩
        conv => whnf
        generalize e3 : decide (-2147483647 ≤ m.base ∧ m.base ≤ 2147483647) = c3
        cases c3 <;> (conv => whnf)
        · simp [modelOk, e3]
        rw [eT]
        generalize e4 : iLe (m.trees.length : Int) 8 = c4
        cases c4 <;> (conv => whnf)
        · have : ¬ m.trees.length ≤ 8 := by have : ¬ (m.trees.length : Int) ≤ 8 := by simpa [iLe] using e4
                                            omega
          simp [modelOk, this]
        have h4 : decide (m.trees.length ≤ 8) = true := decide_eq_true (by have : (m.trees.length : Int) ≤ 8 := by simpa [iLe] using e4
                                                                           omega)
        refine .inr (.inl ⟨_, _, _, slices_ContainsFunc_Limpl_Tree_impl_Tree_1 m.trees f_impl_ModelOk_2 (.rp [.int .i64 m.names.length]) (fun t => bNot (treeOk t m.names.length)) (fun t htm => impl_ModelOk_2_spec t m.names.length (ht t htm)) (by omega), rfl, trivial, ?_⟩)
        rw [any_all]
        conv => whnf
        have hmo : modelOk m = m.trees.all fun t => treeOk t m.names.length := by simp only [modelOk]; rw [h1, hsg, e3, h4, hnm, hsa]; rfl
        rw [hmo]
        simp [bNot]
      · (conv => whnf)
        simp [modelOk, hsa]
  · have hsg : (decide (m.signs.length = 0) || decide (m.signs.length = m.names.length)) = true := by
      have : (m.signs.length : Int) = 0 := by simpa [iEq] using e1
      rw [decide_eq_true (show m.signs.length = 0 by omega)]; rfl
    refine .inl ⟨_, _, _, slices_ContainsFunc_Lint_int_0 m.signs f_impl_ModelOk_1 (fun x => bNot (signOk x)) (fun x _ => impl_ModelOk_1_spec x) (by omega), rfl, ?_⟩
    rw [any_all]
    cases hsa : m.signs.all signOk
    rotate_left
    · (conv => whnf)
      refine .inl ⟨_, _, _, impl_isDecimal_spec _, rfl, ?_⟩
      conv => whnf
      generalize e3 : decide (-2147483647 ≤ m.base ∧ m.base ≤ 2147483647) = c3
      cases c3 <;> (conv => whnf)
      · simp [modelOk, e3]
      rw [eT]
      generalize e4 : iLe (m.trees.length : Int) 8 = c4
      cases c4 <;> (conv => whnf)
      · have : ¬ m.trees.length ≤ 8 := by have : ¬ (m.trees.length : Int) ≤ 8 := by simpa [iLe] using e4
                                          omega
        simp [modelOk, this]
      have h4 : decide (m.trees.length ≤ 8) = true := decide_eq_true (by have : (m.trees.length : Int) ≤ 8 := by simpa [iLe] using e4
                                                                         omega)
      refine .inr (.inl ⟨_, _, _, slices_ContainsFunc_Limpl_Tree_impl_Tree_1 m.trees f_impl_ModelOk_2 (.rp [.int .i64 m.names.length]) (fun t => bNot (treeOk t m.names.length)) (fun t htm => impl_ModelOk_2_spec t m.names.length (ht t htm)) (by omega), rfl, trivial, ?_⟩)
      rw [any_all]
      conv => whnf
      have hmo : modelOk m = m.trees.all fun t => treeOk t m.names.length := by simp only [modelOk]; rw [h1, hsg, e3, h4, hnm, hsa]; rfl
      rw [hmo]
      simp [bNot]
    · (conv => whnf)
      simp [modelOk, hsa]
end Go.H.S
namespace Go.H.S
open Go Go.Proofs Go.H
attribute [local irreducible] Tri FnSpec FnSpecM FnSpecX FnSpecJ
abbrev cB (b : Int × Int) : List CV := [.d (.int .i64 b.1), .d (.int .i64 b.2)]
abbrev aB (b : Int × Int) : AV := .agg (cB b)
def boundP (b : Int × Int) : Prop := b.1 ≤ b.2 ∧ (-1099511627776 ≤ b.1 ∧ b.1 ≤ 1099511627776) ∧ (-1099511627776 ≤ b.2 ∧ b.2 ≤ 1099511627776)
instance (b : Int × Int) : Decidable (boundP b) := by unfold boundP; infer_instance
theorem impl_BoundOk_spec (b : Int × Int) : FnSpec PR f_impl_BoundOk [aB b] (ab (decide (boundP b))) [] 0 := by
 refine FnSpec.intro hT (pf Tryz.func215) rfl (by kernel_rfl) Tryz.ntmps215 rfl ?_
 conv => whnf
 cases h1 : iLe b.1 b.2
 ·conv => whnf
  rw [decide_eq_false (fun q : boundP b => by have := q.1; simp at h1; omega)]
 conv => whnf
 simp at h1
 refine .inl ⟨_, _, _, impl_isLeafValue_spec b.1, rfl, ?_⟩
 cases h2 : decide (-1099511627776 ≤ b.1 ∧ b.1 ≤ 1099511627776)
 ·conv => whnf
  rw [decide_eq_false_iff_not] at h2
  rw [decide_eq_false (fun q : boundP b => h2 q.2.1)]
 conv => whnf
 rw [decide_eq_true_iff] at h2
 refine .inl ⟨_, _, _, impl_isLeafValue_spec b.2, rfl, ?_⟩
 conv => whnf
 rw [decide_eq_decide.2 (show boundP b ↔ (-1099511627776 ≤ b.2 ∧ b.2 ≤ 1099511627776) from ⟨fun q => q.2.2, fun q => ⟨by omega, h2, q⟩⟩)]
theorem spec_BoundOk_spec (b : Int × Int) : FnSpec PR f_spec_BoundOk [aB b] (ab (decide (boundP b))) [] 0 := by
 refine FnSpec.intro hT (pf Tryz.func42) rfl (by kernel_rfl) Tryz.ntmps42 rfl ?_
 conv => whnf
 cases h1 : iLe b.1 b.2
 ·conv => whnf
  rw [decide_eq_false (fun q : boundP b => by have := q.1; simp at h1; omega)]
 conv => whnf
 simp at h1
 refine .inl ⟨_, _, _, spec_l14Leaf_spec b.1, rfl, ?_⟩
 cases h2 : decide (-1099511627776 ≤ b.1 ∧ b.1 ≤ 1099511627776)
 ·conv => whnf
  rw [decide_eq_false_iff_not] at h2
  rw [decide_eq_false (fun q : boundP b => h2 q.2.1)]
 conv => whnf
 rw [decide_eq_true_iff] at h2
 refine .inl ⟨_, _, _, spec_l14Leaf_spec b.2, rfl, ?_⟩
 conv => whnf
 rw [decide_eq_decide.2 (show boundP b ↔ (-1099511627776 ≤ b.2 ∧ b.2 ≤ 1099511627776) from ⟨fun q => q.2.2, fun q => ⟨by omega, h2, q⟩⟩)]
theorem impl_HalfSum_spec (a b : Int) (ha : -4611686018427387904 ≤ a ∧ a ≤ 4611686018427387903) (hb : -4611686018427387904 ≤ b ∧ b ≤ 4611686018427387903) : FnSpec PR f_impl_HalfSum [ai a, ai b] (ai ((a + b) / 2)) [] 0 := by
 refine FnSpec.intro hT (pf Tryz.func227) rfl (by kernel_rfl) Tryz.ntmps227 rfl ?_
 conv => whnf
 refine And.intro (by unfold NN; omega) ?_
 conv => whnf
 refine And.intro (by unfold NN; omega) ?_
 conv => whnf
 rw [half_impl ha hb]
theorem spec_HalfSum_spec (a b : Int) (ha : -4611686018427387904 ≤ a ∧ a ≤ 4611686018427387903) (hb : -4611686018427387904 ≤ b ∧ b ≤ 4611686018427387903) : FnSpec PR f_spec_HalfSum [ai a, ai b] (ai ((a + b) / 2)) [] 0 := by
 refine FnSpec.intro hT (pf Tryz.func228) rfl (by kernel_rfl) Tryz.ntmps228 rfl ?_
 conv => whnf
 refine And.intro (by unfold NN; omega) ?_
 conv => whnf
 rw [half_spec ha hb]
abbrev tupIk (x : Int) (b : Bool) : AV := .tup [(false, [.d (.int .i64 x)]), (false, [.d (.bool b)])]
theorem floor_tdiv {a b : Int} (hb : 1 ≤ b) : a / b = a.tdiv b - (if a.tmod b ≠ 0 ∧ a < 0 then 1 else 0) := by
 rw [Int.tdiv_eq_ediv]
 have h0 : b ∣ a ↔ a.tmod b = 0 := ⟨fun h => Int.tmod_eq_zero_of_dvd h, fun h => Int.dvd_of_tmod_eq_zero h⟩
 have hs : b.sign = 1 := Int.sign_eq_one_of_pos (by omega)
 rw [hs]
 by_cases h1 : 0 ≤ a <;> by_cases h2 : b ∣ a
 ·rw [if_pos (.inl h1), if_neg (by omega)]; omega
 ·rw [if_pos (.inl h1), if_neg (by omega)]; omega
 ·rw [if_pos (.inr h2), if_neg (fun q => q.1 (h0.1 h2))]; omega
 ·rw [if_neg (by rintro (q | q); exact h1 q; exact h2 q), if_pos ⟨fun q => h2 (h0.2 q), by omega⟩]; omega
theorem tdiv_small {a b : Int} (ha : -4611686018427387904 ≤ a ∧ a ≤ 4611686018427387903) (hb : 1 ≤ b) : -4611686018427387904 ≤ a.tdiv b ∧ a.tdiv b ≤ 4611686018427387904 := by
 have h1 := Int.natAbs_tdiv_le_natAbs a b
 omega
theorem wQuo_small {a b : Int} (ha : -4611686018427387904 ≤ a ∧ a ≤ 4611686018427387903) (hb : 1 ≤ b) : wQuo .i64 a b = a.tdiv b := by
 have := tdiv_small ha hb
 unfold wQuo
 exact wrap64 (by omega) (by omega)
theorem impl_FloorDiv_spec (a b : Int) (ha : -4611686018427387904 ≤ a ∧ a ≤ 4611686018427387903) (hb : 1 ≤ b ∧ b ≤ 1000000) : FnSpec PR f_impl_FloorDiv [ai a, ai b] (tupIk (a / b) true) [] 0 := by
 refine FnSpec.intro hT (pf Tryz.func216) rfl (by kernel_rfl) Tryz.ntmps216 rfl ?_
 conv => whnf
 rw [show iEq b 0 = false from decide_eq_false (by omega)]
 conv => whnf
 rw [show iEq a (-9223372036854775808) = false from decide_eq_false (by omega)]
 conv => whnf
 refine And.intro (by unfold NZ; omega) ?_
 conv => whnf
 refine And.intro (by unfold NZ; omega) ?_
 conv => whnf
 rw [floor_tdiv hb.1]
 have hq := wQuo_small ha hb.1
 have hd := tdiv_small (b := b) ha hb.1
 have hm : wRem a b = a.tmod b := by unfold wRem; rfl
 rw [hq, hm]
 by_cases h1 : a.tmod b = 0
 ·rw [show iEq (a.tmod b) 0 = true from decide_eq_true h1]
  conv => whnf
  rw [if_neg (fun q => q.1 h1), Int.sub_zero]
 ·rw [show iEq (a.tmod b) 0 = false from decide_eq_false h1]
  conv => whnf
  rw [show iLt b 0 = false from decide_eq_false (by omega)]
  conv => whnf
  by_cases h2 : a < 0
  ·rw [show iLt a 0 = true from decide_eq_true h2]
   conv => whnf
   rw [if_pos ⟨h1, h2⟩, wSub64] <;> omega
  ·rw [show iLt a 0 = false from decide_eq_false h2]
   conv => whnf
   rw [if_neg (fun q => h2 q.2), Int.sub_zero]
theorem spec_FloorDiv_spec (a b : Int) (ha : -4611686018427387904 ≤ a ∧ a ≤ 4611686018427387903) (hb : 1 ≤ b ∧ b ≤ 1000000) : FnSpec PR f_spec_FloorDiv [ai a, ai b] (tupIk (a / b) true) [] 0 := by
 refine FnSpec.intro hT (pf Tryz.func207) rfl (by kernel_rfl) Tryz.ntmps207 rfl ?_
 conv => whnf
 rw [show iEq b 0 = false from decide_eq_false (by omega)]
 conv => whnf
 rw [show iEq b (-1) = false from decide_eq_false (by omega)]
 conv => whnf
 refine And.intro (by unfold NZ; omega) ?_
 conv => whnf
 refine And.intro (by unfold NZ; omega) ?_
 conv => whnf
 rw [floor_tdiv hb.1]
 have hq := wQuo_small ha hb.1
 have hd := tdiv_small (b := b) ha hb.1
 have hm : wRem a b = a.tmod b := by unfold wRem; rfl
 rw [hq, hm]
 by_cases h1 : a.tmod b = 0
 ·rw [show iEq (a.tmod b) 0 = true from decide_eq_true h1]
  conv => whnf
  rw [if_neg (fun q => q.1 h1), Int.sub_zero]
 ·rw [show iEq (a.tmod b) 0 = false from decide_eq_false h1]
  conv => whnf
  rw [show iLt b 0 = false from decide_eq_false (by omega)]
  conv => whnf
  by_cases h2 : a < 0
  ·rw [show iLt a 0 = true from decide_eq_true h2]
   conv => whnf
   rw [if_pos ⟨h1, h2⟩, wSub64] <;> omega
  ·rw [show iLt a 0 = false from decide_eq_false h2]
   conv => whnf
   rw [if_neg (fun q => h2 q.2), Int.sub_zero]
theorem impl_Free_spec : FnSpec PR f_impl_Free [] (aB (-1099511627776, 1099511627776)) [] 0 := by
 refine FnSpec.intro hT (pf Tryz.func106) rfl (by kernel_rfl) Tryz.ntmps106 rfl ?_
 conv => whnf
theorem spec_Free_spec : FnSpec PR f_spec_Free [] (aB (-1099511627776, 1099511627776)) [] 0 := by
 refine FnSpec.intro hT (pf Tryz.func113) rfl (by kernel_rfl) Tryz.ntmps113 rfl ?_
 conv => whnf
def signFor (c : Cfg) (f : Int) : Int := if 0 ≤ f ∧ f ≤ (c.signs.length : Int) - 1 then (c.signs[f.toNat]?).getD 0 else 0
theorem impl_SignFor_spec (c : Cfg) (f : Int) (hc : c.signs.length ≤ 1048576) : FnSpec PR f_impl_SignFor [aCf c, ai f] (ai (signFor c f)) [] 0 := by
 refine FnSpec.intro hT (pf Tryz.func109) rfl (by kernel_rfl) Tryz.ntmps109 rfl ?_
 conv => whnf
 refine .inl ⟨_, _, _, impl_within_spec _ _ _, rfl, ?_⟩
 conv => whnf
 rw [show wSub .i64 (nInt (dLen (eL cI c.signs))) 1 = (c.signs.length : Int) - 1 from by rw [show nInt (dLen (eL cI c.signs)) = (c.signs.length : Int) by simp, wSub64] <;> omega]
 unfold signFor
 by_cases h : 0 ≤ f ∧ f ≤ (c.signs.length : Int) - 1
 ·rw [decide_eq_true h, if_pos h]
  conv => whnf
  obtain ⟨x, hx⟩ := get_lt (show f.toNat < c.signs.length by omega)
  refine idx_at (show f = (f.toNat : Int) by omega) hx ?_
  conv => whnf
  rw [hx]; rfl
 ·rw [decide_eq_false h, if_neg h]
  conv => whnf
theorem spec_SignFor_spec (c : Cfg) (f : Int) (hc : c.signs.length ≤ 1048576) : FnSpec PR f_spec_SignFor [aCf c, ai f] (ai (signFor c f)) [] 0 := by
 refine FnSpec.intro hT (pf Tryz.func117) rfl (by kernel_rfl) Tryz.ntmps117 rfl ?_
 conv => whnf
 refine .inl ⟨_, _, _, spec_l1In_spec _ _ _, rfl, ?_⟩
 conv => whnf
 rw [show wSub .i64 (nInt (dLen (eL cI c.signs))) 1 = (c.signs.length : Int) - 1 from by rw [show nInt (dLen (eL cI c.signs)) = (c.signs.length : Int) by simp, wSub64] <;> omega]
 unfold signFor
 by_cases h : 0 ≤ f ∧ f ≤ (c.signs.length : Int) - 1
 ·rw [decide_eq_true h, if_pos h]
  conv => whnf
  obtain ⟨x, hx⟩ := get_lt (show f.toNat < c.signs.length by omega)
  refine idx_at (show f = (f.toNat : Int) by omega) hx ?_
  conv => whnf
  rw [hx]; rfl
 ·rw [decide_eq_false h, if_neg h]
  conv => whnf
def leafV (n s lam : Int) (b : Int × Int) : Int := brought (s / (n + lam)) b.1 b.2
theorem leafV_in {n s lam : Int} {b : Int × Int} (h : b.1 ≤ b.2) : b.1 ≤ leafV n s lam b ∧ leafV n s lam b ≤ b.2 := by
 unfold leafV brought
 split
 ·omega
 ·split <;> omega
theorem impl_isCount_spec (n lam : Int) : FnSpec PR f_impl_isCount [ai n, ai lam] (ab (decide (0 ≤ n ∧ n ≤ 40) && decide (1 ≤ lam ∧ lam ≤ 100))) [] 0 := by
 refine FnSpec.intro hT (pf Tryz.func214) rfl (by kernel_rfl) Tryz.ntmps214 rfl ?_
 conv => whnf
 refine .inl ⟨_, _, _, impl_within_spec _ _ _, rfl, ?_⟩
 cases h : decide (0 ≤ n ∧ n ≤ 40)
 ·conv => whnf
  rfl
 conv => whnf
 refine .inl ⟨_, _, _, impl_within_spec _ _ _, rfl, ?_⟩
 conv => whnf
 rw [Bool.true_and]
theorem impl_LeafOf_spec (n s lam : Int) (b : Int × Int) (hn : 0 ≤ n ∧ n ≤ 40) (hl : 1 ≤ lam ∧ lam ≤ 100) (hs : -4611686018427387904 ≤ s ∧ s ≤ 4611686018427387903) (hb : boundP b) :
  FnSpec PR f_impl_LeafOf [aB (n, s), ai lam, aB b] (tupIk (leafV n s lam b) true) [] 0 := by
 refine FnSpec.intro hT (pf Tryz.func98) rfl (by kernel_rfl) Tryz.ntmps98 rfl ?_
 conv => whnf
 refine .inl ⟨_, _, _, impl_isCount_spec n lam, rfl, ?_⟩
 rw [decide_eq_true hn, decide_eq_true hl]
 conv => whnf
 refine .inl ⟨_, _, _, impl_BoundOk_spec b, rfl, ?_⟩
 rw [decide_eq_true hb]
 conv => whnf
 rw [show wAdd .i64 n lam = n + lam from by rw [wAdd64] <;> omega]
 refine .inl ⟨_, _, _, impl_FloorDiv_spec s (n + lam) hs (by omega), rfl, ?_⟩
 conv => whnf
 refine .inl ⟨_, _, _, impl_Brought_spec _ _ _, rfl, ?_⟩
 conv => whnf
 rfl
theorem spec_LeafOf_spec (n s lam : Int) (b : Int × Int) (hn : 0 ≤ n ∧ n ≤ 40) (hl : 1 ≤ lam ∧ lam ≤ 100) (hs : -4611686018427387904 ≤ s ∧ s ≤ 4611686018427387903) (hb : boundP b) :
  FnSpec PR f_spec_LeafOf [aB (n, s), ai lam, aB b] (tupIk (leafV n s lam b) true) [] 0 := by
 refine FnSpec.intro hT (pf Tryz.func90) rfl (by kernel_rfl) Tryz.ntmps90 rfl ?_
 conv => whnf
 refine .inl ⟨_, _, _, spec_l1In_spec _ _ _, rfl, ?_⟩
 rw [decide_eq_true hn]
 conv => whnf
 refine .inl ⟨_, _, _, spec_l1In_spec _ _ _, rfl, ?_⟩
 rw [decide_eq_true hl]
 conv => whnf
 refine .inl ⟨_, _, _, spec_BoundOk_spec b, rfl, ?_⟩
 rw [decide_eq_true hb]
 conv => whnf
 rw [show wAdd .i64 n lam = n + lam from by rw [wAdd64] <;> omega]
 refine .inl ⟨_, _, _, spec_FloorDiv_spec s (n + lam) hs (by omega), rfl, ?_⟩
 conv => whnf
 refine .inl ⟨_, _, _, spec_Brought_spec _ _ _, rfl, ?_⟩
 conv => whnf
 rfl
def midV (p q : Int) (b : Int × Int) : Int := brought ((p + q) / 2) b.1 b.2
theorem midV_in {p q : Int} {b : Int × Int} (h : b.1 ≤ b.2) : b.1 ≤ midV p q b ∧ midV p q b ≤ b.2 := by
 unfold midV brought
 split
 ·omega
 ·split <;> omega
def sidesL (sign : Int) (b : Int × Int) (p q : Int) : (Int × Int) × (Int × Int) :=
 if sign = 1 then ((b.1, midV p q b), (midV p q b, b.2)) else if sign = -1 then ((midV p q b, b.2), (b.1, midV p q b)) else (b, b)
theorem sidesL_ok {sign : Int} {b : Int × Int} {p q : Int} (hb : boundP b) : boundP (sidesL sign b p q).1 ∧ boundP (sidesL sign b p q).2 := by
 have hm := midV_in (p := p) (q := q) hb.1
 have hb' := hb
 unfold boundP at hb'
 unfold sidesL
 split
 ·unfold boundP; dsimp only; omega
 ·split
  ·unfold boundP; dsimp only; omega
  ·exact ⟨hb, hb⟩
abbrev tupBB (x : (Int × Int) × (Int × Int)) : AV := .tup [(true, cB x.1), (true, cB x.2)]
theorem spec_SidesOf_spec (sign : Int) (b : Int × Int) (p q : Int) (hb : boundP b) (hp : -1099511627776 ≤ p ∧ p ≤ 1099511627776) (hq : -1099511627776 ≤ q ∧ q ≤ 1099511627776) :
  FnSpec PR f_spec_SidesOf [ai sign, aB b, ai p, ai q] (tupBB (sidesL sign b p q)) [] 0 := by
 refine FnSpec.intro hT (pf Tryz.func116) rfl (by kernel_rfl) Tryz.ntmps116 rfl ?_
 conv => whnf
 refine .inl ⟨_, _, _, spec_BoundOk_spec b, rfl, ?_⟩
 rw [decide_eq_true hb]
 conv => whnf
 refine tri_rp 0 ?_
 conv => whnf
 refine tri_every hT hmix [0, 5, 8, 9, 10] { t := [(0, ai sign), (5, .c (.d (.rp [.int .i64 b.1, .int .i64 b.2]))), (8, .c (.ptr 0 0)), (9, .c (.ptr 1 0)), (10, ai (midV p q b))], h := [(0, .box t_impl_Bound (cB (0, 0))), (1, .box t_impl_Bound (cB (0, 0)))], n := 2, N := 47 } rfl ?_ ?_
 ·repeat' first
   | (refine anyV_one rfl ?_; (conv => whnf))
   | (refine anyV_two rfl ?_ ?_ <;> (conv => whnf))
   | (refine .inl ⟨_, _, _, spec_HalfSum_spec p q (by omega) (by omega), rfl, ?_⟩; (conv => whnf))
   | (refine .inl ⟨_, _, _, spec_Brought_spec _ _ _, rfl, ?_⟩; (conv => whnf))
   | (refine anyV_end rfl ?_; (conv => whnf); first | done | rfl)
 conv => whnf
 unfold sidesL
 by_cases h1 : sign = 1
 ·rw [show iEq sign 1 = true from decide_eq_true h1, if_pos h1]
  conv => whnf
  refine tri_every hT hmix [8, 9] { t := [(8, .c (.ptr 0 0)), (9, .c (.ptr 1 0))], h := [(0, .box t_impl_Bound (cB (b.1, midV p q b))), (1, .box t_impl_Bound (cB (midV p q b, b.2)))], n := 2, N := 47 } rfl ?_ ?_
  ·repeat' first
    | (refine anyV_one rfl ?_; (conv => whnf))
    | (refine anyV_two rfl ?_ ?_ <;> (conv => whnf))
    | (refine anyV_three rfl ?_ ?_ ?_ <;> (conv => whnf))
    | (refine anyV_four rfl ?_ ?_ ?_ ?_ <;> (conv => whnf))
    | (refine anyV_end rfl ?_; (conv => whnf); first | done | rfl)
  conv => whnf
 rw [show iEq sign 1 = false from decide_eq_false h1, if_neg h1]
 conv => whnf
 by_cases h2 : sign = -1
 ·rw [show iEq sign (-1) = true from decide_eq_true h2, if_pos h2]
  conv => whnf
  refine tri_every hT hmix [8, 9] { t := [(8, .c (.ptr 0 0)), (9, .c (.ptr 1 0))], h := [(0, .box t_impl_Bound (cB (midV p q b, b.2))), (1, .box t_impl_Bound (cB (b.1, midV p q b)))], n := 2, N := 47 } rfl ?_ ?_
  ·repeat' first
    | (refine anyV_one rfl ?_; (conv => whnf))
    | (refine anyV_two rfl ?_ ?_ <;> (conv => whnf))
    | (refine anyV_three rfl ?_ ?_ ?_ <;> (conv => whnf))
    | (refine anyV_four rfl ?_ ?_ ?_ ?_ <;> (conv => whnf))
    | (refine anyV_end rfl ?_; (conv => whnf); first | done | rfl)
  conv => whnf
 rw [show iEq sign (-1) = false from decide_eq_false h2, if_neg h2]
 conv => whnf
 refine tri_every hT hmix [8, 9] { t := [(8, .c (.ptr 0 0)), (9, .c (.ptr 1 0))], h := [(0, .box t_impl_Bound (cB b)), (1, .box t_impl_Bound (cB b))], n := 2, N := 47 } rfl ?_ ?_
 ·repeat' first
   | (refine anyV_one rfl ?_; (conv => whnf))
   | (refine anyV_two rfl ?_ ?_ <;> (conv => whnf))
   | (refine anyV_three rfl ?_ ?_ ?_ <;> (conv => whnf))
   | (refine anyV_four rfl ?_ ?_ ?_ ?_ <;> (conv => whnf))
   | (refine anyV_end rfl ?_; (conv => whnf); first | done | rfl)
 conv => whnf
theorem impl_SidesOf_spec (sign : Int) (b : Int × Int) (p q : Int) (hb : boundP b) (hp : -1099511627776 ≤ p ∧ p ≤ 1099511627776) (hq : -1099511627776 ≤ q ∧ q ≤ 1099511627776) :
  FnSpec PR f_impl_SidesOf [ai sign, aB b, ai p, ai q] (tupBB (sidesL sign b p q)) [] 0 := by
 refine FnSpec.intro hT (pf Tryz.func108) rfl (by kernel_rfl) Tryz.ntmps108 rfl ?_
 conv => whnf
 refine tri_rp 0 ?_
 conv => whnf
 refine tri_every hT hmix [0, 5, 8, 9, 10] { t := [(0, ai sign), (5, .c (.d (.rp [.int .i64 b.1, .int .i64 b.2]))), (8, .c (.ptr 0 0)), (9, .c (.ptr 1 0)), (10, ai (midV p q b))], h := [(0, .box t_impl_Bound (cB (0, 0))), (1, .box t_impl_Bound (cB (0, 0)))], n := 2, N := 47 } rfl ?_ ?_
 ·repeat' first
   | (refine anyV_one rfl ?_; (conv => whnf))
   | (refine anyV_two rfl ?_ ?_ <;> (conv => whnf))
   | (refine .inl ⟨_, _, _, impl_HalfSum_spec p q (by omega) (by omega), rfl, ?_⟩; (conv => whnf))
   | (refine .inl ⟨_, _, _, impl_Brought_spec _ _ _, rfl, ?_⟩; (conv => whnf))
   | (refine anyV_end rfl ?_; (conv => whnf); first | done | rfl)
 conv => whnf
 refine tri_every hT hmix [0, 5, 8, 9, 11, 12] { t := [(0, ai sign), (5, .c (.d (.rp [.int .i64 b.1, .int .i64 b.2]))), (8, .c (.ptr 0 0)), (9, .c (.ptr 1 0)), (11, .c (.ptr 2 0)), (12, .c (.ptr 3 0))], h := [(0, .box t_impl_Bound (cB (0, 0))), (1, .box t_impl_Bound (cB (0, 0))), (2, .box t_impl_Bound (cB (b.1, midV p q b))), (3, .box t_impl_Bound (cB (midV p q b, b.2)))], n := 4, N := 47 } rfl ?_ ?_
 ·repeat' first
   | (refine anyV_one rfl ?_; (conv => whnf))
   | (refine anyV_two rfl ?_ ?_ <;> (conv => whnf))
   | (refine anyV_three rfl ?_ ?_ ?_ <;> (conv => whnf))
   | (refine anyV_four rfl ?_ ?_ ?_ ?_ <;> (conv => whnf))
   | (refine anyV_end rfl ?_; (conv => whnf); first | done | rfl)
 conv => whnf
 refine .inl ⟨_, _, _, impl_BoundOk_spec b, rfl, ?_⟩
 rw [decide_eq_true hb]
 conv => whnf
 unfold sidesL
 by_cases h1 : sign = 1
 ·rw [show iEq sign 1 = true from decide_eq_true h1, if_pos h1]
  conv => whnf
  refine tri_every hT hmix [8, 9] { t := [(8, .c (.ptr 0 0)), (9, .c (.ptr 1 0))], h := [(0, .box t_impl_Bound (cB (b.1, midV p q b))), (1, .box t_impl_Bound (cB (midV p q b, b.2)))], n := 2, N := 47 } rfl ?_ ?_
  ·repeat' first
    | (refine anyV_one rfl ?_; (conv => whnf))
    | (refine anyV_two rfl ?_ ?_ <;> (conv => whnf))
    | (refine anyV_three rfl ?_ ?_ ?_ <;> (conv => whnf))
    | (refine anyV_four rfl ?_ ?_ ?_ ?_ <;> (conv => whnf))
    | (refine anyV_end rfl ?_; (conv => whnf); first | done | rfl)
  conv => whnf
 rw [show iEq sign 1 = false from decide_eq_false h1, if_neg h1]
 conv => whnf
 by_cases h2 : sign = -1
 ·rw [show iEq sign (-1) = true from decide_eq_true h2, if_pos h2]
  conv => whnf
  refine tri_every hT hmix [8, 9] { t := [(8, .c (.ptr 0 0)), (9, .c (.ptr 1 0))], h := [(0, .box t_impl_Bound (cB (midV p q b, b.2))), (1, .box t_impl_Bound (cB (b.1, midV p q b)))], n := 2, N := 47 } rfl ?_ ?_
  ·repeat' first
    | (refine anyV_one rfl ?_; (conv => whnf))
    | (refine anyV_two rfl ?_ ?_ <;> (conv => whnf))
    | (refine anyV_three rfl ?_ ?_ ?_ <;> (conv => whnf))
    | (refine anyV_four rfl ?_ ?_ ?_ ?_ <;> (conv => whnf))
    | (refine anyV_end rfl ?_; (conv => whnf); first | done | rfl)
  conv => whnf
 rw [show iEq sign (-1) = false from decide_eq_false h2, if_neg h2]
 conv => whnf
 refine tri_every hT hmix [8, 9] { t := [(8, .c (.ptr 0 0)), (9, .c (.ptr 1 0))], h := [(0, .box t_impl_Bound (cB b)), (1, .box t_impl_Bound (cB b))], n := 2, N := 47 } rfl ?_ ?_
 ·repeat' first
   | (refine anyV_one rfl ?_; (conv => whnf))
   | (refine anyV_two rfl ?_ ?_ <;> (conv => whnf))
   | (refine anyV_three rfl ?_ ?_ ?_ <;> (conv => whnf))
   | (refine anyV_four rfl ?_ ?_ ?_ ?_ <;> (conv => whnf))
   | (refine anyV_end rfl ?_; (conv => whnf); first | done | rfl)
 conv => whnf
end Go.H.S
namespace Go.H.S
open Go Go.Proofs Go.H
attribute [local irreducible] Tri FnSpec FnSpecM FnSpecX FnSpecJ FnSpecB
abbrev rpTb (t : Tbl) : AV := .c (.d (.rp [.sl 1 (eL cS t.names), .str t.target, .sl 1 (eL cIs t.rows), .sl 1 (eL cI t.ys)]))
def columnL (t : Tbl) (f : Nat) : List Int := t.rows.map fun r => (r[f]?).getD 0
theorem column_take {t : Tbl} {f k : Nat} {r : List Int} (h : t.rows[k]? = some r) : (t.rows.take (k + 1)).map (fun r => (r[f]?).getD 0) = (t.rows.take k).map (fun r => (r[f]?).getD 0) ++ [(r[f]?).getD 0] := by
 rw [List.take_add_one, h]; simp
theorem spec_Column_spec (t : Tbl) (f : Nat) (hf : f < t.names.length) (hn : t.names.length ≤ 1000) (hr : t.rows.length ≤ 1048576) (hc : ∀ r ∈ t.rows, r.length ≤ 1048576) : FnSpec PR f_spec_Column [aTb t, ai f] (.c (.ref 0 0 none)) [(0, .arr t_int 1 0 .own (eL cI (columnL t f)))] 1 := by
 have e1 : wSub .i64 (nInt (dLen (eL cS t.names))) 1 = (t.names.length : Int) - 1 := by rw [show nInt (dLen (eL cS t.names)) = (t.names.length : Int) by simp]; exact wSub64 (by omega) (by omega)
 refine FnSpec.intro hT (pf Tryz.func166) rfl (by kernel_rfl) Tryz.ntmps166 rfl ?_
 conv => whnf
 refine tri_rp 0 ?_
 conv => whnf
 refine tri_loop hT [1, 2, 5, 6] (α := Nat) (fun k => { t := [(1, ai f), (2, rpTb t), (5, .c (.ref 0 0 none)), (6, ai k)], h := [(0, .arr t_int 1 0 .own (eL cI ((t.rows.take k).map fun r => (r[f]?).getD 0)))], n := 1, N := 46 })
  (fun k => k ≤ t.rows.length) (fun k => t.rows.length - k) 0 (by ((conv => whnf); simp only [eS, List.take_zero, List.map_nil, eL_nil]); rfl) (Nat.zero_le _) ?_
 intro k hk
 conv => whnf
 cases q1 : iLt (k : Int) (nInt (dLen (eL cIs t.rows)))
 ·simp only [eH] at q1
  obtain rfl : k = t.rows.length := by omega
  conv => whnf
  rw [List.take_length]
  rfl
 ·simp only [eH] at q1
  obtain ⟨r, hrk⟩ := get_lt (show k < t.rows.length by omega)
  have hrl := hc r (List.mem_of_getElem? hrk)
  have hstep := column_take (f := f) hrk
  conv => whnf
  rw [e1]
  refine .inl ⟨_, _, _, spec_l1In_spec _ _ _, rfl, ?_⟩
  rw [show decide ((0 : Int) ≤ (f : Int) ∧ (f : Int) ≤ (t.names.length : Int) - 1) = true from decide_eq_true (by omega)]
  conv => whnf
  refine idx_at (by simp) hrk ?_
  conv => whnf
  refine ifB_i (fun q2 => ?_) (fun q2 => ?_) <;> (conv => whnf) <;> simp only [eH] at q2
  ·obtain ⟨v, hv⟩ := get_lt (show f < r.length by omega)
   refine idx_at (by simp) hrk ?_
   conv => whnf
   refine idx_at (by simp) hv ?_
   conv => whnf
   refine And.intro (by simp [eL_length, dLen_len]; omega) ?_
   conv => whnf
   refine ⟨k + 1, by omega, by omega, ?_⟩
   ((conv => whnf); simp only [eS, wI (show k < t.rows.length by omega) (by omega)])
   rw [hstep, hv, ← eL_app]
   first | exact ⟨rfl, rfl⟩ | rfl
  ·refine And.intro (by simp [eL_length, dLen_len]; omega) ?_
   conv => whnf
   refine ⟨k + 1, by omega, by omega, ?_⟩
   ((conv => whnf); simp only [eS, wI (show k < t.rows.length by omega) (by omega)])
   rw [hstep, List.getElem?_eq_none (by omega), ← eL_app]
   first | exact ⟨rfl, rfl⟩ | rfl
def cutK (s : List Int) (n b k : Nat) : Option Int := if 1 ≤ n * k / b ∧ (s[n * k / b - 1]?).getD 0 < (s[n - 1]?).getD 0 then some ((s[n * k / b - 1]?).getD 0) else none
def cutsAll (s : List Int) (n b k : Nat) : List Int := (List.range k).filterMap (cutK s n b)
def cutsOfL (xs : List Int) (b : Nat) : List Int := distinctL (cutsAll (sortL xs) xs.length b b)
theorem cutsAll_step (s : List Int) (n b k : Nat) : cutsAll s n b (k + 1) = cutsAll s n b k ++ (cutK s n b k).toList := by
 simp only [cutsAll, List.range_succ, List.filterMap_append]
 congr 1
theorem cutsAll_len (s : List Int) (n b k : Nat) : (cutsAll s n b k).length ≤ k := by
 have := List.length_filterMap_le (cutK s n b) (List.range k)
 simpa [cutsAll] using this
theorem spec_CutsOf_spec (xs : List Int) (b : Nat) (hb : 2 ≤ b ∧ b ≤ 8) (hx : 1 ≤ xs.length ∧ xs.length ≤ 40) : FnSpec PR f_spec_CutsOf [aIs xs, ai b] (.c (.ref 0 0 none)) [(0, .arr t_int 1 0 .own (eL cI (cutsOfL xs b)))] 1 := by
 have eX : nInt (dLen (eL cI xs)) = (xs.length : Int) := by simp
 refine FnSpec.intro hT (pf Tryz.func167) rfl (by kernel_rfl) Tryz.ntmps167 rfl ?_
 conv => whnf
 refine .inl ⟨_, _, _, spec_l1In_spec _ _ _, rfl, ?_⟩
 rw [show decide ((2 : Int) ≤ (b : Int) ∧ (b : Int) ≤ 8) = true from decide_eq_true (by omega)]
 conv => whnf
 rw [eX]
 refine .inl ⟨_, _, _, spec_l1In_spec _ _ _, rfl, ?_⟩
 rw [show decide ((1 : Int) ≤ (xs.length : Int) ∧ (xs.length : Int) ≤ 40) = true from decide_eq_true (by omega)]
 conv => whnf
 refine .inl ⟨_, _, _, spec_SortInts_spec xs (by omega), rfl, ?_⟩
 have hsl := sortL_len xs
 have hd : cutsOfL xs b = distinctL (cutsAll (sortL xs) xs.length b b) := rfl
 rw [hd]
 generalize sortL xs = s at *
 generalize xs.length = n at *
 conv => whnf
 have h0 : cutsAll s n b 1 = [] := by simp [cutsAll, cutK]
 refine tri_loop hT [1, 5, 6, 7, 8] (α := Nat) (fun k => { t := [(1, ai b), (5, ai n), (6, aIs s), (7, .c (.ref 0 0 none)), (8, ai k)], h := [(0, .arr t_int 1 0 .own (eL cI (cutsAll s n b k)))], n := 1, N := 59 })
  (fun k => 1 ≤ k ∧ k ≤ b) (fun k => b - k) 1 (by ((conv => whnf); simp only [eS, h0, eL_nil, partOf_none]); first | done | rfl | exact ⟨rfl, rfl⟩) (by omega) ?_
 intro k ⟨hk1, hk⟩
 conv => whnf
 refine ifB_i (fun q1 => ?_) (fun q1 => ?_) <;> (conv => whnf) <;> simp only [eH] at q1
 ·have hnk : n * k ≤ 320 := by
   have : n * k ≤ 40 * 8 := Nat.mul_le_mul hx.2 (by omega)
   omega
  have hnb : n * k / b < n := by
   rw [Nat.div_lt_iff_lt_mul (by omega)]
   exact Nat.mul_lt_mul_of_pos_left (by omega) (by omega)
  have hc : (n : Int) * (k : Int) = ((n * k : Nat) : Int) := (Int.natCast_mul n k).symm
  have e1 : wMul .i64 (n : Int) (k : Int) = ((n * k : Nat) : Int) := by rw [wMul64 (by rw [hc]; omega) (by rw [hc]; omega), hc]
  have e2 : wQuo .i64 ((n * k : Nat) : Int) (b : Int) = ((n * k / b : Nat) : Int) := by rw [wQuo_small (by omega) (by omega)]; rfl
  have hstep := cutsAll_step s n b k
  have hcl := cutsAll_len s n b k
  have hck : cutK s n b k = if 1 ≤ n * k / b ∧ (s[n * k / b - 1]?).getD 0 < (s[n - 1]?).getD 0 then some ((s[n * k / b - 1]?).getD 0) else none := rfl
  refine And.intro (by unfold NZ; omega) ?_
  rw [e1]
  conv => whnf
  rw [e2]
  generalize n * k / b = i at *
  obtain ⟨z, hz⟩ := get_lt (show n - 1 < s.length by omega)
  have e4 : wSub .i64 (n : Int) 1 = ((n - 1 : Nat) : Int) := by rw [wSub64] <;> omega
  refine tri_conf hT hmix (by kernel_rfl) ?_
  conv => whnf
  cases q2 : iLe 1 (i : Int) <;> simp only [eH] at q2 <;> (conv => whnf)
  ·repeat' (first | (refine And.intro (fun q => ?_) (fun q => ?_) <;> cases q <;> (conv => whnf)) | fail)
   refine ⟨k + 1, by omega, by omega, ?_⟩
   rw [if_neg (by omega)] at hck
   rw [hck] at hstep
   simp only [Option.toList_none, List.append_nil] at hstep
   ((conv => whnf); simp only [eS, wI (show k < b by omega) (by omega)])
   rw [hstep]
  ·obtain ⟨y, hy⟩ := get_lt (show i - 1 < s.length by omega)
   have e3 : wSub .i64 (i : Int) 1 = ((i - 1 : Nat) : Int) := by rw [wSub64] <;> omega
   rw [hy, hz] at hck
   simp only [Option.getD_some] at hck
   repeat' first
    | (refine And.intro (fun q => ?_) (fun q => ?_) <;> cases q <;> (conv => whnf))
    | (refine idx_at e3 hy ?_; (conv => whnf))
    | (refine idx_at e4 hz ?_; (conv => whnf))
   refine ifB_i (fun q3 => ?_) (fun q3 => ?_) <;> (conv => whnf) <;> simp only [eH] at q3
   ·refine idx_at e3 hy ?_
    conv => whnf
    refine And.intro (by simp [eL_length, dLen_len]; omega) ?_
    conv => whnf
    rw [if_pos ⟨by omega, q3⟩] at hck
    rw [hck] at hstep
    simp only [Option.toList_some] at hstep
    refine ⟨k + 1, by omega, by omega, ?_⟩
    ((conv => whnf); simp only [eS, wI (show k < b by omega) (by omega)])
    rw [hstep, ← eL_app]
    first | exact ⟨rfl, rfl⟩ | rfl
   ·rw [if_neg (by omega)] at hck
    rw [hck] at hstep
    simp only [Option.toList_none, List.append_nil] at hstep
    refine ⟨k + 1, by omega, by omega, ?_⟩
    ((conv => whnf); simp only [eS, wI (show k < b by omega) (by omega)])
    rw [hstep]
 ·obtain rfl : k = b := by omega
  have hcl := cutsAll_len s n k k
  refine .inr (.inl ⟨_, _, _, spec_Distinct_spec (cutsAll s n k k) (by omega), rfl, ⟨flat_cI _, trivial⟩, ?_⟩)
  conv => whnf
  first | done | rfl
end Go.H.S
namespace Go.H.S
open Go Go.Proofs Go.H
attribute [local irreducible] Tri FnSpec FnSpecM FnSpecX FnSpecJ FnSpecB
def valOk (x : Int) : Bool := decide (-2147483647 ≤ x ∧ x ≤ 2147483647)
def rowsOkL (n : Nat) (ys : List Int) : List (List Int) → Nat → Bool
 | [], _ => true
 | r :: rest, k => (decide (r.length = n) && (valOk ((ys[k]?).getD 0) && r.all valOk)) && rowsOkL n ys rest (k + 1)
def tableOk (t : Tbl) : Bool :=
 decide (1 ≤ (t.names.length : Int) ∧ (t.names.length : Int) ≤ 4) && (nameOk t.target && (!hasS t.target t.names && (decide (1 ≤ (t.rows.length : Int) ∧ (t.rows.length : Int) ≤ 40) && (decide (t.ys.length = t.rows.length) &&
  (namesL t.names t.names 0 && rowsOkL t.names.length t.ys t.rows 0)))))
set_option maxHeartbeats 4000000 in
theorem spec_TableOk_spec (t : Tbl) (hn : t.names.length ≤ 1048576) (hns : ∀ s ∈ t.names, s.size ≤ 9223372036854775807) (htg : t.target.size ≤ 9223372036854775807) (hr : t.rows.length ≤ 1048576) (hc : ∀ r ∈ t.rows, r.length ≤ 1048576) (hy : t.ys.length ≤ 1048576) : FnSpec PR f_spec_TableOk [aTb t] (ab (tableOk t)) [] 0 := by
 have eN : nInt (dLen (eL cS t.names)) = (t.names.length : Int) := by simp
 have eR : nInt (dLen (eL cIs t.rows)) = (t.rows.length : Int) := by simp
 have eY : nInt (dLen (eL cI t.ys)) = (t.ys.length : Int) := by simp
 refine FnSpec.intro hT (pf Tryz.func63) rfl (by kernel_rfl) Tryz.ntmps63 rfl ?_
 conv => whnf
 rw [eN]
 refine .inl ⟨_, _, _, spec_l1In_spec _ _ _, rfl, ?_⟩
 generalize e1 : decide (1 ≤ (t.names.length : Int) ∧ (t.names.length : Int) ≤ 4) = c1
 cases c1 <;> (conv => whnf)
 ·simp [tableOk, e1]
 refine .inl ⟨_, _, _, spec_NameOk_spec t.target htg, rfl, ?_⟩
 generalize e2 : nameOk t.target = c2
 cases c2 <;> (conv => whnf)
 ·simp [tableOk, e2]
 refine .inl ⟨_, _, _, spec_l9Has_spec t.names t.target (by omega), rfl, ?_⟩
 generalize e3 : hasS t.target t.names = c3
 cases c3 with
 | true =>
  conv => whnf
  simp [tableOk, e3]
 | false =>
 conv => whnf
 rw [eR]
 refine .inl ⟨_, _, _, spec_l1In_spec _ _ _, rfl, ?_⟩
 generalize e4 : decide (1 ≤ (t.rows.length : Int) ∧ (t.rows.length : Int) ≤ 40) = c4
 cases c4 <;> (conv => whnf)
 ·simp [tableOk, e4]
 rw [eY, eR]
 generalize e5 : iEq (t.ys.length : Int) (t.rows.length : Int) = c5
 cases c5 <;> (conv => whnf) <;> simp only [eH] at e5
 ·have h5 : ¬ t.ys.length = t.rows.length := by omega
  simp [tableOk, h5]
 have h5 : t.ys.length = t.rows.length := by omega
 have hto : tableOk t = (namesL t.names t.names 0 && rowsOkL t.names.length t.ys t.rows 0) := by
  simp only [tableOk]; rw [e1, e2, e3, e4, decide_eq_true h5]; rfl
 rw [hto]
 refine tri_loop hT [1, 3, 4] (α := Nat) (fun k => { t := [(1, .c (.ptr 0 0)), (3, ai t.names.length), (4, ai k)], h := [(0, .box t_impl_Table (cTb t))], n := 1, N := 105 })
  (fun k => k ≤ t.names.length ∧ namesL t.names (t.names.drop k) k = namesL t.names t.names 0) (fun k => t.names.length - k) 0 (by ((conv => whnf); simp only [eS]); first | done | simp) ⟨Nat.zero_le _, rfl⟩ ?_
 intro k ⟨hk, hi⟩
 conv => whnf
 refine ifB_i (fun g1 => ?_) (fun g1 => ?_) <;> (conv => whnf) <;> simp at g1
 ·obtain ⟨s, hs'⟩ := get_lt g1
  rw [drop_at hs', namesL] at hi
  refine tri_conf hT hmix (by kernel_rfl) ?_
  conv => whnf
  refine idx_at (by simp) hs' ?_
  conv => whnf
  refine ⟨_, _, spec_NameOk_spec s (hns s (List.mem_of_getElem? hs')), rfl, ?_⟩
  cases hb : nameOk s
  ·conv => whnf
   repeat' (first | (refine And.intro (fun q => ?_) (fun q => ?_) <;> cases q <;> (conv => whnf)) | fail)
   rw [hb] at hi
   have : namesL t.names t.names 0 = false := by rw [← hi]; simp
   rw [this]
   conv => whnf
   rfl
  ·rw [hb, Bool.true_and] at hi
   conv => whnf
   repeat' (first | (refine And.intro (fun q => ?_) (fun q => ?_) <;> cases q <;> (conv => whnf)) | fail)
   refine And.intro (by simp; omega) ?_
   rw [dCut_take]
   conv => whnf
   repeat' (first | (refine And.intro (fun q => ?_) (fun q => ?_) <;> cases q <;> (conv => whnf)) | fail)
   refine idx_at (by simp) hs' ?_
   conv => whnf
   repeat' (first | (refine And.intro (fun q => ?_) (fun q => ?_) <;> cases q <;> (conv => whnf)) | fail)
   refine ⟨_, _, spec_l9Has_spec (t.names.take k) s (by simp; omega), rfl, ?_⟩
   cases hh : hasS s (t.names.take k)
   ·conv => whnf
    repeat' (first | (refine And.intro (fun q => ?_) (fun q => ?_) <;> cases q <;> (conv => whnf)) | fail)
    rw [hh] at hi
    refine ⟨k + 1, by omega, ⟨g1, by simpa using hi⟩, ?_⟩
    ((conv => whnf); simp only [eS, wI g1 (by omega)])
   ·conv => whnf
    repeat' (first | (refine And.intro (fun q => ?_) (fun q => ?_) <;> cases q <;> (conv => whnf)) | fail)
    rw [hh] at hi
    have : namesL t.names t.names 0 = false := by rw [← hi]; simp
    rw [this]
    conv => whnf
    rfl
 ·obtain rfl : k = t.names.length := by omega
  simp only [List.drop_length, namesL] at hi
  rw [← hi, Bool.true_and]
  refine tri_loop hT [1, 3, 5] (α := Nat) (fun k => { t := [(1, .c (.ptr 0 0)), (3, ai t.names.length), (5, ai k)], h := [(0, .box t_impl_Table (cTb t))], n := 1, N := 105 })
   (fun k => k ≤ t.rows.length ∧ rowsOkL t.names.length t.ys (t.rows.drop k) k = rowsOkL t.names.length t.ys t.rows 0) (fun k => t.rows.length - k) 0 (by ((conv => whnf); simp only [eS])) ⟨Nat.zero_le _, rfl⟩ ?_
  intro k ⟨hk2, hj⟩
  conv => whnf
  refine ifB_i (fun g2 => ?_) (fun g2 => ?_) <;> (conv => whnf) <;> simp at g2
  ·obtain ⟨r, hx⟩ := get_lt g2
   obtain ⟨y, hyk⟩ := get_lt (show k < t.ys.length by omega)
   rw [drop_at hx, rowsOkL, hyk] at hj
   simp only [Option.getD_some] at hj
   refine idx_at (by simp) hx ?_
   conv => whnf
   rw [show nInt (dLen (eL cI r)) = (r.length : Int) by simp]
   generalize q1 : iEq (r.length : Int) (t.names.length : Int) = c1
   cases c1 <;> (conv => whnf) <;> simp only [eH] at q1
   ·rw [decide_eq_false (show ¬ r.length = t.names.length by omega)] at hj
    rw [← hj]
    rfl
   rw [decide_eq_true (show r.length = t.names.length by omega), Bool.true_and] at hj
   refine idx_at (by simp) hyk ?_
   conv => whnf
   refine .inl ⟨_, _, _, spec_l6Value_spec _, rfl, ?_⟩
   rw [show decide (-2147483647 ≤ y ∧ y ≤ 2147483647) = valOk y from rfl]
   cases hb : valOk y
   ·conv => whnf
    rw [hb] at hj
    rw [← hj]
    rfl
   rw [hb, Bool.true_and] at hj
   conv => whnf
   refine tri_loop hT [1, 3, 5, 6] (α := Nat) (fun j => { t := [(1, .c (.ptr 0 0)), (3, ai t.names.length), (5, ai k), (6, ai j)], h := [(0, .box t_impl_Table (cTb t))], n := 1, N := 105 })
    (fun j => j ≤ r.length ∧ (r.drop j).all valOk = r.all valOk) (fun j => r.length - j) 0 (by ((conv => whnf); simp only [eS])) ⟨Nat.zero_le _, rfl⟩ ?_
   intro j ⟨hj1, hj2⟩
   conv => whnf
   refine ifB_i (fun g3 => ?_) (fun g3 => ?_) <;> (conv => whnf) <;> simp at g3
   ·obtain ⟨v, hv⟩ := get_lt (show j < r.length by omega)
    rw [drop_at hv, List.all_cons] at hj2
    refine idx_at (by simp) hx ?_
    conv => whnf
    refine idx_at (by simp) hv ?_
    conv => whnf
    refine .inl ⟨_, _, _, spec_l6Value_spec _, rfl, ?_⟩
    rw [show decide (-2147483647 ≤ v ∧ v ≤ 2147483647) = valOk v from rfl]
    cases hb2 : valOk v
    ·conv => whnf
     rw [hb2] at hj2
     rw [← hj2] at hj
     rw [← hj]
     rfl
    ·conv => whnf
     rw [hb2] at hj2
     refine ⟨j + 1, by omega, ⟨by omega, by simpa using hj2⟩, ?_⟩
     ((conv => whnf); simp only [eS, wI g3 (by omega)])
   ·obtain rfl : j = r.length := by omega
    simp only [List.drop_length, List.all_nil] at hj2
    rw [← hj2, Bool.true_and] at hj
    refine ⟨k + 1, by omega, ⟨g2, hj⟩, ?_⟩
    ((conv => whnf); simp only [eS, wI g2 (by omega)])
  ·obtain rfl : k = t.rows.length := by omega
   simp only [List.drop_length, rowsOkL] at hj
   rw [← hj]
end Go.H.S
namespace Go.H.S
open Go Go.Proofs Go.H
attribute [local irreducible] Tri FnSpec FnSpecM FnSpecX FnSpecJ FnSpecB
def cutsT (t : Tbl) (b f : Nat) : List Int := cutsOfL (columnL t f) b
def binsT (t : Tbl) (b f : Nat) : List Int := (columnL t f).map fun v => ((binOfL (cutsT t b f) v : Nat) : Int)
def cutsTo (t : Tbl) (b n : Nat) : List (List Int) := (List.range n).map (cutsT t b)
def binsTo (t : Tbl) (b n : Nat) : List (List Int) := (List.range n).map (binsT t b)
def gridT (t : Tbl) (b : Nat) : Grd := ⟨cutsTo t b t.names.length, binsTo t b t.names.length⟩
theorem cutsTo_succ (t : Tbl) (b n : Nat) : cutsTo t b (n + 1) = cutsTo t b n ++ [cutsT t b n] := by simp [cutsTo, List.range_succ]
theorem binsTo_succ (t : Tbl) (b n : Nat) : binsTo t b (n + 1) = binsTo t b n ++ [binsT t b n] := by simp [binsTo, List.range_succ]
theorem cutsTo_len (t : Tbl) (b n : Nat) : (cutsTo t b n).length = n := by simp [cutsTo]
theorem binsTo_len (t : Tbl) (b n : Nat) : (binsTo t b n).length = n := by simp [binsTo]
theorem columnL_len (t : Tbl) (f : Nat) : (columnL t f).length = t.rows.length := by simp [columnL]
theorem cutsT_len (t : Tbl) {b f : Nat} (hb : b ≤ 8) : (cutsT t b f).length ≤ 8 := by
 have h1 := distinctL_len (cutsAll (sortL (columnL t f)) (columnL t f).length b b)
 have h2 := cutsAll_len (sortL (columnL t f)) (columnL t f).length b b
 show (distinctL _).length ≤ 8
 omega
theorem tableOk_p {t : Tbl} (h : tableOk t = true) : (1 ≤ t.names.length ∧ t.names.length ≤ 4) ∧ (1 ≤ t.rows.length ∧ t.rows.length ≤ 40) ∧ t.ys.length = t.rows.length := by
 simp only [tableOk, Bool.and_eq_true, decide_eq_true_eq] at h
 obtain ⟨h1, _, _, h4, h5, _⟩ := h
 exact ⟨by omega, by omega, h5⟩
abbrev rowIs (xs : List (List Int)) : Ent := .arr t_Lint 1 0 (.nest [t_int]) (eL cIs xs)
end Go.H.S
namespace Go.H.S
open Go Go.Proofs Go.H
attribute [local irreducible] Tri FnSpec FnSpecM FnSpecX FnSpecJ FnSpecB
end Go.H.S
namespace Go.H.S
open Go Go.Proofs Go.H
attribute [local irreducible] Tri FnSpec FnSpecM FnSpecX FnSpecJ FnSpecB
end Go.H.S
namespace Go.H.S
open Go Go.Proofs Go.H
attribute [local irreducible] Tri FnSpec FnSpecM FnSpecX FnSpecJ FnSpecB
end Go.H.S
