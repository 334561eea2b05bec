/- Library, part RA: names, signs, models that are right. -/
import Derived.Test.YtdolkacinfjhcaaGreatLY
import Derived.Test.YtdolkacinfjhcaaGreatLNH
import Derived.Test.YtdolkacinfjhcaaGreatLNC
import Derived.Test.YtdolkacinfjhcaaGreatH31
set_option maxRecDepth 100000
set_option linter.unusedSimpArgs false
set_option linter.unusedVariables false
namespace Go.H.S
open Go Go.Proofs Go.H
attribute [local irreducible] Tri z6 zV zU zj
def z0J (b : UInt8) : Bool := decide (97 ≤ (b.toNat : Int) ∧ (b.toNat : Int) ≤ 122)
def z5G (b : UInt8) : Bool := decide (48 ≤ (b.toNat : Int) ∧ (b.toNat : Int) ≤ 57)
def z6P : List UInt8 → Nat → Bool
 | [], _ => true
 | b :: r, k => (z0J b || (decide (k ≠ 0) && z5G b)) && z6P r (k + 1)
def wo (s : ByteArray) : Bool := decide (1 ≤ (s.size : Int) ∧ (s.size : Int) ≤ 12) && z6P s.data.toList 0
theorem z7a : ∀ (l : List UInt8) (k : Nat), 0 < k → z6P l k = l.all fun b => z0J b || z5G b
 | [], k, h => rfl
 | b :: r, k, h => by
  simp only [z6P, List.all_cons, z7a r (k + 1) (by omega)]
  rw [show decide (k ≠ 0) = true from decide_eq_true (by omega), Bool.true_and]
theorem z62 {s : ByteArray} {n : Int} {k : Nat} {b : UInt8} {K : UInt8 → Prop} (hn : n = (k : Int)) (hb : s.data.toList[k]? = some b) (h : K b) : InB n s.size ∧ ∀ c, AtB s (nOf n) c → K c := by
 subst hn
 have hlt := (List.getElem?_eq_some_iff.1 hb).1
 refine ⟨by simp; exact hlt, fun c hc => ?_⟩
 have hc' : s.data.toList[nOf (k : Int)]? = some c := by unfold AtB at hc; exact hc
 rw [z2E, Int.toNat_natCast, hb] at hc'
 cases hc'
 exact h
theorem zEQ {s : ByteArray} {k : Nat} (h : k < s.size) : ∃ b, s.data.toList[k]? = some b := zH (l := s.data.toList) (by simpa using h)
theorem zES (b : UInt8) : bInt b = (b.toNat : Int) := by unfold bInt; rfl
theorem zLz (b : UInt8) : 0 ≤ bInt b ∧ bInt b < 256 := by rw [zES]; have := b.toNat_lt; omega
theorem zC5 (b : UInt8) : z8U .i64 (bInt b) = bInt b := by
 have := zLz b
 unfold z8U
 exact z8F (by omega) (by omega)
theorem zD6 (b : UInt8) : z0J b = decide (97 ≤ bInt b ∧ bInt b ≤ 122) := by rw [zES]; rfl
theorem zGE (b : UInt8) : z5G b = decide (48 ≤ bInt b ∧ bInt b ≤ 57) := by rw [zES]; rfl
theorem z5P {s : ByteArray} {b : UInt8} (h : s.data.toList[0]? = some b) : ∃ r, s.data.toList = b :: r := by
 generalize s.data.toList = l at *
 cases l with
 | nil => simp at h
 | cons x r => simp at h; subst h; exact ⟨r, rfl⟩
theorem wy (s : ByteArray) (hs : s.size ≤ 9223372036854775807) : z6 PR zDc [aS s] (ab (wo s)) [] 0 := by
 have hsz : s.data.toList.length = s.size := by simp
 refine z6.intro hT (pf Tryz.func159) rfl (by kernel_rfl) Tryz.ntmps159 rfl ?_
 conv => whnf
 refine .inl ⟨_, _, _, zM _ _ _, rfl, ?_⟩
 conv => whnf
 refine zK (fun h1 => ?_) (fun h1 => ?_) <;> (conv => whnf) <;> simp only [eH] at h1
 ·have : decide (1 ≤ (s.size : Int) ∧ (s.size : Int) ≤ 12) = false := by simpa using h1
  simp [wo, this]
 have hno : wo s = z6P s.data.toList 0 := by simp only [wo]; rw [h1]; rfl
 have h1' := of_decide_eq_true h1
 obtain ⟨b0, hb0⟩ := zEQ (s := s) (k := 0) (by omega)
 refine z62 (k := 0) rfl hb0 ?_
 conv => whnf
 refine zK (fun h2 => ?_) (fun h2 => ?_) <;> (conv => whnf) <;> simp only [eH] at h2
 ·obtain ⟨r, hr⟩ := z5P hb0
  have hl : z0J b0 = false := by rw [zD6]; exact decide_eq_false (by omega)
  rw [hno, hr, z6P, hl]
  rfl
 refine zB hT [0, 3] (α := Nat) (fun k => { t := [(0, aS s), (3, ai k)], h := [], n := 0, N := 33 })
  (fun k => k ≤ s.size ∧ ((s.data.toList.drop k).all fun b => z0J b || z5G b) = (s.data.toList.all fun b => z0J b || z5G b)) (fun k => s.size - k) 0 (by ((conv => whnf); simp only [eS])) ⟨Nat.zero_le _, rfl⟩ ?_
 intro k ⟨hk, hn⟩
 conv => whnf
 refine zK (fun h3 => ?_) (fun h3 => ?_) <;> (conv => whnf) <;> simp at h3
 ·obtain ⟨b, hb⟩ := zEQ h3
  rw [zy hb, List.all_cons] at hn
  refine z62 (k := k) rfl hb ?_
  conv => whnf
  refine .inl ⟨_, _, _, zM _ _ _, rfl, ?_⟩
  rw [zC5, ← zD6]
  conv => whnf
  have hbad : z0J b = false → z5G b = false → wo s = false := fun p1 p2 => by
   rw [p1, p2] at hn
   obtain ⟨r, hr⟩ := z5P hb0
   rw [hno, hr, z6P, z7a _ _ (by omega)]
   rw [hr, List.all_cons] at hn
   simp only [Bool.or_self, Bool.false_and] at hn
   cases hq : (r.all fun b => z0J b || z5G b) with
   | false => simp
   | true =>
    rw [hq, Bool.and_true] at hn
    have hb0n : z0J b0 = false := by
     cases hq2 : z0J b0 with
     | false => rfl
     | true => rw [hq2] at hn; simp at hn
    rw [hb0n]; rfl
  cases hl : z0J b
  ·conv => whnf
   refine z62 (k := k) rfl hb ?_
   conv => whnf
   refine .inl ⟨_, _, _, zM _ _ _, rfl, ?_⟩
   rw [zC5, ← zGE]
   conv => whnf
   cases hd : z5G b
   ·conv => whnf
    rw [hbad hl hd]
   ·conv => whnf
    refine ⟨k + 1, by omega, ⟨h3, by rw [hl, hd] at hn; simpa using hn⟩, ?_⟩
    ((conv => whnf); simp only [eS, wI h3 (by omega)])
  ·conv => whnf
   refine ⟨k + 1, by omega, ⟨h3, by rw [hl] at hn; simpa using hn⟩, ?_⟩
   ((conv => whnf); simp only [eS, wI h3 (by omega)])
 ·obtain rfl : k = s.size := by omega
  rw [← hsz, List.drop_length] at hn
  obtain ⟨r, hr⟩ := z5P hb0
  rw [hr] at hn
  simp only [List.all_nil, List.all_cons] at hn
  have hn' := hn.symm
  simp only [Bool.and_eq_true] at hn'
  have hl : z0J b0 = true := by
   have h4 := hn'.1
   simp only [Bool.or_eq_true] at h4
   rcases h4 with h4 | h4
   ·exact h4
   ·rw [zGE, decide_eq_true_eq] at h4; omega
  have : wo s = true := by rw [hno, hr, z6P, z7a _ _ (by omega), hl, hn'.2]; rfl
  rw [this]
theorem z90 (s : ByteArray) (hs : s.size ≤ 9223372036854775807) : z6 PR zE3 [aS s] (ab (wo s)) [] 0 := by
 refine z6.intro hT (pf Tryz.func301) rfl (by kernel_rfl) Tryz.ntmps301 rfl ?_
 conv => whnf
 refine zB hT [0, 6, 7] (α := Nat) (fun k => { t := [(0, aS s), (6, ai s.size), (7, ai k)], h := [], n := 0, N := 42 })
  (fun k => k ≤ s.size ∧ z6P (s.data.toList.drop k) k = z6P s.data.toList 0) (fun k => s.size - k) 0 (by ((conv => whnf); simp only [eS])) ⟨Nat.zero_le _, rfl⟩ ?_
 intro k ⟨hk, hn⟩
 conv => whnf
 refine zK (fun h1 => ?_) (fun h1 => ?_) <;> (conv => whnf) <;> simp at h1
 ·obtain ⟨b, hb⟩ := zEQ h1
  rw [zy hb, z6P] at hn
  have hbad : (z0J b || (decide (k ≠ 0) && z5G b)) = false → wo s = false := fun p => by
   rw [p, Bool.false_and] at hn
   simp [wo, ← hn]
  have hgood : (z0J b || (decide (k ≠ 0) && z5G b)) = true → z6P (s.data.toList.drop (k + 1)) (k + 1) = z6P s.data.toList 0 := fun p => by
   rw [p, Bool.true_and] at hn
   exact hn
  rw [zD6, zGE] at hbad hgood
  refine z62 (k := k) rfl hb ?_
  conv => whnf
  generalize e1 : iLe 97 (bInt b) = c1
  cases c1 <;> (conv => whnf)
  ·have h97 : ¬ 97 ≤ bInt b := by simpa [iLe] using e1
   have hnl : decide (97 ≤ bInt b ∧ bInt b ≤ 122) = false := decide_eq_false (by omega)
   generalize e3 : iEq (k : Int) 0 = c3
   cases c3 <;> (conv => whnf)
   ·have hk0 : ¬ k = 0 := by intro h; subst h; simp [iEq] at e3
    refine z62 (k := k) rfl hb ?_
    conv => whnf
    generalize e4 : iLt (bInt b) 48 = c4
    cases c4 <;> (conv => whnf)
    ·refine z62 (k := k) rfl hb ?_
     conv => whnf
     generalize e5 : iLt 57 (bInt b) = c5
     cases c5 <;> (conv => whnf)
     ·refine ⟨k + 1, by omega, ⟨h1, hgood ?_⟩, ?_⟩
      ·have h48 : ¬ bInt b < 48 := by simpa [iLt] using e4
       have h57 : ¬ 57 < bInt b := by simpa [iLt] using e5
       rw [decide_eq_true hk0, decide_eq_true (show 48 ≤ bInt b ∧ bInt b ≤ 57 by omega)]
       simp
      ·((conv => whnf); simp only [eS, wI h1 hs])
     ·have h57 : 57 < bInt b := by simpa [iLt] using e5
      rw [hbad (by rw [hnl, decide_eq_false (show ¬ (48 ≤ bInt b ∧ bInt b ≤ 57) by omega)]; simp)]
    ·have h48 : bInt b < 48 := by simpa [iLt] using e4
     rw [hbad (by rw [hnl, decide_eq_false (show ¬ (48 ≤ bInt b ∧ bInt b ≤ 57) by omega)]; simp)]
   ·have hk0 : k = 0 := by simpa [iEq] using e3
    rw [hbad (by rw [hnl]; simp [hk0])]
  ·have h97 : 97 ≤ bInt b := by simpa [iLe] using e1
   refine z62 (k := k) rfl hb ?_
   conv => whnf
   generalize e2 : iLe (bInt b) 122 = c2
   cases c2 <;> (conv => whnf)
   ·have h122 : ¬ bInt b ≤ 122 := by simpa [iLe] using e2
    have hnl : decide (97 ≤ bInt b ∧ bInt b ≤ 122) = false := decide_eq_false (by omega)
    generalize e3 : iEq (k : Int) 0 = c3
    cases c3 <;> (conv => whnf)
    ·have hk0 : ¬ k = 0 := by intro h; subst h; simp [iEq] at e3
     refine z62 (k := k) rfl hb ?_
     conv => whnf
     generalize e4 : iLt (bInt b) 48 = c4
     cases c4 <;> (conv => whnf)
     ·refine z62 (k := k) rfl hb ?_
      conv => whnf
      generalize e5 : iLt 57 (bInt b) = c5
      cases c5 <;> (conv => whnf)
      ·refine ⟨k + 1, by omega, ⟨h1, hgood ?_⟩, ?_⟩
       ·have h48 : ¬ bInt b < 48 := by simpa [iLt] using e4
        have h57 : ¬ 57 < bInt b := by simpa [iLt] using e5
        rw [decide_eq_true hk0, decide_eq_true (show 48 ≤ bInt b ∧ bInt b ≤ 57 by omega)]
        simp
       ·((conv => whnf); simp only [eS, wI h1 hs])
      ·have h57 : 57 < bInt b := by simpa [iLt] using e5
       rw [hbad (by rw [hnl, decide_eq_false (show ¬ (48 ≤ bInt b ∧ bInt b ≤ 57) by omega)]; simp)]
     ·have h48 : bInt b < 48 := by simpa [iLt] using e4
      rw [hbad (by rw [hnl, decide_eq_false (show ¬ (48 ≤ bInt b ∧ bInt b ≤ 57) by omega)]; simp)]
    ·have hk0 : k = 0 := by simpa [iEq] using e3
     rw [hbad (by rw [hnl]; simp [hk0])]
   ·have h122 : bInt b ≤ 122 := by simpa [iLe] using e2
    refine ⟨k + 1, by omega, ⟨h1, hgood (by rw [decide_eq_true (show 97 ≤ bInt b ∧ bInt b ≤ 122 by omega)]; rfl)⟩, ?_⟩
    ((conv => whnf); simp only [eS, wI h1 hs])
 ·obtain rfl : k = s.size := by omega
  refine .inl ⟨_, _, _, zG _ _ _, rfl, ?_⟩
  rw [zFr]
  have hd : s.data.toList.drop s.size = [] := List.drop_eq_nil_of_le (by simp)
  rw [hd] at hn
  have : wo s = decide (1 ≤ (s.size : Int) ∧ (s.size : Int) ≤ 12) := by simp [wo, ← hn, z6P]
  rw [this]
  conv => whnf
def hasS (x : ByteArray) (l : List ByteArray) : Bool := l.any fun y => decide (x = y)
def yH (all : List ByteArray) : List ByteArray → Nat → Bool
 | [], _ => true
 | s :: r, k => (wo s && !hasS s (all.take k)) && yH all r (k + 1)
theorem z73 {α : Type} (f : α → List D) (xs : List α) (k : Nat) : dCut (eL f xs) (nOf 0) (nOf (k : Int)) = eL f (xs.take k) := by simp [dCut, eL, List.map_take]
theorem z0F (l : List ByteArray) (x : ByteArray) (hl : l.length ≤ 9223372036854775807) : z6 PR zFG [aSs l, aS x] (ab (hasS x l)) [] 0 := by
 refine z6.intro hT (pf Tryz.func160) rfl (by kernel_rfl) Tryz.ntmps160 rfl ?_
 conv => whnf
 refine zB hT [0, 1, 5] (α := Nat) (fun k => { t := [(0, aSs l), (1, aS x), (5, ai k)], h := [], n := 0, N := 18 })
  (fun k => k ≤ l.length ∧ hasS x (l.drop k) = hasS x l) (fun k => l.length - k) 0 (by ((conv => whnf); simp only [eS])) ⟨Nat.zero_le _, rfl⟩ ?_
 intro k ⟨hk, hi⟩
 conv => whnf
 refine zK (fun h1 => ?_) (fun h1 => ?_) <;> (conv => whnf) <;> simp at h1
 ·obtain ⟨s, hs⟩ := zH h1
  refine zE (by simp) hs ?_
  conv => whnf
  rw [zy hs] at hi
  refine zK (fun h2 => ?_) (fun h2 => ?_) <;> (conv => whnf) <;> simp only [eH] at h2
  ·subst h2
   rw [← hi]
   simp [hasS]
  ·refine ⟨k + 1, by omega, ⟨h1, by rw [← hi]; simp [hasS, Ne.symm h2]⟩, ?_⟩
   ((conv => whnf); simp only [eS, wI h1 hl])
 ·obtain rfl : k = l.length := by omega
  simp only [List.drop_length] at hi
  rw [← hi]
  rfl
theorem z6E (l : List ByteArray) (x : ByteArray) (hl : l.length ≤ 9223372036854775807) : z6 PR z19 [aSs l, aS x] (ai (idxL (fun y => decide (x = y)) l 0)) [] 0 := by
 refine z6.intro hT (pf Tryz.func333) rfl (by kernel_rfl) Tryz.ntmps333 rfl ?_
 conv => whnf
 refine zB hT [0, 1, 7, 8] (α := Nat) (fun k => { t := [(0, aSs l), (1, aS x), (7, ai l.length), (8, ai k)], h := [], n := 0, N := 19 })
  (fun k => k ≤ l.length ∧ idxL (fun y => decide (x = y)) (l.drop k) k = idxL (fun y => decide (x = y)) l 0) (fun k => l.length - k) 0 (by ((conv => whnf); simp only [eS])) ⟨Nat.zero_le _, rfl⟩ ?_
 intro k ⟨hk, hi⟩
 conv => whnf
 refine zK (fun h1 => ?_) (fun h1 => ?_) <;> (conv => whnf) <;> simp at h1
 ·obtain ⟨s, hs⟩ := zH h1
  refine zE (by simp) hs ?_
  conv => whnf
  rw [zy hs, idxL] at hi
  refine zK (fun h2 => ?_) (fun h2 => ?_) <;> (conv => whnf) <;> simp only [eH] at h2
  ·rw [if_pos (by simpa using h2)] at hi
   ((conv => whnf); simp only [eS, hi])
  ·rw [if_neg (by simpa using h2)] at hi
   refine ⟨k + 1, by omega, ⟨h1, hi⟩, ?_⟩
   ((conv => whnf); simp only [eS, wI h1 hl])
 ·obtain rfl : k = l.length := by omega
  simp only [List.drop_length, idxL] at hi
  ((conv => whnf); simp only [eS, ← hi])
theorem z3v (l : List ByteArray) (x : ByteArray) (hl : l.length ≤ 9223372036854775807) : z6 PR z0X [aSs l, aS x] (ab (hasS x l)) [] 0 := by
 refine z6.intro hT (pf Tryz.func302) rfl (by kernel_rfl) Tryz.ntmps302 rfl ?_
 conv => whnf
 refine .inl ⟨_, _, _, z6E l x hl, rfl, ?_⟩
 have h := z4a (fun y => decide (x = y)) l 0
 ((conv => whnf); simp only [eS, iLe])
 rw [Bool.eq_iff_iff, decide_eq_true_eq]
 exact h
theorem z2F (l : List ByteArray) (hl : l.length ≤ 1048576) (hs : ∀ s ∈ l, s.size ≤ 9223372036854775807) : z6 PR z4H [aSs l] (ab (yH l l 0)) [] 0 := by
 refine z6.intro hT (pf Tryz.func251) rfl (by kernel_rfl) Tryz.ntmps251 rfl ?_
 conv => whnf
 refine zB hT [0, 5, 6, 7] (α := Nat) (fun k => { t := [(0, aSs l), (5, aSs l), (6, ai l.length), (7, ai k)], h := [], n := 0, N := 23 })
  (fun k => k ≤ l.length ∧ yH l (l.drop k) k = yH l l 0) (fun k => l.length - k) 0 (by ((conv => whnf); simp only [eS])) ⟨Nat.zero_le _, rfl⟩ ?_
 intro k ⟨hk, hi⟩
 conv => whnf
 refine zK (fun h1 => ?_) (fun h1 => ?_) <;> (conv => whnf) <;> simp at h1
 ·obtain ⟨s, hs'⟩ := zH h1
  rw [zy hs', yH] at hi
  refine zE (by simp) hs' ?_
  conv => whnf
  refine .inl ⟨_, _, _, z90 s (hs s (List.mem_of_getElem? hs')), rfl, ?_⟩
  conv => whnf
  cases hb : wo s <;> (conv => whnf)
  ·rw [hb] at hi
   rw [← hi]
   simp
  ·rw [hb, Bool.true_and] at hi
   refine And.intro (by simp; omega) ?_
   rw [z73]
   conv => whnf
   refine .inl ⟨_, _, _, z3v (l.take k) s (by simp; omega), rfl, ?_⟩
   conv => whnf
   cases hh : hasS s (l.take k) <;> (conv => whnf)
   ·rw [hh] at hi
    refine ⟨k + 1, by omega, ⟨h1, by simpa using hi⟩, ?_⟩
    ((conv => whnf); simp only [eS, wI h1 (by omega)])
   ·rw [hh] at hi
    rw [← hi]
    rfl
 ·obtain rfl : k = l.length := by omega
  simp only [List.drop_length, yH] at hi
  rw [← hi]
theorem z3V (x : Int) : z6 PR zDs [ai x] (ab (decide (-1 ≤ x ∧ x ≤ 1))) [] 0 := by
 refine z6.intro hT (pf Tryz.func232) rfl (by kernel_rfl) Tryz.ntmps232 rfl ?_
 conv => whnf
 refine .inl ⟨_, _, _, zG _ _ _, rfl, ?_⟩
 conv => whnf
theorem z1o (x : Int) : z6 PR z1E [ai x] (ab (bNot (decide (-1 ≤ x ∧ x ≤ 1)))) [] 0 := by
 refine z6.intro hT (pf Tryz.func296) rfl (by kernel_rfl) Tryz.ntmps296 rfl ?_
 conv => whnf
 refine .inl ⟨_, _, _, z3V _, rfl, ?_⟩
 conv => whnf
theorem z1n (t : List Nd) (n : Int) (hl : t.length ≤ 1048576) : z6 PR z1D [aT t, .c (.d (.rp [.int .i64 n]))] (ab (bNot (yZ t n))) [] 0 := by
 refine z6.intro hT (pf Tryz.func298) rfl (by kernel_rfl) Tryz.ntmps298 rfl ?_
 conv => whnf
 refine .inl ⟨_, _, _, z3Y t n hl, rfl, ?_⟩
 conv => whnf
def z1f (x : Int) : Bool := decide (-1 ≤ x ∧ x ≤ 1)
def yI (m : Mdl) : Bool :=
 decide (1 ≤ (m.names.length : Int) ∧ (m.names.length : Int) ≤ 4) && ((decide (m.signs.length = 0) || decide (m.signs.length = m.names.length)) && (decide (-2147483647 ≤ m.base ∧ m.base ≤ 2147483647) && (decide (m.trees.length ≤ 8) &&
  (yH m.names m.names 0 && (m.signs.all z1f && m.trees.all fun t => yZ t m.names.length)))))
set_option maxHeartbeats 1000000 in
theorem z7M (m : Mdl) (hn : m.names.length ≤ 1048576) (hns : ∀ s ∈ m.names, s.size ≤ 9223372036854775807) (hs : m.signs.length ≤ 1048576) (hm : m.trees.length ≤ 1048576) (ht : ∀ t ∈ m.trees, t.length ≤ 1048576) : z6 PR zBc [aM m] (ab (yI m)) [] 0 := by
  have eSi : nInt (dLen (eL cI m.signs)) = (m.signs.length : Int) := by simp
  have eN : nInt (dLen (eL cS m.names)) = (m.names.length : Int) := by simp
  have eT : nInt (dLen (eL cT m.trees)) = (m.trees.length : Int) := by simp
  refine z6.intro hT (pf Tryz.func242) rfl (by kernel_rfl) Tryz.ntmps242 rfl ?_
  conv => whnf
  rw [eN]
  refine .inl ⟨_, _, _, zM _ _ _, rfl, ?_⟩
  conv => whnf
  refine zK (fun h1 => ?_) (fun h1 => ?_) <;> (conv => whnf) <;> simp only [eH] at h1
  · have : decide (1 ≤ (m.names.length : Int) ∧ (m.names.length : Int) ≤ 4) = false := by simpa using h1
    simp [yI, this]
  rw [eSi]
  generalize e1 : iEq (m.signs.length : Int) 0 = c1
  cases c1 <;> (conv => whnf)
  · rw [eSi]
    generalize e2 : iEq (m.signs.length : Int) (m.names.length : Int) = c2
    have h0 : ¬ m.signs.length = 0 := by intro h; rw [h] at e1; simp [iEq] at e1
    cases c2 <;> (conv => whnf)
    · have : ¬ m.signs.length = m.names.length := by intro h; rw [h] at e2; simp [iEq] at e2
      simp [yI, h0, this]
    · have hsg : (decide (m.signs.length = 0) || decide (m.signs.length = m.names.length)) = true := by
        have : (m.signs.length : Int) = m.names.length := by simpa [iEq] using e2
        rw [decide_eq_true (show m.signs.length = m.names.length by omega)]; simp
      refine .inl ⟨_, _, _, yh _, rfl, ?_⟩
      conv => whnf
      generalize e3 : decide (-2147483647 ≤ m.base ∧ m.base ≤ 2147483647) = c3
      cases c3 <;> (conv => whnf)
      · simp [yI, e3]
      rw [eT]
      generalize e4 : iLt 8 (m.trees.length : Int) = c4
      cases c4 <;> (conv => whnf)
      rotate_left
      · have : ¬ m.trees.length ≤ 8 := by have : (8 : Int) < m.trees.length := by simpa [iLt] using e4
                                          omega
        simp [yI, this]
      have h4 : decide (m.trees.length ≤ 8) = true := decide_eq_true (by have : ¬ (8 : Int) < m.trees.length := by simpa [iLt] using e4
                                                                         omega)
      have hmo : yI m = (yH m.names m.names 0 && (m.signs.all z1f && m.trees.all fun t => yZ t m.names.length)) := by simp only [yI]; rw [h1, hsg, e3, h4]; rfl
      rw [hmo]
      refine zB hT [1, 3, 4] (α := Nat) (fun k => { t := [(1, .c (.ptr 0 0)), (3, ai m.names.length), (4, ai k)], h := [(0, .box ye (cM m))], n := 1, N := 91 })
        (fun k => k ≤ m.names.length ∧ yH m.names (m.names.drop k) k = yH m.names m.names 0) (fun k => m.names.length - k) 0 (by ((conv => whnf); simp only [eS]); first | done | simp) ⟨Nat.zero_le _, rfl⟩ ?_
      intro k ⟨hk, hi⟩
      conv => whnf
      refine zK (fun g1 => ?_) (fun g1 => ?_) <;> (conv => whnf) <;> simp at g1
      · obtain ⟨s, hs'⟩ := zH g1
        rw [zy hs', yH] at hi
        refine yR hT hmix (by kernel_rfl) ?_
        conv => whnf
        refine zE (by simp) hs' ?_
        conv => whnf
        refine ⟨_, _, wy s (hns s (List.mem_of_getElem? hs')), rfl, ?_⟩
        cases hb : wo s
        · (conv => whnf)
          repeat' (first | (refine And.intro (fun q => ?_) (fun q => ?_) <;> cases q <;> (conv => whnf)) | fail)
          rw [hb] at hi
          have : yH m.names m.names 0 = false := by rw [← hi]; simp
          rw [this]
          conv => whnf
          rfl
        · rw [hb, Bool.true_and] at hi
          conv => whnf
          repeat' (first | (refine And.intro (fun q => ?_) (fun q => ?_) <;> cases q <;> (conv => whnf)) | fail)
          refine And.intro (by simp; omega) ?_
          rw [z73]
          conv => whnf
          repeat' (first | (refine And.intro (fun q => ?_) (fun q => ?_) <;> cases q <;> (conv => whnf)) | fail)
          refine zE (by simp) hs' ?_
          conv => whnf
          repeat' (first | (refine And.intro (fun q => ?_) (fun q => ?_) <;> cases q <;> (conv => whnf)) | fail)
          refine ⟨_, _, z0F (m.names.take k) s (by simp; omega), rfl, ?_⟩
          cases hh : hasS s (m.names.take k)
          · (conv => whnf)
            repeat' (first | (refine And.intro (fun q => ?_) (fun q => ?_) <;> cases q <;> (conv => whnf)) | fail)
            rw [hh] at hi
            refine ⟨k + 1, by omega, ⟨g1, by simpa using hi⟩, ?_⟩
            ((conv => whnf); simp only [eS, wI g1 (by omega)])
          · (conv => whnf)
            repeat' (first | (refine And.intro (fun q => ?_) (fun q => ?_) <;> cases q <;> (conv => whnf)) | fail)
            rw [hh] at hi
            have : yH m.names m.names 0 = false := by rw [← hi]; simp
            rw [this]
            conv => whnf
            rfl
      · obtain rfl : k = m.names.length := by omega
        simp only [List.drop_length, yH] at hi
        rw [← hi, Bool.true_and]
        refine zB hT [1, 3, 5] (α := Nat) (fun k => { t := [(1, .c (.ptr 0 0)), (3, ai m.names.length), (5, ai k)], h := [(0, .box ye (cM m))], n := 1, N := 91 })
          (fun k => k ≤ m.signs.length ∧ (m.signs.drop k).all z1f = m.signs.all z1f) (fun k => m.signs.length - k) 0 (by ((conv => whnf); simp only [eS])) ⟨Nat.zero_le _, rfl⟩ ?_
        intro k ⟨hk2, hj⟩
        conv => whnf
        refine zK (fun g2 => ?_) (fun g2 => ?_) <;> (conv => whnf) <;> simp at g2
        · obtain ⟨x, hx⟩ := zH g2
          rw [zy hx, List.all_cons] at hj
          refine zE (by simp) hx ?_
          conv => whnf
          refine .inl ⟨_, _, _, zM _ _ _, rfl, ?_⟩
          rw [show decide (-1 ≤ x ∧ x ≤ 1) = z1f x from rfl]
          cases hb : z1f x
          · (conv => whnf)
            rw [hb] at hj
            rw [← hj]
            rfl
          · (conv => whnf)
            rw [hb] at hj
            refine ⟨k + 1, by omega, ⟨g2, by simpa using hj⟩, ?_⟩
            ((conv => whnf); simp only [eS, wI g2 (by omega)])
        · obtain rfl : k = m.signs.length := by omega
          simp only [List.drop_length, List.all_nil] at hj
          rw [← hj, Bool.true_and]
          refine zB hT [1, 3, 6] (α := Nat) (fun k => { t := [(1, .c (.ptr 0 0)), (3, ai m.names.length), (6, ai k)], h := [(0, .box ye (cM m))], n := 1, N := 91 })
            (fun k => k ≤ m.trees.length ∧ ((m.trees.drop k).all fun t => yZ t m.names.length) = m.trees.all fun t => yZ t m.names.length) (fun k => m.trees.length - k) 0 (by ((conv => whnf); simp only [eS])) ⟨Nat.zero_le _, rfl⟩ ?_
          intro k ⟨hk3, hl⟩
          conv => whnf
          refine zK (fun g3 => ?_) (fun g3 => ?_) <;> (conv => whnf) <;> simp at g3
          · obtain ⟨t, ht'⟩ := zH g3
            rw [zy ht', List.all_cons] at hl
            refine zE (by simp) ht' ?_
            conv => whnf
            refine .inl ⟨_, _, _, z11 t m.names.length (ht t (List.mem_of_getElem? ht')), rfl, ?_⟩
            cases hb : yZ t m.names.length
            · (conv => whnf)
              rw [hb] at hl
              rw [← hl]
              rfl
            · (conv => whnf)
              rw [hb] at hl
              refine ⟨k + 1, by omega, ⟨g3, by simpa using hl⟩, ?_⟩
              ((conv => whnf); simp only [eS, wI g3 (by omega)])
          · obtain rfl : k = m.trees.length := by omega
            simp only [List.drop_length, List.all_nil] at hl
            rw [← hl]
  · have hsg : (decide (m.signs.length = 0) || decide (m.signs.length = m.names.length)) = true := by
      have : (m.signs.length : Int) = 0 := by simpa [iEq] using e1
      rw [decide_eq_true (show m.signs.length = 0 by omega)]; rfl
    refine .inl ⟨_, _, _, yh _, rfl, ?_⟩
    conv => whnf
    generalize e3 : decide (-2147483647 ≤ m.base ∧ m.base ≤ 2147483647) = c3
    cases c3 <;> (conv => whnf)
    · simp [yI, e3]
    rw [eT]
    generalize e4 : iLt 8 (m.trees.length : Int) = c4
    cases c4 <;> (conv => whnf)
    rotate_left
    · have : ¬ m.trees.length ≤ 8 := by have : (8 : Int) < m.trees.length := by simpa [iLt] using e4
                                        omega
      simp [yI, this]
    have h4 : decide (m.trees.length ≤ 8) = true := decide_eq_true (by have : ¬ (8 : Int) < m.trees.length := by simpa [iLt] using e4
                                                                       omega)
    have hmo : yI m = (yH m.names m.names 0 && (m.signs.all z1f && m.trees.all fun t => yZ t m.names.length)) := by simp only [yI]; rw [h1, hsg, e3, h4]; rfl
    rw [hmo]
    refine zB hT [1, 3, 4] (α := Nat) (fun k => { t := [(1, .c (.ptr 0 0)), (3, ai m.names.length), (4, ai k)], h := [(0, .box ye (cM m))], n := 1, N := 91 })
      (fun k => k ≤ m.names.length ∧ yH m.names (m.names.drop k) k = yH m.names m.names 0) (fun k => m.names.length - k) 0 (by ((conv => whnf); simp only [eS]); first | done | simp) ⟨Nat.zero_le _, rfl⟩ ?_
    intro k ⟨hk, hi⟩
    conv => whnf
    refine zK (fun g1 => ?_) (fun g1 => ?_) <;> (conv => whnf) <;> simp at g1
    · obtain ⟨s, hs'⟩ := zH g1
      rw [zy hs', yH] at hi
      refine yR hT hmix (by kernel_rfl) ?_
      conv => whnf
      refine zE (by simp) hs' ?_
      conv => whnf
      refine ⟨_, _, wy s (hns s (List.mem_of_getElem? hs')), rfl, ?_⟩
      cases hb : wo s
      · (conv => whnf)
        repeat' (first | (refine And.intro (fun q => ?_) (fun q => ?_) <;> cases q <;> (conv => whnf)) | fail)
        rw [hb] at hi
        have : yH m.names m.names 0 = false := by rw [← hi]; simp
        rw [this]
        conv => whnf
        rfl
      · rw [hb, Bool.true_and] at hi
        conv => whnf
        repeat' (first | (refine And.intro (fun q => ?_) (fun q => ?_) <;> cases q <;> (conv => whnf)) | fail)
        refine And.intro (by simp; omega) ?_
        rw [z73]
        conv => whnf
        repeat' (first | (refine And.intro (fun q => ?_) (fun q => ?_) <;> cases q <;> (conv => whnf)) | fail)
        refine zE (by simp) hs' ?_
        conv => whnf
        repeat' (first | (refine And.intro (fun q => ?_) (fun q => ?_) <;> cases q <;> (conv => whnf)) | fail)
        refine ⟨_, _, z0F (m.names.take k) s (by simp; omega), rfl, ?_⟩
        cases hh : hasS s (m.names.take k)
        · (conv => whnf)
          repeat' (first | (refine And.intro (fun q => ?_) (fun q => ?_) <;> cases q <;> (conv => whnf)) | fail)
          rw [hh] at hi
          refine ⟨k + 1, by omega, ⟨g1, by simpa using hi⟩, ?_⟩
          ((conv => whnf); simp only [eS, wI g1 (by omega)])
        · (conv => whnf)
          repeat' (first | (refine And.intro (fun q => ?_) (fun q => ?_) <;> cases q <;> (conv => whnf)) | fail)
          rw [hh] at hi
          have : yH m.names m.names 0 = false := by rw [← hi]; simp
          rw [this]
          conv => whnf
          rfl
    · obtain rfl : k = m.names.length := by omega
      simp only [List.drop_length, yH] at hi
      rw [← hi, Bool.true_and]
      refine zB hT [1, 3, 5] (α := Nat) (fun k => { t := [(1, .c (.ptr 0 0)), (3, ai m.names.length), (5, ai k)], h := [(0, .box ye (cM m))], n := 1, N := 91 })
        (fun k => k ≤ m.signs.length ∧ (m.signs.drop k).all z1f = m.signs.all z1f) (fun k => m.signs.length - k) 0 (by ((conv => whnf); simp only [eS])) ⟨Nat.zero_le _, rfl⟩ ?_
      intro k ⟨hk2, hj⟩
      conv => whnf
      refine zK (fun g2 => ?_) (fun g2 => ?_) <;> (conv => whnf) <;> simp at g2
      · obtain ⟨x, hx⟩ := zH g2
        rw [zy hx, List.all_cons] at hj
        refine zE (by simp) hx ?_
        conv => whnf
        refine .inl ⟨_, _, _, zM _ _ _, rfl, ?_⟩
        rw [show decide (-1 ≤ x ∧ x ≤ 1) = z1f x from rfl]
        cases hb : z1f x
        · (conv => whnf)
          rw [hb] at hj
          rw [← hj]
          rfl
        · (conv => whnf)
          rw [hb] at hj
          refine ⟨k + 1, by omega, ⟨g2, by simpa using hj⟩, ?_⟩
          ((conv => whnf); simp only [eS, wI g2 (by omega)])
      · obtain rfl : k = m.signs.length := by omega
        simp only [List.drop_length, List.all_nil] at hj
        rw [← hj, Bool.true_and]
        refine zB hT [1, 3, 6] (α := Nat) (fun k => { t := [(1, .c (.ptr 0 0)), (3, ai m.names.length), (6, ai k)], h := [(0, .box ye (cM m))], n := 1, N := 91 })
          (fun k => k ≤ m.trees.length ∧ ((m.trees.drop k).all fun t => yZ t m.names.length) = m.trees.all fun t => yZ t m.names.length) (fun k => m.trees.length - k) 0 (by ((conv => whnf); simp only [eS])) ⟨Nat.zero_le _, rfl⟩ ?_
        intro k ⟨hk3, hl⟩
        conv => whnf
        refine zK (fun g3 => ?_) (fun g3 => ?_) <;> (conv => whnf) <;> simp at g3
        · obtain ⟨t, ht'⟩ := zH g3
          rw [zy ht', List.all_cons] at hl
          refine zE (by simp) ht' ?_
          conv => whnf
          refine .inl ⟨_, _, _, z11 t m.names.length (ht t (List.mem_of_getElem? ht')), rfl, ?_⟩
          cases hb : yZ t m.names.length
          · (conv => whnf)
            rw [hb] at hl
            rw [← hl]
            rfl
          · (conv => whnf)
            rw [hb] at hl
            refine ⟨k + 1, by omega, ⟨g3, by simpa using hl⟩, ?_⟩
            ((conv => whnf); simp only [eS, wI g3 (by omega)])
        · obtain rfl : k = m.trees.length := by omega
          simp only [List.drop_length, List.all_nil] at hl
          rw [← hl]
theorem zEU {α : Type} (p : α → Bool) (l : List α) : (l.any fun x => bNot (p x)) = !l.all p := by
 induction l with
 | nil => rfl
 | cons x r ih => rw [List.any_cons, List.all_cons, ih, Bool.not_and]; rfl
set_option maxHeartbeats 1000000 in
theorem z7m (m : Mdl) (hn : m.names.length ≤ 1048576) (hns : ∀ s ∈ m.names, s.size ≤ 9223372036854775807) (hs : m.signs.length ≤ 1048576) (hm : m.trees.length ≤ 1048576) (ht : ∀ t ∈ m.trees, t.length ≤ 1048576) : z6 PR zBt [aM m] (ab (yI m)) [] 0 := by
  have eSi : nInt (dLen (eL cI m.signs)) = (m.signs.length : Int) := by simp
  have eN : nInt (dLen (eL cS m.names)) = (m.names.length : Int) := by simp
  have eT : nInt (dLen (eL cT m.trees)) = (m.trees.length : Int) := by simp
  refine z6.intro hT (pf Tryz.func246) rfl (by kernel_rfl) Tryz.ntmps246 rfl ?_
  conv => whnf
  rw [eN]
  refine .inl ⟨_, _, _, zG _ _ _, rfl, ?_⟩
  conv => whnf
  refine zK (fun h1 => ?_) (fun h1 => ?_) <;> (conv => whnf) <;> simp only [eH] at h1
  · have : decide (1 ≤ (m.names.length : Int) ∧ (m.names.length : Int) ≤ 4) = false := by simpa using h1
    simp [yI, this]
  refine .inl ⟨_, _, _, z2F m.names hn hns, rfl, ?_⟩
  cases hnm : yH m.names m.names 0
  · (conv => whnf)
    simp [yI, hnm]
  conv => whnf
  rw [eSi]
  generalize e1 : iEq (m.signs.length : Int) 0 = c1
  cases c1 <;> (conv => whnf)
  · rw [eSi]
    generalize e2 : iEq (m.signs.length : Int) (m.names.length : Int) = c2
    have h0 : ¬ m.signs.length = 0 := by intro h; rw [h] at e1; simp [iEq] at e1
    cases c2 <;> (conv => whnf)
    · have : ¬ m.signs.length = m.names.length := by intro h; rw [h] at e2; simp [iEq] at e2
      simp [yI, h0, this]
    · have hsg : (decide (m.signs.length = 0) || decide (m.signs.length = m.names.length)) = true := by
        have : (m.signs.length : Int) = m.names.length := by simpa [iEq] using e2
        rw [decide_eq_true (show m.signs.length = m.names.length by omega)]; simp
      refine .inl ⟨_, _, _, y6 m.signs z1E (fun x => bNot (z1f x)) (fun x _ => z1o x) (by omega), rfl, ?_⟩
      rw [zEU]
      cases hsa : m.signs.all z1f
      rotate_left
      · (conv => whnf)
        refine .inl ⟨_, _, _, wD _, rfl, ?_⟩
        conv => whnf
        generalize e3 : decide (-2147483647 ≤ m.base ∧ m.base ≤ 2147483647) = c3
        cases c3 <;> (conv => whnf)
        · simp [yI, e3]
        rw [eT]
        generalize e4 : iLe (m.trees.length : Int) 8 = c4
        cases c4 <;> (conv => whnf)
        · have : ¬ m.trees.length ≤ 8 := by have : ¬ (m.trees.length : Int) ≤ 8 := by simpa [iLe] using e4
                                            omega
          simp [yI, this]
        have h4 : decide (m.trees.length ≤ 8) = true := decide_eq_true (by have : (m.trees.length : Int) ≤ 8 := by simpa [iLe] using e4
                                                                           omega)
        refine .inr (.inl ⟨_, _, _, yO m.trees z1D (.rp [.int .i64 m.names.length]) (fun t => bNot (yZ t m.names.length)) (fun t htm => z1n t m.names.length (ht t htm)) (by omega), rfl, trivial, ?_⟩)
        rw [zEU]
        conv => whnf
        have hmo : yI m = m.trees.all fun t => yZ t m.names.length := by simp only [yI]; rw [h1, hsg, e3, h4, hnm, hsa]; rfl
        rw [hmo]
        simp [bNot]
      · (conv => whnf)
        simp [yI, hsa]
  · have hsg : (decide (m.signs.length = 0) || decide (m.signs.length = m.names.length)) = true := by
      have : (m.signs.length : Int) = 0 := by simpa [iEq] using e1
      rw [decide_eq_true (show m.signs.length = 0 by omega)]; rfl
    refine .inl ⟨_, _, _, y6 m.signs z1E (fun x => bNot (z1f x)) (fun x _ => z1o x) (by omega), rfl, ?_⟩
    rw [zEU]
    cases hsa : m.signs.all z1f
    rotate_left
    · (conv => whnf)
      refine .inl ⟨_, _, _, wD _, rfl, ?_⟩
      conv => whnf
      generalize e3 : decide (-2147483647 ≤ m.base ∧ m.base ≤ 2147483647) = c3
      cases c3 <;> (conv => whnf)
      · simp [yI, e3]
      rw [eT]
      generalize e4 : iLe (m.trees.length : Int) 8 = c4
      cases c4 <;> (conv => whnf)
      · have : ¬ m.trees.length ≤ 8 := by have : ¬ (m.trees.length : Int) ≤ 8 := by simpa [iLe] using e4
                                          omega
        simp [yI, this]
      have h4 : decide (m.trees.length ≤ 8) = true := decide_eq_true (by have : (m.trees.length : Int) ≤ 8 := by simpa [iLe] using e4
                                                                         omega)
      refine .inr (.inl ⟨_, _, _, yO m.trees z1D (.rp [.int .i64 m.names.length]) (fun t => bNot (yZ t m.names.length)) (fun t htm => z1n t m.names.length (ht t htm)) (by omega), rfl, trivial, ?_⟩)
      rw [zEU]
      conv => whnf
      have hmo : yI m = m.trees.all fun t => yZ t m.names.length := by simp only [yI]; rw [h1, hsg, e3, h4, hnm, hsa]; rfl
      rw [hmo]
      simp [bNot]
    · (conv => whnf)
      simp [yI, hsa]
end Go.H.S
namespace Go.H.S
open Go Go.Proofs Go.H
attribute [local irreducible] Tri z6 zV zU zj
abbrev cB (b : Int × Int) : List CV := [.d (.int .i64 b.1), .d (.int .i64 b.2)]
abbrev aB (b : Int × Int) : AV := .agg (cB b)
def yU (b : Int × Int) : Prop := b.1 ≤ b.2 ∧ (-1099511627776 ≤ b.1 ∧ b.1 ≤ 1099511627776) ∧ (-1099511627776 ≤ b.2 ∧ b.2 ≤ 1099511627776)
instance (b : Int × Int) : Decidable (yU b) := by unfold yU; infer_instance
theorem z2t (b : Int × Int) : z6 PR zBz [aB b] (ab (decide (yU b))) [] 0 := by
 refine z6.intro hT (pf Tryz.func215) rfl (by kernel_rfl) Tryz.ntmps215 rfl ?_
 conv => whnf
 cases h1 : iLe b.1 b.2
 ·conv => whnf
  rw [decide_eq_false (fun q : yU b => by have := q.1; simp at h1; omega)]
 conv => whnf
 simp at h1
 refine .inl ⟨_, _, _, yz b.1, rfl, ?_⟩
 cases h2 : decide (-1099511627776 ≤ b.1 ∧ b.1 ≤ 1099511627776)
 ·conv => whnf
  rw [decide_eq_false_iff_not] at h2
  rw [decide_eq_false (fun q : yU b => h2 q.2.1)]
 conv => whnf
 rw [decide_eq_true_iff] at h2
 refine .inl ⟨_, _, _, yz b.2, rfl, ?_⟩
 conv => whnf
 rw [decide_eq_decide.2 (show yU b ↔ (-1099511627776 ≤ b.2 ∧ b.2 ≤ 1099511627776) from ⟨fun q => q.2.2, fun q => ⟨by omega, h2, q⟩⟩)]
theorem z2i (b : Int × Int) : z6 PR zBj [aB b] (ab (decide (yU b))) [] 0 := by
 refine z6.intro hT (pf Tryz.func42) rfl (by kernel_rfl) Tryz.ntmps42 rfl ?_
 conv => whnf
 cases h1 : iLe b.1 b.2
 ·conv => whnf
  rw [decide_eq_false (fun q : yU b => by have := q.1; simp at h1; omega)]
 conv => whnf
 simp at h1
 refine .inl ⟨_, _, _, wh b.1, rfl, ?_⟩
 cases h2 : decide (-1099511627776 ≤ b.1 ∧ b.1 ≤ 1099511627776)
 ·conv => whnf
  rw [decide_eq_false_iff_not] at h2
  rw [decide_eq_false (fun q : yU b => h2 q.2.1)]
 conv => whnf
 rw [decide_eq_true_iff] at h2
 refine .inl ⟨_, _, _, wh b.2, rfl, ?_⟩
 conv => whnf
 rw [decide_eq_decide.2 (show yU b ↔ (-1099511627776 ≤ b.2 ∧ b.2 ≤ 1099511627776) from ⟨fun q => q.2.2, fun q => ⟨by omega, h2, q⟩⟩)]
theorem z7p (a b : Int) (ha : -4611686018427387904 ≤ a ∧ a ≤ 4611686018427387903) (hb : -4611686018427387904 ≤ b ∧ b ≤ 4611686018427387903) : z6 PR zBw [ai a, ai b] (ai ((a + b) / 2)) [] 0 := by
 refine z6.intro hT (pf Tryz.func227) rfl (by kernel_rfl) Tryz.ntmps227 rfl ?_
 conv => whnf
 refine And.intro (by unfold NN; omega) ?_
 conv => whnf
 refine And.intro (by unfold NN; omega) ?_
 conv => whnf
 rw [zIz ha hb]
theorem z7N (a b : Int) (ha : -4611686018427387904 ≤ a ∧ a ≤ 4611686018427387903) (hb : -4611686018427387904 ≤ b ∧ b ≤ 4611686018427387903) : z6 PR zBf [ai a, ai b] (ai ((a + b) / 2)) [] 0 := by
 refine z6.intro hT (pf Tryz.func228) rfl (by kernel_rfl) Tryz.ntmps228 rfl ?_
 conv => whnf
 refine And.intro (by unfold NN; omega) ?_
 conv => whnf
 rw [zIy ha hb]
abbrev z5z (x : Int) (b : Bool) : AV := .tup [(false, [.d (.int .i64 x)]), (false, [.d (.bool b)])]
theorem zCV {a b : Int} (hb : 1 ≤ b) : a / b = a.tdiv b - (if a.tmod b ≠ 0 ∧ a < 0 then 1 else 0) := by
 rw [Int.tdiv_eq_ediv]
 have h0 : b ∣ a ↔ a.tmod b = 0 := ⟨fun h => Int.tmod_eq_zero_of_dvd h, fun h => Int.dvd_of_tmod_eq_zero h⟩
 have hs : b.sign = 1 := Int.sign_eq_one_of_pos (by omega)
 rw [hs]
 by_cases h1 : 0 ≤ a <;> by_cases h2 : b ∣ a
 ·rw [if_pos (.inl h1), if_neg (by omega)]; omega
 ·rw [if_pos (.inl h1), if_neg (by omega)]; omega
 ·rw [if_pos (.inr h2), if_neg (fun q => q.1 (h0.1 h2))]; omega
 ·rw [if_neg (by rintro (q | q); exact h1 q; exact h2 q), if_pos ⟨fun q => h2 (h0.2 q), by omega⟩]; omega
theorem z7C {a b : Int} (ha : -4611686018427387904 ≤ a ∧ a ≤ 4611686018427387903) (hb : 1 ≤ b) : -4611686018427387904 ≤ a.tdiv b ∧ a.tdiv b ≤ 4611686018427387904 := by
 have h1 := Int.natAbs_tdiv_le_natAbs a b
 omega
theorem z4S {a b : Int} (ha : -4611686018427387904 ≤ a ∧ a ≤ 4611686018427387903) (hb : 1 ≤ b) : wQuo .i64 a b = a.tdiv b := by
 have := z7C ha hb
 unfold wQuo
 exact z8F (by omega) (by omega)
theorem z0K (a b : Int) (ha : -4611686018427387904 ≤ a ∧ a ≤ 4611686018427387903) (hb : 1 ≤ b ∧ b ≤ 1000000) : z6 PR zAk [ai a, ai b] (z5z (a / b) true) [] 0 := by
 refine z6.intro hT (pf Tryz.func216) rfl (by kernel_rfl) Tryz.ntmps216 rfl ?_
 conv => whnf
 rw [show iEq b 0 = false from decide_eq_false (by omega)]
 conv => whnf
 rw [show iEq a (-9223372036854775808) = false from decide_eq_false (by omega)]
 conv => whnf
 refine And.intro (by unfold NZ; omega) ?_
 conv => whnf
 refine And.intro (by unfold NZ; omega) ?_
 conv => whnf
 rw [zCV hb.1]
 have hq := z4S ha hb.1
 have hd := z7C (b := b) ha hb.1
 have hm : wRem a b = a.tmod b := by unfold wRem; rfl
 rw [hq, hm]
 by_cases h1 : a.tmod b = 0
 ·rw [show iEq (a.tmod b) 0 = true from decide_eq_true h1]
  conv => whnf
  rw [if_neg (fun q => q.1 h1), Int.sub_zero]
 ·rw [show iEq (a.tmod b) 0 = false from decide_eq_false h1]
  conv => whnf
  rw [show iLt b 0 = false from decide_eq_false (by omega)]
  conv => whnf
  by_cases h2 : a < 0
  ·rw [show iLt a 0 = true from decide_eq_true h2]
   conv => whnf
   rw [if_pos ⟨h1, h2⟩, yB] <;> omega
  ·rw [show iLt a 0 = false from decide_eq_false h2]
   conv => whnf
   rw [if_neg (fun q => h2 q.2), Int.sub_zero]
theorem z0G (a b : Int) (ha : -4611686018427387904 ≤ a ∧ a ≤ 4611686018427387903) (hb : 1 ≤ b ∧ b ≤ 1000000) : z6 PR zAY [ai a, ai b] (z5z (a / b) true) [] 0 := by
 refine z6.intro hT (pf Tryz.func207) rfl (by kernel_rfl) Tryz.ntmps207 rfl ?_
 conv => whnf
 rw [show iEq b 0 = false from decide_eq_false (by omega)]
 conv => whnf
 rw [show iEq b (-1) = false from decide_eq_false (by omega)]
 conv => whnf
 refine And.intro (by unfold NZ; omega) ?_
 conv => whnf
 refine And.intro (by unfold NZ; omega) ?_
 conv => whnf
 rw [zCV hb.1]
 have hq := z4S ha hb.1
 have hd := z7C (b := b) ha hb.1
 have hm : wRem a b = a.tmod b := by unfold wRem; rfl
 rw [hq, hm]
 by_cases h1 : a.tmod b = 0
 ·rw [show iEq (a.tmod b) 0 = true from decide_eq_true h1]
  conv => whnf
  rw [if_neg (fun q => q.1 h1), Int.sub_zero]
 ·rw [show iEq (a.tmod b) 0 = false from decide_eq_false h1]
  conv => whnf
  rw [show iLt b 0 = false from decide_eq_false (by omega)]
  conv => whnf
  by_cases h2 : a < 0
  ·rw [show iLt a 0 = true from decide_eq_true h2]
   conv => whnf
   rw [if_pos ⟨h1, h2⟩, yB] <;> omega
  ·rw [show iLt a 0 = false from decide_eq_false h2]
   conv => whnf
   rw [if_neg (fun q => h2 q.2), Int.sub_zero]
theorem zBI : z6 PR zG8 [] (aB (-1099511627776, 1099511627776)) [] 0 := by
 refine z6.intro hT (pf Tryz.func106) rfl (by kernel_rfl) Tryz.ntmps106 rfl ?_
 conv => whnf
theorem zBC : z6 PR zG6 [] (aB (-1099511627776, 1099511627776)) [] 0 := by
 refine z6.intro hT (pf Tryz.func113) rfl (by kernel_rfl) Tryz.ntmps113 rfl ?_
 conv => whnf
def yj (c : Cfg) (f : Int) : Int := if 0 ≤ f ∧ f ≤ (c.signs.length : Int) - 1 then (c.signs[f.toNat]?).getD 0 else 0
theorem z2r (c : Cfg) (f : Int) (hc : c.signs.length ≤ 1048576) : z6 PR zBp [aCf c, ai f] (ai (yj c f)) [] 0 := by
 refine z6.intro hT (pf Tryz.func109) rfl (by kernel_rfl) Tryz.ntmps109 rfl ?_
 conv => whnf
 refine .inl ⟨_, _, _, zG _ _ _, rfl, ?_⟩
 conv => whnf
 rw [show wSub .i64 (nInt (dLen (eL cI c.signs))) 1 = (c.signs.length : Int) - 1 from by rw [show nInt (dLen (eL cI c.signs)) = (c.signs.length : Int) by simp, yB] <;> omega]
 unfold yj
 by_cases h : 0 ≤ f ∧ f ≤ (c.signs.length : Int) - 1
 ·rw [decide_eq_true h, if_pos h]
  conv => whnf
  obtain ⟨x, hx⟩ := zH (show f.toNat < c.signs.length by omega)
  refine zE (show f = (f.toNat : Int) by omega) hx ?_
  conv => whnf
  rw [hx]; rfl
 ·rw [decide_eq_false h, if_neg h]
  conv => whnf
theorem z2d (c : Cfg) (f : Int) (hc : c.signs.length ≤ 1048576) : z6 PR zBY [aCf c, ai f] (ai (yj c f)) [] 0 := by
 refine z6.intro hT (pf Tryz.func117) rfl (by kernel_rfl) Tryz.ntmps117 rfl ?_
 conv => whnf
 refine .inl ⟨_, _, _, zM _ _ _, rfl, ?_⟩
 conv => whnf
 rw [show wSub .i64 (nInt (dLen (eL cI c.signs))) 1 = (c.signs.length : Int) - 1 from by rw [show nInt (dLen (eL cI c.signs)) = (c.signs.length : Int) by simp, yB] <;> omega]
 unfold yj
 by_cases h : 0 ≤ f ∧ f ≤ (c.signs.length : Int) - 1
 ·rw [decide_eq_true h, if_pos h]
  conv => whnf
  obtain ⟨x, hx⟩ := zH (show f.toNat < c.signs.length by omega)
  refine zE (show f = (f.toNat : Int) by omega) hx ?_
  conv => whnf
  rw [hx]; rfl
 ·rw [decide_eq_false h, if_neg h]
  conv => whnf
def z3k (n s lam : Int) (b : Int × Int) : Int := z1F (s / (n + lam)) b.1 b.2
theorem z6U {n s lam : Int} {b : Int × Int} (h : b.1 ≤ b.2) : b.1 ≤ z3k n s lam b ∧ z3k n s lam b ≤ b.2 := by
 unfold z3k z1F
 split
 ·omega
 ·split <;> omega
theorem z2p (n lam : Int) : z6 PR zBm [ai n, ai lam] (ab (decide (0 ≤ n ∧ n ≤ 40) && decide (1 ≤ lam ∧ lam ≤ 100))) [] 0 := by
 refine z6.intro hT (pf Tryz.func214) rfl (by kernel_rfl) Tryz.ntmps214 rfl ?_
 conv => whnf
 refine .inl ⟨_, _, _, zG _ _ _, rfl, ?_⟩
 cases h : decide (0 ≤ n ∧ n ≤ 40)
 ·conv => whnf
  rfl
 conv => whnf
 refine .inl ⟨_, _, _, zG _ _ _, rfl, ?_⟩
 conv => whnf
 rw [Bool.true_and]
theorem z00 (n s lam : Int) (b : Int × Int) (hn : 0 ≤ n ∧ n ≤ 40) (hl : 1 ≤ lam ∧ lam ≤ 100) (hs : -4611686018427387904 ≤ s ∧ s ≤ 4611686018427387903) (hb : yU b) :
  z6 PR zE4 [aB (n, s), ai lam, aB b] (z5z (z3k n s lam b) true) [] 0 := by
 refine z6.intro hT (pf Tryz.func98) rfl (by kernel_rfl) Tryz.ntmps98 rfl ?_
 conv => whnf
 refine .inl ⟨_, _, _, z2p n lam, rfl, ?_⟩
 rw [decide_eq_true hn, decide_eq_true hl]
 conv => whnf
 refine .inl ⟨_, _, _, z2t b, rfl, ?_⟩
 rw [decide_eq_true hb]
 conv => whnf
 rw [show wAdd .i64 n lam = n + lam from by rw [y1] <;> omega]
 refine .inl ⟨_, _, _, z0K s (n + lam) hs (by omega), rfl, ?_⟩
 conv => whnf
 refine .inl ⟨_, _, _, z2s _ _ _, rfl, ?_⟩
 conv => whnf
 rfl
theorem wz (n s lam : Int) (b : Int × Int) (hn : 0 ≤ n ∧ n ≤ 40) (hl : 1 ≤ lam ∧ lam ≤ 100) (hs : -4611686018427387904 ≤ s ∧ s ≤ 4611686018427387903) (hb : yU b) :
  z6 PR zDd [aB (n, s), ai lam, aB b] (z5z (z3k n s lam b) true) [] 0 := by
 refine z6.intro hT (pf Tryz.func90) rfl (by kernel_rfl) Tryz.ntmps90 rfl ?_
 conv => whnf
 refine .inl ⟨_, _, _, zM _ _ _, rfl, ?_⟩
 rw [decide_eq_true hn]
 conv => whnf
 refine .inl ⟨_, _, _, zM _ _ _, rfl, ?_⟩
 rw [decide_eq_true hl]
 conv => whnf
 refine .inl ⟨_, _, _, z2i b, rfl, ?_⟩
 rw [decide_eq_true hb]
 conv => whnf
 rw [show wAdd .i64 n lam = n + lam from by rw [y1] <;> omega]
 refine .inl ⟨_, _, _, z0G s (n + lam) hs (by omega), rfl, ?_⟩
 conv => whnf
 refine .inl ⟨_, _, _, z2h _ _ _, rfl, ?_⟩
 conv => whnf
 rfl
def midV (p q : Int) (b : Int × Int) : Int := z1F ((p + q) / 2) b.1 b.2
theorem zLT {p q : Int} {b : Int × Int} (h : b.1 ≤ b.2) : b.1 ≤ midV p q b ∧ midV p q b ≤ b.2 := by
 unfold midV z1F
 split
 ·omega
 ·split <;> omega
def wH (sign : Int) (b : Int × Int) (p q : Int) : (Int × Int) × (Int × Int) :=
 if sign = 1 then ((b.1, midV p q b), (midV p q b, b.2)) else if sign = -1 then ((midV p q b, b.2), (b.1, midV p q b)) else (b, b)
theorem zIH {sign : Int} {b : Int × Int} {p q : Int} (hb : yU b) : yU (wH sign b p q).1 ∧ yU (wH sign b p q).2 := by
 have hm := zLT (p := p) (q := q) hb.1
 have hb' := hb
 unfold yU at hb'
 unfold wH
 split
 ·unfold yU; dsimp only; omega
 ·split
  ·unfold yU; dsimp only; omega
  ·exact ⟨hb, hb⟩
abbrev tupBB (x : (Int × Int) × (Int × Int)) : AV := .tup [(true, cB x.1), (true, cB x.2)]
theorem z7J (sign : Int) (b : Int × Int) (p q : Int) (hb : yU b) (hp : -1099511627776 ≤ p ∧ p ≤ 1099511627776) (hq : -1099511627776 ≤ q ∧ q ≤ 1099511627776) :
  z6 PR zBZ [ai sign, aB b, ai p, ai q] (tupBB (wH sign b p q)) [] 0 := by
 refine z6.intro hT (pf Tryz.func116) rfl (by kernel_rfl) Tryz.ntmps116 rfl ?_
 conv => whnf
 refine .inl ⟨_, _, _, z2i b, rfl, ?_⟩
 rw [decide_eq_true hb]
 conv => whnf
 refine zZ 0 ?_
 conv => whnf
 refine zO hT hmix [0, 5, 8, 9, 10] { t := [(0, ai sign), (5, .c (.d (.rp [.int .i64 b.1, .int .i64 b.2]))), (8, .c (.ptr 0 0)), (9, .c (.ptr 1 0)), (10, ai (midV p q b))], h := [(0, .box zm (cB (0, 0))), (1, .box zm (cB (0, 0)))], n := 2, N := 47 } rfl ?_ ?_
 ·repeat' first
   | (refine zR rfl ?_; (conv => whnf))
   | (refine zQ rfl ?_ ?_ <;> (conv => whnf))
   | (refine .inl ⟨_, _, _, z7N p q (by omega) (by omega), rfl, ?_⟩; (conv => whnf))
   | (refine .inl ⟨_, _, _, z2h _ _ _, rfl, ?_⟩; (conv => whnf))
   | (refine zP rfl ?_; (conv => whnf); first | done | rfl)
 conv => whnf
 unfold wH
 by_cases h1 : sign = 1
 ·rw [show iEq sign 1 = true from decide_eq_true h1, if_pos h1]
  conv => whnf
  refine zO hT hmix [8, 9] { t := [(8, .c (.ptr 0 0)), (9, .c (.ptr 1 0))], h := [(0, .box zm (cB (b.1, midV p q b))), (1, .box zm (cB (midV p q b, b.2)))], n := 2, N := 47 } rfl ?_ ?_
  ·repeat' first
    | (refine zR rfl ?_; (conv => whnf))
    | (refine zQ rfl ?_ ?_ <;> (conv => whnf))
    | (refine zC rfl ?_ ?_ ?_ <;> (conv => whnf))
    | (refine zo rfl ?_ ?_ ?_ ?_ <;> (conv => whnf))
    | (refine zP rfl ?_; (conv => whnf); first | done | rfl)
  conv => whnf
 rw [show iEq sign 1 = false from decide_eq_false h1, if_neg h1]
 conv => whnf
 by_cases h2 : sign = -1
 ·rw [show iEq sign (-1) = true from decide_eq_true h2, if_pos h2]
  conv => whnf
  refine zO hT hmix [8, 9] { t := [(8, .c (.ptr 0 0)), (9, .c (.ptr 1 0))], h := [(0, .box zm (cB (midV p q b, b.2))), (1, .box zm (cB (b.1, midV p q b)))], n := 2, N := 47 } rfl ?_ ?_
  ·repeat' first
    | (refine zR rfl ?_; (conv => whnf))
    | (refine zQ rfl ?_ ?_ <;> (conv => whnf))
    | (refine zC rfl ?_ ?_ ?_ <;> (conv => whnf))
    | (refine zo rfl ?_ ?_ ?_ ?_ <;> (conv => whnf))
    | (refine zP rfl ?_; (conv => whnf); first | done | rfl)
  conv => whnf
 rw [show iEq sign (-1) = false from decide_eq_false h2, if_neg h2]
 conv => whnf
 refine zO hT hmix [8, 9] { t := [(8, .c (.ptr 0 0)), (9, .c (.ptr 1 0))], h := [(0, .box zm (cB b)), (1, .box zm (cB b))], n := 2, N := 47 } rfl ?_ ?_
 ·repeat' first
   | (refine zR rfl ?_; (conv => whnf))
   | (refine zQ rfl ?_ ?_ <;> (conv => whnf))
   | (refine zC rfl ?_ ?_ ?_ <;> (conv => whnf))
   | (refine zo rfl ?_ ?_ ?_ ?_ <;> (conv => whnf))
   | (refine zP rfl ?_; (conv => whnf); first | done | rfl)
 conv => whnf
theorem z7j (sign : Int) (b : Int × Int) (p q : Int) (hb : yU b) (hp : -1099511627776 ≤ p ∧ p ≤ 1099511627776) (hq : -1099511627776 ≤ q ∧ q ≤ 1099511627776) :
  z6 PR zBq [ai sign, aB b, ai p, ai q] (tupBB (wH sign b p q)) [] 0 := by
 refine z6.intro hT (pf Tryz.func108) rfl (by kernel_rfl) Tryz.ntmps108 rfl ?_
 conv => whnf
 refine zZ 0 ?_
 conv => whnf
 refine zO hT hmix [0, 5, 8, 9, 10] { t := [(0, ai sign), (5, .c (.d (.rp [.int .i64 b.1, .int .i64 b.2]))), (8, .c (.ptr 0 0)), (9, .c (.ptr 1 0)), (10, ai (midV p q b))], h := [(0, .box zm (cB (0, 0))), (1, .box zm (cB (0, 0)))], n := 2, N := 47 } rfl ?_ ?_
 ·repeat' first
   | (refine zR rfl ?_; (conv => whnf))
   | (refine zQ rfl ?_ ?_ <;> (conv => whnf))
   | (refine .inl ⟨_, _, _, z7p p q (by omega) (by omega), rfl, ?_⟩; (conv => whnf))
   | (refine .inl ⟨_, _, _, z2s _ _ _, rfl, ?_⟩; (conv => whnf))
   | (refine zP rfl ?_; (conv => whnf); first | done | rfl)
 conv => whnf
 refine zO hT hmix [0, 5, 8, 9, 11, 12] { t := [(0, ai sign), (5, .c (.d (.rp [.int .i64 b.1, .int .i64 b.2]))), (8, .c (.ptr 0 0)), (9, .c (.ptr 1 0)), (11, .c (.ptr 2 0)), (12, .c (.ptr 3 0))], h := [(0, .box zm (cB (0, 0))), (1, .box zm (cB (0, 0))), (2, .box zm (cB (b.1, midV p q b))), (3, .box zm (cB (midV p q b, b.2)))], n := 4, N := 47 } rfl ?_ ?_
 ·repeat' first
   | (refine zR rfl ?_; (conv => whnf))
   | (refine zQ rfl ?_ ?_ <;> (conv => whnf))
   | (refine zC rfl ?_ ?_ ?_ <;> (conv => whnf))
   | (refine zo rfl ?_ ?_ ?_ ?_ <;> (conv => whnf))
   | (refine zP rfl ?_; (conv => whnf); first | done | rfl)
 conv => whnf
 refine .inl ⟨_, _, _, z2t b, rfl, ?_⟩
 rw [decide_eq_true hb]
 conv => whnf
 unfold wH
 by_cases h1 : sign = 1
 ·rw [show iEq sign 1 = true from decide_eq_true h1, if_pos h1]
  conv => whnf
  refine zO hT hmix [8, 9] { t := [(8, .c (.ptr 0 0)), (9, .c (.ptr 1 0))], h := [(0, .box zm (cB (b.1, midV p q b))), (1, .box zm (cB (midV p q b, b.2)))], n := 2, N := 47 } rfl ?_ ?_
  ·repeat' first
    | (refine zR rfl ?_; (conv => whnf))
    | (refine zQ rfl ?_ ?_ <;> (conv => whnf))
    | (refine zC rfl ?_ ?_ ?_ <;> (conv => whnf))
    | (refine zo rfl ?_ ?_ ?_ ?_ <;> (conv => whnf))
    | (refine zP rfl ?_; (conv => whnf); first | done | rfl)
  conv => whnf
 rw [show iEq sign 1 = false from decide_eq_false h1, if_neg h1]
 conv => whnf
 by_cases h2 : sign = -1
 ·rw [show iEq sign (-1) = true from decide_eq_true h2, if_pos h2]
  conv => whnf
  refine zO hT hmix [8, 9] { t := [(8, .c (.ptr 0 0)), (9, .c (.ptr 1 0))], h := [(0, .box zm (cB (midV p q b, b.2))), (1, .box zm (cB (b.1, midV p q b)))], n := 2, N := 47 } rfl ?_ ?_
  ·repeat' first
    | (refine zR rfl ?_; (conv => whnf))
    | (refine zQ rfl ?_ ?_ <;> (conv => whnf))
    | (refine zC rfl ?_ ?_ ?_ <;> (conv => whnf))
    | (refine zo rfl ?_ ?_ ?_ ?_ <;> (conv => whnf))
    | (refine zP rfl ?_; (conv => whnf); first | done | rfl)
  conv => whnf
 rw [show iEq sign (-1) = false from decide_eq_false h2, if_neg h2]
 conv => whnf
 refine zO hT hmix [8, 9] { t := [(8, .c (.ptr 0 0)), (9, .c (.ptr 1 0))], h := [(0, .box zm (cB b)), (1, .box zm (cB b))], n := 2, N := 47 } rfl ?_ ?_
 ·repeat' first
   | (refine zR rfl ?_; (conv => whnf))
   | (refine zQ rfl ?_ ?_ <;> (conv => whnf))
   | (refine zC rfl ?_ ?_ ?_ <;> (conv => whnf))
   | (refine zo rfl ?_ ?_ ?_ ?_ <;> (conv => whnf))
   | (refine zP rfl ?_; (conv => whnf); first | done | rfl)
 conv => whnf
end Go.H.S
namespace Go.H.S
open Go Go.Proofs Go.H
attribute [local irreducible] Tri z6 zV zU zj zX
abbrev rpTb (t : Tbl) : AV := .c (.d (.rp [.sl 1 (eL cS t.names), .str t.target, .sl 1 (eL cIs t.rows), .sl 1 (eL cI t.ys)]))
def y0 (t : Tbl) (f : Nat) : List Int := t.rows.map fun r => (r[f]?).getD 0
theorem zAu {t : Tbl} {f k : Nat} {r : List Int} (h : t.rows[k]? = some r) : (t.rows.take (k + 1)).map (fun r => (r[f]?).getD 0) = (t.rows.take k).map (fun r => (r[f]?).getD 0) ++ [(r[f]?).getD 0] := by
 rw [List.take_add_one, h]; simp
theorem z8l (t : Tbl) (f : Nat) (hf : f < t.names.length) (hn : t.names.length ≤ 1000) (hr : t.rows.length ≤ 1048576) (hc : ∀ r ∈ t.rows, r.length ≤ 1048576) : z6 PR zDj [aTb t, ai f] (.c (.ref 0 0 none)) [(0, .arr zW 1 0 .own (eL cI (y0 t f)))] 1 := by
 have e1 : wSub .i64 (nInt (dLen (eL cS t.names))) 1 = (t.names.length : Int) - 1 := by rw [show nInt (dLen (eL cS t.names)) = (t.names.length : Int) by simp]; exact yB (by omega) (by omega)
 refine z6.intro hT (pf Tryz.func166) rfl (by kernel_rfl) Tryz.ntmps166 rfl ?_
 conv => whnf
 refine zZ 0 ?_
 conv => whnf
 refine zB hT [1, 2, 5, 6] (α := Nat) (fun k => { t := [(1, ai f), (2, rpTb t), (5, .c (.ref 0 0 none)), (6, ai k)], h := [(0, .arr zW 1 0 .own (eL cI ((t.rows.take k).map fun r => (r[f]?).getD 0)))], n := 1, N := 46 })
  (fun k => k ≤ t.rows.length) (fun k => t.rows.length - k) 0 (by ((conv => whnf); simp only [eS, List.take_zero, List.map_nil, zg]); rfl) (Nat.zero_le _) ?_
 intro k hk
 conv => whnf
 cases q1 : iLt (k : Int) (nInt (dLen (eL cIs t.rows)))
 ·simp only [eH] at q1
  obtain rfl : k = t.rows.length := by omega
  conv => whnf
  rw [List.take_length]
  rfl
 ·simp only [eH] at q1
  obtain ⟨r, hrk⟩ := zH (show k < t.rows.length by omega)
  have hrl := hc r (List.mem_of_getElem? hrk)
  have hstep := zAu (f := f) hrk
  conv => whnf
  rw [e1]
  refine .inl ⟨_, _, _, zM _ _ _, rfl, ?_⟩
  rw [show decide ((0 : Int) ≤ (f : Int) ∧ (f : Int) ≤ (t.names.length : Int) - 1) = true from decide_eq_true (by omega)]
  conv => whnf
  refine zE (by simp) hrk ?_
  conv => whnf
  refine zK (fun q2 => ?_) (fun q2 => ?_) <;> (conv => whnf) <;> simp only [eH] at q2
  ·obtain ⟨v, hv⟩ := zH (show f < r.length by omega)
   refine zE (by simp) hrk ?_
   conv => whnf
   refine zE (by simp) hv ?_
   conv => whnf
   refine And.intro (by simp [zF, zS]; omega) ?_
   conv => whnf
   refine ⟨k + 1, by omega, by omega, ?_⟩
   ((conv => whnf); simp only [eS, wI (show k < t.rows.length by omega) (by omega)])
   rw [hstep, hv, ← zY]
   first | exact ⟨rfl, rfl⟩ | rfl
  ·refine And.intro (by simp [zF, zS]; omega) ?_
   conv => whnf
   refine ⟨k + 1, by omega, by omega, ?_⟩
   ((conv => whnf); simp only [eS, wI (show k < t.rows.length by omega) (by omega)])
   rw [hstep, List.getElem?_eq_none (by omega), ← zY]
   first | exact ⟨rfl, rfl⟩ | rfl
def cutK (s : List Int) (n b k : Nat) : Option Int := if 1 ≤ n * k / b ∧ (s[n * k / b - 1]?).getD 0 < (s[n - 1]?).getD 0 then some ((s[n * k / b - 1]?).getD 0) else none
def yQ (s : List Int) (n b k : Nat) : List Int := (List.range k).filterMap (cutK s n b)
def z5r (xs : List Int) (b : Nat) : List Int := we (yQ (yp xs) xs.length b b)
theorem z4N (s : List Int) (n b k : Nat) : yQ s n b (k + 1) = yQ s n b k ++ (cutK s n b k).toList := by
 simp only [yQ, List.range_succ, List.filterMap_append]
 congr 1
theorem z1u (s : List Int) (n b k : Nat) : (yQ s n b k).length ≤ k := by
 have := List.length_filterMap_le (cutK s n b) (List.range k)
 simpa [yQ] using this
theorem z8k (xs : List Int) (b : Nat) (hb : 2 ≤ b ∧ b ≤ 8) (hx : 1 ≤ xs.length ∧ xs.length ≤ 40) : z6 PR zDi [aIs xs, ai b] (.c (.ref 0 0 none)) [(0, .arr zW 1 0 .own (eL cI (z5r xs b)))] 1 := by
 have eX : nInt (dLen (eL cI xs)) = (xs.length : Int) := by simp
 refine z6.intro hT (pf Tryz.func167) rfl (by kernel_rfl) Tryz.ntmps167 rfl ?_
 conv => whnf
 refine .inl ⟨_, _, _, zM _ _ _, rfl, ?_⟩
 rw [show decide ((2 : Int) ≤ (b : Int) ∧ (b : Int) ≤ 8) = true from decide_eq_true (by omega)]
 conv => whnf
 rw [eX]
 refine .inl ⟨_, _, _, zM _ _ _, rfl, ?_⟩
 rw [show decide ((1 : Int) ≤ (xs.length : Int) ∧ (xs.length : Int) ≤ 40) = true from decide_eq_true (by omega)]
 conv => whnf
 refine .inl ⟨_, _, _, z29 xs (by omega), rfl, ?_⟩
 have hsl := z0H xs
 have hd : z5r xs b = we (yQ (yp xs) xs.length b b) := rfl
 rw [hd]
 generalize yp xs = s at *
 generalize xs.length = n at *
 conv => whnf
 have h0 : yQ s n b 1 = [] := by simp [yQ, cutK]
 refine zB hT [1, 5, 6, 7, 8] (α := Nat) (fun k => { t := [(1, ai b), (5, ai n), (6, aIs s), (7, .c (.ref 0 0 none)), (8, ai k)], h := [(0, .arr zW 1 0 .own (eL cI (yQ s n b k)))], n := 1, N := 59 })
  (fun k => 1 ≤ k ∧ k ≤ b) (fun k => b - k) 1 (by ((conv => whnf); simp only [eS, h0, zg, z7]); first | done | rfl | exact ⟨rfl, rfl⟩) (by omega) ?_
 intro k ⟨hk1, hk⟩
 conv => whnf
 refine zK (fun q1 => ?_) (fun q1 => ?_) <;> (conv => whnf) <;> simp only [eH] at q1
 ·have hnk : n * k ≤ 320 := by
   have : n * k ≤ 40 * 8 := Nat.mul_le_mul hx.2 (by omega)
   omega
  have hnb : n * k / b < n := by
   rw [Nat.div_lt_iff_lt_mul (by omega)]
   exact Nat.mul_lt_mul_of_pos_left (by omega) (by omega)
  have hc : (n : Int) * (k : Int) = ((n * k : Nat) : Int) := (Int.natCast_mul n k).symm
  have e1 : wMul .i64 (n : Int) (k : Int) = ((n * k : Nat) : Int) := by rw [z1Z (by rw [hc]; omega) (by rw [hc]; omega), hc]
  have e2 : wQuo .i64 ((n * k : Nat) : Int) (b : Int) = ((n * k / b : Nat) : Int) := by rw [z4S (by omega) (by omega)]; rfl
  have hstep := z4N s n b k
  have hcl := z1u s n b k
  have hck : cutK s n b k = if 1 ≤ n * k / b ∧ (s[n * k / b - 1]?).getD 0 < (s[n - 1]?).getD 0 then some ((s[n * k / b - 1]?).getD 0) else none := rfl
  refine And.intro (by unfold NZ; omega) ?_
  rw [e1]
  conv => whnf
  rw [e2]
  generalize n * k / b = i at *
  obtain ⟨z, hz⟩ := zH (show n - 1 < s.length by omega)
  have e4 : wSub .i64 (n : Int) 1 = ((n - 1 : Nat) : Int) := by rw [yB] <;> omega
  refine yR hT hmix (by kernel_rfl) ?_
  conv => whnf
  cases q2 : iLe 1 (i : Int) <;> simp only [eH] at q2 <;> (conv => whnf)
  ·repeat' (first | (refine And.intro (fun q => ?_) (fun q => ?_) <;> cases q <;> (conv => whnf)) | fail)
   refine ⟨k + 1, by omega, by omega, ?_⟩
   rw [if_neg (by omega)] at hck
   rw [hck] at hstep
   simp only [Option.toList_none, List.append_nil] at hstep
   ((conv => whnf); simp only [eS, wI (show k < b by omega) (by omega)])
   rw [hstep]
  ·obtain ⟨y, hy⟩ := zH (show i - 1 < s.length by omega)
   have e3 : wSub .i64 (i : Int) 1 = ((i - 1 : Nat) : Int) := by rw [yB] <;> omega
   rw [hy, hz] at hck
   simp only [Option.getD_some] at hck
   repeat' first
    | (refine And.intro (fun q => ?_) (fun q => ?_) <;> cases q <;> (conv => whnf))
    | (refine zE e3 hy ?_; (conv => whnf))
    | (refine zE e4 hz ?_; (conv => whnf))
   refine zK (fun q3 => ?_) (fun q3 => ?_) <;> (conv => whnf) <;> simp only [eH] at q3
   ·refine zE e3 hy ?_
    conv => whnf
    refine And.intro (by simp [zF, zS]; omega) ?_
    conv => whnf
    rw [if_pos ⟨by omega, q3⟩] at hck
    rw [hck] at hstep
    simp only [Option.toList_some] at hstep
    refine ⟨k + 1, by omega, by omega, ?_⟩
    ((conv => whnf); simp only [eS, wI (show k < b by omega) (by omega)])
    rw [hstep, ← zY]
    first | exact ⟨rfl, rfl⟩ | rfl
   ·rw [if_neg (by omega)] at hck
    rw [hck] at hstep
    simp only [Option.toList_none, List.append_nil] at hstep
    refine ⟨k + 1, by omega, by omega, ?_⟩
    ((conv => whnf); simp only [eS, wI (show k < b by omega) (by omega)])
    rw [hstep]
 ·obtain rfl : k = b := by omega
  have hcl := z1u s n k k
  refine .inr (.inl ⟨_, _, _, z6C (yQ s n k k) (by omega), rfl, ⟨z0j _, trivial⟩, ?_⟩)
  conv => whnf
  first | done | rfl
end Go.H.S
namespace Go.H.S
open Go Go.Proofs Go.H
attribute [local irreducible] Tri z6 zV zU zj zX
def z1y (x : Int) : Bool := decide (-2147483647 ≤ x ∧ x ≤ 2147483647)
def z15 (n : Nat) (ys : List Int) : List (List Int) → Nat → Bool
 | [], _ => true
 | r :: rest, k => (decide (r.length = n) && (z1y ((ys[k]?).getD 0) && r.all z1y)) && z15 n ys rest (k + 1)
def y8 (t : Tbl) : Bool :=
 decide (1 ≤ (t.names.length : Int) ∧ (t.names.length : Int) ≤ 4) && (wo t.target && (!hasS t.target t.names && (decide (1 ≤ (t.rows.length : Int) ∧ (t.rows.length : Int) ≤ 40) && (decide (t.ys.length = t.rows.length) &&
  (yH t.names t.names 0 && z15 t.names.length t.ys t.rows 0)))))
set_option maxHeartbeats 4000000 in
theorem w5 (t : Tbl) (hn : t.names.length ≤ 1048576) (hns : ∀ s ∈ t.names, s.size ≤ 9223372036854775807) (htg : t.target.size ≤ 9223372036854775807) (hr : t.rows.length ≤ 1048576) (hc : ∀ r ∈ t.rows, r.length ≤ 1048576) (hy : t.ys.length ≤ 1048576) : z6 PR zBX [aTb t] (ab (y8 t)) [] 0 := by
 have eN : nInt (dLen (eL cS t.names)) = (t.names.length : Int) := by simp
 have eR : nInt (dLen (eL cIs t.rows)) = (t.rows.length : Int) := by simp
 have eY : nInt (dLen (eL cI t.ys)) = (t.ys.length : Int) := by simp
 refine z6.intro hT (pf Tryz.func63) rfl (by kernel_rfl) Tryz.ntmps63 rfl ?_
 conv => whnf
 rw [eN]
 refine .inl ⟨_, _, _, zM _ _ _, rfl, ?_⟩
 generalize e1 : decide (1 ≤ (t.names.length : Int) ∧ (t.names.length : Int) ≤ 4) = c1
 cases c1 <;> (conv => whnf)
 ·simp [y8, e1]
 refine .inl ⟨_, _, _, wy t.target htg, rfl, ?_⟩
 generalize e2 : wo t.target = c2
 cases c2 <;> (conv => whnf)
 ·simp [y8, e2]
 refine .inl ⟨_, _, _, z0F t.names t.target (by omega), rfl, ?_⟩
 generalize e3 : hasS t.target t.names = c3
 cases c3 with
 | true =>
  conv => whnf
  simp [y8, e3]
 | false =>
 conv => whnf
 rw [eR]
 refine .inl ⟨_, _, _, zM _ _ _, rfl, ?_⟩
 generalize e4 : decide (1 ≤ (t.rows.length : Int) ∧ (t.rows.length : Int) ≤ 40) = c4
 cases c4 <;> (conv => whnf)
 ·simp [y8, e4]
 rw [eY, eR]
 generalize e5 : iEq (t.ys.length : Int) (t.rows.length : Int) = c5
 cases c5 <;> (conv => whnf) <;> simp only [eH] at e5
 ·have h5 : ¬ t.ys.length = t.rows.length := by omega
  simp [y8, h5]
 have h5 : t.ys.length = t.rows.length := by omega
 have hto : y8 t = (yH t.names t.names 0 && z15 t.names.length t.ys t.rows 0) := by
  simp only [y8]; rw [e1, e2, e3, e4, decide_eq_true h5]; rfl
 rw [hto]
 refine zB hT [1, 3, 4] (α := Nat) (fun k => { t := [(1, .c (.ptr 0 0)), (3, ai t.names.length), (4, ai k)], h := [(0, .box zJ (cTb t))], n := 1, N := 105 })
  (fun k => k ≤ t.names.length ∧ yH t.names (t.names.drop k) k = yH t.names t.names 0) (fun k => t.names.length - k) 0 (by ((conv => whnf); simp only [eS]); first | done | simp) ⟨Nat.zero_le _, rfl⟩ ?_
 intro k ⟨hk, hi⟩
 conv => whnf
 refine zK (fun g1 => ?_) (fun g1 => ?_) <;> (conv => whnf) <;> simp at g1
 ·obtain ⟨s, hs'⟩ := zH g1
  rw [zy hs', yH] at hi
  refine yR hT hmix (by kernel_rfl) ?_
  conv => whnf
  refine zE (by simp) hs' ?_
  conv => whnf
  refine ⟨_, _, wy s (hns s (List.mem_of_getElem? hs')), rfl, ?_⟩
  cases hb : wo s
  ·conv => whnf
   repeat' (first | (refine And.intro (fun q => ?_) (fun q => ?_) <;> cases q <;> (conv => whnf)) | fail)
   rw [hb] at hi
   have : yH t.names t.names 0 = false := by rw [← hi]; simp
   rw [this]
   conv => whnf
   rfl
  ·rw [hb, Bool.true_and] at hi
   conv => whnf
   repeat' (first | (refine And.intro (fun q => ?_) (fun q => ?_) <;> cases q <;> (conv => whnf)) | fail)
   refine And.intro (by simp; omega) ?_
   rw [z73]
   conv => whnf
   repeat' (first | (refine And.intro (fun q => ?_) (fun q => ?_) <;> cases q <;> (conv => whnf)) | fail)
   refine zE (by simp) hs' ?_
   conv => whnf
   repeat' (first | (refine And.intro (fun q => ?_) (fun q => ?_) <;> cases q <;> (conv => whnf)) | fail)
   refine ⟨_, _, z0F (t.names.take k) s (by simp; omega), rfl, ?_⟩
   cases hh : hasS s (t.names.take k)
   ·conv => whnf
    repeat' (first | (refine And.intro (fun q => ?_) (fun q => ?_) <;> cases q <;> (conv => whnf)) | fail)
    rw [hh] at hi
    refine ⟨k + 1, by omega, ⟨g1, by simpa using hi⟩, ?_⟩
    ((conv => whnf); simp only [eS, wI g1 (by omega)])
   ·conv => whnf
    repeat' (first | (refine And.intro (fun q => ?_) (fun q => ?_) <;> cases q <;> (conv => whnf)) | fail)
    rw [hh] at hi
    have : yH t.names t.names 0 = false := by rw [← hi]; simp
    rw [this]
    conv => whnf
    rfl
 ·obtain rfl : k = t.names.length := by omega
  simp only [List.drop_length, yH] at hi
  rw [← hi, Bool.true_and]
  refine zB hT [1, 3, 5] (α := Nat) (fun k => { t := [(1, .c (.ptr 0 0)), (3, ai t.names.length), (5, ai k)], h := [(0, .box zJ (cTb t))], n := 1, N := 105 })
   (fun k => k ≤ t.rows.length ∧ z15 t.names.length t.ys (t.rows.drop k) k = z15 t.names.length t.ys t.rows 0) (fun k => t.rows.length - k) 0 (by ((conv => whnf); simp only [eS])) ⟨Nat.zero_le _, rfl⟩ ?_
  intro k ⟨hk2, hj⟩
  conv => whnf
  refine zK (fun g2 => ?_) (fun g2 => ?_) <;> (conv => whnf) <;> simp at g2
  ·obtain ⟨r, hx⟩ := zH g2
   obtain ⟨y, hyk⟩ := zH (show k < t.ys.length by omega)
   rw [zy hx, z15, hyk] at hj
   simp only [Option.getD_some] at hj
   refine zE (by simp) hx ?_
   conv => whnf
   rw [show nInt (dLen (eL cI r)) = (r.length : Int) by simp]
   generalize q1 : iEq (r.length : Int) (t.names.length : Int) = c1
   cases c1 <;> (conv => whnf) <;> simp only [eH] at q1
   ·rw [decide_eq_false (show ¬ r.length = t.names.length by omega)] at hj
    rw [← hj]
    rfl
   rw [decide_eq_true (show r.length = t.names.length by omega), Bool.true_and] at hj
   refine zE (by simp) hyk ?_
   conv => whnf
   refine .inl ⟨_, _, _, yh _, rfl, ?_⟩
   rw [show decide (-2147483647 ≤ y ∧ y ≤ 2147483647) = z1y y from rfl]
   cases hb : z1y y
   ·conv => whnf
    rw [hb] at hj
    rw [← hj]
    rfl
   rw [hb, Bool.true_and] at hj
   conv => whnf
   refine zB hT [1, 3, 5, 6] (α := Nat) (fun j => { t := [(1, .c (.ptr 0 0)), (3, ai t.names.length), (5, ai k), (6, ai j)], h := [(0, .box zJ (cTb t))], n := 1, N := 105 })
    (fun j => j ≤ r.length ∧ (r.drop j).all z1y = r.all z1y) (fun j => r.length - j) 0 (by ((conv => whnf); simp only [eS])) ⟨Nat.zero_le _, rfl⟩ ?_
   intro j ⟨hj1, hj2⟩
   conv => whnf
   refine zK (fun g3 => ?_) (fun g3 => ?_) <;> (conv => whnf) <;> simp at g3
   ·obtain ⟨v, hv⟩ := zH (show j < r.length by omega)
    rw [zy hv, List.all_cons] at hj2
    refine zE (by simp) hx ?_
    conv => whnf
    refine zE (by simp) hv ?_
    conv => whnf
    refine .inl ⟨_, _, _, yh _, rfl, ?_⟩
    rw [show decide (-2147483647 ≤ v ∧ v ≤ 2147483647) = z1y v from rfl]
    cases hb2 : z1y v
    ·conv => whnf
     rw [hb2] at hj2
     rw [← hj2] at hj
     rw [← hj]
     rfl
    ·conv => whnf
     rw [hb2] at hj2
     refine ⟨j + 1, by omega, ⟨by omega, by simpa using hj2⟩, ?_⟩
     ((conv => whnf); simp only [eS, wI g3 (by omega)])
   ·obtain rfl : j = r.length := by omega
    simp only [List.drop_length, List.all_nil] at hj2
    rw [← hj2, Bool.true_and] at hj
    refine ⟨k + 1, by omega, ⟨g2, hj⟩, ?_⟩
    ((conv => whnf); simp only [eS, wI g2 (by omega)])
  ·obtain rfl : k = t.rows.length := by omega
   simp only [List.drop_length, z15] at hj
   rw [← hj]
end Go.H.S
namespace Go.H.S
open Go Go.Proofs Go.H
attribute [local irreducible] Tri z6 zV zU zj zX
def z1t (t : Tbl) (b f : Nat) : List Int := z5r (y0 t f) b
def z9Q (t : Tbl) (b f : Nat) : List Int := (y0 t f).map fun v => ((y7 (z1t t b f) v : Nat) : Int)
def z0P (t : Tbl) (b n : Nat) : List (List Int) := (List.range n).map (z1t t b)
def z0R (t : Tbl) (b n : Nat) : List (List Int) := (List.range n).map (z9Q t b)
def yG (t : Tbl) (b : Nat) : Grd := ⟨z0P t b t.names.length, z0R t b t.names.length⟩
theorem zAr (t : Tbl) (b n : Nat) : z0P t b (n + 1) = z0P t b n ++ [z1t t b n] := by simp [z0P, List.range_succ]
theorem zB4 (t : Tbl) (b n : Nat) : z0R t b (n + 1) = z0R t b n ++ [z9Q t b n] := by simp [z0R, List.range_succ]
theorem z2w (t : Tbl) (b n : Nat) : (z0P t b n).length = n := by simp [z0P]
theorem z4i (t : Tbl) (b n : Nat) : (z0R t b n).length = n := by simp [z0R]
theorem zAv (t : Tbl) (f : Nat) : (y0 t f).length = t.rows.length := by simp [y0]
theorem zAs (t : Tbl) {b f : Nat} (hb : b ≤ 8) : (z1t t b f).length ≤ 8 := by
 have h1 := z72 (yQ (yp (y0 t f)) (y0 t f).length b b)
 have h2 := z1u (yp (y0 t f)) (y0 t f).length b b
 show (we _).length ≤ 8
 omega
theorem z9g {t : Tbl} (h : y8 t = true) : (1 ≤ t.names.length ∧ t.names.length ≤ 4) ∧ (1 ≤ t.rows.length ∧ t.rows.length ≤ 40) ∧ t.ys.length = t.rows.length := by
 simp only [y8, Bool.and_eq_true, decide_eq_true_eq] at h
 obtain ⟨h1, _, _, h4, h5, _⟩ := h
 exact ⟨by omega, by omega, h5⟩
abbrev z0V (xs : List (List Int)) : Ent := .arr z0Z 1 0 (.nest [zW]) (eL cIs xs)
end Go.H.S
namespace Go.H.S
open Go Go.Proofs Go.H
attribute [local irreducible] Tri z6 zV zU zj zX
end Go.H.S
namespace Go.H.S
open Go Go.Proofs Go.H
attribute [local irreducible] Tri z6 zV zU zj zX
theorem zLG {xs : List (List Int)} {p k : Nat} {x : List Int} {K : Nat → Nat → List D → Nat → List (List D) → TypeId → Prop} (hp : p = k) (hx : xs[k]? = some x) (h : K k 0 (cIs x) 1 (eL cI x) zW) :
  ∃ i j c z es' ty, p = i * 1 + j ∧ j < 1 ∧ AtD (eL cIs xs) i c ∧ c[j]? = some (.sl z es') ∧ [zW][j]? = some ty ∧ K i j c z es' ty :=
 ⟨k, 0, cIs x, 1, eL cI x, zW, by omega, by decide, by unfold AtD; rw [z5F, hx]; rfl, rfl, rfl, h⟩
theorem zLe {xs : List (List Int)} {k k' : Nat} {x : List Int} {K : List D → Prop} (hk : k' = k) (hx : xs[k]? = some x) (h : K [.any]) : ∀ c, AtD (dSet (eL cIs xs) k ((cIs x).set 0 .any)) k' c → zEK 0 1 c ∧ K c := fun c hc => by
 have hl := (List.getElem?_eq_some_iff.1 hx).1
 have e : (dSet (eL cIs xs) k ((cIs x).set 0 .any))[k']? = some c := by unfold AtD at hc; exact hc
 rw [hk, dSet, List.getElem?_set_self (by rw [zF]; exact hl)] at e
 cases e
 exact ⟨by unfold zEK; simp [cIs], h⟩
theorem zIv {xs : List (List Int)} {k : Nat} (c : List D) (y : List Int) : dSet (dSet (eL cIs xs) k c) k (z0s [.any] 0 [.sl 1 (eL cI y)]) = eL cIs (xs.set k y) := by
 rw [show z0s [.any] 0 [.sl 1 (eL cI y)] = cIs y by rw [z0s]; rfl, ← z5E]
 simp only [dSet, List.set_set]
theorem zFx {xs : List (List Int)} {p k : Nat} {x : List Int} {n : Int} {q : Nat} {K : Prop} (hp : p = k) (hx : xs[k]? = some x) (hn : n = (q : Int)) (hq : q < x.length) (h : K) : ∃ i j c es', p = i * 1 + j ∧ AtD (eL cIs xs) i c ∧ c[j]? = some (.sl 1 es') ∧ InB n (dLen es') ∧ K :=
 ⟨k, 0, cIs x, eL cI x, by omega, by unfold AtD; rw [z5F, hx]; rfl, rfl, by subst hn; unfold InB; rw [z5q]; omega, h⟩
theorem nst_at {xs : List (List Int)} {p k q : Nat} {x : List Int} {K : Nat → Nat → List D → List (List D) → Prop} (hp : p = k) (hx : xs[k]? = some x) (hq : q < x.length) (h : K k 0 (cIs x) (eL cI x)) : ∃ i j c es', p = i * 1 + j ∧ j < 1 ∧ AtD (eL cIs xs) i c ∧ c[j]? = some (.sl 1 es') ∧ q < dLen es' ∧ K i j c es' :=
 ⟨k, 0, cIs x, eL cI x, by omega, by decide, by unfold AtD; rw [z5F, hx]; rfl, rfl, by rw [z5q]; exact hq, h⟩
theorem zLO {xs : List (List Int)} {k q : Nat} {x : List Int} (v : Int) : dSet (eL cIs xs) k ((cIs x).set 0 (.sl 1 (dSet (eL cI x) q [.int .i64 v]))) = eL cIs (xs.set k (x.set q v)) := by
 rw [show dSet (eL cI x) q [.int .i64 v] = eL cI (x.set q v) from z5E cI x q v]
 exact z5E cIs xs k (x.set q v)
theorem zJ3 (xs : List Int) (v : Int) : z9S (dApp (eL cI xs) (z0b [[D.int IntKind.i64 v]] none)) := by
 rw [z7, show dApp (eL cI xs) [[D.int IntKind.i64 v]] = eL cI (xs ++ [v]) from zY cI xs v]
 exact z0j _
theorem zLw (k : Nat) (xs : List (List Int)) (x y : List Int) : dSet (eL cIs xs) k (z0s (cIs x) 0 [.sl 1 (eL cI y)]) = eL cIs (xs.set k y) := by
 rw [show z0s (cIs x) 0 [.sl 1 (eL cI y)] = cIs y by rw [z0s]; rfl]
 exact z5E cIs xs k y
theorem zKu {xs : List (List Int)} {p k q q' : Nat} {x : List Int} {v : Int} {K : D → Prop} (hp : p = k) (hx : xs[k]? = some x) (hq' : q' = q) (hq : x[q]? = some v) (h : K (.int .i64 v)) : ∃ i j c es' d, p = i * 1 + j ∧ AtD (eL cIs xs) i c ∧ c[j]? = some (.sl 1 es') ∧ es'[q']? = some [d] ∧ K d :=
 ⟨k, 0, cIs x, eL cI x, .int .i64 v, by omega, by unfold AtD; rw [z5F, hx]; rfl, rfl, by rw [hq', z5F, hq]; rfl, h⟩
theorem nyd_at {xs : List (List Int)} {p k : Nat} {x : List Int} {K : List (List D) → Prop} (hp : p = k) (hx : xs[k]? = some x) (h : K (eL cI x)) : ∃ i j c es', p = i * 1 + j ∧ AtD (eL cIs xs) i c ∧ c[j]? = some (.sl 1 es') ∧ K es' :=
 ⟨k, 0, cIs x, eL cI x, by omega, by unfold AtD; rw [z5F, hx]; rfl, rfl, h⟩
end Go.H.S
namespace Go.H.S
open Go Go.Proofs Go.H
attribute [local irreducible] Tri z6 zV zU zj zX
set_option maxHeartbeats 4000000 in
theorem z8V (code : List Int) (i0 u0 : Int) (hi0 : yV code (i0, u0)) (hl : code.length ≤ 1048576) : zX PR z55 [.c (.ptr 0 0)] zI (cur code i0 u0) (Tbl × Int × Int)
    (fun x => drawnT x.1 ∧ yV code x.2) (fun x => .agg [.ref 1 0 none, .d (.str x.1.target), .ref 2 0 none, .ref 3 0 none]) (fun x => cur code x.2.1 x.2.2)
    (fun x => [(1, .arr yE 1 0 .own (eL cS x.1.names)), (2, z0V x.1.rows), (3, .arr zW 1 0 .own (eL cI x.1.ys))]) (fun _ => 4) := by
  refine zX.intro hTn 0 (pf Tryz.func275) rfl (by kernel_rfl) Tryz.ntmps275 rfl rfl ?_
  intro v0
  conv => whnf
  refine .inr (.inr (.inr (.inr (.inl ⟨0, ?_⟩))))
  conv => whnf
  refine ⟨_, _, _, _, _, _, zA code i0 u0 3 hi0 hl, fun ⟨x1, i1, u1⟩ ⟨gx1, hi1⟩ => ⟨rfl, ?_⟩⟩
  dsimp only at gx1 hi1
  have x1b := gx1.2.1 (by decide)
  conv => whnf
  rw [show wAdd .i64 1 x1 = 1 + x1 from y1 (by omega) (by omega)]
  have hp : z0b [[D.str { data := #[97] }], [D.str { data := #[98] }], [D.str { data := #[99, 50] }], [D.str { data := #[100] }]] (some (true, nAdd (offR none) (nOf 0), nSub (nOf (1 + x1)) (nOf 0))) = eL cS (abcd.take (1 + x1).toNat) := by
    rw [show [[D.str { data := #[97] }], [D.str { data := #[98] }], [D.str { data := #[99, 50] }], [D.str { data := #[100] }]] = eL cS abcd from by simp [eL, cS, abcd], zIV]
    simp [wr, z7b, z2E, offR]
  refine And.intro (by simp [InS, z0W]; omega) ?_
  conv => whnf
  refine And.intro (by rw [hp]; simp [zF, zS, abcd]; omega) ?_
  conv => whnf
  rw [hp]
  refine .inr (.inr (.inr (.inr (.inl ⟨0, ?_⟩))))
  conv => whnf
  refine ⟨_, _, _, _, _, _, zA code i1 u1 9 hi1 hl, fun ⟨x2, i2, u2⟩ ⟨gx2, hi2⟩ => ⟨rfl, ?_⟩⟩
  dsimp only at gx2 hi2
  have x2b := gx2.2.1 (by decide)
  conv => whnf
  refine .inr (.inr (.inr (.inr (.inl ⟨0, ?_⟩))))
  conv => whnf
  refine ⟨_, _, _, _, _, _, zi code i2 u2 10 hi2 hl, fun ⟨b1, i3, u3⟩ hi3 => ⟨rfl, ?_⟩⟩
  dsimp only at hi3
  cases b1 with
  | true =>
    conv => whnf
    refine .inr (.inr (.inr (.inr (.inl ⟨0, ?_⟩))))
    conv => whnf
    refine ⟨_, _, _, _, _, _, zA code i3 u3 40 hi3 hl, fun ⟨x3, i4, u4⟩ ⟨gx3, hi4⟩ => ⟨rfl, ?_⟩⟩
    dsimp only at gx3 hi4
    have x3b := gx3.2.1 (by decide)
    conv => whnf
    obtain ⟨M, hM, hMm⟩ : ∃ M : Int, wAdd .i64 1 x3 = M ∧ (1 ≤ M ∧ M ≤ 40) := ⟨1 + x3, y1 (by omega) (by omega), by omega⟩
    refine .inr (.inr (.inr (.inr (.inl ⟨0, ?_⟩))))
    conv => whnf
    refine ⟨_, _, _, _, _, _, zi code i4 u4 12 hi4 hl, fun ⟨b2, i5, u5⟩ hi5 => ⟨rfl, ?_⟩⟩
    dsimp only at hi5
    conv => whnf
    rw [hM]
    refine zC6 5 2 z0Z 1 [zW] ?_
    conv => whnf
    refine z1H 5 3 zW 1 ?_
    conv => whnf
    refine zB hTn [0, 2, 3, 4, 5, 6, 7] (α := Nat × List (List Int) × List Int × Int × Int) (fun x' => { t := [(0, .w (.ptr 0 0) v0), (2, .c (.ptr 1 0)), (3, ai (1 + x1)), (4, .c (.ptr 2 0)), (5, ai M), (6, ab b2), (7, ai x'.1)], h := [(0, .box zI (cur code x'.2.2.2.1 x'.2.2.2.2)), (1, .box zJ [.nl 1, .d (.str ⟨#[]⟩), .nl 1, .nl 1]), (2, .box zJ [.ref 3 0 none, .d (.str ⟨#[121]⟩), .ref 4 0 none, .ref 5 0 none]), (3, .arr yE 1 0 .own (eL cS (abcd.take (1 + x1).toNat))), (4, z0V x'.2.1), (5, .arr zW 1 0 .own (eL cI x'.2.2.1))], n := 6, N := 84 })
      (fun x' => (x'.1 : Int) ≤ M ∧ x'.2.1.length = x'.1 ∧ x'.2.2.1.length = x'.1 ∧ (∀ r ∈ x'.2.1, r.length = (1 + x1).toNat) ∧ (∀ r ∈ x'.2.1, ∀ x ∈ r, -2147483647 ≤ x ∧ x ≤ 2147483647) ∧ (∀ v ∈ x'.2.2.1, -2147483647 ≤ v ∧ v ≤ 2147483647) ∧ yV code x'.2.2.2) (fun x' => M.toNat - x'.1) (0, [], [], i5, u5) (by (conv => whnf); simp only [z0V, wE, zg]; rfl) ⟨by dsimp only; omega, rfl, rfl, fun r hr => absurd hr (by simp), fun r hr => absurd hr (by simp), fun v hv => absurd hv (by simp), hi5⟩ ?_
    intro ⟨a, rs, ys, i6, u6⟩ ⟨ha, har, hay, hrs, hrv, hyv, hi6⟩
    dsimp only at ha har hay hrs hrv hyv hi6
    conv => whnf
    refine zK (fun q1 => ?_) (fun q1 => ?_) <;> (conv => whnf) <;> simp only [eH] at q1
    · refine zB hTn [0, 2, 3, 4, 5, 6, 7, 8, 9] (α := List Int × Int × Int) (fun y' =>
          { t := [(0, .w (.ptr 0 0) v0), (2, .c (.ptr 1 0)), (3, ai (1 + x1)), (4, .c (.ptr 2 0)), (5, ai M), (6, ab b2), (7, ai a), (8, .c (.ref 6 0 none)), (9, ai y'.1.length)], h := [(0, .box zI (cur code y'.2.1 y'.2.2)), (1, .box zJ [.nl 1, .d (.str ⟨#[]⟩), .nl 1, .nl 1]), (2, .box zJ [.ref 3 0 none, .d (.str ⟨#[121]⟩), .ref 4 0 none, .ref 5 0 none]), (3, .arr yE 1 0 .own (eL cS (abcd.take (1 + x1).toNat))), (4, z0V rs), (5, .arr zW 1 0 .own (eL cI ys)), (6, .arr zW 1 0 .own (eL cI y'.1))], n := 7, N := 84 })
        (fun y' => (y'.1.length : Int) ≤ 1 + x1 ∧ (∀ x ∈ y'.1, -2147483647 ≤ x ∧ x ≤ 2147483647 ∧ (b2 = false → -1500 ≤ x ∧ x ≤ 1500)) ∧ yV code y'.2) (fun y' => (1 + x1).toNat - y'.1.length) ([], i6, u6) (by (conv => whnf); simp only [zg]; rfl) ⟨by simp; omega, fun x hx => absurd hx (by simp), hi6⟩ ?_
      intro ⟨ss, i7, u7⟩ ⟨hs1, hs4, hi7⟩
      dsimp only at hs1 hs4 hi7
      conv => whnf
      refine zK (fun hs3 => ?_) (fun hs3 => ?_) <;> (conv => whnf) <;> simp only [eH] at hs3
      ·
        refine .inr (.inr (.inr (.inr (.inl ⟨0, ?_⟩))))
        conv => whnf
        refine ⟨_, _, _, _, _, _, yJ code i7 u7 hi7 hl, fun ⟨z8, i8, u8⟩ ⟨gz8, hi8⟩ => ⟨rfl, ?_⟩⟩
        dsimp only at gz8 hi8
        conv => whnf
        cases b2 with
        | true =>
          conv => whnf
          refine And.intro (by simp [z7]; omega) ?_
          conv => whnf
          have hs5 : ∀ x ∈ ss ++ [z8], -2147483647 ≤ x ∧ x ≤ 2147483647 ∧ (true = false → -1500 ≤ x ∧ x ≤ 1500) := fun x hx => by
            rcases List.mem_append.1 hx with hx | hx
            · exact hs4 x hx
            · simp at hx; rw [hx]; exact ⟨gz8.1, gz8.2, fun h => by cases h⟩
          refine ⟨(ss ++ [z8], i8, u8), by simp; omega, ⟨by simp; omega, hs5, hi8⟩, ?_⟩
          ((conv => whnf); simp only [eS, wI (show ss.length < 40 by omega) (by omega)])
          simp only [z7, List.length_append, List.length_cons, List.length_nil]
          rw [← zY]
          first | exact ⟨rfl, trivial⟩ | exact ⟨trivial, rfl⟩ | exact ⟨rfl, rfl⟩ | rfl
        | false =>
          conv => whnf
          refine .inr (.inr (.inr (.inr (.inl ⟨0, ?_⟩))))
          conv => whnf
          refine ⟨_, _, _, _, _, _, zA code i8 u8 7 hi8 hl, fun ⟨z9, i9, u9⟩ ⟨gz9, hi9⟩ => ⟨rfl, ?_⟩⟩
          dsimp only at gz9 hi9
          conv => whnf
          refine And.intro (by simp [z7]; omega) ?_
          conv => whnf
          have hs5 : ∀ x ∈ ss ++ [wMul .i64 500 (wSub .i64 z9 3)], -2147483647 ≤ x ∧ x ≤ 2147483647 ∧ (false = false → -1500 ≤ x ∧ x ≤ 1500) := fun x hx => by
            rcases List.mem_append.1 hx with hx | hx
            · exact hs4 x hx
            · simp at hx; rw [hx]; exact (by have := v500 ⟨gz9.1, gz9.2.1 (by decide)⟩; exact ⟨by omega, by omega, fun _ => this⟩)
          refine ⟨(ss ++ [wMul .i64 500 (wSub .i64 z9 3)], i9, u9), by simp; omega, ⟨by simp; omega, hs5, hi9⟩, ?_⟩
          ((conv => whnf); simp only [eS, wI (show ss.length < 40 by omega) (by omega)])
          simp only [z7, List.length_append, List.length_cons, List.length_nil]
          rw [← zY]
          first | exact ⟨rfl, trivial⟩ | exact ⟨trivial, rfl⟩ | exact ⟨rfl, rfl⟩ | rfl
      · refine ⟨z0j _, ?_⟩
        conv => whnf
        refine And.intro (by simp [zF, zS]; omega) ?_
        conv => whnf
        rw [show dApp (eL cIs rs) [[D.sl 1 (eL cI ss)]] = eL cIs (rs ++ [ss]) from zY cIs rs ss]
        conv => whnf
        refine .inr (.inr (.inr (.inr (.inl ⟨0, ?_⟩))))
        conv => whnf
        refine ⟨_, _, _, _, _, _, yJ code i7 u7 hi7 hl, fun ⟨z8, i8, u8⟩ ⟨gz8, hi8⟩ => ⟨rfl, ?_⟩⟩
        dsimp only at gz8 hi8
        conv => whnf
        cases b2 with
        | true =>
          conv => whnf
          refine And.intro (by simp [z7]; omega) ?_
          conv => whnf
          refine ⟨(a + 1, rs ++ [ss], ys ++ [z8], i8, u8), by dsimp only; omega, ⟨by dsimp only; omega, by simp; omega, by simp; omega, fun r hr => ?_, fun r hr x hx => ?_, fun v hv => ?_, hi8⟩, ?_⟩
          · rcases List.mem_append.1 hr with hr | hr
            · exact hrs r hr
            · simp at hr; rw [hr]; omega
          · rcases List.mem_append.1 hr with hr | hr
            · exact hrv r hr x hx
            · simp at hr; rw [hr] at hx; exact ⟨(hs4 x hx).1, (hs4 x hx).2.1⟩
          · rcases List.mem_append.1 hv with hv | hv
            · exact hyv v hv
            · simp at hv; rw [hv]; exact ⟨gz8.1, gz8.2⟩
          ((conv => whnf); simp only [eS, wI (show a < 40 by omega) (by omega)])
          simp only [z7]
          rw [← zY]
          first | exact ⟨rfl, rfl⟩ | rfl
        | false =>
          conv => whnf
          refine .inr (.inr (.inr (.inr (.inl ⟨0, ?_⟩))))
          conv => whnf
          refine ⟨_, _, _, _, _, _, zi code i8 u8 4 hi8 hl, fun ⟨b3, i9, u9⟩ hi9 => ⟨rfl, ?_⟩⟩
          dsimp only at hi9
          cases b3 with
          | true =>
            conv => whnf
            refine And.intro (by simp [z7]; omega) ?_
            conv => whnf
            refine ⟨(a + 1, rs ++ [ss], ys ++ [z8], i9, u9), by dsimp only; omega, ⟨by dsimp only; omega, by simp; omega, by simp; omega, fun r hr => ?_, fun r hr x hx => ?_, fun v hv => ?_, hi9⟩, ?_⟩
            · rcases List.mem_append.1 hr with hr | hr
              · exact hrs r hr
              · simp at hr; rw [hr]; omega
            · rcases List.mem_append.1 hr with hr | hr
              · exact hrv r hr x hx
              · simp at hr; rw [hr] at hx; exact ⟨(hs4 x hx).1, (hs4 x hx).2.1⟩
            · rcases List.mem_append.1 hv with hv | hv
              · exact hyv v hv
              · simp at hv; rw [hv]; exact ⟨gz8.1, gz8.2⟩
            ((conv => whnf); simp only [eS, wI (show a < 40 by omega) (by omega)])
            simp only [z7]
            rw [← zY]
            first | exact ⟨rfl, rfl⟩ | rfl
          | false =>
            conv => whnf
            obtain ⟨s0, hs0⟩ := zH (show 0 < ss.length by omega)
            refine yY hTn hmix [0, 2, 3, 4, 5, 6, 7, 11] (Y := Int × Int × Int) (fun y' => (-2147483647 ≤ y'.1 ∧ y'.1 ≤ 2147483647) ∧ yV code y'.2) (fun y' => { t := [(0, .w (.ptr 0 0) v0), (2, .c (.ptr 1 0)), (3, ai (1 + x1)), (4, .c (.ptr 2 0)), (5, ai M), (6, ab false), (7, ai a), (11, ai y'.1)], h := [(0, .box zI (cur code y'.2.1 y'.2.2)), (1, .box zJ [.nl 1, .d (.str ⟨#[]⟩), .nl 1, .nl 1]), (2, .box zJ [.ref 3 0 none, .d (.str ⟨#[121]⟩), .ref 4 0 none, .ref 5 0 none]), (3, .arr yE 1 0 .own (eL cS (abcd.take (1 + x1).toNat))), (4, z0V (rs ++ [ss])), (5, .arr zW 1 0 .own (eL cI ys))], n := 6, N := 84 }) rfl ?_ ?_
            · repeat' first
                | (refine zR rfl ?_; (conv => whnf))
                | (refine zQ rfl ?_ ?_ <;> (conv => whnf))
                | (refine zC rfl ?_ ?_ ?_ <;> (conv => whnf))
                | (refine zFx (k := rs.length) (q := 0) (by simp) (show (rs ++ [ss])[rs.length]? = some ss by simp) rfl (by omega) ?_; (conv => whnf))
                | (refine zKu (k := rs.length) (q := 0) (by simp) (show (rs ++ [ss])[rs.length]? = some ss by simp) (by simp) hs0 ?_; (conv => whnf))
                | (refine .inr (.inr (.inr (.inr (.inl ⟨0, ?_⟩)))); (conv => whnf); refine ⟨_, _, _, _, _, _, zA code i9 u9 5 hi9 hl, fun ⟨z, ib, ub⟩ ⟨hz, hib⟩ => ⟨rfl, ?_⟩⟩; dsimp only at hz hib; (conv => whnf))
              all_goals
                refine zP rfl ?_
                refine ⟨(wAdd .i64 (wMul .i64 s0 2) (wMul .i64 100 z), ib, ub), ⟨zJy ((hs4 s0 (List.mem_of_getElem? hs0)).2.2 rfl) ⟨hz.1, hz.2.1 (by decide)⟩, hib⟩, ?_⟩
                conv => whnf
            · intro ⟨yv, ib, ub⟩ ⟨hyb, hib⟩
              dsimp only at hyb hib
              conv => whnf
              refine And.intro (by simp [z7]; omega) ?_
              conv => whnf
              refine ⟨(a + 1, rs ++ [ss], ys ++ [yv], ib, ub), by dsimp only; omega, ⟨by dsimp only; omega, by simp; omega, by simp; omega, fun r hr => ?_, fun r hr x hx => ?_, fun v hv => ?_, hib⟩, ?_⟩
              · rcases List.mem_append.1 hr with hr | hr
                · exact hrs r hr
                · simp at hr; rw [hr]; omega
              · rcases List.mem_append.1 hr with hr | hr
                · exact hrv r hr x hx
                · simp at hr; rw [hr] at hx; exact ⟨(hs4 x hx).1, (hs4 x hx).2.1⟩
              · rcases List.mem_append.1 hv with hv | hv
                · exact hyv v hv
                · simp at hv; rw [hv]; exact hyb
              ((conv => whnf); simp only [eS, wI (show a < 40 by omega) (by omega)])
              simp only [z7]
              rw [← zY]
              first | exact ⟨rfl, rfl⟩ | rfl
    · refine ⟨(⟨(abcd.take (1 + x1).toNat), ⟨#[121]⟩, rs, ys⟩, i6, u6), ⟨⟨by simp [abcd]; omega, by simp [abcd]; omega, fun s hs => ?_, by dsimp only; decide, by dsimp only; omega, by dsimp only; omega, fun r hr => by rw [hrs r hr]; simp [abcd]; omega, by dsimp only; omega, ⟨(1 + x1).toNat, by omega, by omega, rfl⟩, rfl, hrv, hyv⟩, hi6⟩, ?_⟩
      · have : s ∈ abcd := List.mem_of_mem_take hs
        simp [abcd] at this
        rcases this with rfl | rfl | rfl | rfl <;> decide
      · (conv => whnf)
        first | done | rfl
  | false =>
    conv => whnf
    obtain ⟨M, hM, hMm⟩ : ∃ M : Int, wAdd .i64 1 x2 = M ∧ (1 ≤ M ∧ M ≤ 40) := ⟨1 + x2, y1 (by omega) (by omega), by omega⟩
    refine .inr (.inr (.inr (.inr (.inl ⟨0, ?_⟩))))
    conv => whnf
    refine ⟨_, _, _, _, _, _, zi code i3 u3 12 hi3 hl, fun ⟨b2, i5, u5⟩ hi5 => ⟨rfl, ?_⟩⟩
    dsimp only at hi5
    conv => whnf
    rw [hM]
    refine zC6 5 2 z0Z 1 [zW] ?_
    conv => whnf
    refine z1H 5 3 zW 1 ?_
    conv => whnf
    refine zB hTn [0, 2, 3, 4, 5, 6, 7] (α := Nat × List (List Int) × List Int × Int × Int) (fun x' => { t := [(0, .w (.ptr 0 0) v0), (2, .c (.ptr 1 0)), (3, ai (1 + x1)), (4, .c (.ptr 2 0)), (5, ai M), (6, ab b2), (7, ai x'.1)], h := [(0, .box zI (cur code x'.2.2.2.1 x'.2.2.2.2)), (1, .box zJ [.nl 1, .d (.str ⟨#[]⟩), .nl 1, .nl 1]), (2, .box zJ [.ref 3 0 none, .d (.str ⟨#[121]⟩), .ref 4 0 none, .ref 5 0 none]), (3, .arr yE 1 0 .own (eL cS (abcd.take (1 + x1).toNat))), (4, z0V x'.2.1), (5, .arr zW 1 0 .own (eL cI x'.2.2.1))], n := 6, N := 84 })
      (fun x' => (x'.1 : Int) ≤ M ∧ x'.2.1.length = x'.1 ∧ x'.2.2.1.length = x'.1 ∧ (∀ r ∈ x'.2.1, r.length = (1 + x1).toNat) ∧ (∀ r ∈ x'.2.1, ∀ x ∈ r, -2147483647 ≤ x ∧ x ≤ 2147483647) ∧ (∀ v ∈ x'.2.2.1, -2147483647 ≤ v ∧ v ≤ 2147483647) ∧ yV code x'.2.2.2) (fun x' => M.toNat - x'.1) (0, [], [], i5, u5) (by (conv => whnf); simp only [z0V, wE, zg]; rfl) ⟨by dsimp only; omega, rfl, rfl, fun r hr => absurd hr (by simp), fun r hr => absurd hr (by simp), fun v hv => absurd hv (by simp), hi5⟩ ?_
    intro ⟨a, rs, ys, i6, u6⟩ ⟨ha, har, hay, hrs, hrv, hyv, hi6⟩
    dsimp only at ha har hay hrs hrv hyv hi6
    conv => whnf
    refine zK (fun q1 => ?_) (fun q1 => ?_) <;> (conv => whnf) <;> simp only [eH] at q1
    · refine zB hTn [0, 2, 3, 4, 5, 6, 7, 8, 9] (α := List Int × Int × Int) (fun y' =>
          { t := [(0, .w (.ptr 0 0) v0), (2, .c (.ptr 1 0)), (3, ai (1 + x1)), (4, .c (.ptr 2 0)), (5, ai M), (6, ab b2), (7, ai a), (8, .c (.ref 6 0 none)), (9, ai y'.1.length)], h := [(0, .box zI (cur code y'.2.1 y'.2.2)), (1, .box zJ [.nl 1, .d (.str ⟨#[]⟩), .nl 1, .nl 1]), (2, .box zJ [.ref 3 0 none, .d (.str ⟨#[121]⟩), .ref 4 0 none, .ref 5 0 none]), (3, .arr yE 1 0 .own (eL cS (abcd.take (1 + x1).toNat))), (4, z0V rs), (5, .arr zW 1 0 .own (eL cI ys)), (6, .arr zW 1 0 .own (eL cI y'.1))], n := 7, N := 84 })
        (fun y' => (y'.1.length : Int) ≤ 1 + x1 ∧ (∀ x ∈ y'.1, -2147483647 ≤ x ∧ x ≤ 2147483647 ∧ (b2 = false → -1500 ≤ x ∧ x ≤ 1500)) ∧ yV code y'.2) (fun y' => (1 + x1).toNat - y'.1.length) ([], i6, u6) (by (conv => whnf); simp only [zg]; rfl) ⟨by simp; omega, fun x hx => absurd hx (by simp), hi6⟩ ?_
      intro ⟨ss, i7, u7⟩ ⟨hs1, hs4, hi7⟩
      dsimp only at hs1 hs4 hi7
      conv => whnf
      refine zK (fun hs3 => ?_) (fun hs3 => ?_) <;> (conv => whnf) <;> simp only [eH] at hs3
      ·
        refine .inr (.inr (.inr (.inr (.inl ⟨0, ?_⟩))))
        conv => whnf
        refine ⟨_, _, _, _, _, _, yJ code i7 u7 hi7 hl, fun ⟨z8, i8, u8⟩ ⟨gz8, hi8⟩ => ⟨rfl, ?_⟩⟩
        dsimp only at gz8 hi8
        conv => whnf
        cases b2 with
        | true =>
          conv => whnf
          refine And.intro (by simp [z7]; omega) ?_
          conv => whnf
          have hs5 : ∀ x ∈ ss ++ [z8], -2147483647 ≤ x ∧ x ≤ 2147483647 ∧ (true = false → -1500 ≤ x ∧ x ≤ 1500) := fun x hx => by
            rcases List.mem_append.1 hx with hx | hx
            · exact hs4 x hx
            · simp at hx; rw [hx]; exact ⟨gz8.1, gz8.2, fun h => by cases h⟩
          refine ⟨(ss ++ [z8], i8, u8), by simp; omega, ⟨by simp; omega, hs5, hi8⟩, ?_⟩
          ((conv => whnf); simp only [eS, wI (show ss.length < 40 by omega) (by omega)])
          simp only [z7, List.length_append, List.length_cons, List.length_nil]
          rw [← zY]
          first | exact ⟨rfl, trivial⟩ | exact ⟨trivial, rfl⟩ | exact ⟨rfl, rfl⟩ | rfl
        | false =>
          conv => whnf
          refine .inr (.inr (.inr (.inr (.inl ⟨0, ?_⟩))))
          conv => whnf
          refine ⟨_, _, _, _, _, _, zA code i8 u8 7 hi8 hl, fun ⟨z9, i9, u9⟩ ⟨gz9, hi9⟩ => ⟨rfl, ?_⟩⟩
          dsimp only at gz9 hi9
          conv => whnf
          refine And.intro (by simp [z7]; omega) ?_
          conv => whnf
          have hs5 : ∀ x ∈ ss ++ [wMul .i64 500 (wSub .i64 z9 3)], -2147483647 ≤ x ∧ x ≤ 2147483647 ∧ (false = false → -1500 ≤ x ∧ x ≤ 1500) := fun x hx => by
            rcases List.mem_append.1 hx with hx | hx
            · exact hs4 x hx
            · simp at hx; rw [hx]; exact (by have := v500 ⟨gz9.1, gz9.2.1 (by decide)⟩; exact ⟨by omega, by omega, fun _ => this⟩)
          refine ⟨(ss ++ [wMul .i64 500 (wSub .i64 z9 3)], i9, u9), by simp; omega, ⟨by simp; omega, hs5, hi9⟩, ?_⟩
          ((conv => whnf); simp only [eS, wI (show ss.length < 40 by omega) (by omega)])
          simp only [z7, List.length_append, List.length_cons, List.length_nil]
          rw [← zY]
          first | exact ⟨rfl, trivial⟩ | exact ⟨trivial, rfl⟩ | exact ⟨rfl, rfl⟩ | rfl
      · refine ⟨z0j _, ?_⟩
        conv => whnf
        refine And.intro (by simp [zF, zS]; omega) ?_
        conv => whnf
        rw [show dApp (eL cIs rs) [[D.sl 1 (eL cI ss)]] = eL cIs (rs ++ [ss]) from zY cIs rs ss]
        conv => whnf
        refine .inr (.inr (.inr (.inr (.inl ⟨0, ?_⟩))))
        conv => whnf
        refine ⟨_, _, _, _, _, _, yJ code i7 u7 hi7 hl, fun ⟨z8, i8, u8⟩ ⟨gz8, hi8⟩ => ⟨rfl, ?_⟩⟩
        dsimp only at gz8 hi8
        conv => whnf
        cases b2 with
        | true =>
          conv => whnf
          refine And.intro (by simp [z7]; omega) ?_
          conv => whnf
          refine ⟨(a + 1, rs ++ [ss], ys ++ [z8], i8, u8), by dsimp only; omega, ⟨by dsimp only; omega, by simp; omega, by simp; omega, fun r hr => ?_, fun r hr x hx => ?_, fun v hv => ?_, hi8⟩, ?_⟩
          · rcases List.mem_append.1 hr with hr | hr
            · exact hrs r hr
            · simp at hr; rw [hr]; omega
          · rcases List.mem_append.1 hr with hr | hr
            · exact hrv r hr x hx
            · simp at hr; rw [hr] at hx; exact ⟨(hs4 x hx).1, (hs4 x hx).2.1⟩
          · rcases List.mem_append.1 hv with hv | hv
            · exact hyv v hv
            · simp at hv; rw [hv]; exact ⟨gz8.1, gz8.2⟩
          ((conv => whnf); simp only [eS, wI (show a < 40 by omega) (by omega)])
          simp only [z7]
          rw [← zY]
          first | exact ⟨rfl, rfl⟩ | rfl
        | false =>
          conv => whnf
          refine .inr (.inr (.inr (.inr (.inl ⟨0, ?_⟩))))
          conv => whnf
          refine ⟨_, _, _, _, _, _, zi code i8 u8 4 hi8 hl, fun ⟨b3, i9, u9⟩ hi9 => ⟨rfl, ?_⟩⟩
          dsimp only at hi9
          cases b3 with
          | true =>
            conv => whnf
            refine And.intro (by simp [z7]; omega) ?_
            conv => whnf
            refine ⟨(a + 1, rs ++ [ss], ys ++ [z8], i9, u9), by dsimp only; omega, ⟨by dsimp only; omega, by simp; omega, by simp; omega, fun r hr => ?_, fun r hr x hx => ?_, fun v hv => ?_, hi9⟩, ?_⟩
            · rcases List.mem_append.1 hr with hr | hr
              · exact hrs r hr
              · simp at hr; rw [hr]; omega
            · rcases List.mem_append.1 hr with hr | hr
              · exact hrv r hr x hx
              · simp at hr; rw [hr] at hx; exact ⟨(hs4 x hx).1, (hs4 x hx).2.1⟩
            · rcases List.mem_append.1 hv with hv | hv
              · exact hyv v hv
              · simp at hv; rw [hv]; exact ⟨gz8.1, gz8.2⟩
            ((conv => whnf); simp only [eS, wI (show a < 40 by omega) (by omega)])
            simp only [z7]
            rw [← zY]
            first | exact ⟨rfl, rfl⟩ | rfl
          | false =>
            conv => whnf
            obtain ⟨s0, hs0⟩ := zH (show 0 < ss.length by omega)
            refine yY hTn hmix [0, 2, 3, 4, 5, 6, 7, 11] (Y := Int × Int × Int) (fun y' => (-2147483647 ≤ y'.1 ∧ y'.1 ≤ 2147483647) ∧ yV code y'.2) (fun y' => { t := [(0, .w (.ptr 0 0) v0), (2, .c (.ptr 1 0)), (3, ai (1 + x1)), (4, .c (.ptr 2 0)), (5, ai M), (6, ab false), (7, ai a), (11, ai y'.1)], h := [(0, .box zI (cur code y'.2.1 y'.2.2)), (1, .box zJ [.nl 1, .d (.str ⟨#[]⟩), .nl 1, .nl 1]), (2, .box zJ [.ref 3 0 none, .d (.str ⟨#[121]⟩), .ref 4 0 none, .ref 5 0 none]), (3, .arr yE 1 0 .own (eL cS (abcd.take (1 + x1).toNat))), (4, z0V (rs ++ [ss])), (5, .arr zW 1 0 .own (eL cI ys))], n := 6, N := 84 }) rfl ?_ ?_
            · repeat' first
                | (refine zR rfl ?_; (conv => whnf))
                | (refine zQ rfl ?_ ?_ <;> (conv => whnf))
                | (refine zC rfl ?_ ?_ ?_ <;> (conv => whnf))
                | (refine zFx (k := rs.length) (q := 0) (by simp) (show (rs ++ [ss])[rs.length]? = some ss by simp) rfl (by omega) ?_; (conv => whnf))
                | (refine zKu (k := rs.length) (q := 0) (by simp) (show (rs ++ [ss])[rs.length]? = some ss by simp) (by simp) hs0 ?_; (conv => whnf))
                | (refine .inr (.inr (.inr (.inr (.inl ⟨0, ?_⟩)))); (conv => whnf); refine ⟨_, _, _, _, _, _, zA code i9 u9 5 hi9 hl, fun ⟨z, ib, ub⟩ ⟨hz, hib⟩ => ⟨rfl, ?_⟩⟩; dsimp only at hz hib; (conv => whnf))
              all_goals
                refine zP rfl ?_
                refine ⟨(wAdd .i64 (wMul .i64 s0 2) (wMul .i64 100 z), ib, ub), ⟨zJy ((hs4 s0 (List.mem_of_getElem? hs0)).2.2 rfl) ⟨hz.1, hz.2.1 (by decide)⟩, hib⟩, ?_⟩
                conv => whnf
            · intro ⟨yv, ib, ub⟩ ⟨hyb, hib⟩
              dsimp only at hyb hib
              conv => whnf
              refine And.intro (by simp [z7]; omega) ?_
              conv => whnf
              refine ⟨(a + 1, rs ++ [ss], ys ++ [yv], ib, ub), by dsimp only; omega, ⟨by dsimp only; omega, by simp; omega, by simp; omega, fun r hr => ?_, fun r hr x hx => ?_, fun v hv => ?_, hib⟩, ?_⟩
              · rcases List.mem_append.1 hr with hr | hr
                · exact hrs r hr
                · simp at hr; rw [hr]; omega
              · rcases List.mem_append.1 hr with hr | hr
                · exact hrv r hr x hx
                · simp at hr; rw [hr] at hx; exact ⟨(hs4 x hx).1, (hs4 x hx).2.1⟩
              · rcases List.mem_append.1 hv with hv | hv
                · exact hyv v hv
                · simp at hv; rw [hv]; exact hyb
              ((conv => whnf); simp only [eS, wI (show a < 40 by omega) (by omega)])
              simp only [z7]
              rw [← zY]
              first | exact ⟨rfl, rfl⟩ | rfl
    · refine ⟨(⟨(abcd.take (1 + x1).toNat), ⟨#[121]⟩, rs, ys⟩, i6, u6), ⟨⟨by simp [abcd]; omega, by simp [abcd]; omega, fun s hs => ?_, by dsimp only; decide, by dsimp only; omega, by dsimp only; omega, fun r hr => by rw [hrs r hr]; simp [abcd]; omega, by dsimp only; omega, ⟨(1 + x1).toNat, by omega, by omega, rfl⟩, rfl, hrv, hyv⟩, hi6⟩, ?_⟩
      · have : s ∈ abcd := List.mem_of_mem_take hs
        simp [abcd] at this
        rcases this with rfl | rfl | rfl | rfl <;> decide
      · (conv => whnf)
        first | done | rfl
end Go.H.S
