/- Library, part RA: names, signs, models that are right. -/
import Derived.Test.YtdolkacinfjhcaaGreatLY
import Derived.Test.YtdolkacinfjhcaaGreatLNH
import Derived.Test.YtdolkacinfjhcaaGreatLNC
import Derived.Test.YtdolkacinfjhcaaGreatH31
set_option maxRecDepth 100000
set_option linter.unusedSimpArgs false
set_option linter.unusedVariables false
namespace Go.H.S
open Go Go.Proofs Go.H
attribute [local irreducible] Tri z6 zR zV zY
def z0B (b : UInt8) : Bool := decide (97 ≤ (b.toNat : Int) ∧ (b.toNat : Int) ≤ 122)
def z4y (b : UInt8) : Bool := decide (48 ≤ (b.toNat : Int) ∧ (b.toNat : Int) ≤ 57)
def z64 : List UInt8 → Nat → Bool
 | [], _ => true
 | b :: r, k => (z0B b || (decide (k ≠ 0) && z4y b)) && z64 r (k + 1)
def z01 (s : ByteArray) : Bool := decide (1 ≤ (s.size : Int) ∧ (s.size : Int) ≤ 12) && z64 s.data.toList 0
theorem z7H : ∀ (l : List UInt8) (k : Nat), 0 < k → z64 l k = l.all fun b => z0B b || z4y b
 | [], k, h => rfl
 | b :: r, k, h => by
  simp only [z64, List.all_cons, z7H r (k + 1) (by omega)]
  rw [show decide (k ≠ 0) = true from decide_eq_true (by omega), Bool.true_and]
theorem z5j {s : ByteArray} {n : Int} {k : Nat} {b : UInt8} {K : UInt8 → Prop} (hn : n = (k : Int)) (hb : s.data.toList[k]? = some b) (h : K b) : InB n s.size ∧ ∀ c, AtB s (nOf n) c → K c := by
 subst hn
 have hlt := (List.getElem?_eq_some_iff.1 hb).1
 refine ⟨by simp; exact hlt, fun c hc => ?_⟩
 have hc' : s.data.toList[nOf (k : Int)]? = some c := by unfold AtB at hc; exact hc
 rw [z1B, Int.toNat_natCast, hb] at hc'
 cases hc'
 exact h
theorem zEa {s : ByteArray} {k : Nat} (h : k < s.size) : ∃ b, s.data.toList[k]? = some b := zI (l := s.data.toList) (by simpa using h)
theorem zEd (b : UInt8) : bInt b = (b.toNat : Int) := by unfold bInt; rfl
theorem zMm (b : UInt8) : 0 ≤ bInt b ∧ bInt b < 256 := by rw [zEd]; have := b.toNat_lt; omega
theorem zC5 (b : UInt8) : z2K .i64 (bInt b) = bInt b := by
 have := zMm b
 unfold z2K
 exact z7v (by omega) (by omega)
theorem zDG (b : UInt8) : z0B b = decide (97 ≤ bInt b ∧ bInt b ≤ 122) := by rw [zEd]; rfl
theorem zGT (b : UInt8) : z4y b = decide (48 ≤ bInt b ∧ bInt b ≤ 57) := by rw [zEd]; rfl
theorem z59 {s : ByteArray} {b : UInt8} (h : s.data.toList[0]? = some b) : ∃ r, s.data.toList = b :: r := by
 generalize s.data.toList = l at *
 cases l with
 | nil => simp at h
 | cons x r => simp at h; subst h; exact ⟨r, rfl⟩
theorem z3K (s : ByteArray) (hs : s.size ≤ 9223372036854775807) : z6 PR zDh [aS s] (ab (z01 s)) [] 0 := by
 have hsz : s.data.toList.length = s.size := by simp
 refine z6.intro hT (pf Tryz.func159) rfl (by kernel_rfl) Tryz.ntmps159 rfl ?_
 conv => whnf
 refine .inl ⟨_, _, _, zS _ _ _, rfl, ?_⟩
 conv => whnf
 refine zK (fun h1 => ?_) (fun h1 => ?_) <;> (conv => whnf) <;> simp only [eH] at h1
 ·have : decide (1 ≤ (s.size : Int) ∧ (s.size : Int) ≤ 12) = false := by simpa using h1
  simp [z01, this]
 have hno : z01 s = z64 s.data.toList 0 := by simp only [z01]; rw [h1]; rfl
 have h1' := of_decide_eq_true h1
 obtain ⟨b0, hb0⟩ := zEa (s := s) (k := 0) (by omega)
 refine z5j (k := 0) rfl hb0 ?_
 conv => whnf
 refine zK (fun h2 => ?_) (fun h2 => ?_) <;> (conv => whnf) <;> simp only [eH] at h2
 ·obtain ⟨r, hr⟩ := z59 hb0
  have hl : z0B b0 = false := by rw [zDG]; exact decide_eq_false (by omega)
  rw [hno, hr, z64, hl]
  rfl
 refine zB hT [0, 3] (α := Nat) (fun k => { t := [(0, aS s), (3, ai k)], h := [], n := 0, N := 33 })
  (fun k => k ≤ s.size ∧ ((s.data.toList.drop k).all fun b => z0B b || z4y b) = (s.data.toList.all fun b => z0B b || z4y b)) (fun k => s.size - k) 0 (by ((conv => whnf); simp only [eS])) ⟨Nat.zero_le _, rfl⟩ ?_
 intro k ⟨hk, hn⟩
 conv => whnf
 refine zK (fun h3 => ?_) (fun h3 => ?_) <;> (conv => whnf) <;> simp at h3
 ·obtain ⟨b, hb⟩ := zEa h3
  rw [yj hb, List.all_cons] at hn
  refine z5j (k := k) rfl hb ?_
  conv => whnf
  refine .inl ⟨_, _, _, zS _ _ _, rfl, ?_⟩
  rw [zC5, ← zDG]
  conv => whnf
  have hbad : z0B b = false → z4y b = false → z01 s = false := fun p1 p2 => by
   rw [p1, p2] at hn
   obtain ⟨r, hr⟩ := z59 hb0
   rw [hno, hr, z64, z7H _ _ (by omega)]
   rw [hr, List.all_cons] at hn
   simp only [Bool.or_self, Bool.false_and] at hn
   cases hq : (r.all fun b => z0B b || z4y b) with
   | false => simp
   | true =>
    rw [hq, Bool.and_true] at hn
    have hb0n : z0B b0 = false := by
     cases hq2 : z0B b0 with
     | false => rfl
     | true => rw [hq2] at hn; simp at hn
    rw [hb0n]; rfl
  cases hl : z0B b
  ·conv => whnf
   refine z5j (k := k) rfl hb ?_
   conv => whnf
   refine .inl ⟨_, _, _, zS _ _ _, rfl, ?_⟩
   rw [zC5, ← zGT]
   conv => whnf
   cases hd : z4y b
   ·conv => whnf
    rw [hbad hl hd]
   ·conv => whnf
    refine ⟨k + 1, by omega, ⟨h3, by rw [hl, hd] at hn; simpa using hn⟩, ?_⟩
    ((conv => whnf); simp only [eS, wI h3 (by omega)])
  ·conv => whnf
   refine ⟨k + 1, by omega, ⟨h3, by rw [hl] at hn; simpa using hn⟩, ?_⟩
   ((conv => whnf); simp only [eS, wI h3 (by omega)])
 ·obtain rfl : k = s.size := by omega
  rw [← hsz, List.drop_length] at hn
  obtain ⟨r, hr⟩ := z59 hb0
  rw [hr] at hn
  simp only [List.all_nil, List.all_cons] at hn
  have hn' := hn.symm
  simp only [Bool.and_eq_true] at hn'
  have hl : z0B b0 = true := by
   have h4 := hn'.1
   simp only [Bool.or_eq_true] at h4
   rcases h4 with h4 | h4
   ·exact h4
   ·rw [zGT, decide_eq_true_eq] at h4; omega
  have : z01 s = true := by rw [hno, hr, z64, z7H _ _ (by omega), hl, hn'.2]; rfl
  rw [this]
theorem z8h (s : ByteArray) (hs : s.size ≤ 9223372036854775807) : z6 PR zEC [aS s] (ab (z01 s)) [] 0 := by
 refine z6.intro hT (pf Tryz.func301) rfl (by kernel_rfl) Tryz.ntmps301 rfl ?_
 conv => whnf
 refine zB hT [0, 6, 7] (α := Nat) (fun k => { t := [(0, aS s), (6, ai s.size), (7, ai k)], h := [], n := 0, N := 42 })
  (fun k => k ≤ s.size ∧ z64 (s.data.toList.drop k) k = z64 s.data.toList 0) (fun k => s.size - k) 0 (by ((conv => whnf); simp only [eS])) ⟨Nat.zero_le _, rfl⟩ ?_
 intro k ⟨hk, hn⟩
 conv => whnf
 refine zK (fun h1 => ?_) (fun h1 => ?_) <;> (conv => whnf) <;> simp at h1
 ·obtain ⟨b, hb⟩ := zEa h1
  rw [yj hb, z64] at hn
  have hbad : (z0B b || (decide (k ≠ 0) && z4y b)) = false → z01 s = false := fun p => by
   rw [p, Bool.false_and] at hn
   simp [z01, ← hn]
  have hgood : (z0B b || (decide (k ≠ 0) && z4y b)) = true → z64 (s.data.toList.drop (k + 1)) (k + 1) = z64 s.data.toList 0 := fun p => by
   rw [p, Bool.true_and] at hn
   exact hn
  rw [zDG, zGT] at hbad hgood
  refine z5j (k := k) rfl hb ?_
  conv => whnf
  generalize e1 : iLe 97 (bInt b) = c1
  cases c1 <;> (conv => whnf)
  ·have h97 : ¬ 97 ≤ bInt b := by simpa [iLe] using e1
   have hnl : decide (97 ≤ bInt b ∧ bInt b ≤ 122) = false := decide_eq_false (by omega)
   generalize e3 : iEq (k : Int) 0 = c3
   cases c3 <;> (conv => whnf)
   ·have hk0 : ¬ k = 0 := by intro h; subst h; simp [iEq] at e3
    refine z5j (k := k) rfl hb ?_
    conv => whnf
    generalize e4 : iLt (bInt b) 48 = c4
    cases c4 <;> (conv => whnf)
    ·refine z5j (k := k) rfl hb ?_
     conv => whnf
     generalize e5 : iLt 57 (bInt b) = c5
     cases c5 <;> (conv => whnf)
     ·refine ⟨k + 1, by omega, ⟨h1, hgood ?_⟩, ?_⟩
      ·have h48 : ¬ bInt b < 48 := by simpa [iLt] using e4
       have h57 : ¬ 57 < bInt b := by simpa [iLt] using e5
       rw [decide_eq_true hk0, decide_eq_true (show 48 ≤ bInt b ∧ bInt b ≤ 57 by omega)]
       simp
      ·((conv => whnf); simp only [eS, wI h1 hs])
     ·have h57 : 57 < bInt b := by simpa [iLt] using e5
      rw [hbad (by rw [hnl, decide_eq_false (show ¬ (48 ≤ bInt b ∧ bInt b ≤ 57) by omega)]; simp)]
    ·have h48 : bInt b < 48 := by simpa [iLt] using e4
     rw [hbad (by rw [hnl, decide_eq_false (show ¬ (48 ≤ bInt b ∧ bInt b ≤ 57) by omega)]; simp)]
   ·have hk0 : k = 0 := by simpa [iEq] using e3
    rw [hbad (by rw [hnl]; simp [hk0])]
  ·have h97 : 97 ≤ bInt b := by simpa [iLe] using e1
   refine z5j (k := k) rfl hb ?_
   conv => whnf
   generalize e2 : iLe (bInt b) 122 = c2
   cases c2 <;> (conv => whnf)
   ·have h122 : ¬ bInt b ≤ 122 := by simpa [iLe] using e2
    have hnl : decide (97 ≤ bInt b ∧ bInt b ≤ 122) = false := decide_eq_false (by omega)
    generalize e3 : iEq (k : Int) 0 = c3
    cases c3 <;> (conv => whnf)
    ·have hk0 : ¬ k = 0 := by intro h; subst h; simp [iEq] at e3
     refine z5j (k := k) rfl hb ?_
     conv => whnf
     generalize e4 : iLt (bInt b) 48 = c4
     cases c4 <;> (conv => whnf)
     ·refine z5j (k := k) rfl hb ?_
      conv => whnf
      generalize e5 : iLt 57 (bInt b) = c5
      cases c5 <;> (conv => whnf)
      ·refine ⟨k + 1, by omega, ⟨h1, hgood ?_⟩, ?_⟩
       ·have h48 : ¬ bInt b < 48 := by simpa [iLt] using e4
        have h57 : ¬ 57 < bInt b := by simpa [iLt] using e5
        rw [decide_eq_true hk0, decide_eq_true (show 48 ≤ bInt b ∧ bInt b ≤ 57 by omega)]
        simp
       ·((conv => whnf); simp only [eS, wI h1 hs])
      ·have h57 : 57 < bInt b := by simpa [iLt] using e5
       rw [hbad (by rw [hnl, decide_eq_false (show ¬ (48 ≤ bInt b ∧ bInt b ≤ 57) by omega)]; simp)]
     ·have h48 : bInt b < 48 := by simpa [iLt] using e4
      rw [hbad (by rw [hnl, decide_eq_false (show ¬ (48 ≤ bInt b ∧ bInt b ≤ 57) by omega)]; simp)]
    ·have hk0 : k = 0 := by simpa [iEq] using e3
     rw [hbad (by rw [hnl]; simp [hk0])]
   ·have h122 : bInt b ≤ 122 := by simpa [iLe] using e2
    refine ⟨k + 1, by omega, ⟨h1, hgood (by rw [decide_eq_true (show 97 ≤ bInt b ∧ bInt b ≤ 122 by omega)]; rfl)⟩, ?_⟩
    ((conv => whnf); simp only [eS, wI h1 hs])
 ·obtain rfl : k = s.size := by omega
  refine .inl ⟨_, _, _, zP _ _ _, rfl, ?_⟩
  rw [zD4]
  have hd : s.data.toList.drop s.size = [] := List.drop_eq_nil_of_le (by simp)
  rw [hd] at hn
  have : z01 s = decide (1 ≤ (s.size : Int) ∧ (s.size : Int) ≤ 12) := by simp [z01, ← hn, z64]
  rw [this]
  conv => whnf
def hasS (x : ByteArray) (l : List ByteArray) : Bool := l.any fun y => decide (x = y)
def yq (all : List ByteArray) : List ByteArray → Nat → Bool
 | [], _ => true
 | s :: r, k => (z01 s && !hasS s (all.take k)) && yq all r (k + 1)
theorem zFf {α : Type} (f : α → List D) (xs : List α) (k : Nat) : dCut (eL f xs) (nOf 0) (nOf (k : Int)) = eL f (xs.take k) := by simp [dCut, eL, List.map_take]
theorem z3h (l : List ByteArray) (x : ByteArray) (hl : l.length ≤ 9223372036854775807) : z6 PR zFT [aSs l, aS x] (ab (hasS x l)) [] 0 := by
 refine z6.intro hT (pf Tryz.func160) rfl (by kernel_rfl) Tryz.ntmps160 rfl ?_
 conv => whnf
 refine zB hT [0, 1, 5] (α := Nat) (fun k => { t := [(0, aSs l), (1, aS x), (5, ai k)], h := [], n := 0, N := 18 })
  (fun k => k ≤ l.length ∧ hasS x (l.drop k) = hasS x l) (fun k => l.length - k) 0 (by ((conv => whnf); simp only [eS])) ⟨Nat.zero_le _, rfl⟩ ?_
 intro k ⟨hk, hi⟩
 conv => whnf
 refine zK (fun h1 => ?_) (fun h1 => ?_) <;> (conv => whnf) <;> simp at h1
 ·obtain ⟨s, hs⟩ := zI h1
  refine zG (by simp) hs ?_
  conv => whnf
  rw [yj hs] at hi
  refine zK (fun h2 => ?_) (fun h2 => ?_) <;> (conv => whnf) <;> simp only [eH] at h2
  ·subst h2
   rw [← hi]
   simp [hasS]
  ·refine ⟨k + 1, by omega, ⟨h1, by rw [← hi]; simp [hasS, Ne.symm h2]⟩, ?_⟩
   ((conv => whnf); simp only [eS, wI h1 hl])
 ·obtain rfl : k = l.length := by omega
  simp only [List.drop_length] at hi
  rw [← hi]
  rfl
theorem z5s (l : List ByteArray) (x : ByteArray) (hl : l.length ≤ 9223372036854775807) : z6 PR z13 [aSs l, aS x] (ai (idxL (fun y => decide (x = y)) l 0)) [] 0 := by
 refine z6.intro hT (pf Tryz.func333) rfl (by kernel_rfl) Tryz.ntmps333 rfl ?_
 conv => whnf
 refine zB hT [0, 1, 7, 8] (α := Nat) (fun k => { t := [(0, aSs l), (1, aS x), (7, ai l.length), (8, ai k)], h := [], n := 0, N := 19 })
  (fun k => k ≤ l.length ∧ idxL (fun y => decide (x = y)) (l.drop k) k = idxL (fun y => decide (x = y)) l 0) (fun k => l.length - k) 0 (by ((conv => whnf); simp only [eS])) ⟨Nat.zero_le _, rfl⟩ ?_
 intro k ⟨hk, hi⟩
 conv => whnf
 refine zK (fun h1 => ?_) (fun h1 => ?_) <;> (conv => whnf) <;> simp at h1
 ·obtain ⟨s, hs⟩ := zI h1
  refine zG (by simp) hs ?_
  conv => whnf
  rw [yj hs, idxL] at hi
  refine zK (fun h2 => ?_) (fun h2 => ?_) <;> (conv => whnf) <;> simp only [eH] at h2
  ·rw [if_pos (by simpa using h2)] at hi
   ((conv => whnf); simp only [eS, hi])
  ·rw [if_neg (by simpa using h2)] at hi
   refine ⟨k + 1, by omega, ⟨h1, hi⟩, ?_⟩
   ((conv => whnf); simp only [eS, wI h1 hl])
 ·obtain rfl : k = l.length := by omega
  simp only [List.drop_length, idxL] at hi
  ((conv => whnf); simp only [eS, ← hi])
theorem z3k (l : List ByteArray) (x : ByteArray) (hl : l.length ≤ 9223372036854775807) : z6 PR z0R [aSs l, aS x] (ab (hasS x l)) [] 0 := by
 refine z6.intro hT (pf Tryz.func302) rfl (by kernel_rfl) Tryz.ntmps302 rfl ?_
 conv => whnf
 refine .inl ⟨_, _, _, z5s l x hl, rfl, ?_⟩
 have h := z6Q (fun y => decide (x = y)) l 0
 ((conv => whnf); simp only [eS, iLe])
 rw [Bool.eq_iff_iff, decide_eq_true_eq]
 exact h
theorem z6B (l : List ByteArray) (hl : l.length ≤ 1048576) (hs : ∀ s ∈ l, s.size ≤ 9223372036854775807) : z6 PR z42 [aSs l] (ab (yq l l 0)) [] 0 := by
 refine z6.intro hT (pf Tryz.func251) rfl (by kernel_rfl) Tryz.ntmps251 rfl ?_
 conv => whnf
 refine zB hT [0, 5, 6, 7] (α := Nat) (fun k => { t := [(0, aSs l), (5, aSs l), (6, ai l.length), (7, ai k)], h := [], n := 0, N := 23 })
  (fun k => k ≤ l.length ∧ yq l (l.drop k) k = yq l l 0) (fun k => l.length - k) 0 (by ((conv => whnf); simp only [eS])) ⟨Nat.zero_le _, rfl⟩ ?_
 intro k ⟨hk, hi⟩
 conv => whnf
 refine zK (fun h1 => ?_) (fun h1 => ?_) <;> (conv => whnf) <;> simp at h1
 ·obtain ⟨s, hs'⟩ := zI h1
  rw [yj hs', yq] at hi
  refine zG (by simp) hs' ?_
  conv => whnf
  refine .inl ⟨_, _, _, z8h s (hs s (List.mem_of_getElem? hs')), rfl, ?_⟩
  conv => whnf
  cases hb : z01 s <;> (conv => whnf)
  ·rw [hb] at hi
   rw [← hi]
   simp
  ·rw [hb, Bool.true_and] at hi
   refine And.intro (by simp; omega) ?_
   rw [zFf]
   conv => whnf
   refine .inl ⟨_, _, _, z3k (l.take k) s (by simp; omega), rfl, ?_⟩
   conv => whnf
   cases hh : hasS s (l.take k) <;> (conv => whnf)
   ·rw [hh] at hi
    refine ⟨k + 1, by omega, ⟨h1, by simpa using hi⟩, ?_⟩
    ((conv => whnf); simp only [eS, wI h1 (by omega)])
   ·rw [hh] at hi
    rw [← hi]
    rfl
 ·obtain rfl : k = l.length := by omega
  simp only [List.drop_length, yq] at hi
  rw [← hi]
theorem z8a (x : Int) : z6 PR zE1 [ai x] (ab (decide (-1 ≤ x ∧ x ≤ 1))) [] 0 := by
 refine z6.intro hT (pf Tryz.func232) rfl (by kernel_rfl) Tryz.ntmps232 rfl ?_
 conv => whnf
 refine .inl ⟨_, _, _, zP _ _ _, rfl, ?_⟩
 conv => whnf
end Go.H.S
namespace Go.H.S
open Go Go.Proofs Go.H
attribute [local irreducible] Tri z6 zR zV zY
abbrev cB (b : Int × Int) : List CV := [.d (.int .i64 b.1), .d (.int .i64 b.2)]
abbrev aB (b : Int × Int) : AV := .agg (cB b)
def yI (b : Int × Int) : Prop := b.1 ≤ b.2 ∧ (-1099511627776 ≤ b.1 ∧ b.1 ≤ 1099511627776) ∧ (-1099511627776 ≤ b.2 ∧ b.2 ≤ 1099511627776)
instance (b : Int × Int) : Decidable (yI b) := by unfold yI; infer_instance
theorem z2h (b : Int × Int) : z6 PR zBw [aB b] (ab (decide (yI b))) [] 0 := by
 refine z6.intro hT (pf Tryz.func215) rfl (by kernel_rfl) Tryz.ntmps215 rfl ?_
 conv => whnf
 cases h1 : iLe b.1 b.2
 ·conv => whnf
  rw [decide_eq_false (fun q : yI b => by have := q.1; simp at h1; omega)]
 conv => whnf
 simp at h1
 refine .inl ⟨_, _, _, wN b.1, rfl, ?_⟩
 cases h2 : decide (-1099511627776 ≤ b.1 ∧ b.1 ≤ 1099511627776)
 ·conv => whnf
  rw [decide_eq_false_iff_not] at h2
  rw [decide_eq_false (fun q : yI b => h2 q.2.1)]
 conv => whnf
 rw [decide_eq_true_iff] at h2
 refine .inl ⟨_, _, _, wN b.2, rfl, ?_⟩
 conv => whnf
 rw [decide_eq_decide.2 (show yI b ↔ (-1099511627776 ≤ b.2 ∧ b.2 ≤ 1099511627776) from ⟨fun q => q.2.2, fun q => ⟨by omega, h2, q⟩⟩)]
theorem z2U (b : Int × Int) : z6 PR zBd [aB b] (ab (decide (yI b))) [] 0 := by
 refine z6.intro hT (pf Tryz.func42) rfl (by kernel_rfl) Tryz.ntmps42 rfl ?_
 conv => whnf
 cases h1 : iLe b.1 b.2
 ·conv => whnf
  rw [decide_eq_false (fun q : yI b => by have := q.1; simp at h1; omega)]
 conv => whnf
 simp at h1
 refine .inl ⟨_, _, _, z0X b.1, rfl, ?_⟩
 cases h2 : decide (-1099511627776 ≤ b.1 ∧ b.1 ≤ 1099511627776)
 ·conv => whnf
  rw [decide_eq_false_iff_not] at h2
  rw [decide_eq_false (fun q : yI b => h2 q.2.1)]
 conv => whnf
 rw [decide_eq_true_iff] at h2
 refine .inl ⟨_, _, _, z0X b.2, rfl, ?_⟩
 conv => whnf
 rw [decide_eq_decide.2 (show yI b ↔ (-1099511627776 ≤ b.2 ∧ b.2 ≤ 1099511627776) from ⟨fun q => q.2.2, fun q => ⟨by omega, h2, q⟩⟩)]
theorem z7V (a b : Int) (ha : -4611686018427387904 ≤ a ∧ a ≤ 4611686018427387903) (hb : -4611686018427387904 ≤ b ∧ b ≤ 4611686018427387903) : z6 PR zBt [ai a, ai b] (ai ((a + b) / 2)) [] 0 := by
 refine z6.intro hT (pf Tryz.func227) rfl (by kernel_rfl) Tryz.ntmps227 rfl ?_
 conv => whnf
 refine And.intro (by unfold NN; omega) ?_
 conv => whnf
 refine And.intro (by unfold NN; omega) ?_
 conv => whnf
 rw [zJU ha hb]
theorem z76 (a b : Int) (ha : -4611686018427387904 ≤ a ∧ a ≤ 4611686018427387903) (hb : -4611686018427387904 ≤ b ∧ b ≤ 4611686018427387903) : z6 PR zBa [ai a, ai b] (ai ((a + b) / 2)) [] 0 := by
 refine z6.intro hT (pf Tryz.func228) rfl (by kernel_rfl) Tryz.ntmps228 rfl ?_
 conv => whnf
 refine And.intro (by unfold NN; omega) ?_
 conv => whnf
 rw [zJT ha hb]
abbrev z5h (x : Int) (b : Bool) : AV := .tup [(false, [.d (.int .i64 x)]), (false, [.d (.bool b)])]
theorem zCZ {a b : Int} (hb : 1 ≤ b) : a / b = a.tdiv b - (if a.tmod b ≠ 0 ∧ a < 0 then 1 else 0) := by
 rw [Int.tdiv_eq_ediv]
 have h0 : b ∣ a ↔ a.tmod b = 0 := ⟨fun h => Int.tmod_eq_zero_of_dvd h, fun h => Int.dvd_of_tmod_eq_zero h⟩
 have hs : b.sign = 1 := Int.sign_eq_one_of_pos (by omega)
 rw [hs]
 by_cases h1 : 0 ≤ a <;> by_cases h2 : b ∣ a
 ·rw [if_pos (.inl h1), if_neg (by omega)]; omega
 ·rw [if_pos (.inl h1), if_neg (by omega)]; omega
 ·rw [if_pos (.inr h2), if_neg (fun q => q.1 (h0.1 h2))]; omega
 ·rw [if_neg (by rintro (q | q); exact h1 q; exact h2 q), if_pos ⟨fun q => h2 (h0.2 q), by omega⟩]; omega
theorem z6v {a b : Int} (ha : -4611686018427387904 ≤ a ∧ a ≤ 4611686018427387903) (hb : 1 ≤ b) : -4611686018427387904 ≤ a.tdiv b ∧ a.tdiv b ≤ 4611686018427387904 := by
 have h1 := Int.natAbs_tdiv_le_natAbs a b
 omega
theorem z4E {a b : Int} (ha : -4611686018427387904 ≤ a ∧ a ≤ 4611686018427387903) (hb : 1 ≤ b) : wQuo .i64 a b = a.tdiv b := by
 have := z6v ha hb
 unfold wQuo
 exact z7v (by omega) (by omega)
theorem z0D (a b : Int) (ha : -4611686018427387904 ≤ a ∧ a ≤ 4611686018427387903) (hb : 1 ≤ b ∧ b ≤ 1000000) : z6 PR zAd [ai a, ai b] (z5h (a / b) true) [] 0 := by
 refine z6.intro hT (pf Tryz.func216) rfl (by kernel_rfl) Tryz.ntmps216 rfl ?_
 conv => whnf
 rw [show iEq b 0 = false from decide_eq_false (by omega)]
 conv => whnf
 rw [show iEq a (-9223372036854775808) = false from decide_eq_false (by omega)]
 conv => whnf
 refine And.intro (by unfold NZ; omega) ?_
 conv => whnf
 refine And.intro (by unfold NZ; omega) ?_
 conv => whnf
 rw [zCZ hb.1]
 have hq := z4E ha hb.1
 have hd := z6v (b := b) ha hb.1
 have hm : wRem a b = a.tmod b := by unfold wRem; rfl
 rw [hq, hm]
 by_cases h1 : a.tmod b = 0
 ·rw [show iEq (a.tmod b) 0 = true from decide_eq_true h1]
  conv => whnf
  rw [if_neg (fun q => q.1 h1), Int.sub_zero]
 ·rw [show iEq (a.tmod b) 0 = false from decide_eq_false h1]
  conv => whnf
  rw [show iLt b 0 = false from decide_eq_false (by omega)]
  conv => whnf
  by_cases h2 : a < 0
  ·rw [show iLt a 0 = true from decide_eq_true h2]
   conv => whnf
   rw [if_pos ⟨h1, h2⟩, yB] <;> omega
  ·rw [show iLt a 0 = false from decide_eq_false h2]
   conv => whnf
   rw [if_neg (fun q => h2 q.2), Int.sub_zero]
theorem z07 (a b : Int) (ha : -4611686018427387904 ≤ a ∧ a ≤ 4611686018427387903) (hb : 1 ≤ b ∧ b ≤ 1000000) : z6 PR zAP [ai a, ai b] (z5h (a / b) true) [] 0 := by
 refine z6.intro hT (pf Tryz.func207) rfl (by kernel_rfl) Tryz.ntmps207 rfl ?_
 conv => whnf
 rw [show iEq b 0 = false from decide_eq_false (by omega)]
 conv => whnf
 rw [show iEq b (-1) = false from decide_eq_false (by omega)]
 conv => whnf
 refine And.intro (by unfold NZ; omega) ?_
 conv => whnf
 refine And.intro (by unfold NZ; omega) ?_
 conv => whnf
 rw [zCZ hb.1]
 have hq := z4E ha hb.1
 have hd := z6v (b := b) ha hb.1
 have hm : wRem a b = a.tmod b := by unfold wRem; rfl
 rw [hq, hm]
 by_cases h1 : a.tmod b = 0
 ·rw [show iEq (a.tmod b) 0 = true from decide_eq_true h1]
  conv => whnf
  rw [if_neg (fun q => q.1 h1), Int.sub_zero]
 ·rw [show iEq (a.tmod b) 0 = false from decide_eq_false h1]
  conv => whnf
  rw [show iLt b 0 = false from decide_eq_false (by omega)]
  conv => whnf
  by_cases h2 : a < 0
  ·rw [show iLt a 0 = true from decide_eq_true h2]
   conv => whnf
   rw [if_pos ⟨h1, h2⟩, yB] <;> omega
  ·rw [show iLt a 0 = false from decide_eq_false h2]
   conv => whnf
   rw [if_neg (fun q => h2 q.2), Int.sub_zero]
theorem zBG : z6 PR zGM [] (aB (-1099511627776, 1099511627776)) [] 0 := by
 refine z6.intro hT (pf Tryz.func106) rfl (by kernel_rfl) Tryz.ntmps106 rfl ?_
 conv => whnf
theorem zB9 : z6 PR zGK [] (aB (-1099511627776, 1099511627776)) [] 0 := by
 refine z6.intro hT (pf Tryz.func113) rfl (by kernel_rfl) Tryz.ntmps113 rfl ?_
 conv => whnf
def yQ (c : Cfg) (f : Int) : Int := if 0 ≤ f ∧ f ≤ (c.signs.length : Int) - 1 then (c.signs[f.toNat]?).getD 0 else 0
theorem z2d (c : Cfg) (f : Int) (hc : c.signs.length ≤ 1048576) : z6 PR zBo [aCf c, ai f] (ai (yQ c f)) [] 0 := by
 refine z6.intro hT (pf Tryz.func109) rfl (by kernel_rfl) Tryz.ntmps109 rfl ?_
 conv => whnf
 refine .inl ⟨_, _, _, zP _ _ _, rfl, ?_⟩
 conv => whnf
 rw [show wSub .i64 (nInt (dLen (eL cI c.signs))) 1 = (c.signs.length : Int) - 1 from by rw [show nInt (dLen (eL cI c.signs)) = (c.signs.length : Int) by simp, yB] <;> omega]
 unfold yQ
 by_cases h : 0 ≤ f ∧ f ≤ (c.signs.length : Int) - 1
 ·rw [decide_eq_true h, if_pos h]
  conv => whnf
  obtain ⟨x, hx⟩ := zI (show f.toNat < c.signs.length by omega)
  refine zG (show f = (f.toNat : Int) by omega) hx ?_
  conv => whnf
  rw [hx]; rfl
 ·rw [decide_eq_false h, if_neg h]
  conv => whnf
theorem z2P (c : Cfg) (f : Int) (hc : c.signs.length ≤ 1048576) : z6 PR zBV [aCf c, ai f] (ai (yQ c f)) [] 0 := by
 refine z6.intro hT (pf Tryz.func117) rfl (by kernel_rfl) Tryz.ntmps117 rfl ?_
 conv => whnf
 refine .inl ⟨_, _, _, zS _ _ _, rfl, ?_⟩
 conv => whnf
 rw [show wSub .i64 (nInt (dLen (eL cI c.signs))) 1 = (c.signs.length : Int) - 1 from by rw [show nInt (dLen (eL cI c.signs)) = (c.signs.length : Int) by simp, yB] <;> omega]
 unfold yQ
 by_cases h : 0 ≤ f ∧ f ≤ (c.signs.length : Int) - 1
 ·rw [decide_eq_true h, if_pos h]
  conv => whnf
  obtain ⟨x, hx⟩ := zI (show f.toNat < c.signs.length by omega)
  refine zG (show f = (f.toNat : Int) by omega) hx ?_
  conv => whnf
  rw [hx]; rfl
 ·rw [decide_eq_false h, if_neg h]
  conv => whnf
def z2D (n s lam : Int) (b : Int × Int) : Int := z0f (s / (n + lam)) b.1 b.2
theorem z68 {n s lam : Int} {b : Int × Int} (h : b.1 ≤ b.2) : b.1 ≤ z2D n s lam b ∧ z2D n s lam b ≤ b.2 := by
 unfold z2D z0f
 split
 ·omega
 ·split <;> omega
theorem z2b (n lam : Int) : z6 PR zBl [ai n, ai lam] (ab (decide (0 ≤ n ∧ n ≤ 40) && decide (1 ≤ lam ∧ lam ≤ 100))) [] 0 := by
 refine z6.intro hT (pf Tryz.func214) rfl (by kernel_rfl) Tryz.ntmps214 rfl ?_
 conv => whnf
 refine .inl ⟨_, _, _, zP _ _ _, rfl, ?_⟩
 cases h : decide (0 ≤ n ∧ n ≤ 40)
 ·conv => whnf
  rfl
 conv => whnf
 refine .inl ⟨_, _, _, zP _ _ _, rfl, ?_⟩
 conv => whnf
 rw [Bool.true_and]
theorem wm (n s lam : Int) (b : Int × Int) (hn : 0 ≤ n ∧ n ≤ 40) (hl : 1 ≤ lam ∧ lam ≤ 100) (hs : -4611686018427387904 ≤ s ∧ s ≤ 4611686018427387903) (hb : yI b) :
  z6 PR zEF [aB (n, s), ai lam, aB b] (z5h (z2D n s lam b) true) [] 0 := by
 refine z6.intro hT (pf Tryz.func98) rfl (by kernel_rfl) Tryz.ntmps98 rfl ?_
 conv => whnf
 refine .inl ⟨_, _, _, z2b n lam, rfl, ?_⟩
 rw [decide_eq_true hn, decide_eq_true hl]
 conv => whnf
 refine .inl ⟨_, _, _, z2h b, rfl, ?_⟩
 rw [decide_eq_true hb]
 conv => whnf
 rw [show wAdd .i64 n lam = n + lam from by rw [y6] <;> omega]
 refine .inl ⟨_, _, _, z0D s (n + lam) hs (by omega), rfl, ?_⟩
 conv => whnf
 refine .inl ⟨_, _, _, z2g _ _ _, rfl, ?_⟩
 conv => whnf
 rfl
theorem wi (n s lam : Int) (b : Int × Int) (hn : 0 ≤ n ∧ n ≤ 40) (hl : 1 ≤ lam ∧ lam ≤ 100) (hs : -4611686018427387904 ≤ s ∧ s ≤ 4611686018427387903) (hb : yI b) :
  z6 PR zDj [aB (n, s), ai lam, aB b] (z5h (z2D n s lam b) true) [] 0 := by
 refine z6.intro hT (pf Tryz.func90) rfl (by kernel_rfl) Tryz.ntmps90 rfl ?_
 conv => whnf
 refine .inl ⟨_, _, _, zS _ _ _, rfl, ?_⟩
 rw [decide_eq_true hn]
 conv => whnf
 refine .inl ⟨_, _, _, zS _ _ _, rfl, ?_⟩
 rw [decide_eq_true hl]
 conv => whnf
 refine .inl ⟨_, _, _, z2U b, rfl, ?_⟩
 rw [decide_eq_true hb]
 conv => whnf
 rw [show wAdd .i64 n lam = n + lam from by rw [y6] <;> omega]
 refine .inl ⟨_, _, _, z07 s (n + lam) hs (by omega), rfl, ?_⟩
 conv => whnf
 refine .inl ⟨_, _, _, z2T _ _ _, rfl, ?_⟩
 conv => whnf
 rfl
def midV (p q : Int) (b : Int × Int) : Int := z0f ((p + q) / 2) b.1 b.2
theorem zMB {p q : Int} {b : Int × Int} (h : b.1 ≤ b.2) : b.1 ≤ midV p q b ∧ midV p q b ≤ b.2 := by
 unfold midV z0f
 split
 ·omega
 ·split <;> omega
def w5 (sign : Int) (b : Int × Int) (p q : Int) : (Int × Int) × (Int × Int) :=
 if sign = 1 then ((b.1, midV p q b), (midV p q b, b.2)) else if sign = -1 then ((midV p q b, b.2), (b.1, midV p q b)) else (b, b)
theorem zIk {sign : Int} {b : Int × Int} {p q : Int} (hb : yI b) : yI (w5 sign b p q).1 ∧ yI (w5 sign b p q).2 := by
 have hm := zMB (p := p) (q := q) hb.1
 have hb' := hb
 unfold yI at hb'
 unfold w5
 split
 ·unfold yI; dsimp only; omega
 ·split
  ·unfold yI; dsimp only; omega
  ·exact ⟨hb, hb⟩
abbrev tupBB (x : (Int × Int) × (Int × Int)) : AV := .tup [(true, cB x.1), (true, cB x.2)]
theorem z74 (sign : Int) (b : Int × Int) (p q : Int) (hb : yI b) (hp : -1099511627776 ≤ p ∧ p ≤ 1099511627776) (hq : -1099511627776 ≤ q ∧ q ≤ 1099511627776) :
  z6 PR zBW [ai sign, aB b, ai p, ai q] (tupBB (w5 sign b p q)) [] 0 := by
 refine z6.intro hT (pf Tryz.func116) rfl (by kernel_rfl) Tryz.ntmps116 rfl ?_
 conv => whnf
 refine .inl ⟨_, _, _, z2U b, rfl, ?_⟩
 rw [decide_eq_true hb]
 conv => whnf
 refine zj 0 ?_
 conv => whnf
 refine zJ hT hmix [0, 5, 8, 9, 10] { t := [(0, ai sign), (5, .c (.d (.rp [.int .i64 b.1, .int .i64 b.2]))), (8, .c (.ptr 0 0)), (9, .c (.ptr 1 0)), (10, ai (midV p q b))], h := [(0, .box zo (cB (0, 0))), (1, .box zo (cB (0, 0)))], n := 2, N := 47 } rfl ?_ ?_
 ·repeat' first
   | (refine zM rfl ?_; (conv => whnf))
   | (refine zL rfl ?_ ?_ <;> (conv => whnf))
   | (refine .inl ⟨_, _, _, z76 p q (by omega) (by omega), rfl, ?_⟩; (conv => whnf))
   | (refine .inl ⟨_, _, _, z2T _ _ _, rfl, ?_⟩; (conv => whnf))
   | (refine zO rfl ?_; (conv => whnf); first | done | rfl)
 conv => whnf
 unfold w5
 by_cases h1 : sign = 1
 ·rw [show iEq sign 1 = true from decide_eq_true h1, if_pos h1]
  conv => whnf
  refine zJ hT hmix [8, 9] { t := [(8, .c (.ptr 0 0)), (9, .c (.ptr 1 0))], h := [(0, .box zo (cB (b.1, midV p q b))), (1, .box zo (cB (midV p q b, b.2)))], n := 2, N := 47 } rfl ?_ ?_
  ·repeat' first
    | (refine zM rfl ?_; (conv => whnf))
    | (refine zL rfl ?_ ?_ <;> (conv => whnf))
    | (refine zC rfl ?_ ?_ ?_ <;> (conv => whnf))
    | (refine zw rfl ?_ ?_ ?_ ?_ <;> (conv => whnf))
    | (refine zO rfl ?_; (conv => whnf); first | done | rfl)
  conv => whnf
 rw [show iEq sign 1 = false from decide_eq_false h1, if_neg h1]
 conv => whnf
 by_cases h2 : sign = -1
 ·rw [show iEq sign (-1) = true from decide_eq_true h2, if_pos h2]
  conv => whnf
  refine zJ hT hmix [8, 9] { t := [(8, .c (.ptr 0 0)), (9, .c (.ptr 1 0))], h := [(0, .box zo (cB (midV p q b, b.2))), (1, .box zo (cB (b.1, midV p q b)))], n := 2, N := 47 } rfl ?_ ?_
  ·repeat' first
    | (refine zM rfl ?_; (conv => whnf))
    | (refine zL rfl ?_ ?_ <;> (conv => whnf))
    | (refine zC rfl ?_ ?_ ?_ <;> (conv => whnf))
    | (refine zw rfl ?_ ?_ ?_ ?_ <;> (conv => whnf))
    | (refine zO rfl ?_; (conv => whnf); first | done | rfl)
  conv => whnf
 rw [show iEq sign (-1) = false from decide_eq_false h2, if_neg h2]
 conv => whnf
 refine zJ hT hmix [8, 9] { t := [(8, .c (.ptr 0 0)), (9, .c (.ptr 1 0))], h := [(0, .box zo (cB b)), (1, .box zo (cB b))], n := 2, N := 47 } rfl ?_ ?_
 ·repeat' first
   | (refine zM rfl ?_; (conv => whnf))
   | (refine zL rfl ?_ ?_ <;> (conv => whnf))
   | (refine zC rfl ?_ ?_ ?_ <;> (conv => whnf))
   | (refine zw rfl ?_ ?_ ?_ ?_ <;> (conv => whnf))
   | (refine zO rfl ?_; (conv => whnf); first | done | rfl)
 conv => whnf
theorem z7S (sign : Int) (b : Int × Int) (p q : Int) (hb : yI b) (hp : -1099511627776 ≤ p ∧ p ≤ 1099511627776) (hq : -1099511627776 ≤ q ∧ q ≤ 1099511627776) :
  z6 PR zBp [ai sign, aB b, ai p, ai q] (tupBB (w5 sign b p q)) [] 0 := by
 refine z6.intro hT (pf Tryz.func108) rfl (by kernel_rfl) Tryz.ntmps108 rfl ?_
 conv => whnf
 refine zj 0 ?_
 conv => whnf
 refine zJ hT hmix [0, 5, 8, 9, 10] { t := [(0, ai sign), (5, .c (.d (.rp [.int .i64 b.1, .int .i64 b.2]))), (8, .c (.ptr 0 0)), (9, .c (.ptr 1 0)), (10, ai (midV p q b))], h := [(0, .box zo (cB (0, 0))), (1, .box zo (cB (0, 0)))], n := 2, N := 47 } rfl ?_ ?_
 ·repeat' first
   | (refine zM rfl ?_; (conv => whnf))
   | (refine zL rfl ?_ ?_ <;> (conv => whnf))
   | (refine .inl ⟨_, _, _, z7V p q (by omega) (by omega), rfl, ?_⟩; (conv => whnf))
   | (refine .inl ⟨_, _, _, z2g _ _ _, rfl, ?_⟩; (conv => whnf))
   | (refine zO rfl ?_; (conv => whnf); first | done | rfl)
 conv => whnf
 refine zJ hT hmix [0, 5, 8, 9, 11, 12] { t := [(0, ai sign), (5, .c (.d (.rp [.int .i64 b.1, .int .i64 b.2]))), (8, .c (.ptr 0 0)), (9, .c (.ptr 1 0)), (11, .c (.ptr 2 0)), (12, .c (.ptr 3 0))], h := [(0, .box zo (cB (0, 0))), (1, .box zo (cB (0, 0))), (2, .box zo (cB (b.1, midV p q b))), (3, .box zo (cB (midV p q b, b.2)))], n := 4, N := 47 } rfl ?_ ?_
 ·repeat' first
   | (refine zM rfl ?_; (conv => whnf))
   | (refine zL rfl ?_ ?_ <;> (conv => whnf))
   | (refine zC rfl ?_ ?_ ?_ <;> (conv => whnf))
   | (refine zw rfl ?_ ?_ ?_ ?_ <;> (conv => whnf))
   | (refine zO rfl ?_; (conv => whnf); first | done | rfl)
 conv => whnf
 refine .inl ⟨_, _, _, z2h b, rfl, ?_⟩
 rw [decide_eq_true hb]
 conv => whnf
 unfold w5
 by_cases h1 : sign = 1
 ·rw [show iEq sign 1 = true from decide_eq_true h1, if_pos h1]
  conv => whnf
  refine zJ hT hmix [8, 9] { t := [(8, .c (.ptr 0 0)), (9, .c (.ptr 1 0))], h := [(0, .box zo (cB (b.1, midV p q b))), (1, .box zo (cB (midV p q b, b.2)))], n := 2, N := 47 } rfl ?_ ?_
  ·repeat' first
    | (refine zM rfl ?_; (conv => whnf))
    | (refine zL rfl ?_ ?_ <;> (conv => whnf))
    | (refine zC rfl ?_ ?_ ?_ <;> (conv => whnf))
    | (refine zw rfl ?_ ?_ ?_ ?_ <;> (conv => whnf))
    | (refine zO rfl ?_; (conv => whnf); first | done | rfl)
  conv => whnf
 rw [show iEq sign 1 = false from decide_eq_false h1, if_neg h1]
 conv => whnf
 by_cases h2 : sign = -1
 ·rw [show iEq sign (-1) = true from decide_eq_true h2, if_pos h2]
  conv => whnf
  refine zJ hT hmix [8, 9] { t := [(8, .c (.ptr 0 0)), (9, .c (.ptr 1 0))], h := [(0, .box zo (cB (midV p q b, b.2))), (1, .box zo (cB (b.1, midV p q b)))], n := 2, N := 47 } rfl ?_ ?_
  ·repeat' first
    | (refine zM rfl ?_; (conv => whnf))
    | (refine zL rfl ?_ ?_ <;> (conv => whnf))
    | (refine zC rfl ?_ ?_ ?_ <;> (conv => whnf))
    | (refine zw rfl ?_ ?_ ?_ ?_ <;> (conv => whnf))
    | (refine zO rfl ?_; (conv => whnf); first | done | rfl)
  conv => whnf
 rw [show iEq sign (-1) = false from decide_eq_false h2, if_neg h2]
 conv => whnf
 refine zJ hT hmix [8, 9] { t := [(8, .c (.ptr 0 0)), (9, .c (.ptr 1 0))], h := [(0, .box zo (cB b)), (1, .box zo (cB b))], n := 2, N := 47 } rfl ?_ ?_
 ·repeat' first
   | (refine zM rfl ?_; (conv => whnf))
   | (refine zL rfl ?_ ?_ <;> (conv => whnf))
   | (refine zC rfl ?_ ?_ ?_ <;> (conv => whnf))
   | (refine zw rfl ?_ ?_ ?_ ?_ <;> (conv => whnf))
   | (refine zO rfl ?_; (conv => whnf); first | done | rfl)
 conv => whnf
end Go.H.S
namespace Go.H.S
open Go Go.Proofs Go.H
attribute [local irreducible] Tri z6 zR zV zY zW
abbrev rpTb (t : Tbl) : AV := .c (.d (.rp [.sl 1 (eL cS t.names), .str t.target, .sl 1 (eL cIs t.rows), .sl 1 (eL cI t.ys)]))
def y0 (t : Tbl) (f : Nat) : List Int := t.rows.map fun r => (r[f]?).getD 0
theorem zAp {t : Tbl} {f k : Nat} {r : List Int} (h : t.rows[k]? = some r) : (t.rows.take (k + 1)).map (fun r => (r[f]?).getD 0) = (t.rows.take k).map (fun r => (r[f]?).getD 0) ++ [(r[f]?).getD 0] := by
 rw [List.take_add_one, h]; simp
theorem z8Q (t : Tbl) (f : Nat) (hf : f < t.names.length) (hn : t.names.length ≤ 1000) (hr : t.rows.length ≤ 1048576) (hc : ∀ r ∈ t.rows, r.length ≤ 1048576) : z6 PR zDp [aTb t, ai f] (.c (.ref 0 0 none)) [(0, .arr zZ 1 0 .own (eL cI (y0 t f)))] 1 := by
 have e1 : wSub .i64 (nInt (dLen (eL cS t.names))) 1 = (t.names.length : Int) - 1 := by rw [show nInt (dLen (eL cS t.names)) = (t.names.length : Int) by simp]; exact yB (by omega) (by omega)
 refine z6.intro hT (pf Tryz.func166) rfl (by kernel_rfl) Tryz.ntmps166 rfl ?_
 conv => whnf
 refine zj 0 ?_
 conv => whnf
 refine zB hT [1, 2, 5, 6] (α := Nat) (fun k => { t := [(1, ai f), (2, rpTb t), (5, .c (.ref 0 0 none)), (6, ai k)], h := [(0, .arr zZ 1 0 .own (eL cI ((t.rows.take k).map fun r => (r[f]?).getD 0)))], n := 1, N := 46 })
  (fun k => k ≤ t.rows.length) (fun k => t.rows.length - k) 0 (by ((conv => whnf); simp only [eS, List.take_zero, List.map_nil, zp]); rfl) (Nat.zero_le _) ?_
 intro k hk
 conv => whnf
 cases q1 : iLt (k : Int) (nInt (dLen (eL cIs t.rows)))
 ·simp only [eH] at q1
  obtain rfl : k = t.rows.length := by omega
  conv => whnf
  rw [List.take_length]
  rfl
 ·simp only [eH] at q1
  obtain ⟨r, hrk⟩ := zI (show k < t.rows.length by omega)
  have hrl := hc r (List.mem_of_getElem? hrk)
  have hstep := zAp (f := f) hrk
  conv => whnf
  rw [e1]
  refine .inl ⟨_, _, _, zS _ _ _, rfl, ?_⟩
  rw [show decide ((0 : Int) ≤ (f : Int) ∧ (f : Int) ≤ (t.names.length : Int) - 1) = true from decide_eq_true (by omega)]
  conv => whnf
  refine zG (by simp) hrk ?_
  conv => whnf
  refine zK (fun q2 => ?_) (fun q2 => ?_) <;> (conv => whnf) <;> simp only [eH] at q2
  ·obtain ⟨v, hv⟩ := zI (show f < r.length by omega)
   refine zG (by simp) hrk ?_
   conv => whnf
   refine zG (by simp) hv ?_
   conv => whnf
   refine And.intro (by simp [zE, zQ]; omega) ?_
   conv => whnf
   refine ⟨k + 1, by omega, by omega, ?_⟩
   ((conv => whnf); simp only [eS, wI (show k < t.rows.length by omega) (by omega)])
   rw [hstep, hv, ← zX]
   first | exact ⟨rfl, rfl⟩ | rfl
  ·refine And.intro (by simp [zE, zQ]; omega) ?_
   conv => whnf
   refine ⟨k + 1, by omega, by omega, ?_⟩
   ((conv => whnf); simp only [eS, wI (show k < t.rows.length by omega) (by omega)])
   rw [hstep, List.getElem?_eq_none (by omega), ← zX]
   first | exact ⟨rfl, rfl⟩ | rfl
def cutK (s : List Int) (n b k : Nat) : Option Int := if 1 ≤ n * k / b ∧ (s[n * k / b - 1]?).getD 0 < (s[n - 1]?).getD 0 then some ((s[n * k / b - 1]?).getD 0) else none
def yH (s : List Int) (n b k : Nat) : List Int := (List.range k).filterMap (cutK s n b)
def z5a (xs : List Int) (b : Nat) : List Int := wR (yH (yd xs) xs.length b b)
theorem z4A (s : List Int) (n b k : Nat) : yH s n b (k + 1) = yH s n b k ++ (cutK s n b k).toList := by
 simp only [yH, List.range_succ, List.filterMap_append]
 congr 1
theorem z1o (s : List Int) (n b k : Nat) : (yH s n b k).length ≤ k := by
 have := List.length_filterMap_le (cutK s n b) (List.range k)
 simpa [yH] using this
theorem z8P (xs : List Int) (b : Nat) (hb : 2 ≤ b ∧ b ≤ 8) (hx : 1 ≤ xs.length ∧ xs.length ≤ 40) : z6 PR zDo [aIs xs, ai b] (.c (.ref 0 0 none)) [(0, .arr zZ 1 0 .own (eL cI (z5a xs b)))] 1 := by
 have eX : nInt (dLen (eL cI xs)) = (xs.length : Int) := by simp
 refine z6.intro hT (pf Tryz.func167) rfl (by kernel_rfl) Tryz.ntmps167 rfl ?_
 conv => whnf
 refine .inl ⟨_, _, _, zS _ _ _, rfl, ?_⟩
 rw [show decide ((2 : Int) ≤ (b : Int) ∧ (b : Int) ≤ 8) = true from decide_eq_true (by omega)]
 conv => whnf
 rw [eX]
 refine .inl ⟨_, _, _, zS _ _ _, rfl, ?_⟩
 rw [show decide ((1 : Int) ≤ (xs.length : Int) ∧ (xs.length : Int) ≤ 40) = true from decide_eq_true (by omega)]
 conv => whnf
 refine .inl ⟨_, _, _, z21 xs (by omega), rfl, ?_⟩
 have hsl := z08 xs
 have hd : z5a xs b = wR (yH (yd xs) xs.length b b) := rfl
 rw [hd]
 generalize yd xs = s at *
 generalize xs.length = n at *
 conv => whnf
 have h0 : yH s n b 1 = [] := by simp [yH, cutK]
 refine zB hT [1, 5, 6, 7, 8] (α := Nat) (fun k => { t := [(1, ai b), (5, ai n), (6, aIs s), (7, .c (.ref 0 0 none)), (8, ai k)], h := [(0, .arr zZ 1 0 .own (eL cI (yH s n b k)))], n := 1, N := 59 })
  (fun k => 1 ≤ k ∧ k ≤ b) (fun k => b - k) 1 (by ((conv => whnf); simp only [eS, h0, zp, z7]); first | done | rfl | exact ⟨rfl, rfl⟩) (by omega) ?_
 intro k ⟨hk1, hk⟩
 conv => whnf
 refine zK (fun q1 => ?_) (fun q1 => ?_) <;> (conv => whnf) <;> simp only [eH] at q1
 ·have hnk : n * k ≤ 320 := by
   have : n * k ≤ 40 * 8 := Nat.mul_le_mul hx.2 (by omega)
   omega
  have hnb : n * k / b < n := by
   rw [Nat.div_lt_iff_lt_mul (by omega)]
   exact Nat.mul_lt_mul_of_pos_left (by omega) (by omega)
  have hc : (n : Int) * (k : Int) = ((n * k : Nat) : Int) := (Int.natCast_mul n k).symm
  have e1 : wMul .i64 (n : Int) (k : Int) = ((n * k : Nat) : Int) := by rw [z1S (by rw [hc]; omega) (by rw [hc]; omega), hc]
  have e2 : wQuo .i64 ((n * k : Nat) : Int) (b : Int) = ((n * k / b : Nat) : Int) := by rw [z4E (by omega) (by omega)]; rfl
  have hstep := z4A s n b k
  have hcl := z1o s n b k
  have hck : cutK s n b k = if 1 ≤ n * k / b ∧ (s[n * k / b - 1]?).getD 0 < (s[n - 1]?).getD 0 then some ((s[n * k / b - 1]?).getD 0) else none := rfl
  refine And.intro (by unfold NZ; omega) ?_
  rw [e1]
  conv => whnf
  rw [e2]
  generalize n * k / b = i at *
  obtain ⟨z, hz⟩ := zI (show n - 1 < s.length by omega)
  have e4 : wSub .i64 (n : Int) 1 = ((n - 1 : Nat) : Int) := by rw [yB] <;> omega
  refine yN hT hmix (by kernel_rfl) ?_
  conv => whnf
  cases q2 : iLe 1 (i : Int) <;> simp only [eH] at q2 <;> (conv => whnf)
  ·repeat' (first | (refine And.intro (fun q => ?_) (fun q => ?_) <;> cases q <;> (conv => whnf)) | fail)
   refine ⟨k + 1, by omega, by omega, ?_⟩
   rw [if_neg (by omega)] at hck
   rw [hck] at hstep
   simp only [Option.toList_none, List.append_nil] at hstep
   ((conv => whnf); simp only [eS, wI (show k < b by omega) (by omega)])
   rw [hstep]
  ·obtain ⟨y, hy⟩ := zI (show i - 1 < s.length by omega)
   have e3 : wSub .i64 (i : Int) 1 = ((i - 1 : Nat) : Int) := by rw [yB] <;> omega
   rw [hy, hz] at hck
   simp only [Option.getD_some] at hck
   repeat' first
    | (refine And.intro (fun q => ?_) (fun q => ?_) <;> cases q <;> (conv => whnf))
    | (refine zG e3 hy ?_; (conv => whnf))
    | (refine zG e4 hz ?_; (conv => whnf))
   refine zK (fun q3 => ?_) (fun q3 => ?_) <;> (conv => whnf) <;> simp only [eH] at q3
   ·refine zG e3 hy ?_
    conv => whnf
    refine And.intro (by simp [zE, zQ]; omega) ?_
    conv => whnf
    rw [if_pos ⟨by omega, q3⟩] at hck
    rw [hck] at hstep
    simp only [Option.toList_some] at hstep
    refine ⟨k + 1, by omega, by omega, ?_⟩
    ((conv => whnf); simp only [eS, wI (show k < b by omega) (by omega)])
    rw [hstep, ← zX]
    first | exact ⟨rfl, rfl⟩ | rfl
   ·rw [if_neg (by omega)] at hck
    rw [hck] at hstep
    simp only [Option.toList_none, List.append_nil] at hstep
    refine ⟨k + 1, by omega, by omega, ?_⟩
    ((conv => whnf); simp only [eS, wI (show k < b by omega) (by omega)])
    rw [hstep]
 ·obtain rfl : k = b := by omega
  have hcl := z1o s n k k
  refine .inr (.inl ⟨_, _, _, z5q (yH s n k k) (by omega), rfl, ⟨z0G _, trivial⟩, ?_⟩)
  conv => whnf
  first | done | rfl
end Go.H.S
namespace Go.H.S
open Go Go.Proofs Go.H
attribute [local irreducible] Tri z6 zR zV zY zW
def z1s (x : Int) : Bool := decide (-2147483647 ≤ x ∧ x ≤ 2147483647)
def z0y (n : Nat) (ys : List Int) : List (List Int) → Nat → Bool
 | [], _ => true
 | r :: rest, k => (decide (r.length = n) && (z1s ((ys[k]?).getD 0) && r.all z1s)) && z0y n ys rest (k + 1)
def y1 (t : Tbl) : Bool :=
 decide (1 ≤ (t.names.length : Int) ∧ (t.names.length : Int) ≤ 4) && (z01 t.target && (!hasS t.target t.names && (decide (1 ≤ (t.rows.length : Int) ∧ (t.rows.length : Int) ≤ 40) && (decide (t.ys.length = t.rows.length) &&
  (yq t.names t.names 0 && z0y t.names.length t.ys t.rows 0)))))
set_option maxHeartbeats 4000000 in
theorem ym (t : Tbl) (hn : t.names.length ≤ 1048576) (hns : ∀ s ∈ t.names, s.size ≤ 9223372036854775807) (htg : t.target.size ≤ 9223372036854775807) (hr : t.rows.length ≤ 1048576) (hc : ∀ r ∈ t.rows, r.length ≤ 1048576) (hy : t.ys.length ≤ 1048576) : z6 PR zBU [aTb t] (ab (y1 t)) [] 0 := by
 have eN : nInt (dLen (eL cS t.names)) = (t.names.length : Int) := by simp
 have eR : nInt (dLen (eL cIs t.rows)) = (t.rows.length : Int) := by simp
 have eY : nInt (dLen (eL cI t.ys)) = (t.ys.length : Int) := by simp
 refine z6.intro hT (pf Tryz.func63) rfl (by kernel_rfl) Tryz.ntmps63 rfl ?_
 conv => whnf
 rw [eN]
 refine .inl ⟨_, _, _, zS _ _ _, rfl, ?_⟩
 generalize e1 : decide (1 ≤ (t.names.length : Int) ∧ (t.names.length : Int) ≤ 4) = c1
 cases c1 <;> (conv => whnf)
 ·simp [y1, e1]
 refine .inl ⟨_, _, _, z3K t.target htg, rfl, ?_⟩
 generalize e2 : z01 t.target = c2
 cases c2 <;> (conv => whnf)
 ·simp [y1, e2]
 refine .inl ⟨_, _, _, z3h t.names t.target (by omega), rfl, ?_⟩
 generalize e3 : hasS t.target t.names = c3
 cases c3 with
 | true =>
  conv => whnf
  simp [y1, e3]
 | false =>
 conv => whnf
 rw [eR]
 refine .inl ⟨_, _, _, zS _ _ _, rfl, ?_⟩
 generalize e4 : decide (1 ≤ (t.rows.length : Int) ∧ (t.rows.length : Int) ≤ 40) = c4
 cases c4 <;> (conv => whnf)
 ·simp [y1, e4]
 rw [eY, eR]
 generalize e5 : iEq (t.ys.length : Int) (t.rows.length : Int) = c5
 cases c5 <;> (conv => whnf) <;> simp only [eH] at e5
 ·have h5 : ¬ t.ys.length = t.rows.length := by omega
  simp [y1, h5]
 have h5 : t.ys.length = t.rows.length := by omega
 have hto : y1 t = (yq t.names t.names 0 && z0y t.names.length t.ys t.rows 0) := by
  simp only [y1]; rw [e1, e2, e3, e4, decide_eq_true h5]; rfl
 rw [hto]
 refine zB hT [1, 3, 4] (α := Nat) (fun k => { t := [(1, .c (.ptr 0 0)), (3, ai t.names.length), (4, ai k)], h := [(0, .box zF (cTb t))], n := 1, N := 105 })
  (fun k => k ≤ t.names.length ∧ yq t.names (t.names.drop k) k = yq t.names t.names 0) (fun k => t.names.length - k) 0 (by ((conv => whnf); simp only [eS]); first | done | simp) ⟨Nat.zero_le _, rfl⟩ ?_
 intro k ⟨hk, hi⟩
 conv => whnf
 refine zK (fun g1 => ?_) (fun g1 => ?_) <;> (conv => whnf) <;> simp at g1
 ·obtain ⟨s, hs'⟩ := zI g1
  rw [yj hs', yq] at hi
  refine yN hT hmix (by kernel_rfl) ?_
  conv => whnf
  refine zG (by simp) hs' ?_
  conv => whnf
  refine ⟨_, _, z3K s (hns s (List.mem_of_getElem? hs')), rfl, ?_⟩
  cases hb : z01 s
  ·conv => whnf
   repeat' (first | (refine And.intro (fun q => ?_) (fun q => ?_) <;> cases q <;> (conv => whnf)) | fail)
   rw [hb] at hi
   have : yq t.names t.names 0 = false := by rw [← hi]; simp
   rw [this]
   conv => whnf
   rfl
  ·rw [hb, Bool.true_and] at hi
   conv => whnf
   repeat' (first | (refine And.intro (fun q => ?_) (fun q => ?_) <;> cases q <;> (conv => whnf)) | fail)
   refine And.intro (by simp; omega) ?_
   rw [zFf]
   conv => whnf
   repeat' (first | (refine And.intro (fun q => ?_) (fun q => ?_) <;> cases q <;> (conv => whnf)) | fail)
   refine zG (by simp) hs' ?_
   conv => whnf
   repeat' (first | (refine And.intro (fun q => ?_) (fun q => ?_) <;> cases q <;> (conv => whnf)) | fail)
   refine ⟨_, _, z3h (t.names.take k) s (by simp; omega), rfl, ?_⟩
   cases hh : hasS s (t.names.take k)
   ·conv => whnf
    repeat' (first | (refine And.intro (fun q => ?_) (fun q => ?_) <;> cases q <;> (conv => whnf)) | fail)
    rw [hh] at hi
    refine ⟨k + 1, by omega, ⟨g1, by simpa using hi⟩, ?_⟩
    ((conv => whnf); simp only [eS, wI g1 (by omega)])
   ·conv => whnf
    repeat' (first | (refine And.intro (fun q => ?_) (fun q => ?_) <;> cases q <;> (conv => whnf)) | fail)
    rw [hh] at hi
    have : yq t.names t.names 0 = false := by rw [← hi]; simp
    rw [this]
    conv => whnf
    rfl
 ·obtain rfl : k = t.names.length := by omega
  simp only [List.drop_length, yq] at hi
  rw [← hi, Bool.true_and]
  refine zB hT [1, 3, 5] (α := Nat) (fun k => { t := [(1, .c (.ptr 0 0)), (3, ai t.names.length), (5, ai k)], h := [(0, .box zF (cTb t))], n := 1, N := 105 })
   (fun k => k ≤ t.rows.length ∧ z0y t.names.length t.ys (t.rows.drop k) k = z0y t.names.length t.ys t.rows 0) (fun k => t.rows.length - k) 0 (by ((conv => whnf); simp only [eS])) ⟨Nat.zero_le _, rfl⟩ ?_
  intro k ⟨hk2, hj⟩
  conv => whnf
  refine zK (fun g2 => ?_) (fun g2 => ?_) <;> (conv => whnf) <;> simp at g2
  ·obtain ⟨r, hx⟩ := zI g2
   obtain ⟨y, hyk⟩ := zI (show k < t.ys.length by omega)
   rw [yj hx, z0y, hyk] at hj
   simp only [Option.getD_some] at hj
   refine zG (by simp) hx ?_
   conv => whnf
   rw [show nInt (dLen (eL cI r)) = (r.length : Int) by simp]
   generalize q1 : iEq (r.length : Int) (t.names.length : Int) = c1
   cases c1 <;> (conv => whnf) <;> simp only [eH] at q1
   ·rw [decide_eq_false (show ¬ r.length = t.names.length by omega)] at hj
    rw [← hj]
    rfl
   rw [decide_eq_true (show r.length = t.names.length by omega), Bool.true_and] at hj
   refine zG (by simp) hyk ?_
   conv => whnf
   refine .inl ⟨_, _, _, z0W _, rfl, ?_⟩
   rw [show decide (-2147483647 ≤ y ∧ y ≤ 2147483647) = z1s y from rfl]
   cases hb : z1s y
   ·conv => whnf
    rw [hb] at hj
    rw [← hj]
    rfl
   rw [hb, Bool.true_and] at hj
   conv => whnf
   refine zB hT [1, 3, 5, 6] (α := Nat) (fun j => { t := [(1, .c (.ptr 0 0)), (3, ai t.names.length), (5, ai k), (6, ai j)], h := [(0, .box zF (cTb t))], n := 1, N := 105 })
    (fun j => j ≤ r.length ∧ (r.drop j).all z1s = r.all z1s) (fun j => r.length - j) 0 (by ((conv => whnf); simp only [eS])) ⟨Nat.zero_le _, rfl⟩ ?_
   intro j ⟨hj1, hj2⟩
   conv => whnf
   refine zK (fun g3 => ?_) (fun g3 => ?_) <;> (conv => whnf) <;> simp at g3
   ·obtain ⟨v, hv⟩ := zI (show j < r.length by omega)
    rw [yj hv, List.all_cons] at hj2
    refine zG (by simp) hx ?_
    conv => whnf
    refine zG (by simp) hv ?_
    conv => whnf
    refine .inl ⟨_, _, _, z0W _, rfl, ?_⟩
    rw [show decide (-2147483647 ≤ v ∧ v ≤ 2147483647) = z1s v from rfl]
    cases hb2 : z1s v
    ·conv => whnf
     rw [hb2] at hj2
     rw [← hj2] at hj
     rw [← hj]
     rfl
    ·conv => whnf
     rw [hb2] at hj2
     refine ⟨j + 1, by omega, ⟨by omega, by simpa using hj2⟩, ?_⟩
     ((conv => whnf); simp only [eS, wI g3 (by omega)])
   ·obtain rfl : j = r.length := by omega
    simp only [List.drop_length, List.all_nil] at hj2
    rw [← hj2, Bool.true_and] at hj
    refine ⟨k + 1, by omega, ⟨g2, hj⟩, ?_⟩
    ((conv => whnf); simp only [eS, wI g2 (by omega)])
  ·obtain rfl : k = t.rows.length := by omega
   simp only [List.drop_length, z0y] at hj
   rw [← hj]
end Go.H.S
namespace Go.H.S
open Go Go.Proofs Go.H
attribute [local irreducible] Tri z6 zR zV zY zW
def z1v (t : Tbl) (b f : Nat) : List Int := z5a (y0 t f) b
def z9F (t : Tbl) (b f : Nat) : List Int := (y0 t f).map fun v => ((yG (z1v t b f) v : Nat) : Int)
def z0J (t : Tbl) (b n : Nat) : List (List Int) := (List.range n).map (z1v t b)
def z0M (t : Tbl) (b n : Nat) : List (List Int) := (List.range n).map (z9F t b)
def zi (t : Tbl) (b : Nat) : Grd := ⟨z0J t b t.names.length, z0M t b t.names.length⟩
theorem zAk (t : Tbl) (b n : Nat) : z0J t b (n + 1) = z0J t b n ++ [z1v t b n] := by simp [z0J, List.range_succ]
theorem zB0 (t : Tbl) (b n : Nat) : z0M t b (n + 1) = z0M t b n ++ [z9F t b n] := by simp [z0M, List.range_succ]
theorem z2l (t : Tbl) (b n : Nat) : (z0J t b n).length = n := by simp [z0J]
theorem z4V (t : Tbl) (b n : Nat) : (z0M t b n).length = n := by simp [z0M]
theorem zAq (t : Tbl) (f : Nat) : (y0 t f).length = t.rows.length := by simp [y0]
theorem zAl (t : Tbl) {b f : Nat} (hb : b ≤ 8) : (z1v t b f).length ≤ 8 := by
 have h1 := z6l (yH (yd (y0 t f)) (y0 t f).length b b)
 have h2 := z1o (yd (y0 t f)) (y0 t f).length b b
 show (wR _).length ≤ 8
 omega
theorem z9X {t : Tbl} (h : y1 t = true) : (1 ≤ t.names.length ∧ t.names.length ≤ 4) ∧ (1 ≤ t.rows.length ∧ t.rows.length ≤ 40) ∧ t.ys.length = t.rows.length := by
 simp only [y1, Bool.and_eq_true, decide_eq_true_eq] at h
 obtain ⟨h1, _, _, h4, h5, _⟩ := h
 exact ⟨by omega, by omega, h5⟩
abbrev z0Q (xs : List (List Int)) : Ent := .arr yS 1 0 (.nest [zZ]) (eL cIs xs)
end Go.H.S
namespace Go.H.S
open Go Go.Proofs Go.H
attribute [local irreducible] Tri z6 zR zV zY zW
end Go.H.S
namespace Go.H.S
open Go Go.Proofs Go.H
attribute [local irreducible] Tri z6 zR zV zY zW
theorem zLx {xs : List (List Int)} {p k : Nat} {x : List Int} {K : Nat → Nat → List D → Nat → List (List D) → TypeId → Prop} (hp : p = k) (hx : xs[k]? = some x) (h : K k 0 (cIs x) 1 (eL cI x) zZ) :
  ∃ i j c z es' ty, p = i * 1 + j ∧ j < 1 ∧ AtD (eL cIs xs) i c ∧ c[j]? = some (.sl z es') ∧ [zZ][j]? = some ty ∧ K i j c z es' ty :=
 ⟨k, 0, cIs x, 1, eL cI x, zZ, by omega, by decide, by unfold AtD; rw [z48, hx]; rfl, rfl, rfl, h⟩
theorem zMM {xs : List (List Int)} {k k' : Nat} {x : List Int} {K : List D → Prop} (hk : k' = k) (hx : xs[k]? = some x) (h : K [.any]) : ∀ c, AtD (dSet (eL cIs xs) k ((cIs x).set 0 .any)) k' c → zEW 0 1 c ∧ K c := fun c hc => by
 have hl := (List.getElem?_eq_some_iff.1 hx).1
 have e : (dSet (eL cIs xs) k ((cIs x).set 0 .any))[k']? = some c := by unfold AtD at hc; exact hc
 rw [hk, dSet, List.getElem?_set_self (by rw [zE]; exact hl)] at e
 cases e
 exact ⟨by unfold zEW; simp [cIs], h⟩
theorem zJQ {xs : List (List Int)} {k : Nat} (c : List D) (y : List Int) : dSet (dSet (eL cIs xs) k c) k (wb [.any] 0 [.sl 1 (eL cI y)]) = eL cIs (xs.set k y) := by
 rw [show wb [.any] 0 [.sl 1 (eL cI y)] = cIs y by rw [wb]; rfl, ← z1m]
 simp only [dSet, List.set_set]
theorem zGB {xs : List (List Int)} {p k : Nat} {x : List Int} {n : Int} {q : Nat} {K : Prop} (hp : p = k) (hx : xs[k]? = some x) (hn : n = (q : Int)) (hq : q < x.length) (h : K) : ∃ i j c es', p = i * 1 + j ∧ AtD (eL cIs xs) i c ∧ c[j]? = some (.sl 1 es') ∧ InB n (dLen es') ∧ K :=
 ⟨k, 0, cIs x, eL cI x, by omega, by unfold AtD; rw [z48, hx]; rfl, rfl, by subst hn; unfold InB; rw [z5Z]; omega, h⟩
theorem nst_at {xs : List (List Int)} {p k q : Nat} {x : List Int} {K : Nat → Nat → List D → List (List D) → Prop} (hp : p = k) (hx : xs[k]? = some x) (hq : q < x.length) (h : K k 0 (cIs x) (eL cI x)) : ∃ i j c es', p = i * 1 + j ∧ j < 1 ∧ AtD (eL cIs xs) i c ∧ c[j]? = some (.sl 1 es') ∧ q < dLen es' ∧ K i j c es' :=
 ⟨k, 0, cIs x, eL cI x, by omega, by decide, by unfold AtD; rw [z48, hx]; rfl, rfl, by rw [z5Z]; exact hq, h⟩
theorem zM6 {xs : List (List Int)} {k q : Nat} {x : List Int} (v : Int) : dSet (eL cIs xs) k ((cIs x).set 0 (.sl 1 (dSet (eL cI x) q [.int .i64 v]))) = eL cIs (xs.set k (x.set q v)) := by
 rw [show dSet (eL cI x) q [.int .i64 v] = eL cI (x.set q v) from z1m cI x q v]
 exact z1m cIs xs k (x.set q v)
theorem zJY (xs : List Int) (v : Int) : z6s (dApp (eL cI xs) (z0A [[D.int IntKind.i64 v]] none)) := by
 rw [z7, show dApp (eL cI xs) [[D.int IntKind.i64 v]] = eL cI (xs ++ [v]) from zX cI xs v]
 exact z0G _
theorem zMg (k : Nat) (xs : List (List Int)) (x y : List Int) : dSet (eL cIs xs) k (wb (cIs x) 0 [.sl 1 (eL cI y)]) = eL cIs (xs.set k y) := by
 rw [show wb (cIs x) 0 [.sl 1 (eL cI y)] = cIs y by rw [wb]; rfl]
 exact z1m cIs xs k y
theorem zLa {xs : List (List Int)} {p k q q' : Nat} {x : List Int} {v : Int} {K : D → Prop} (hp : p = k) (hx : xs[k]? = some x) (hq' : q' = q) (hq : x[q]? = some v) (h : K (.int .i64 v)) : ∃ i j c es' d, p = i * 1 + j ∧ AtD (eL cIs xs) i c ∧ c[j]? = some (.sl 1 es') ∧ es'[q']? = some [d] ∧ K d :=
 ⟨k, 0, cIs x, eL cI x, .int .i64 v, by omega, by unfold AtD; rw [z48, hx]; rfl, rfl, by rw [hq', z48, hq]; rfl, h⟩
theorem nyd_at {xs : List (List Int)} {p k : Nat} {x : List Int} {K : List (List D) → Prop} (hp : p = k) (hx : xs[k]? = some x) (h : K (eL cI x)) : ∃ i j c es', p = i * 1 + j ∧ AtD (eL cIs xs) i c ∧ c[j]? = some (.sl 1 es') ∧ K es' :=
 ⟨k, 0, cIs x, eL cI x, by omega, by unfold AtD; rw [z48, hx]; rfl, rfl, h⟩
end Go.H.S
namespace Go.H.S
open Go Go.Proofs Go.H
attribute [local irreducible] Tri z6 zR zV zY zW
set_option maxHeartbeats 4000000 in
theorem z89 (code : List Int) (i0 u0 : Int) (hi0 : yK code (i0, u0)) (hl : code.length ≤ 1048576) : zW PR z4r [.c (.ptr 0 0)] zH (cur code i0 u0) (Tbl × Int × Int)
    (fun x => drawnT x.1 ∧ yK code x.2) (fun x => .agg [.ref 1 0 none, .d (.str x.1.target), .ref 2 0 none, .ref 3 0 none]) (fun x => cur code x.2.1 x.2.2)
    (fun x => [(1, .arr zy 1 0 .own (eL cS x.1.names)), (2, z0Q x.1.rows), (3, .arr zZ 1 0 .own (eL cI x.1.ys))]) (fun _ => 4) := by
  refine zW.intro hTn 0 (pf Tryz.func275) rfl (by kernel_rfl) Tryz.ntmps275 rfl rfl ?_
  intro v0
  conv => whnf
  refine .inr (.inr (.inr (.inr (.inl ⟨0, ?_⟩))))
  conv => whnf
  refine ⟨_, _, _, _, _, _, zA code i0 u0 3 hi0 hl, fun ⟨x1, i1, u1⟩ ⟨gx1, hi1⟩ => ⟨rfl, ?_⟩⟩
  dsimp only at gx1 hi1
  have x1b := gx1.2.1 (by decide)
  conv => whnf
  rw [show wAdd .i64 1 x1 = 1 + x1 from y6 (by omega) (by omega)]
  have hp : z0A [[D.str { data := #[97] }], [D.str { data := #[98] }], [D.str { data := #[99, 50] }], [D.str { data := #[100] }]] (some (true, nAdd (offR none) (nOf 0), nSub (nOf (1 + x1)) (nOf 0))) = eL cS (abcd.take (1 + x1).toNat) := by
    rw [show [[D.str { data := #[97] }], [D.str { data := #[98] }], [D.str { data := #[99, 50] }], [D.str { data := #[100] }]] = eL cS abcd from by simp [eL, cS, abcd], zJ0]
    simp [wD, z7I, z1B, offR]
  refine And.intro (by simp [InS, z0a]; omega) ?_
  conv => whnf
  refine And.intro (by rw [hp]; simp [zE, zQ, abcd]; omega) ?_
  conv => whnf
  rw [hp]
  refine .inr (.inr (.inr (.inr (.inl ⟨0, ?_⟩))))
  conv => whnf
  refine ⟨_, _, _, _, _, _, zA code i1 u1 9 hi1 hl, fun ⟨x2, i2, u2⟩ ⟨gx2, hi2⟩ => ⟨rfl, ?_⟩⟩
  dsimp only at gx2 hi2
  have x2b := gx2.2.1 (by decide)
  conv => whnf
  refine .inr (.inr (.inr (.inr (.inl ⟨0, ?_⟩))))
  conv => whnf
  refine ⟨_, _, _, _, _, _, zk code i2 u2 10 hi2 hl, fun ⟨b1, i3, u3⟩ hi3 => ⟨rfl, ?_⟩⟩
  dsimp only at hi3
  cases b1 with
  | true =>
    conv => whnf
    refine .inr (.inr (.inr (.inr (.inl ⟨0, ?_⟩))))
    conv => whnf
    refine ⟨_, _, _, _, _, _, zA code i3 u3 40 hi3 hl, fun ⟨x3, i4, u4⟩ ⟨gx3, hi4⟩ => ⟨rfl, ?_⟩⟩
    dsimp only at gx3 hi4
    have x3b := gx3.2.1 (by decide)
    conv => whnf
    obtain ⟨M, hM, hMm⟩ : ∃ M : Int, wAdd .i64 1 x3 = M ∧ (1 ≤ M ∧ M ≤ 40) := ⟨1 + x3, y6 (by omega) (by omega), by omega⟩
    refine .inr (.inr (.inr (.inr (.inl ⟨0, ?_⟩))))
    conv => whnf
    refine ⟨_, _, _, _, _, _, zk code i4 u4 12 hi4 hl, fun ⟨b2, i5, u5⟩ hi5 => ⟨rfl, ?_⟩⟩
    dsimp only at hi5
    conv => whnf
    rw [hM]
    refine zC6 5 2 yS 1 [zZ] ?_
    conv => whnf
    refine z0i 5 3 zZ 1 ?_
    conv => whnf
    refine zB hTn [0, 2, 3, 4, 5, 6, 7] (α := Nat × List (List Int) × List Int × Int × Int) (fun x' => { t := [(0, .w (.ptr 0 0) v0), (2, .c (.ptr 1 0)), (3, ai (1 + x1)), (4, .c (.ptr 2 0)), (5, ai M), (6, ab b2), (7, ai x'.1)], h := [(0, .box zH (cur code x'.2.2.2.1 x'.2.2.2.2)), (1, .box zF [.nl 1, .d (.str ⟨#[]⟩), .nl 1, .nl 1]), (2, .box zF [.ref 3 0 none, .d (.str ⟨#[121]⟩), .ref 4 0 none, .ref 5 0 none]), (3, .arr zy 1 0 .own (eL cS (abcd.take (1 + x1).toNat))), (4, z0Q x'.2.1), (5, .arr zZ 1 0 .own (eL cI x'.2.2.1))], n := 6, N := 84 })
      (fun x' => (x'.1 : Int) ≤ M ∧ x'.2.1.length = x'.1 ∧ x'.2.2.1.length = x'.1 ∧ (∀ r ∈ x'.2.1, r.length = (1 + x1).toNat) ∧ (∀ r ∈ x'.2.1, ∀ x ∈ r, -2147483647 ≤ x ∧ x ≤ 2147483647) ∧ (∀ v ∈ x'.2.2.1, -2147483647 ≤ v ∧ v ≤ 2147483647) ∧ yK code x'.2.2.2) (fun x' => M.toNat - x'.1) (0, [], [], i5, u5) (by (conv => whnf); simp only [z0Q, wo, zp]; rfl) ⟨by dsimp only; omega, rfl, rfl, fun r hr => absurd hr (by simp), fun r hr => absurd hr (by simp), fun v hv => absurd hv (by simp), hi5⟩ ?_
    intro ⟨a, rs, ys, i6, u6⟩ ⟨ha, har, hay, hrs, hrv, hyv, hi6⟩
    dsimp only at ha har hay hrs hrv hyv hi6
    conv => whnf
    refine zK (fun q1 => ?_) (fun q1 => ?_) <;> (conv => whnf) <;> simp only [eH] at q1
    · refine zB hTn [0, 2, 3, 4, 5, 6, 7, 8, 9] (α := List Int × Int × Int) (fun y' =>
          { t := [(0, .w (.ptr 0 0) v0), (2, .c (.ptr 1 0)), (3, ai (1 + x1)), (4, .c (.ptr 2 0)), (5, ai M), (6, ab b2), (7, ai a), (8, .c (.ref 6 0 none)), (9, ai y'.1.length)], h := [(0, .box zH (cur code y'.2.1 y'.2.2)), (1, .box zF [.nl 1, .d (.str ⟨#[]⟩), .nl 1, .nl 1]), (2, .box zF [.ref 3 0 none, .d (.str ⟨#[121]⟩), .ref 4 0 none, .ref 5 0 none]), (3, .arr zy 1 0 .own (eL cS (abcd.take (1 + x1).toNat))), (4, z0Q rs), (5, .arr zZ 1 0 .own (eL cI ys)), (6, .arr zZ 1 0 .own (eL cI y'.1))], n := 7, N := 84 })
        (fun y' => (y'.1.length : Int) ≤ 1 + x1 ∧ (∀ x ∈ y'.1, -2147483647 ≤ x ∧ x ≤ 2147483647 ∧ (b2 = false → -1500 ≤ x ∧ x ≤ 1500)) ∧ yK code y'.2) (fun y' => (1 + x1).toNat - y'.1.length) ([], i6, u6) (by (conv => whnf); simp only [zp]; rfl) ⟨by simp; omega, fun x hx => absurd hx (by simp), hi6⟩ ?_
      intro ⟨ss, i7, u7⟩ ⟨hs1, hs4, hi7⟩
      dsimp only at hs1 hs4 hi7
      conv => whnf
      refine zK (fun hs3 => ?_) (fun hs3 => ?_) <;> (conv => whnf) <;> simp only [eH] at hs3
      ·
        refine .inr (.inr (.inr (.inr (.inl ⟨0, ?_⟩))))
        conv => whnf
        refine ⟨_, _, _, _, _, _, yC code i7 u7 hi7 hl, fun ⟨z8, i8, u8⟩ ⟨gz8, hi8⟩ => ⟨rfl, ?_⟩⟩
        dsimp only at gz8 hi8
        conv => whnf
        cases b2 with
        | true =>
          conv => whnf
          refine And.intro (by simp [z7]; omega) ?_
          conv => whnf
          have hs5 : ∀ x ∈ ss ++ [z8], -2147483647 ≤ x ∧ x ≤ 2147483647 ∧ (true = false → -1500 ≤ x ∧ x ≤ 1500) := fun x hx => by
            rcases List.mem_append.1 hx with hx | hx
            · exact hs4 x hx
            · simp at hx; rw [hx]; exact ⟨gz8.1, gz8.2, fun h => by cases h⟩
          refine ⟨(ss ++ [z8], i8, u8), by simp; omega, ⟨by simp; omega, hs5, hi8⟩, ?_⟩
          ((conv => whnf); simp only [eS, wI (show ss.length < 40 by omega) (by omega)])
          simp only [z7, List.length_append, List.length_cons, List.length_nil]
          rw [← zX]
          first | exact ⟨rfl, trivial⟩ | exact ⟨trivial, rfl⟩ | exact ⟨rfl, rfl⟩ | rfl
        | false =>
          conv => whnf
          refine .inr (.inr (.inr (.inr (.inl ⟨0, ?_⟩))))
          conv => whnf
          refine ⟨_, _, _, _, _, _, zA code i8 u8 7 hi8 hl, fun ⟨z9, i9, u9⟩ ⟨gz9, hi9⟩ => ⟨rfl, ?_⟩⟩
          dsimp only at gz9 hi9
          conv => whnf
          refine And.intro (by simp [z7]; omega) ?_
          conv => whnf
          have hs5 : ∀ x ∈ ss ++ [wMul .i64 500 (wSub .i64 z9 3)], -2147483647 ≤ x ∧ x ≤ 2147483647 ∧ (false = false → -1500 ≤ x ∧ x ≤ 1500) := fun x hx => by
            rcases List.mem_append.1 hx with hx | hx
            · exact hs4 x hx
            · simp at hx; rw [hx]; exact (by have := v500 ⟨gz9.1, gz9.2.1 (by decide)⟩; exact ⟨by omega, by omega, fun _ => this⟩)
          refine ⟨(ss ++ [wMul .i64 500 (wSub .i64 z9 3)], i9, u9), by simp; omega, ⟨by simp; omega, hs5, hi9⟩, ?_⟩
          ((conv => whnf); simp only [eS, wI (show ss.length < 40 by omega) (by omega)])
          simp only [z7, List.length_append, List.length_cons, List.length_nil]
          rw [← zX]
          first | exact ⟨rfl, trivial⟩ | exact ⟨trivial, rfl⟩ | exact ⟨rfl, rfl⟩ | rfl
      · refine ⟨z0G _, ?_⟩
        conv => whnf
        refine And.intro (by simp [zE, zQ]; omega) ?_
        conv => whnf
        rw [show dApp (eL cIs rs) [[D.sl 1 (eL cI ss)]] = eL cIs (rs ++ [ss]) from zX cIs rs ss]
        conv => whnf
        refine .inr (.inr (.inr (.inr (.inl ⟨0, ?_⟩))))
        conv => whnf
        refine ⟨_, _, _, _, _, _, yC code i7 u7 hi7 hl, fun ⟨z8, i8, u8⟩ ⟨gz8, hi8⟩ => ⟨rfl, ?_⟩⟩
        dsimp only at gz8 hi8
        conv => whnf
        cases b2 with
        | true =>
          conv => whnf
          refine And.intro (by simp [z7]; omega) ?_
          conv => whnf
          refine ⟨(a + 1, rs ++ [ss], ys ++ [z8], i8, u8), by dsimp only; omega, ⟨by dsimp only; omega, by simp; omega, by simp; omega, fun r hr => ?_, fun r hr x hx => ?_, fun v hv => ?_, hi8⟩, ?_⟩
          · rcases List.mem_append.1 hr with hr | hr
            · exact hrs r hr
            · simp at hr; rw [hr]; omega
          · rcases List.mem_append.1 hr with hr | hr
            · exact hrv r hr x hx
            · simp at hr; rw [hr] at hx; exact ⟨(hs4 x hx).1, (hs4 x hx).2.1⟩
          · rcases List.mem_append.1 hv with hv | hv
            · exact hyv v hv
            · simp at hv; rw [hv]; exact ⟨gz8.1, gz8.2⟩
          ((conv => whnf); simp only [eS, wI (show a < 40 by omega) (by omega)])
          simp only [z7]
          rw [← zX]
          first | exact ⟨rfl, rfl⟩ | rfl
        | false =>
          conv => whnf
          refine .inr (.inr (.inr (.inr (.inl ⟨0, ?_⟩))))
          conv => whnf
          refine ⟨_, _, _, _, _, _, zk code i8 u8 4 hi8 hl, fun ⟨b3, i9, u9⟩ hi9 => ⟨rfl, ?_⟩⟩
          dsimp only at hi9
          cases b3 with
          | true =>
            conv => whnf
            refine And.intro (by simp [z7]; omega) ?_
            conv => whnf
            refine ⟨(a + 1, rs ++ [ss], ys ++ [z8], i9, u9), by dsimp only; omega, ⟨by dsimp only; omega, by simp; omega, by simp; omega, fun r hr => ?_, fun r hr x hx => ?_, fun v hv => ?_, hi9⟩, ?_⟩
            · rcases List.mem_append.1 hr with hr | hr
              · exact hrs r hr
              · simp at hr; rw [hr]; omega
            · rcases List.mem_append.1 hr with hr | hr
              · exact hrv r hr x hx
              · simp at hr; rw [hr] at hx; exact ⟨(hs4 x hx).1, (hs4 x hx).2.1⟩
            · rcases List.mem_append.1 hv with hv | hv
              · exact hyv v hv
              · simp at hv; rw [hv]; exact ⟨gz8.1, gz8.2⟩
            ((conv => whnf); simp only [eS, wI (show a < 40 by omega) (by omega)])
            simp only [z7]
            rw [← zX]
            first | exact ⟨rfl, rfl⟩ | rfl
          | false =>
            conv => whnf
            obtain ⟨s0, hs0⟩ := zI (show 0 < ss.length by omega)
            refine yV hTn hmix [0, 2, 3, 4, 5, 6, 7, 11] (Y := Int × Int × Int) (fun y' => (-2147483647 ≤ y'.1 ∧ y'.1 ≤ 2147483647) ∧ yK code y'.2) (fun y' => { t := [(0, .w (.ptr 0 0) v0), (2, .c (.ptr 1 0)), (3, ai (1 + x1)), (4, .c (.ptr 2 0)), (5, ai M), (6, ab false), (7, ai a), (11, ai y'.1)], h := [(0, .box zH (cur code y'.2.1 y'.2.2)), (1, .box zF [.nl 1, .d (.str ⟨#[]⟩), .nl 1, .nl 1]), (2, .box zF [.ref 3 0 none, .d (.str ⟨#[121]⟩), .ref 4 0 none, .ref 5 0 none]), (3, .arr zy 1 0 .own (eL cS (abcd.take (1 + x1).toNat))), (4, z0Q (rs ++ [ss])), (5, .arr zZ 1 0 .own (eL cI ys))], n := 6, N := 84 }) rfl ?_ ?_
            · repeat' first
                | (refine zM rfl ?_; (conv => whnf))
                | (refine zL rfl ?_ ?_ <;> (conv => whnf))
                | (refine zC rfl ?_ ?_ ?_ <;> (conv => whnf))
                | (refine zGB (k := rs.length) (q := 0) (by simp) (show (rs ++ [ss])[rs.length]? = some ss by simp) rfl (by omega) ?_; (conv => whnf))
                | (refine zLa (k := rs.length) (q := 0) (by simp) (show (rs ++ [ss])[rs.length]? = some ss by simp) (by simp) hs0 ?_; (conv => whnf))
                | (refine .inr (.inr (.inr (.inr (.inl ⟨0, ?_⟩)))); (conv => whnf); refine ⟨_, _, _, _, _, _, zA code i9 u9 5 hi9 hl, fun ⟨z, ib, ub⟩ ⟨hz, hib⟩ => ⟨rfl, ?_⟩⟩; dsimp only at hz hib; (conv => whnf))
              all_goals
                refine zO rfl ?_
                refine ⟨(wAdd .i64 (wMul .i64 s0 2) (wMul .i64 100 z), ib, ub), ⟨zKY ((hs4 s0 (List.mem_of_getElem? hs0)).2.2 rfl) ⟨hz.1, hz.2.1 (by decide)⟩, hib⟩, ?_⟩
                conv => whnf
            · intro ⟨yv, ib, ub⟩ ⟨hyb, hib⟩
              dsimp only at hyb hib
              conv => whnf
              refine And.intro (by simp [z7]; omega) ?_
              conv => whnf
              refine ⟨(a + 1, rs ++ [ss], ys ++ [yv], ib, ub), by dsimp only; omega, ⟨by dsimp only; omega, by simp; omega, by simp; omega, fun r hr => ?_, fun r hr x hx => ?_, fun v hv => ?_, hib⟩, ?_⟩
              · rcases List.mem_append.1 hr with hr | hr
                · exact hrs r hr
                · simp at hr; rw [hr]; omega
              · rcases List.mem_append.1 hr with hr | hr
                · exact hrv r hr x hx
                · simp at hr; rw [hr] at hx; exact ⟨(hs4 x hx).1, (hs4 x hx).2.1⟩
              · rcases List.mem_append.1 hv with hv | hv
                · exact hyv v hv
                · simp at hv; rw [hv]; exact hyb
              ((conv => whnf); simp only [eS, wI (show a < 40 by omega) (by omega)])
              simp only [z7]
              rw [← zX]
              first | exact ⟨rfl, rfl⟩ | rfl
    · refine ⟨(⟨(abcd.take (1 + x1).toNat), ⟨#[121]⟩, rs, ys⟩, i6, u6), ⟨⟨by simp [abcd]; omega, by simp [abcd]; omega, fun s hs => ?_, by dsimp only; decide, by dsimp only; omega, by dsimp only; omega, fun r hr => by rw [hrs r hr]; simp [abcd]; omega, by dsimp only; omega, ⟨(1 + x1).toNat, by omega, by omega, rfl⟩, rfl, hrv, hyv⟩, hi6⟩, ?_⟩
      · have : s ∈ abcd := List.mem_of_mem_take hs
        simp [abcd] at this
        rcases this with rfl | rfl | rfl | rfl <;> decide
      · (conv => whnf)
        first | done | rfl
  | false =>
    conv => whnf
    obtain ⟨M, hM, hMm⟩ : ∃ M : Int, wAdd .i64 1 x2 = M ∧ (1 ≤ M ∧ M ≤ 40) := ⟨1 + x2, y6 (by omega) (by omega), by omega⟩
    refine .inr (.inr (.inr (.inr (.inl ⟨0, ?_⟩))))
    conv => whnf
    refine ⟨_, _, _, _, _, _, zk code i3 u3 12 hi3 hl, fun ⟨b2, i5, u5⟩ hi5 => ⟨rfl, ?_⟩⟩
    dsimp only at hi5
    conv => whnf
    rw [hM]
    refine zC6 5 2 yS 1 [zZ] ?_
    conv => whnf
    refine z0i 5 3 zZ 1 ?_
    conv => whnf
    refine zB hTn [0, 2, 3, 4, 5, 6, 7] (α := Nat × List (List Int) × List Int × Int × Int) (fun x' => { t := [(0, .w (.ptr 0 0) v0), (2, .c (.ptr 1 0)), (3, ai (1 + x1)), (4, .c (.ptr 2 0)), (5, ai M), (6, ab b2), (7, ai x'.1)], h := [(0, .box zH (cur code x'.2.2.2.1 x'.2.2.2.2)), (1, .box zF [.nl 1, .d (.str ⟨#[]⟩), .nl 1, .nl 1]), (2, .box zF [.ref 3 0 none, .d (.str ⟨#[121]⟩), .ref 4 0 none, .ref 5 0 none]), (3, .arr zy 1 0 .own (eL cS (abcd.take (1 + x1).toNat))), (4, z0Q x'.2.1), (5, .arr zZ 1 0 .own (eL cI x'.2.2.1))], n := 6, N := 84 })
      (fun x' => (x'.1 : Int) ≤ M ∧ x'.2.1.length = x'.1 ∧ x'.2.2.1.length = x'.1 ∧ (∀ r ∈ x'.2.1, r.length = (1 + x1).toNat) ∧ (∀ r ∈ x'.2.1, ∀ x ∈ r, -2147483647 ≤ x ∧ x ≤ 2147483647) ∧ (∀ v ∈ x'.2.2.1, -2147483647 ≤ v ∧ v ≤ 2147483647) ∧ yK code x'.2.2.2) (fun x' => M.toNat - x'.1) (0, [], [], i5, u5) (by (conv => whnf); simp only [z0Q, wo, zp]; rfl) ⟨by dsimp only; omega, rfl, rfl, fun r hr => absurd hr (by simp), fun r hr => absurd hr (by simp), fun v hv => absurd hv (by simp), hi5⟩ ?_
    intro ⟨a, rs, ys, i6, u6⟩ ⟨ha, har, hay, hrs, hrv, hyv, hi6⟩
    dsimp only at ha har hay hrs hrv hyv hi6
    conv => whnf
    refine zK (fun q1 => ?_) (fun q1 => ?_) <;> (conv => whnf) <;> simp only [eH] at q1
    · refine zB hTn [0, 2, 3, 4, 5, 6, 7, 8, 9] (α := List Int × Int × Int) (fun y' =>
          { t := [(0, .w (.ptr 0 0) v0), (2, .c (.ptr 1 0)), (3, ai (1 + x1)), (4, .c (.ptr 2 0)), (5, ai M), (6, ab b2), (7, ai a), (8, .c (.ref 6 0 none)), (9, ai y'.1.length)], h := [(0, .box zH (cur code y'.2.1 y'.2.2)), (1, .box zF [.nl 1, .d (.str ⟨#[]⟩), .nl 1, .nl 1]), (2, .box zF [.ref 3 0 none, .d (.str ⟨#[121]⟩), .ref 4 0 none, .ref 5 0 none]), (3, .arr zy 1 0 .own (eL cS (abcd.take (1 + x1).toNat))), (4, z0Q rs), (5, .arr zZ 1 0 .own (eL cI ys)), (6, .arr zZ 1 0 .own (eL cI y'.1))], n := 7, N := 84 })
        (fun y' => (y'.1.length : Int) ≤ 1 + x1 ∧ (∀ x ∈ y'.1, -2147483647 ≤ x ∧ x ≤ 2147483647 ∧ (b2 = false → -1500 ≤ x ∧ x ≤ 1500)) ∧ yK code y'.2) (fun y' => (1 + x1).toNat - y'.1.length) ([], i6, u6) (by (conv => whnf); simp only [zp]; rfl) ⟨by simp; omega, fun x hx => absurd hx (by simp), hi6⟩ ?_
      intro ⟨ss, i7, u7⟩ ⟨hs1, hs4, hi7⟩
      dsimp only at hs1 hs4 hi7
      conv => whnf
      refine zK (fun hs3 => ?_) (fun hs3 => ?_) <;> (conv => whnf) <;> simp only [eH] at hs3
      ·
        refine .inr (.inr (.inr (.inr (.inl ⟨0, ?_⟩))))
        conv => whnf
        refine ⟨_, _, _, _, _, _, yC code i7 u7 hi7 hl, fun ⟨z8, i8, u8⟩ ⟨gz8, hi8⟩ => ⟨rfl, ?_⟩⟩
        dsimp only at gz8 hi8
        conv => whnf
        cases b2 with
        | true =>
          conv => whnf
          refine And.intro (by simp [z7]; omega) ?_
          conv => whnf
          have hs5 : ∀ x ∈ ss ++ [z8], -2147483647 ≤ x ∧ x ≤ 2147483647 ∧ (true = false → -1500 ≤ x ∧ x ≤ 1500) := fun x hx => by
            rcases List.mem_append.1 hx with hx | hx
            · exact hs4 x hx
            · simp at hx; rw [hx]; exact ⟨gz8.1, gz8.2, fun h => by cases h⟩
          refine ⟨(ss ++ [z8], i8, u8), by simp; omega, ⟨by simp; omega, hs5, hi8⟩, ?_⟩
          ((conv => whnf); simp only [eS, wI (show ss.length < 40 by omega) (by omega)])
          simp only [z7, List.length_append, List.length_cons, List.length_nil]
          rw [← zX]
          first | exact ⟨rfl, trivial⟩ | exact ⟨trivial, rfl⟩ | exact ⟨rfl, rfl⟩ | rfl
        | false =>
          conv => whnf
          refine .inr (.inr (.inr (.inr (.inl ⟨0, ?_⟩))))
          conv => whnf
          refine ⟨_, _, _, _, _, _, zA code i8 u8 7 hi8 hl, fun ⟨z9, i9, u9⟩ ⟨gz9, hi9⟩ => ⟨rfl, ?_⟩⟩
          dsimp only at gz9 hi9
          conv => whnf
          refine And.intro (by simp [z7]; omega) ?_
          conv => whnf
          have hs5 : ∀ x ∈ ss ++ [wMul .i64 500 (wSub .i64 z9 3)], -2147483647 ≤ x ∧ x ≤ 2147483647 ∧ (false = false → -1500 ≤ x ∧ x ≤ 1500) := fun x hx => by
            rcases List.mem_append.1 hx with hx | hx
            · exact hs4 x hx
            · simp at hx; rw [hx]; exact (by have := v500 ⟨gz9.1, gz9.2.1 (by decide)⟩; exact ⟨by omega, by omega, fun _ => this⟩)
          refine ⟨(ss ++ [wMul .i64 500 (wSub .i64 z9 3)], i9, u9), by simp; omega, ⟨by simp; omega, hs5, hi9⟩, ?_⟩
          ((conv => whnf); simp only [eS, wI (show ss.length < 40 by omega) (by omega)])
          simp only [z7, List.length_append, List.length_cons, List.length_nil]
          rw [← zX]
          first | exact ⟨rfl, trivial⟩ | exact ⟨trivial, rfl⟩ | exact ⟨rfl, rfl⟩ | rfl
      · refine ⟨z0G _, ?_⟩
        conv => whnf
        refine And.intro (by simp [zE, zQ]; omega) ?_
        conv => whnf
        rw [show dApp (eL cIs rs) [[D.sl 1 (eL cI ss)]] = eL cIs (rs ++ [ss]) from zX cIs rs ss]
        conv => whnf
        refine .inr (.inr (.inr (.inr (.inl ⟨0, ?_⟩))))
        conv => whnf
        refine ⟨_, _, _, _, _, _, yC code i7 u7 hi7 hl, fun ⟨z8, i8, u8⟩ ⟨gz8, hi8⟩ => ⟨rfl, ?_⟩⟩
        dsimp only at gz8 hi8
        conv => whnf
        cases b2 with
        | true =>
          conv => whnf
          refine And.intro (by simp [z7]; omega) ?_
          conv => whnf
          refine ⟨(a + 1, rs ++ [ss], ys ++ [z8], i8, u8), by dsimp only; omega, ⟨by dsimp only; omega, by simp; omega, by simp; omega, fun r hr => ?_, fun r hr x hx => ?_, fun v hv => ?_, hi8⟩, ?_⟩
          · rcases List.mem_append.1 hr with hr | hr
            · exact hrs r hr
            · simp at hr; rw [hr]; omega
          · rcases List.mem_append.1 hr with hr | hr
            · exact hrv r hr x hx
            · simp at hr; rw [hr] at hx; exact ⟨(hs4 x hx).1, (hs4 x hx).2.1⟩
          · rcases List.mem_append.1 hv with hv | hv
            · exact hyv v hv
            · simp at hv; rw [hv]; exact ⟨gz8.1, gz8.2⟩
          ((conv => whnf); simp only [eS, wI (show a < 40 by omega) (by omega)])
          simp only [z7]
          rw [← zX]
          first | exact ⟨rfl, rfl⟩ | rfl
        | false =>
          conv => whnf
          refine .inr (.inr (.inr (.inr (.inl ⟨0, ?_⟩))))
          conv => whnf
          refine ⟨_, _, _, _, _, _, zk code i8 u8 4 hi8 hl, fun ⟨b3, i9, u9⟩ hi9 => ⟨rfl, ?_⟩⟩
          dsimp only at hi9
          cases b3 with
          | true =>
            conv => whnf
            refine And.intro (by simp [z7]; omega) ?_
            conv => whnf
            refine ⟨(a + 1, rs ++ [ss], ys ++ [z8], i9, u9), by dsimp only; omega, ⟨by dsimp only; omega, by simp; omega, by simp; omega, fun r hr => ?_, fun r hr x hx => ?_, fun v hv => ?_, hi9⟩, ?_⟩
            · rcases List.mem_append.1 hr with hr | hr
              · exact hrs r hr
              · simp at hr; rw [hr]; omega
            · rcases List.mem_append.1 hr with hr | hr
              · exact hrv r hr x hx
              · simp at hr; rw [hr] at hx; exact ⟨(hs4 x hx).1, (hs4 x hx).2.1⟩
            · rcases List.mem_append.1 hv with hv | hv
              · exact hyv v hv
              · simp at hv; rw [hv]; exact ⟨gz8.1, gz8.2⟩
            ((conv => whnf); simp only [eS, wI (show a < 40 by omega) (by omega)])
            simp only [z7]
            rw [← zX]
            first | exact ⟨rfl, rfl⟩ | rfl
          | false =>
            conv => whnf
            obtain ⟨s0, hs0⟩ := zI (show 0 < ss.length by omega)
            refine yV hTn hmix [0, 2, 3, 4, 5, 6, 7, 11] (Y := Int × Int × Int) (fun y' => (-2147483647 ≤ y'.1 ∧ y'.1 ≤ 2147483647) ∧ yK code y'.2) (fun y' => { t := [(0, .w (.ptr 0 0) v0), (2, .c (.ptr 1 0)), (3, ai (1 + x1)), (4, .c (.ptr 2 0)), (5, ai M), (6, ab false), (7, ai a), (11, ai y'.1)], h := [(0, .box zH (cur code y'.2.1 y'.2.2)), (1, .box zF [.nl 1, .d (.str ⟨#[]⟩), .nl 1, .nl 1]), (2, .box zF [.ref 3 0 none, .d (.str ⟨#[121]⟩), .ref 4 0 none, .ref 5 0 none]), (3, .arr zy 1 0 .own (eL cS (abcd.take (1 + x1).toNat))), (4, z0Q (rs ++ [ss])), (5, .arr zZ 1 0 .own (eL cI ys))], n := 6, N := 84 }) rfl ?_ ?_
            · repeat' first
                | (refine zM rfl ?_; (conv => whnf))
                | (refine zL rfl ?_ ?_ <;> (conv => whnf))
                | (refine zC rfl ?_ ?_ ?_ <;> (conv => whnf))
                | (refine zGB (k := rs.length) (q := 0) (by simp) (show (rs ++ [ss])[rs.length]? = some ss by simp) rfl (by omega) ?_; (conv => whnf))
                | (refine zLa (k := rs.length) (q := 0) (by simp) (show (rs ++ [ss])[rs.length]? = some ss by simp) (by simp) hs0 ?_; (conv => whnf))
                | (refine .inr (.inr (.inr (.inr (.inl ⟨0, ?_⟩)))); (conv => whnf); refine ⟨_, _, _, _, _, _, zA code i9 u9 5 hi9 hl, fun ⟨z, ib, ub⟩ ⟨hz, hib⟩ => ⟨rfl, ?_⟩⟩; dsimp only at hz hib; (conv => whnf))
              all_goals
                refine zO rfl ?_
                refine ⟨(wAdd .i64 (wMul .i64 s0 2) (wMul .i64 100 z), ib, ub), ⟨zKY ((hs4 s0 (List.mem_of_getElem? hs0)).2.2 rfl) ⟨hz.1, hz.2.1 (by decide)⟩, hib⟩, ?_⟩
                conv => whnf
            · intro ⟨yv, ib, ub⟩ ⟨hyb, hib⟩
              dsimp only at hyb hib
              conv => whnf
              refine And.intro (by simp [z7]; omega) ?_
              conv => whnf
              refine ⟨(a + 1, rs ++ [ss], ys ++ [yv], ib, ub), by dsimp only; omega, ⟨by dsimp only; omega, by simp; omega, by simp; omega, fun r hr => ?_, fun r hr x hx => ?_, fun v hv => ?_, hib⟩, ?_⟩
              · rcases List.mem_append.1 hr with hr | hr
                · exact hrs r hr
                · simp at hr; rw [hr]; omega
              · rcases List.mem_append.1 hr with hr | hr
                · exact hrv r hr x hx
                · simp at hr; rw [hr] at hx; exact ⟨(hs4 x hx).1, (hs4 x hx).2.1⟩
              · rcases List.mem_append.1 hv with hv | hv
                · exact hyv v hv
                · simp at hv; rw [hv]; exact hyb
              ((conv => whnf); simp only [eS, wI (show a < 40 by omega) (by omega)])
              simp only [z7]
              rw [← zX]
              first | exact ⟨rfl, rfl⟩ | rfl
    · refine ⟨(⟨(abcd.take (1 + x1).toNat), ⟨#[121]⟩, rs, ys⟩, i6, u6), ⟨⟨by simp [abcd]; omega, by simp [abcd]; omega, fun s hs => ?_, by dsimp only; decide, by dsimp only; omega, by dsimp only; omega, fun r hr => by rw [hrs r hr]; simp [abcd]; omega, by dsimp only; omega, ⟨(1 + x1).toNat, by omega, by omega, rfl⟩, rfl, hrv, hyv⟩, hi6⟩, ?_⟩
      · have : s ∈ abcd := List.mem_of_mem_take hs
        simp [abcd] at this
        rcases this with rfl | rfl | rfl | rfl <;> decide
      · (conv => whnf)
        first | done | rfl
end Go.H.S
