/- Library, part RA: names, signs, models that are right. -/
import Derived.Test.YtdolkacinfjhcaaGreatLY
import Derived.Test.YtdolkacinfjhcaaGreatLNH
import Derived.Test.YtdolkacinfjhcaaGreatLNC
import Derived.Test.YtdolkacinfjhcaaGreatH31
set_option maxRecDepth 100000
set_option linter.unusedSimpArgs false
set_option linter.unusedVariables false
namespace Go.H.S
open Go Go.Proofs Go.H
attribute [local irreducible] Tri FnSpec FnSpecM FnSpecX FnSpecJ
def letterB (b : UInt8) : Bool := decide (97 ≤ (b.toNat : Int) ∧ (b.toNat : Int) ≤ 122)
def digitB (b : UInt8) : Bool := decide (48 ≤ (b.toNat : Int) ∧ (b.toNat : Int) ≤ 57)
def nameL : List UInt8 → Nat → Bool
 | [], _ => true
 | b :: r, k => (letterB b || (decide (k ≠ 0) && digitB b)) && nameL r (k + 1)
def nameOk (s : ByteArray) : Bool := decide (1 ≤ (s.size : Int) ∧ (s.size : Int) ≤ 12) && nameL s.data.toList 0
theorem nameL_late : ∀ (l : List UInt8) (k : Nat), 0 < k → nameL l k = l.all fun b => letterB b || digitB b
 | [], k, h => rfl
 | b :: r, k, h => by
  simp only [nameL, List.all_cons, nameL_late r (k + 1) (by omega)]
  rw [show decide (k ≠ 0) = true from decide_eq_true (by omega), Bool.true_and]
theorem str_at {s : ByteArray} {n : Int} {k : Nat} {b : UInt8} {K : UInt8 → Prop} (hn : n = (k : Int)) (hb : s.data.toList[k]? = some b) (h : K b) : InB n s.size ∧ ∀ c, AtB s (nOf n) c → K c := by
 subst hn
 have hlt := (List.getElem?_eq_some_iff.1 hb).1
 refine ⟨by simp; exact hlt, fun c hc => ?_⟩
 have hc' : s.data.toList[nOf (k : Int)]? = some c := by unfold AtB at hc; exact hc
 rw [nOf_eq, Int.toNat_natCast, hb] at hc'
 cases hc'
 exact h
theorem byte_get {s : ByteArray} {k : Nat} (h : k < s.size) : ∃ b, s.data.toList[k]? = some b := get_lt (l := s.data.toList) (by simpa using h)
theorem bInt_eq' (b : UInt8) : bInt b = (b.toNat : Int) := by unfold bInt; rfl
theorem bInt_lt (b : UInt8) : 0 ≤ bInt b ∧ bInt b < 256 := by rw [bInt_eq']; have := b.toNat_lt; omega
theorem wConv_byte (b : UInt8) : wConv .i64 (bInt b) = bInt b := by
 have := bInt_lt b
 unfold wConv
 exact wrap64 (by omega) (by omega)
theorem letter_b (b : UInt8) : letterB b = decide (97 ≤ bInt b ∧ bInt b ≤ 122) := by rw [bInt_eq']; rfl
theorem digit_b (b : UInt8) : digitB b = decide (48 ≤ bInt b ∧ bInt b ≤ 57) := by rw [bInt_eq']; rfl
theorem toList_cons {s : ByteArray} {b : UInt8} (h : s.data.toList[0]? = some b) : ∃ r, s.data.toList = b :: r := by
 generalize s.data.toList = l at *
 cases l with
 | nil => simp at h
 | cons x r => simp at h; subst h; exact ⟨r, rfl⟩
theorem spec_NameOk_spec (s : ByteArray) (hs : s.size ≤ 9223372036854775807) : FnSpec PR f_spec_NameOk [aS s] (ab (nameOk s)) [] 0 := by
 have hsz : s.data.toList.length = s.size := by simp
 refine FnSpec.intro hT (pf Tryz.func159) rfl (by kernel_rfl) Tryz.ntmps159 rfl ?_
 conv => whnf
 refine .inl ⟨_, _, _, spec_l1In_spec _ _ _, rfl, ?_⟩
 conv => whnf
 refine ifB_i (fun h1 => ?_) (fun h1 => ?_) <;> (conv => whnf) <;> simp only [eH] at h1
 ·have : decide (1 ≤ (s.size : Int) ∧ (s.size : Int) ≤ 12) = false := by simpa using h1
  simp [nameOk, this]
 have hno : nameOk s = nameL s.data.toList 0 := by simp only [nameOk]; rw [h1]; rfl
 have h1' := of_decide_eq_true h1
 obtain ⟨b0, hb0⟩ := byte_get (s := s) (k := 0) (by omega)
 refine str_at (k := 0) rfl hb0 ?_
 conv => whnf
 refine ifB_i (fun h2 => ?_) (fun h2 => ?_) <;> (conv => whnf) <;> simp only [eH] at h2
 ·obtain ⟨r, hr⟩ := toList_cons hb0
  have hl : letterB b0 = false := by rw [letter_b]; exact decide_eq_false (by omega)
  rw [hno, hr, nameL, hl]
  rfl
 refine tri_loop hT [0, 3] (α := Nat) (fun k => { t := [(0, aS s), (3, ai k)], h := [], n := 0, N := 33 })
  (fun k => k ≤ s.size ∧ ((s.data.toList.drop k).all fun b => letterB b || digitB b) = (s.data.toList.all fun b => letterB b || digitB b)) (fun k => s.size - k) 0 (by ((conv => whnf); simp only [eS])) ⟨Nat.zero_le _, rfl⟩ ?_
 intro k ⟨hk, hn⟩
 conv => whnf
 refine ifB_i (fun h3 => ?_) (fun h3 => ?_) <;> (conv => whnf) <;> simp at h3
 ·obtain ⟨b, hb⟩ := byte_get h3
  rw [drop_at hb, List.all_cons] at hn
  refine str_at (k := k) rfl hb ?_
  conv => whnf
  refine .inl ⟨_, _, _, spec_l1In_spec _ _ _, rfl, ?_⟩
  rw [wConv_byte, ← letter_b]
  conv => whnf
  have hbad : letterB b = false → digitB b = false → nameOk s = false := fun p1 p2 => by
   rw [p1, p2] at hn
   obtain ⟨r, hr⟩ := toList_cons hb0
   rw [hno, hr, nameL, nameL_late _ _ (by omega)]
   rw [hr, List.all_cons] at hn
   simp only [Bool.or_self, Bool.false_and] at hn
   cases hq : (r.all fun b => letterB b || digitB b) with
   | false => simp
   | true =>
    rw [hq, Bool.and_true] at hn
    have hb0n : letterB b0 = false := by
     cases hq2 : letterB b0 with
     | false => rfl
     | true => rw [hq2] at hn; simp at hn
    rw [hb0n]; rfl
  cases hl : letterB b
  ·conv => whnf
   refine str_at (k := k) rfl hb ?_
   conv => whnf
   refine .inl ⟨_, _, _, spec_l1In_spec _ _ _, rfl, ?_⟩
   rw [wConv_byte, ← digit_b]
   conv => whnf
   cases hd : digitB b
   ·conv => whnf
    rw [hbad hl hd]
   ·conv => whnf
    refine ⟨k + 1, by omega, ⟨h3, by rw [hl, hd] at hn; simpa using hn⟩, ?_⟩
    ((conv => whnf); simp only [eS, wI h3 (by omega)])
  ·conv => whnf
   refine ⟨k + 1, by omega, ⟨h3, by rw [hl] at hn; simpa using hn⟩, ?_⟩
   ((conv => whnf); simp only [eS, wI h3 (by omega)])
 ·obtain rfl : k = s.size := by omega
  rw [← hsz, List.drop_length] at hn
  obtain ⟨r, hr⟩ := toList_cons hb0
  rw [hr] at hn
  simp only [List.all_nil, List.all_cons] at hn
  have hn' := hn.symm
  simp only [Bool.and_eq_true] at hn'
  have hl : letterB b0 = true := by
   have h4 := hn'.1
   simp only [Bool.or_eq_true] at h4
   rcases h4 with h4 | h4
   ·exact h4
   ·rw [digit_b, decide_eq_true_eq] at h4; omega
  have : nameOk s = true := by rw [hno, hr, nameL, nameL_late _ _ (by omega), hl, hn'.2]; rfl
  rw [this]
def hasS (x : ByteArray) (l : List ByteArray) : Bool := l.any fun y => decide (x = y)
def namesL (all : List ByteArray) : List ByteArray → Nat → Bool
 | [], _ => true
 | s :: r, k => (nameOk s && !hasS s (all.take k)) && namesL all r (k + 1)
theorem dCut_take {α : Type} (f : α → List D) (xs : List α) (k : Nat) : dCut (eL f xs) (nOf 0) (nOf (k : Int)) = eL f (xs.take k) := by simp [dCut, eL, List.map_take]
theorem spec_l9Has_spec (l : List ByteArray) (x : ByteArray) (hl : l.length ≤ 9223372036854775807) : FnSpec PR f_spec_l9Has [aSs l, aS x] (ab (hasS x l)) [] 0 := by
 refine FnSpec.intro hT (pf Tryz.func160) rfl (by kernel_rfl) Tryz.ntmps160 rfl ?_
 conv => whnf
 refine tri_loop hT [0, 1, 5] (α := Nat) (fun k => { t := [(0, aSs l), (1, aS x), (5, ai k)], h := [], n := 0, N := 18 })
  (fun k => k ≤ l.length ∧ hasS x (l.drop k) = hasS x l) (fun k => l.length - k) 0 (by ((conv => whnf); simp only [eS])) ⟨Nat.zero_le _, rfl⟩ ?_
 intro k ⟨hk, hi⟩
 conv => whnf
 refine ifB_i (fun h1 => ?_) (fun h1 => ?_) <;> (conv => whnf) <;> simp at h1
 ·obtain ⟨s, hs⟩ := get_lt h1
  refine idx_at (by simp) hs ?_
  conv => whnf
  rw [drop_at hs] at hi
  refine ifB_i (fun h2 => ?_) (fun h2 => ?_) <;> (conv => whnf) <;> simp only [eH] at h2
  ·subst h2
   rw [← hi]
   simp [hasS]
  ·refine ⟨k + 1, by omega, ⟨h1, by rw [← hi]; simp [hasS, Ne.symm h2]⟩, ?_⟩
   ((conv => whnf); simp only [eS, wI h1 hl])
 ·obtain rfl : k = l.length := by omega
  simp only [List.drop_length] at hi
  rw [← hi]
  rfl
def signOk (x : Int) : Bool := decide (-1 ≤ x ∧ x ≤ 1)
def modelOk (m : Mdl) : Bool :=
 decide (1 ≤ (m.names.length : Int) ∧ (m.names.length : Int) ≤ 4) && ((decide (m.signs.length = 0) || decide (m.signs.length = m.names.length)) && (decide (-2147483647 ≤ m.base ∧ m.base ≤ 2147483647) && (decide (m.trees.length ≤ 8) &&
  (namesL m.names m.names 0 && (m.signs.all signOk && m.trees.all fun t => treeOk t m.names.length)))))
set_option maxHeartbeats 1000000 in
theorem spec_ModelOk_spec (m : Mdl) (hn : m.names.length ≤ 1048576) (hns : ∀ s ∈ m.names, s.size ≤ 9223372036854775807) (hs : m.signs.length ≤ 1048576) (hm : m.trees.length ≤ 1048576) (ht : ∀ t ∈ m.trees, t.length ≤ 1048576) : FnSpec PR f_spec_ModelOk [aM m] (ab (modelOk m)) [] 0 := by
  have eSi : nInt (dLen (eL cI m.signs)) = (m.signs.length : Int) := by simp
  have eN : nInt (dLen (eL cS m.names)) = (m.names.length : Int) := by simp
  have eT : nInt (dLen (eL cT m.trees)) = (m.trees.length : Int) := by simp
  refine FnSpec.intro hT (pf Tryz.func242) rfl (by kernel_rfl) Tryz.ntmps242 rfl ?_
  conv => whnf
  rw [eN]
  refine .inl ⟨_, _, _, spec_l1In_spec _ _ _, rfl, ?_⟩
  conv => whnf
  refine ifB_i (fun h1 => ?_) (fun h1 => ?_) <;> (conv => whnf) <;> simp only [eH] at h1
  · have : decide (1 ≤ (m.names.length : Int) ∧ (m.names.length : Int) ≤ 4) = false := by simpa using h1
    simp [modelOk, this]
  rw [eSi]
  generalize e1 : iEq (m.signs.length : Int) 0 = c1
  cases c1 <;> (conv => whnf)
  · rw [eSi]
    generalize e2 : iEq (m.signs.length : Int) (m.names.length : Int) = c2
    have h0 : ¬ m.signs.length = 0 := by intro h; rw [h] at e1; simp [iEq] at e1
    cases c2 <;> (conv => whnf)
    · have : ¬ m.signs.length = m.names.length := by intro h; rw [h] at e2; simp [iEq] at e2
      simp [modelOk, h0, this]
    · have hsg : (decide (m.signs.length = 0) || decide (m.signs.length = m.names.length)) = true := by
        have : (m.signs.length : Int) = m.names.length := by simpa [iEq] using e2
        rw [decide_eq_true (show m.signs.length = m.names.length by omega)]; simp
      refine .inl ⟨_, _, _, spec_l6Value_spec _, rfl, ?_⟩
      conv => whnf
      generalize e3 : decide (-2147483647 ≤ m.base ∧ m.base ≤ 2147483647) = c3
      cases c3 <;> (conv => whnf)
      · simp [modelOk, e3]
      rw [eT]
      generalize e4 : iLt 8 (m.trees.length : Int) = c4
      cases c4 <;> (conv => whnf)
      rotate_left
      · have : ¬ m.trees.length ≤ 8 := by have : (8 : Int) < m.trees.length := by simpa [iLt] using e4
                                          omega
        simp [modelOk, this]
      have h4 : decide (m.trees.length ≤ 8) = true := decide_eq_true (by have : ¬ (8 : Int) < m.trees.length := by simpa [iLt] using e4
                                                                         omega)
      have hmo : modelOk m = (namesL m.names m.names 0 && (m.signs.all signOk && m.trees.all fun t => treeOk t m.names.length)) := by simp only [modelOk]; rw [h1, hsg, e3, h4]; rfl
      rw [hmo]
      refine tri_loop hT [1, 3, 4] (α := Nat) (fun k => { t := [(1, .c (.ptr 0 0)), (3, ai m.names.length), (4, ai k)], h := [(0, .box t_impl_Model (cM m))], n := 1, N := 91 })
        (fun k => k ≤ m.names.length ∧ namesL m.names (m.names.drop k) k = namesL m.names m.names 0) (fun k => m.names.length - k) 0 (by ((conv => whnf); simp only [eS]); first | done | simp) ⟨Nat.zero_le _, rfl⟩ ?_
      intro k ⟨hk, hi⟩
      conv => whnf
      refine ifB_i (fun g1 => ?_) (fun g1 => ?_) <;> (conv => whnf) <;> simp at g1
      · obtain ⟨s, hs'⟩ := get_lt g1
        rw [drop_at hs', namesL] at hi
        refine tri_conf hT hmix (by kernel_rfl) ?_
        conv => whnf
        refine idx_at (by simp) hs' ?_
        conv => whnf
        refine ⟨_, _, spec_NameOk_spec s (hns s (List.mem_of_getElem? hs')), rfl, ?_⟩
        cases hb : nameOk s
        · (conv => whnf)
          repeat' (first | (refine And.intro (fun q => ?_) (fun q => ?_) <;> cases q <;> (conv => whnf)) | fail)
          rw [hb] at hi
          have : namesL m.names m.names 0 = false := by rw [← hi]; simp
          rw [this]
          conv => whnf
          rfl
        · rw [hb, Bool.true_and] at hi
          conv => whnf
          repeat' (first | (refine And.intro (fun q => ?_) (fun q => ?_) <;> cases q <;> (conv => whnf)) | fail)
          refine And.intro (by simp; omega) ?_
          rw [dCut_take]
          conv => whnf
          repeat' (first | (refine And.intro (fun q => ?_) (fun q => ?_) <;> cases q <;> (conv => whnf)) | fail)
          refine idx_at (by simp) hs' ?_
          conv => whnf
          repeat' (first | (refine And.intro (fun q => ?_) (fun q => ?_) <;> cases q <;> (conv => whnf)) | fail)
          refine ⟨_, _, spec_l9Has_spec (m.names.take k) s (by simp; omega), rfl, ?_⟩
          cases hh : hasS s (m.names.take k)
          · (conv => whnf)
            repeat' (first | (refine And.intro (fun q => ?_) (fun q => ?_) <;> cases q <;> (conv => whnf)) | fail)
            rw [hh] at hi
            refine ⟨k + 1, by omega, ⟨g1, by simpa using hi⟩, ?_⟩
            ((conv => whnf); simp only [eS, wI g1 (by omega)])
          · (conv => whnf)
            repeat' (first | (refine And.intro (fun q => ?_) (fun q => ?_) <;> cases q <;> (conv => whnf)) | fail)
            rw [hh] at hi
            have : namesL m.names m.names 0 = false := by rw [← hi]; simp
            rw [this]
            conv => whnf
            rfl
      · obtain rfl : k = m.names.length := by omega
        simp only [List.drop_length, namesL] at hi
        rw [← hi, Bool.true_and]
        refine tri_loop hT [1, 3, 5] (α := Nat) (fun k => { t := [(1, .c (.ptr 0 0)), (3, ai m.names.length), (5, ai k)], h := [(0, .box t_impl_Model (cM m))], n := 1, N := 91 })
          (fun k => k ≤ m.signs.length ∧ (m.signs.drop k).all signOk = m.signs.all signOk) (fun k => m.signs.length - k) 0 (by ((conv => whnf); simp only [eS])) ⟨Nat.zero_le _, rfl⟩ ?_
        intro k ⟨hk2, hj⟩
        conv => whnf
        refine ifB_i (fun g2 => ?_) (fun g2 => ?_) <;> (conv => whnf) <;> simp at g2
        · obtain ⟨x, hx⟩ := get_lt g2
          rw [drop_at hx, List.all_cons] at hj
          refine idx_at (by simp) hx ?_
          conv => whnf
          refine .inl ⟨_, _, _, spec_l1In_spec _ _ _, rfl, ?_⟩
          rw [show decide (-1 ≤ x ∧ x ≤ 1) = signOk x from rfl]
          cases hb : signOk x
          · (conv => whnf)
            rw [hb] at hj
            rw [← hj]
            rfl
          · (conv => whnf)
            rw [hb] at hj
            refine ⟨k + 1, by omega, ⟨g2, by simpa using hj⟩, ?_⟩
            ((conv => whnf); simp only [eS, wI g2 (by omega)])
        · obtain rfl : k = m.signs.length := by omega
          simp only [List.drop_length, List.all_nil] at hj
          rw [← hj, Bool.true_and]
          refine tri_loop hT [1, 3, 6] (α := Nat) (fun k => { t := [(1, .c (.ptr 0 0)), (3, ai m.names.length), (6, ai k)], h := [(0, .box t_impl_Model (cM m))], n := 1, N := 91 })
            (fun k => k ≤ m.trees.length ∧ ((m.trees.drop k).all fun t => treeOk t m.names.length) = m.trees.all fun t => treeOk t m.names.length) (fun k => m.trees.length - k) 0 (by ((conv => whnf); simp only [eS])) ⟨Nat.zero_le _, rfl⟩ ?_
          intro k ⟨hk3, hl⟩
          conv => whnf
          refine ifB_i (fun g3 => ?_) (fun g3 => ?_) <;> (conv => whnf) <;> simp at g3
          · obtain ⟨t, ht'⟩ := get_lt g3
            rw [drop_at ht', List.all_cons] at hl
            refine idx_at (by simp) ht' ?_
            conv => whnf
            refine .inl ⟨_, _, _, spec_TreeOk_spec t m.names.length (ht t (List.mem_of_getElem? ht')), rfl, ?_⟩
            cases hb : treeOk t m.names.length
            · (conv => whnf)
              rw [hb] at hl
              rw [← hl]
              rfl
            · (conv => whnf)
              rw [hb] at hl
              refine ⟨k + 1, by omega, ⟨g3, by simpa using hl⟩, ?_⟩
              ((conv => whnf); simp only [eS, wI g3 (by omega)])
          · obtain rfl : k = m.trees.length := by omega
            simp only [List.drop_length, List.all_nil] at hl
            rw [← hl]
  · have hsg : (decide (m.signs.length = 0) || decide (m.signs.length = m.names.length)) = true := by
      have : (m.signs.length : Int) = 0 := by simpa [iEq] using e1
      rw [decide_eq_true (show m.signs.length = 0 by omega)]; rfl
    refine .inl ⟨_, _, _, spec_l6Value_spec _, rfl, ?_⟩
    conv => whnf
    generalize e3 : decide (-2147483647 ≤ m.base ∧ m.base ≤ 2147483647) = c3
    cases c3 <;> (conv => whnf)
    · simp [modelOk, e3]
    rw [eT]
    generalize e4 : iLt 8 (m.trees.length : Int) = c4
    cases c4 <;> (conv => whnf)
    rotate_left
    · have : ¬ m.trees.length ≤ 8 := by have : (8 : Int) < m.trees.length := by simpa [iLt] using e4
                                        omega
      simp [modelOk, this]
    have h4 : decide (m.trees.length ≤ 8) = true := decide_eq_true (by have : ¬ (8 : Int) < m.trees.length := by simpa [iLt] using e4
                                                                       omega)
    have hmo : modelOk m = (namesL m.names m.names 0 && (m.signs.all signOk && m.trees.all fun t => treeOk t m.names.length)) := by simp only [modelOk]; rw [h1, hsg, e3, h4]; rfl
    rw [hmo]
    refine tri_loop hT [1, 3, 4] (α := Nat) (fun k => { t := [(1, .c (.ptr 0 0)), (3, ai m.names.length), (4, ai k)], h := [(0, .box t_impl_Model (cM m))], n := 1, N := 91 })
      (fun k => k ≤ m.names.length ∧ namesL m.names (m.names.drop k) k = namesL m.names m.names 0) (fun k => m.names.length - k) 0 (by ((conv => whnf); simp only [eS]); first | done | simp) ⟨Nat.zero_le _, rfl⟩ ?_
    intro k ⟨hk, hi⟩
    conv => whnf
    refine ifB_i (fun g1 => ?_) (fun g1 => ?_) <;> (conv => whnf) <;> simp at g1
    · obtain ⟨s, hs'⟩ := get_lt g1
      rw [drop_at hs', namesL] at hi
      refine tri_conf hT hmix (by kernel_rfl) ?_
      conv => whnf
      refine idx_at (by simp) hs' ?_
      conv => whnf
      refine ⟨_, _, spec_NameOk_spec s (hns s (List.mem_of_getElem? hs')), rfl, ?_⟩
      cases hb : nameOk s
      · (conv => whnf)
        repeat' (first | (refine And.intro (fun q => ?_) (fun q => ?_) <;> cases q <;> (conv => whnf)) | fail)
        rw [hb] at hi
        have : namesL m.names m.names 0 = false := by rw [← hi]; simp
        rw [this]
        conv => whnf
        rfl
      · rw [hb, Bool.true_and] at hi
        conv => whnf
        repeat' (first | (refine And.intro (fun q => ?_) (fun q => ?_) <;> cases q <;> (conv => whnf)) | fail)
        refine And.intro (by simp; omega) ?_
        rw [dCut_take]
        conv => whnf
        repeat' (first | (refine And.intro (fun q => ?_) (fun q => ?_) <;> cases q <;> (conv => whnf)) | fail)
        refine idx_at (by simp) hs' ?_
        conv => whnf
        repeat' (first | (refine And.intro (fun q => ?_) (fun q => ?_) <;> cases q <;> (conv => whnf)) | fail)
        refine ⟨_, _, spec_l9Has_spec (m.names.take k) s (by simp; omega), rfl, ?_⟩
        cases hh : hasS s (m.names.take k)
        · (conv => whnf)
          repeat' (first | (refine And.intro (fun q => ?_) (fun q => ?_) <;> cases q <;> (conv => whnf)) | fail)
          rw [hh] at hi
          refine ⟨k + 1, by omega, ⟨g1, by simpa using hi⟩, ?_⟩
          ((conv => whnf); simp only [eS, wI g1 (by omega)])
        · (conv => whnf)
          repeat' (first | (refine And.intro (fun q => ?_) (fun q => ?_) <;> cases q <;> (conv => whnf)) | fail)
          rw [hh] at hi
          have : namesL m.names m.names 0 = false := by rw [← hi]; simp
          rw [this]
          conv => whnf
          rfl
    · obtain rfl : k = m.names.length := by omega
      simp only [List.drop_length, namesL] at hi
      rw [← hi, Bool.true_and]
      refine tri_loop hT [1, 3, 5] (α := Nat) (fun k => { t := [(1, .c (.ptr 0 0)), (3, ai m.names.length), (5, ai k)], h := [(0, .box t_impl_Model (cM m))], n := 1, N := 91 })
        (fun k => k ≤ m.signs.length ∧ (m.signs.drop k).all signOk = m.signs.all signOk) (fun k => m.signs.length - k) 0 (by ((conv => whnf); simp only [eS])) ⟨Nat.zero_le _, rfl⟩ ?_
      intro k ⟨hk2, hj⟩
      conv => whnf
      refine ifB_i (fun g2 => ?_) (fun g2 => ?_) <;> (conv => whnf) <;> simp at g2
      · obtain ⟨x, hx⟩ := get_lt g2
        rw [drop_at hx, List.all_cons] at hj
        refine idx_at (by simp) hx ?_
        conv => whnf
        refine .inl ⟨_, _, _, spec_l1In_spec _ _ _, rfl, ?_⟩
        rw [show decide (-1 ≤ x ∧ x ≤ 1) = signOk x from rfl]
        cases hb : signOk x
        · (conv => whnf)
          rw [hb] at hj
          rw [← hj]
          rfl
        · (conv => whnf)
          rw [hb] at hj
          refine ⟨k + 1, by omega, ⟨g2, by simpa using hj⟩, ?_⟩
          ((conv => whnf); simp only [eS, wI g2 (by omega)])
      · obtain rfl : k = m.signs.length := by omega
        simp only [List.drop_length, List.all_nil] at hj
        rw [← hj, Bool.true_and]
        refine tri_loop hT [1, 3, 6] (α := Nat) (fun k => { t := [(1, .c (.ptr 0 0)), (3, ai m.names.length), (6, ai k)], h := [(0, .box t_impl_Model (cM m))], n := 1, N := 91 })
          (fun k => k ≤ m.trees.length ∧ ((m.trees.drop k).all fun t => treeOk t m.names.length) = m.trees.all fun t => treeOk t m.names.length) (fun k => m.trees.length - k) 0 (by ((conv => whnf); simp only [eS])) ⟨Nat.zero_le _, rfl⟩ ?_
        intro k ⟨hk3, hl⟩
        conv => whnf
        refine ifB_i (fun g3 => ?_) (fun g3 => ?_) <;> (conv => whnf) <;> simp at g3
        · obtain ⟨t, ht'⟩ := get_lt g3
          rw [drop_at ht', List.all_cons] at hl
          refine idx_at (by simp) ht' ?_
          conv => whnf
          refine .inl ⟨_, _, _, spec_TreeOk_spec t m.names.length (ht t (List.mem_of_getElem? ht')), rfl, ?_⟩
          cases hb : treeOk t m.names.length
          · (conv => whnf)
            rw [hb] at hl
            rw [← hl]
            rfl
          · (conv => whnf)
            rw [hb] at hl
            refine ⟨k + 1, by omega, ⟨g3, by simpa using hl⟩, ?_⟩
            ((conv => whnf); simp only [eS, wI g3 (by omega)])
        · obtain rfl : k = m.trees.length := by omega
          simp only [List.drop_length, List.all_nil] at hl
          rw [← hl]
end Go.H.S
namespace Go.H.S
open Go Go.Proofs Go.H
attribute [local irreducible] Tri FnSpec FnSpecM FnSpecX FnSpecJ
abbrev cB (b : Int × Int) : List CV := [.d (.int .i64 b.1), .d (.int .i64 b.2)]
abbrev aB (b : Int × Int) : AV := .agg (cB b)
def boundP (b : Int × Int) : Prop := b.1 ≤ b.2 ∧ (-1099511627776 ≤ b.1 ∧ b.1 ≤ 1099511627776) ∧ (-1099511627776 ≤ b.2 ∧ b.2 ≤ 1099511627776)
instance (b : Int × Int) : Decidable (boundP b) := by unfold boundP; infer_instance
theorem spec_BoundOk_spec (b : Int × Int) : FnSpec PR f_spec_BoundOk [aB b] (ab (decide (boundP b))) [] 0 := by
 refine FnSpec.intro hT (pf Tryz.func42) rfl (by kernel_rfl) Tryz.ntmps42 rfl ?_
 conv => whnf
 cases h1 : iLe b.1 b.2
 ·conv => whnf
  rw [decide_eq_false (fun q : boundP b => by have := q.1; simp at h1; omega)]
 conv => whnf
 simp at h1
 refine .inl ⟨_, _, _, spec_l14Leaf_spec b.1, rfl, ?_⟩
 cases h2 : decide (-1099511627776 ≤ b.1 ∧ b.1 ≤ 1099511627776)
 ·conv => whnf
  rw [decide_eq_false_iff_not] at h2
  rw [decide_eq_false (fun q : boundP b => h2 q.2.1)]
 conv => whnf
 rw [decide_eq_true_iff] at h2
 refine .inl ⟨_, _, _, spec_l14Leaf_spec b.2, rfl, ?_⟩
 conv => whnf
 rw [decide_eq_decide.2 (show boundP b ↔ (-1099511627776 ≤ b.2 ∧ b.2 ≤ 1099511627776) from ⟨fun q => q.2.2, fun q => ⟨by omega, h2, q⟩⟩)]
theorem spec_HalfSum_spec (a b : Int) (ha : -4611686018427387904 ≤ a ∧ a ≤ 4611686018427387903) (hb : -4611686018427387904 ≤ b ∧ b ≤ 4611686018427387903) : FnSpec PR f_spec_HalfSum [ai a, ai b] (ai ((a + b) / 2)) [] 0 := by
 refine FnSpec.intro hT (pf Tryz.func228) rfl (by kernel_rfl) Tryz.ntmps228 rfl ?_
 conv => whnf
 refine And.intro (by unfold NN; omega) ?_
 conv => whnf
 rw [half_spec ha hb]
abbrev tupIk (x : Int) (b : Bool) : AV := .tup [(false, [.d (.int .i64 x)]), (false, [.d (.bool b)])]
theorem floor_tdiv {a b : Int} (hb : 1 ≤ b) : a / b = a.tdiv b - (if a.tmod b ≠ 0 ∧ a < 0 then 1 else 0) := by
 rw [Int.tdiv_eq_ediv]
 have h0 : b ∣ a ↔ a.tmod b = 0 := ⟨fun h => Int.tmod_eq_zero_of_dvd h, fun h => Int.dvd_of_tmod_eq_zero h⟩
 have hs : b.sign = 1 := Int.sign_eq_one_of_pos (by omega)
 rw [hs]
 by_cases h1 : 0 ≤ a <;> by_cases h2 : b ∣ a
 ·rw [if_pos (.inl h1), if_neg (by omega)]; omega
 ·rw [if_pos (.inl h1), if_neg (by omega)]; omega
 ·rw [if_pos (.inr h2), if_neg (fun q => q.1 (h0.1 h2))]; omega
 ·rw [if_neg (by rintro (q | q); exact h1 q; exact h2 q), if_pos ⟨fun q => h2 (h0.2 q), by omega⟩]; omega
theorem tdiv_small {a b : Int} (ha : -4611686018427387904 ≤ a ∧ a ≤ 4611686018427387903) (hb : 1 ≤ b) : -4611686018427387904 ≤ a.tdiv b ∧ a.tdiv b ≤ 4611686018427387904 := by
 have h1 := Int.natAbs_tdiv_le_natAbs a b
 omega
theorem wQuo_small {a b : Int} (ha : -4611686018427387904 ≤ a ∧ a ≤ 4611686018427387903) (hb : 1 ≤ b) : wQuo .i64 a b = a.tdiv b := by
 have := tdiv_small ha hb
 unfold wQuo
 exact wrap64 (by omega) (by omega)
theorem spec_FloorDiv_spec (a b : Int) (ha : -4611686018427387904 ≤ a ∧ a ≤ 4611686018427387903) (hb : 1 ≤ b ∧ b ≤ 1000000) : FnSpec PR f_spec_FloorDiv [ai a, ai b] (tupIk (a / b) true) [] 0 := by
 refine FnSpec.intro hT (pf Tryz.func207) rfl (by kernel_rfl) Tryz.ntmps207 rfl ?_
 conv => whnf
 rw [show iEq b 0 = false from decide_eq_false (by omega)]
 conv => whnf
 rw [show iEq b (-1) = false from decide_eq_false (by omega)]
 conv => whnf
 refine And.intro (by unfold NZ; omega) ?_
 conv => whnf
 refine And.intro (by unfold NZ; omega) ?_
 conv => whnf
 rw [floor_tdiv hb.1]
 have hq := wQuo_small ha hb.1
 have hd := tdiv_small (b := b) ha hb.1
 have hm : wRem a b = a.tmod b := by unfold wRem; rfl
 rw [hq, hm]
 by_cases h1 : a.tmod b = 0
 ·rw [show iEq (a.tmod b) 0 = true from decide_eq_true h1]
  conv => whnf
  rw [if_neg (fun q => q.1 h1), Int.sub_zero]
 ·rw [show iEq (a.tmod b) 0 = false from decide_eq_false h1]
  conv => whnf
  rw [show iLt b 0 = false from decide_eq_false (by omega)]
  conv => whnf
  by_cases h2 : a < 0
  ·rw [show iLt a 0 = true from decide_eq_true h2]
   conv => whnf
   rw [if_pos ⟨h1, h2⟩, wSub64] <;> omega
  ·rw [show iLt a 0 = false from decide_eq_false h2]
   conv => whnf
   rw [if_neg (fun q => h2 q.2), Int.sub_zero]
theorem spec_Free_spec : FnSpec PR f_spec_Free [] (aB (-1099511627776, 1099511627776)) [] 0 := by
 refine FnSpec.intro hT (pf Tryz.func113) rfl (by kernel_rfl) Tryz.ntmps113 rfl ?_
 conv => whnf
def signFor (c : Cfg) (f : Int) : Int := if 0 ≤ f ∧ f ≤ (c.signs.length : Int) - 1 then (c.signs[f.toNat]?).getD 0 else 0
theorem spec_SignFor_spec (c : Cfg) (f : Int) (hc : c.signs.length ≤ 1048576) : FnSpec PR f_spec_SignFor [aCf c, ai f] (ai (signFor c f)) [] 0 := by
 refine FnSpec.intro hT (pf Tryz.func117) rfl (by kernel_rfl) Tryz.ntmps117 rfl ?_
 conv => whnf
 refine .inl ⟨_, _, _, spec_l1In_spec _ _ _, rfl, ?_⟩
 conv => whnf
 rw [show wSub .i64 (nInt (dLen (eL cI c.signs))) 1 = (c.signs.length : Int) - 1 from by rw [show nInt (dLen (eL cI c.signs)) = (c.signs.length : Int) by simp, wSub64] <;> omega]
 unfold signFor
 by_cases h : 0 ≤ f ∧ f ≤ (c.signs.length : Int) - 1
 ·rw [decide_eq_true h, if_pos h]
  conv => whnf
  obtain ⟨x, hx⟩ := get_lt (show f.toNat < c.signs.length by omega)
  refine idx_at (show f = (f.toNat : Int) by omega) hx ?_
  conv => whnf
  rw [hx]; rfl
 ·rw [decide_eq_false h, if_neg h]
  conv => whnf
def leafV (n s lam : Int) (b : Int × Int) : Int := brought (s / (n + lam)) b.1 b.2
theorem leafV_in {n s lam : Int} {b : Int × Int} (h : b.1 ≤ b.2) : b.1 ≤ leafV n s lam b ∧ leafV n s lam b ≤ b.2 := by
 unfold leafV brought
 split
 ·omega
 ·split <;> omega
theorem spec_LeafOf_spec (n s lam : Int) (b : Int × Int) (hn : 0 ≤ n ∧ n ≤ 40) (hl : 1 ≤ lam ∧ lam ≤ 100) (hs : -4611686018427387904 ≤ s ∧ s ≤ 4611686018427387903) (hb : boundP b) :
  FnSpec PR f_spec_LeafOf [aB (n, s), ai lam, aB b] (tupIk (leafV n s lam b) true) [] 0 := by
 refine FnSpec.intro hT (pf Tryz.func90) rfl (by kernel_rfl) Tryz.ntmps90 rfl ?_
 conv => whnf
 refine .inl ⟨_, _, _, spec_l1In_spec _ _ _, rfl, ?_⟩
 rw [decide_eq_true hn]
 conv => whnf
 refine .inl ⟨_, _, _, spec_l1In_spec _ _ _, rfl, ?_⟩
 rw [decide_eq_true hl]
 conv => whnf
 refine .inl ⟨_, _, _, spec_BoundOk_spec b, rfl, ?_⟩
 rw [decide_eq_true hb]
 conv => whnf
 rw [show wAdd .i64 n lam = n + lam from by rw [wAdd64] <;> omega]
 refine .inl ⟨_, _, _, spec_FloorDiv_spec s (n + lam) hs (by omega), rfl, ?_⟩
 conv => whnf
 refine .inl ⟨_, _, _, spec_Brought_spec _ _ _, rfl, ?_⟩
 conv => whnf
 rfl
def midV (p q : Int) (b : Int × Int) : Int := brought ((p + q) / 2) b.1 b.2
theorem midV_in {p q : Int} {b : Int × Int} (h : b.1 ≤ b.2) : b.1 ≤ midV p q b ∧ midV p q b ≤ b.2 := by
 unfold midV brought
 split
 ·omega
 ·split <;> omega
def sidesL (sign : Int) (b : Int × Int) (p q : Int) : (Int × Int) × (Int × Int) :=
 if sign = 1 then ((b.1, midV p q b), (midV p q b, b.2)) else if sign = -1 then ((midV p q b, b.2), (b.1, midV p q b)) else (b, b)
theorem sidesL_ok {sign : Int} {b : Int × Int} {p q : Int} (hb : boundP b) : boundP (sidesL sign b p q).1 ∧ boundP (sidesL sign b p q).2 := by
 have hm := midV_in (p := p) (q := q) hb.1
 have hb' := hb
 unfold boundP at hb'
 unfold sidesL
 split
 ·unfold boundP; dsimp only; omega
 ·split
  ·unfold boundP; dsimp only; omega
  ·exact ⟨hb, hb⟩
abbrev tupBB (x : (Int × Int) × (Int × Int)) : AV := .tup [(true, cB x.1), (true, cB x.2)]
theorem spec_SidesOf_spec (sign : Int) (b : Int × Int) (p q : Int) (hb : boundP b) (hp : -1099511627776 ≤ p ∧ p ≤ 1099511627776) (hq : -1099511627776 ≤ q ∧ q ≤ 1099511627776) :
  FnSpec PR f_spec_SidesOf [ai sign, aB b, ai p, ai q] (tupBB (sidesL sign b p q)) [] 0 := by
 refine FnSpec.intro hT (pf Tryz.func116) rfl (by kernel_rfl) Tryz.ntmps116 rfl ?_
 conv => whnf
 refine .inl ⟨_, _, _, spec_BoundOk_spec b, rfl, ?_⟩
 rw [decide_eq_true hb]
 conv => whnf
 refine tri_rp 0 ?_
 conv => whnf
 refine tri_every hT hmix [0, 5, 8, 9, 10] { t := [(0, ai sign), (5, .c (.d (.rp [.int .i64 b.1, .int .i64 b.2]))), (8, .c (.ptr 0 0)), (9, .c (.ptr 1 0)), (10, ai (midV p q b))], h := [(0, .box t_impl_Bound (cB (0, 0))), (1, .box t_impl_Bound (cB (0, 0)))], n := 2, N := 47 } rfl ?_ ?_
 ·repeat' first
   | (refine anyV_one rfl ?_; (conv => whnf))
   | (refine anyV_two rfl ?_ ?_ <;> (conv => whnf))
   | (refine .inl ⟨_, _, _, spec_HalfSum_spec p q (by omega) (by omega), rfl, ?_⟩; (conv => whnf))
   | (refine .inl ⟨_, _, _, spec_Brought_spec _ _ _, rfl, ?_⟩; (conv => whnf))
   | (refine anyV_end rfl ?_; (conv => whnf); first | done | rfl)
 conv => whnf
 unfold sidesL
 by_cases h1 : sign = 1
 ·rw [show iEq sign 1 = true from decide_eq_true h1, if_pos h1]
  conv => whnf
  refine tri_every hT hmix [8, 9] { t := [(8, .c (.ptr 0 0)), (9, .c (.ptr 1 0))], h := [(0, .box t_impl_Bound (cB (b.1, midV p q b))), (1, .box t_impl_Bound (cB (midV p q b, b.2)))], n := 2, N := 47 } rfl ?_ ?_
  ·repeat' first
    | (refine anyV_one rfl ?_; (conv => whnf))
    | (refine anyV_two rfl ?_ ?_ <;> (conv => whnf))
    | (refine anyV_three rfl ?_ ?_ ?_ <;> (conv => whnf))
    | (refine anyV_four rfl ?_ ?_ ?_ ?_ <;> (conv => whnf))
    | (refine anyV_end rfl ?_; (conv => whnf); first | done | rfl)
  conv => whnf
 rw [show iEq sign 1 = false from decide_eq_false h1, if_neg h1]
 conv => whnf
 by_cases h2 : sign = -1
 ·rw [show iEq sign (-1) = true from decide_eq_true h2, if_pos h2]
  conv => whnf
  refine tri_every hT hmix [8, 9] { t := [(8, .c (.ptr 0 0)), (9, .c (.ptr 1 0))], h := [(0, .box t_impl_Bound (cB (midV p q b, b.2))), (1, .box t_impl_Bound (cB (b.1, midV p q b)))], n := 2, N := 47 } rfl ?_ ?_
  ·repeat' first
    | (refine anyV_one rfl ?_; (conv => whnf))
    | (refine anyV_two rfl ?_ ?_ <;> (conv => whnf))
    | (refine anyV_three rfl ?_ ?_ ?_ <;> (conv => whnf))
    | (refine anyV_four rfl ?_ ?_ ?_ ?_ <;> (conv => whnf))
    | (refine anyV_end rfl ?_; (conv => whnf); first | done | rfl)
  conv => whnf
 rw [show iEq sign (-1) = false from decide_eq_false h2, if_neg h2]
 conv => whnf
 refine tri_every hT hmix [8, 9] { t := [(8, .c (.ptr 0 0)), (9, .c (.ptr 1 0))], h := [(0, .box t_impl_Bound (cB b)), (1, .box t_impl_Bound (cB b))], n := 2, N := 47 } rfl ?_ ?_
 ·repeat' first
   | (refine anyV_one rfl ?_; (conv => whnf))
   | (refine anyV_two rfl ?_ ?_ <;> (conv => whnf))
   | (refine anyV_three rfl ?_ ?_ ?_ <;> (conv => whnf))
   | (refine anyV_four rfl ?_ ?_ ?_ ?_ <;> (conv => whnf))
   | (refine anyV_end rfl ?_; (conv => whnf); first | done | rfl)
 conv => whnf
end Go.H.S
namespace Go.H.S
open Go Go.Proofs Go.H
attribute [local irreducible] Tri FnSpec FnSpecM FnSpecX FnSpecJ FnSpecB
abbrev rpTb (t : Tbl) : AV := .c (.d (.rp [.sl 1 (eL cS t.names), .str t.target, .sl 1 (eL cIs t.rows), .sl 1 (eL cI t.ys)]))
def columnL (t : Tbl) (f : Nat) : List Int := t.rows.map fun r => (r[f]?).getD 0
theorem column_take {t : Tbl} {f k : Nat} {r : List Int} (h : t.rows[k]? = some r) : (t.rows.take (k + 1)).map (fun r => (r[f]?).getD 0) = (t.rows.take k).map (fun r => (r[f]?).getD 0) ++ [(r[f]?).getD 0] := by
 rw [List.take_add_one, h]; simp
theorem spec_Column_spec (t : Tbl) (f : Nat) (hf : f < t.names.length) (hn : t.names.length ≤ 1000) (hr : t.rows.length ≤ 1048576) (hc : ∀ r ∈ t.rows, r.length ≤ 1048576) : FnSpec PR f_spec_Column [aTb t, ai f] (.c (.ref 0 0 none)) [(0, .arr t_int 1 0 .own (eL cI (columnL t f)))] 1 := by
 have e1 : wSub .i64 (nInt (dLen (eL cS t.names))) 1 = (t.names.length : Int) - 1 := by rw [show nInt (dLen (eL cS t.names)) = (t.names.length : Int) by simp]; exact wSub64 (by omega) (by omega)
 refine FnSpec.intro hT (pf Tryz.func166) rfl (by kernel_rfl) Tryz.ntmps166 rfl ?_
 conv => whnf
 refine tri_rp 0 ?_
 conv => whnf
 refine tri_loop hT [1, 2, 5, 6] (α := Nat) (fun k => { t := [(1, ai f), (2, rpTb t), (5, .c (.ref 0 0 none)), (6, ai k)], h := [(0, .arr t_int 1 0 .own (eL cI ((t.rows.take k).map fun r => (r[f]?).getD 0)))], n := 1, N := 46 })
  (fun k => k ≤ t.rows.length) (fun k => t.rows.length - k) 0 (by ((conv => whnf); simp only [eS, List.take_zero, List.map_nil, eL_nil]); rfl) (Nat.zero_le _) ?_
 intro k hk
 conv => whnf
 cases q1 : iLt (k : Int) (nInt (dLen (eL cIs t.rows)))
 ·simp only [eH] at q1
  obtain rfl : k = t.rows.length := by omega
  conv => whnf
  rw [List.take_length]
  rfl
 ·simp only [eH] at q1
  obtain ⟨r, hrk⟩ := get_lt (show k < t.rows.length by omega)
  have hrl := hc r (List.mem_of_getElem? hrk)
  have hstep := column_take (f := f) hrk
  conv => whnf
  rw [e1]
  refine .inl ⟨_, _, _, spec_l1In_spec _ _ _, rfl, ?_⟩
  rw [show decide ((0 : Int) ≤ (f : Int) ∧ (f : Int) ≤ (t.names.length : Int) - 1) = true from decide_eq_true (by omega)]
  conv => whnf
  refine idx_at (by simp) hrk ?_
  conv => whnf
  refine ifB_i (fun q2 => ?_) (fun q2 => ?_) <;> (conv => whnf) <;> simp only [eH] at q2
  ·obtain ⟨v, hv⟩ := get_lt (show f < r.length by omega)
   refine idx_at (by simp) hrk ?_
   conv => whnf
   refine idx_at (by simp) hv ?_
   conv => whnf
   refine And.intro (by simp [eL_length, dLen_len]; omega) ?_
   conv => whnf
   refine ⟨k + 1, by omega, by omega, ?_⟩
   ((conv => whnf); simp only [eS, wI (show k < t.rows.length by omega) (by omega)])
   rw [hstep, hv, ← eL_app]
   first | exact ⟨rfl, rfl⟩ | rfl
  ·refine And.intro (by simp [eL_length, dLen_len]; omega) ?_
   conv => whnf
   refine ⟨k + 1, by omega, by omega, ?_⟩
   ((conv => whnf); simp only [eS, wI (show k < t.rows.length by omega) (by omega)])
   rw [hstep, List.getElem?_eq_none (by omega), ← eL_app]
   first | exact ⟨rfl, rfl⟩ | rfl
def cutK (s : List Int) (n b k : Nat) : Option Int := if 1 ≤ n * k / b ∧ (s[n * k / b - 1]?).getD 0 < (s[n - 1]?).getD 0 then some ((s[n * k / b - 1]?).getD 0) else none
def cutsAll (s : List Int) (n b k : Nat) : List Int := (List.range k).filterMap (cutK s n b)
def cutsOfL (xs : List Int) (b : Nat) : List Int := distinctL (cutsAll (sortL xs) xs.length b b)
theorem cutsAll_step (s : List Int) (n b k : Nat) : cutsAll s n b (k + 1) = cutsAll s n b k ++ (cutK s n b k).toList := by
 simp only [cutsAll, List.range_succ, List.filterMap_append]
 congr 1
theorem cutsAll_len (s : List Int) (n b k : Nat) : (cutsAll s n b k).length ≤ k := by
 have := List.length_filterMap_le (cutK s n b) (List.range k)
 simpa [cutsAll] using this
theorem spec_CutsOf_spec (xs : List Int) (b : Nat) (hb : 2 ≤ b ∧ b ≤ 8) (hx : 1 ≤ xs.length ∧ xs.length ≤ 40) : FnSpec PR f_spec_CutsOf [aIs xs, ai b] (.c (.ref 0 0 none)) [(0, .arr t_int 1 0 .own (eL cI (cutsOfL xs b)))] 1 := by
 have eX : nInt (dLen (eL cI xs)) = (xs.length : Int) := by simp
 refine FnSpec.intro hT (pf Tryz.func167) rfl (by kernel_rfl) Tryz.ntmps167 rfl ?_
 conv => whnf
 refine .inl ⟨_, _, _, spec_l1In_spec _ _ _, rfl, ?_⟩
 rw [show decide ((2 : Int) ≤ (b : Int) ∧ (b : Int) ≤ 8) = true from decide_eq_true (by omega)]
 conv => whnf
 rw [eX]
 refine .inl ⟨_, _, _, spec_l1In_spec _ _ _, rfl, ?_⟩
 rw [show decide ((1 : Int) ≤ (xs.length : Int) ∧ (xs.length : Int) ≤ 40) = true from decide_eq_true (by omega)]
 conv => whnf
 refine .inl ⟨_, _, _, spec_SortInts_spec xs (by omega), rfl, ?_⟩
 have hsl := sortL_len xs
 have hd : cutsOfL xs b = distinctL (cutsAll (sortL xs) xs.length b b) := rfl
 rw [hd]
 generalize sortL xs = s at *
 generalize xs.length = n at *
 conv => whnf
 have h0 : cutsAll s n b 1 = [] := by simp [cutsAll, cutK]
 refine tri_loop hT [1, 5, 6, 7, 8] (α := Nat) (fun k => { t := [(1, ai b), (5, ai n), (6, aIs s), (7, .c (.ref 0 0 none)), (8, ai k)], h := [(0, .arr t_int 1 0 .own (eL cI (cutsAll s n b k)))], n := 1, N := 59 })
  (fun k => 1 ≤ k ∧ k ≤ b) (fun k => b - k) 1 (by ((conv => whnf); simp only [eS, h0, eL_nil, partOf_none]); first | done | rfl | exact ⟨rfl, rfl⟩) (by omega) ?_
 intro k ⟨hk1, hk⟩
 conv => whnf
 refine ifB_i (fun q1 => ?_) (fun q1 => ?_) <;> (conv => whnf) <;> simp only [eH] at q1
 ·have hnk : n * k ≤ 320 := by
   have : n * k ≤ 40 * 8 := Nat.mul_le_mul hx.2 (by omega)
   omega
  have hnb : n * k / b < n := by
   rw [Nat.div_lt_iff_lt_mul (by omega)]
   exact Nat.mul_lt_mul_of_pos_left (by omega) (by omega)
  have hc : (n : Int) * (k : Int) = ((n * k : Nat) : Int) := (Int.natCast_mul n k).symm
  have e1 : wMul .i64 (n : Int) (k : Int) = ((n * k : Nat) : Int) := by rw [wMul64 (by rw [hc]; omega) (by rw [hc]; omega), hc]
  have e2 : wQuo .i64 ((n * k : Nat) : Int) (b : Int) = ((n * k / b : Nat) : Int) := by rw [wQuo_small (by omega) (by omega)]; rfl
  have hstep := cutsAll_step s n b k
  have hcl := cutsAll_len s n b k
  have hck : cutK s n b k = if 1 ≤ n * k / b ∧ (s[n * k / b - 1]?).getD 0 < (s[n - 1]?).getD 0 then some ((s[n * k / b - 1]?).getD 0) else none := rfl
  refine And.intro (by unfold NZ; omega) ?_
  rw [e1]
  conv => whnf
  rw [e2]
  generalize n * k / b = i at *
  obtain ⟨z, hz⟩ := get_lt (show n - 1 < s.length by omega)
  have e4 : wSub .i64 (n : Int) 1 = ((n - 1 : Nat) : Int) := by rw [wSub64] <;> omega
  refine tri_conf hT hmix (by kernel_rfl) ?_
  conv => whnf
  cases q2 : iLe 1 (i : Int) <;> simp only [eH] at q2 <;> (conv => whnf)
  ·repeat' (first | (refine And.intro (fun q => ?_) (fun q => ?_) <;> cases q <;> (conv => whnf)) | fail)
   refine ⟨k + 1, by omega, by omega, ?_⟩
   rw [if_neg (by omega)] at hck
   rw [hck] at hstep
   simp only [Option.toList_none, List.append_nil] at hstep
   ((conv => whnf); simp only [eS, wI (show k < b by omega) (by omega)])
   rw [hstep]
  ·obtain ⟨y, hy⟩ := get_lt (show i - 1 < s.length by omega)
   have e3 : wSub .i64 (i : Int) 1 = ((i - 1 : Nat) : Int) := by rw [wSub64] <;> omega
   rw [hy, hz] at hck
   simp only [Option.getD_some] at hck
   repeat' first
    | (refine And.intro (fun q => ?_) (fun q => ?_) <;> cases q <;> (conv => whnf))
    | (refine idx_at e3 hy ?_; (conv => whnf))
    | (refine idx_at e4 hz ?_; (conv => whnf))
   refine ifB_i (fun q3 => ?_) (fun q3 => ?_) <;> (conv => whnf) <;> simp only [eH] at q3
   ·refine idx_at e3 hy ?_
    conv => whnf
    refine And.intro (by simp [eL_length, dLen_len]; omega) ?_
    conv => whnf
    rw [if_pos ⟨by omega, q3⟩] at hck
    rw [hck] at hstep
    simp only [Option.toList_some] at hstep
    refine ⟨k + 1, by omega, by omega, ?_⟩
    ((conv => whnf); simp only [eS, wI (show k < b by omega) (by omega)])
    rw [hstep, ← eL_app]
    first | exact ⟨rfl, rfl⟩ | rfl
   ·rw [if_neg (by omega)] at hck
    rw [hck] at hstep
    simp only [Option.toList_none, List.append_nil] at hstep
    refine ⟨k + 1, by omega, by omega, ?_⟩
    ((conv => whnf); simp only [eS, wI (show k < b by omega) (by omega)])
    rw [hstep]
 ·obtain rfl : k = b := by omega
  have hcl := cutsAll_len s n k k
  refine .inr (.inl ⟨_, _, _, spec_Distinct_spec (cutsAll s n k k) (by omega), rfl, ⟨flat_cI _, trivial⟩, ?_⟩)
  conv => whnf
  first | done | rfl
end Go.H.S
namespace Go.H.S
open Go Go.Proofs Go.H
attribute [local irreducible] Tri FnSpec FnSpecM FnSpecX FnSpecJ FnSpecB
def valOk (x : Int) : Bool := decide (-2147483647 ≤ x ∧ x ≤ 2147483647)
def rowsOkL (n : Nat) (ys : List Int) : List (List Int) → Nat → Bool
 | [], _ => true
 | r :: rest, k => (decide (r.length = n) && (valOk ((ys[k]?).getD 0) && r.all valOk)) && rowsOkL n ys rest (k + 1)
def tableOk (t : Tbl) : Bool :=
 decide (1 ≤ (t.names.length : Int) ∧ (t.names.length : Int) ≤ 4) && (nameOk t.target && (!hasS t.target t.names && (decide (1 ≤ (t.rows.length : Int) ∧ (t.rows.length : Int) ≤ 40) && (decide (t.ys.length = t.rows.length) &&
  (namesL t.names t.names 0 && rowsOkL t.names.length t.ys t.rows 0)))))
set_option maxHeartbeats 4000000 in
theorem spec_TableOk_spec (t : Tbl) (hn : t.names.length ≤ 1048576) (hns : ∀ s ∈ t.names, s.size ≤ 9223372036854775807) (htg : t.target.size ≤ 9223372036854775807) (hr : t.rows.length ≤ 1048576) (hc : ∀ r ∈ t.rows, r.length ≤ 1048576) (hy : t.ys.length ≤ 1048576) : FnSpec PR f_spec_TableOk [aTb t] (ab (tableOk t)) [] 0 := by
 have eN : nInt (dLen (eL cS t.names)) = (t.names.length : Int) := by simp
 have eR : nInt (dLen (eL cIs t.rows)) = (t.rows.length : Int) := by simp
 have eY : nInt (dLen (eL cI t.ys)) = (t.ys.length : Int) := by simp
 refine FnSpec.intro hT (pf Tryz.func63) rfl (by kernel_rfl) Tryz.ntmps63 rfl ?_
 conv => whnf
 rw [eN]
 refine .inl ⟨_, _, _, spec_l1In_spec _ _ _, rfl, ?_⟩
 generalize e1 : decide (1 ≤ (t.names.length : Int) ∧ (t.names.length : Int) ≤ 4) = c1
 cases c1 <;> (conv => whnf)
 ·simp [tableOk, e1]
 refine .inl ⟨_, _, _, spec_NameOk_spec t.target htg, rfl, ?_⟩
 generalize e2 : nameOk t.target = c2
 cases c2 <;> (conv => whnf)
 ·simp [tableOk, e2]
 refine .inl ⟨_, _, _, spec_l9Has_spec t.names t.target (by omega), rfl, ?_⟩
 generalize e3 : hasS t.target t.names = c3
 cases c3 with
 | true =>
  conv => whnf
  simp [tableOk, e3]
 | false =>
 conv => whnf
 rw [eR]
 refine .inl ⟨_, _, _, spec_l1In_spec _ _ _, rfl, ?_⟩
 generalize e4 : decide (1 ≤ (t.rows.length : Int) ∧ (t.rows.length : Int) ≤ 40) = c4
 cases c4 <;> (conv => whnf)
 ·simp [tableOk, e4]
 rw [eY, eR]
 generalize e5 : iEq (t.ys.length : Int) (t.rows.length : Int) = c5
 cases c5 <;> (conv => whnf) <;> simp only [eH] at e5
 ·have h5 : ¬ t.ys.length = t.rows.length := by omega
  simp [tableOk, h5]
 have h5 : t.ys.length = t.rows.length := by omega
 have hto : tableOk t = (namesL t.names t.names 0 && rowsOkL t.names.length t.ys t.rows 0) := by
  simp only [tableOk]; rw [e1, e2, e3, e4, decide_eq_true h5]; rfl
 rw [hto]
 refine tri_loop hT [1, 3, 4] (α := Nat) (fun k => { t := [(1, .c (.ptr 0 0)), (3, ai t.names.length), (4, ai k)], h := [(0, .box t_impl_Table (cTb t))], n := 1, N := 105 })
  (fun k => k ≤ t.names.length ∧ namesL t.names (t.names.drop k) k = namesL t.names t.names 0) (fun k => t.names.length - k) 0 (by ((conv => whnf); simp only [eS]); first | done | simp) ⟨Nat.zero_le _, rfl⟩ ?_
 intro k ⟨hk, hi⟩
 conv => whnf
 refine ifB_i (fun g1 => ?_) (fun g1 => ?_) <;> (conv => whnf) <;> simp at g1
 ·obtain ⟨s, hs'⟩ := get_lt g1
  rw [drop_at hs', namesL] at hi
  refine tri_conf hT hmix (by kernel_rfl) ?_
  conv => whnf
  refine idx_at (by simp) hs' ?_
  conv => whnf
  refine ⟨_, _, spec_NameOk_spec s (hns s (List.mem_of_getElem? hs')), rfl, ?_⟩
  cases hb : nameOk s
  ·conv => whnf
   repeat' (first | (refine And.intro (fun q => ?_) (fun q => ?_) <;> cases q <;> (conv => whnf)) | fail)
   rw [hb] at hi
   have : namesL t.names t.names 0 = false := by rw [← hi]; simp
   rw [this]
   conv => whnf
   rfl
  ·rw [hb, Bool.true_and] at hi
   conv => whnf
   repeat' (first | (refine And.intro (fun q => ?_) (fun q => ?_) <;> cases q <;> (conv => whnf)) | fail)
   refine And.intro (by simp; omega) ?_
   rw [dCut_take]
   conv => whnf
   repeat' (first | (refine And.intro (fun q => ?_) (fun q => ?_) <;> cases q <;> (conv => whnf)) | fail)
   refine idx_at (by simp) hs' ?_
   conv => whnf
   repeat' (first | (refine And.intro (fun q => ?_) (fun q => ?_) <;> cases q <;> (conv => whnf)) | fail)
   refine ⟨_, _, spec_l9Has_spec (t.names.take k) s (by simp; omega), rfl, ?_⟩
   cases hh : hasS s (t.names.take k)
   ·conv => whnf
    repeat' (first | (refine And.intro (fun q => ?_) (fun q => ?_) <;> cases q <;> (conv => whnf)) | fail)
    rw [hh] at hi
    refine ⟨k + 1, by omega, ⟨g1, by simpa using hi⟩, ?_⟩
    ((conv => whnf); simp only [eS, wI g1 (by omega)])
   ·conv => whnf
    repeat' (first | (refine And.intro (fun q => ?_) (fun q => ?_) <;> cases q <;> (conv => whnf)) | fail)
    rw [hh] at hi
    have : namesL t.names t.names 0 = false := by rw [← hi]; simp
    rw [this]
    conv => whnf
    rfl
 ·obtain rfl : k = t.names.length := by omega
  simp only [List.drop_length, namesL] at hi
  rw [← hi, Bool.true_and]
  refine tri_loop hT [1, 3, 5] (α := Nat) (fun k => { t := [(1, .c (.ptr 0 0)), (3, ai t.names.length), (5, ai k)], h := [(0, .box t_impl_Table (cTb t))], n := 1, N := 105 })
   (fun k => k ≤ t.rows.length ∧ rowsOkL t.names.length t.ys (t.rows.drop k) k = rowsOkL t.names.length t.ys t.rows 0) (fun k => t.rows.length - k) 0 (by ((conv => whnf); simp only [eS])) ⟨Nat.zero_le _, rfl⟩ ?_
  intro k ⟨hk2, hj⟩
  conv => whnf
  refine ifB_i (fun g2 => ?_) (fun g2 => ?_) <;> (conv => whnf) <;> simp at g2
  ·obtain ⟨r, hx⟩ := get_lt g2
   obtain ⟨y, hyk⟩ := get_lt (show k < t.ys.length by omega)
   rw [drop_at hx, rowsOkL, hyk] at hj
   simp only [Option.getD_some] at hj
   refine idx_at (by simp) hx ?_
   conv => whnf
   rw [show nInt (dLen (eL cI r)) = (r.length : Int) by simp]
   generalize q1 : iEq (r.length : Int) (t.names.length : Int) = c1
   cases c1 <;> (conv => whnf) <;> simp only [eH] at q1
   ·rw [decide_eq_false (show ¬ r.length = t.names.length by omega)] at hj
    rw [← hj]
    rfl
   rw [decide_eq_true (show r.length = t.names.length by omega), Bool.true_and] at hj
   refine idx_at (by simp) hyk ?_
   conv => whnf
   refine .inl ⟨_, _, _, spec_l6Value_spec _, rfl, ?_⟩
   rw [show decide (-2147483647 ≤ y ∧ y ≤ 2147483647) = valOk y from rfl]
   cases hb : valOk y
   ·conv => whnf
    rw [hb] at hj
    rw [← hj]
    rfl
   rw [hb, Bool.true_and] at hj
   conv => whnf
   refine tri_loop hT [1, 3, 5, 6] (α := Nat) (fun j => { t := [(1, .c (.ptr 0 0)), (3, ai t.names.length), (5, ai k), (6, ai j)], h := [(0, .box t_impl_Table (cTb t))], n := 1, N := 105 })
    (fun j => j ≤ r.length ∧ (r.drop j).all valOk = r.all valOk) (fun j => r.length - j) 0 (by ((conv => whnf); simp only [eS])) ⟨Nat.zero_le _, rfl⟩ ?_
   intro j ⟨hj1, hj2⟩
   conv => whnf
   refine ifB_i (fun g3 => ?_) (fun g3 => ?_) <;> (conv => whnf) <;> simp at g3
   ·obtain ⟨v, hv⟩ := get_lt (show j < r.length by omega)
    rw [drop_at hv, List.all_cons] at hj2
    refine idx_at (by simp) hx ?_
    conv => whnf
    refine idx_at (by simp) hv ?_
    conv => whnf
    refine .inl ⟨_, _, _, spec_l6Value_spec _, rfl, ?_⟩
    rw [show decide (-2147483647 ≤ v ∧ v ≤ 2147483647) = valOk v from rfl]
    cases hb2 : valOk v
    ·conv => whnf
     rw [hb2] at hj2
     rw [← hj2] at hj
     rw [← hj]
     rfl
    ·conv => whnf
     rw [hb2] at hj2
     refine ⟨j + 1, by omega, ⟨by omega, by simpa using hj2⟩, ?_⟩
     ((conv => whnf); simp only [eS, wI g3 (by omega)])
   ·obtain rfl : j = r.length := by omega
    simp only [List.drop_length, List.all_nil] at hj2
    rw [← hj2, Bool.true_and] at hj
    refine ⟨k + 1, by omega, ⟨g2, hj⟩, ?_⟩
    ((conv => whnf); simp only [eS, wI g2 (by omega)])
  ·obtain rfl : k = t.rows.length := by omega
   simp only [List.drop_length, rowsOkL] at hj
   rw [← hj]
end Go.H.S
namespace Go.H.S
open Go Go.Proofs Go.H
attribute [local irreducible] Tri FnSpec FnSpecM FnSpecX FnSpecJ FnSpecB
def cutsT (t : Tbl) (b f : Nat) : List Int := cutsOfL (columnL t f) b
def binsT (t : Tbl) (b f : Nat) : List Int := (columnL t f).map fun v => ((binOfL (cutsT t b f) v : Nat) : Int)
def cutsTo (t : Tbl) (b n : Nat) : List (List Int) := (List.range n).map (cutsT t b)
def binsTo (t : Tbl) (b n : Nat) : List (List Int) := (List.range n).map (binsT t b)
def gridT (t : Tbl) (b : Nat) : Grd := ⟨cutsTo t b t.names.length, binsTo t b t.names.length⟩
theorem cutsTo_succ (t : Tbl) (b n : Nat) : cutsTo t b (n + 1) = cutsTo t b n ++ [cutsT t b n] := by simp [cutsTo, List.range_succ]
theorem binsTo_succ (t : Tbl) (b n : Nat) : binsTo t b (n + 1) = binsTo t b n ++ [binsT t b n] := by simp [binsTo, List.range_succ]
theorem cutsTo_len (t : Tbl) (b n : Nat) : (cutsTo t b n).length = n := by simp [cutsTo]
theorem binsTo_len (t : Tbl) (b n : Nat) : (binsTo t b n).length = n := by simp [binsTo]
theorem columnL_len (t : Tbl) (f : Nat) : (columnL t f).length = t.rows.length := by simp [columnL]
theorem cutsT_len (t : Tbl) {b f : Nat} (hb : b ≤ 8) : (cutsT t b f).length ≤ 8 := by
 have h1 := distinctL_len (cutsAll (sortL (columnL t f)) (columnL t f).length b b)
 have h2 := cutsAll_len (sortL (columnL t f)) (columnL t f).length b b
 show (distinctL _).length ≤ 8
 omega
theorem tableOk_p {t : Tbl} (h : tableOk t = true) : (1 ≤ t.names.length ∧ t.names.length ≤ 4) ∧ (1 ≤ t.rows.length ∧ t.rows.length ≤ 40) ∧ t.ys.length = t.rows.length := by
 simp only [tableOk, Bool.and_eq_true, decide_eq_true_eq] at h
 obtain ⟨h1, _, _, h4, h5, _⟩ := h
 exact ⟨by omega, by omega, h5⟩
abbrev rowIs (xs : List (List Int)) : Ent := .arr t_Lint 1 0 (.nest [t_int]) (eL cIs xs)
end Go.H.S
namespace Go.H.S
open Go Go.Proofs Go.H
attribute [local irreducible] Tri FnSpec FnSpecM FnSpecX FnSpecJ FnSpecB
end Go.H.S
namespace Go.H.S
open Go Go.Proofs Go.H
attribute [local irreducible] Tri FnSpec FnSpecM FnSpecX FnSpecJ FnSpecB
theorem take_at {xs : List (List Int)} {p k : Nat} {x : List Int} {K : Nat → Nat → List D → Nat → List (List D) → TypeId → Prop} (hp : p = k) (hx : xs[k]? = some x) (h : K k 0 (cIs x) 1 (eL cI x) t_int) :
  ∃ i j c z es' ty, p = i * 1 + j ∧ j < 1 ∧ AtD (eL cIs xs) i c ∧ c[j]? = some (.sl z es') ∧ [t_int][j]? = some ty ∧ K i j c z es' ty :=
 ⟨k, 0, cIs x, 1, eL cI x, t_int, by omega, by decide, by unfold AtD; rw [eL_get, hx]; rfl, rfl, rfl, h⟩
theorem hole_at {xs : List (List Int)} {k k' : Nat} {x : List Int} {K : List D → Prop} (hk : k' = k) (hx : xs[k]? = some x) (h : K [.any]) : ∀ c, AtD (dSet (eL cIs xs) k ((cIs x).set 0 .any)) k' c → dRoom 0 1 c ∧ K c := fun c hc => by
 have hl := (List.getElem?_eq_some_iff.1 hx).1
 have e : (dSet (eL cIs xs) k ((cIs x).set 0 .any))[k']? = some c := by unfold AtD at hc; exact hc
 rw [hk, dSet, List.getElem?_set_self (by rw [eL_length]; exact hl)] at e
 cases e
 exact ⟨by unfold dRoom; simp [cIs], h⟩
theorem hole_fill {xs : List (List Int)} {k : Nat} (c : List D) (y : List Int) : dSet (dSet (eL cIs xs) k c) k (dOver [.any] 0 [.sl 1 (eL cI y)]) = eL cIs (xs.set k y) := by
 rw [show dOver [.any] 0 [.sl 1 (eL cI y)] = cIs y by rw [dOver]; rfl, ← eL_set]
 simp only [dSet, List.set_set]
theorem nidx_at {xs : List (List Int)} {p k : Nat} {x : List Int} {n : Int} {q : Nat} {K : Prop} (hp : p = k) (hx : xs[k]? = some x) (hn : n = (q : Int)) (hq : q < x.length) (h : K) : ∃ i j c es', p = i * 1 + j ∧ AtD (eL cIs xs) i c ∧ c[j]? = some (.sl 1 es') ∧ InB n (dLen es') ∧ K :=
 ⟨k, 0, cIs x, eL cI x, by omega, by unfold AtD; rw [eL_get, hx]; rfl, rfl, by subst hn; unfold InB; rw [dLen_eL]; omega, h⟩
theorem nst_at {xs : List (List Int)} {p k q : Nat} {x : List Int} {K : Nat → Nat → List D → List (List D) → Prop} (hp : p = k) (hx : xs[k]? = some x) (hq : q < x.length) (h : K k 0 (cIs x) (eL cI x)) : ∃ i j c es', p = i * 1 + j ∧ j < 1 ∧ AtD (eL cIs xs) i c ∧ c[j]? = some (.sl 1 es') ∧ q < dLen es' ∧ K i j c es' :=
 ⟨k, 0, cIs x, eL cI x, by omega, by decide, by unfold AtD; rw [eL_get, hx]; rfl, rfl, by rw [dLen_eL]; exact hq, h⟩
theorem nst_set {xs : List (List Int)} {k q : Nat} {x : List Int} (v : Int) : dSet (eL cIs xs) k ((cIs x).set 0 (.sl 1 (dSet (eL cI x) q [.int .i64 v]))) = eL cIs (xs.set k (x.set q v)) := by
 rw [show dSet (eL cI x) q [.int .i64 v] = eL cI (x.set q v) from eL_set cI x q v]
 exact eL_set cIs xs k (x.set q v)
theorem flat_snoc (xs : List Int) (v : Int) : FlatR (dApp (eL cI xs) (partOf [[D.int IntKind.i64 v]] none)) := by
 rw [partOf_none, show dApp (eL cI xs) [[D.int IntKind.i64 v]] = eL cI (xs ++ [v]) from eL_app cI xs v]
 exact flat_cI _
theorem cIs_set (k : Nat) (xs : List (List Int)) (x y : List Int) : dSet (eL cIs xs) k (dOver (cIs x) 0 [.sl 1 (eL cI y)]) = eL cIs (xs.set k y) := by
 rw [show dOver (cIs x) 0 [.sl 1 (eL cI y)] = cIs y by rw [dOver]; rfl]
 exact eL_set cIs xs k y
theorem nld_at {xs : List (List Int)} {p k q q' : Nat} {x : List Int} {v : Int} {K : D → Prop} (hp : p = k) (hx : xs[k]? = some x) (hq' : q' = q) (hq : x[q]? = some v) (h : K (.int .i64 v)) : ∃ i j c es' d, p = i * 1 + j ∧ AtD (eL cIs xs) i c ∧ c[j]? = some (.sl 1 es') ∧ es'[q']? = some [d] ∧ K d :=
 ⟨k, 0, cIs x, eL cI x, .int .i64 v, by omega, by unfold AtD; rw [eL_get, hx]; rfl, rfl, by rw [hq', eL_get, hq]; rfl, h⟩
theorem nyd_at {xs : List (List Int)} {p k : Nat} {x : List Int} {K : List (List D) → Prop} (hp : p = k) (hx : xs[k]? = some x) (h : K (eL cI x)) : ∃ i j c es', p = i * 1 + j ∧ AtD (eL cIs xs) i c ∧ c[j]? = some (.sl 1 es') ∧ K es' :=
 ⟨k, 0, cIs x, eL cI x, by omega, by unfold AtD; rw [eL_get, hx]; rfl, rfl, h⟩
end Go.H.S
namespace Go.H.S
open Go Go.Proofs Go.H
attribute [local irreducible] Tri FnSpec FnSpecM FnSpecX FnSpecJ FnSpecB
set_option maxHeartbeats 4000000 in
theorem spec_l9Right_nst (code : List Int) (i0 u0 : Int) (hi0 : inCur code (i0, u0)) (hl : code.length ≤ 1048576) : FnSpecB PR f_spec_l9Right [.c (.ptr 0 0)] t_spec_l1Cur (cur code i0 u0) (Tbl × Int × Int)
    (fun x => drawnT x.1 ∧ inCur code x.2) (fun x => .agg [.ref 1 0 none, .d (.str x.1.target), .ref 2 0 none, .ref 3 0 none]) (fun x => cur code x.2.1 x.2.2)
    (fun x => [(1, .arr t_string 1 0 .own (eL cS x.1.names)), (2, rowIs x.1.rows), (3, .arr t_int 1 0 .own (eL cI x.1.ys))]) (fun _ => 4) := by
  refine FnSpecB.intro hTn 0 (pf Tryz.func275) rfl (by kernel_rfl) Tryz.ntmps275 rfl rfl ?_
  intro v0
  conv => whnf
  refine .inr (.inr (.inr (.inr (.inl ⟨0, ?_⟩))))
  conv => whnf
  refine ⟨_, _, _, _, _, _, spec_l1Below_spec code i0 u0 3 hi0 hl, fun ⟨x1, i1, u1⟩ ⟨gx1, hi1⟩ => ⟨rfl, ?_⟩⟩
  dsimp only at gx1 hi1
  have x1b := gx1.2.1 (by decide)
  conv => whnf
  rw [show wAdd .i64 1 x1 = 1 + x1 from wAdd64 (by omega) (by omega)]
  have hp : partOf [[D.str { data := #[97] }], [D.str { data := #[98] }], [D.str { data := #[99, 50] }], [D.str { data := #[100] }]] (some (true, nAdd (offR none) (nOf 0), nSub (nOf (1 + x1)) (nOf 0))) = eL cS (abcd.take (1 + x1).toNat) := by
    rw [show [[D.str { data := #[97] }], [D.str { data := #[98] }], [D.str { data := #[99, 50] }], [D.str { data := #[100] }]] = eL cS abcd from by simp [eL, cS, abcd], part_eL]
    simp [nAdd_eq, nSub_eq, nOf_eq, offR]
  refine And.intro (by simp [InS, lenRE]; omega) ?_
  conv => whnf
  refine And.intro (by rw [hp]; simp [eL_length, dLen_len, abcd]; omega) ?_
  conv => whnf
  rw [hp]
  refine .inr (.inr (.inr (.inr (.inl ⟨0, ?_⟩))))
  conv => whnf
  refine ⟨_, _, _, _, _, _, spec_l1Below_spec code i1 u1 9 hi1 hl, fun ⟨x2, i2, u2⟩ ⟨gx2, hi2⟩ => ⟨rfl, ?_⟩⟩
  dsimp only at gx2 hi2
  have x2b := gx2.2.1 (by decide)
  conv => whnf
  refine .inr (.inr (.inr (.inr (.inl ⟨0, ?_⟩))))
  conv => whnf
  refine ⟨_, _, _, _, _, _, spec_l1Once_spec code i2 u2 10 hi2 hl, fun ⟨b1, i3, u3⟩ hi3 => ⟨rfl, ?_⟩⟩
  dsimp only at hi3
  cases b1 with
  | true =>
    conv => whnf
    refine .inr (.inr (.inr (.inr (.inl ⟨0, ?_⟩))))
    conv => whnf
    refine ⟨_, _, _, _, _, _, spec_l1Below_spec code i3 u3 40 hi3 hl, fun ⟨x3, i4, u4⟩ ⟨gx3, hi4⟩ => ⟨rfl, ?_⟩⟩
    dsimp only at gx3 hi4
    have x3b := gx3.2.1 (by decide)
    conv => whnf
    obtain ⟨M, hM, hMm⟩ : ∃ M : Int, wAdd .i64 1 x3 = M ∧ (1 ≤ M ∧ M ≤ 40) := ⟨1 + x3, wAdd64 (by omega) (by omega), by omega⟩
    refine .inr (.inr (.inr (.inr (.inl ⟨0, ?_⟩))))
    conv => whnf
    refine ⟨_, _, _, _, _, _, spec_l1Once_spec code i4 u4 12 hi4 hl, fun ⟨b2, i5, u5⟩ hi5 => ⟨rfl, ?_⟩⟩
    dsimp only at hi5
    conv => whnf
    rw [hM]
    refine tri_nn 5 2 t_Lint 1 [t_int] ?_
    conv => whnf
    refine tri_nl 5 3 t_int 1 ?_
    conv => whnf
    refine tri_loop hTn [0, 2, 3, 4, 5, 6, 7] (α := Nat × List (List Int) × List Int × Int × Int) (fun x' => { t := [(0, .w (.ptr 0 0) v0), (2, .c (.ptr 1 0)), (3, ai (1 + x1)), (4, .c (.ptr 2 0)), (5, ai M), (6, ab b2), (7, ai x'.1)], h := [(0, .box t_spec_l1Cur (cur code x'.2.2.2.1 x'.2.2.2.2)), (1, .box t_impl_Table [.nl 1, .d (.str ⟨#[]⟩), .nl 1, .nl 1]), (2, .box t_impl_Table [.ref 3 0 none, .d (.str ⟨#[121]⟩), .ref 4 0 none, .ref 5 0 none]), (3, .arr t_string 1 0 .own (eL cS (abcd.take (1 + x1).toNat))), (4, rowIs x'.2.1), (5, .arr t_int 1 0 .own (eL cI x'.2.2.1))], n := 6, N := 84 })
      (fun x' => (x'.1 : Int) ≤ M ∧ x'.2.1.length = x'.1 ∧ x'.2.2.1.length = x'.1 ∧ (∀ r ∈ x'.2.1, r.length = (1 + x1).toNat) ∧ (∀ r ∈ x'.2.1, ∀ x ∈ r, -2147483647 ≤ x ∧ x ≤ 2147483647) ∧ (∀ v ∈ x'.2.2.1, -2147483647 ≤ v ∧ v ≤ 2147483647) ∧ inCur code x'.2.2.2) (fun x' => M.toNat - x'.1) (0, [], [], i5, u5) (by (conv => whnf); simp only [rowIs, dApp_nil, eL_nil]; rfl) ⟨by dsimp only; omega, rfl, rfl, fun r hr => absurd hr (by simp), fun r hr => absurd hr (by simp), fun v hv => absurd hv (by simp), hi5⟩ ?_
    intro ⟨a, rs, ys, i6, u6⟩ ⟨ha, har, hay, hrs, hrv, hyv, hi6⟩
    dsimp only at ha har hay hrs hrv hyv hi6
    conv => whnf
    refine ifB_i (fun q1 => ?_) (fun q1 => ?_) <;> (conv => whnf) <;> simp only [eH] at q1
    · refine tri_loop hTn [0, 2, 3, 4, 5, 6, 7, 8, 9] (α := List Int × Int × Int) (fun y' =>
          { t := [(0, .w (.ptr 0 0) v0), (2, .c (.ptr 1 0)), (3, ai (1 + x1)), (4, .c (.ptr 2 0)), (5, ai M), (6, ab b2), (7, ai a), (8, .c (.ref 6 0 none)), (9, ai y'.1.length)], h := [(0, .box t_spec_l1Cur (cur code y'.2.1 y'.2.2)), (1, .box t_impl_Table [.nl 1, .d (.str ⟨#[]⟩), .nl 1, .nl 1]), (2, .box t_impl_Table [.ref 3 0 none, .d (.str ⟨#[121]⟩), .ref 4 0 none, .ref 5 0 none]), (3, .arr t_string 1 0 .own (eL cS (abcd.take (1 + x1).toNat))), (4, rowIs rs), (5, .arr t_int 1 0 .own (eL cI ys)), (6, .arr t_int 1 0 .own (eL cI y'.1))], n := 7, N := 84 })
        (fun y' => (y'.1.length : Int) ≤ 1 + x1 ∧ (∀ x ∈ y'.1, -2147483647 ≤ x ∧ x ≤ 2147483647 ∧ (b2 = false → -1500 ≤ x ∧ x ≤ 1500)) ∧ inCur code y'.2) (fun y' => (1 + x1).toNat - y'.1.length) ([], i6, u6) (by (conv => whnf); simp only [eL_nil]; rfl) ⟨by simp; omega, fun x hx => absurd hx (by simp), hi6⟩ ?_
      intro ⟨ss, i7, u7⟩ ⟨hs1, hs4, hi7⟩
      dsimp only at hs1 hs4 hi7
      conv => whnf
      refine ifB_i (fun hs3 => ?_) (fun hs3 => ?_) <;> (conv => whnf) <;> simp only [eH] at hs3
      ·
        refine .inr (.inr (.inr (.inr (.inl ⟨0, ?_⟩))))
        conv => whnf
        refine ⟨_, _, _, _, _, _, spec_l6Small_spec code i7 u7 hi7 hl, fun ⟨z8, i8, u8⟩ ⟨gz8, hi8⟩ => ⟨rfl, ?_⟩⟩
        dsimp only at gz8 hi8
        conv => whnf
        cases b2 with
        | true =>
          conv => whnf
          refine And.intro (by simp [partOf_none]; omega) ?_
          conv => whnf
          have hs5 : ∀ x ∈ ss ++ [z8], -2147483647 ≤ x ∧ x ≤ 2147483647 ∧ (true = false → -1500 ≤ x ∧ x ≤ 1500) := fun x hx => by
            rcases List.mem_append.1 hx with hx | hx
            · exact hs4 x hx
            · simp at hx; rw [hx]; exact ⟨gz8.1, gz8.2, fun h => by cases h⟩
          refine ⟨(ss ++ [z8], i8, u8), by simp; omega, ⟨by simp; omega, hs5, hi8⟩, ?_⟩
          ((conv => whnf); simp only [eS, wI (show ss.length < 40 by omega) (by omega)])
          simp only [partOf_none, List.length_append, List.length_cons, List.length_nil]
          rw [← eL_app]
          first | exact ⟨rfl, trivial⟩ | exact ⟨trivial, rfl⟩ | exact ⟨rfl, rfl⟩ | rfl
        | false =>
          conv => whnf
          refine .inr (.inr (.inr (.inr (.inl ⟨0, ?_⟩))))
          conv => whnf
          refine ⟨_, _, _, _, _, _, spec_l1Below_spec code i8 u8 7 hi8 hl, fun ⟨z9, i9, u9⟩ ⟨gz9, hi9⟩ => ⟨rfl, ?_⟩⟩
          dsimp only at gz9 hi9
          conv => whnf
          refine And.intro (by simp [partOf_none]; omega) ?_
          conv => whnf
          have hs5 : ∀ x ∈ ss ++ [wMul .i64 500 (wSub .i64 z9 3)], -2147483647 ≤ x ∧ x ≤ 2147483647 ∧ (false = false → -1500 ≤ x ∧ x ≤ 1500) := fun x hx => by
            rcases List.mem_append.1 hx with hx | hx
            · exact hs4 x hx
            · simp at hx; rw [hx]; exact (by have := v500 ⟨gz9.1, gz9.2.1 (by decide)⟩; exact ⟨by omega, by omega, fun _ => this⟩)
          refine ⟨(ss ++ [wMul .i64 500 (wSub .i64 z9 3)], i9, u9), by simp; omega, ⟨by simp; omega, hs5, hi9⟩, ?_⟩
          ((conv => whnf); simp only [eS, wI (show ss.length < 40 by omega) (by omega)])
          simp only [partOf_none, List.length_append, List.length_cons, List.length_nil]
          rw [← eL_app]
          first | exact ⟨rfl, trivial⟩ | exact ⟨trivial, rfl⟩ | exact ⟨rfl, rfl⟩ | rfl
      · refine ⟨flat_cI _, ?_⟩
        conv => whnf
        refine And.intro (by simp [eL_length, dLen_len]; omega) ?_
        conv => whnf
        rw [show dApp (eL cIs rs) [[D.sl 1 (eL cI ss)]] = eL cIs (rs ++ [ss]) from eL_app cIs rs ss]
        conv => whnf
        refine .inr (.inr (.inr (.inr (.inl ⟨0, ?_⟩))))
        conv => whnf
        refine ⟨_, _, _, _, _, _, spec_l6Small_spec code i7 u7 hi7 hl, fun ⟨z8, i8, u8⟩ ⟨gz8, hi8⟩ => ⟨rfl, ?_⟩⟩
        dsimp only at gz8 hi8
        conv => whnf
        cases b2 with
        | true =>
          conv => whnf
          refine And.intro (by simp [partOf_none]; omega) ?_
          conv => whnf
          refine ⟨(a + 1, rs ++ [ss], ys ++ [z8], i8, u8), by dsimp only; omega, ⟨by dsimp only; omega, by simp; omega, by simp; omega, fun r hr => ?_, fun r hr x hx => ?_, fun v hv => ?_, hi8⟩, ?_⟩
          · rcases List.mem_append.1 hr with hr | hr
            · exact hrs r hr
            · simp at hr; rw [hr]; omega
          · rcases List.mem_append.1 hr with hr | hr
            · exact hrv r hr x hx
            · simp at hr; rw [hr] at hx; exact ⟨(hs4 x hx).1, (hs4 x hx).2.1⟩
          · rcases List.mem_append.1 hv with hv | hv
            · exact hyv v hv
            · simp at hv; rw [hv]; exact ⟨gz8.1, gz8.2⟩
          ((conv => whnf); simp only [eS, wI (show a < 40 by omega) (by omega)])
          simp only [partOf_none]
          rw [← eL_app]
          first | exact ⟨rfl, rfl⟩ | rfl
        | false =>
          conv => whnf
          refine .inr (.inr (.inr (.inr (.inl ⟨0, ?_⟩))))
          conv => whnf
          refine ⟨_, _, _, _, _, _, spec_l1Once_spec code i8 u8 4 hi8 hl, fun ⟨b3, i9, u9⟩ hi9 => ⟨rfl, ?_⟩⟩
          dsimp only at hi9
          cases b3 with
          | true =>
            conv => whnf
            refine And.intro (by simp [partOf_none]; omega) ?_
            conv => whnf
            refine ⟨(a + 1, rs ++ [ss], ys ++ [z8], i9, u9), by dsimp only; omega, ⟨by dsimp only; omega, by simp; omega, by simp; omega, fun r hr => ?_, fun r hr x hx => ?_, fun v hv => ?_, hi9⟩, ?_⟩
            · rcases List.mem_append.1 hr with hr | hr
              · exact hrs r hr
              · simp at hr; rw [hr]; omega
            · rcases List.mem_append.1 hr with hr | hr
              · exact hrv r hr x hx
              · simp at hr; rw [hr] at hx; exact ⟨(hs4 x hx).1, (hs4 x hx).2.1⟩
            · rcases List.mem_append.1 hv with hv | hv
              · exact hyv v hv
              · simp at hv; rw [hv]; exact ⟨gz8.1, gz8.2⟩
            ((conv => whnf); simp only [eS, wI (show a < 40 by omega) (by omega)])
            simp only [partOf_none]
            rw [← eL_app]
            first | exact ⟨rfl, rfl⟩ | rfl
          | false =>
            conv => whnf
            obtain ⟨s0, hs0⟩ := get_lt (show 0 < ss.length by omega)
            refine tri_everyX hTn hmix [0, 2, 3, 4, 5, 6, 7, 11] (Y := Int × Int × Int) (fun y' => (-2147483647 ≤ y'.1 ∧ y'.1 ≤ 2147483647) ∧ inCur code y'.2) (fun y' => { t := [(0, .w (.ptr 0 0) v0), (2, .c (.ptr 1 0)), (3, ai (1 + x1)), (4, .c (.ptr 2 0)), (5, ai M), (6, ab false), (7, ai a), (11, ai y'.1)], h := [(0, .box t_spec_l1Cur (cur code y'.2.1 y'.2.2)), (1, .box t_impl_Table [.nl 1, .d (.str ⟨#[]⟩), .nl 1, .nl 1]), (2, .box t_impl_Table [.ref 3 0 none, .d (.str ⟨#[121]⟩), .ref 4 0 none, .ref 5 0 none]), (3, .arr t_string 1 0 .own (eL cS (abcd.take (1 + x1).toNat))), (4, rowIs (rs ++ [ss])), (5, .arr t_int 1 0 .own (eL cI ys))], n := 6, N := 84 }) rfl ?_ ?_
            · repeat' first
                | (refine anyV_one rfl ?_; (conv => whnf))
                | (refine anyV_two rfl ?_ ?_ <;> (conv => whnf))
                | (refine anyV_three rfl ?_ ?_ ?_ <;> (conv => whnf))
                | (refine nidx_at (k := rs.length) (q := 0) (by simp) (show (rs ++ [ss])[rs.length]? = some ss by simp) rfl (by omega) ?_; (conv => whnf))
                | (refine nld_at (k := rs.length) (q := 0) (by simp) (show (rs ++ [ss])[rs.length]? = some ss by simp) (by simp) hs0 ?_; (conv => whnf))
                | (refine .inr (.inr (.inr (.inr (.inl ⟨0, ?_⟩)))); (conv => whnf); refine ⟨_, _, _, _, _, _, spec_l1Below_spec code i9 u9 5 hi9 hl, fun ⟨z, ib, ub⟩ ⟨hz, hib⟩ => ⟨rfl, ?_⟩⟩; dsimp only at hz hib; (conv => whnf))
              all_goals
                refine anyV_end rfl ?_
                refine ⟨(wAdd .i64 (wMul .i64 s0 2) (wMul .i64 100 z), ib, ub), ⟨v2100 ((hs4 s0 (List.mem_of_getElem? hs0)).2.2 rfl) ⟨hz.1, hz.2.1 (by decide)⟩, hib⟩, ?_⟩
                conv => whnf
            · intro ⟨yv, ib, ub⟩ ⟨hyb, hib⟩
              dsimp only at hyb hib
              conv => whnf
              refine And.intro (by simp [partOf_none]; omega) ?_
              conv => whnf
              refine ⟨(a + 1, rs ++ [ss], ys ++ [yv], ib, ub), by dsimp only; omega, ⟨by dsimp only; omega, by simp; omega, by simp; omega, fun r hr => ?_, fun r hr x hx => ?_, fun v hv => ?_, hib⟩, ?_⟩
              · rcases List.mem_append.1 hr with hr | hr
                · exact hrs r hr
                · simp at hr; rw [hr]; omega
              · rcases List.mem_append.1 hr with hr | hr
                · exact hrv r hr x hx
                · simp at hr; rw [hr] at hx; exact ⟨(hs4 x hx).1, (hs4 x hx).2.1⟩
              · rcases List.mem_append.1 hv with hv | hv
                · exact hyv v hv
                · simp at hv; rw [hv]; exact hyb
              ((conv => whnf); simp only [eS, wI (show a < 40 by omega) (by omega)])
              simp only [partOf_none]
              rw [← eL_app]
              first | exact ⟨rfl, rfl⟩ | rfl
    · refine ⟨(⟨(abcd.take (1 + x1).toNat), ⟨#[121]⟩, rs, ys⟩, i6, u6), ⟨⟨by simp [abcd]; omega, by simp [abcd]; omega, fun s hs => ?_, by dsimp only; decide, by dsimp only; omega, by dsimp only; omega, fun r hr => by rw [hrs r hr]; simp [abcd]; omega, by dsimp only; omega, ⟨(1 + x1).toNat, by omega, by omega, rfl⟩, rfl, hrv, hyv⟩, hi6⟩, ?_⟩
      · have : s ∈ abcd := List.mem_of_mem_take hs
        simp [abcd] at this
        rcases this with rfl | rfl | rfl | rfl <;> decide
      · (conv => whnf)
        first | done | rfl
  | false =>
    conv => whnf
    obtain ⟨M, hM, hMm⟩ : ∃ M : Int, wAdd .i64 1 x2 = M ∧ (1 ≤ M ∧ M ≤ 40) := ⟨1 + x2, wAdd64 (by omega) (by omega), by omega⟩
    refine .inr (.inr (.inr (.inr (.inl ⟨0, ?_⟩))))
    conv => whnf
    refine ⟨_, _, _, _, _, _, spec_l1Once_spec code i3 u3 12 hi3 hl, fun ⟨b2, i5, u5⟩ hi5 => ⟨rfl, ?_⟩⟩
    dsimp only at hi5
    conv => whnf
    rw [hM]
    refine tri_nn 5 2 t_Lint 1 [t_int] ?_
    conv => whnf
    refine tri_nl 5 3 t_int 1 ?_
    conv => whnf
    refine tri_loop hTn [0, 2, 3, 4, 5, 6, 7] (α := Nat × List (List Int) × List Int × Int × Int) (fun x' => { t := [(0, .w (.ptr 0 0) v0), (2, .c (.ptr 1 0)), (3, ai (1 + x1)), (4, .c (.ptr 2 0)), (5, ai M), (6, ab b2), (7, ai x'.1)], h := [(0, .box t_spec_l1Cur (cur code x'.2.2.2.1 x'.2.2.2.2)), (1, .box t_impl_Table [.nl 1, .d (.str ⟨#[]⟩), .nl 1, .nl 1]), (2, .box t_impl_Table [.ref 3 0 none, .d (.str ⟨#[121]⟩), .ref 4 0 none, .ref 5 0 none]), (3, .arr t_string 1 0 .own (eL cS (abcd.take (1 + x1).toNat))), (4, rowIs x'.2.1), (5, .arr t_int 1 0 .own (eL cI x'.2.2.1))], n := 6, N := 84 })
      (fun x' => (x'.1 : Int) ≤ M ∧ x'.2.1.length = x'.1 ∧ x'.2.2.1.length = x'.1 ∧ (∀ r ∈ x'.2.1, r.length = (1 + x1).toNat) ∧ (∀ r ∈ x'.2.1, ∀ x ∈ r, -2147483647 ≤ x ∧ x ≤ 2147483647) ∧ (∀ v ∈ x'.2.2.1, -2147483647 ≤ v ∧ v ≤ 2147483647) ∧ inCur code x'.2.2.2) (fun x' => M.toNat - x'.1) (0, [], [], i5, u5) (by (conv => whnf); simp only [rowIs, dApp_nil, eL_nil]; rfl) ⟨by dsimp only; omega, rfl, rfl, fun r hr => absurd hr (by simp), fun r hr => absurd hr (by simp), fun v hv => absurd hv (by simp), hi5⟩ ?_
    intro ⟨a, rs, ys, i6, u6⟩ ⟨ha, har, hay, hrs, hrv, hyv, hi6⟩
    dsimp only at ha har hay hrs hrv hyv hi6
    conv => whnf
    refine ifB_i (fun q1 => ?_) (fun q1 => ?_) <;> (conv => whnf) <;> simp only [eH] at q1
    · refine tri_loop hTn [0, 2, 3, 4, 5, 6, 7, 8, 9] (α := List Int × Int × Int) (fun y' =>
          { t := [(0, .w (.ptr 0 0) v0), (2, .c (.ptr 1 0)), (3, ai (1 + x1)), (4, .c (.ptr 2 0)), (5, ai M), (6, ab b2), (7, ai a), (8, .c (.ref 6 0 none)), (9, ai y'.1.length)], h := [(0, .box t_spec_l1Cur (cur code y'.2.1 y'.2.2)), (1, .box t_impl_Table [.nl 1, .d (.str ⟨#[]⟩), .nl 1, .nl 1]), (2, .box t_impl_Table [.ref 3 0 none, .d (.str ⟨#[121]⟩), .ref 4 0 none, .ref 5 0 none]), (3, .arr t_string 1 0 .own (eL cS (abcd.take (1 + x1).toNat))), (4, rowIs rs), (5, .arr t_int 1 0 .own (eL cI ys)), (6, .arr t_int 1 0 .own (eL cI y'.1))], n := 7, N := 84 })
        (fun y' => (y'.1.length : Int) ≤ 1 + x1 ∧ (∀ x ∈ y'.1, -2147483647 ≤ x ∧ x ≤ 2147483647 ∧ (b2 = false → -1500 ≤ x ∧ x ≤ 1500)) ∧ inCur code y'.2) (fun y' => (1 + x1).toNat - y'.1.length) ([], i6, u6) (by (conv => whnf); simp only [eL_nil]; rfl) ⟨by simp; omega, fun x hx => absurd hx (by simp), hi6⟩ ?_
      intro ⟨ss, i7, u7⟩ ⟨hs1, hs4, hi7⟩
      dsimp only at hs1 hs4 hi7
      conv => whnf
      refine ifB_i (fun hs3 => ?_) (fun hs3 => ?_) <;> (conv => whnf) <;> simp only [eH] at hs3
      ·
        refine .inr (.inr (.inr (.inr (.inl ⟨0, ?_⟩))))
        conv => whnf
        refine ⟨_, _, _, _, _, _, spec_l6Small_spec code i7 u7 hi7 hl, fun ⟨z8, i8, u8⟩ ⟨gz8, hi8⟩ => ⟨rfl, ?_⟩⟩
        dsimp only at gz8 hi8
        conv => whnf
        cases b2 with
        | true =>
          conv => whnf
          refine And.intro (by simp [partOf_none]; omega) ?_
          conv => whnf
          have hs5 : ∀ x ∈ ss ++ [z8], -2147483647 ≤ x ∧ x ≤ 2147483647 ∧ (true = false → -1500 ≤ x ∧ x ≤ 1500) := fun x hx => by
            rcases List.mem_append.1 hx with hx | hx
            · exact hs4 x hx
            · simp at hx; rw [hx]; exact ⟨gz8.1, gz8.2, fun h => by cases h⟩
          refine ⟨(ss ++ [z8], i8, u8), by simp; omega, ⟨by simp; omega, hs5, hi8⟩, ?_⟩
          ((conv => whnf); simp only [eS, wI (show ss.length < 40 by omega) (by omega)])
          simp only [partOf_none, List.length_append, List.length_cons, List.length_nil]
          rw [← eL_app]
          first | exact ⟨rfl, trivial⟩ | exact ⟨trivial, rfl⟩ | exact ⟨rfl, rfl⟩ | rfl
        | false =>
          conv => whnf
          refine .inr (.inr (.inr (.inr (.inl ⟨0, ?_⟩))))
          conv => whnf
          refine ⟨_, _, _, _, _, _, spec_l1Below_spec code i8 u8 7 hi8 hl, fun ⟨z9, i9, u9⟩ ⟨gz9, hi9⟩ => ⟨rfl, ?_⟩⟩
          dsimp only at gz9 hi9
          conv => whnf
          refine And.intro (by simp [partOf_none]; omega) ?_
          conv => whnf
          have hs5 : ∀ x ∈ ss ++ [wMul .i64 500 (wSub .i64 z9 3)], -2147483647 ≤ x ∧ x ≤ 2147483647 ∧ (false = false → -1500 ≤ x ∧ x ≤ 1500) := fun x hx => by
            rcases List.mem_append.1 hx with hx | hx
            · exact hs4 x hx
            · simp at hx; rw [hx]; exact (by have := v500 ⟨gz9.1, gz9.2.1 (by decide)⟩; exact ⟨by omega, by omega, fun _ => this⟩)
          refine ⟨(ss ++ [wMul .i64 500 (wSub .i64 z9 3)], i9, u9), by simp; omega, ⟨by simp; omega, hs5, hi9⟩, ?_⟩
          ((conv => whnf); simp only [eS, wI (show ss.length < 40 by omega) (by omega)])
          simp only [partOf_none, List.length_append, List.length_cons, List.length_nil]
          rw [← eL_app]
          first | exact ⟨rfl, trivial⟩ | exact ⟨trivial, rfl⟩ | exact ⟨rfl, rfl⟩ | rfl
      · refine ⟨flat_cI _, ?_⟩
        conv => whnf
        refine And.intro (by simp [eL_length, dLen_len]; omega) ?_
        conv => whnf
        rw [show dApp (eL cIs rs) [[D.sl 1 (eL cI ss)]] = eL cIs (rs ++ [ss]) from eL_app cIs rs ss]
        conv => whnf
        refine .inr (.inr (.inr (.inr (.inl ⟨0, ?_⟩))))
        conv => whnf
        refine ⟨_, _, _, _, _, _, spec_l6Small_spec code i7 u7 hi7 hl, fun ⟨z8, i8, u8⟩ ⟨gz8, hi8⟩ => ⟨rfl, ?_⟩⟩
        dsimp only at gz8 hi8
        conv => whnf
        cases b2 with
        | true =>
          conv => whnf
          refine And.intro (by simp [partOf_none]; omega) ?_
          conv => whnf
          refine ⟨(a + 1, rs ++ [ss], ys ++ [z8], i8, u8), by dsimp only; omega, ⟨by dsimp only; omega, by simp; omega, by simp; omega, fun r hr => ?_, fun r hr x hx => ?_, fun v hv => ?_, hi8⟩, ?_⟩
          · rcases List.mem_append.1 hr with hr | hr
            · exact hrs r hr
            · simp at hr; rw [hr]; omega
          · rcases List.mem_append.1 hr with hr | hr
            · exact hrv r hr x hx
            · simp at hr; rw [hr] at hx; exact ⟨(hs4 x hx).1, (hs4 x hx).2.1⟩
          · rcases List.mem_append.1 hv with hv | hv
            · exact hyv v hv
            · simp at hv; rw [hv]; exact ⟨gz8.1, gz8.2⟩
          ((conv => whnf); simp only [eS, wI (show a < 40 by omega) (by omega)])
          simp only [partOf_none]
          rw [← eL_app]
          first | exact ⟨rfl, rfl⟩ | rfl
        | false =>
          conv => whnf
          refine .inr (.inr (.inr (.inr (.inl ⟨0, ?_⟩))))
          conv => whnf
          refine ⟨_, _, _, _, _, _, spec_l1Once_spec code i8 u8 4 hi8 hl, fun ⟨b3, i9, u9⟩ hi9 => ⟨rfl, ?_⟩⟩
          dsimp only at hi9
          cases b3 with
          | true =>
            conv => whnf
            refine And.intro (by simp [partOf_none]; omega) ?_
            conv => whnf
            refine ⟨(a + 1, rs ++ [ss], ys ++ [z8], i9, u9), by dsimp only; omega, ⟨by dsimp only; omega, by simp; omega, by simp; omega, fun r hr => ?_, fun r hr x hx => ?_, fun v hv => ?_, hi9⟩, ?_⟩
            · rcases List.mem_append.1 hr with hr | hr
              · exact hrs r hr
              · simp at hr; rw [hr]; omega
            · rcases List.mem_append.1 hr with hr | hr
              · exact hrv r hr x hx
              · simp at hr; rw [hr] at hx; exact ⟨(hs4 x hx).1, (hs4 x hx).2.1⟩
            · rcases List.mem_append.1 hv with hv | hv
              · exact hyv v hv
              · simp at hv; rw [hv]; exact ⟨gz8.1, gz8.2⟩
            ((conv => whnf); simp only [eS, wI (show a < 40 by omega) (by omega)])
            simp only [partOf_none]
            rw [← eL_app]
            first | exact ⟨rfl, rfl⟩ | rfl
          | false =>
            conv => whnf
            obtain ⟨s0, hs0⟩ := get_lt (show 0 < ss.length by omega)
            refine tri_everyX hTn hmix [0, 2, 3, 4, 5, 6, 7, 11] (Y := Int × Int × Int) (fun y' => (-2147483647 ≤ y'.1 ∧ y'.1 ≤ 2147483647) ∧ inCur code y'.2) (fun y' => { t := [(0, .w (.ptr 0 0) v0), (2, .c (.ptr 1 0)), (3, ai (1 + x1)), (4, .c (.ptr 2 0)), (5, ai M), (6, ab false), (7, ai a), (11, ai y'.1)], h := [(0, .box t_spec_l1Cur (cur code y'.2.1 y'.2.2)), (1, .box t_impl_Table [.nl 1, .d (.str ⟨#[]⟩), .nl 1, .nl 1]), (2, .box t_impl_Table [.ref 3 0 none, .d (.str ⟨#[121]⟩), .ref 4 0 none, .ref 5 0 none]), (3, .arr t_string 1 0 .own (eL cS (abcd.take (1 + x1).toNat))), (4, rowIs (rs ++ [ss])), (5, .arr t_int 1 0 .own (eL cI ys))], n := 6, N := 84 }) rfl ?_ ?_
            · repeat' first
                | (refine anyV_one rfl ?_; (conv => whnf))
                | (refine anyV_two rfl ?_ ?_ <;> (conv => whnf))
                | (refine anyV_three rfl ?_ ?_ ?_ <;> (conv => whnf))
                | (refine nidx_at (k := rs.length) (q := 0) (by simp) (show (rs ++ [ss])[rs.length]? = some ss by simp) rfl (by omega) ?_; (conv => whnf))
                | (refine nld_at (k := rs.length) (q := 0) (by simp) (show (rs ++ [ss])[rs.length]? = some ss by simp) (by simp) hs0 ?_; (conv => whnf))
                | (refine .inr (.inr (.inr (.inr (.inl ⟨0, ?_⟩)))); (conv => whnf); refine ⟨_, _, _, _, _, _, spec_l1Below_spec code i9 u9 5 hi9 hl, fun ⟨z, ib, ub⟩ ⟨hz, hib⟩ => ⟨rfl, ?_⟩⟩; dsimp only at hz hib; (conv => whnf))
              all_goals
                refine anyV_end rfl ?_
                refine ⟨(wAdd .i64 (wMul .i64 s0 2) (wMul .i64 100 z), ib, ub), ⟨v2100 ((hs4 s0 (List.mem_of_getElem? hs0)).2.2 rfl) ⟨hz.1, hz.2.1 (by decide)⟩, hib⟩, ?_⟩
                conv => whnf
            · intro ⟨yv, ib, ub⟩ ⟨hyb, hib⟩
              dsimp only at hyb hib
              conv => whnf
              refine And.intro (by simp [partOf_none]; omega) ?_
              conv => whnf
              refine ⟨(a + 1, rs ++ [ss], ys ++ [yv], ib, ub), by dsimp only; omega, ⟨by dsimp only; omega, by simp; omega, by simp; omega, fun r hr => ?_, fun r hr x hx => ?_, fun v hv => ?_, hib⟩, ?_⟩
              · rcases List.mem_append.1 hr with hr | hr
                · exact hrs r hr
                · simp at hr; rw [hr]; omega
              · rcases List.mem_append.1 hr with hr | hr
                · exact hrv r hr x hx
                · simp at hr; rw [hr] at hx; exact ⟨(hs4 x hx).1, (hs4 x hx).2.1⟩
              · rcases List.mem_append.1 hv with hv | hv
                · exact hyv v hv
                · simp at hv; rw [hv]; exact hyb
              ((conv => whnf); simp only [eS, wI (show a < 40 by omega) (by omega)])
              simp only [partOf_none]
              rw [← eL_app]
              first | exact ⟨rfl, rfl⟩ | rfl
    · refine ⟨(⟨(abcd.take (1 + x1).toNat), ⟨#[121]⟩, rs, ys⟩, i6, u6), ⟨⟨by simp [abcd]; omega, by simp [abcd]; omega, fun s hs => ?_, by dsimp only; decide, by dsimp only; omega, by dsimp only; omega, fun r hr => by rw [hrs r hr]; simp [abcd]; omega, by dsimp only; omega, ⟨(1 + x1).toNat, by omega, by omega, rfl⟩, rfl, hrv, hyv⟩, hi6⟩, ?_⟩
      · have : s ∈ abcd := List.mem_of_mem_take hs
        simp [abcd] at this
        rcases this with rfl | rfl | rfl | rfl <;> decide
      · (conv => whnf)
        first | done | rfl
end Go.H.S
