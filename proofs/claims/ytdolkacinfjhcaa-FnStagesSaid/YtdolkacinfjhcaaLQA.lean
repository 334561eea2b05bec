/- Library, part RA: names, signs, models that are right. -/
import Derived.Test.YtdolkacinfjhcaaLY
import Derived.Test.YtdolkacinfjhcaaLDB
namespace Go.H.S
open Go Go.Proofs Go.H
attribute [local irreducible] Tri FnSpec FnSpecM FnSpecX FnSpecJ
set_option maxRecDepth 100000
set_option linter.unusedSimpArgs false
set_option linter.unusedVariables false


def letterB (b : UInt8) : Bool := decide (97 ≤ (b.toNat : Int) ∧ (b.toNat : Int) ≤ 122)
def digitB (b : UInt8) : Bool := decide (48 ≤ (b.toNat : Int) ∧ (b.toNat : Int) ≤ 57)
def nameL : List UInt8 → Nat → Bool
  | [], _ => true
  | b :: r, k => (letterB b || (decide (k ≠ 0) && digitB b)) && nameL r (k + 1)
def nameOk (s : ByteArray) : Bool := decide (1 ≤ (s.size : Int) ∧ (s.size : Int) ≤ 12) && nameL s.data.toList 0
theorem nameL_late : ∀ (l : List UInt8) (k : Nat), 0 < k → nameL l k = l.all fun b => letterB b || digitB b
  | [], k, h => rfl
  | b :: r, k, h => by
    simp only [nameL, List.all_cons, nameL_late r (k + 1) (by omega)]
    rw [show decide (k ≠ 0) = true from decide_eq_true (by omega), Bool.true_and]
theorem str_at {s : ByteArray} {n : Int} {k : Nat} {b : UInt8} {K : UInt8 → Prop} (hn : n = (k : Int)) (hb : s.data.toList[k]? = some b) (h : K b) : InB n s.size ∧ ∀ c, AtB s (nOf n) c → K c := by
  subst hn
  have hlt := (List.getElem?_eq_some_iff.1 hb).1
  refine ⟨by simp; exact hlt, fun c hc => ?_⟩
  have hc' : s.data.toList[nOf (k : Int)]? = some c := by unfold AtB at hc; exact hc
  rw [nOf_eq, Int.toNat_natCast, hb] at hc'
  cases hc'
  exact h
theorem byte_get {s : ByteArray} {k : Nat} (h : k < s.size) : ∃ b, s.data.toList[k]? = some b := get_lt (l := s.data.toList) (by simpa using h)
theorem bInt_eq' (b : UInt8) : bInt b = (b.toNat : Int) := by unfold bInt; rfl
theorem bInt_lt (b : UInt8) : 0 ≤ bInt b ∧ bInt b < 256 := by rw [bInt_eq']; have := b.toNat_lt; omega
theorem wConv_byte (b : UInt8) : wConv .i64 (bInt b) = bInt b := by
  have := bInt_lt b
  unfold wConv
  exact wrap64 (by omega) (by omega)
theorem letter_b (b : UInt8) : letterB b = decide (97 ≤ bInt b ∧ bInt b ≤ 122) := by rw [bInt_eq']; rfl
theorem digit_b (b : UInt8) : digitB b = decide (48 ≤ bInt b ∧ bInt b ≤ 57) := by rw [bInt_eq']; rfl
theorem toList_cons {s : ByteArray} {b : UInt8} (h : s.data.toList[0]? = some b) : ∃ r, s.data.toList = b :: r := by
  generalize s.data.toList = l at *
  cases l with
  | nil => simp at h
  | cons x r => simp at h; subst h; exact ⟨r, rfl⟩

theorem spec_NameOk_spec (s : ByteArray) (hs : s.size ≤ 9223372036854775807) : FnSpec PR f_spec_NameOk [aS s] (ab (nameOk s)) [] 0 := by
  have hsz : s.data.toList.length = s.size := by simp
  refine FnSpec.intro hT p_spec_NameOk rfl (by kernel_rfl) n_spec_NameOk rfl ?_
  conv => whnf
  refine .inl ⟨_, _, _, spec_l1In_spec _ _ _, rfl, ?_⟩
  (conv => whnf)
  refine ifB_i (fun h1 => ?_) (fun h1 => ?_) <;> (conv => whnf) <;> simp only [nInt_eq, Int.natCast_zero, dLen_eL, sLen_eq, nOf_eq, Int.toNat_natCast, nAdd_eq, nSub_eq, dLen_nil, dLen_cons, iLt_t, iLt_f, iLe_t, iLe_f, iEq_t, iEq_f, sEq_t, sEq_f, bNot_t, bNot_f, bAnd_t, bEq_t, bEq_f, Bool.not_eq_true, Bool.not_eq_false, Bool.true_eq_false, Bool.false_eq_true] at h1
  · have : decide (1 ≤ (s.size : Int) ∧ (s.size : Int) ≤ 12) = false := by simpa using h1
    simp [nameOk, this]
  have hno : nameOk s = nameL s.data.toList 0 := by simp only [nameOk]; rw [h1]; rfl
  have h1' := of_decide_eq_true h1
  obtain ⟨b0, hb0⟩ := byte_get (s := s) (k := 0) (by omega)
  refine str_at (k := 0) rfl hb0 ?_
  (conv => whnf)
  refine ifB_i (fun h2 => ?_) (fun h2 => ?_) <;> (conv => whnf) <;> simp only [nInt_eq, Int.natCast_zero, dLen_eL, sLen_eq, nOf_eq, Int.toNat_natCast, nAdd_eq, nSub_eq, dLen_nil, dLen_cons, iLt_t, iLt_f, iLe_t, iLe_f, iEq_t, iEq_f, sEq_t, sEq_f, bNot_t, bNot_f, bAnd_t, bEq_t, bEq_f, Bool.not_eq_true, Bool.not_eq_false, Bool.true_eq_false, Bool.false_eq_true] at h2
  · obtain ⟨r, hr⟩ := toList_cons hb0
    have hl : letterB b0 = false := by rw [letter_b]; exact decide_eq_false (by omega)
    rw [hno, hr, nameL, hl]
    rfl
  refine tri_loop hT [0, 3] (α := Nat) (fun k => { t := [(0, aS s), (3, ai k)], h := [], n := 0, N := 33 })
    (fun k => k ≤ s.size ∧ ((s.data.toList.drop k).all fun b => letterB b || digitB b) = (s.data.toList.all fun b => letterB b || digitB b)) (fun k => s.size - k) 0 (by ((conv => whnf); simp only [St.mk.injEq, List.cons.injEq, Prod.mk.injEq, AV.c.injEq, AV.agg.injEq, AV.tup.injEq, CV.d.injEq, D.int.injEq, D.bool.injEq, D.str.injEq, D.sl.injEq, Ent.arr.injEq, Ent.box.injEq, true_and, and_true, and_self, nInt_eq, Int.natCast_zero, dLen_eL, sLen_eq])) ⟨Nat.zero_le _, rfl⟩ ?_
  intro k ⟨hk, hn⟩
  (conv => whnf)
  refine ifB_i (fun h3 => ?_) (fun h3 => ?_) <;> (conv => whnf) <;> simp at h3
  · obtain ⟨b, hb⟩ := byte_get h3
    rw [drop_at hb, List.all_cons] at hn
    refine str_at (k := k) rfl hb ?_
    (conv => whnf)
    refine .inl ⟨_, _, _, spec_l1In_spec _ _ _, rfl, ?_⟩
    rw [wConv_byte, ← letter_b]
    (conv => whnf)
    have hbad : letterB b = false → digitB b = false → nameOk s = false := fun p1 p2 => by
      rw [p1, p2] at hn
      obtain ⟨r, hr⟩ := toList_cons hb0
      rw [hno, hr, nameL, nameL_late _ _ (by omega)]
      rw [hr, List.all_cons] at hn
      simp only [Bool.or_self, Bool.false_and] at hn
      cases hq : (r.all fun b => letterB b || digitB b) with
      | false => simp
      | true =>
        rw [hq, Bool.and_true] at hn
        have hb0n : letterB b0 = false := by
          cases hq2 : letterB b0 with
          | false => rfl
          | true => rw [hq2] at hn; simp at hn
        rw [hb0n]; rfl
    cases hl : letterB b
    · (conv => whnf)
      refine str_at (k := k) rfl hb ?_
      (conv => whnf)
      refine .inl ⟨_, _, _, spec_l1In_spec _ _ _, rfl, ?_⟩
      rw [wConv_byte, ← digit_b]
      (conv => whnf)
      cases hd : digitB b
      · (conv => whnf)
        rw [hbad hl hd]
      · (conv => whnf)
        refine ⟨k + 1, by omega, ⟨h3, by rw [hl, hd] at hn; simpa using hn⟩, ?_⟩
        ((conv => whnf); simp only [St.mk.injEq, List.cons.injEq, Prod.mk.injEq, AV.c.injEq, AV.agg.injEq, AV.tup.injEq, CV.d.injEq, D.int.injEq, D.bool.injEq, D.str.injEq, D.sl.injEq, Ent.arr.injEq, Ent.box.injEq, true_and, and_true, and_self, nInt_eq, Int.natCast_zero, dLen_eL, sLen_eq, wI h3 (by omega)])
    · (conv => whnf)
      refine ⟨k + 1, by omega, ⟨h3, by rw [hl] at hn; simpa using hn⟩, ?_⟩
      ((conv => whnf); simp only [St.mk.injEq, List.cons.injEq, Prod.mk.injEq, AV.c.injEq, AV.agg.injEq, AV.tup.injEq, CV.d.injEq, D.int.injEq, D.bool.injEq, D.str.injEq, D.sl.injEq, Ent.arr.injEq, Ent.box.injEq, true_and, and_true, and_self, nInt_eq, Int.natCast_zero, dLen_eL, sLen_eq, wI h3 (by omega)])
  · obtain rfl : k = s.size := by omega
    rw [← hsz, List.drop_length] at hn
    obtain ⟨r, hr⟩ := toList_cons hb0
    rw [hr] at hn
    simp only [List.all_nil, List.all_cons] at hn
    have hn' := hn.symm
    simp only [Bool.and_eq_true] at hn'
    have hl : letterB b0 = true := by
      have h4 := hn'.1
      simp only [Bool.or_eq_true] at h4
      rcases h4 with h4 | h4
      · exact h4
      · rw [digit_b, decide_eq_true_eq] at h4; omega
    have : nameOk s = true := by rw [hno, hr, nameL, nameL_late _ _ (by omega), hl, hn'.2]; rfl
    rw [this]

theorem impl_NameOk_spec (s : ByteArray) (hs : s.size ≤ 9223372036854775807) : FnSpec PR f_impl_NameOk [aS s] (ab (nameOk s)) [] 0 := by
  refine FnSpec.intro hT p_impl_NameOk rfl (by kernel_rfl) n_impl_NameOk rfl ?_
  conv => whnf
  refine tri_loop hT [0, 6, 7] (α := Nat) (fun k => { t := [(0, aS s), (6, ai s.size), (7, ai k)], h := [], n := 0, N := 42 })
    (fun k => k ≤ s.size ∧ nameL (s.data.toList.drop k) k = nameL s.data.toList 0) (fun k => s.size - k) 0 (by ((conv => whnf); simp only [St.mk.injEq, List.cons.injEq, Prod.mk.injEq, AV.c.injEq, AV.agg.injEq, AV.tup.injEq, CV.d.injEq, D.int.injEq, D.bool.injEq, D.str.injEq, D.sl.injEq, Ent.arr.injEq, Ent.box.injEq, true_and, and_true, and_self, nInt_eq, Int.natCast_zero, dLen_eL, sLen_eq])) ⟨Nat.zero_le _, rfl⟩ ?_
  intro k ⟨hk, hn⟩
  (conv => whnf)
  refine ifB_i (fun h1 => ?_) (fun h1 => ?_) <;> (conv => whnf) <;> simp at h1
  · obtain ⟨b, hb⟩ := byte_get h1
    rw [drop_at hb, nameL] at hn
    have hbad : (letterB b || (decide (k ≠ 0) && digitB b)) = false → nameOk s = false := fun p => by
      rw [p, Bool.false_and] at hn
      simp [nameOk, ← hn]
    have hgood : (letterB b || (decide (k ≠ 0) && digitB b)) = true → nameL (s.data.toList.drop (k + 1)) (k + 1) = nameL s.data.toList 0 := fun p => by
      rw [p, Bool.true_and] at hn
      exact hn
    rw [letter_b, digit_b] at hbad hgood
    refine str_at (k := k) rfl hb ?_
    (conv => whnf)
    generalize e1 : iLe 97 (bInt b) = c1
    cases c1 <;> (conv => whnf)
    · have h97 : ¬ 97 ≤ bInt b := by simpa [iLe] using e1
      have hnl : decide (97 ≤ bInt b ∧ bInt b ≤ 122) = false := decide_eq_false (by omega)
      generalize e3 : iEq (k : Int) 0 = c3
      cases c3 <;> (conv => whnf)
      · have hk0 : ¬ k = 0 := by intro h; subst h; simp [iEq] at e3
        refine str_at (k := k) rfl hb ?_
        (conv => whnf)
        generalize e4 : iLt (bInt b) 48 = c4
        cases c4 <;> (conv => whnf)
        · refine str_at (k := k) rfl hb ?_
          (conv => whnf)
          generalize e5 : iLt 57 (bInt b) = c5
          cases c5 <;> (conv => whnf)
          · refine ⟨k + 1, by omega, ⟨h1, hgood ?_⟩, ?_⟩
            · have h48 : ¬ bInt b < 48 := by simpa [iLt] using e4
              have h57 : ¬ 57 < bInt b := by simpa [iLt] using e5
              rw [decide_eq_true hk0, decide_eq_true (show 48 ≤ bInt b ∧ bInt b ≤ 57 by omega)]
              simp
            · ((conv => whnf); simp only [St.mk.injEq, List.cons.injEq, Prod.mk.injEq, AV.c.injEq, AV.agg.injEq, AV.tup.injEq, CV.d.injEq, D.int.injEq, D.bool.injEq, D.str.injEq, D.sl.injEq, Ent.arr.injEq, Ent.box.injEq, true_and, and_true, and_self, nInt_eq, Int.natCast_zero, dLen_eL, sLen_eq, wI h1 hs])
          · have h57 : 57 < bInt b := by simpa [iLt] using e5
            rw [hbad (by rw [hnl, decide_eq_false (show ¬ (48 ≤ bInt b ∧ bInt b ≤ 57) by omega)]; simp)]
        · have h48 : bInt b < 48 := by simpa [iLt] using e4
          rw [hbad (by rw [hnl, decide_eq_false (show ¬ (48 ≤ bInt b ∧ bInt b ≤ 57) by omega)]; simp)]
      · have hk0 : k = 0 := by simpa [iEq] using e3
        rw [hbad (by rw [hnl]; simp [hk0])]
    · have h97 : 97 ≤ bInt b := by simpa [iLe] using e1
      refine str_at (k := k) rfl hb ?_
      (conv => whnf)
      generalize e2 : iLe (bInt b) 122 = c2
      cases c2 <;> (conv => whnf)
      · have h122 : ¬ bInt b ≤ 122 := by simpa [iLe] using e2
        have hnl : decide (97 ≤ bInt b ∧ bInt b ≤ 122) = false := decide_eq_false (by omega)
        generalize e3 : iEq (k : Int) 0 = c3
        cases c3 <;> (conv => whnf)
        · have hk0 : ¬ k = 0 := by intro h; subst h; simp [iEq] at e3
          refine str_at (k := k) rfl hb ?_
          (conv => whnf)
          generalize e4 : iLt (bInt b) 48 = c4
          cases c4 <;> (conv => whnf)
          · refine str_at (k := k) rfl hb ?_
            (conv => whnf)
            generalize e5 : iLt 57 (bInt b) = c5
            cases c5 <;> (conv => whnf)
            · refine ⟨k + 1, by omega, ⟨h1, hgood ?_⟩, ?_⟩
              · have h48 : ¬ bInt b < 48 := by simpa [iLt] using e4
                have h57 : ¬ 57 < bInt b := by simpa [iLt] using e5
                rw [decide_eq_true hk0, decide_eq_true (show 48 ≤ bInt b ∧ bInt b ≤ 57 by omega)]
                simp
              · ((conv => whnf); simp only [St.mk.injEq, List.cons.injEq, Prod.mk.injEq, AV.c.injEq, AV.agg.injEq, AV.tup.injEq, CV.d.injEq, D.int.injEq, D.bool.injEq, D.str.injEq, D.sl.injEq, Ent.arr.injEq, Ent.box.injEq, true_and, and_true, and_self, nInt_eq, Int.natCast_zero, dLen_eL, sLen_eq, wI h1 hs])
            · have h57 : 57 < bInt b := by simpa [iLt] using e5
              rw [hbad (by rw [hnl, decide_eq_false (show ¬ (48 ≤ bInt b ∧ bInt b ≤ 57) by omega)]; simp)]
          · have h48 : bInt b < 48 := by simpa [iLt] using e4
            rw [hbad (by rw [hnl, decide_eq_false (show ¬ (48 ≤ bInt b ∧ bInt b ≤ 57) by omega)]; simp)]
        · have hk0 : k = 0 := by simpa [iEq] using e3
          rw [hbad (by rw [hnl]; simp [hk0])]
      · have h122 : bInt b ≤ 122 := by simpa [iLe] using e2
        refine ⟨k + 1, by omega, ⟨h1, hgood (by rw [decide_eq_true (show 97 ≤ bInt b ∧ bInt b ≤ 122 by omega)]; rfl)⟩, ?_⟩
        ((conv => whnf); simp only [St.mk.injEq, List.cons.injEq, Prod.mk.injEq, AV.c.injEq, AV.agg.injEq, AV.tup.injEq, CV.d.injEq, D.int.injEq, D.bool.injEq, D.str.injEq, D.sl.injEq, Ent.arr.injEq, Ent.box.injEq, true_and, and_true, and_self, nInt_eq, Int.natCast_zero, dLen_eL, sLen_eq, wI h1 hs])
  · obtain rfl : k = s.size := by omega
    refine .inl ⟨_, _, _, impl_within_spec _ _ _, rfl, ?_⟩
    rw [sLen_eq]
    have hd : s.data.toList.drop s.size = [] := List.drop_eq_nil_of_le (by simp)
    rw [hd] at hn
    have : nameOk s = decide (1 ≤ (s.size : Int) ∧ (s.size : Int) ≤ 12) := by simp [nameOk, ← hn, nameL]
    rw [this]
    (conv => whnf)

def hasS (x : ByteArray) (l : List ByteArray) : Bool := l.any fun y => decide (x = y)
/-- Names that are right, each once. -/
def namesL (all : List ByteArray) : List ByteArray → Nat → Bool
  | [], _ => true
  | s :: r, k => (nameOk s && !hasS s (all.take k)) && namesL all r (k + 1)
/-- The first k elements of a slice. -/
theorem dCut_take {α : Type} (f : α → List D) (xs : List α) (k : Nat) : dCut (eL f xs) (nOf 0) (nOf (k : Int)) = eL f (xs.take k) := by simp [dCut, eL, List.map_take]

theorem spec_l9Has_spec (l : List ByteArray) (x : ByteArray) (hl : l.length ≤ 9223372036854775807) : FnSpec PR f_spec_l9Has [aSs l, aS x] (ab (hasS x l)) [] 0 := by
  refine FnSpec.intro hT p_spec_l9Has rfl (by kernel_rfl) n_spec_l9Has rfl ?_
  conv => whnf
  refine tri_loop hT [0, 1, 5] (α := Nat) (fun k => { t := [(0, aSs l), (1, aS x), (5, ai k)], h := [], n := 0, N := 18 })
    (fun k => k ≤ l.length ∧ hasS x (l.drop k) = hasS x l) (fun k => l.length - k) 0 (by ((conv => whnf); simp only [St.mk.injEq, List.cons.injEq, Prod.mk.injEq, AV.c.injEq, AV.agg.injEq, AV.tup.injEq, CV.d.injEq, D.int.injEq, D.bool.injEq, D.str.injEq, D.sl.injEq, Ent.arr.injEq, Ent.box.injEq, true_and, and_true, and_self, nInt_eq, Int.natCast_zero, dLen_eL, sLen_eq])) ⟨Nat.zero_le _, rfl⟩ ?_
  intro k ⟨hk, hi⟩
  (conv => whnf)
  refine ifB_i (fun h1 => ?_) (fun h1 => ?_) <;> (conv => whnf) <;> simp at h1
  · obtain ⟨s, hs⟩ := get_lt h1
    refine idx_at (by simp) hs ?_
    (conv => whnf)
    rw [drop_at hs] at hi
    refine ifB_i (fun h2 => ?_) (fun h2 => ?_) <;> (conv => whnf) <;> simp only [nInt_eq, Int.natCast_zero, dLen_eL, sLen_eq, nOf_eq, Int.toNat_natCast, nAdd_eq, nSub_eq, dLen_nil, dLen_cons, iLt_t, iLt_f, iLe_t, iLe_f, iEq_t, iEq_f, sEq_t, sEq_f, bNot_t, bNot_f, bAnd_t, bEq_t, bEq_f, Bool.not_eq_true, Bool.not_eq_false, Bool.true_eq_false, Bool.false_eq_true] at h2
    · subst h2
      rw [← hi]
      simp [hasS]
    · refine ⟨k + 1, by omega, ⟨h1, by rw [← hi]; simp [hasS, Ne.symm h2]⟩, ?_⟩
      ((conv => whnf); simp only [St.mk.injEq, List.cons.injEq, Prod.mk.injEq, AV.c.injEq, AV.agg.injEq, AV.tup.injEq, CV.d.injEq, D.int.injEq, D.bool.injEq, D.str.injEq, D.sl.injEq, Ent.arr.injEq, Ent.box.injEq, true_and, and_true, and_self, nInt_eq, Int.natCast_zero, dLen_eL, sLen_eq, wI h1 hl])
  · obtain rfl : k = l.length := by omega
    simp only [List.drop_length] at hi
    rw [← hi]
    rfl

theorem slices_IndexS_spec (l : List ByteArray) (x : ByteArray) (hl : l.length ≤ 9223372036854775807) : FnSpec PR f_slices_Index_Lstring_string [aSs l, aS x] (ai (idxL (fun y => decide (x = y)) l 0)) [] 0 := by
  refine FnSpec.intro hT p_slices_Index_Lstring_string rfl (by kernel_rfl) n_slices_Index_Lstring_string rfl ?_
  conv => whnf
  refine tri_loop hT [0, 1, 7, 8] (α := Nat) (fun k => { t := [(0, aSs l), (1, aS x), (7, ai l.length), (8, ai k)], h := [], n := 0, N := 19 })
    (fun k => k ≤ l.length ∧ idxL (fun y => decide (x = y)) (l.drop k) k = idxL (fun y => decide (x = y)) l 0) (fun k => l.length - k) 0 (by ((conv => whnf); simp only [St.mk.injEq, List.cons.injEq, Prod.mk.injEq, AV.c.injEq, AV.agg.injEq, AV.tup.injEq, CV.d.injEq, D.int.injEq, D.bool.injEq, D.str.injEq, D.sl.injEq, Ent.arr.injEq, Ent.box.injEq, true_and, and_true, and_self, nInt_eq, Int.natCast_zero, dLen_eL, sLen_eq])) ⟨Nat.zero_le _, rfl⟩ ?_
  intro k ⟨hk, hi⟩
  (conv => whnf)
  refine ifB_i (fun h1 => ?_) (fun h1 => ?_) <;> (conv => whnf) <;> simp at h1
  · obtain ⟨s, hs⟩ := get_lt h1
    refine idx_at (by simp) hs ?_
    (conv => whnf)
    rw [drop_at hs, idxL] at hi
    refine ifB_i (fun h2 => ?_) (fun h2 => ?_) <;> (conv => whnf) <;> simp only [nInt_eq, Int.natCast_zero, dLen_eL, sLen_eq, nOf_eq, Int.toNat_natCast, nAdd_eq, nSub_eq, dLen_nil, dLen_cons, iLt_t, iLt_f, iLe_t, iLe_f, iEq_t, iEq_f, sEq_t, sEq_f, bNot_t, bNot_f, bAnd_t, bEq_t, bEq_f, Bool.not_eq_true, Bool.not_eq_false, Bool.true_eq_false, Bool.false_eq_true] at h2
    · rw [if_pos (by simpa using h2)] at hi
      ((conv => whnf); simp only [St.mk.injEq, List.cons.injEq, Prod.mk.injEq, AV.c.injEq, AV.agg.injEq, AV.tup.injEq, CV.d.injEq, D.int.injEq, D.bool.injEq, D.str.injEq, D.sl.injEq, Ent.arr.injEq, Ent.box.injEq, true_and, and_true, and_self, nInt_eq, Int.natCast_zero, dLen_eL, sLen_eq, hi])
    · rw [if_neg (by simpa using h2)] at hi
      refine ⟨k + 1, by omega, ⟨h1, hi⟩, ?_⟩
      ((conv => whnf); simp only [St.mk.injEq, List.cons.injEq, Prod.mk.injEq, AV.c.injEq, AV.agg.injEq, AV.tup.injEq, CV.d.injEq, D.int.injEq, D.bool.injEq, D.str.injEq, D.sl.injEq, Ent.arr.injEq, Ent.box.injEq, true_and, and_true, and_self, nInt_eq, Int.natCast_zero, dLen_eL, sLen_eq, wI h1 hl])
  · obtain rfl : k = l.length := by omega
    simp only [List.drop_length, idxL] at hi
    ((conv => whnf); simp only [St.mk.injEq, List.cons.injEq, Prod.mk.injEq, AV.c.injEq, AV.agg.injEq, AV.tup.injEq, CV.d.injEq, D.int.injEq, D.bool.injEq, D.str.injEq, D.sl.injEq, Ent.arr.injEq, Ent.box.injEq, true_and, and_true, and_self, nInt_eq, Int.natCast_zero, dLen_eL, sLen_eq, ← hi])

theorem slices_ContainsS_spec (l : List ByteArray) (x : ByteArray) (hl : l.length ≤ 9223372036854775807) : FnSpec PR f_slices_Contains_Lstring_string [aSs l, aS x] (ab (hasS x l)) [] 0 := by
  refine FnSpec.intro hT p_slices_Contains_Lstring_string rfl (by kernel_rfl) n_slices_Contains_Lstring_string rfl ?_
  conv => whnf
  refine .inl ⟨_, _, _, slices_IndexS_spec l x hl, rfl, ?_⟩
  have h := idxL_any (fun y => decide (x = y)) l 0
  ((conv => whnf); simp only [St.mk.injEq, List.cons.injEq, Prod.mk.injEq, AV.c.injEq, AV.agg.injEq, AV.tup.injEq, CV.d.injEq, D.int.injEq, D.bool.injEq, D.str.injEq, D.sl.injEq, Ent.arr.injEq, Ent.box.injEq, true_and, and_true, and_self, nInt_eq, Int.natCast_zero, dLen_eL, sLen_eq, iLe])
  rw [Bool.eq_iff_iff, decide_eq_true_eq]
  exact h

theorem impl_areNames_spec (l : List ByteArray) (hl : l.length ≤ 1048576) (hs : ∀ s ∈ l, s.size ≤ 9223372036854775807) : FnSpec PR f_impl_areNames [aSs l] (ab (namesL l l 0)) [] 0 := by
  refine FnSpec.intro hT p_impl_areNames rfl (by kernel_rfl) n_impl_areNames rfl ?_
  conv => whnf
  refine tri_loop hT [0, 5, 6, 7] (α := Nat) (fun k => { t := [(0, aSs l), (5, aSs l), (6, ai l.length), (7, ai k)], h := [], n := 0, N := 23 })
    (fun k => k ≤ l.length ∧ namesL l (l.drop k) k = namesL l l 0) (fun k => l.length - k) 0 (by ((conv => whnf); simp only [St.mk.injEq, List.cons.injEq, Prod.mk.injEq, AV.c.injEq, AV.agg.injEq, AV.tup.injEq, CV.d.injEq, D.int.injEq, D.bool.injEq, D.str.injEq, D.sl.injEq, Ent.arr.injEq, Ent.box.injEq, true_and, and_true, and_self, nInt_eq, Int.natCast_zero, dLen_eL, sLen_eq])) ⟨Nat.zero_le _, rfl⟩ ?_
  intro k ⟨hk, hi⟩
  (conv => whnf)
  refine ifB_i (fun h1 => ?_) (fun h1 => ?_) <;> (conv => whnf) <;> simp at h1
  · obtain ⟨s, hs'⟩ := get_lt h1
    rw [drop_at hs', namesL] at hi
    refine idx_at (by simp) hs' ?_
    (conv => whnf)
    refine .inl ⟨_, _, _, impl_NameOk_spec s (hs s (List.mem_of_getElem? hs')), rfl, ?_⟩
    (conv => whnf)
    cases hb : nameOk s <;> (conv => whnf)
    · rw [hb] at hi
      rw [← hi]
      simp
    · rw [hb, Bool.true_and] at hi
      refine And.intro (by simp; omega) ?_
      rw [dCut_take]
      (conv => whnf)
      refine .inl ⟨_, _, _, slices_ContainsS_spec (l.take k) s (by simp; omega), rfl, ?_⟩
      (conv => whnf)
      cases hh : hasS s (l.take k) <;> (conv => whnf)
      · rw [hh] at hi
        refine ⟨k + 1, by omega, ⟨h1, by simpa using hi⟩, ?_⟩
        ((conv => whnf); simp only [St.mk.injEq, List.cons.injEq, Prod.mk.injEq, AV.c.injEq, AV.agg.injEq, AV.tup.injEq, CV.d.injEq, D.int.injEq, D.bool.injEq, D.str.injEq, D.sl.injEq, Ent.arr.injEq, Ent.box.injEq, true_and, and_true, and_self, nInt_eq, Int.natCast_zero, dLen_eL, sLen_eq, wI h1 (by omega)])
      · rw [hh] at hi
        rw [← hi]
        rfl
  · obtain rfl : k = l.length := by omega
    simp only [List.drop_length, namesL] at hi
    rw [← hi]

theorem impl_isSign_spec (x : Int) : FnSpec PR f_impl_isSign [ai x] (ab (decide (-1 ≤ x ∧ x ≤ 1))) [] 0 := by
  refine FnSpec.intro hT p_impl_isSign rfl (by kernel_rfl) n_impl_isSign rfl ?_
  conv => whnf
  refine .inl ⟨_, _, _, impl_within_spec _ _ _, rfl, ?_⟩
  (conv => whnf)

theorem impl_ModelOk_1_spec (x : Int) : FnSpec PR f_impl_ModelOk_1 [ai x] (ab (bNot (decide (-1 ≤ x ∧ x ≤ 1)))) [] 0 := by
  refine FnSpec.intro hT p_impl_ModelOk_1 rfl (by kernel_rfl) n_impl_ModelOk_1 rfl ?_
  conv => whnf
  refine .inl ⟨_, _, _, impl_isSign_spec _, rfl, ?_⟩
  (conv => whnf)

theorem impl_ModelOk_2_spec (t : List Nd) (n : Int) (hl : t.length ≤ 1048576) : FnSpec PR f_impl_ModelOk_2 [aT t, .c (.d (.rp [.int .i64 n]))] (ab (bNot (treeOk t n))) [] 0 := by
  refine FnSpec.intro hT p_impl_ModelOk_2 rfl (by kernel_rfl) n_impl_ModelOk_2 rfl ?_
  conv => whnf
  refine .inl ⟨_, _, _, impl_TreeOk_spec t n hl, rfl, ?_⟩
  (conv => whnf)

def signOk (x : Int) : Bool := decide (-1 ≤ x ∧ x ≤ 1)
def modelOk (m : Mdl) : Bool :=
  decide (1 ≤ (m.names.length : Int) ∧ (m.names.length : Int) ≤ 4) && ((decide (m.signs.length = 0) || decide (m.signs.length = m.names.length)) && (decide (-2147483647 ≤ m.base ∧ m.base ≤ 2147483647) && (decide (m.trees.length ≤ 8) &&
    (namesL m.names m.names 0 && (m.signs.all signOk && m.trees.all fun t => treeOk t m.names.length)))))

set_option maxHeartbeats 1000000 in
theorem spec_ModelOk_spec (m : Mdl) (hn : m.names.length ≤ 1048576) (hns : ∀ s ∈ m.names, s.size ≤ 9223372036854775807) (hs : m.signs.length ≤ 1048576) (hm : m.trees.length ≤ 1048576) (ht : ∀ t ∈ m.trees, t.length ≤ 1048576) : FnSpec PR f_spec_ModelOk [aM m] (ab (modelOk m)) [] 0 := by
  have eS : nInt (dLen (eL cI m.signs)) = (m.signs.length : Int) := by simp
  have eN : nInt (dLen (eL cS m.names)) = (m.names.length : Int) := by simp
  have eT : nInt (dLen (eL cT m.trees)) = (m.trees.length : Int) := by simp
  refine FnSpec.intro hT p_spec_ModelOk rfl (by kernel_rfl) n_spec_ModelOk rfl ?_
  conv => whnf
  rw [eN]
  refine .inl ⟨_, _, _, spec_l1In_spec _ _ _, rfl, ?_⟩
  (conv => whnf)
  refine ifB_i (fun h1 => ?_) (fun h1 => ?_) <;> (conv => whnf) <;> simp only [nInt_eq, Int.natCast_zero, dLen_eL, sLen_eq, nOf_eq, Int.toNat_natCast, nAdd_eq, nSub_eq, dLen_nil, dLen_cons, iLt_t, iLt_f, iLe_t, iLe_f, iEq_t, iEq_f, sEq_t, sEq_f, bNot_t, bNot_f, bAnd_t, bEq_t, bEq_f, Bool.not_eq_true, Bool.not_eq_false, Bool.true_eq_false, Bool.false_eq_true] at h1
  · have : decide (1 ≤ (m.names.length : Int) ∧ (m.names.length : Int) ≤ 4) = false := by simpa using h1
    simp [modelOk, this]
  rw [eS]
  generalize e1 : iEq (m.signs.length : Int) 0 = c1
  cases c1 <;> (conv => whnf)
  · rw [eS]
    generalize e2 : iEq (m.signs.length : Int) (m.names.length : Int) = c2
    have h0 : ¬ m.signs.length = 0 := by intro h; rw [h] at e1; simp [iEq] at e1
    cases c2 <;> (conv => whnf)
    · have : ¬ m.signs.length = m.names.length := by intro h; rw [h] at e2; simp [iEq] at e2
      simp [modelOk, h0, this]
    · have hsg : (decide (m.signs.length = 0) || decide (m.signs.length = m.names.length)) = true := by
        have : (m.signs.length : Int) = m.names.length := by simpa [iEq] using e2
        rw [decide_eq_true (show m.signs.length = m.names.length by omega)]; simp
      refine .inl ⟨_, _, _, spec_l6Value_spec _, rfl, ?_⟩
      (conv => whnf)
      generalize e3 : decide (-2147483647 ≤ m.base ∧ m.base ≤ 2147483647) = c3
      cases c3 <;> (conv => whnf)
      · simp [modelOk, e3]
      rw [eT]
      generalize e4 : iLt 8 (m.trees.length : Int) = c4
      cases c4 <;> (conv => whnf)
      rotate_left
      · have : ¬ m.trees.length ≤ 8 := by have : (8 : Int) < m.trees.length := by simpa [iLt] using e4
                                          omega
        simp [modelOk, this]
      have h4 : decide (m.trees.length ≤ 8) = true := decide_eq_true (by have : ¬ (8 : Int) < m.trees.length := by simpa [iLt] using e4
                                                                         omega)
      have hmo : modelOk m = (namesL m.names m.names 0 && (m.signs.all signOk && m.trees.all fun t => treeOk t m.names.length)) := by simp only [modelOk]; rw [h1, hsg, e3, h4]; rfl
      rw [hmo]
      refine tri_loop hT [1, 3, 4] (α := Nat) (fun k => { t := [(1, .c (.ptr 0 0)), (3, ai m.names.length), (4, ai k)], h := [(0, .box t_impl_Model (cM m))], n := 1, N := 91 })
        (fun k => k ≤ m.names.length ∧ namesL m.names (m.names.drop k) k = namesL m.names m.names 0) (fun k => m.names.length - k) 0 (by ((conv => whnf); simp only [St.mk.injEq, List.cons.injEq, Prod.mk.injEq, AV.c.injEq, AV.agg.injEq, AV.tup.injEq, CV.d.injEq, D.int.injEq, D.bool.injEq, D.str.injEq, D.sl.injEq, Ent.arr.injEq, Ent.box.injEq, true_and, and_true, and_self, nInt_eq, Int.natCast_zero, dLen_eL, sLen_eq]); first | done | simp) ⟨Nat.zero_le _, rfl⟩ ?_
      intro k ⟨hk, hi⟩
      (conv => whnf)
      refine ifB_i (fun g1 => ?_) (fun g1 => ?_) <;> (conv => whnf) <;> simp at g1
      · obtain ⟨s, hs'⟩ := get_lt g1
        rw [drop_at hs', namesL] at hi
        refine tri_conf hT hmix (by kernel_rfl) ?_
        (conv => whnf)
        refine idx_at (by simp) hs' ?_
        (conv => whnf)
        refine ⟨_, _, spec_NameOk_spec s (hns s (List.mem_of_getElem? hs')), rfl, ?_⟩
        cases hb : nameOk s
        · (conv => whnf)
          repeat' (first | (refine And.intro (fun q => ?_) (fun q => ?_) <;> cases q <;> (conv => whnf)) | fail)
          rw [hb] at hi
          have : namesL m.names m.names 0 = false := by rw [← hi]; simp
          rw [this]
          (conv => whnf)
          rfl
        · rw [hb, Bool.true_and] at hi
          (conv => whnf)
          repeat' (first | (refine And.intro (fun q => ?_) (fun q => ?_) <;> cases q <;> (conv => whnf)) | fail)
          refine And.intro (by simp; omega) ?_
          rw [dCut_take]
          (conv => whnf)
          repeat' (first | (refine And.intro (fun q => ?_) (fun q => ?_) <;> cases q <;> (conv => whnf)) | fail)
          refine idx_at (by simp) hs' ?_
          (conv => whnf)
          repeat' (first | (refine And.intro (fun q => ?_) (fun q => ?_) <;> cases q <;> (conv => whnf)) | fail)
          refine ⟨_, _, spec_l9Has_spec (m.names.take k) s (by simp; omega), rfl, ?_⟩
          cases hh : hasS s (m.names.take k)
          · (conv => whnf)
            repeat' (first | (refine And.intro (fun q => ?_) (fun q => ?_) <;> cases q <;> (conv => whnf)) | fail)
            rw [hh] at hi
            refine ⟨k + 1, by omega, ⟨g1, by simpa using hi⟩, ?_⟩
            ((conv => whnf); simp only [St.mk.injEq, List.cons.injEq, Prod.mk.injEq, AV.c.injEq, AV.agg.injEq, AV.tup.injEq, CV.d.injEq, D.int.injEq, D.bool.injEq, D.str.injEq, D.sl.injEq, Ent.arr.injEq, Ent.box.injEq, true_and, and_true, and_self, nInt_eq, Int.natCast_zero, dLen_eL, sLen_eq, wI g1 (by omega)])
          · (conv => whnf)
            repeat' (first | (refine And.intro (fun q => ?_) (fun q => ?_) <;> cases q <;> (conv => whnf)) | fail)
            rw [hh] at hi
            have : namesL m.names m.names 0 = false := by rw [← hi]; simp
            rw [this]
            (conv => whnf)
            rfl
      · obtain rfl : k = m.names.length := by omega
        simp only [List.drop_length, namesL] at hi
        rw [← hi, Bool.true_and]
        refine tri_loop hT [1, 3, 5] (α := Nat) (fun k => { t := [(1, .c (.ptr 0 0)), (3, ai m.names.length), (5, ai k)], h := [(0, .box t_impl_Model (cM m))], n := 1, N := 91 })
          (fun k => k ≤ m.signs.length ∧ (m.signs.drop k).all signOk = m.signs.all signOk) (fun k => m.signs.length - k) 0 (by ((conv => whnf); simp only [St.mk.injEq, List.cons.injEq, Prod.mk.injEq, AV.c.injEq, AV.agg.injEq, AV.tup.injEq, CV.d.injEq, D.int.injEq, D.bool.injEq, D.str.injEq, D.sl.injEq, Ent.arr.injEq, Ent.box.injEq, true_and, and_true, and_self, nInt_eq, Int.natCast_zero, dLen_eL, sLen_eq])) ⟨Nat.zero_le _, rfl⟩ ?_
        intro k ⟨hk2, hj⟩
        (conv => whnf)
        refine ifB_i (fun g2 => ?_) (fun g2 => ?_) <;> (conv => whnf) <;> simp at g2
        · obtain ⟨x, hx⟩ := get_lt g2
          rw [drop_at hx, List.all_cons] at hj
          refine idx_at (by simp) hx ?_
          (conv => whnf)
          refine .inl ⟨_, _, _, spec_l1In_spec _ _ _, rfl, ?_⟩
          rw [show decide (-1 ≤ x ∧ x ≤ 1) = signOk x from rfl]
          cases hb : signOk x
          · (conv => whnf)
            rw [hb] at hj
            rw [← hj]
            rfl
          · (conv => whnf)
            rw [hb] at hj
            refine ⟨k + 1, by omega, ⟨g2, by simpa using hj⟩, ?_⟩
            ((conv => whnf); simp only [St.mk.injEq, List.cons.injEq, Prod.mk.injEq, AV.c.injEq, AV.agg.injEq, AV.tup.injEq, CV.d.injEq, D.int.injEq, D.bool.injEq, D.str.injEq, D.sl.injEq, Ent.arr.injEq, Ent.box.injEq, true_and, and_true, and_self, nInt_eq, Int.natCast_zero, dLen_eL, sLen_eq, wI g2 (by omega)])
        · obtain rfl : k = m.signs.length := by omega
          simp only [List.drop_length, List.all_nil] at hj
          rw [← hj, Bool.true_and]
          refine tri_loop hT [1, 3, 6] (α := Nat) (fun k => { t := [(1, .c (.ptr 0 0)), (3, ai m.names.length), (6, ai k)], h := [(0, .box t_impl_Model (cM m))], n := 1, N := 91 })
            (fun k => k ≤ m.trees.length ∧ ((m.trees.drop k).all fun t => treeOk t m.names.length) = m.trees.all fun t => treeOk t m.names.length) (fun k => m.trees.length - k) 0 (by ((conv => whnf); simp only [St.mk.injEq, List.cons.injEq, Prod.mk.injEq, AV.c.injEq, AV.agg.injEq, AV.tup.injEq, CV.d.injEq, D.int.injEq, D.bool.injEq, D.str.injEq, D.sl.injEq, Ent.arr.injEq, Ent.box.injEq, true_and, and_true, and_self, nInt_eq, Int.natCast_zero, dLen_eL, sLen_eq])) ⟨Nat.zero_le _, rfl⟩ ?_
          intro k ⟨hk3, hl⟩
          (conv => whnf)
          refine ifB_i (fun g3 => ?_) (fun g3 => ?_) <;> (conv => whnf) <;> simp at g3
          · obtain ⟨t, ht'⟩ := get_lt g3
            rw [drop_at ht', List.all_cons] at hl
            refine idx_at (by simp) ht' ?_
            (conv => whnf)
            refine .inl ⟨_, _, _, spec_TreeOk_spec t m.names.length (ht t (List.mem_of_getElem? ht')), rfl, ?_⟩
            cases hb : treeOk t m.names.length
            · (conv => whnf)
              rw [hb] at hl
              rw [← hl]
              rfl
            · (conv => whnf)
              rw [hb] at hl
              refine ⟨k + 1, by omega, ⟨g3, by simpa using hl⟩, ?_⟩
              ((conv => whnf); simp only [St.mk.injEq, List.cons.injEq, Prod.mk.injEq, AV.c.injEq, AV.agg.injEq, AV.tup.injEq, CV.d.injEq, D.int.injEq, D.bool.injEq, D.str.injEq, D.sl.injEq, Ent.arr.injEq, Ent.box.injEq, true_and, and_true, and_self, nInt_eq, Int.natCast_zero, dLen_eL, sLen_eq, wI g3 (by omega)])
          · obtain rfl : k = m.trees.length := by omega
            simp only [List.drop_length, List.all_nil] at hl
            rw [← hl]
  · have hsg : (decide (m.signs.length = 0) || decide (m.signs.length = m.names.length)) = true := by
      have : (m.signs.length : Int) = 0 := by simpa [iEq] using e1
      rw [decide_eq_true (show m.signs.length = 0 by omega)]; rfl
    refine .inl ⟨_, _, _, spec_l6Value_spec _, rfl, ?_⟩
    (conv => whnf)
    generalize e3 : decide (-2147483647 ≤ m.base ∧ m.base ≤ 2147483647) = c3
    cases c3 <;> (conv => whnf)
    · simp [modelOk, e3]
    rw [eT]
    generalize e4 : iLt 8 (m.trees.length : Int) = c4
    cases c4 <;> (conv => whnf)
    rotate_left
    · have : ¬ m.trees.length ≤ 8 := by have : (8 : Int) < m.trees.length := by simpa [iLt] using e4
                                        omega
      simp [modelOk, this]
    have h4 : decide (m.trees.length ≤ 8) = true := decide_eq_true (by have : ¬ (8 : Int) < m.trees.length := by simpa [iLt] using e4
                                                                       omega)
    have hmo : modelOk m = (namesL m.names m.names 0 && (m.signs.all signOk && m.trees.all fun t => treeOk t m.names.length)) := by simp only [modelOk]; rw [h1, hsg, e3, h4]; rfl
    rw [hmo]
    refine tri_loop hT [1, 3, 4] (α := Nat) (fun k => { t := [(1, .c (.ptr 0 0)), (3, ai m.names.length), (4, ai k)], h := [(0, .box t_impl_Model (cM m))], n := 1, N := 91 })
      (fun k => k ≤ m.names.length ∧ namesL m.names (m.names.drop k) k = namesL m.names m.names 0) (fun k => m.names.length - k) 0 (by ((conv => whnf); simp only [St.mk.injEq, List.cons.injEq, Prod.mk.injEq, AV.c.injEq, AV.agg.injEq, AV.tup.injEq, CV.d.injEq, D.int.injEq, D.bool.injEq, D.str.injEq, D.sl.injEq, Ent.arr.injEq, Ent.box.injEq, true_and, and_true, and_self, nInt_eq, Int.natCast_zero, dLen_eL, sLen_eq]); first | done | simp) ⟨Nat.zero_le _, rfl⟩ ?_
    intro k ⟨hk, hi⟩
    (conv => whnf)
    refine ifB_i (fun g1 => ?_) (fun g1 => ?_) <;> (conv => whnf) <;> simp at g1
    · obtain ⟨s, hs'⟩ := get_lt g1
      rw [drop_at hs', namesL] at hi
      refine tri_conf hT hmix (by kernel_rfl) ?_
      (conv => whnf)
      refine idx_at (by simp) hs' ?_
      (conv => whnf)
      refine ⟨_, _, spec_NameOk_spec s (hns s (List.mem_of_getElem? hs')), rfl, ?_⟩
      cases hb : nameOk s
      · (conv => whnf)
        repeat' (first | (refine And.intro (fun q => ?_) (fun q => ?_) <;> cases q <;> (conv => whnf)) | fail)
        rw [hb] at hi
        have : namesL m.names m.names 0 = false := by rw [← hi]; simp
        rw [this]
        (conv => whnf)
        rfl
      · rw [hb, Bool.true_and] at hi
        (conv => whnf)
        repeat' (first | (refine And.intro (fun q => ?_) (fun q => ?_) <;> cases q <;> (conv => whnf)) | fail)
        refine And.intro (by simp; omega) ?_
        rw [dCut_take]
        (conv => whnf)
        repeat' (first | (refine And.intro (fun q => ?_) (fun q => ?_) <;> cases q <;> (conv => whnf)) | fail)
        refine idx_at (by simp) hs' ?_
        (conv => whnf)
        repeat' (first | (refine And.intro (fun q => ?_) (fun q => ?_) <;> cases q <;> (conv => whnf)) | fail)
        refine ⟨_, _, spec_l9Has_spec (m.names.take k) s (by simp; omega), rfl, ?_⟩
        cases hh : hasS s (m.names.take k)
        · (conv => whnf)
          repeat' (first | (refine And.intro (fun q => ?_) (fun q => ?_) <;> cases q <;> (conv => whnf)) | fail)
          rw [hh] at hi
          refine ⟨k + 1, by omega, ⟨g1, by simpa using hi⟩, ?_⟩
          ((conv => whnf); simp only [St.mk.injEq, List.cons.injEq, Prod.mk.injEq, AV.c.injEq, AV.agg.injEq, AV.tup.injEq, CV.d.injEq, D.int.injEq, D.bool.injEq, D.str.injEq, D.sl.injEq, Ent.arr.injEq, Ent.box.injEq, true_and, and_true, and_self, nInt_eq, Int.natCast_zero, dLen_eL, sLen_eq, wI g1 (by omega)])
        · (conv => whnf)
          repeat' (first | (refine And.intro (fun q => ?_) (fun q => ?_) <;> cases q <;> (conv => whnf)) | fail)
          rw [hh] at hi
          have : namesL m.names m.names 0 = false := by rw [← hi]; simp
          rw [this]
          (conv => whnf)
          rfl
    · obtain rfl : k = m.names.length := by omega
      simp only [List.drop_length, namesL] at hi
      rw [← hi, Bool.true_and]
      refine tri_loop hT [1, 3, 5] (α := Nat) (fun k => { t := [(1, .c (.ptr 0 0)), (3, ai m.names.length), (5, ai k)], h := [(0, .box t_impl_Model (cM m))], n := 1, N := 91 })
        (fun k => k ≤ m.signs.length ∧ (m.signs.drop k).all signOk = m.signs.all signOk) (fun k => m.signs.length - k) 0 (by ((conv => whnf); simp only [St.mk.injEq, List.cons.injEq, Prod.mk.injEq, AV.c.injEq, AV.agg.injEq, AV.tup.injEq, CV.d.injEq, D.int.injEq, D.bool.injEq, D.str.injEq, D.sl.injEq, Ent.arr.injEq, Ent.box.injEq, true_and, and_true, and_self, nInt_eq, Int.natCast_zero, dLen_eL, sLen_eq])) ⟨Nat.zero_le _, rfl⟩ ?_
      intro k ⟨hk2, hj⟩
      (conv => whnf)
      refine ifB_i (fun g2 => ?_) (fun g2 => ?_) <;> (conv => whnf) <;> simp at g2
      · obtain ⟨x, hx⟩ := get_lt g2
        rw [drop_at hx, List.all_cons] at hj
        refine idx_at (by simp) hx ?_
        (conv => whnf)
        refine .inl ⟨_, _, _, spec_l1In_spec _ _ _, rfl, ?_⟩
        rw [show decide (-1 ≤ x ∧ x ≤ 1) = signOk x from rfl]
        cases hb : signOk x
        · (conv => whnf)
          rw [hb] at hj
          rw [← hj]
          rfl
        · (conv => whnf)
          rw [hb] at hj
          refine ⟨k + 1, by omega, ⟨g2, by simpa using hj⟩, ?_⟩
          ((conv => whnf); simp only [St.mk.injEq, List.cons.injEq, Prod.mk.injEq, AV.c.injEq, AV.agg.injEq, AV.tup.injEq, CV.d.injEq, D.int.injEq, D.bool.injEq, D.str.injEq, D.sl.injEq, Ent.arr.injEq, Ent.box.injEq, true_and, and_true, and_self, nInt_eq, Int.natCast_zero, dLen_eL, sLen_eq, wI g2 (by omega)])
      · obtain rfl : k = m.signs.length := by omega
        simp only [List.drop_length, List.all_nil] at hj
        rw [← hj, Bool.true_and]
        refine tri_loop hT [1, 3, 6] (α := Nat) (fun k => { t := [(1, .c (.ptr 0 0)), (3, ai m.names.length), (6, ai k)], h := [(0, .box t_impl_Model (cM m))], n := 1, N := 91 })
          (fun k => k ≤ m.trees.length ∧ ((m.trees.drop k).all fun t => treeOk t m.names.length) = m.trees.all fun t => treeOk t m.names.length) (fun k => m.trees.length - k) 0 (by ((conv => whnf); simp only [St.mk.injEq, List.cons.injEq, Prod.mk.injEq, AV.c.injEq, AV.agg.injEq, AV.tup.injEq, CV.d.injEq, D.int.injEq, D.bool.injEq, D.str.injEq, D.sl.injEq, Ent.arr.injEq, Ent.box.injEq, true_and, and_true, and_self, nInt_eq, Int.natCast_zero, dLen_eL, sLen_eq])) ⟨Nat.zero_le _, rfl⟩ ?_
        intro k ⟨hk3, hl⟩
        (conv => whnf)
        refine ifB_i (fun g3 => ?_) (fun g3 => ?_) <;> (conv => whnf) <;> simp at g3
        · obtain ⟨t, ht'⟩ := get_lt g3
          rw [drop_at ht', List.all_cons] at hl
          refine idx_at (by simp) ht' ?_
          (conv => whnf)
          refine .inl ⟨_, _, _, spec_TreeOk_spec t m.names.length (ht t (List.mem_of_getElem? ht')), rfl, ?_⟩
          cases hb : treeOk t m.names.length
          · (conv => whnf)
            rw [hb] at hl
            rw [← hl]
            rfl
          · (conv => whnf)
            rw [hb] at hl
            refine ⟨k + 1, by omega, ⟨g3, by simpa using hl⟩, ?_⟩
            ((conv => whnf); simp only [St.mk.injEq, List.cons.injEq, Prod.mk.injEq, AV.c.injEq, AV.agg.injEq, AV.tup.injEq, CV.d.injEq, D.int.injEq, D.bool.injEq, D.str.injEq, D.sl.injEq, Ent.arr.injEq, Ent.box.injEq, true_and, and_true, and_self, nInt_eq, Int.natCast_zero, dLen_eL, sLen_eq, wI g3 (by omega)])
        · obtain rfl : k = m.trees.length := by omega
          simp only [List.drop_length, List.all_nil] at hl
          rw [← hl]

theorem any_all {α : Type} (p : α → Bool) (l : List α) : (l.any fun x => bNot (p x)) = !l.all p := by
  induction l with
  | nil => rfl
  | cons x r ih => rw [List.any_cons, List.all_cons, ih, Bool.not_and]; rfl
set_option maxHeartbeats 1000000 in
theorem impl_ModelOk_spec (m : Mdl) (hn : m.names.length ≤ 1048576) (hns : ∀ s ∈ m.names, s.size ≤ 9223372036854775807) (hs : m.signs.length ≤ 1048576) (hm : m.trees.length ≤ 1048576) (ht : ∀ t ∈ m.trees, t.length ≤ 1048576) : FnSpec PR f_impl_ModelOk [aM m] (ab (modelOk m)) [] 0 := by
  have eS : nInt (dLen (eL cI m.signs)) = (m.signs.length : Int) := by simp
  have eN : nInt (dLen (eL cS m.names)) = (m.names.length : Int) := by simp
  have eT : nInt (dLen (eL cT m.trees)) = (m.trees.length : Int) := by simp
  refine FnSpec.intro hT p_impl_ModelOk rfl (by kernel_rfl) n_impl_ModelOk rfl ?_
  conv => whnf
  rw [eN]
  refine .inl ⟨_, _, _, impl_within_spec _ _ _, rfl, ?_⟩
  (conv => whnf)
  refine ifB_i (fun h1 => ?_) (fun h1 => ?_) <;> (conv => whnf) <;> simp only [nInt_eq, Int.natCast_zero, dLen_eL, sLen_eq, nOf_eq, Int.toNat_natCast, nAdd_eq, nSub_eq, dLen_nil, dLen_cons, iLt_t, iLt_f, iLe_t, iLe_f, iEq_t, iEq_f, sEq_t, sEq_f, bNot_t, bNot_f, bAnd_t, bEq_t, bEq_f, Bool.not_eq_true, Bool.not_eq_false, Bool.true_eq_false, Bool.false_eq_true] at h1
  · have : decide (1 ≤ (m.names.length : Int) ∧ (m.names.length : Int) ≤ 4) = false := by simpa using h1
    simp [modelOk, this]
  refine .inl ⟨_, _, _, impl_areNames_spec m.names hn hns, rfl, ?_⟩
  cases hnm : namesL m.names m.names 0
  · (conv => whnf)
    simp [modelOk, hnm]
  (conv => whnf)
  rw [eS]
  generalize e1 : iEq (m.signs.length : Int) 0 = c1
  cases c1 <;> (conv => whnf)
  · rw [eS]
    generalize e2 : iEq (m.signs.length : Int) (m.names.length : Int) = c2
    have h0 : ¬ m.signs.length = 0 := by intro h; rw [h] at e1; simp [iEq] at e1
    cases c2 <;> (conv => whnf)
    · have : ¬ m.signs.length = m.names.length := by intro h; rw [h] at e2; simp [iEq] at e2
      simp [modelOk, h0, this]
    · have hsg : (decide (m.signs.length = 0) || decide (m.signs.length = m.names.length)) = true := by
        have : (m.signs.length : Int) = m.names.length := by simpa [iEq] using e2
        rw [decide_eq_true (show m.signs.length = m.names.length by omega)]; simp
      refine .inl ⟨_, _, _, slices_ContainsFunc_Lint_int_0 m.signs f_impl_ModelOk_1 (fun x => bNot (signOk x)) (fun x _ => impl_ModelOk_1_spec x) (by omega), rfl, ?_⟩
      rw [any_all]
      cases hsa : m.signs.all signOk
      rotate_left
      · (conv => whnf)
        refine .inl ⟨_, _, _, impl_isDecimal_spec _, rfl, ?_⟩
        (conv => whnf)
        generalize e3 : decide (-2147483647 ≤ m.base ∧ m.base ≤ 2147483647) = c3
        cases c3 <;> (conv => whnf)
        · simp [modelOk, e3]
        rw [eT]
        generalize e4 : iLe (m.trees.length : Int) 8 = c4
        cases c4 <;> (conv => whnf)
        · have : ¬ m.trees.length ≤ 8 := by have : ¬ (m.trees.length : Int) ≤ 8 := by simpa [iLe] using e4
                                            omega
          simp [modelOk, this]
        have h4 : decide (m.trees.length ≤ 8) = true := decide_eq_true (by have : (m.trees.length : Int) ≤ 8 := by simpa [iLe] using e4
                                                                           omega)
        refine .inr (.inl ⟨_, _, _, slices_ContainsFunc_Limpl_Tree_impl_Tree_1 m.trees f_impl_ModelOk_2 (.rp [.int .i64 m.names.length]) (fun t => bNot (treeOk t m.names.length)) (fun t htm => impl_ModelOk_2_spec t m.names.length (ht t htm)) (by omega), rfl, trivial, ?_⟩)
        rw [any_all]
        (conv => whnf)
        have hmo : modelOk m = m.trees.all fun t => treeOk t m.names.length := by simp only [modelOk]; rw [h1, hsg, e3, h4, hnm, hsa]; rfl
        rw [hmo]
        simp [bNot]
      · (conv => whnf)
        simp [modelOk, hsa]
  · have hsg : (decide (m.signs.length = 0) || decide (m.signs.length = m.names.length)) = true := by
      have : (m.signs.length : Int) = 0 := by simpa [iEq] using e1
      rw [decide_eq_true (show m.signs.length = 0 by omega)]; rfl
    refine .inl ⟨_, _, _, slices_ContainsFunc_Lint_int_0 m.signs f_impl_ModelOk_1 (fun x => bNot (signOk x)) (fun x _ => impl_ModelOk_1_spec x) (by omega), rfl, ?_⟩
    rw [any_all]
    cases hsa : m.signs.all signOk
    rotate_left
    · (conv => whnf)
      refine .inl ⟨_, _, _, impl_isDecimal_spec _, rfl, ?_⟩
      (conv => whnf)
      generalize e3 : decide (-2147483647 ≤ m.base ∧ m.base ≤ 2147483647) = c3
      cases c3 <;> (conv => whnf)
      · simp [modelOk, e3]
      rw [eT]
      generalize e4 : iLe (m.trees.length : Int) 8 = c4
      cases c4 <;> (conv => whnf)
      · have : ¬ m.trees.length ≤ 8 := by have : ¬ (m.trees.length : Int) ≤ 8 := by simpa [iLe] using e4
                                          omega
        simp [modelOk, this]
      have h4 : decide (m.trees.length ≤ 8) = true := decide_eq_true (by have : (m.trees.length : Int) ≤ 8 := by simpa [iLe] using e4
                                                                         omega)
      refine .inr (.inl ⟨_, _, _, slices_ContainsFunc_Limpl_Tree_impl_Tree_1 m.trees f_impl_ModelOk_2 (.rp [.int .i64 m.names.length]) (fun t => bNot (treeOk t m.names.length)) (fun t htm => impl_ModelOk_2_spec t m.names.length (ht t htm)) (by omega), rfl, trivial, ?_⟩)
      rw [any_all]
      (conv => whnf)
      have hmo : modelOk m = m.trees.all fun t => treeOk t m.names.length := by simp only [modelOk]; rw [h1, hsg, e3, h4, hnm, hsa]; rfl
      rw [hmo]
      simp [bNot]
    · (conv => whnf)
      simp [modelOk, hsa]
end Go.H.S
namespace Go.H.S
open Go Go.Proofs Go.H
attribute [local irreducible] Tri FnSpec FnSpecM FnSpecX FnSpecJ FnSpecB
set_option maxRecDepth 100000
set_option linter.unusedSimpArgs false
set_option linter.unusedVariables false


theorem firstM_twice (m : Mdl) (k : Int) : firstM (firstM m k) k = firstM m k := by
  have e0 : ∀ m' : Mdl, k < 0 → firstK m' k = 0 := fun m' hk => by unfold firstK brought; rw [if_pos hk]; rfl
  have e1 : ∀ m' : Mdl, 0 ≤ k → firstK m' k = min k.toNat m'.trees.length := fun m' hk => by
    unfold firstK brought
    rw [if_neg (by omega)]
    split <;> omega
  have e : (m.trees.take (firstK m k)).take (firstK (firstM m k) k) = m.trees.take (firstK m k) := by
    rcases Int.lt_or_le k 0 with q | q
    · rw [e0 _ q, e0 _ q]; simp
    · rw [e1 (firstM m k) q, e1 m q]
      refine List.take_of_length_le ?_
      show (m.trees.take (min k.toNat m.trees.length)).length ≤ min k.toNat (m.trees.take (firstK m k)).length
      rw [e1 m q, List.length_take]
      omega
  show ({ m with trees := (m.trees.take (firstK m k)).take (firstK (firstM m k) k) } : Mdl) = { m with trees := m.trees.take (firstK m k) }
  rw [e]
theorem firstM_all (m : Mdl) : firstM m m.trees.length = m := by
  have e : firstK m m.trees.length = m.trees.length := by unfold firstK brought; split <;> (try split) <;> omega
  unfold firstM
  rw [e, List.take_length]
theorem modelOk_first {m : Mdl} (h : modelOk m = true) (k : Int) : modelOk (firstM m k) = true := by
  have hk := firstK_le m k
  simp only [modelOk, Bool.and_eq_true, decide_eq_true_eq, List.all_eq_true] at h ⊢
  obtain ⟨h1, h2, h3, h4, h5, h6, h7⟩ := h
  refine ⟨h1, h2, h3, ?_, h5, h6, fun t ht => h7 t (List.mem_of_mem_take ht)⟩
  show (m.trees.take (firstK m k)).length ≤ 8
  rw [List.length_take]; omega
theorem eqMd_self (m : Mdl) : eqMd m m = true := by simp [eqMd]
end Go.H.S
namespace Go.H.S
open Go Go.Proofs Go.H
attribute [local irreducible] Tri FnSpec FnSpecM FnSpecX FnSpecJ
set_option maxRecDepth 100000
set_option linter.unusedSimpArgs false
set_option linter.unusedVariables false


theorem modelOk_trees {m : Mdl} (h : modelOk m = true) : ∀ t ∈ m.trees, treeOk t m.names.length = true := by
  simp only [modelOk, Bool.and_eq_true] at h
  have := h.2.2.2.2.2.2
  rw [List.all_eq_true] at this
  exact this
abbrev tup2 (x : Int × Int) : AV := .tup [(false, [.d (.int .i64 x.1)]), (false, [.d (.int .i64 x.2)])]
end Go.H.S
namespace Go.H.S
open Go Go.Proofs Go.H
set_option linter.unusedSimpArgs false
set_option linter.unusedVariables false


/-- The least and the greatest of these values, or none. -/
def IsSpan (S : Int → Prop) (a : Int × Int × Bool) : Prop :=
  (a.2.2 = true → S a.1 ∧ S a.2.1 ∧ ∀ v, S v → a.1 ≤ v ∧ v ≤ a.2.1) ∧ (a.2.2 = false → ∀ v, ¬ S v)
theorem IsSpan.congr {S S' : Int → Prop} {a : Int × Int × Bool} (h : IsSpan S a) (he : ∀ v, S v ↔ S' v) : IsSpan S' a := by
  have : S = S' := funext fun v => propext (he v)
  rw [← this]; exact h
theorem span_fold (t : List Nd) (node : Int) : ∀ (l : List Int) (S : Int → Prop) (a : Int × Int × Bool), IsSpan S a → IsSpan (fun v => S v ∨ ∃ y ∈ l, node ∈ wayL t y ∧ vAt t y = v) (l.foldl (spanStep t node) a)
  | [], S, a, h => h.congr fun v => by simp
  | y :: r, S, a, h => by
    rw [List.foldl_cons]
    have h1 : IsSpan (fun v => S v ∨ (node ∈ wayL t y ∧ vAt t y = v)) (spanStep t node a y) := by
      obtain ⟨lo, hi, ok⟩ := a
      unfold spanStep
      by_cases hy : node ∈ wayL t y
      · rw [if_pos hy]
        cases ok with
        | false =>
          refine ⟨fun _ => ⟨.inr ⟨hy, rfl⟩, .inr ⟨hy, rfl⟩, fun v hv => ?_⟩, fun q => by cases q⟩
          rcases hv with hv | ⟨_, rfl⟩
          · exact absurd hv (h.2 rfl v)
          · exact ⟨Int.le_refl _, Int.le_refl _⟩
        | true =>
          obtain ⟨q1, q2, q3⟩ := h.1 rfl
          have key : ∀ m : Int, (m = lo ∨ m = hi ∨ m = vAt t y) → S m ∨ (node ∈ wayL t y ∧ vAt t y = m) := fun m hm => by
            rcases hm with rfl | rfl | rfl
            · exact .inl q1
            · exact .inl q2
            · exact .inr ⟨hy, rfl⟩
          refine ⟨fun _ => ⟨key _ (by simp only [if_true]; omega), key _ (by simp only [if_true]; omega), fun v hv => ?_⟩, fun q => by cases q⟩
          simp only [if_true]
          rcases hv with hv | ⟨_, rfl⟩
          · have := q3 v hv; simp only at this; omega
          · omega
      · rw [if_neg hy]
        exact h.congr fun v => by simp [hy]
    refine (span_fold t node r _ _ h1).congr fun v => ?_
    simp only [List.mem_cons]
    constructor
    · rintro ((h | h) | ⟨z, hz, h⟩)
      · exact .inl h
      · exact .inr ⟨y, .inl rfl, h⟩
      · exact .inr ⟨z, .inr hz, h⟩
    · rintro (h | ⟨z, rfl | hz, h⟩)
      · exact .inl (.inl h)
      · exact .inl (.inr h)
      · exact .inr ⟨z, hz, h⟩
theorem spanL_spec (t : List Nd) (node : Int) : IsSpan (fun v => ∃ y ∈ leavesK t 0, node ∈ wayL t y ∧ vAt t y = v) (spanL t node) :=
  (span_fold t node (leavesK t 0) (fun _ => False) (0, 0, false) ⟨fun h => (by cases h), fun _ _ h => h⟩).congr fun v => by simp
theorem leaf_mem : ∀ (t : List Nd) (k : Nat) (y : Int), y ∈ leavesK t k ↔ ∃ (j : Nat) (n : Nd), y = (k : Int) + j ∧ t[j]? = some n ∧ n.f = -1
  | [], k, y => by simp [leavesK]
  | x :: r, k, y => by
    have ih := leaf_mem r (k + 1) y
    have hstep : (∃ (j : Nat) (n : Nd), y = (k : Int) + j ∧ (x :: r)[j]? = some n ∧ n.f = -1) ↔ (y = k ∧ x.f = -1) ∨ ∃ (j : Nat) (n : Nd), y = ((k + 1 : Nat) : Int) + j ∧ r[j]? = some n ∧ n.f = -1 := by
      constructor
      · rintro ⟨j, n, h1, h2, h3⟩
        cases j with
        | zero => simp at h2; subst h2; exact .inl ⟨by omega, h3⟩
        | succ j => rw [List.getElem?_cons_succ] at h2; exact .inr ⟨j, n, by omega, h2, h3⟩
      · rintro (⟨h1, h2⟩ | ⟨j, n, h1, h2, h3⟩)
        · exact ⟨0, x, by omega, by simp, h2⟩
        · exact ⟨j + 1, n, by omega, by rw [List.getElem?_cons_succ]; exact h2, h3⟩
    rw [hstep, ← ih]
    simp only [leavesK]
    split
    · rename_i hf; simp [hf]
    · rename_i hf; simp [hf]
/-- The values of the leaves below x. -/
def Under (t : List Nd) (x v : Int) : Prop := ∃ (j : Nat) (n : Nd), t[j]? = some n ∧ n.f = -1 ∧ Anc t x j ∧ n.v = v
theorem span_under {t : List Nd} {ft : Int} (h : shapeOk t ft = true) (hl : t.length ≤ 31) (x : Int) : IsSpan (Under t x) (spanL t x) := by
  refine (spanL_spec t x).congr fun v => ?_
  constructor
  · rintro ⟨y, hy, hw, rfl⟩
    obtain ⟨j, n, h1, h2, h3⟩ := (leaf_mem t 0 y).1 hy
    obtain rfl : y = j := by omega
    have hj : j < t.length := (List.getElem?_eq_some_iff.1 h2).1
    exact ⟨j, n, h2, h3, (way_anc h hl ⟨by omega, by omega⟩ x).1 hw, by simp [vAt, h2]⟩
  · rintro ⟨j, n, h2, h3, ha, rfl⟩
    have hj : j < t.length := (List.getElem?_eq_some_iff.1 h2).1
    exact ⟨j, (leaf_mem t 0 j).2 ⟨j, n, by omega, h2, h3⟩, (way_anc h hl ⟨by omega, by omega⟩ x).2 ha, by simp [vAt, h2]⟩
theorem under_kids {t : List Nd} {ft : Int} (h : shapeOk t ft = true) {j : Nat} {n : Nd} (hj : t[j]? = some n) (hf : n.f ≠ -1) (v : Int) : Under t j v ↔ Under t n.l v ∨ Under t n.r v := by
  constructor
  · rintro ⟨i, m, h1, h2, h3, h4⟩
    have hne : (i : Int) ≠ j := fun e => by
      have : i = j := by omega
      subst this
      rw [hj] at h1; cases h1
      exact hf h2
    rcases (anc_kid h hj hf hne).1 h3 with q | q
    · exact .inl ⟨i, m, h1, h2, q, h4⟩
    · exact .inr ⟨i, m, h1, h2, q, h4⟩
  · rintro (⟨i, m, h1, h2, h3, h4⟩ | ⟨i, m, h1, h2, h3, h4⟩) <;> refine ⟨i, m, h1, h2, (anc_kid h hj hf (fun e => ?_)).2 (by first | exact .inl h3 | exact .inr h3), h4⟩
    all_goals
      have : i = j := by omega
      subst this
      rw [hj] at h1; cases h1
      exact hf h2
theorem under_leaf {t : List Nd} {ft : Int} (h : shapeOk t ft = true) {j : Nat} {n : Nd} (hj : t[j]? = some n) (hf : n.f = -1) (v : Int) : Under t j v ↔ v = n.v := by
  constructor
  · rintro ⟨i, m, h1, h2, h3, h4⟩
    rcases anc_below h3 with e | ⟨c, q1, q2, _⟩
    · obtain rfl : j = i := by omega
      rw [hj] at h1; cases h1
      exact h4.symm
    · obtain ⟨j', n', r1, r2, r3, _, _⟩ := up_at h q1
      obtain rfl : j' = j := by omega
      rw [hj] at r2; cases r2
      exact absurd hf r3
  · rintro rfl
    exact ⟨j, n, hj, hf, .refl _, rfl⟩
theorem under_some {t : List Nd} {ft : Int} (h : shapeOk t ft = true) : ∀ (d j : Nat), j < t.length → t.length - j ≤ d → ∃ v, Under t j v
  | 0, j, h1, h2 => by omega
  | d + 1, j, h1, h2 => by
    obtain ⟨n, hj⟩ : ∃ n, t[j]? = some n := ⟨t[j], List.getElem?_eq_getElem h1⟩
    by_cases hf : n.f = -1
    · exact ⟨n.v, (under_leaf h hj hf _).2 rfl⟩
    · have hk := shape_kids h hj hf
      obtain ⟨v, hv⟩ := under_some h d n.l.toNat (by omega) (by omega)
      rw [show ((n.l.toNat : Nat) : Int) = n.l by omega] at hv
      exact ⟨v, (under_kids h hj hf v).2 (.inl hv)⟩
/-- The span of an inner node, from its children's. -/
theorem span_law {t : List Nd} {ft : Int} (h : shapeOk t ft = true) (hl : t.length ≤ 31) {j : Nat} {n : Nd} (hj : t[j]? = some n) (hf : n.f ≠ -1) :
    (spanL t j).1 = min (spanL t n.l).1 (spanL t n.r).1 ∧ (spanL t j).2.1 = max (spanL t n.l).2.1 (spanL t n.r).2.1 := by
  have hk := shape_kids h hj hf
  have hj' : j < t.length := (List.getElem?_eq_some_iff.1 hj).1
  have some' : ∀ x : Int, 0 ≤ x → x < t.length → (spanL t x).2.2 = true := fun x h0 h1 => by
    cases hb : (spanL t x).2.2 with
    | true => rfl
    | false =>
      obtain ⟨v, hv⟩ := under_some h (t.length - x.toNat) x.toNat (by omega) (Nat.le_refl _)
      rw [show ((x.toNat : Nat) : Int) = x by omega] at hv
      exact absurd hv ((span_under h hl x).2 hb v)
  obtain ⟨a1, a2, a3⟩ := (span_under h hl j).1 (some' j (by omega) (by omega))
  obtain ⟨b1, b2, b3⟩ := (span_under h hl n.l).1 (some' n.l (by omega) (by omega))
  obtain ⟨c1, c2, c3⟩ := (span_under h hl n.r).1 (some' n.r (by omega) (by omega))
  have e := under_kids h hj hf
  have k1 := a3 _ ((e _).2 (.inl b1))
  have k2 := a3 _ ((e _).2 (.inl b2))
  have k3 := a3 _ ((e _).2 (.inr c1))
  have k4 := a3 _ ((e _).2 (.inr c2))
  constructor
  · rcases (e _).1 a1 with q | q
    · have := b3 _ q; omega
    · have := c3 _ q; omega
  · rcases (e _).1 a2 with q | q
    · have := b3 _ q; omega
    · have := c3 _ q; omega
theorem span_leaf {t : List Nd} {ft : Int} (h : shapeOk t ft = true) (hl : t.length ≤ 31) {j : Nat} {n : Nd} (hj : t[j]? = some n) (hf : n.f = -1) : spanL t j = (n.v, n.v, true) := by
  have hs := span_under h hl j
  have e := under_leaf h hj hf
  cases hb : (spanL t j).2.2 with
  | false => exact absurd ((e _).2 rfl) (hs.2 hb n.v)
  | true =>
    obtain ⟨a1, a2, _⟩ := hs.1 hb
    have := (e _).1 a1
    have := (e _).1 a2
    refine Prod.ext ?_ (Prod.ext ?_ ?_) <;> simp_all
end Go.H.S
namespace Go.H.S
open Go Go.Proofs Go.H
set_option linter.unusedSimpArgs false
set_option linter.unusedVariables false


/-- Where a row ends, from x on: the leaf. g decides at each inner node: go left. -/
inductive Ends (t : List Nd) (g : Nd → Bool) : Int → Nat → Prop
  | leaf {j : Nat} {n : Nd} : t[j]? = some n → n.f = -1 → Ends t g j j
  | left {j k : Nat} {n : Nd} : t[j]? = some n → n.f ≠ -1 → g n = true → Ends t g n.l k → Ends t g j k
  | right {j k : Nat} {n : Nd} : t[j]? = some n → n.f ≠ -1 → g n = false → Ends t g n.r k → Ends t g j k
theorem ends_under {t : List Nd} {ft : Int} (h : shapeOk t ft = true) {g : Nd → Bool} {x : Int} {k : Nat} (he : Ends t g x k) : Under t x (vAt t k) := by
  induction he with
  | @leaf j n hj hf => exact (under_leaf h hj hf _).2 (by simp [vAt, hj])
  | left hj hf _ _ ih => exact (under_kids h hj hf _).2 (.inl ih)
  | right hj hf _ _ ih => exact (under_kids h hj hf _).2 (.inr ih)
/-- Two rows that part at nodes of the feature alone, the first to the left there, the second to the right. -/
theorem ends_rise {t : List Nd} {ft : Int} (h : shapeOk t ft = true) (hl : t.length ≤ 31) {f : Int} {g g' : Nd → Bool} (hg : ∀ n, n.f ≠ f → g n = g' n) (hg2 : ∀ n, n.f = f → g' n = true → g n = true)
    (hfol : ∀ (j : Nat) (n : Nd), t[j]? = some n → n.f ≠ -1 → n.f = f → (spanL t n.l).2.1 ≤ (spanL t n.r).1) {x : Int} {k : Nat} (he : Ends t g x k) : ∀ {k' : Nat}, Ends t g' x k' → vAt t k ≤ vAt t k' := by
  have sp : ∀ {y v : Int}, Under t y v → (spanL t y).1 ≤ v ∧ v ≤ (spanL t y).2.1 := fun {y v} hv => by
    cases hb : (spanL t y).2.2 with
    | true => exact ((span_under h hl y).1 hb).2.2 v hv
    | false => exact absurd hv ((span_under h hl y).2 hb v)
  induction he with
  | @leaf j n hj hf =>
    intro k' he'
    generalize hx : (j : Int) = x at he'
    cases he' with
    | @leaf _ n' hj' hf' =>
      obtain rfl : j = k' := by omega
      exact Int.le_refl _
    | @left j' _ n' hj' hf' _ _ =>
      obtain rfl : j = j' := by omega
      rw [hj] at hj'; cases hj'; exact absurd hf hf'
    | @right j' _ n' hj' hf' _ _ =>
      obtain rfl : j = j' := by omega
      rw [hj] at hj'; cases hj'; exact absurd hf hf'
  | @left j k n hj hf hgn he ih =>
    intro k' he'
    generalize hx : (j : Int) = x at he'
    cases he' with
    | @leaf _ n' hj' hf' =>
      obtain rfl : j = k' := by omega
      rw [hj] at hj'; cases hj'; exact absurd hf' hf
    | @left j' _ n' hj' hf' _ he2 =>
      obtain rfl : j = j' := by omega
      rw [hj] at hj'; cases hj'; exact ih he2
    | @right j' _ n' hj' hf' hg' he2 =>
      obtain rfl : j = j' := by omega
      rw [hj] at hj'; cases hj'
      have hff : n.f = f := by
        rcases Decidable.em (n.f = f) with q | q
        · exact q
        · rw [hg n q, hg'] at hgn; cases hgn
      have h1 := sp (ends_under h he)
      have h2 := sp (ends_under h he2)
      have h3 := hfol j n hj hf hff
      omega
  | @right j k n hj hf hgn he ih =>
    intro k' he'
    generalize hx : (j : Int) = x at he'
    cases he' with
    | @leaf _ n' hj' hf' =>
      obtain rfl : j = k' := by omega
      rw [hj] at hj'; cases hj'; exact absurd hf' hf
    | @left j' _ n' hj' hf' hg' he2 =>
      obtain rfl : j = j' := by omega
      rw [hj] at hj'; cases hj'
      rcases Decidable.em (n.f = f) with q | q
      · rw [hg2 n q hg'] at hgn; cases hgn
      · rw [hg n q, hg'] at hgn; cases hgn
    | @right j' _ n' hj' hf' _ he2 =>
      obtain rfl : j = j' := by omega
      rw [hj] at hj'; cases hj'; exact ih he2
/-- Two rows that part at nodes of the feature alone, the first to the left there, the second to the right: the sign turned. -/
theorem ends_fall {t : List Nd} {ft : Int} (h : shapeOk t ft = true) (hl : t.length ≤ 31) {f : Int} {g g' : Nd → Bool} (hg : ∀ n, n.f ≠ f → g n = g' n) (hg2 : ∀ n, n.f = f → g' n = true → g n = true)
    (hfol : ∀ (j : Nat) (n : Nd), t[j]? = some n → n.f ≠ -1 → n.f = f → (spanL t n.r).2.1 ≤ (spanL t n.l).1) {x : Int} {k : Nat} (he : Ends t g x k) : ∀ {k' : Nat}, Ends t g' x k' → vAt t k' ≤ vAt t k := by
  have sp : ∀ {y v : Int}, Under t y v → (spanL t y).1 ≤ v ∧ v ≤ (spanL t y).2.1 := fun {y v} hv => by
    cases hb : (spanL t y).2.2 with
    | true => exact ((span_under h hl y).1 hb).2.2 v hv
    | false => exact absurd hv ((span_under h hl y).2 hb v)
  induction he with
  | @leaf j n hj hf =>
    intro k' he'
    generalize hx : (j : Int) = x at he'
    cases he' with
    | @leaf _ n' hj' hf' =>
      obtain rfl : j = k' := by omega
      exact Int.le_refl _
    | @left j' _ n' hj' hf' _ _ =>
      obtain rfl : j = j' := by omega
      rw [hj] at hj'; cases hj'; exact absurd hf hf'
    | @right j' _ n' hj' hf' _ _ =>
      obtain rfl : j = j' := by omega
      rw [hj] at hj'; cases hj'; exact absurd hf hf'
  | @left j k n hj hf hgn he ih =>
    intro k' he'
    generalize hx : (j : Int) = x at he'
    cases he' with
    | @leaf _ n' hj' hf' =>
      obtain rfl : j = k' := by omega
      rw [hj] at hj'; cases hj'; exact absurd hf' hf
    | @left j' _ n' hj' hf' _ he2 =>
      obtain rfl : j = j' := by omega
      rw [hj] at hj'; cases hj'; exact ih he2
    | @right j' _ n' hj' hf' hg' he2 =>
      obtain rfl : j = j' := by omega
      rw [hj] at hj'; cases hj'
      have hff : n.f = f := by
        rcases Decidable.em (n.f = f) with q | q
        · exact q
        · rw [hg n q, hg'] at hgn; cases hgn
      have h1 := sp (ends_under h he)
      have h2 := sp (ends_under h he2)
      have h3 := hfol j n hj hf hff
      omega
  | @right j k n hj hf hgn he ih =>
    intro k' he'
    generalize hx : (j : Int) = x at he'
    cases he' with
    | @leaf _ n' hj' hf' =>
      obtain rfl : j = k' := by omega
      rw [hj] at hj'; cases hj'; exact absurd hf' hf
    | @left j' _ n' hj' hf' hg' he2 =>
      obtain rfl : j = j' := by omega
      rw [hj] at hj'; cases hj'
      rcases Decidable.em (n.f = f) with q | q
      · rw [hg2 n q hg'] at hgn; cases hgn
      · rw [hg n q, hg'] at hgn; cases hgn
    | @right j' _ n' hj' hf' _ he2 =>
      obtain rfl : j = j' := by omega
      rw [hj] at hj'; cases hj'; exact ih he2
end Go.H.S
namespace Go.H.S
open Go Go.Proofs Go.H
attribute [local irreducible] Tri FnSpec FnSpecM FnSpecX FnSpecJ FnSpecB
set_option maxRecDepth 100000
set_option linter.unusedSimpArgs false
set_option linter.unusedVariables false


def rowAt (row : List Int) (f : Int) : Int := (row[f.toNat]?).getD 0
def goL (row : List Int) (n : Nd) : Bool := iLe (rowAt row n.f) n.c
def routeL (t : List Nd) (row : List Int) : Nat → Int → Option (List Int)
  | 0, _ => none
  | m + 1, x => if 0 ≤ x then match t[x.toNat]? with
      | none => none
      | some n => if n.f = -1 then some [x] else if 0 ≤ n.f ∧ n.f ≤ (row.length : Int) - 1 then (routeL t row m (if goL row n = true then n.l else n.r)).map (x :: ·) else none
    else none

def resR : Option (List Int) → AV
  | none => .c (.nl 0)
  | some _ => .c (.ref 0 0 none)
def entsR : Option (List Int) → List (Nat × Ent)
  | none => []
  | some l => [(0, .arr t_int 1 0 .own (eL cI l))]
def numR : Option (List Int) → Nat
  | none => 0
  | some _ => 1
set_option maxHeartbeats 1000000 in
theorem impl_route_spec (t : List Nd) (row : List Int) (hl : t.length ≤ 1048576) (hr : row.length ≤ 1048576) : FnSpecX PR f_impl_route [aT t, aIs row] (Option (List Int)) (fun x => x = routeL t row (t.length + 1) 0) resR entsR numR := by
  refine FnSpecX.intro hT p_impl_route rfl (by kernel_rfl) n_impl_route rfl ?_
  (conv => whnf)
  refine tri_loop hT [1, 2, 5, 6, 12, 13] (α := Nat × Int × List Int) (fun x => { t := [(1, aIs row), (2, .c (.ptr 0 0)), (5, .c (.ref 1 0 none)), (6, ai x.2.1), (12, ai (t.length + 1 : Nat)), (13, ai x.1)], h := [(0, .box t_impl_Tree (cTr t)), (1, .arr t_int 1 0 .own (eL cI x.2.2))], n := 2, N := 57 })
    (fun x => x.1 ≤ t.length + 1 ∧ x.2.2.length ≤ x.1 ∧ (routeL t row (t.length + 1 - x.1) x.2.1).map (x.2.2 ++ ·) = routeL t row (t.length + 1) 0) (fun x => t.length + 1 - x.1) (0, 0, []) (by ((conv => whnf); simp only [St.mk.injEq, List.cons.injEq, Prod.mk.injEq, AV.c.injEq, AV.agg.injEq, AV.tup.injEq, CV.d.injEq, D.int.injEq, D.bool.injEq, D.str.injEq, D.sl.injEq, Ent.arr.injEq, Ent.box.injEq, true_and, and_true, and_self, nInt_eq, Int.natCast_zero, dLen_eL, sLen_eq, eL_nil]); exact wAdd64 (by omega) (by omega)) ⟨by simp, by simp, by simp⟩ ?_
  intro ⟨k, x, o⟩ ⟨hk, ho, he⟩
  dsimp only at hk ho he
  (conv => whnf)
  refine ifB_i (fun h1 => ?_) (fun h1 => ?_) <;> (conv => whnf) <;> simp only [nInt_eq, Int.natCast_zero, dLen_eL, sLen_eq, nOf_eq, Int.toNat_natCast, nAdd_eq, nSub_eq, dLen_nil, dLen_cons, iLt_t, iLt_f, iLe_t, iLe_f, iEq_t, iEq_f, sEq_t, sEq_f, bNot_t, bNot_f, bAnd_t, bEq_t, bEq_f, Bool.not_eq_true, Bool.not_eq_false, Bool.true_eq_false, Bool.false_eq_true] at h1
  · obtain ⟨m, hm⟩ : ∃ m, t.length + 1 - k = m + 1 := ⟨t.length - k, by omega⟩
    rw [hm, routeL] at he
    rw [show nInt (dLen (eL cN t)) = (t.length : Int) by simp]
    rw [show wSub .i64 (t.length : Int) 1 = (t.length : Int) - 1 from wSub64 (by omega) (by omega)]
    refine .inl ⟨_, _, _, impl_within_spec _ _ _, rfl, ?_⟩
    (conv => whnf)
    refine ifB_i (fun h2 => ?_) (fun h2 => ?_) <;> (conv => whnf)
    · simp at h2
      refine ⟨none, ?_, ?_⟩
      · rw [← he]
        split
        · rename_i h3
          have : t[x.toNat]? = none := List.getElem?_eq_none (by have := h2 h3; omega)
          simp [this]
        · rfl
      · (conv => whnf)
        rfl
    · simp at h2
      obtain ⟨j, rfl⟩ : ∃ j : Nat, x = j := ⟨x.toNat, by omega⟩
      obtain ⟨n, hn⟩ := get_lt (show j < t.length by omega)
      rw [if_pos h2.1, show (j : Int).toNat = j by simp, hn] at he
      dsimp only at he
      refine idx_at (by simp) hn ?_
      (conv => whnf)
      refine And.intro (by unfold Fits; simp; omega) ?_
      (conv => whnf)
      refine .inl ⟨_, _, _, impl_isLeaf_spec n, rfl, ?_⟩
      (conv => whnf)
      refine ifB_i (fun h3 => ?_) (fun h3 => ?_) <;> (conv => whnf) <;> simp only [nInt_eq, Int.natCast_zero, dLen_eL, sLen_eq, nOf_eq, Int.toNat_natCast, nAdd_eq, nSub_eq, dLen_nil, dLen_cons, iLt_t, iLt_f, iLe_t, iLe_f, iEq_t, iEq_f, sEq_t, sEq_f, bNot_t, bNot_f, bAnd_t, bEq_t, bEq_f, Bool.not_eq_true, Bool.not_eq_false, Bool.true_eq_false, Bool.false_eq_true] at h3
      · rw [if_pos h3] at he
        refine ⟨some (o ++ [(j : Int)]), he, ?_⟩
        ((conv => whnf); simp only [St.mk.injEq, List.cons.injEq, Prod.mk.injEq, AV.c.injEq, AV.agg.injEq, AV.tup.injEq, CV.d.injEq, D.int.injEq, D.bool.injEq, D.str.injEq, D.sl.injEq, Ent.arr.injEq, Ent.box.injEq, true_and, and_true, and_self, nInt_eq, Int.natCast_zero, dLen_eL, sLen_eq])
        refine ⟨rfl, ?_, rfl⟩
        rw [entsR, ← eL_app]
        rfl
      · rw [if_neg h3] at he
        refine .inl ⟨_, _, _, impl_within_spec _ _ _, rfl, ?_⟩
        (conv => whnf)
        have er : wSub .i64 (nInt (dLen (eL cI row))) 1 = (row.length : Int) - 1 := by rw [show nInt (dLen (eL cI row)) = (row.length : Int) by simp]; exact wSub64 (by omega) (by omega)
        refine ifB_i (fun h4 => ?_) (fun h4 => ?_) <;> (conv => whnf)
        · rw [er] at h4
          simp at h4
          refine ⟨none, ?_, ?_⟩
          · rw [if_neg (by omega)] at he
            exact he
          · (conv => whnf)
            rfl
        · rw [er] at h4
          simp at h4
          rw [if_pos (by omega)] at he
          obtain ⟨q, hq⟩ : ∃ q : Nat, n.f = q := ⟨n.f.toNat, by omega⟩
          obtain ⟨v, hv⟩ := get_lt (show q < row.length by omega)
          have hg : goL row n = iLe v n.c := by simp [goL, rowAt, hq, hv]
          refine tri_conf hT hmix (by kernel_rfl) ?_
          (conv => whnf)
          repeat' (first | (refine And.intro (fun q => ?_) (fun q => ?_) <;> cases q <;> (conv => whnf)) | fail)
          rw [hq]
          refine idx_at (by simp) hv ?_
          (conv => whnf)
          repeat' (first | (refine And.intro (fun q => ?_) (fun q => ?_) <;> cases q <;> (conv => whnf)) | fail)
          have hm2 : t.length + 1 - (k + 1) = m := by omega
          rw [hg] at he
          refine ifB_i (fun h5 => ?_) (fun h5 => ?_) <;> (conv => whnf)
          · refine ⟨(k + 1, n.l, o ++ [(j : Int)]), by dsimp only; omega, ⟨by dsimp only; omega, by simp; omega, ?_⟩, ?_⟩
            · dsimp only
              rw [hm2, ← he, if_pos h5]
              cases routeL t row m n.l <;> simp
            · ((conv => whnf); simp only [St.mk.injEq, List.cons.injEq, Prod.mk.injEq, AV.c.injEq, AV.agg.injEq, AV.tup.injEq, CV.d.injEq, D.int.injEq, D.bool.injEq, D.str.injEq, D.sl.injEq, Ent.arr.injEq, Ent.box.injEq, true_and, and_true, and_self, nInt_eq, Int.natCast_zero, dLen_eL, sLen_eq])
              refine ⟨wI (show k < t.length + 1 by omega) (by omega), ?_⟩
              rw [← eL_app]
              rfl
          · refine ⟨(k + 1, n.r, o ++ [(j : Int)]), by dsimp only; omega, ⟨by dsimp only; omega, by simp; omega, ?_⟩, ?_⟩
            · dsimp only
              rw [hm2, ← he, if_neg (by simp [h5])]
              cases routeL t row m n.r <;> simp
            · ((conv => whnf); simp only [St.mk.injEq, List.cons.injEq, Prod.mk.injEq, AV.c.injEq, AV.agg.injEq, AV.tup.injEq, CV.d.injEq, D.int.injEq, D.bool.injEq, D.str.injEq, D.sl.injEq, Ent.arr.injEq, Ent.box.injEq, true_and, and_true, and_self, nInt_eq, Int.natCast_zero, dLen_eL, sLen_eq])
              refine ⟨wI (show k < t.length + 1 by omega) (by omega), ?_⟩
              rw [← eL_app]
              rfl
  · have : t.length + 1 - k = 0 := by omega
    rw [this] at he
    refine ⟨none, he, ?_⟩
    (conv => whnf)
    rfl

def endL (t : List Nd) (row : List Int) : Int := match routeL t row (t.length + 1) 0 with
  | some l => l.getLast?.getD (-1)
  | none => -1
def evalL (t : List Nd) (row : List Int) : Int := if endL t row < 0 then 0 else match t[(endL t row).toNat]? with | some n => n.v | none => 0
theorem routeL_ends {t : List Nd} {row : List Int} : ∀ {m : Nat} {x : Int} {l : List Int}, routeL t row m x = some l → ∃ (k : Nat) (n : Nd), l.getLast? = some (k : Int) ∧ t[k]? = some n ∧ n.f = -1 ∧ Ends t (goL row) x k ∧ 0 < l.length ∧ l.length ≤ m
  | 0, x, l, h => by simp [routeL] at h
  | m + 1, x, l, h => by
    simp only [routeL] at h
    split at h
    · rename_i h0
      split at h
      · cases h
      · rename_i n hn
        obtain ⟨j, rfl⟩ : ∃ j : Nat, x = j := ⟨x.toNat, by omega⟩
        rw [show (j : Int).toNat = j by simp] at hn
        split at h
        · rename_i hf
          cases h
          exact ⟨j, n, by simp, hn, hf, .leaf hn hf, by simp, by simp⟩
        · rename_i hf
          split at h
          · simp only [Option.map_eq_some_iff] at h
            obtain ⟨r, hr, rfl⟩ := h
            obtain ⟨k, n', h1, h2, h3, h4, h5, h6⟩ := routeL_ends hr
            refine ⟨k, n', ?_, h2, h3, ?_, by simp, by simp; omega⟩
            · cases r with
              | nil => simp at h5
              | cons a b => simpa [List.getLast?_cons_cons] using h1
            · cases hg : goL row n with
              | true => rw [hg] at h4; exact .left hn hf hg h4
              | false => rw [hg] at h4; exact .right hn hf hg h4
          · cases h
    · cases h

theorem impl_RouteTo_spec (t : List Nd) (row : List Int) (hl : t.length ≤ 1048576) (hr : row.length ≤ 1048576) : FnSpec PR f_impl_RouteTo [aT t, aIs row] (ai (endL t row)) [] 0 := by
  refine FnSpec.intro hT p_impl_RouteTo rfl (by kernel_rfl) n_impl_RouteTo rfl ?_
  conv => whnf
  refine .inr ⟨_, _, _, _, _, impl_route_spec t row hl hr, fun x hx => ⟨by cases x <;> rfl, ?_⟩⟩
  cases x with
  | none =>
    (conv => whnf)
    rw [endL, ← hx]
  | some l =>
    (conv => whnf)
    obtain ⟨k, n, h1, h2, h3, h4, h5, h6⟩ := routeL_ends hx.symm
    have he : endL t row = (k : Int) := by rw [endL, ← hx]; simp [h1]
    rw [he]
    rw [show nInt (lenRE (eL cI l) none) = (l.length : Int) by simp [lenRE]]
    refine ifB_i (fun h7 => ?_) (fun h7 => ?_) <;> (conv => whnf) <;> simp only [nInt_eq, Int.natCast_zero, dLen_eL, sLen_eq, nOf_eq, Int.toNat_natCast, nAdd_eq, nSub_eq, dLen_nil, dLen_cons, iLt_t, iLt_f, iLe_t, iLe_f, iEq_t, iEq_f, sEq_t, sEq_f, bNot_t, bNot_f, bAnd_t, bEq_t, bEq_f, Bool.not_eq_true, Bool.not_eq_false, Bool.true_eq_false, Bool.false_eq_true] at h7
    · omega
    · rw [show nInt (lenRE (eL cI l) none) = (l.length : Int) by simp [lenRE]]
      rw [show wSub .i64 (l.length : Int) 1 = ((l.length - 1 : Nat) : Int) by rw [wSub64] <;> omega]
      refine ref_at rfl (by simp; omega) ?_
      (conv => whnf)
      refine ld_at (k := l.length - 1) (by simp) (by rw [← List.getLast?_eq_getElem?]; exact h1) ?_
      (conv => whnf)

theorem impl_EvalTree_spec (t : List Nd) (row : List Int) (hl : t.length ≤ 1048576) (hr : row.length ≤ 1048576) : FnSpec PR f_impl_EvalTree [aT t, aIs row] (ai (evalL t row)) [] 0 := by
  refine FnSpec.intro hT p_impl_EvalTree rfl (by kernel_rfl) n_impl_EvalTree rfl ?_
  conv => whnf
  refine .inl ⟨_, _, _, impl_RouteTo_spec t row hl hr, rfl, ?_⟩
  (conv => whnf)
  refine ifB_i (fun h1 => ?_) (fun h1 => ?_) <;> (conv => whnf) <;> simp only [nInt_eq, Int.natCast_zero, dLen_eL, sLen_eq, nOf_eq, Int.toNat_natCast, nAdd_eq, nSub_eq, dLen_nil, dLen_cons, iLt_t, iLt_f, iLe_t, iLe_f, iEq_t, iEq_f, sEq_t, sEq_f, bNot_t, bNot_f, bAnd_t, bEq_t, bEq_f, Bool.not_eq_true, Bool.not_eq_false, Bool.true_eq_false, Bool.false_eq_true] at h1
  · rw [evalL, if_pos h1]
  · have hz : ∃ (k : Nat) (n : Nd), endL t row = k ∧ t[k]? = some n := by
      unfold endL at h1 ⊢
      cases hx : routeL t row (t.length + 1) 0 with
      | none => rw [hx] at h1; simp at h1
      | some l =>
        obtain ⟨k, n, h2, h3, _⟩ := routeL_ends hx
        exact ⟨k, n, by simp [h2], h3⟩
    obtain ⟨k, n, hk, hn⟩ := hz
    rw [hk]
    refine idx_at (by simp) hn ?_
    (conv => whnf)
    rw [evalL, hk, if_neg (by omega), show (k : Int).toNat = k by simp, hn]
end Go.H.S
namespace Go.H.S
open Go Go.Proofs Go.H
set_option maxRecDepth 100000
set_option linter.unusedSimpArgs false
set_option linter.unusedVariables false


def binL (l : List Int) (x : Int) : Nat := l.countP fun c => iLt c x
theorem binL_lt : ∀ {l : List Int}, l.Pairwise (· ≤ ·) → ∀ {x : Int} {m : Nat} {v : Int}, l[m]? = some v → (v < x ↔ m < binL l x)
  | [], _, x, m, v, h => by simp at h
  | a :: r, hp, x, m, v, h => by
    rw [List.pairwise_cons] at hp
    have hz : ¬ a < x → binL r x = 0 := fun ha => by
      rw [binL, List.countP_eq_zero]
      intro b hb hlt
      have := hp.1 b hb
      simp [iLt] at hlt
      omega
    have e : binL (a :: r) x = binL r x + (if iLt a x = true then 1 else 0) := by simp [binL, List.countP_cons]
    by_cases ha : a < x
    · rw [e, if_pos (by simp [iLt, ha])]
      cases m with
      | zero =>
        simp at h
        subst h
        omega
      | succ m =>
        have := binL_lt hp.2 (x := x) (show r[m]? = some v by simpa using h)
        omega
    · rw [e, hz ha, if_neg (by simp [iLt, ha])]
      cases m with
      | zero =>
        simp at h
        subst h
        omega
      | succ m =>
        have := binL_lt hp.2 (x := x) (show r[m]? = some v by simpa using h)
        rw [hz ha] at this
        omega
end Go.H.S
namespace Go.H.S
open Go Go.Proofs Go.H
attribute [local irreducible] Tri FnSpec FnSpecM FnSpecX FnSpecJ FnSpecB
set_option maxRecDepth 100000
set_option linter.unusedSimpArgs false
set_option linter.unusedVariables false


theorem laws_big_spec (code : List Int) : FnSpec PR f_laws_big [.c (.d (.sl 1 (eL cU code)))] (ab (iLt 1048576 code.length)) [] 0 := by
  refine FnSpec.intro hT p_laws_big rfl (by kernel_rfl) n_laws_big rfl ?_
  conv => whnf
  rw [show nInt (dLen (eL cU code)) = (code.length : Int) by simp]

abbrev tupT1 (x : List Nd × Int) : AV := .tup [(true, [.d (.sl 5 (eL cN x.1))]), (false, [.d (.int .i64 x.2)])]
abbrev tupT2 (x : List Nd × Int × Int) : AV := .tup [(true, [.d (.sl 5 (eL cN x.1))]), (false, [.d (.int .i64 x.2.1)]), (false, [.d (.int .i64 x.2.2)])]
end Go.H.S
namespace Go.H.S
open Go Go.Proofs Go.H
attribute [local irreducible] Tri FnSpec FnSpecM FnSpecX FnSpecJ FnSpecB
set_option maxRecDepth 100000
set_option linter.unusedSimpArgs false
set_option linter.unusedVariables false


theorem laws_sameInts_self (l : List Int) (hl : l.length ≤ 1048576) : FnSpec PR f_laws_sameInts [aIs l, aIs l] (ab true) [] 0 := by
  refine FnSpec.intro hT p_laws_sameInts rfl (by kernel_rfl) n_laws_sameInts rfl ?_
  conv => whnf
  refine ifB_i (fun h1 => ?_) (fun h1 => ?_) <;> (conv => whnf)
  · simp at h1
  refine tri_loop hT [0, 1, 5] (α := Nat) (fun x => { t := [(0, aIs l), (1, aIs l), (5, ai x)], h := [], n := 0, N := 26 })
    (fun x => x ≤ l.length) (fun x => l.length - x) 0 (by ((conv => whnf); simp only [St.mk.injEq, List.cons.injEq, Prod.mk.injEq, AV.c.injEq, AV.agg.injEq, AV.tup.injEq, CV.d.injEq, D.int.injEq, D.bool.injEq, D.str.injEq, D.sl.injEq, Ent.arr.injEq, Ent.box.injEq, true_and, and_true, and_self, nInt_eq, Int.natCast_zero, dLen_eL, sLen_eq])) (Nat.zero_le _) ?_
  intro i hi
  (conv => whnf)
  refine ifB_i (fun h1 => ?_) (fun h1 => ?_) <;> (conv => whnf) <;> simp only [nInt_eq, Int.natCast_zero, dLen_eL, sLen_eq, nOf_eq, Int.toNat_natCast, nAdd_eq, nSub_eq, dLen_nil, dLen_cons, iLt_t, iLt_f, iLe_t, iLe_f, iEq_t, iEq_f, sEq_t, sEq_f, bNot_t, bNot_f, bAnd_t, bEq_t, bEq_f, Bool.not_eq_true, Bool.not_eq_false, Bool.true_eq_false, Bool.false_eq_true] at h1
  · obtain ⟨y, hy⟩ := get_lt (show i < l.length by omega)
    refine tri_conf hT hmix (by kernel_rfl) ?_
    (conv => whnf)
    repeat' first
      | (refine And.intro (fun q => ?_) (fun q => ?_) <;> cases q <;> (conv => whnf))
      | (refine idx_at (by simp) hy ?_; (conv => whnf))
      | fail
    refine ifB_i (fun h2 => ?_) (fun h2 => ?_) <;> (conv => whnf) <;> simp only [nInt_eq, Int.natCast_zero, dLen_eL, sLen_eq, nOf_eq, Int.toNat_natCast, nAdd_eq, nSub_eq, dLen_nil, dLen_cons, iLt_t, iLt_f, iLe_t, iLe_f, iEq_t, iEq_f, sEq_t, sEq_f, bNot_t, bNot_f, bAnd_t, bEq_t, bEq_f, Bool.not_eq_true, Bool.not_eq_false, Bool.true_eq_false, Bool.false_eq_true] at h2
    · exact absurd rfl h2
    · refine ⟨i + 1, by omega, by omega, ?_⟩
      ((conv => whnf); simp only [St.mk.injEq, List.cons.injEq, Prod.mk.injEq, AV.c.injEq, AV.agg.injEq, AV.tup.injEq, CV.d.injEq, D.int.injEq, D.bool.injEq, D.str.injEq, D.sl.injEq, Ent.arr.injEq, Ent.box.injEq, true_and, and_true, and_self, nInt_eq, Int.natCast_zero, dLen_eL, sLen_eq])
      exact wI (show i < l.length by omega) (by omega)
end Go.H.S
namespace Go.H.S
open Go Go.Proofs Go.H
attribute [local irreducible] Tri FnSpec FnSpecM FnSpecX FnSpecJ FnSpecB
set_option maxRecDepth 100000
set_option linter.unusedSimpArgs false
set_option linter.unusedVariables false
end Go.H.S
namespace Go.H.S
open Go Go.Proofs Go.H
attribute [local irreducible] Tri FnSpec FnSpecM FnSpecX FnSpecJ FnSpecB
set_option maxRecDepth 100000
set_option linter.unusedSimpArgs false
set_option linter.unusedVariables false


set_option maxHeartbeats 1000000 in
theorem spec_l18Way_spec (t : List Nd) (row : List Int) (hl : t.length ≤ 1048576) (hr : row.length ≤ 1048576) : FnSpec PR f_spec_l18Way [aT t, aIs row] (.c (.ref 0 0 none)) [(0, .arr t_int 1 0 .own (eL cI ((routeL t row (t.length + 1) 0).getD [])))] 1 := by
  refine FnSpec.intro hT p_spec_l18Way rfl (by kernel_rfl) n_spec_l18Way rfl ?_
  conv => whnf
  refine tri_loop hT [1, 2, 5, 6, 7] (α := Nat × Int × List Int) (fun x => { t := [(1, aIs row), (2, .c (.ptr 0 0)), (5, .c (.ref 1 0 none)), (6, ai x.2.1), (7, ai x.1)], h := [(0, .box t_impl_Tree (cTr t)), (1, .arr t_int 1 0 .own (eL cI x.2.2))], n := 2, N := 59 })
    (fun x => x.1 ≤ t.length + 1 ∧ x.2.2.length ≤ x.1 ∧ (routeL t row (t.length + 1 - x.1) x.2.1).map (x.2.2 ++ ·) = routeL t row (t.length + 1) 0) (fun x => t.length + 1 - x.1) (0, 0, []) (by ((conv => whnf); simp only [St.mk.injEq, List.cons.injEq, Prod.mk.injEq, AV.c.injEq, AV.agg.injEq, AV.tup.injEq, CV.d.injEq, D.int.injEq, D.bool.injEq, D.str.injEq, D.sl.injEq, Ent.arr.injEq, Ent.box.injEq, true_and, and_true, and_self, nInt_eq, Int.natCast_zero, dLen_eL, sLen_eq, eL_nil])) ⟨by simp, by simp, by simp⟩ ?_
  intro ⟨k, x, o⟩ ⟨hk, ho, he⟩
  dsimp only at hk ho he
  (conv => whnf)
  rw [show nInt (dLen (eL cN t)) = (t.length : Int) by simp]
  refine ifB_i (fun h1 => ?_) (fun h1 => ?_) <;> (conv => whnf) <;> simp only [nInt_eq, Int.natCast_zero, dLen_eL, sLen_eq, nOf_eq, Int.toNat_natCast, nAdd_eq, nSub_eq, dLen_nil, dLen_cons, iLt_t, iLt_f, iLe_t, iLe_f, iEq_t, iEq_f, sEq_t, sEq_f, bNot_t, bNot_f, bAnd_t, bEq_t, bEq_f, Bool.not_eq_true, Bool.not_eq_false, Bool.true_eq_false, Bool.false_eq_true] at h1
  · obtain ⟨m, hm⟩ : ∃ m, t.length + 1 - k = m + 1 := ⟨t.length - k, by omega⟩
    rw [hm, routeL] at he
    rw [show nInt (dLen (eL cN t)) = (t.length : Int) by simp]
    rw [show wSub .i64 (t.length : Int) 1 = (t.length : Int) - 1 from wSub64 (by omega) (by omega)]
    refine .inl ⟨_, _, _, spec_l1In_spec _ _ _, rfl, ?_⟩
    (conv => whnf)
    refine ifB_i (fun h2 => ?_) (fun h2 => ?_) <;> (conv => whnf)
    · simp at h2
      have hz : routeL t row (t.length + 1) 0 = none := by
        rw [← he]
        split
        · rename_i h3
          have : t[x.toNat]? = none := List.getElem?_eq_none (by have := h2 h3; omega)
          simp [this]
        · rfl
      rw [hz]
      simp [eL_nil]
    · simp at h2
      obtain ⟨j, rfl⟩ : ∃ j : Nat, x = j := ⟨x.toNat, by omega⟩
      obtain ⟨n, hn⟩ := get_lt (show j < t.length by omega)
      rw [if_pos h2.1, show (j : Int).toNat = j by simp, hn] at he
      dsimp only at he
      refine idx_at (by simp) hn ?_
      (conv => whnf)
      refine And.intro (by unfold Fits; simp; omega) ?_
      (conv => whnf)
      refine .inl ⟨_, _, _, spec_l17Inner_spec n, rfl, ?_⟩
      (conv => whnf)
      refine ifB_i (fun h3 => ?_) (fun h3 => ?_) <;> (conv => whnf) <;> simp [bNot, iEq] at h3
      · rw [if_pos h3] at he
        simp only [Option.map_some] at he
        rw [← he, Option.getD_some, ← eL_app]
        rfl
      · rw [if_neg h3] at he
        refine .inl ⟨_, _, _, spec_l1In_spec _ _ _, rfl, ?_⟩
        (conv => whnf)
        have er : wSub .i64 (nInt (dLen (eL cI row))) 1 = (row.length : Int) - 1 := by rw [show nInt (dLen (eL cI row)) = (row.length : Int) by simp]; exact wSub64 (by omega) (by omega)
        refine ifB_i (fun h4 => ?_) (fun h4 => ?_) <;> (conv => whnf)
        · rw [er] at h4
          simp at h4
          rw [if_neg (by omega)] at he
          simp only [Option.map_none] at he
          rw [← he]
          simp [eL_nil]
        · rw [er] at h4
          simp at h4
          rw [if_pos (by omega)] at he
          obtain ⟨q, hq⟩ : ∃ q : Nat, n.f = q := ⟨n.f.toNat, by omega⟩
          obtain ⟨v, hv⟩ := get_lt (show q < row.length by omega)
          have hg : goL row n = iLe v n.c := by simp [goL, rowAt, hq, hv]
          refine tri_conf hT hmix (by kernel_rfl) ?_
          (conv => whnf)
          repeat' (first | (refine And.intro (fun q => ?_) (fun q => ?_) <;> cases q <;> (conv => whnf)) | fail)
          rw [hq]
          refine idx_at (by simp) hv ?_
          (conv => whnf)
          repeat' (first | (refine And.intro (fun q => ?_) (fun q => ?_) <;> cases q <;> (conv => whnf)) | fail)
          have hm2 : t.length + 1 - (k + 1) = m := by omega
          rw [hg] at he
          refine ifB_i (fun h5 => ?_) (fun h5 => ?_) <;> (conv => whnf)
          · refine ⟨(k + 1, n.l, o ++ [(j : Int)]), by dsimp only; omega, ⟨by dsimp only; omega, by simp; omega, ?_⟩, ?_⟩
            · dsimp only
              rw [hm2, ← he, if_pos h5]
              cases routeL t row m n.l <;> simp
            · ((conv => whnf); simp only [St.mk.injEq, List.cons.injEq, Prod.mk.injEq, AV.c.injEq, AV.agg.injEq, AV.tup.injEq, CV.d.injEq, D.int.injEq, D.bool.injEq, D.str.injEq, D.sl.injEq, Ent.arr.injEq, Ent.box.injEq, true_and, and_true, and_self, nInt_eq, Int.natCast_zero, dLen_eL, sLen_eq])
              refine ⟨wI (show k < t.length + 1 by omega) (by omega), ?_⟩
              rw [← eL_app]
              rfl
          · refine ⟨(k + 1, n.r, o ++ [(j : Int)]), by dsimp only; omega, ⟨by dsimp only; omega, by simp; omega, ?_⟩, ?_⟩
            · dsimp only
              rw [hm2, ← he, if_neg (by simp [h5])]
              cases routeL t row m n.r <;> simp
            · ((conv => whnf); simp only [St.mk.injEq, List.cons.injEq, Prod.mk.injEq, AV.c.injEq, AV.agg.injEq, AV.tup.injEq, CV.d.injEq, D.int.injEq, D.bool.injEq, D.str.injEq, D.sl.injEq, Ent.arr.injEq, Ent.box.injEq, true_and, and_true, and_self, nInt_eq, Int.natCast_zero, dLen_eL, sLen_eq])
              refine ⟨wI (show k < t.length + 1 by omega) (by omega), ?_⟩
              rw [← eL_app]
              rfl
  · have : t.length + 1 - k = 0 := by omega
    rw [this, routeL] at he
    simp only [Option.map_none] at he
    rw [← he]
    simp [eL_nil]

theorem route_end (t : List Nd) (row : List Int) : ((routeL t row (t.length + 1) 0).getD [] = [] ∧ endL t row = -1) ∨
    ((routeL t row (t.length + 1) 0).getD []).getLast? = some (endL t row) ∧ 0 < ((routeL t row (t.length + 1) 0).getD []).length ∧ ((routeL t row (t.length + 1) 0).getD []).length ≤ t.length + 1 := by
  cases hx : routeL t row (t.length + 1) 0 with
  | none => exact .inl ⟨rfl, by rw [endL, hx]⟩
  | some l =>
    obtain ⟨k, n, h1, h2, h3, h4, h5, h6⟩ := routeL_ends hx
    exact .inr ⟨by rw [endL, hx]; simp [h1], h5, h6⟩
theorem spec_RouteTo_spec (t : List Nd) (row : List Int) (hl : t.length ≤ 1048576) (hr : row.length ≤ 1048576) : FnSpec PR f_spec_RouteTo [aT t, aIs row] (ai (endL t row)) [] 0 := by
  have hw := spec_l18Way_spec t row hl hr
  have he := route_end t row
  generalize endL t row = e at *
  generalize (routeL t row (t.length + 1) 0).getD [] = l at *
  refine FnSpec.intro hT p_spec_RouteTo rfl (by kernel_rfl) n_spec_RouteTo rfl ?_
  conv => whnf
  refine .inl ⟨_, _, _, hw, rfl, ?_⟩
  (conv => whnf)
  rw [show nInt (lenRE (eL cI l) none) = (l.length : Int) by simp [lenRE]]
  refine ifB_i (fun h7 => ?_) (fun h7 => ?_) <;> (conv => whnf) <;> simp only [nInt_eq, Int.natCast_zero, dLen_eL, sLen_eq, nOf_eq, Int.toNat_natCast, nAdd_eq, nSub_eq, dLen_nil, dLen_cons, iLt_t, iLt_f, iLe_t, iLe_f, iEq_t, iEq_f, sEq_t, sEq_f, bNot_t, bNot_f, bAnd_t, bEq_t, bEq_f, Bool.not_eq_true, Bool.not_eq_false, Bool.true_eq_false, Bool.false_eq_true] at h7
  · rcases he with ⟨_, h1⟩ | ⟨_, h1, _⟩
    · rw [h1]
    · omega
  · rcases he with ⟨h1, _⟩ | ⟨h1, h2, h3⟩
    · subst h1
      exact absurd rfl h7
    · rw [show nInt (lenRE (eL cI l) none) = (l.length : Int) by simp [lenRE]]
      rw [show wSub .i64 (l.length : Int) 1 = ((l.length - 1 : Nat) : Int) by rw [wSub64] <;> omega]
      refine ref_at rfl (by simp; omega) ?_
      (conv => whnf)
      refine ld_at (k := l.length - 1) (by simp) (by rw [← List.getLast?_eq_getElem?]; exact h1) ?_
      (conv => whnf)

theorem spec_EvalTree_spec (t : List Nd) (row : List Int) (hl : t.length ≤ 1048576) (hr : row.length ≤ 1048576) : FnSpec PR f_spec_EvalTree [aT t, aIs row] (ai (evalL t row)) [] 0 := by
  refine FnSpec.intro hT p_spec_EvalTree rfl (by kernel_rfl) n_spec_EvalTree rfl ?_
  conv => whnf
  refine .inl ⟨_, _, _, spec_RouteTo_spec t row hl hr, rfl, ?_⟩
  (conv => whnf)
  refine ifB_i (fun h1 => ?_) (fun h1 => ?_) <;> (conv => whnf) <;> simp only [nInt_eq, Int.natCast_zero, dLen_eL, sLen_eq, nOf_eq, Int.toNat_natCast, nAdd_eq, nSub_eq, dLen_nil, dLen_cons, iLt_t, iLt_f, iLe_t, iLe_f, iEq_t, iEq_f, sEq_t, sEq_f, bNot_t, bNot_f, bAnd_t, bEq_t, bEq_f, Bool.not_eq_true, Bool.not_eq_false, Bool.true_eq_false, Bool.false_eq_true] at h1
  · rw [evalL, if_pos h1]
  · have hz : ∃ (k : Nat) (n : Nd), endL t row = k ∧ t[k]? = some n := by
      unfold endL at h1 ⊢
      cases hx : routeL t row (t.length + 1) 0 with
      | none => rw [hx] at h1; simp at h1
      | some l =>
        obtain ⟨k, n, h2, h3, _⟩ := routeL_ends hx
        exact ⟨k, n, by simp [h2], h3⟩
    obtain ⟨k, n, hk, hn⟩ := hz
    rw [hk]
    refine idx_at (by simp) hn ?_
    (conv => whnf)
    rw [evalL, hk, if_neg (by omega), show (k : Int).toNat = k by simp, hn]
end Go.H.S
namespace Go.H.S
open Go Go.Proofs Go.H
attribute [local irreducible] Tri FnSpec FnSpecM FnSpecX FnSpecJ
set_option maxRecDepth 100000
set_option linter.unusedSimpArgs false
set_option linter.unusedVariables false


def predL (row : List Int) : List (List Nd) → Int → Int
  | [], a => a
  | t :: r, a => predL row r (wAdd .i64 a (evalL t row))
def predictM (m : Mdl) (row : List Int) : Int × Bool := if modelOk m = true ∧ row.length = m.names.length then (predL row m.trees m.base, true) else (0, false)
abbrev tupIB (x : Int × Bool) : AV := .tup [(false, [.d (.int .i64 x.1)]), (false, [.d (.bool x.2)])]
/-- Sizes of a model. -/
structure szM (m : Mdl) : Prop where
  names : m.names.length ≤ 1048576
  texts : ∀ s ∈ m.names, s.size ≤ 9223372036854775807
  signs : m.signs.length ≤ 1048576
  trees : m.trees.length ≤ 1048576
  nodes : ∀ t ∈ m.trees, t.length ≤ 1048576
theorem szM.sm {m : Mdl} (h : szM m) : smM m := ⟨by have := h.names; omega, by have := h.signs; omega, by have := h.trees; omega, fun t ht => by have := h.nodes t ht; omega⟩

theorem impl_Predict_spec (m : Mdl) (row : List Int) (hs : szM m) (hr : row.length ≤ 1048576) : FnSpec PR f_impl_Predict [aM m, aIs row] (tupIB (predictM m row)) [] 0 := by
  have eN : nInt (dLen (eL cS m.names)) = (m.names.length : Int) := by simp
  have eR : nInt (dLen (eL cI row)) = (row.length : Int) := by simp
  refine FnSpec.intro hT p_impl_Predict rfl (by kernel_rfl) n_impl_Predict rfl ?_
  conv => whnf
  refine .inl ⟨_, _, _, impl_ModelOk_spec m hs.names hs.texts hs.signs hs.trees hs.nodes, rfl, ?_⟩
  cases hmo : modelOk m <;> (conv => whnf)
  · rw [predictM, if_neg (by simp [hmo])]
  rw [eN, eR]
  refine ifB_i (fun h => ?_) (fun h => ?_) <;> (conv => whnf) <;> simp only [nInt_eq, Int.natCast_zero, dLen_eL, sLen_eq, nOf_eq, Int.toNat_natCast, nAdd_eq, nSub_eq, dLen_nil, dLen_cons, iLt_t, iLt_f, iLe_t, iLe_f, iEq_t, iEq_f, sEq_t, sEq_f, bNot_t, bNot_f, bAnd_t, bEq_t, bEq_f, Bool.not_eq_true, Bool.not_eq_false, Bool.true_eq_false, Bool.false_eq_true] at h
  · rw [predictM, if_neg (by omega)]
  have hlen : row.length = m.names.length := by omega
  have hp : predictM m row = (predL row m.trees m.base, true) := by rw [predictM, if_pos ⟨hmo, hlen⟩]
  rw [hp]
  refine tri_loop hT [1, 6, 23, 24, 25] (α := Nat × Int) (fun x => { t := [(1, aIs row), (6, ai x.2), (23, aTs m.trees), (24, ai m.trees.length), (25, ai x.1)], h := [], n := 0, N := 36 })
    (fun x => x.1 ≤ m.trees.length ∧ predL row (m.trees.drop x.1) x.2 = predL row m.trees m.base) (fun x => m.trees.length - x.1) (0, m.base) (by ((conv => whnf); simp only [St.mk.injEq, List.cons.injEq, Prod.mk.injEq, AV.c.injEq, AV.agg.injEq, AV.tup.injEq, CV.d.injEq, D.int.injEq, D.bool.injEq, D.str.injEq, D.sl.injEq, Ent.arr.injEq, Ent.box.injEq, true_and, and_true, and_self, nInt_eq, Int.natCast_zero, dLen_eL, sLen_eq])) ⟨Nat.zero_le _, rfl⟩ ?_
  intro ⟨k, a⟩ ⟨hk, ha⟩
  dsimp only at hk ha
  (conv => whnf)
  refine ifB_i (fun h1 => ?_) (fun h1 => ?_) <;> (conv => whnf) <;> simp at h1
  · obtain ⟨t, hx⟩ := get_lt h1
    rw [drop_at hx, predL] at ha
    refine idx_at (by simp) hx ?_
    (conv => whnf)
    refine .inl ⟨_, _, _, impl_EvalTree_spec t row (hs.nodes t (List.mem_of_getElem? hx)) hr, rfl, ?_⟩
    (conv => whnf)
    refine ⟨(k + 1, wAdd .i64 a (evalL t row)), by dsimp only; omega, ⟨h1, ha⟩, ?_⟩
    ((conv => whnf); simp only [St.mk.injEq, List.cons.injEq, Prod.mk.injEq, AV.c.injEq, AV.agg.injEq, AV.tup.injEq, CV.d.injEq, D.int.injEq, D.bool.injEq, D.str.injEq, D.sl.injEq, Ent.arr.injEq, Ent.box.injEq, true_and, and_true, and_self, nInt_eq, Int.natCast_zero, dLen_eL, sLen_eq, wI h1 (by have := hs.trees; omega)])
  · obtain rfl : k = m.trees.length := by omega
    simp only [List.drop_length, predL] at ha
    rw [← ha]

theorem spec_Predict_spec (m : Mdl) (row : List Int) (hs : szM m) (hr : row.length ≤ 1048576) : FnSpec PR f_spec_Predict [aM m, aIs row] (tupIB (predictM m row)) [] 0 := by
  have eN : nInt (dLen (eL cS m.names)) = (m.names.length : Int) := by simp
  have eR : nInt (dLen (eL cI row)) = (row.length : Int) := by simp
  refine FnSpec.intro hT p_spec_Predict rfl (by kernel_rfl) n_spec_Predict rfl ?_
  conv => whnf
  refine .inl ⟨_, _, _, spec_ModelOk_spec m hs.names hs.texts hs.signs hs.trees hs.nodes, rfl, ?_⟩
  cases hmo : modelOk m <;> (conv => whnf)
  · rw [predictM, if_neg (by simp [hmo])]
  rw [eN, eR]
  refine ifB_i (fun h => ?_) (fun h => ?_) <;> (conv => whnf) <;> simp only [nInt_eq, Int.natCast_zero, dLen_eL, sLen_eq, nOf_eq, Int.toNat_natCast, nAdd_eq, nSub_eq, dLen_nil, dLen_cons, iLt_t, iLt_f, iLe_t, iLe_f, iEq_t, iEq_f, sEq_t, sEq_f, bNot_t, bNot_f, bAnd_t, bEq_t, bEq_f, Bool.not_eq_true, Bool.not_eq_false, Bool.true_eq_false, Bool.false_eq_true] at h
  · rw [predictM, if_neg (by omega)]
  have hlen : row.length = m.names.length := by omega
  have hp : predictM m row = (predL row m.trees m.base, true) := by rw [predictM, if_pos ⟨hmo, hlen⟩]
  rw [hp]
  refine tri_loop hT [1, 2, 6, 7] (α := Nat × Int) (fun x => { t := [(1, aIs row), (2, .c (.ptr 0 0)), (6, ai x.2), (7, ai x.1)], h := [(0, .box t_impl_Model (cM m))], n := 1, N := 38 })
    (fun x => x.1 ≤ m.trees.length ∧ predL row (m.trees.drop x.1) x.2 = predL row m.trees m.base) (fun x => m.trees.length - x.1) (0, m.base) (by ((conv => whnf); simp only [St.mk.injEq, List.cons.injEq, Prod.mk.injEq, AV.c.injEq, AV.agg.injEq, AV.tup.injEq, CV.d.injEq, D.int.injEq, D.bool.injEq, D.str.injEq, D.sl.injEq, Ent.arr.injEq, Ent.box.injEq, true_and, and_true, and_self, nInt_eq, Int.natCast_zero, dLen_eL, sLen_eq])) ⟨Nat.zero_le _, rfl⟩ ?_
  intro ⟨k, a⟩ ⟨hk, ha⟩
  dsimp only at hk ha
  (conv => whnf)
  refine ifB_i (fun h1 => ?_) (fun h1 => ?_) <;> (conv => whnf) <;> simp at h1
  · obtain ⟨t, hx⟩ := get_lt h1
    rw [drop_at hx, predL] at ha
    refine idx_at (by simp) hx ?_
    (conv => whnf)
    refine .inl ⟨_, _, _, spec_EvalTree_spec t row (hs.nodes t (List.mem_of_getElem? hx)) hr, rfl, ?_⟩
    (conv => whnf)
    refine ⟨(k + 1, wAdd .i64 a (evalL t row)), by dsimp only; omega, ⟨h1, ha⟩, ?_⟩
    ((conv => whnf); simp only [St.mk.injEq, List.cons.injEq, Prod.mk.injEq, AV.c.injEq, AV.agg.injEq, AV.tup.injEq, CV.d.injEq, D.int.injEq, D.bool.injEq, D.str.injEq, D.sl.injEq, Ent.arr.injEq, Ent.box.injEq, true_and, and_true, and_self, nInt_eq, Int.natCast_zero, dLen_eL, sLen_eq, wI h1 (by have := hs.trees; omega)])
  · obtain rfl : k = m.trees.length := by omega
    simp only [List.drop_length, predL] at ha
    rw [← ha]

def stageV (m : Mdl) (row : List Int) (k : Nat) : Int × Bool := predictM (firstM m k) row
def stagesL (m : Mdl) (row : List Int) : List Int := if ∀ k, k ≤ m.trees.length → (stageV m row k).2 = true then (List.range (m.trees.length + 1)).map fun k => (stageV m row k).1 else []
theorem firstM_sz {m : Mdl} (h : szM m) (k : Int) : szM (firstM m k) := ⟨h.names, h.texts, h.signs, by have := h.trees; simp [firstM]; omega, fun t ht => h.nodes t (List.mem_of_mem_take ht)⟩
theorem dPart_eL {α : Type} (f : α → List D) (xs : List α) (n : Nat) : dPart (eL f xs) 0 n = eL f (xs.take n) := by
  simp only [dPart_eq, eL, List.drop_zero, List.map_take]
theorem stagesL_len (m : Mdl) (row : List Int) : (stagesL m row).length ≤ m.trees.length + 1 := by
  unfold stagesL
  split <;> simp

theorem impl_Stages_spec (m : Mdl) (row : List Int) (hs : szM m) (hr : row.length ≤ 1048576) : FnSpec PR f_impl_Stages [aM m, aIs row] (.c (.ref 0 0 none)) [(0, .arr t_int 1 0 .own (eL cI (stagesL m row)))] 1 := by
  have hlt := hs.trees
  have e1 : wAdd .i64 (nInt (dLen (eL cT m.trees))) 1 = ((m.trees.length + 1 : Nat) : Int) := by rw [show nInt (dLen (eL cT m.trees)) = (m.trees.length : Int) by simp, wAdd64] <;> omega
  refine FnSpec.intro hT p_impl_Stages rfl (by kernel_rfl) n_impl_Stages rfl ?_
  conv => whnf
  rw [e1]
  refine tri_loop hT [1, 2, 5, 13, 14] (α := Nat × List Int) (fun x => { t := [(1, aIs row), (2, .c (.ptr 0 0)), (5, .c (.ref 1 0 none)), (13, ai (m.trees.length + 1 : Nat)), (14, ai x.1)], h := [(0, .box t_impl_Model (cM m)), (1, .arr t_int 1 0 .own (eL cI x.2))], n := 2, N := 33 })
    (fun x => x.1 ≤ m.trees.length + 1 ∧ x.2 = (List.range x.1).map (fun k => (stageV m row k).1) ∧ ∀ k, k < x.1 → (stageV m row k).2 = true) (fun x => m.trees.length + 1 - x.1) (0, []) (by ((conv => whnf); simp only [St.mk.injEq, List.cons.injEq, Prod.mk.injEq, AV.c.injEq, AV.agg.injEq, AV.tup.injEq, CV.d.injEq, D.int.injEq, D.bool.injEq, D.str.injEq, D.sl.injEq, Ent.arr.injEq, Ent.box.injEq, true_and, and_true, and_self, nInt_eq, Int.natCast_zero, dLen_eL, sLen_eq, eL_nil])) ⟨Nat.zero_le _, by simp, fun k hk => by omega⟩ ?_
  intro ⟨k, o⟩ ⟨hk, ho, hok⟩
  dsimp only at hk ho hok
  (conv => whnf)
  refine ifB_i (fun h1 => ?_) (fun h1 => ?_) <;> (conv => whnf) <;> simp only [nInt_eq, Int.natCast_zero, dLen_eL, sLen_eq, nOf_eq, Int.toNat_natCast, nAdd_eq, nSub_eq, dLen_nil, dLen_cons, iLt_t, iLt_f, iLe_t, iLe_f, iEq_t, iEq_f, sEq_t, sEq_f, bNot_t, bNot_f, bAnd_t, bEq_t, bEq_f, Bool.not_eq_true, Bool.not_eq_false, Bool.true_eq_false, Bool.false_eq_true] at h1
  · refine .inl ⟨_, _, _, impl_FirstTrees_spec m k hs.sm, rfl, ?_⟩
    (conv => whnf)
    have hp : FnSpec PR f_impl_Predict [.agg [.d (.sl 1 (eL cS m.names)), .d (.sl 1 (eL cI m.signs)), .d (.int .i64 m.base), .d (.sl 1 (dPart (eL cT m.trees) 0 (firstK m k)))], aIs row] (tupIB (predictM (firstM m k) row)) [] 0 := by
      rw [dPart_eL]; exact impl_Predict_spec (firstM m k) row (firstM_sz hs k) hr
    refine .inl ⟨_, _, _, hp, rfl, ?_⟩
    cases hv : (stageV m row k).2 with
    | false =>
      have hv' : predictM (firstM m k) row = ((stageV m row k).1, false) := by rw [← hv]; rfl
      rw [hv']
      (conv => whnf)
      have hn : stagesL m row = [] := by rw [stagesL, if_neg (fun h => by have := h k (by omega); rw [hv] at this; cases this)]
      rw [hn, eL_nil]
    | true =>
      have hv' : predictM (firstM m k) row = ((stageV m row k).1, true) := by rw [← hv]; rfl
      rw [hv']
      (conv => whnf)
      have hol : o.length = k := by rw [ho]; simp
      refine And.intro (by simp [eL_length, dLen_len]; omega) ?_
      (conv => whnf)
      refine ⟨(k + 1, o ++ [(stageV m row k).1]), by dsimp only; omega, ⟨by dsimp only; omega, by dsimp only; rw [ho, List.range_succ, List.map_append]; rfl, fun j hj => ?_⟩, ?_⟩
      · dsimp only at hj
        rcases Nat.lt_or_ge j k with q | q
        · exact hok j q
        · obtain rfl : j = k := by omega
          exact hv
      ((conv => whnf); simp only [St.mk.injEq, List.cons.injEq, Prod.mk.injEq, AV.c.injEq, AV.agg.injEq, AV.tup.injEq, CV.d.injEq, D.int.injEq, D.bool.injEq, D.str.injEq, D.sl.injEq, Ent.arr.injEq, Ent.box.injEq, true_and, and_true, and_self, nInt_eq, Int.natCast_zero, dLen_eL, sLen_eq, wI (show k < m.trees.length + 1 by omega) (by omega)])
      rw [← eL_app]
      rfl
  · obtain rfl : k = m.trees.length + 1 := by omega
    have : stagesL m row = o := by rw [stagesL, if_pos (fun j hj => hok j (by omega)), ho]
    rw [this]

theorem spec_Stages_spec (m : Mdl) (row : List Int) (hs : szM m) (hr : row.length ≤ 1048576) : FnSpec PR f_spec_Stages [aM m, aIs row] (.c (.ref 0 0 none)) [(0, .arr t_int 1 0 .own (eL cI (stagesL m row)))] 1 := by
  have hlt := hs.trees
  refine FnSpec.intro hT p_spec_Stages rfl (by kernel_rfl) n_spec_Stages rfl ?_
  conv => whnf
  refine tri_loop hT [1, 2, 5, 6] (α := Nat × List Int) (fun x => { t := [(1, aIs row), (2, .c (.ptr 0 0)), (5, .c (.ref 1 0 none)), (6, ai x.1)], h := [(0, .box t_impl_Model (cM m)), (1, .arr t_int 1 0 .own (eL cI x.2))], n := 2, N := 33 })
    (fun x => x.1 ≤ m.trees.length + 1 ∧ x.2 = (List.range x.1).map (fun k => (stageV m row k).1) ∧ ∀ k, k < x.1 → (stageV m row k).2 = true) (fun x => m.trees.length + 1 - x.1) (0, []) (by ((conv => whnf); simp only [St.mk.injEq, List.cons.injEq, Prod.mk.injEq, AV.c.injEq, AV.agg.injEq, AV.tup.injEq, CV.d.injEq, D.int.injEq, D.bool.injEq, D.str.injEq, D.sl.injEq, Ent.arr.injEq, Ent.box.injEq, true_and, and_true, and_self, nInt_eq, Int.natCast_zero, dLen_eL, sLen_eq, eL_nil])) ⟨Nat.zero_le _, by simp, fun k hk => by omega⟩ ?_
  intro ⟨k, o⟩ ⟨hk, ho, hok⟩
  dsimp only at hk ho hok
  (conv => whnf)
  refine ifB_i (fun h1 => ?_) (fun h1 => ?_) <;> (conv => whnf) <;> simp only [nInt_eq, Int.natCast_zero, dLen_eL, sLen_eq, nOf_eq, Int.toNat_natCast, nAdd_eq, nSub_eq, dLen_nil, dLen_cons, iLt_t, iLt_f, iLe_t, iLe_f, iEq_t, iEq_f, sEq_t, sEq_f, bNot_t, bNot_f, bAnd_t, bEq_t, bEq_f, Bool.not_eq_true, Bool.not_eq_false, Bool.true_eq_false, Bool.false_eq_true] at h1
  · refine .inl ⟨_, _, _, spec_FirstTrees_spec m k hs.sm, rfl, ?_⟩
    (conv => whnf)
    have hp : FnSpec PR f_spec_Predict [.agg [.d (.sl 1 (eL cS m.names)), .d (.sl 1 (eL cI m.signs)), .d (.int .i64 m.base), .d (.sl 1 (dPart (eL cT m.trees) 0 (firstK m k)))], aIs row] (tupIB (predictM (firstM m k) row)) [] 0 := by
      rw [dPart_eL]; exact spec_Predict_spec (firstM m k) row (firstM_sz hs k) hr
    refine .inl ⟨_, _, _, hp, rfl, ?_⟩
    cases hv : (stageV m row k).2 with
    | false =>
      have hv' : predictM (firstM m k) row = ((stageV m row k).1, false) := by rw [← hv]; rfl
      rw [hv']
      (conv => whnf)
      have hn : stagesL m row = [] := by rw [stagesL, if_neg (fun h => by have := h k (by omega); rw [hv] at this; cases this)]
      rw [hn, eL_nil]
    | true =>
      have hv' : predictM (firstM m k) row = ((stageV m row k).1, true) := by rw [← hv]; rfl
      rw [hv']
      (conv => whnf)
      have hol : o.length = k := by rw [ho]; simp
      refine And.intro (by simp [eL_length, dLen_len]; omega) ?_
      (conv => whnf)
      refine ⟨(k + 1, o ++ [(stageV m row k).1]), by dsimp only; omega, ⟨by dsimp only; omega, by dsimp only; rw [ho, List.range_succ, List.map_append]; rfl, fun j hj => ?_⟩, ?_⟩
      · dsimp only at hj
        rcases Nat.lt_or_ge j k with q | q
        · exact hok j q
        · obtain rfl : j = k := by omega
          exact hv
      ((conv => whnf); simp only [St.mk.injEq, List.cons.injEq, Prod.mk.injEq, AV.c.injEq, AV.agg.injEq, AV.tup.injEq, CV.d.injEq, D.int.injEq, D.bool.injEq, D.str.injEq, D.sl.injEq, Ent.arr.injEq, Ent.box.injEq, true_and, and_true, and_self, nInt_eq, Int.natCast_zero, dLen_eL, sLen_eq, wI (show k < m.trees.length + 1 by omega) (by omega)])
      rw [← eL_app]
      rfl
  · obtain rfl : k = m.trees.length + 1 := by omega
    have : stagesL m row = o := by rw [stagesL, if_pos (fun j hj => hok j (by omega)), ho]
    rw [this]
end Go.H.S
namespace Go.H.S
open Go Go.Proofs Go.H
set_option maxRecDepth 100000
set_option linter.unusedSimpArgs false
set_option linter.unusedVariables false


theorem predL_snoc (row : List Int) (t : List Nd) : ∀ (l : List (List Nd)) (a : Int), predL row (l ++ [t]) a = wAdd .i64 (predL row l a) (evalL t row)
  | [], a => rfl
  | x :: r, a => by simp only [List.cons_append, predL]; exact predL_snoc row t r _
theorem predictM_no {m : Mdl} {row : List Int} (h : (predictM m row).2 = false) : predictM m row = (0, false) := by
  unfold predictM at h ⊢
  split
  · rename_i q; rw [if_pos q] at h; cases h
  · rfl
theorem firstK_of {m : Mdl} {k : Nat} (h : k ≤ m.trees.length) : firstK m (k : Int) = k := by
  unfold firstK brought
  rw [if_neg (by omega), if_neg (by omega)]; omega
theorem stages_no {m : Mdl} {row : List Int} (h : (predictM m row).2 = false) : stagesL m row = [] := by
  unfold stagesL
  rw [if_neg]
  intro q
  have := q m.trees.length (Nat.le_refl _)
  rw [stageV, firstM_all, h] at this
  cases this
/-- What the stages of a model are whose prediction is told. -/
theorem stages_yes {m : Mdl} {row : List Int} (h : (predictM m row).2 = true) : (stagesL m row).length = m.trees.length + 1 ∧ ∀ k, k ≤ m.trees.length → (stagesL m row)[k]? = some (predL row (m.trees.take k) m.base) := by
  have hq : modelOk m = true ∧ row.length = m.names.length := by
    unfold predictM at h
    split at h
    · assumption
    · cases h
  have hv : ∀ k, k ≤ m.trees.length → stageV m row k = (predL row (m.trees.take k) m.base, true) := fun k hk => by
    unfold stageV predictM
    rw [if_pos ⟨modelOk_first hq.1 k, hq.2⟩]
    show (predL row (m.trees.take (firstK m k)) m.base, true) = _
    rw [firstK_of hk]
  have he : stagesL m row = (List.range (m.trees.length + 1)).map fun k => (stageV m row k).1 := by
    unfold stagesL
    rw [if_pos (fun k hk => by rw [hv k hk])]
  refine ⟨by rw [he]; simp, fun k hk => ?_⟩
  rw [he, List.getElem?_map, List.getElem?_range (by omega)]
  show some (stageV m row k).1 = _
  rw [hv k hk]
theorem predictM_val {m : Mdl} {row : List Int} (h : (predictM m row).2 = true) : predictM m row = (predL row m.trees m.base, true) := by
  unfold predictM at h ⊢
  split
  · rfl
  · rename_i q; rw [if_neg q] at h; cases h
end Go.H.S
namespace Go.H.S
open Go Go.Proofs Go.H
attribute [local irreducible] Tri FnSpec FnSpecM FnSpecX FnSpecJ FnSpecB
set_option maxRecDepth 100000
set_option linter.unusedSimpArgs false
set_option linter.unusedVariables false


theorem spec_DrawStages_spec (code : List Int) (hl : code.length ≤ 1048576) : FnSpecX PR f_spec_DrawStages [.c (.d (.sl 1 (eL cU code)))] (Mdl × List Int) (fun x => drawn x.1 ∧ x.2.length ≤ 5) tupMR (fun _ => []) (fun _ => 0) := by
  refine FnSpecX.intro hT p_spec_DrawStages rfl (by kernel_rfl) n_spec_DrawStages rfl ?_
  (conv => whnf)
  refine .inr ⟨_, _, _, _, _, spec_DrawPredict_spec code hl, fun ⟨m, row⟩ ⟨hd, hr⟩ => ⟨rfl, ?_⟩⟩
  dsimp only at hd hr
  (conv => whnf)
  refine ⟨(m, row), ⟨hd, hr⟩, ?_⟩
  (conv => whnf)

abbrev rpMd (m : Mdl) : AV := .c (.d (.rp [.sl 1 (eL cS m.names), .sl 1 (eL cI m.signs), .int .i64 m.base, .sl 1 (eL cT m.trees)]))
theorem law_FnStages (code : List Int) (hm : code.length ≤ 9223372036854775807 ∧ ∀ y ∈ code, 0 ≤ y ∧ y ≤ 255) : FnSpec PR f_laws_FnStages [.c (.d (.sl 1 (eL cU code)))] (ab true) [] 0 := by
  refine FnSpec.intro hT p_laws_FnStages rfl (by kernel_rfl) n_laws_FnStages rfl ?_
  conv => whnf
  refine .inl ⟨_, _, _, laws_big_spec code, rfl, ?_⟩
  (conv => whnf)
  refine ifB_i (fun h => ?_) (fun h => ?_) <;> (conv => whnf) <;> simp only [nInt_eq, Int.natCast_zero, dLen_eL, sLen_eq, nOf_eq, Int.toNat_natCast, nAdd_eq, nSub_eq, dLen_nil, dLen_cons, iLt_t, iLt_f, iLe_t, iLe_f, iEq_t, iEq_f, sEq_t, sEq_f, bNot_t, bNot_f, bAnd_t, bEq_t, bEq_f, Bool.not_eq_true, Bool.not_eq_false, Bool.true_eq_false, Bool.false_eq_true] at h
  have hl : code.length ≤ 1048576 := by omega
  refine .inr ⟨_, _, _, _, _, spec_DrawStages_spec code hl, fun ⟨m, row⟩ ⟨hd, hr⟩ => ⟨rfl, ?_⟩⟩
  dsimp only at hd hr
  have hz : szM m := ⟨by have := hd.names; omega, fun s hs => by have := hd.texts s hs; omega, by have := hd.signs; omega, by have := hd.trees; omega, fun t ht => by have := hd.nodes t ht; omega⟩
  have hlt := hz.trees
  have hsl := stagesL_len m row
  have hd12 := hd.trees
  have hi := impl_Stages_spec m row hz (by omega)
  have hs := spec_Stages_spec m row hz (by omega)
  have hp := impl_Predict_spec m row hz (by omega)
  have hse := laws_sameInts_self (stagesL m row) (by omega)
  have hno := @stages_no m row
  have hyes := @stages_yes m row
  have hval := @predictM_val m row
  generalize predictM m row = p at *
  generalize stagesL m row = sl at *
  obtain ⟨p, ok⟩ := p
  dsimp only at hno hyes hval
  (conv => whnf)
  refine .inl ⟨_, _, _, hi, rfl, ?_⟩
  (conv => whnf)
  refine .inl ⟨_, _, _, hs, rfl, ?_⟩
  (conv => whnf)
  refine .inr (.inl ⟨_, _, _, hse, rfl, trivial, ?_⟩)
  (conv => whnf)
  refine .inl ⟨_, _, _, hp, rfl, ?_⟩
  cases ok with
  | false =>
    rw [hno rfl]
    (conv => whnf)
    simp [iEq]
  | true =>
    obtain ⟨hln, hat⟩ := hyes rfl
    have hv := hval rfl
    simp only [Prod.mk.injEq, and_true] at hv
    subst hv
    (conv => whnf)
    refine tri_rp 0 ?_
    (conv => whnf)
    refine tri_loop hT [3, 4, 5, 6, 8] (α := Nat) (fun k => { t := [(3, rpMd m), (4, aIs row), (5, aIs sl), (6, ai (predL row m.trees m.base)), (8, ai k)], h := [], n := 0, N := 86 })
      (fun k => 1 ≤ k ∧ k ≤ sl.length) (fun k => sl.length - k) 1 (by ((conv => whnf); simp only [St.mk.injEq, List.cons.injEq, Prod.mk.injEq, AV.c.injEq, AV.agg.injEq, AV.tup.injEq, CV.d.injEq, D.int.injEq, D.bool.injEq, D.str.injEq, D.sl.injEq, Ent.arr.injEq, Ent.box.injEq, true_and, and_true, and_self, nInt_eq, Int.natCast_zero, dLen_eL, sLen_eq, partOf_none]); exact ⟨rfl, rfl⟩) (by omega) ?_
    intro k ⟨hk1, hk⟩
    (conv => whnf)
    refine ifB_i (fun h1 => ?_) (fun h1 => ?_) <;> (conv => whnf) <;> simp [iLt] at h1
    · obtain ⟨j, rfl⟩ : ∃ j, k = j + 1 := ⟨k - 1, by omega⟩
      have hj : j < m.trees.length := by omega
      obtain ⟨t, ht⟩ := get_lt hj
      have htl := hz.nodes t (List.mem_of_getElem? ht)
      have h2 := hat (j + 1) (by omega)
      have h3 := hat j (by omega)
      have hst : predL row (m.trees.take (j + 1)) m.base = wAdd .i64 (predL row (m.trees.take j) m.base) (evalL t row) := by
        rw [List.take_add_one, ht]
        exact predL_snoc row t _ _
      have e1 : wSub .i64 ((j + 1 : Nat) : Int) 1 = (j : Int) := by rw [wSub64] <;> omega
      have hEq (x : Int) : iEq x x = true := decide_eq_true rfl
      refine tri_every hT hmix [3, 4, 5, 6, 8, 60] { t := [(3, rpMd m), (4, aIs row), (5, aIs sl), (6, ai (predL row m.trees m.base)), (8, ai (j + 1 : Nat)), (60, ab false)], h := [], n := 0, N := 86 } rfl ?_ ?_
      · repeat' first
          | (refine anyV_one rfl ?_; (conv => whnf))
          | (refine anyV_two rfl ?_ ?_ <;> (conv => whnf))
          | (refine anyV_three rfl ?_ ?_ ?_ <;> (conv => whnf))
          | (refine anyV_end rfl ?_; (conv => whnf); rw [hst, hEq]; rfl)
          | (refine idx_at e1 h3 ?_; (conv => whnf))
          | (refine idx_at e1 ht ?_; (conv => whnf))
          | (refine idx_at rfl h2 ?_; (conv => whnf))
          | (refine .inl ⟨_, _, _, impl_EvalTree_spec t row (by omega) (by omega), rfl, ?_⟩; (conv => whnf))
      · (conv => whnf)
        refine ⟨j + 2, by omega, by omega, ?_⟩
        ((conv => whnf); simp only [St.mk.injEq, List.cons.injEq, Prod.mk.injEq, AV.c.injEq, AV.agg.injEq, AV.tup.injEq, CV.d.injEq, D.int.injEq, D.bool.injEq, D.str.injEq, D.sl.injEq, Ent.arr.injEq, Ent.box.injEq, true_and, and_true, and_self, nInt_eq, Int.natCast_zero, dLen_eL, sLen_eq, wI (show j + 1 < sl.length by omega) (by omega)])
        first | done | rfl
    · have hEq (x : Int) : iEq x x = true := decide_eq_true rfl
      have h0 := hat 0 (by omega)
      have hz2 := hat m.trees.length (Nat.le_refl _)
      rw [List.take_length] at hz2
      have e2 : wAdd .i64 (nInt (dLen (eL cT m.trees))) 1 = nInt (dLen (eL cI sl)) := by rw [wAdd64] <;> simp <;> omega
      have e3 : wSub .i64 (nInt (dLen (eL cI sl))) 1 = (m.trees.length : Int) := by rw [wSub64] <;> simp <;> omega
      have h0v : predL row (m.trees.take 0) m.base = m.base := rfl
      rw [h0v] at h0
      refine tri_conf hT hmix (by kernel_rfl) ?_
      (conv => whnf)
      rw [e2, hEq]
      (conv => whnf)
      repeat' first
        | (refine And.intro (fun q => ?_) (fun q => ?_) <;> cases q <;> (conv => whnf))
        | (refine idx_at (k := 0) rfl h0 ?_; (conv => whnf))
        | (refine idx_at e3 hz2 ?_; (conv => whnf))
        | (rw [hEq]; (conv => whnf))
      all_goals first
        | (rw [hEq]; done)
        | (rw [hEq]; rfl)
end Go.H.S
