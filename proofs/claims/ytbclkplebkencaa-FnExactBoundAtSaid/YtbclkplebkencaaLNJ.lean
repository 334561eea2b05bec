/- Library, part RA: names, signs, models that are right. -/
import Derived.Test.YtbclkplebkencaaLY
import Derived.Test.YtbclkplebkencaaLNE
namespace Go.H.S
open Go Go.Proofs Go.H
attribute [local irreducible] Tri FnSpec FnSpecM FnSpecX FnSpecJ
set_option maxRecDepth 100000
set_option linter.unusedSimpArgs false
set_option linter.unusedVariables false


def letterB (b : UInt8) : Bool := decide (97 ≤ (b.toNat : Int) ∧ (b.toNat : Int) ≤ 122)
def digitB (b : UInt8) : Bool := decide (48 ≤ (b.toNat : Int) ∧ (b.toNat : Int) ≤ 57)
def nameL : List UInt8 → Nat → Bool
  | [], _ => true
  | b :: r, k => (letterB b || (decide (k ≠ 0) && digitB b)) && nameL r (k + 1)
def nameOk (s : ByteArray) : Bool := decide (1 ≤ (s.size : Int) ∧ (s.size : Int) ≤ 12) && nameL s.data.toList 0
theorem nameL_late : ∀ (l : List UInt8) (k : Nat), 0 < k → nameL l k = l.all fun b => letterB b || digitB b
  | [], k, h => rfl
  | b :: r, k, h => by
    simp only [nameL, List.all_cons, nameL_late r (k + 1) (by omega)]
    rw [show decide (k ≠ 0) = true from decide_eq_true (by omega), Bool.true_and]
theorem str_at {s : ByteArray} {n : Int} {k : Nat} {b : UInt8} {K : UInt8 → Prop} (hn : n = (k : Int)) (hb : s.data.toList[k]? = some b) (h : K b) : InB n s.size ∧ ∀ c, AtB s (nOf n) c → K c := by
  subst hn
  have hlt := (List.getElem?_eq_some_iff.1 hb).1
  refine ⟨by simp; exact hlt, fun c hc => ?_⟩
  have hc' : s.data.toList[nOf (k : Int)]? = some c := by unfold AtB at hc; exact hc
  rw [nOf_eq, Int.toNat_natCast, hb] at hc'
  cases hc'
  exact h
theorem byte_get {s : ByteArray} {k : Nat} (h : k < s.size) : ∃ b, s.data.toList[k]? = some b := get_lt (l := s.data.toList) (by simpa using h)
theorem bInt_eq' (b : UInt8) : bInt b = (b.toNat : Int) := by unfold bInt; rfl
theorem bInt_lt (b : UInt8) : 0 ≤ bInt b ∧ bInt b < 256 := by rw [bInt_eq']; have := b.toNat_lt; omega
theorem wConv_byte (b : UInt8) : wConv .i64 (bInt b) = bInt b := by
  have := bInt_lt b
  unfold wConv
  exact wrap64 (by omega) (by omega)
theorem letter_b (b : UInt8) : letterB b = decide (97 ≤ bInt b ∧ bInt b ≤ 122) := by rw [bInt_eq']; rfl
theorem digit_b (b : UInt8) : digitB b = decide (48 ≤ bInt b ∧ bInt b ≤ 57) := by rw [bInt_eq']; rfl
theorem toList_cons {s : ByteArray} {b : UInt8} (h : s.data.toList[0]? = some b) : ∃ r, s.data.toList = b :: r := by
  generalize s.data.toList = l at *
  cases l with
  | nil => simp at h
  | cons x r => simp at h; subst h; exact ⟨r, rfl⟩

theorem spec_NameOk_spec (s : ByteArray) (hs : s.size ≤ 9223372036854775807) : FnSpec PR f_spec_NameOk [aS s] (ab (nameOk s)) [] 0 := by
  have hsz : s.data.toList.length = s.size := by simp
  refine FnSpec.intro hT p_spec_NameOk rfl (by kernel_rfl) n_spec_NameOk rfl ?_
  conv => whnf
  refine .inl ⟨_, _, _, spec_l1In_spec _ _ _, rfl, ?_⟩
  (conv => whnf)
  refine ifB_i (fun h1 => ?_) (fun h1 => ?_) <;> (conv => whnf) <;> simp only [nInt_eq, Int.natCast_zero, dLen_eL, sLen_eq, nOf_eq, Int.toNat_natCast, nAdd_eq, nSub_eq, dLen_nil, dLen_cons, iLt_t, iLt_f, iLe_t, iLe_f, iEq_t, iEq_f, sEq_t, sEq_f, bNot_t, bNot_f, bAnd_t, bEq_t, bEq_f, Bool.not_eq_true, Bool.not_eq_false, Bool.true_eq_false, Bool.false_eq_true] at h1
  · have : decide (1 ≤ (s.size : Int) ∧ (s.size : Int) ≤ 12) = false := by simpa using h1
    simp [nameOk, this]
  have hno : nameOk s = nameL s.data.toList 0 := by simp only [nameOk]; rw [h1]; rfl
  have h1' := of_decide_eq_true h1
  obtain ⟨b0, hb0⟩ := byte_get (s := s) (k := 0) (by omega)
  refine str_at (k := 0) rfl hb0 ?_
  (conv => whnf)
  refine ifB_i (fun h2 => ?_) (fun h2 => ?_) <;> (conv => whnf) <;> simp only [nInt_eq, Int.natCast_zero, dLen_eL, sLen_eq, nOf_eq, Int.toNat_natCast, nAdd_eq, nSub_eq, dLen_nil, dLen_cons, iLt_t, iLt_f, iLe_t, iLe_f, iEq_t, iEq_f, sEq_t, sEq_f, bNot_t, bNot_f, bAnd_t, bEq_t, bEq_f, Bool.not_eq_true, Bool.not_eq_false, Bool.true_eq_false, Bool.false_eq_true] at h2
  · obtain ⟨r, hr⟩ := toList_cons hb0
    have hl : letterB b0 = false := by rw [letter_b]; exact decide_eq_false (by omega)
    rw [hno, hr, nameL, hl]
    rfl
  refine tri_loop hT [0, 3] (α := Nat) (fun k => { t := [(0, aS s), (3, ai k)], h := [], n := 0, N := 33 })
    (fun k => k ≤ s.size ∧ ((s.data.toList.drop k).all fun b => letterB b || digitB b) = (s.data.toList.all fun b => letterB b || digitB b)) (fun k => s.size - k) 0 (by ((conv => whnf); simp only [St.mk.injEq, List.cons.injEq, Prod.mk.injEq, AV.c.injEq, AV.agg.injEq, AV.tup.injEq, CV.d.injEq, D.int.injEq, D.bool.injEq, D.str.injEq, D.sl.injEq, Ent.arr.injEq, Ent.box.injEq, true_and, and_true, and_self, nInt_eq, Int.natCast_zero, dLen_eL, sLen_eq])) ⟨Nat.zero_le _, rfl⟩ ?_
  intro k ⟨hk, hn⟩
  (conv => whnf)
  refine ifB_i (fun h3 => ?_) (fun h3 => ?_) <;> (conv => whnf) <;> simp at h3
  · obtain ⟨b, hb⟩ := byte_get h3
    rw [drop_at hb, List.all_cons] at hn
    refine str_at (k := k) rfl hb ?_
    (conv => whnf)
    refine .inl ⟨_, _, _, spec_l1In_spec _ _ _, rfl, ?_⟩
    rw [wConv_byte, ← letter_b]
    (conv => whnf)
    have hbad : letterB b = false → digitB b = false → nameOk s = false := fun p1 p2 => by
      rw [p1, p2] at hn
      obtain ⟨r, hr⟩ := toList_cons hb0
      rw [hno, hr, nameL, nameL_late _ _ (by omega)]
      rw [hr, List.all_cons] at hn
      simp only [Bool.or_self, Bool.false_and] at hn
      cases hq : (r.all fun b => letterB b || digitB b) with
      | false => simp
      | true =>
        rw [hq, Bool.and_true] at hn
        have hb0n : letterB b0 = false := by
          cases hq2 : letterB b0 with
          | false => rfl
          | true => rw [hq2] at hn; simp at hn
        rw [hb0n]; rfl
    cases hl : letterB b
    · (conv => whnf)
      refine str_at (k := k) rfl hb ?_
      (conv => whnf)
      refine .inl ⟨_, _, _, spec_l1In_spec _ _ _, rfl, ?_⟩
      rw [wConv_byte, ← digit_b]
      (conv => whnf)
      cases hd : digitB b
      · (conv => whnf)
        rw [hbad hl hd]
      · (conv => whnf)
        refine ⟨k + 1, by omega, ⟨h3, by rw [hl, hd] at hn; simpa using hn⟩, ?_⟩
        ((conv => whnf); simp only [St.mk.injEq, List.cons.injEq, Prod.mk.injEq, AV.c.injEq, AV.agg.injEq, AV.tup.injEq, CV.d.injEq, D.int.injEq, D.bool.injEq, D.str.injEq, D.sl.injEq, Ent.arr.injEq, Ent.box.injEq, true_and, and_true, and_self, nInt_eq, Int.natCast_zero, dLen_eL, sLen_eq, wI h3 (by omega)])
    · (conv => whnf)
      refine ⟨k + 1, by omega, ⟨h3, by rw [hl] at hn; simpa using hn⟩, ?_⟩
      ((conv => whnf); simp only [St.mk.injEq, List.cons.injEq, Prod.mk.injEq, AV.c.injEq, AV.agg.injEq, AV.tup.injEq, CV.d.injEq, D.int.injEq, D.bool.injEq, D.str.injEq, D.sl.injEq, Ent.arr.injEq, Ent.box.injEq, true_and, and_true, and_self, nInt_eq, Int.natCast_zero, dLen_eL, sLen_eq, wI h3 (by omega)])
  · obtain rfl : k = s.size := by omega
    rw [← hsz, List.drop_length] at hn
    obtain ⟨r, hr⟩ := toList_cons hb0
    rw [hr] at hn
    simp only [List.all_nil, List.all_cons] at hn
    have hn' := hn.symm
    simp only [Bool.and_eq_true] at hn'
    have hl : letterB b0 = true := by
      have h4 := hn'.1
      simp only [Bool.or_eq_true] at h4
      rcases h4 with h4 | h4
      · exact h4
      · rw [digit_b, decide_eq_true_eq] at h4; omega
    have : nameOk s = true := by rw [hno, hr, nameL, nameL_late _ _ (by omega), hl, hn'.2]; rfl
    rw [this]

theorem impl_NameOk_spec (s : ByteArray) (hs : s.size ≤ 9223372036854775807) : FnSpec PR f_impl_NameOk [aS s] (ab (nameOk s)) [] 0 := by
  refine FnSpec.intro hT p_impl_NameOk rfl (by kernel_rfl) n_impl_NameOk rfl ?_
  conv => whnf
  refine tri_loop hT [0, 6, 7] (α := Nat) (fun k => { t := [(0, aS s), (6, ai s.size), (7, ai k)], h := [], n := 0, N := 42 })
    (fun k => k ≤ s.size ∧ nameL (s.data.toList.drop k) k = nameL s.data.toList 0) (fun k => s.size - k) 0 (by ((conv => whnf); simp only [St.mk.injEq, List.cons.injEq, Prod.mk.injEq, AV.c.injEq, AV.agg.injEq, AV.tup.injEq, CV.d.injEq, D.int.injEq, D.bool.injEq, D.str.injEq, D.sl.injEq, Ent.arr.injEq, Ent.box.injEq, true_and, and_true, and_self, nInt_eq, Int.natCast_zero, dLen_eL, sLen_eq])) ⟨Nat.zero_le _, rfl⟩ ?_
  intro k ⟨hk, hn⟩
  (conv => whnf)
  refine ifB_i (fun h1 => ?_) (fun h1 => ?_) <;> (conv => whnf) <;> simp at h1
  · obtain ⟨b, hb⟩ := byte_get h1
    rw [drop_at hb, nameL] at hn
    have hbad : (letterB b || (decide (k ≠ 0) && digitB b)) = false → nameOk s = false := fun p => by
      rw [p, Bool.false_and] at hn
      simp [nameOk, ← hn]
    have hgood : (letterB b || (decide (k ≠ 0) && digitB b)) = true → nameL (s.data.toList.drop (k + 1)) (k + 1) = nameL s.data.toList 0 := fun p => by
      rw [p, Bool.true_and] at hn
      exact hn
    rw [letter_b, digit_b] at hbad hgood
    refine str_at (k := k) rfl hb ?_
    (conv => whnf)
    generalize e1 : iLe 97 (bInt b) = c1
    cases c1 <;> (conv => whnf)
    · have h97 : ¬ 97 ≤ bInt b := by simpa [iLe] using e1
      have hnl : decide (97 ≤ bInt b ∧ bInt b ≤ 122) = false := decide_eq_false (by omega)
      generalize e3 : iEq (k : Int) 0 = c3
      cases c3 <;> (conv => whnf)
      · have hk0 : ¬ k = 0 := by intro h; subst h; simp [iEq] at e3
        refine str_at (k := k) rfl hb ?_
        (conv => whnf)
        generalize e4 : iLt (bInt b) 48 = c4
        cases c4 <;> (conv => whnf)
        · refine str_at (k := k) rfl hb ?_
          (conv => whnf)
          generalize e5 : iLt 57 (bInt b) = c5
          cases c5 <;> (conv => whnf)
          · refine ⟨k + 1, by omega, ⟨h1, hgood ?_⟩, ?_⟩
            · have h48 : ¬ bInt b < 48 := by simpa [iLt] using e4
              have h57 : ¬ 57 < bInt b := by simpa [iLt] using e5
              rw [decide_eq_true hk0, decide_eq_true (show 48 ≤ bInt b ∧ bInt b ≤ 57 by omega)]
              simp
            · ((conv => whnf); simp only [St.mk.injEq, List.cons.injEq, Prod.mk.injEq, AV.c.injEq, AV.agg.injEq, AV.tup.injEq, CV.d.injEq, D.int.injEq, D.bool.injEq, D.str.injEq, D.sl.injEq, Ent.arr.injEq, Ent.box.injEq, true_and, and_true, and_self, nInt_eq, Int.natCast_zero, dLen_eL, sLen_eq, wI h1 hs])
          · have h57 : 57 < bInt b := by simpa [iLt] using e5
            rw [hbad (by rw [hnl, decide_eq_false (show ¬ (48 ≤ bInt b ∧ bInt b ≤ 57) by omega)]; simp)]
        · have h48 : bInt b < 48 := by simpa [iLt] using e4
          rw [hbad (by rw [hnl, decide_eq_false (show ¬ (48 ≤ bInt b ∧ bInt b ≤ 57) by omega)]; simp)]
      · have hk0 : k = 0 := by simpa [iEq] using e3
        rw [hbad (by rw [hnl]; simp [hk0])]
    · have h97 : 97 ≤ bInt b := by simpa [iLe] using e1
      refine str_at (k := k) rfl hb ?_
      (conv => whnf)
      generalize e2 : iLe (bInt b) 122 = c2
      cases c2 <;> (conv => whnf)
      · have h122 : ¬ bInt b ≤ 122 := by simpa [iLe] using e2
        have hnl : decide (97 ≤ bInt b ∧ bInt b ≤ 122) = false := decide_eq_false (by omega)
        generalize e3 : iEq (k : Int) 0 = c3
        cases c3 <;> (conv => whnf)
        · have hk0 : ¬ k = 0 := by intro h; subst h; simp [iEq] at e3
          refine str_at (k := k) rfl hb ?_
          (conv => whnf)
          generalize e4 : iLt (bInt b) 48 = c4
          cases c4 <;> (conv => whnf)
          · refine str_at (k := k) rfl hb ?_
            (conv => whnf)
            generalize e5 : iLt 57 (bInt b) = c5
            cases c5 <;> (conv => whnf)
            · refine ⟨k + 1, by omega, ⟨h1, hgood ?_⟩, ?_⟩
              · have h48 : ¬ bInt b < 48 := by simpa [iLt] using e4
                have h57 : ¬ 57 < bInt b := by simpa [iLt] using e5
                rw [decide_eq_true hk0, decide_eq_true (show 48 ≤ bInt b ∧ bInt b ≤ 57 by omega)]
                simp
              · ((conv => whnf); simp only [St.mk.injEq, List.cons.injEq, Prod.mk.injEq, AV.c.injEq, AV.agg.injEq, AV.tup.injEq, CV.d.injEq, D.int.injEq, D.bool.injEq, D.str.injEq, D.sl.injEq, Ent.arr.injEq, Ent.box.injEq, true_and, and_true, and_self, nInt_eq, Int.natCast_zero, dLen_eL, sLen_eq, wI h1 hs])
            · have h57 : 57 < bInt b := by simpa [iLt] using e5
              rw [hbad (by rw [hnl, decide_eq_false (show ¬ (48 ≤ bInt b ∧ bInt b ≤ 57) by omega)]; simp)]
          · have h48 : bInt b < 48 := by simpa [iLt] using e4
            rw [hbad (by rw [hnl, decide_eq_false (show ¬ (48 ≤ bInt b ∧ bInt b ≤ 57) by omega)]; simp)]
        · have hk0 : k = 0 := by simpa [iEq] using e3
          rw [hbad (by rw [hnl]; simp [hk0])]
      · have h122 : bInt b ≤ 122 := by simpa [iLe] using e2
        refine ⟨k + 1, by omega, ⟨h1, hgood (by rw [decide_eq_true (show 97 ≤ bInt b ∧ bInt b ≤ 122 by omega)]; rfl)⟩, ?_⟩
        ((conv => whnf); simp only [St.mk.injEq, List.cons.injEq, Prod.mk.injEq, AV.c.injEq, AV.agg.injEq, AV.tup.injEq, CV.d.injEq, D.int.injEq, D.bool.injEq, D.str.injEq, D.sl.injEq, Ent.arr.injEq, Ent.box.injEq, true_and, and_true, and_self, nInt_eq, Int.natCast_zero, dLen_eL, sLen_eq, wI h1 hs])
  · obtain rfl : k = s.size := by omega
    refine .inl ⟨_, _, _, impl_within_spec _ _ _, rfl, ?_⟩
    rw [sLen_eq]
    have hd : s.data.toList.drop s.size = [] := List.drop_eq_nil_of_le (by simp)
    rw [hd] at hn
    have : nameOk s = decide (1 ≤ (s.size : Int) ∧ (s.size : Int) ≤ 12) := by simp [nameOk, ← hn, nameL]
    rw [this]
    (conv => whnf)

def hasS (x : ByteArray) (l : List ByteArray) : Bool := l.any fun y => decide (x = y)
/-- Names that are right, each once. -/
def namesL (all : List ByteArray) : List ByteArray → Nat → Bool
  | [], _ => true
  | s :: r, k => (nameOk s && !hasS s (all.take k)) && namesL all r (k + 1)
/-- The first k elements of a slice. -/
theorem dCut_take {α : Type} (f : α → List D) (xs : List α) (k : Nat) : dCut (eL f xs) (nOf 0) (nOf (k : Int)) = eL f (xs.take k) := by simp [dCut, eL, List.map_take]

theorem spec_l9Has_spec (l : List ByteArray) (x : ByteArray) (hl : l.length ≤ 9223372036854775807) : FnSpec PR f_spec_l9Has [aSs l, aS x] (ab (hasS x l)) [] 0 := by
  refine FnSpec.intro hT p_spec_l9Has rfl (by kernel_rfl) n_spec_l9Has rfl ?_
  conv => whnf
  refine tri_loop hT [0, 1, 5] (α := Nat) (fun k => { t := [(0, aSs l), (1, aS x), (5, ai k)], h := [], n := 0, N := 18 })
    (fun k => k ≤ l.length ∧ hasS x (l.drop k) = hasS x l) (fun k => l.length - k) 0 (by ((conv => whnf); simp only [St.mk.injEq, List.cons.injEq, Prod.mk.injEq, AV.c.injEq, AV.agg.injEq, AV.tup.injEq, CV.d.injEq, D.int.injEq, D.bool.injEq, D.str.injEq, D.sl.injEq, Ent.arr.injEq, Ent.box.injEq, true_and, and_true, and_self, nInt_eq, Int.natCast_zero, dLen_eL, sLen_eq])) ⟨Nat.zero_le _, rfl⟩ ?_
  intro k ⟨hk, hi⟩
  (conv => whnf)
  refine ifB_i (fun h1 => ?_) (fun h1 => ?_) <;> (conv => whnf) <;> simp at h1
  · obtain ⟨s, hs⟩ := get_lt h1
    refine idx_at (by simp) hs ?_
    (conv => whnf)
    rw [drop_at hs] at hi
    refine ifB_i (fun h2 => ?_) (fun h2 => ?_) <;> (conv => whnf) <;> simp only [nInt_eq, Int.natCast_zero, dLen_eL, sLen_eq, nOf_eq, Int.toNat_natCast, nAdd_eq, nSub_eq, dLen_nil, dLen_cons, iLt_t, iLt_f, iLe_t, iLe_f, iEq_t, iEq_f, sEq_t, sEq_f, bNot_t, bNot_f, bAnd_t, bEq_t, bEq_f, Bool.not_eq_true, Bool.not_eq_false, Bool.true_eq_false, Bool.false_eq_true] at h2
    · subst h2
      rw [← hi]
      simp [hasS]
    · refine ⟨k + 1, by omega, ⟨h1, by rw [← hi]; simp [hasS, Ne.symm h2]⟩, ?_⟩
      ((conv => whnf); simp only [St.mk.injEq, List.cons.injEq, Prod.mk.injEq, AV.c.injEq, AV.agg.injEq, AV.tup.injEq, CV.d.injEq, D.int.injEq, D.bool.injEq, D.str.injEq, D.sl.injEq, Ent.arr.injEq, Ent.box.injEq, true_and, and_true, and_self, nInt_eq, Int.natCast_zero, dLen_eL, sLen_eq, wI h1 hl])
  · obtain rfl : k = l.length := by omega
    simp only [List.drop_length] at hi
    rw [← hi]
    rfl

theorem slices_IndexS_spec (l : List ByteArray) (x : ByteArray) (hl : l.length ≤ 9223372036854775807) : FnSpec PR f_slices_Index_Lstring_string [aSs l, aS x] (ai (idxL (fun y => decide (x = y)) l 0)) [] 0 := by
  refine FnSpec.intro hT p_slices_Index_Lstring_string rfl (by kernel_rfl) n_slices_Index_Lstring_string rfl ?_
  conv => whnf
  refine tri_loop hT [0, 1, 7, 8] (α := Nat) (fun k => { t := [(0, aSs l), (1, aS x), (7, ai l.length), (8, ai k)], h := [], n := 0, N := 19 })
    (fun k => k ≤ l.length ∧ idxL (fun y => decide (x = y)) (l.drop k) k = idxL (fun y => decide (x = y)) l 0) (fun k => l.length - k) 0 (by ((conv => whnf); simp only [St.mk.injEq, List.cons.injEq, Prod.mk.injEq, AV.c.injEq, AV.agg.injEq, AV.tup.injEq, CV.d.injEq, D.int.injEq, D.bool.injEq, D.str.injEq, D.sl.injEq, Ent.arr.injEq, Ent.box.injEq, true_and, and_true, and_self, nInt_eq, Int.natCast_zero, dLen_eL, sLen_eq])) ⟨Nat.zero_le _, rfl⟩ ?_
  intro k ⟨hk, hi⟩
  (conv => whnf)
  refine ifB_i (fun h1 => ?_) (fun h1 => ?_) <;> (conv => whnf) <;> simp at h1
  · obtain ⟨s, hs⟩ := get_lt h1
    refine idx_at (by simp) hs ?_
    (conv => whnf)
    rw [drop_at hs, idxL] at hi
    refine ifB_i (fun h2 => ?_) (fun h2 => ?_) <;> (conv => whnf) <;> simp only [nInt_eq, Int.natCast_zero, dLen_eL, sLen_eq, nOf_eq, Int.toNat_natCast, nAdd_eq, nSub_eq, dLen_nil, dLen_cons, iLt_t, iLt_f, iLe_t, iLe_f, iEq_t, iEq_f, sEq_t, sEq_f, bNot_t, bNot_f, bAnd_t, bEq_t, bEq_f, Bool.not_eq_true, Bool.not_eq_false, Bool.true_eq_false, Bool.false_eq_true] at h2
    · rw [if_pos (by simpa using h2)] at hi
      ((conv => whnf); simp only [St.mk.injEq, List.cons.injEq, Prod.mk.injEq, AV.c.injEq, AV.agg.injEq, AV.tup.injEq, CV.d.injEq, D.int.injEq, D.bool.injEq, D.str.injEq, D.sl.injEq, Ent.arr.injEq, Ent.box.injEq, true_and, and_true, and_self, nInt_eq, Int.natCast_zero, dLen_eL, sLen_eq, hi])
    · rw [if_neg (by simpa using h2)] at hi
      refine ⟨k + 1, by omega, ⟨h1, hi⟩, ?_⟩
      ((conv => whnf); simp only [St.mk.injEq, List.cons.injEq, Prod.mk.injEq, AV.c.injEq, AV.agg.injEq, AV.tup.injEq, CV.d.injEq, D.int.injEq, D.bool.injEq, D.str.injEq, D.sl.injEq, Ent.arr.injEq, Ent.box.injEq, true_and, and_true, and_self, nInt_eq, Int.natCast_zero, dLen_eL, sLen_eq, wI h1 hl])
  · obtain rfl : k = l.length := by omega
    simp only [List.drop_length, idxL] at hi
    ((conv => whnf); simp only [St.mk.injEq, List.cons.injEq, Prod.mk.injEq, AV.c.injEq, AV.agg.injEq, AV.tup.injEq, CV.d.injEq, D.int.injEq, D.bool.injEq, D.str.injEq, D.sl.injEq, Ent.arr.injEq, Ent.box.injEq, true_and, and_true, and_self, nInt_eq, Int.natCast_zero, dLen_eL, sLen_eq, ← hi])

theorem slices_ContainsS_spec (l : List ByteArray) (x : ByteArray) (hl : l.length ≤ 9223372036854775807) : FnSpec PR f_slices_Contains_Lstring_string [aSs l, aS x] (ab (hasS x l)) [] 0 := by
  refine FnSpec.intro hT p_slices_Contains_Lstring_string rfl (by kernel_rfl) n_slices_Contains_Lstring_string rfl ?_
  conv => whnf
  refine .inl ⟨_, _, _, slices_IndexS_spec l x hl, rfl, ?_⟩
  have h := idxL_any (fun y => decide (x = y)) l 0
  ((conv => whnf); simp only [St.mk.injEq, List.cons.injEq, Prod.mk.injEq, AV.c.injEq, AV.agg.injEq, AV.tup.injEq, CV.d.injEq, D.int.injEq, D.bool.injEq, D.str.injEq, D.sl.injEq, Ent.arr.injEq, Ent.box.injEq, true_and, and_true, and_self, nInt_eq, Int.natCast_zero, dLen_eL, sLen_eq, iLe])
  rw [Bool.eq_iff_iff, decide_eq_true_eq]
  exact h

theorem impl_areNames_spec (l : List ByteArray) (hl : l.length ≤ 1048576) (hs : ∀ s ∈ l, s.size ≤ 9223372036854775807) : FnSpec PR f_impl_areNames [aSs l] (ab (namesL l l 0)) [] 0 := by
  refine FnSpec.intro hT p_impl_areNames rfl (by kernel_rfl) n_impl_areNames rfl ?_
  conv => whnf
  refine tri_loop hT [0, 5, 6, 7] (α := Nat) (fun k => { t := [(0, aSs l), (5, aSs l), (6, ai l.length), (7, ai k)], h := [], n := 0, N := 23 })
    (fun k => k ≤ l.length ∧ namesL l (l.drop k) k = namesL l l 0) (fun k => l.length - k) 0 (by ((conv => whnf); simp only [St.mk.injEq, List.cons.injEq, Prod.mk.injEq, AV.c.injEq, AV.agg.injEq, AV.tup.injEq, CV.d.injEq, D.int.injEq, D.bool.injEq, D.str.injEq, D.sl.injEq, Ent.arr.injEq, Ent.box.injEq, true_and, and_true, and_self, nInt_eq, Int.natCast_zero, dLen_eL, sLen_eq])) ⟨Nat.zero_le _, rfl⟩ ?_
  intro k ⟨hk, hi⟩
  (conv => whnf)
  refine ifB_i (fun h1 => ?_) (fun h1 => ?_) <;> (conv => whnf) <;> simp at h1
  · obtain ⟨s, hs'⟩ := get_lt h1
    rw [drop_at hs', namesL] at hi
    refine idx_at (by simp) hs' ?_
    (conv => whnf)
    refine .inl ⟨_, _, _, impl_NameOk_spec s (hs s (List.mem_of_getElem? hs')), rfl, ?_⟩
    (conv => whnf)
    cases hb : nameOk s <;> (conv => whnf)
    · rw [hb] at hi
      rw [← hi]
      simp
    · rw [hb, Bool.true_and] at hi
      refine And.intro (by simp; omega) ?_
      rw [dCut_take]
      (conv => whnf)
      refine .inl ⟨_, _, _, slices_ContainsS_spec (l.take k) s (by simp; omega), rfl, ?_⟩
      (conv => whnf)
      cases hh : hasS s (l.take k) <;> (conv => whnf)
      · rw [hh] at hi
        refine ⟨k + 1, by omega, ⟨h1, by simpa using hi⟩, ?_⟩
        ((conv => whnf); simp only [St.mk.injEq, List.cons.injEq, Prod.mk.injEq, AV.c.injEq, AV.agg.injEq, AV.tup.injEq, CV.d.injEq, D.int.injEq, D.bool.injEq, D.str.injEq, D.sl.injEq, Ent.arr.injEq, Ent.box.injEq, true_and, and_true, and_self, nInt_eq, Int.natCast_zero, dLen_eL, sLen_eq, wI h1 (by omega)])
      · rw [hh] at hi
        rw [← hi]
        rfl
  · obtain rfl : k = l.length := by omega
    simp only [List.drop_length, namesL] at hi
    rw [← hi]

theorem impl_isSign_spec (x : Int) : FnSpec PR f_impl_isSign [ai x] (ab (decide (-1 ≤ x ∧ x ≤ 1))) [] 0 := by
  refine FnSpec.intro hT p_impl_isSign rfl (by kernel_rfl) n_impl_isSign rfl ?_
  conv => whnf
  refine .inl ⟨_, _, _, impl_within_spec _ _ _, rfl, ?_⟩
  (conv => whnf)

theorem impl_ModelOk_1_spec (x : Int) : FnSpec PR f_impl_ModelOk_1 [ai x] (ab (bNot (decide (-1 ≤ x ∧ x ≤ 1)))) [] 0 := by
  refine FnSpec.intro hT p_impl_ModelOk_1 rfl (by kernel_rfl) n_impl_ModelOk_1 rfl ?_
  conv => whnf
  refine .inl ⟨_, _, _, impl_isSign_spec _, rfl, ?_⟩
  (conv => whnf)

theorem impl_ModelOk_2_spec (t : List Nd) (n : Int) (hl : t.length ≤ 1048576) : FnSpec PR f_impl_ModelOk_2 [aT t, .c (.d (.rp [.int .i64 n]))] (ab (bNot (treeOk t n))) [] 0 := by
  refine FnSpec.intro hT p_impl_ModelOk_2 rfl (by kernel_rfl) n_impl_ModelOk_2 rfl ?_
  conv => whnf
  refine .inl ⟨_, _, _, impl_TreeOk_spec t n hl, rfl, ?_⟩
  (conv => whnf)

def signOk (x : Int) : Bool := decide (-1 ≤ x ∧ x ≤ 1)
def modelOk (m : Mdl) : Bool :=
  decide (1 ≤ (m.names.length : Int) ∧ (m.names.length : Int) ≤ 4) && ((decide (m.signs.length = 0) || decide (m.signs.length = m.names.length)) && (decide (-2147483647 ≤ m.base ∧ m.base ≤ 2147483647) && (decide (m.trees.length ≤ 8) &&
    (namesL m.names m.names 0 && (m.signs.all signOk && m.trees.all fun t => treeOk t m.names.length)))))

set_option maxHeartbeats 1000000 in
theorem spec_ModelOk_spec (m : Mdl) (hn : m.names.length ≤ 1048576) (hns : ∀ s ∈ m.names, s.size ≤ 9223372036854775807) (hs : m.signs.length ≤ 1048576) (hm : m.trees.length ≤ 1048576) (ht : ∀ t ∈ m.trees, t.length ≤ 1048576) : FnSpec PR f_spec_ModelOk [aM m] (ab (modelOk m)) [] 0 := by
  have eS : nInt (dLen (eL cI m.signs)) = (m.signs.length : Int) := by simp
  have eN : nInt (dLen (eL cS m.names)) = (m.names.length : Int) := by simp
  have eT : nInt (dLen (eL cT m.trees)) = (m.trees.length : Int) := by simp
  refine FnSpec.intro hT p_spec_ModelOk rfl (by kernel_rfl) n_spec_ModelOk rfl ?_
  conv => whnf
  rw [eN]
  refine .inl ⟨_, _, _, spec_l1In_spec _ _ _, rfl, ?_⟩
  (conv => whnf)
  refine ifB_i (fun h1 => ?_) (fun h1 => ?_) <;> (conv => whnf) <;> simp only [nInt_eq, Int.natCast_zero, dLen_eL, sLen_eq, nOf_eq, Int.toNat_natCast, nAdd_eq, nSub_eq, dLen_nil, dLen_cons, iLt_t, iLt_f, iLe_t, iLe_f, iEq_t, iEq_f, sEq_t, sEq_f, bNot_t, bNot_f, bAnd_t, bEq_t, bEq_f, Bool.not_eq_true, Bool.not_eq_false, Bool.true_eq_false, Bool.false_eq_true] at h1
  · have : decide (1 ≤ (m.names.length : Int) ∧ (m.names.length : Int) ≤ 4) = false := by simpa using h1
    simp [modelOk, this]
  rw [eS]
  generalize e1 : iEq (m.signs.length : Int) 0 = c1
  cases c1 <;> (conv => whnf)
  · rw [eS]
    generalize e2 : iEq (m.signs.length : Int) (m.names.length : Int) = c2
    have h0 : ¬ m.signs.length = 0 := by intro h; rw [h] at e1; simp [iEq] at e1
    cases c2 <;> (conv => whnf)
    · have : ¬ m.signs.length = m.names.length := by intro h; rw [h] at e2; simp [iEq] at e2
      simp [modelOk, h0, this]
    · have hsg : (decide (m.signs.length = 0) || decide (m.signs.length = m.names.length)) = true := by
        have : (m.signs.length : Int) = m.names.length := by simpa [iEq] using e2
        rw [decide_eq_true (show m.signs.length = m.names.length by omega)]; simp
      refine .inl ⟨_, _, _, spec_l6Value_spec _, rfl, ?_⟩
      (conv => whnf)
      generalize e3 : decide (-2147483647 ≤ m.base ∧ m.base ≤ 2147483647) = c3
      cases c3 <;> (conv => whnf)
      · simp [modelOk, e3]
      rw [eT]
      generalize e4 : iLt 8 (m.trees.length : Int) = c4
      cases c4 <;> (conv => whnf)
      rotate_left
      · have : ¬ m.trees.length ≤ 8 := by have : (8 : Int) < m.trees.length := by simpa [iLt] using e4
                                          omega
        simp [modelOk, this]
      have h4 : decide (m.trees.length ≤ 8) = true := decide_eq_true (by have : ¬ (8 : Int) < m.trees.length := by simpa [iLt] using e4
                                                                         omega)
      have hmo : modelOk m = (namesL m.names m.names 0 && (m.signs.all signOk && m.trees.all fun t => treeOk t m.names.length)) := by simp only [modelOk]; rw [h1, hsg, e3, h4]; rfl
      rw [hmo]
      refine tri_loop hT [1, 3, 4] (α := Nat) (fun k => { t := [(1, .c (.ptr 0 0)), (3, ai m.names.length), (4, ai k)], h := [(0, .box t_impl_Model (cM m))], n := 1, N := 91 })
        (fun k => k ≤ m.names.length ∧ namesL m.names (m.names.drop k) k = namesL m.names m.names 0) (fun k => m.names.length - k) 0 (by ((conv => whnf); simp only [St.mk.injEq, List.cons.injEq, Prod.mk.injEq, AV.c.injEq, AV.agg.injEq, AV.tup.injEq, CV.d.injEq, D.int.injEq, D.bool.injEq, D.str.injEq, D.sl.injEq, Ent.arr.injEq, Ent.box.injEq, true_and, and_true, and_self, nInt_eq, Int.natCast_zero, dLen_eL, sLen_eq]); first | done | simp) ⟨Nat.zero_le _, rfl⟩ ?_
      intro k ⟨hk, hi⟩
      (conv => whnf)
      refine ifB_i (fun g1 => ?_) (fun g1 => ?_) <;> (conv => whnf) <;> simp at g1
      · obtain ⟨s, hs'⟩ := get_lt g1
        rw [drop_at hs', namesL] at hi
        refine tri_conf hT hmix (by kernel_rfl) ?_
        (conv => whnf)
        refine idx_at (by simp) hs' ?_
        (conv => whnf)
        refine ⟨_, _, spec_NameOk_spec s (hns s (List.mem_of_getElem? hs')), rfl, ?_⟩
        cases hb : nameOk s
        · (conv => whnf)
          repeat' (first | (refine And.intro (fun q => ?_) (fun q => ?_) <;> cases q <;> (conv => whnf)) | fail)
          rw [hb] at hi
          have : namesL m.names m.names 0 = false := by rw [← hi]; simp
          rw [this]
          (conv => whnf)
          rfl
        · rw [hb, Bool.true_and] at hi
          (conv => whnf)
          repeat' (first | (refine And.intro (fun q => ?_) (fun q => ?_) <;> cases q <;> (conv => whnf)) | fail)
          refine And.intro (by simp; omega) ?_
          rw [dCut_take]
          (conv => whnf)
          repeat' (first | (refine And.intro (fun q => ?_) (fun q => ?_) <;> cases q <;> (conv => whnf)) | fail)
          refine idx_at (by simp) hs' ?_
          (conv => whnf)
          repeat' (first | (refine And.intro (fun q => ?_) (fun q => ?_) <;> cases q <;> (conv => whnf)) | fail)
          refine ⟨_, _, spec_l9Has_spec (m.names.take k) s (by simp; omega), rfl, ?_⟩
          cases hh : hasS s (m.names.take k)
          · (conv => whnf)
            repeat' (first | (refine And.intro (fun q => ?_) (fun q => ?_) <;> cases q <;> (conv => whnf)) | fail)
            rw [hh] at hi
            refine ⟨k + 1, by omega, ⟨g1, by simpa using hi⟩, ?_⟩
            ((conv => whnf); simp only [St.mk.injEq, List.cons.injEq, Prod.mk.injEq, AV.c.injEq, AV.agg.injEq, AV.tup.injEq, CV.d.injEq, D.int.injEq, D.bool.injEq, D.str.injEq, D.sl.injEq, Ent.arr.injEq, Ent.box.injEq, true_and, and_true, and_self, nInt_eq, Int.natCast_zero, dLen_eL, sLen_eq, wI g1 (by omega)])
          · (conv => whnf)
            repeat' (first | (refine And.intro (fun q => ?_) (fun q => ?_) <;> cases q <;> (conv => whnf)) | fail)
            rw [hh] at hi
            have : namesL m.names m.names 0 = false := by rw [← hi]; simp
            rw [this]
            (conv => whnf)
            rfl
      · obtain rfl : k = m.names.length := by omega
        simp only [List.drop_length, namesL] at hi
        rw [← hi, Bool.true_and]
        refine tri_loop hT [1, 3, 5] (α := Nat) (fun k => { t := [(1, .c (.ptr 0 0)), (3, ai m.names.length), (5, ai k)], h := [(0, .box t_impl_Model (cM m))], n := 1, N := 91 })
          (fun k => k ≤ m.signs.length ∧ (m.signs.drop k).all signOk = m.signs.all signOk) (fun k => m.signs.length - k) 0 (by ((conv => whnf); simp only [St.mk.injEq, List.cons.injEq, Prod.mk.injEq, AV.c.injEq, AV.agg.injEq, AV.tup.injEq, CV.d.injEq, D.int.injEq, D.bool.injEq, D.str.injEq, D.sl.injEq, Ent.arr.injEq, Ent.box.injEq, true_and, and_true, and_self, nInt_eq, Int.natCast_zero, dLen_eL, sLen_eq])) ⟨Nat.zero_le _, rfl⟩ ?_
        intro k ⟨hk2, hj⟩
        (conv => whnf)
        refine ifB_i (fun g2 => ?_) (fun g2 => ?_) <;> (conv => whnf) <;> simp at g2
        · obtain ⟨x, hx⟩ := get_lt g2
          rw [drop_at hx, List.all_cons] at hj
          refine idx_at (by simp) hx ?_
          (conv => whnf)
          refine .inl ⟨_, _, _, spec_l1In_spec _ _ _, rfl, ?_⟩
          rw [show decide (-1 ≤ x ∧ x ≤ 1) = signOk x from rfl]
          cases hb : signOk x
          · (conv => whnf)
            rw [hb] at hj
            rw [← hj]
            rfl
          · (conv => whnf)
            rw [hb] at hj
            refine ⟨k + 1, by omega, ⟨g2, by simpa using hj⟩, ?_⟩
            ((conv => whnf); simp only [St.mk.injEq, List.cons.injEq, Prod.mk.injEq, AV.c.injEq, AV.agg.injEq, AV.tup.injEq, CV.d.injEq, D.int.injEq, D.bool.injEq, D.str.injEq, D.sl.injEq, Ent.arr.injEq, Ent.box.injEq, true_and, and_true, and_self, nInt_eq, Int.natCast_zero, dLen_eL, sLen_eq, wI g2 (by omega)])
        · obtain rfl : k = m.signs.length := by omega
          simp only [List.drop_length, List.all_nil] at hj
          rw [← hj, Bool.true_and]
          refine tri_loop hT [1, 3, 6] (α := Nat) (fun k => { t := [(1, .c (.ptr 0 0)), (3, ai m.names.length), (6, ai k)], h := [(0, .box t_impl_Model (cM m))], n := 1, N := 91 })
            (fun k => k ≤ m.trees.length ∧ ((m.trees.drop k).all fun t => treeOk t m.names.length) = m.trees.all fun t => treeOk t m.names.length) (fun k => m.trees.length - k) 0 (by ((conv => whnf); simp only [St.mk.injEq, List.cons.injEq, Prod.mk.injEq, AV.c.injEq, AV.agg.injEq, AV.tup.injEq, CV.d.injEq, D.int.injEq, D.bool.injEq, D.str.injEq, D.sl.injEq, Ent.arr.injEq, Ent.box.injEq, true_and, and_true, and_self, nInt_eq, Int.natCast_zero, dLen_eL, sLen_eq])) ⟨Nat.zero_le _, rfl⟩ ?_
          intro k ⟨hk3, hl⟩
          (conv => whnf)
          refine ifB_i (fun g3 => ?_) (fun g3 => ?_) <;> (conv => whnf) <;> simp at g3
          · obtain ⟨t, ht'⟩ := get_lt g3
            rw [drop_at ht', List.all_cons] at hl
            refine idx_at (by simp) ht' ?_
            (conv => whnf)
            refine .inl ⟨_, _, _, spec_TreeOk_spec t m.names.length (ht t (List.mem_of_getElem? ht')), rfl, ?_⟩
            cases hb : treeOk t m.names.length
            · (conv => whnf)
              rw [hb] at hl
              rw [← hl]
              rfl
            · (conv => whnf)
              rw [hb] at hl
              refine ⟨k + 1, by omega, ⟨g3, by simpa using hl⟩, ?_⟩
              ((conv => whnf); simp only [St.mk.injEq, List.cons.injEq, Prod.mk.injEq, AV.c.injEq, AV.agg.injEq, AV.tup.injEq, CV.d.injEq, D.int.injEq, D.bool.injEq, D.str.injEq, D.sl.injEq, Ent.arr.injEq, Ent.box.injEq, true_and, and_true, and_self, nInt_eq, Int.natCast_zero, dLen_eL, sLen_eq, wI g3 (by omega)])
          · obtain rfl : k = m.trees.length := by omega
            simp only [List.drop_length, List.all_nil] at hl
            rw [← hl]
  · have hsg : (decide (m.signs.length = 0) || decide (m.signs.length = m.names.length)) = true := by
      have : (m.signs.length : Int) = 0 := by simpa [iEq] using e1
      rw [decide_eq_true (show m.signs.length = 0 by omega)]; rfl
    refine .inl ⟨_, _, _, spec_l6Value_spec _, rfl, ?_⟩
    (conv => whnf)
    generalize e3 : decide (-2147483647 ≤ m.base ∧ m.base ≤ 2147483647) = c3
    cases c3 <;> (conv => whnf)
    · simp [modelOk, e3]
    rw [eT]
    generalize e4 : iLt 8 (m.trees.length : Int) = c4
    cases c4 <;> (conv => whnf)
    rotate_left
    · have : ¬ m.trees.length ≤ 8 := by have : (8 : Int) < m.trees.length := by simpa [iLt] using e4
                                        omega
      simp [modelOk, this]
    have h4 : decide (m.trees.length ≤ 8) = true := decide_eq_true (by have : ¬ (8 : Int) < m.trees.length := by simpa [iLt] using e4
                                                                       omega)
    have hmo : modelOk m = (namesL m.names m.names 0 && (m.signs.all signOk && m.trees.all fun t => treeOk t m.names.length)) := by simp only [modelOk]; rw [h1, hsg, e3, h4]; rfl
    rw [hmo]
    refine tri_loop hT [1, 3, 4] (α := Nat) (fun k => { t := [(1, .c (.ptr 0 0)), (3, ai m.names.length), (4, ai k)], h := [(0, .box t_impl_Model (cM m))], n := 1, N := 91 })
      (fun k => k ≤ m.names.length ∧ namesL m.names (m.names.drop k) k = namesL m.names m.names 0) (fun k => m.names.length - k) 0 (by ((conv => whnf); simp only [St.mk.injEq, List.cons.injEq, Prod.mk.injEq, AV.c.injEq, AV.agg.injEq, AV.tup.injEq, CV.d.injEq, D.int.injEq, D.bool.injEq, D.str.injEq, D.sl.injEq, Ent.arr.injEq, Ent.box.injEq, true_and, and_true, and_self, nInt_eq, Int.natCast_zero, dLen_eL, sLen_eq]); first | done | simp) ⟨Nat.zero_le _, rfl⟩ ?_
    intro k ⟨hk, hi⟩
    (conv => whnf)
    refine ifB_i (fun g1 => ?_) (fun g1 => ?_) <;> (conv => whnf) <;> simp at g1
    · obtain ⟨s, hs'⟩ := get_lt g1
      rw [drop_at hs', namesL] at hi
      refine tri_conf hT hmix (by kernel_rfl) ?_
      (conv => whnf)
      refine idx_at (by simp) hs' ?_
      (conv => whnf)
      refine ⟨_, _, spec_NameOk_spec s (hns s (List.mem_of_getElem? hs')), rfl, ?_⟩
      cases hb : nameOk s
      · (conv => whnf)
        repeat' (first | (refine And.intro (fun q => ?_) (fun q => ?_) <;> cases q <;> (conv => whnf)) | fail)
        rw [hb] at hi
        have : namesL m.names m.names 0 = false := by rw [← hi]; simp
        rw [this]
        (conv => whnf)
        rfl
      · rw [hb, Bool.true_and] at hi
        (conv => whnf)
        repeat' (first | (refine And.intro (fun q => ?_) (fun q => ?_) <;> cases q <;> (conv => whnf)) | fail)
        refine And.intro (by simp; omega) ?_
        rw [dCut_take]
        (conv => whnf)
        repeat' (first | (refine And.intro (fun q => ?_) (fun q => ?_) <;> cases q <;> (conv => whnf)) | fail)
        refine idx_at (by simp) hs' ?_
        (conv => whnf)
        repeat' (first | (refine And.intro (fun q => ?_) (fun q => ?_) <;> cases q <;> (conv => whnf)) | fail)
        refine ⟨_, _, spec_l9Has_spec (m.names.take k) s (by simp; omega), rfl, ?_⟩
        cases hh : hasS s (m.names.take k)
        · (conv => whnf)
          repeat' (first | (refine And.intro (fun q => ?_) (fun q => ?_) <;> cases q <;> (conv => whnf)) | fail)
          rw [hh] at hi
          refine ⟨k + 1, by omega, ⟨g1, by simpa using hi⟩, ?_⟩
          ((conv => whnf); simp only [St.mk.injEq, List.cons.injEq, Prod.mk.injEq, AV.c.injEq, AV.agg.injEq, AV.tup.injEq, CV.d.injEq, D.int.injEq, D.bool.injEq, D.str.injEq, D.sl.injEq, Ent.arr.injEq, Ent.box.injEq, true_and, and_true, and_self, nInt_eq, Int.natCast_zero, dLen_eL, sLen_eq, wI g1 (by omega)])
        · (conv => whnf)
          repeat' (first | (refine And.intro (fun q => ?_) (fun q => ?_) <;> cases q <;> (conv => whnf)) | fail)
          rw [hh] at hi
          have : namesL m.names m.names 0 = false := by rw [← hi]; simp
          rw [this]
          (conv => whnf)
          rfl
    · obtain rfl : k = m.names.length := by omega
      simp only [List.drop_length, namesL] at hi
      rw [← hi, Bool.true_and]
      refine tri_loop hT [1, 3, 5] (α := Nat) (fun k => { t := [(1, .c (.ptr 0 0)), (3, ai m.names.length), (5, ai k)], h := [(0, .box t_impl_Model (cM m))], n := 1, N := 91 })
        (fun k => k ≤ m.signs.length ∧ (m.signs.drop k).all signOk = m.signs.all signOk) (fun k => m.signs.length - k) 0 (by ((conv => whnf); simp only [St.mk.injEq, List.cons.injEq, Prod.mk.injEq, AV.c.injEq, AV.agg.injEq, AV.tup.injEq, CV.d.injEq, D.int.injEq, D.bool.injEq, D.str.injEq, D.sl.injEq, Ent.arr.injEq, Ent.box.injEq, true_and, and_true, and_self, nInt_eq, Int.natCast_zero, dLen_eL, sLen_eq])) ⟨Nat.zero_le _, rfl⟩ ?_
      intro k ⟨hk2, hj⟩
      (conv => whnf)
      refine ifB_i (fun g2 => ?_) (fun g2 => ?_) <;> (conv => whnf) <;> simp at g2
      · obtain ⟨x, hx⟩ := get_lt g2
        rw [drop_at hx, List.all_cons] at hj
        refine idx_at (by simp) hx ?_
        (conv => whnf)
        refine .inl ⟨_, _, _, spec_l1In_spec _ _ _, rfl, ?_⟩
        rw [show decide (-1 ≤ x ∧ x ≤ 1) = signOk x from rfl]
        cases hb : signOk x
        · (conv => whnf)
          rw [hb] at hj
          rw [← hj]
          rfl
        · (conv => whnf)
          rw [hb] at hj
          refine ⟨k + 1, by omega, ⟨g2, by simpa using hj⟩, ?_⟩
          ((conv => whnf); simp only [St.mk.injEq, List.cons.injEq, Prod.mk.injEq, AV.c.injEq, AV.agg.injEq, AV.tup.injEq, CV.d.injEq, D.int.injEq, D.bool.injEq, D.str.injEq, D.sl.injEq, Ent.arr.injEq, Ent.box.injEq, true_and, and_true, and_self, nInt_eq, Int.natCast_zero, dLen_eL, sLen_eq, wI g2 (by omega)])
      · obtain rfl : k = m.signs.length := by omega
        simp only [List.drop_length, List.all_nil] at hj
        rw [← hj, Bool.true_and]
        refine tri_loop hT [1, 3, 6] (α := Nat) (fun k => { t := [(1, .c (.ptr 0 0)), (3, ai m.names.length), (6, ai k)], h := [(0, .box t_impl_Model (cM m))], n := 1, N := 91 })
          (fun k => k ≤ m.trees.length ∧ ((m.trees.drop k).all fun t => treeOk t m.names.length) = m.trees.all fun t => treeOk t m.names.length) (fun k => m.trees.length - k) 0 (by ((conv => whnf); simp only [St.mk.injEq, List.cons.injEq, Prod.mk.injEq, AV.c.injEq, AV.agg.injEq, AV.tup.injEq, CV.d.injEq, D.int.injEq, D.bool.injEq, D.str.injEq, D.sl.injEq, Ent.arr.injEq, Ent.box.injEq, true_and, and_true, and_self, nInt_eq, Int.natCast_zero, dLen_eL, sLen_eq])) ⟨Nat.zero_le _, rfl⟩ ?_
        intro k ⟨hk3, hl⟩
        (conv => whnf)
        refine ifB_i (fun g3 => ?_) (fun g3 => ?_) <;> (conv => whnf) <;> simp at g3
        · obtain ⟨t, ht'⟩ := get_lt g3
          rw [drop_at ht', List.all_cons] at hl
          refine idx_at (by simp) ht' ?_
          (conv => whnf)
          refine .inl ⟨_, _, _, spec_TreeOk_spec t m.names.length (ht t (List.mem_of_getElem? ht')), rfl, ?_⟩
          cases hb : treeOk t m.names.length
          · (conv => whnf)
            rw [hb] at hl
            rw [← hl]
            rfl
          · (conv => whnf)
            rw [hb] at hl
            refine ⟨k + 1, by omega, ⟨g3, by simpa using hl⟩, ?_⟩
            ((conv => whnf); simp only [St.mk.injEq, List.cons.injEq, Prod.mk.injEq, AV.c.injEq, AV.agg.injEq, AV.tup.injEq, CV.d.injEq, D.int.injEq, D.bool.injEq, D.str.injEq, D.sl.injEq, Ent.arr.injEq, Ent.box.injEq, true_and, and_true, and_self, nInt_eq, Int.natCast_zero, dLen_eL, sLen_eq, wI g3 (by omega)])
        · obtain rfl : k = m.trees.length := by omega
          simp only [List.drop_length, List.all_nil] at hl
          rw [← hl]

theorem any_all {α : Type} (p : α → Bool) (l : List α) : (l.any fun x => bNot (p x)) = !l.all p := by
  induction l with
  | nil => rfl
  | cons x r ih => rw [List.any_cons, List.all_cons, ih, Bool.not_and]; rfl
set_option maxHeartbeats 1000000 in
theorem impl_ModelOk_spec (m : Mdl) (hn : m.names.length ≤ 1048576) (hns : ∀ s ∈ m.names, s.size ≤ 9223372036854775807) (hs : m.signs.length ≤ 1048576) (hm : m.trees.length ≤ 1048576) (ht : ∀ t ∈ m.trees, t.length ≤ 1048576) : FnSpec PR f_impl_ModelOk [aM m] (ab (modelOk m)) [] 0 := by
  have eS : nInt (dLen (eL cI m.signs)) = (m.signs.length : Int) := by simp
  have eN : nInt (dLen (eL cS m.names)) = (m.names.length : Int) := by simp
  have eT : nInt (dLen (eL cT m.trees)) = (m.trees.length : Int) := by simp
  refine FnSpec.intro hT p_impl_ModelOk rfl (by kernel_rfl) n_impl_ModelOk rfl ?_
  conv => whnf
  rw [eN]
  refine .inl ⟨_, _, _, impl_within_spec _ _ _, rfl, ?_⟩
  (conv => whnf)
  refine ifB_i (fun h1 => ?_) (fun h1 => ?_) <;> (conv => whnf) <;> simp only [nInt_eq, Int.natCast_zero, dLen_eL, sLen_eq, nOf_eq, Int.toNat_natCast, nAdd_eq, nSub_eq, dLen_nil, dLen_cons, iLt_t, iLt_f, iLe_t, iLe_f, iEq_t, iEq_f, sEq_t, sEq_f, bNot_t, bNot_f, bAnd_t, bEq_t, bEq_f, Bool.not_eq_true, Bool.not_eq_false, Bool.true_eq_false, Bool.false_eq_true] at h1
  · have : decide (1 ≤ (m.names.length : Int) ∧ (m.names.length : Int) ≤ 4) = false := by simpa using h1
    simp [modelOk, this]
  refine .inl ⟨_, _, _, impl_areNames_spec m.names hn hns, rfl, ?_⟩
  cases hnm : namesL m.names m.names 0
  · (conv => whnf)
    simp [modelOk, hnm]
  (conv => whnf)
  rw [eS]
  generalize e1 : iEq (m.signs.length : Int) 0 = c1
  cases c1 <;> (conv => whnf)
  · rw [eS]
    generalize e2 : iEq (m.signs.length : Int) (m.names.length : Int) = c2
    have h0 : ¬ m.signs.length = 0 := by intro h; rw [h] at e1; simp [iEq] at e1
    cases c2 <;> (conv => whnf)
    · have : ¬ m.signs.length = m.names.length := by intro h; rw [h] at e2; simp [iEq] at e2
      simp [modelOk, h0, this]
    · have hsg : (decide (m.signs.length = 0) || decide (m.signs.length = m.names.length)) = true := by
        have : (m.signs.length : Int) = m.names.length := by simpa [iEq] using e2
        rw [decide_eq_true (show m.signs.length = m.names.length by omega)]; simp
      refine .inl ⟨_, _, _, slices_ContainsFunc_Lint_int_0 m.signs f_impl_ModelOk_1 (fun x => bNot (signOk x)) (fun x _ => impl_ModelOk_1_spec x) (by omega), rfl, ?_⟩
      rw [any_all]
      cases hsa : m.signs.all signOk
      rotate_left
      · (conv => whnf)
        refine .inl ⟨_, _, _, impl_isDecimal_spec _, rfl, ?_⟩
        (conv => whnf)
        generalize e3 : decide (-2147483647 ≤ m.base ∧ m.base ≤ 2147483647) = c3
        cases c3 <;> (conv => whnf)
        · simp [modelOk, e3]
        rw [eT]
        generalize e4 : iLe (m.trees.length : Int) 8 = c4
        cases c4 <;> (conv => whnf)
        · have : ¬ m.trees.length ≤ 8 := by have : ¬ (m.trees.length : Int) ≤ 8 := by simpa [iLe] using e4
                                            omega
          simp [modelOk, this]
        have h4 : decide (m.trees.length ≤ 8) = true := decide_eq_true (by have : (m.trees.length : Int) ≤ 8 := by simpa [iLe] using e4
                                                                           omega)
        refine .inr (.inl ⟨_, _, _, slices_ContainsFunc_Limpl_Tree_impl_Tree_1 m.trees f_impl_ModelOk_2 (.rp [.int .i64 m.names.length]) (fun t => bNot (treeOk t m.names.length)) (fun t htm => impl_ModelOk_2_spec t m.names.length (ht t htm)) (by omega), rfl, trivial, ?_⟩)
        rw [any_all]
        (conv => whnf)
        have hmo : modelOk m = m.trees.all fun t => treeOk t m.names.length := by simp only [modelOk]; rw [h1, hsg, e3, h4, hnm, hsa]; rfl
        rw [hmo]
        simp [bNot]
      · (conv => whnf)
        simp [modelOk, hsa]
  · have hsg : (decide (m.signs.length = 0) || decide (m.signs.length = m.names.length)) = true := by
      have : (m.signs.length : Int) = 0 := by simpa [iEq] using e1
      rw [decide_eq_true (show m.signs.length = 0 by omega)]; rfl
    refine .inl ⟨_, _, _, slices_ContainsFunc_Lint_int_0 m.signs f_impl_ModelOk_1 (fun x => bNot (signOk x)) (fun x _ => impl_ModelOk_1_spec x) (by omega), rfl, ?_⟩
    rw [any_all]
    cases hsa : m.signs.all signOk
    rotate_left
    · (conv => whnf)
      refine .inl ⟨_, _, _, impl_isDecimal_spec _, rfl, ?_⟩
      (conv => whnf)
      generalize e3 : decide (-2147483647 ≤ m.base ∧ m.base ≤ 2147483647) = c3
      cases c3 <;> (conv => whnf)
      · simp [modelOk, e3]
      rw [eT]
      generalize e4 : iLe (m.trees.length : Int) 8 = c4
      cases c4 <;> (conv => whnf)
      · have : ¬ m.trees.length ≤ 8 := by have : ¬ (m.trees.length : Int) ≤ 8 := by simpa [iLe] using e4
                                          omega
        simp [modelOk, this]
      have h4 : decide (m.trees.length ≤ 8) = true := decide_eq_true (by have : (m.trees.length : Int) ≤ 8 := by simpa [iLe] using e4
                                                                         omega)
      refine .inr (.inl ⟨_, _, _, slices_ContainsFunc_Limpl_Tree_impl_Tree_1 m.trees f_impl_ModelOk_2 (.rp [.int .i64 m.names.length]) (fun t => bNot (treeOk t m.names.length)) (fun t htm => impl_ModelOk_2_spec t m.names.length (ht t htm)) (by omega), rfl, trivial, ?_⟩)
      rw [any_all]
      (conv => whnf)
      have hmo : modelOk m = m.trees.all fun t => treeOk t m.names.length := by simp only [modelOk]; rw [h1, hsg, e3, h4, hnm, hsa]; rfl
      rw [hmo]
      simp [bNot]
    · (conv => whnf)
      simp [modelOk, hsa]
end Go.H.S
namespace Go.H.S
open Go Go.Proofs Go.H
attribute [local irreducible] Tri FnSpec FnSpecM FnSpecX FnSpecJ
set_option maxRecDepth 100000
set_option linter.unusedSimpArgs false
set_option linter.unusedVariables false


abbrev cB (b : Int × Int) : List CV := [.d (.int .i64 b.1), .d (.int .i64 b.2)]
abbrev aB (b : Int × Int) : AV := .agg (cB b)
def boundP (b : Int × Int) : Prop := b.1 ≤ b.2 ∧ (-1099511627776 ≤ b.1 ∧ b.1 ≤ 1099511627776) ∧ (-1099511627776 ≤ b.2 ∧ b.2 ≤ 1099511627776)
instance (b : Int × Int) : Decidable (boundP b) := by unfold boundP; infer_instance

theorem impl_BoundOk_spec (b : Int × Int) : FnSpec PR f_impl_BoundOk [aB b] (ab (decide (boundP b))) [] 0 := by
  refine FnSpec.intro hT p_impl_BoundOk rfl (by kernel_rfl) n_impl_BoundOk rfl ?_
  conv => whnf
  cases h1 : iLe b.1 b.2
  · (conv => whnf)
    rw [decide_eq_false (fun q : boundP b => by have := q.1; simp at h1; omega)]
  (conv => whnf)
  simp at h1
  refine .inl ⟨_, _, _, impl_isLeafValue_spec b.1, rfl, ?_⟩
  cases h2 : decide (-1099511627776 ≤ b.1 ∧ b.1 ≤ 1099511627776)
  · (conv => whnf)
    rw [decide_eq_false_iff_not] at h2
    rw [decide_eq_false (fun q : boundP b => h2 q.2.1)]
  (conv => whnf)
  rw [decide_eq_true_iff] at h2
  refine .inl ⟨_, _, _, impl_isLeafValue_spec b.2, rfl, ?_⟩
  (conv => whnf)
  rw [decide_eq_decide.2 (show boundP b ↔ (-1099511627776 ≤ b.2 ∧ b.2 ≤ 1099511627776) from ⟨fun q => q.2.2, fun q => ⟨by omega, h2, q⟩⟩)]

theorem spec_BoundOk_spec (b : Int × Int) : FnSpec PR f_spec_BoundOk [aB b] (ab (decide (boundP b))) [] 0 := by
  refine FnSpec.intro hT p_spec_BoundOk rfl (by kernel_rfl) n_spec_BoundOk rfl ?_
  conv => whnf
  cases h1 : iLe b.1 b.2
  · (conv => whnf)
    rw [decide_eq_false (fun q : boundP b => by have := q.1; simp at h1; omega)]
  (conv => whnf)
  simp at h1
  refine .inl ⟨_, _, _, spec_l14Leaf_spec b.1, rfl, ?_⟩
  cases h2 : decide (-1099511627776 ≤ b.1 ∧ b.1 ≤ 1099511627776)
  · (conv => whnf)
    rw [decide_eq_false_iff_not] at h2
    rw [decide_eq_false (fun q : boundP b => h2 q.2.1)]
  (conv => whnf)
  rw [decide_eq_true_iff] at h2
  refine .inl ⟨_, _, _, spec_l14Leaf_spec b.2, rfl, ?_⟩
  (conv => whnf)
  rw [decide_eq_decide.2 (show boundP b ↔ (-1099511627776 ≤ b.2 ∧ b.2 ≤ 1099511627776) from ⟨fun q => q.2.2, fun q => ⟨by omega, h2, q⟩⟩)]

theorem impl_HalfSum_spec (a b : Int) (ha : -4611686018427387904 ≤ a ∧ a ≤ 4611686018427387903) (hb : -4611686018427387904 ≤ b ∧ b ≤ 4611686018427387903) : FnSpec PR f_impl_HalfSum [ai a, ai b] (ai ((a + b) / 2)) [] 0 := by
  refine FnSpec.intro hT p_impl_HalfSum rfl (by kernel_rfl) n_impl_HalfSum rfl ?_
  conv => whnf
  refine And.intro (by unfold NN; omega) ?_
  (conv => whnf)
  refine And.intro (by unfold NN; omega) ?_
  (conv => whnf)
  rw [half_impl ha hb]

theorem spec_HalfSum_spec (a b : Int) (ha : -4611686018427387904 ≤ a ∧ a ≤ 4611686018427387903) (hb : -4611686018427387904 ≤ b ∧ b ≤ 4611686018427387903) : FnSpec PR f_spec_HalfSum [ai a, ai b] (ai ((a + b) / 2)) [] 0 := by
  refine FnSpec.intro hT p_spec_HalfSum rfl (by kernel_rfl) n_spec_HalfSum rfl ?_
  conv => whnf
  refine And.intro (by unfold NN; omega) ?_
  (conv => whnf)
  rw [half_spec ha hb]

abbrev tupIB (x : Int) (b : Bool) : AV := .tup [(false, [.d (.int .i64 x)]), (false, [.d (.bool b)])]
theorem floor_tdiv {a b : Int} (hb : 1 ≤ b) : a / b = a.tdiv b - (if a.tmod b ≠ 0 ∧ a < 0 then 1 else 0) := by
  rw [Int.tdiv_eq_ediv]
  have h0 : b ∣ a ↔ a.tmod b = 0 := ⟨fun h => Int.tmod_eq_zero_of_dvd h, fun h => Int.dvd_of_tmod_eq_zero h⟩
  have hs : b.sign = 1 := Int.sign_eq_one_of_pos (by omega)
  rw [hs]
  by_cases h1 : 0 ≤ a <;> by_cases h2 : b ∣ a
  · rw [if_pos (.inl h1), if_neg (by omega)]; omega
  · rw [if_pos (.inl h1), if_neg (by omega)]; omega
  · rw [if_pos (.inr h2), if_neg (fun q => q.1 (h0.1 h2))]; omega
  · rw [if_neg (by rintro (q | q); exact h1 q; exact h2 q), if_pos ⟨fun q => h2 (h0.2 q), by omega⟩]; omega
theorem tdiv_small {a b : Int} (ha : -4611686018427387904 ≤ a ∧ a ≤ 4611686018427387903) (hb : 1 ≤ b) : -4611686018427387904 ≤ a.tdiv b ∧ a.tdiv b ≤ 4611686018427387904 := by
  have h1 := Int.natAbs_tdiv_le_natAbs a b
  omega
theorem wQuo_small {a b : Int} (ha : -4611686018427387904 ≤ a ∧ a ≤ 4611686018427387903) (hb : 1 ≤ b) : wQuo .i64 a b = a.tdiv b := by
  have := tdiv_small ha hb
  unfold wQuo
  exact wrap64 (by omega) (by omega)
theorem impl_FloorDiv_spec (a b : Int) (ha : -4611686018427387904 ≤ a ∧ a ≤ 4611686018427387903) (hb : 1 ≤ b ∧ b ≤ 1000000) : FnSpec PR f_impl_FloorDiv [ai a, ai b] (tupIB (a / b) true) [] 0 := by
  refine FnSpec.intro hT p_impl_FloorDiv rfl (by kernel_rfl) n_impl_FloorDiv rfl ?_
  conv => whnf
  rw [show iEq b 0 = false from decide_eq_false (by omega)]
  (conv => whnf)
  rw [show iEq a (-9223372036854775808) = false from decide_eq_false (by omega)]
  (conv => whnf)
  refine And.intro (by unfold NZ; omega) ?_
  (conv => whnf)
  refine And.intro (by unfold NZ; omega) ?_
  (conv => whnf)
  rw [floor_tdiv hb.1]
  have hq := wQuo_small ha hb.1
  have hd := tdiv_small (b := b) ha hb.1
  have hm : wRem a b = a.tmod b := by unfold wRem; rfl
  rw [hq, hm]
  by_cases h1 : a.tmod b = 0
  · rw [show iEq (a.tmod b) 0 = true from decide_eq_true h1]
    (conv => whnf)
    rw [if_neg (fun q => q.1 h1), Int.sub_zero]
  · rw [show iEq (a.tmod b) 0 = false from decide_eq_false h1]
    (conv => whnf)
    rw [show iLt b 0 = false from decide_eq_false (by omega)]
    (conv => whnf)
    by_cases h2 : a < 0
    · rw [show iLt a 0 = true from decide_eq_true h2]
      (conv => whnf)
      rw [if_pos ⟨h1, h2⟩, wSub64] <;> omega
    · rw [show iLt a 0 = false from decide_eq_false h2]
      (conv => whnf)
      rw [if_neg (fun q => h2 q.2), Int.sub_zero]

theorem spec_FloorDiv_spec (a b : Int) (ha : -4611686018427387904 ≤ a ∧ a ≤ 4611686018427387903) (hb : 1 ≤ b ∧ b ≤ 1000000) : FnSpec PR f_spec_FloorDiv [ai a, ai b] (tupIB (a / b) true) [] 0 := by
  refine FnSpec.intro hT p_spec_FloorDiv rfl (by kernel_rfl) n_spec_FloorDiv rfl ?_
  conv => whnf
  rw [show iEq b 0 = false from decide_eq_false (by omega)]
  (conv => whnf)
  rw [show iEq b (-1) = false from decide_eq_false (by omega)]
  (conv => whnf)
  refine And.intro (by unfold NZ; omega) ?_
  (conv => whnf)
  refine And.intro (by unfold NZ; omega) ?_
  (conv => whnf)
  rw [floor_tdiv hb.1]
  have hq := wQuo_small ha hb.1
  have hd := tdiv_small (b := b) ha hb.1
  have hm : wRem a b = a.tmod b := by unfold wRem; rfl
  rw [hq, hm]
  by_cases h1 : a.tmod b = 0
  · rw [show iEq (a.tmod b) 0 = true from decide_eq_true h1]
    (conv => whnf)
    rw [if_neg (fun q => q.1 h1), Int.sub_zero]
  · rw [show iEq (a.tmod b) 0 = false from decide_eq_false h1]
    (conv => whnf)
    rw [show iLt b 0 = false from decide_eq_false (by omega)]
    (conv => whnf)
    by_cases h2 : a < 0
    · rw [show iLt a 0 = true from decide_eq_true h2]
      (conv => whnf)
      rw [if_pos ⟨h1, h2⟩, wSub64] <;> omega
    · rw [show iLt a 0 = false from decide_eq_false h2]
      (conv => whnf)
      rw [if_neg (fun q => h2 q.2), Int.sub_zero]

theorem impl_Free_spec : FnSpec PR f_impl_Free [] (aB (-1099511627776, 1099511627776)) [] 0 := by
  refine FnSpec.intro hT p_impl_Free rfl (by kernel_rfl) n_impl_Free rfl ?_
  conv => whnf

theorem spec_Free_spec : FnSpec PR f_spec_Free [] (aB (-1099511627776, 1099511627776)) [] 0 := by
  refine FnSpec.intro hT p_spec_Free rfl (by kernel_rfl) n_spec_Free rfl ?_
  conv => whnf

theorem eqBound_spec (a : Int × Int) : FnSpec PR f_laws_eqBound [aB a, aB a] (ab true) [] 0 := by
  refine FnSpec.intro hT p_laws_eqBound rfl (by kernel_rfl) n_laws_eqBound rfl ?_
  conv => whnf
  rw [show iEq a.1 a.1 = true from decide_eq_true rfl]
  (conv => whnf)
  rw [show iEq a.2 a.2 = true from decide_eq_true rfl]
  (conv => whnf)

def signFor (c : Cfg) (f : Int) : Int := if 0 ≤ f ∧ f ≤ (c.signs.length : Int) - 1 then (c.signs[f.toNat]?).getD 0 else 0
theorem impl_SignFor_spec (c : Cfg) (f : Int) (hc : c.signs.length ≤ 1048576) : FnSpec PR f_impl_SignFor [aCf c, ai f] (ai (signFor c f)) [] 0 := by
  refine FnSpec.intro hT p_impl_SignFor rfl (by kernel_rfl) n_impl_SignFor rfl ?_
  conv => whnf
  refine .inl ⟨_, _, _, impl_within_spec _ _ _, rfl, ?_⟩
  (conv => whnf)
  rw [show wSub .i64 (nInt (dLen (eL cI c.signs))) 1 = (c.signs.length : Int) - 1 from by rw [show nInt (dLen (eL cI c.signs)) = (c.signs.length : Int) by simp, wSub64] <;> omega]
  unfold signFor
  by_cases h : 0 ≤ f ∧ f ≤ (c.signs.length : Int) - 1
  · rw [decide_eq_true h, if_pos h]
    (conv => whnf)
    obtain ⟨x, hx⟩ := get_lt (show f.toNat < c.signs.length by omega)
    refine idx_at (show f = (f.toNat : Int) by omega) hx ?_
    (conv => whnf)
    rw [hx]; rfl
  · rw [decide_eq_false h, if_neg h]
    (conv => whnf)

theorem spec_SignFor_spec (c : Cfg) (f : Int) (hc : c.signs.length ≤ 1048576) : FnSpec PR f_spec_SignFor [aCf c, ai f] (ai (signFor c f)) [] 0 := by
  refine FnSpec.intro hT p_spec_SignFor rfl (by kernel_rfl) n_spec_SignFor rfl ?_
  conv => whnf
  refine .inl ⟨_, _, _, spec_l1In_spec _ _ _, rfl, ?_⟩
  (conv => whnf)
  rw [show wSub .i64 (nInt (dLen (eL cI c.signs))) 1 = (c.signs.length : Int) - 1 from by rw [show nInt (dLen (eL cI c.signs)) = (c.signs.length : Int) by simp, wSub64] <;> omega]
  unfold signFor
  by_cases h : 0 ≤ f ∧ f ≤ (c.signs.length : Int) - 1
  · rw [decide_eq_true h, if_pos h]
    (conv => whnf)
    obtain ⟨x, hx⟩ := get_lt (show f.toNat < c.signs.length by omega)
    refine idx_at (show f = (f.toNat : Int) by omega) hx ?_
    (conv => whnf)
    rw [hx]; rfl
  · rw [decide_eq_false h, if_neg h]
    (conv => whnf)

def leafV (n s lam : Int) (b : Int × Int) : Int := brought (s / (n + lam)) b.1 b.2
theorem leafV_in {n s lam : Int} {b : Int × Int} (h : b.1 ≤ b.2) : b.1 ≤ leafV n s lam b ∧ leafV n s lam b ≤ b.2 := by
  unfold leafV brought
  split
  · omega
  · split <;> omega

theorem impl_isCount_spec (n lam : Int) : FnSpec PR f_impl_isCount [ai n, ai lam] (ab (decide (0 ≤ n ∧ n ≤ 40) && decide (1 ≤ lam ∧ lam ≤ 100))) [] 0 := by
  refine FnSpec.intro hT p_impl_isCount rfl (by kernel_rfl) n_impl_isCount rfl ?_
  conv => whnf
  refine .inl ⟨_, _, _, impl_within_spec _ _ _, rfl, ?_⟩
  cases h : decide (0 ≤ n ∧ n ≤ 40)
  · (conv => whnf)
    rfl
  (conv => whnf)
  refine .inl ⟨_, _, _, impl_within_spec _ _ _, rfl, ?_⟩
  (conv => whnf)
  rw [Bool.true_and]
theorem impl_LeafOf_spec (n s lam : Int) (b : Int × Int) (hn : 0 ≤ n ∧ n ≤ 40) (hl : 1 ≤ lam ∧ lam ≤ 100) (hs : -4611686018427387904 ≤ s ∧ s ≤ 4611686018427387903) (hb : boundP b) :
    FnSpec PR f_impl_LeafOf [aB (n, s), ai lam, aB b] (tupIB (leafV n s lam b) true) [] 0 := by
  refine FnSpec.intro hT p_impl_LeafOf rfl (by kernel_rfl) n_impl_LeafOf rfl ?_
  conv => whnf
  refine .inl ⟨_, _, _, impl_isCount_spec n lam, rfl, ?_⟩
  rw [decide_eq_true hn, decide_eq_true hl]
  (conv => whnf)
  refine .inl ⟨_, _, _, impl_BoundOk_spec b, rfl, ?_⟩
  rw [decide_eq_true hb]
  (conv => whnf)
  rw [show wAdd .i64 n lam = n + lam from by rw [wAdd64] <;> omega]
  refine .inl ⟨_, _, _, impl_FloorDiv_spec s (n + lam) hs (by omega), rfl, ?_⟩
  (conv => whnf)
  refine .inl ⟨_, _, _, impl_Brought_spec _ _ _, rfl, ?_⟩
  (conv => whnf)
  rfl

theorem spec_LeafOf_spec (n s lam : Int) (b : Int × Int) (hn : 0 ≤ n ∧ n ≤ 40) (hl : 1 ≤ lam ∧ lam ≤ 100) (hs : -4611686018427387904 ≤ s ∧ s ≤ 4611686018427387903) (hb : boundP b) :
    FnSpec PR f_spec_LeafOf [aB (n, s), ai lam, aB b] (tupIB (leafV n s lam b) true) [] 0 := by
  refine FnSpec.intro hT p_spec_LeafOf rfl (by kernel_rfl) n_spec_LeafOf rfl ?_
  conv => whnf
  refine .inl ⟨_, _, _, spec_l1In_spec _ _ _, rfl, ?_⟩
  rw [decide_eq_true hn]
  (conv => whnf)
  refine .inl ⟨_, _, _, spec_l1In_spec _ _ _, rfl, ?_⟩
  rw [decide_eq_true hl]
  (conv => whnf)
  refine .inl ⟨_, _, _, spec_BoundOk_spec b, rfl, ?_⟩
  rw [decide_eq_true hb]
  (conv => whnf)
  rw [show wAdd .i64 n lam = n + lam from by rw [wAdd64] <;> omega]
  refine .inl ⟨_, _, _, spec_FloorDiv_spec s (n + lam) hs (by omega), rfl, ?_⟩
  (conv => whnf)
  refine .inl ⟨_, _, _, spec_Brought_spec _ _ _, rfl, ?_⟩
  (conv => whnf)
  rfl

def midV (p q : Int) (b : Int × Int) : Int := brought ((p + q) / 2) b.1 b.2
theorem midV_in {p q : Int} {b : Int × Int} (h : b.1 ≤ b.2) : b.1 ≤ midV p q b ∧ midV p q b ≤ b.2 := by
  unfold midV brought
  split
  · omega
  · split <;> omega
def sidesL (sign : Int) (b : Int × Int) (p q : Int) : (Int × Int) × (Int × Int) :=
  if sign = 1 then ((b.1, midV p q b), (midV p q b, b.2)) else if sign = -1 then ((midV p q b, b.2), (b.1, midV p q b)) else (b, b)
theorem sidesL_ok {sign : Int} {b : Int × Int} {p q : Int} (hb : boundP b) : boundP (sidesL sign b p q).1 ∧ boundP (sidesL sign b p q).2 := by
  have hm := midV_in (p := p) (q := q) hb.1
  have hb' := hb
  unfold boundP at hb'
  unfold sidesL
  split
  · unfold boundP; dsimp only; omega
  · split
    · unfold boundP; dsimp only; omega
    · exact ⟨hb, hb⟩
abbrev tupBB (x : (Int × Int) × (Int × Int)) : AV := .tup [(true, cB x.1), (true, cB x.2)]

theorem spec_SidesOf_spec (sign : Int) (b : Int × Int) (p q : Int) (hb : boundP b) (hp : -1099511627776 ≤ p ∧ p ≤ 1099511627776) (hq : -1099511627776 ≤ q ∧ q ≤ 1099511627776) :
    FnSpec PR f_spec_SidesOf [ai sign, aB b, ai p, ai q] (tupBB (sidesL sign b p q)) [] 0 := by
  refine FnSpec.intro hT p_spec_SidesOf rfl (by kernel_rfl) n_spec_SidesOf rfl ?_
  conv => whnf
  refine .inl ⟨_, _, _, spec_BoundOk_spec b, rfl, ?_⟩
  rw [decide_eq_true hb]
  (conv => whnf)
  refine tri_rp 0 ?_
  (conv => whnf)
  refine tri_every hT hmix [0, 5, 8, 9, 10] { t := [(0, ai sign), (5, .c (.d (.rp [.int .i64 b.1, .int .i64 b.2]))), (8, .c (.ptr 0 0)), (9, .c (.ptr 1 0)), (10, ai (midV p q b))], h := [(0, .box t_impl_Bound (cB (0, 0))), (1, .box t_impl_Bound (cB (0, 0)))], n := 2, N := 47 } rfl ?_ ?_
  · repeat' first
      | (refine anyV_one rfl ?_; (conv => whnf))
      | (refine anyV_two rfl ?_ ?_ <;> (conv => whnf))
      | (refine .inl ⟨_, _, _, spec_HalfSum_spec p q (by omega) (by omega), rfl, ?_⟩; (conv => whnf))
      | (refine .inl ⟨_, _, _, spec_Brought_spec _ _ _, rfl, ?_⟩; (conv => whnf))
      | (refine anyV_end rfl ?_; (conv => whnf); first | done | rfl)
  (conv => whnf)
  unfold sidesL
  by_cases h1 : sign = 1
  · rw [show iEq sign 1 = true from decide_eq_true h1, if_pos h1]
    (conv => whnf)
    refine tri_every hT hmix [8, 9] { t := [(8, .c (.ptr 0 0)), (9, .c (.ptr 1 0))], h := [(0, .box t_impl_Bound (cB (b.1, midV p q b))), (1, .box t_impl_Bound (cB (midV p q b, b.2)))], n := 2, N := 47 } rfl ?_ ?_
    · repeat' first
        | (refine anyV_one rfl ?_; (conv => whnf))
        | (refine anyV_two rfl ?_ ?_ <;> (conv => whnf))
        | (refine anyV_three rfl ?_ ?_ ?_ <;> (conv => whnf))
        | (refine anyV_four rfl ?_ ?_ ?_ ?_ <;> (conv => whnf))
        | (refine anyV_end rfl ?_; (conv => whnf); first | done | rfl)
    (conv => whnf)
  rw [show iEq sign 1 = false from decide_eq_false h1, if_neg h1]
  (conv => whnf)
  by_cases h2 : sign = -1
  · rw [show iEq sign (-1) = true from decide_eq_true h2, if_pos h2]
    (conv => whnf)
    refine tri_every hT hmix [8, 9] { t := [(8, .c (.ptr 0 0)), (9, .c (.ptr 1 0))], h := [(0, .box t_impl_Bound (cB (midV p q b, b.2))), (1, .box t_impl_Bound (cB (b.1, midV p q b)))], n := 2, N := 47 } rfl ?_ ?_
    · repeat' first
        | (refine anyV_one rfl ?_; (conv => whnf))
        | (refine anyV_two rfl ?_ ?_ <;> (conv => whnf))
        | (refine anyV_three rfl ?_ ?_ ?_ <;> (conv => whnf))
        | (refine anyV_four rfl ?_ ?_ ?_ ?_ <;> (conv => whnf))
        | (refine anyV_end rfl ?_; (conv => whnf); first | done | rfl)
    (conv => whnf)
  rw [show iEq sign (-1) = false from decide_eq_false h2, if_neg h2]
  (conv => whnf)
  refine tri_every hT hmix [8, 9] { t := [(8, .c (.ptr 0 0)), (9, .c (.ptr 1 0))], h := [(0, .box t_impl_Bound (cB b)), (1, .box t_impl_Bound (cB b))], n := 2, N := 47 } rfl ?_ ?_
  · repeat' first
      | (refine anyV_one rfl ?_; (conv => whnf))
      | (refine anyV_two rfl ?_ ?_ <;> (conv => whnf))
      | (refine anyV_three rfl ?_ ?_ ?_ <;> (conv => whnf))
      | (refine anyV_four rfl ?_ ?_ ?_ ?_ <;> (conv => whnf))
      | (refine anyV_end rfl ?_; (conv => whnf); first | done | rfl)
  (conv => whnf)

theorem impl_SidesOf_spec (sign : Int) (b : Int × Int) (p q : Int) (hb : boundP b) (hp : -1099511627776 ≤ p ∧ p ≤ 1099511627776) (hq : -1099511627776 ≤ q ∧ q ≤ 1099511627776) :
    FnSpec PR f_impl_SidesOf [ai sign, aB b, ai p, ai q] (tupBB (sidesL sign b p q)) [] 0 := by
  refine FnSpec.intro hT p_impl_SidesOf rfl (by kernel_rfl) n_impl_SidesOf rfl ?_
  conv => whnf
  refine tri_rp 0 ?_
  (conv => whnf)
  refine tri_every hT hmix [0, 5, 8, 9, 10] { t := [(0, ai sign), (5, .c (.d (.rp [.int .i64 b.1, .int .i64 b.2]))), (8, .c (.ptr 0 0)), (9, .c (.ptr 1 0)), (10, ai (midV p q b))], h := [(0, .box t_impl_Bound (cB (0, 0))), (1, .box t_impl_Bound (cB (0, 0)))], n := 2, N := 47 } rfl ?_ ?_
  · repeat' first
      | (refine anyV_one rfl ?_; (conv => whnf))
      | (refine anyV_two rfl ?_ ?_ <;> (conv => whnf))
      | (refine .inl ⟨_, _, _, impl_HalfSum_spec p q (by omega) (by omega), rfl, ?_⟩; (conv => whnf))
      | (refine .inl ⟨_, _, _, impl_Brought_spec _ _ _, rfl, ?_⟩; (conv => whnf))
      | (refine anyV_end rfl ?_; (conv => whnf); first | done | rfl)
  (conv => whnf)
  refine tri_every hT hmix [0, 5, 8, 9, 11, 12] { t := [(0, ai sign), (5, .c (.d (.rp [.int .i64 b.1, .int .i64 b.2]))), (8, .c (.ptr 0 0)), (9, .c (.ptr 1 0)), (11, .c (.ptr 2 0)), (12, .c (.ptr 3 0))], h := [(0, .box t_impl_Bound (cB (0, 0))), (1, .box t_impl_Bound (cB (0, 0))), (2, .box t_impl_Bound (cB (b.1, midV p q b))), (3, .box t_impl_Bound (cB (midV p q b, b.2)))], n := 4, N := 47 } rfl ?_ ?_
  · repeat' first
      | (refine anyV_one rfl ?_; (conv => whnf))
      | (refine anyV_two rfl ?_ ?_ <;> (conv => whnf))
      | (refine anyV_three rfl ?_ ?_ ?_ <;> (conv => whnf))
      | (refine anyV_four rfl ?_ ?_ ?_ ?_ <;> (conv => whnf))
      | (refine anyV_end rfl ?_; (conv => whnf); first | done | rfl)
  (conv => whnf)
  refine .inl ⟨_, _, _, impl_BoundOk_spec b, rfl, ?_⟩
  rw [decide_eq_true hb]
  (conv => whnf)
  unfold sidesL
  by_cases h1 : sign = 1
  · rw [show iEq sign 1 = true from decide_eq_true h1, if_pos h1]
    (conv => whnf)
    refine tri_every hT hmix [8, 9] { t := [(8, .c (.ptr 0 0)), (9, .c (.ptr 1 0))], h := [(0, .box t_impl_Bound (cB (b.1, midV p q b))), (1, .box t_impl_Bound (cB (midV p q b, b.2)))], n := 2, N := 47 } rfl ?_ ?_
    · repeat' first
        | (refine anyV_one rfl ?_; (conv => whnf))
        | (refine anyV_two rfl ?_ ?_ <;> (conv => whnf))
        | (refine anyV_three rfl ?_ ?_ ?_ <;> (conv => whnf))
        | (refine anyV_four rfl ?_ ?_ ?_ ?_ <;> (conv => whnf))
        | (refine anyV_end rfl ?_; (conv => whnf); first | done | rfl)
    (conv => whnf)
  rw [show iEq sign 1 = false from decide_eq_false h1, if_neg h1]
  (conv => whnf)
  by_cases h2 : sign = -1
  · rw [show iEq sign (-1) = true from decide_eq_true h2, if_pos h2]
    (conv => whnf)
    refine tri_every hT hmix [8, 9] { t := [(8, .c (.ptr 0 0)), (9, .c (.ptr 1 0))], h := [(0, .box t_impl_Bound (cB (midV p q b, b.2))), (1, .box t_impl_Bound (cB (b.1, midV p q b)))], n := 2, N := 47 } rfl ?_ ?_
    · repeat' first
        | (refine anyV_one rfl ?_; (conv => whnf))
        | (refine anyV_two rfl ?_ ?_ <;> (conv => whnf))
        | (refine anyV_three rfl ?_ ?_ ?_ <;> (conv => whnf))
        | (refine anyV_four rfl ?_ ?_ ?_ ?_ <;> (conv => whnf))
        | (refine anyV_end rfl ?_; (conv => whnf); first | done | rfl)
    (conv => whnf)
  rw [show iEq sign (-1) = false from decide_eq_false h2, if_neg h2]
  (conv => whnf)
  refine tri_every hT hmix [8, 9] { t := [(8, .c (.ptr 0 0)), (9, .c (.ptr 1 0))], h := [(0, .box t_impl_Bound (cB b)), (1, .box t_impl_Bound (cB b))], n := 2, N := 47 } rfl ?_ ?_
  · repeat' first
      | (refine anyV_one rfl ?_; (conv => whnf))
      | (refine anyV_two rfl ?_ ?_ <;> (conv => whnf))
      | (refine anyV_three rfl ?_ ?_ ?_ <;> (conv => whnf))
      | (refine anyV_four rfl ?_ ?_ ?_ ?_ <;> (conv => whnf))
      | (refine anyV_end rfl ?_; (conv => whnf); first | done | rfl)
  (conv => whnf)
end Go.H.S
namespace Go.H.S
open Go Go.Proofs Go.H
attribute [local irreducible] Tri FnSpec FnSpecM FnSpecX FnSpecJ
set_option maxRecDepth 100000
set_option linter.unusedSimpArgs false
set_option linter.unusedVariables false


def gAt (grads : List Int) (r : Int) : Int := (grads[r.toNat]?).getD 0
def sumR (grads : List Int) : List Int → Int
  | [] => 0
  | r :: rs => gAt grads r + sumR grads rs
theorem sumR_snoc (grads : List Int) : ∀ (rs : List Int) (r : Int), sumR grads (rs ++ [r]) = sumR grads rs + gAt grads r
  | [], r => by simp [sumR]
  | x :: rs, r => by simp only [List.cons_append, sumR, sumR_snoc grads rs r]; omega
theorem sumR_take {grads rows : List Int} {k : Nat} {x : Int} (h : rows[k]? = some x) : sumR grads (rows.take (k + 1)) = sumR grads (rows.take k) + gAt grads x := by
  rw [List.take_add_one, h, Option.toList_some, sumR_snoc]
def gradsP (grads : List Int) : Prop := ∀ x ∈ grads, -2199023255552 ≤ x ∧ x ≤ 2199023255552
theorem gAt_in {grads : List Int} (h : gradsP grads) (r : Int) : -2199023255552 ≤ gAt grads r ∧ gAt grads r ≤ 2199023255552 := by
  unfold gAt
  cases hr : grads[r.toNat]? with
  | none => simp
  | some x => exact h x (List.mem_of_getElem? hr)
theorem sumR_in {grads : List Int} (h : gradsP grads) : ∀ rs : List Int, -2199023255552 * (rs.length : Int) ≤ sumR grads rs ∧ sumR grads rs ≤ 2199023255552 * (rs.length : Int)
  | [] => by simp [sumR]
  | r :: rs => by
    have h1 := gAt_in h r
    have h2 := sumR_in h rs
    simp only [sumR, List.length_cons]
    omega

theorem spec_l19Sum_spec (grads rows : List Int) (hg : gradsP grads) (hl : rows.length ≤ 40) (hr : ∀ r ∈ rows, 0 ≤ r ∧ r < (grads.length : Int)) :
    FnSpec PR f_spec_l19Sum [aIs grads, aIs rows] (aB (rows.length, sumR grads rows)) [] 0 := by
  refine FnSpec.intro hT p_spec_l19Sum rfl (by kernel_rfl) n_spec_l19Sum rfl ?_
  conv => whnf
  refine tri_loop hT [0, 1, 4, 5, 6] (α := Nat) (fun x => { t := [(0, aIs grads), (1, aIs rows), (4, .c (.ptr 0 0)), (5, .c (.ptr 1 0)), (6, ai x)], h := [(0, .box t_impl_Slot (cB (0, 0))), (1, .box t_impl_Slot (cB (x, sumR grads (rows.take x))))], n := 2, N := 29 })
    (fun x => x ≤ rows.length) (fun x => rows.length - x) 0 (by first | ((conv => whnf); done) | ((conv => whnf); rfl)) (Nat.zero_le _) ?_
  intro k hk
  (conv => whnf)
  rw [show nInt (dLen (eL cI rows)) = (rows.length : Int) by simp]
  refine ifB_i (fun h1 => ?_) (fun h1 => ?_) <;> (conv => whnf) <;> simp only [nInt_eq, Int.natCast_zero, dLen_eL, sLen_eq, nOf_eq, Int.toNat_natCast, nAdd_eq, nSub_eq, dLen_nil, dLen_cons, iLt_t, iLt_f, iLe_t, iLe_f, iEq_t, iEq_f, sEq_t, sEq_f, bNot_t, bNot_f, bAnd_t, bEq_t, bEq_f, Bool.not_eq_true, Bool.not_eq_false, Bool.true_eq_false, Bool.false_eq_true] at h1
  · obtain ⟨x, hx⟩ := get_lt (show k < rows.length by omega)
    have hxr := hr x (List.mem_of_getElem? hx)
    obtain ⟨y, hy⟩ := get_lt (show x.toNat < grads.length by omega)
    have hxn : x = (x.toNat : Int) := by omega
    have hs := sumR_take (grads := grads) hx
    have hgx : gAt grads x = y := by unfold gAt; rw [hy]; rfl
    have hb := sumR_in hg (rows.take k)
    have hy2 := hg y (List.mem_of_getElem? hy)
    rw [List.length_take] at hb
    have e1 : wAdd .i64 (k : Int) 1 = ((k + 1 : Nat) : Int) := by rw [wAdd64] <;> omega
    have e2 : wAdd .i64 (sumR grads (rows.take k)) y = sumR grads (rows.take (k + 1)) := by rw [hs, hgx, wAdd64] <;> omega
    refine tri_every hT hmix [0, 1, 4, 5, 6] { t := [(0, aIs grads), (1, aIs rows), (4, .c (.ptr 0 0)), (5, .c (.ptr 1 0)), (6, ai k)], h := [(0, .box t_impl_Slot (cB (0, 0))), (1, .box t_impl_Slot (cB ((k + 1 : Nat), sumR grads (rows.take (k + 1)))))], n := 2, N := 29 } rfl ?_ ?_
    · repeat' first
        | (refine anyV_one rfl ?_; (conv => whnf))
        | (refine anyV_two rfl ?_ ?_ <;> (conv => whnf))
        | (refine anyV_three rfl ?_ ?_ ?_ <;> (conv => whnf))
        | (refine anyV_four rfl ?_ ?_ ?_ ?_ <;> (conv => whnf))
        | (refine idx_at rfl hx ?_; (conv => whnf))
        | (refine idx_at hxn hy ?_; (conv => whnf))
        | (refine anyV_end rfl ?_; (conv => whnf); first | done | rfl | (rw [e1, e2]; done) | (rw [e1, e2]; rfl))
    (conv => whnf)
    refine ⟨k + 1, by omega, by omega, ?_⟩
    ((conv => whnf); simp only [St.mk.injEq, List.cons.injEq, Prod.mk.injEq, AV.c.injEq, AV.agg.injEq, AV.tup.injEq, CV.d.injEq, D.int.injEq, D.bool.injEq, D.str.injEq, D.sl.injEq, Ent.arr.injEq, Ent.box.injEq, true_and, and_true, and_self, nInt_eq, Int.natCast_zero, dLen_eL, sLen_eq, e1])
  · obtain rfl : k = rows.length := by omega
    rw [List.take_length]

theorem impl_slotOf_spec (grads rows : List Int) (hg : gradsP grads) (hl : rows.length ≤ 40) (hr : ∀ r ∈ rows, 0 ≤ r ∧ r < (grads.length : Int)) :
    FnSpec PR f_impl_slotOf [aIs grads, aIs rows] (aB (rows.length, sumR grads rows)) [] 0 := by
  refine FnSpec.intro hT p_impl_slotOf rfl (by kernel_rfl) n_impl_slotOf rfl ?_
  conv => whnf
  refine tri_loop hT [0, 4, 5, 11, 12, 13] (α := Nat) (fun x => { t := [(0, aIs grads), (4, .c (.ptr 0 0)), (5, .c (.ptr 1 0)), (11, aIs rows), (12, ai (nInt (dLen (eL cI rows)))), (13, ai x)], h := [(0, .box t_impl_Slot (cB (0, 0))), (1, .box t_impl_Slot (cB (nInt (dLen (eL cI rows)), sumR grads (rows.take x))))], n := 2, N := 27 })
    (fun x => x ≤ rows.length) (fun x => rows.length - x) 0 (by first | ((conv => whnf); done) | ((conv => whnf); rfl)) (Nat.zero_le _) ?_
  intro k hk
  (conv => whnf)
  refine ifB_i (fun h1 => ?_) (fun h1 => ?_) <;> (conv => whnf) <;> simp only [nInt_eq, Int.natCast_zero, dLen_eL, sLen_eq, nOf_eq, Int.toNat_natCast, nAdd_eq, nSub_eq, dLen_nil, dLen_cons, iLt_t, iLt_f, iLe_t, iLe_f, iEq_t, iEq_f, sEq_t, sEq_f, bNot_t, bNot_f, bAnd_t, bEq_t, bEq_f, Bool.not_eq_true, Bool.not_eq_false, Bool.true_eq_false, Bool.false_eq_true] at h1
  · obtain ⟨x, hx⟩ := get_lt (show k < rows.length by omega)
    have hxr := hr x (List.mem_of_getElem? hx)
    obtain ⟨y, hy⟩ := get_lt (show x.toNat < grads.length by omega)
    have hxn : x = (x.toNat : Int) := by omega
    have hs := sumR_take (grads := grads) hx
    have hgx : gAt grads x = y := by unfold gAt; rw [hy]; rfl
    have hb := sumR_in hg (rows.take k)
    have hy2 := hg y (List.mem_of_getElem? hy)
    rw [List.length_take] at hb
    have e1 : wAdd .i64 (k : Int) 1 = ((k + 1 : Nat) : Int) := by rw [wAdd64] <;> omega
    have e2 : wAdd .i64 (sumR grads (rows.take k)) y = sumR grads (rows.take (k + 1)) := by rw [hs, hgx, wAdd64] <;> omega
    refine idx_at rfl hx ?_
    (conv => whnf)
    refine tri_every hT hmix [0, 4, 5, 11, 12, 13] { t := [(0, aIs grads), (4, .c (.ptr 0 0)), (5, .c (.ptr 1 0)), (11, aIs rows), (12, ai (nInt (dLen (eL cI rows)))), (13, ai k)], h := [(0, .box t_impl_Slot (cB (0, 0))), (1, .box t_impl_Slot (cB (nInt (dLen (eL cI rows)), sumR grads (rows.take (k + 1)))))], n := 2, N := 27 } rfl ?_ ?_
    · repeat' first
        | (refine anyV_one rfl ?_; (conv => whnf))
        | (refine anyV_two rfl ?_ ?_ <;> (conv => whnf))
        | (refine anyV_three rfl ?_ ?_ ?_ <;> (conv => whnf))
        | (refine anyV_four rfl ?_ ?_ ?_ ?_ <;> (conv => whnf))
        | (refine idx_at hxn hy ?_; (conv => whnf))
        | (refine anyV_end rfl ?_; (conv => whnf); first | done | rfl | (rw [e2]; done) | (rw [e2]; rfl))
    (conv => whnf)
    refine ⟨k + 1, by omega, by omega, ?_⟩
    ((conv => whnf); simp only [St.mk.injEq, List.cons.injEq, Prod.mk.injEq, AV.c.injEq, AV.agg.injEq, AV.tup.injEq, CV.d.injEq, D.int.injEq, D.bool.injEq, D.str.injEq, D.sl.injEq, Ent.arr.injEq, Ent.box.injEq, true_and, and_true, and_self, nInt_eq, Int.natCast_zero, dLen_eL, sLen_eq, e1])
  · obtain rfl : k = rows.length := by omega
    rw [List.take_length, show nInt (dLen (eL cI rows)) = (rows.length : Int) by simp]

def cfgNums (c : Cfg) : List Int := [c.rounds, c.depth, c.bins, c.lambda, c.rows]
def cfgLow : List Int := [1, 0, 2, 1, 1]
def cfgHigh : List Int := [8, 4, 8, 100, 20]
def cfgP (c : Cfg) : Prop := (∀ (k : Nat) (x lo hi : Int), (cfgNums c)[k]? = some x → cfgLow[k]? = some lo → cfgHigh[k]? = some hi → lo ≤ x ∧ x ≤ hi) ∧ (∀ s ∈ c.signs, -1 ≤ s ∧ s ≤ 1) ∧ (1 ≤ c.den ∧ c.den ≤ 1000) ∧ (1 ≤ c.num ∧ c.num ≤ c.den) ∧ c.signs.length ≤ 4
noncomputable def cfgOk (c : Cfg) : Bool := @decide (cfgP c) (Classical.propDecidable _)
theorem cfgOk_t {c : Cfg} (h : cfgP c) : cfgOk c = true := by unfold cfgOk; exact @decide_eq_true _ (Classical.propDecidable _) h
theorem cfgOk_f {c : Cfg} (h : ¬ cfgP c) : cfgOk c = false := by unfold cfgOk; exact @decide_eq_false _ (Classical.propDecidable _) h
theorem cfgOk_iff {c : Cfg} : cfgOk c = true ↔ cfgP c := by
  constructor
  · intro h
    rcases Classical.em (cfgP c) with q | q
    · exact q
    · rw [cfgOk_f q] at h; cases h
  · exact cfgOk_t
theorem cfg_five (c : Cfg) : (∀ (k : Nat) (x lo hi : Int), (cfgNums c)[k]? = some x → cfgLow[k]? = some lo → cfgHigh[k]? = some hi → lo ≤ x ∧ x ≤ hi) ↔ ((1 ≤ c.rounds ∧ c.rounds ≤ 8) ∧ (0 ≤ c.depth ∧ c.depth ≤ 4) ∧ (2 ≤ c.bins ∧ c.bins ≤ 8) ∧ (1 ≤ c.lambda ∧ c.lambda ≤ 100) ∧ (1 ≤ c.rows ∧ c.rows ≤ 20)) := by
  constructor
  · intro h
    exact ⟨h 0 _ _ _ rfl rfl rfl, h 1 _ _ _ rfl rfl rfl, h 2 _ _ _ rfl rfl rfl, h 3 _ _ _ rfl rfl rfl, h 4 _ _ _ rfl rfl rfl⟩
  · rintro ⟨h0, h1, h2, h3, h4⟩ k x lo hi hx hl hh
    match k with
    | 0 => cases hx; cases hl; cases hh; exact h0
    | 1 => cases hx; cases hl; cases hh; exact h1
    | 2 => cases hx; cases hl; cases hh; exact h2
    | 3 => cases hx; cases hl; cases hh; exact h3
    | 4 => cases hx; cases hl; cases hh; exact h4
    | k + 5 => simp [cfgNums] at hx

theorem impl_ConfigOk_1_spec (x : Int) : FnSpec PR f_impl_ConfigOk_1 [ai x] (ab (bNot (decide (-1 ≤ x ∧ x ≤ 1)))) [] 0 := by
  refine FnSpec.intro hT p_impl_ConfigOk_1 rfl (by kernel_rfl) n_impl_ConfigOk_1 rfl ?_
  conv => whnf
  refine .inl ⟨_, _, _, impl_isSign_spec _, rfl, ?_⟩
  (conv => whnf)
theorem impl_ConfigOk_spec (c : Cfg) (hl : c.signs.length ≤ 1048576) : FnSpec PR f_impl_ConfigOk [aCf c] (ab (cfgOk c)) [] 0 := by
  refine FnSpec.intro hT p_impl_ConfigOk rfl (by kernel_rfl) n_impl_ConfigOk rfl ?_
  conv => whnf
  refine .inl ⟨_, _, _, impl_within_spec _ _ _, rfl, ?_⟩
  cases h0 : decide (1 ≤ c.rounds ∧ c.rounds ≤ 8)
  · (conv => whnf)
    rw [decide_eq_false_iff_not] at h0
    rw [cfgOk_f (fun q => h0 ((cfg_five c).1 q.1).1)]
  rw [decide_eq_true_iff] at h0
  (conv => whnf)
  refine .inl ⟨_, _, _, impl_within_spec _ _ _, rfl, ?_⟩
  cases h1 : decide (0 ≤ c.depth ∧ c.depth ≤ 4)
  · (conv => whnf)
    rw [decide_eq_false_iff_not] at h1
    rw [cfgOk_f (fun q => h1 ((cfg_five c).1 q.1).2.1)]
  rw [decide_eq_true_iff] at h1
  (conv => whnf)
  refine .inl ⟨_, _, _, impl_within_spec _ _ _, rfl, ?_⟩
  cases h2 : decide (2 ≤ c.bins ∧ c.bins ≤ 8)
  · (conv => whnf)
    rw [decide_eq_false_iff_not] at h2
    rw [cfgOk_f (fun q => h2 ((cfg_five c).1 q.1).2.2.1)]
  rw [decide_eq_true_iff] at h2
  (conv => whnf)
  refine .inl ⟨_, _, _, impl_within_spec _ _ _, rfl, ?_⟩
  cases h3 : decide (1 ≤ c.lambda ∧ c.lambda ≤ 100)
  · (conv => whnf)
    rw [decide_eq_false_iff_not] at h3
    rw [cfgOk_f (fun q => h3 ((cfg_five c).1 q.1).2.2.2.1)]
  rw [decide_eq_true_iff] at h3
  (conv => whnf)
  refine .inl ⟨_, _, _, impl_within_spec _ _ _, rfl, ?_⟩
  cases h4 : decide (1 ≤ c.rows ∧ c.rows ≤ 20)
  · (conv => whnf)
    rw [decide_eq_false_iff_not] at h4
    rw [cfgOk_f (fun q => h4 ((cfg_five c).1 q.1).2.2.2.2)]
  rw [decide_eq_true_iff] at h4
  (conv => whnf)
  refine .inl ⟨_, _, _, impl_within_spec _ _ _, rfl, ?_⟩
  cases h5 : decide (1 ≤ c.den ∧ c.den ≤ 1000)
  · (conv => whnf)
    rw [decide_eq_false_iff_not] at h5
    rw [cfgOk_f (fun q => h5 q.2.2.1)]
  rw [decide_eq_true_iff] at h5
  (conv => whnf)
  refine .inl ⟨_, _, _, impl_within_spec _ _ _, rfl, ?_⟩
  cases h6 : decide (1 ≤ c.num ∧ c.num ≤ c.den)
  · (conv => whnf)
    rw [decide_eq_false_iff_not] at h6
    rw [cfgOk_f (fun q => h6 q.2.2.2.1)]
  rw [decide_eq_true_iff] at h6
  (conv => whnf)
  rw [show nInt (dLen (eL cI c.signs)) = (c.signs.length : Int) by simp]
  cases h7 : iLe (c.signs.length : Int) 4
  · (conv => whnf)
    simp at h7
    rw [cfgOk_f (fun q => by have := q.2.2.2.2; omega)]
  simp at h7
  (conv => whnf)
  refine .inl ⟨_, _, _, slices_ContainsFunc_Lint_int_0 c.signs f_impl_ConfigOk_1 (fun x => bNot (decide (-1 ≤ x ∧ x ≤ 1))) (fun x _ => impl_ConfigOk_1_spec x) (by omega), rfl, ?_⟩
  (conv => whnf)
  cases h8 : c.signs.any fun x => bNot (decide (-1 ≤ x ∧ x ≤ 1))
  · rw [List.any_eq_false] at h8
    rw [cfgOk_t ⟨(cfg_five c).2 ⟨h0, h1, h2, h3, h4⟩, fun s hs => by have := h8 s hs; simpa [bNot] using this, h5, h6, by omega⟩]
    rfl
  · rw [List.any_eq_true] at h8
    obtain ⟨s, hs1, hs2⟩ := h8
    rw [cfgOk_f (fun q => by have := q.2.1 s hs1; simp [bNot] at hs2; omega)]
    rfl

theorem spec_l8Numbers_spec (c : Cfg) : FnSpec PR f_spec_l8Numbers [aCf c] (.c (.ref 0 0 none)) [(0, .arr t_int 1 0 .own (eL cI (cfgNums c)))] 1 := by
  refine FnSpec.intro hT p_spec_l8Numbers rfl (by kernel_rfl) n_spec_l8Numbers rfl ?_
  conv => whnf
  simp only [cfgNums, eL_cons, eL_nil]
  rfl

theorem spec_l8Least_spec : FnSpec PR f_spec_l8Least [] (.c (.ref 0 0 none)) [(0, .arr t_int 1 0 .own (eL cI cfgLow))] 1 := by
  refine FnSpec.intro hT p_spec_l8Least rfl (by kernel_rfl) n_spec_l8Least rfl ?_
  conv => whnf
  simp only [cfgLow, eL_cons, eL_nil]
  rfl

theorem spec_l8Most_spec : FnSpec PR f_spec_l8Most [] (.c (.ref 0 0 none)) [(0, .arr t_int 1 0 .own (eL cI cfgHigh))] 1 := by
  refine FnSpec.intro hT p_spec_l8Most rfl (by kernel_rfl) n_spec_l8Most rfl ?_
  conv => whnf
  simp only [cfgHigh, eL_cons, eL_nil]
  rfl

theorem spec_ConfigOk_spec (c : Cfg) (hl : c.signs.length ≤ 1048576) : FnSpec PR f_spec_ConfigOk [aCf c] (ab (cfgOk c)) [] 0 := by
  refine FnSpec.intro hT p_spec_ConfigOk rfl (by kernel_rfl) n_spec_ConfigOk rfl ?_
  conv => whnf
  refine .inl ⟨_, _, _, spec_l8Numbers_spec c, rfl, ?_⟩
  (conv => whnf)
  refine tri_rp 0 ?_
  (conv => whnf)
  have hnl : (cfgNums c).length = 5 := rfl
  have l1 : cfgLow.length = 5 := rfl
  have l2 : cfgHigh.length = 5 := rfl
  refine tri_loop hT [1, 3, 4] (α := Nat) (fun x => { t := [(1, .c (.d (.rp [.int .i64 c.rounds, .int .i64 c.depth, .int .i64 c.bins, .int .i64 c.lambda, .int .i64 c.rows, .int .i64 c.num, .int .i64 c.den, .sl 1 (eL cI c.signs)]))), (3, aIs (cfgNums c)), (4, ai x)], h := [], n := 0, N := 56 })
    (fun x => x ≤ 5 ∧ ∀ (k : Nat) (x' lo hi : Int), k < x → (cfgNums c)[k]? = some x' → cfgLow[k]? = some lo → cfgHigh[k]? = some hi → lo ≤ x' ∧ x' ≤ hi) (fun x => 5 - x) 0 (by first | ((conv => whnf); done) | ((conv => whnf); rfl)) ⟨Nat.zero_le _, fun k _ _ _ h => by omega⟩ ?_
  intro k ⟨hk, hr⟩
  (conv => whnf)
  refine ifB_i (fun h1 => ?_) (fun h1 => ?_) <;> (conv => whnf) <;> simp only [nInt_eq, Int.natCast_zero, dLen_eL, sLen_eq, nOf_eq, Int.toNat_natCast, nAdd_eq, nSub_eq, dLen_nil, dLen_cons, iLt_t, iLt_f, iLe_t, iLe_f, iEq_t, iEq_f, sEq_t, sEq_f, bNot_t, bNot_f, bAnd_t, bEq_t, bEq_f, Bool.not_eq_true, Bool.not_eq_false, Bool.true_eq_false, Bool.false_eq_true] at h1
  · obtain ⟨x, hx⟩ := get_lt (show k < (cfgNums c).length by rw [hnl]; omega)
    obtain ⟨lo, hlo⟩ := get_lt (show k < cfgLow.length by rw [show cfgLow.length = 5 from rfl]; omega)
    obtain ⟨hi, hhi⟩ := get_lt (show k < cfgHigh.length by rw [show cfgHigh.length = 5 from rfl]; omega)
    refine tri_every hT hmix [1, 3, 4, 25] { t := [(1, .c (.d (.rp [.int .i64 c.rounds, .int .i64 c.depth, .int .i64 c.bins, .int .i64 c.lambda, .int .i64 c.rows, .int .i64 c.num, .int .i64 c.den, .sl 1 (eL cI c.signs)]))), (3, aIs (cfgNums c)), (4, ai k), (25, ab (bNot (decide (lo ≤ x ∧ x ≤ hi))))], h := [], n := 0, N := 56 } rfl ?_ ?_
    · repeat' first
        | (refine anyV_one rfl ?_; (conv => whnf))
        | (refine anyV_two rfl ?_ ?_ <;> (conv => whnf))
        | (refine anyV_three rfl ?_ ?_ ?_ <;> (conv => whnf))
        | (refine idx_at rfl hx ?_; (conv => whnf))
        | (refine .inl ⟨_, _, _, spec_l8Least_spec, rfl, ?_⟩; (conv => whnf))
        | (refine .inl ⟨_, _, _, spec_l8Most_spec, rfl, ?_⟩; (conv => whnf))
        | (refine ref_at (k := k) rfl (by first | omega | (simp only [eL_length, l1]; omega) | (simp only [eL_length, l2]; omega) | (simp [l1, l2]; omega)) ?_; (conv => whnf))
        | (refine ld_at (by simp) hlo ?_; (conv => whnf))
        | (refine ld_at (by simp) hhi ?_; (conv => whnf))
        | (refine .inl ⟨_, _, _, spec_l1In_spec _ _ _, rfl, ?_⟩; (conv => whnf))
        | (refine anyV_end rfl ?_; (conv => whnf); first | done | rfl)
    (conv => whnf)
    cases h2 : decide (lo ≤ x ∧ x ≤ hi)
    · rw [decide_eq_false_iff_not] at h2
      (conv => whnf)
      rw [cfgOk_f (fun q => h2 (q.1 k x lo hi hx hlo hhi))]
    · rw [decide_eq_true_iff] at h2
      (conv => whnf)
      refine ⟨k + 1, by omega, ⟨by omega, fun j x' lo' hi' hj a1 a2 a3 => ?_⟩, ?_⟩
      · rcases Nat.lt_or_ge j k with q | q
        · exact hr j x' lo' hi' q a1 a2 a3
        · obtain rfl : j = k := by omega
          rw [hx] at a1; rw [hlo] at a2; rw [hhi] at a3
          cases a1; cases a2; cases a3
          exact h2
      have e1 : wAdd .i64 (k : Int) 1 = ((k + 1 : Nat) : Int) := by rw [wAdd64] <;> omega
      ((conv => whnf); simp only [St.mk.injEq, List.cons.injEq, Prod.mk.injEq, AV.c.injEq, AV.agg.injEq, AV.tup.injEq, CV.d.injEq, D.int.injEq, D.bool.injEq, D.str.injEq, D.sl.injEq, Ent.arr.injEq, Ent.box.injEq, true_and, and_true, and_self, nInt_eq, Int.natCast_zero, dLen_eL, sLen_eq, e1])
  · obtain rfl : k = 5 := by omega
    have h5 := (cfg_five c).1 (fun j x lo hi a1 a2 a3 => hr j x lo hi (by have := (List.getElem?_eq_some_iff.1 a1).1; omega) a1 a2 a3)
    refine tri_loop hT [1, 5] (α := Nat) (fun x => { t := [(1, .c (.d (.rp [.int .i64 c.rounds, .int .i64 c.depth, .int .i64 c.bins, .int .i64 c.lambda, .int .i64 c.rows, .int .i64 c.num, .int .i64 c.den, .sl 1 (eL cI c.signs)]))), (5, ai x)], h := [], n := 0, N := 56 })
      (fun x => x ≤ c.signs.length ∧ ∀ (j : Nat) (y : Int), j < x → c.signs[j]? = some y → -1 ≤ y ∧ y ≤ 1) (fun x => c.signs.length - x) 0 (by first | ((conv => whnf); done) | ((conv => whnf); rfl)) ⟨Nat.zero_le _, fun k _ h => by omega⟩ ?_
    intro i ⟨hi, hq⟩
    (conv => whnf)
    rw [show nInt (dLen (eL cI c.signs)) = (c.signs.length : Int) by simp]
    refine ifB_i (fun h6 => ?_) (fun h6 => ?_) <;> (conv => whnf) <;> simp only [nInt_eq, Int.natCast_zero, dLen_eL, sLen_eq, nOf_eq, Int.toNat_natCast, nAdd_eq, nSub_eq, dLen_nil, dLen_cons, iLt_t, iLt_f, iLe_t, iLe_f, iEq_t, iEq_f, sEq_t, sEq_f, bNot_t, bNot_f, bAnd_t, bEq_t, bEq_f, Bool.not_eq_true, Bool.not_eq_false, Bool.true_eq_false, Bool.false_eq_true] at h6
    · obtain ⟨y, hy⟩ := get_lt (show i < c.signs.length by omega)
      refine idx_at rfl hy ?_
      (conv => whnf)
      refine .inl ⟨_, _, _, spec_l1In_spec _ _ _, rfl, ?_⟩
      (conv => whnf)
      cases h7 : decide (-1 ≤ y ∧ y ≤ 1)
      · rw [decide_eq_false_iff_not] at h7
        (conv => whnf)
        rw [cfgOk_f (fun q => h7 (q.2.1 y (List.mem_of_getElem? hy)))]
      · rw [decide_eq_true_iff] at h7
        (conv => whnf)
        refine ⟨i + 1, by omega, ⟨by omega, fun j z hj hz => ?_⟩, ?_⟩
        · rcases Nat.lt_or_ge j i with q | q
          · exact hq j z q hz
          · obtain rfl : j = i := by omega
            rw [hy] at hz; cases hz; exact h7
        have e1 : wAdd .i64 (i : Int) 1 = ((i + 1 : Nat) : Int) := by rw [wAdd64] <;> omega
        ((conv => whnf); simp only [St.mk.injEq, List.cons.injEq, Prod.mk.injEq, AV.c.injEq, AV.agg.injEq, AV.tup.injEq, CV.d.injEq, D.int.injEq, D.bool.injEq, D.str.injEq, D.sl.injEq, Ent.arr.injEq, Ent.box.injEq, true_and, and_true, and_self, nInt_eq, Int.natCast_zero, dLen_eL, sLen_eq, e1])
    · obtain rfl : i = c.signs.length := by omega
      have h8 : ∀ s ∈ c.signs, -1 ≤ s ∧ s ≤ 1 := fun s hs => by
        obtain ⟨j, hj⟩ := List.mem_iff_getElem?.1 hs
        exact hq j s (List.getElem?_eq_some_iff.1 hj).1 hj
      refine .inl ⟨_, _, _, spec_l1In_spec _ _ _, rfl, ?_⟩
      cases h9 : decide (1 ≤ c.den ∧ c.den ≤ 1000)
      · rw [decide_eq_false_iff_not] at h9
        (conv => whnf)
        rw [cfgOk_f (fun q => h9 q.2.2.1)]
      rw [decide_eq_true_iff] at h9
      (conv => whnf)
      refine .inl ⟨_, _, _, spec_l1In_spec _ _ _, rfl, ?_⟩
      cases h10 : decide (1 ≤ c.num ∧ c.num ≤ c.den)
      · rw [decide_eq_false_iff_not] at h10
        (conv => whnf)
        rw [cfgOk_f (fun q => h10 q.2.2.2.1)]
      rw [decide_eq_true_iff] at h10
      (conv => whnf)
      rw [show nInt (dLen (eL cI c.signs)) = (c.signs.length : Int) by simp]
      cases h11 : iLe (c.signs.length : Int) 4
      · simp at h11
        rw [cfgOk_f (fun q => by have := q.2.2.2.2; omega)]
      · simp at h11
        rw [cfgOk_t ⟨(cfg_five c).2 h5, h8, h9, h10, by omega⟩]

def taskP (g : Grd) (grads : List Int) (c : Cfg) : Prop := gridP g ∧ cfgP c ∧ grads.length = rowsIn g ∧ gradsP grads
noncomputable def taskOk (g : Grd) (grads : List Int) (c : Cfg) : Bool := @decide (taskP g grads c) (Classical.propDecidable _)
theorem taskOk_t {g : Grd} {grads : List Int} {c : Cfg} (h : taskP g grads c) : taskOk g grads c = true := by unfold taskOk; exact @decide_eq_true _ (Classical.propDecidable _) h
theorem taskOk_f {g : Grd} {grads : List Int} {c : Cfg} (h : ¬ taskP g grads c) : taskOk g grads c = false := by unfold taskOk; exact @decide_eq_false _ (Classical.propDecidable _) h
theorem taskOk_iff {g : Grd} {grads : List Int} {c : Cfg} : taskOk g grads c = true ↔ taskP g grads c := by
  constructor
  · intro h
    rcases Classical.em (taskP g grads c) with q | q
    · exact q
    · rw [taskOk_f q] at h; cases h
  · exact taskOk_t

theorem impl_TaskOk_1_spec (x : Int) : FnSpec PR f_impl_TaskOk_1 [ai x] (ab (bNot (decide (-2199023255552 ≤ x ∧ x ≤ 2199023255552)))) [] 0 := by
  refine FnSpec.intro hT p_impl_TaskOk_1 rfl (by kernel_rfl) n_impl_TaskOk_1 rfl ?_
  conv => whnf
  refine .inl ⟨_, _, _, impl_within_spec _ _ _, rfl, ?_⟩
  (conv => whnf)
theorem impl_TaskOk_spec (g : Grd) (grads : List Int) (c : Cfg) (hg : smG g) (hr : grads.length ≤ 1048576) (hc : c.signs.length ≤ 1048576) : FnSpec PR f_impl_TaskOk [aG g, aIs grads, aCf c] (ab (taskOk g grads c)) [] 0 := by
  refine FnSpec.intro hT p_impl_TaskOk rfl (by kernel_rfl) n_impl_TaskOk rfl ?_
  conv => whnf
  refine .inl ⟨_, _, _, impl_GridOk_spec g hg, rfl, ?_⟩
  cases h1 : gridOk g
  · (conv => whnf)
    rw [taskOk_f (fun q => by rw [gridOk_t q.1] at h1; cases h1)]
  rw [gridOk_iff] at h1
  (conv => whnf)
  refine .inl ⟨_, _, _, impl_ConfigOk_spec c hc, rfl, ?_⟩
  cases h2 : cfgOk c
  · (conv => whnf)
    rw [taskOk_f (fun q => by rw [cfgOk_t q.2.1] at h2; cases h2)]
  rw [cfgOk_iff] at h2
  (conv => whnf)
  refine .inl ⟨_, _, _, impl_RowsIn_spec g, rfl, ?_⟩
  rw [show nInt (dLen (eL cI grads)) = (grads.length : Int) by simp]
  (conv => whnf)
  cases h3 : iEq (grads.length : Int) (rowsIn g : Int)
  · (conv => whnf)
    simp at h3
    rw [taskOk_f (fun q => by have := q.2.2.1; omega)]
  simp at h3
  (conv => whnf)
  refine .inl ⟨_, _, _, slices_ContainsFunc_Lint_int_0 grads f_impl_TaskOk_1 (fun x => bNot (decide (-2199023255552 ≤ x ∧ x ≤ 2199023255552))) (fun x _ => impl_TaskOk_1_spec x) (by omega), rfl, ?_⟩
  (conv => whnf)
  cases h8 : grads.any fun x => bNot (decide (-2199023255552 ≤ x ∧ x ≤ 2199023255552))
  · rw [List.any_eq_false] at h8
    rw [taskOk_t ⟨h1, h2, by omega, fun s hs => by have := h8 s hs; simpa [bNot] using this⟩]
    rfl
  · rw [List.any_eq_true] at h8
    obtain ⟨s, hs1, hs2⟩ := h8
    rw [taskOk_f (fun q => by have := q.2.2.2 s hs1; simp [bNot] at hs2; omega)]
    rfl

theorem spec_TaskOk_spec (g : Grd) (grads : List Int) (c : Cfg) (hg : smG g) (hr : grads.length ≤ 1048576) (hc : c.signs.length ≤ 1048576) : FnSpec PR f_spec_TaskOk [aG g, aIs grads, aCf c] (ab (taskOk g grads c)) [] 0 := by
  refine FnSpec.intro hT p_spec_TaskOk rfl (by kernel_rfl) n_spec_TaskOk rfl ?_
  conv => whnf
  refine .inl ⟨_, _, _, spec_GridOk_spec g hg, rfl, ?_⟩
  cases h1 : gridOk g
  · (conv => whnf)
    rw [taskOk_f (fun q => by rw [gridOk_t q.1] at h1; cases h1)]
  rw [gridOk_iff] at h1
  (conv => whnf)
  refine .inl ⟨_, _, _, spec_ConfigOk_spec c hc, rfl, ?_⟩
  cases h2 : cfgOk c
  · (conv => whnf)
    rw [taskOk_f (fun q => by rw [cfgOk_t q.2.1] at h2; cases h2)]
  rw [cfgOk_iff] at h2
  (conv => whnf)
  refine .inl ⟨_, _, _, spec_RowsIn_spec g, rfl, ?_⟩
  rw [show nInt (dLen (eL cI grads)) = (grads.length : Int) by simp]
  (conv => whnf)
  cases h3 : iEq (grads.length : Int) (rowsIn g : Int)
  · (conv => whnf)
    simp at h3
    rw [taskOk_f (fun q => by have := q.2.2.1; omega)]
  simp at h3
  (conv => whnf)
  refine tri_loop hT [1, 7] (α := Nat) (fun x => { t := [(1, aIs grads), (7, ai x)], h := [], n := 0, N := 35 })
    (fun x => x ≤ grads.length ∧ ∀ (j : Nat) (y : Int), j < x → grads[j]? = some y → -2199023255552 ≤ y ∧ y ≤ 2199023255552) (fun x => grads.length - x) 0 (by first | ((conv => whnf); done) | ((conv => whnf); rfl)) ⟨Nat.zero_le _, fun k _ h => by omega⟩ ?_
  intro i ⟨hi, hq⟩
  (conv => whnf)
  rw [show nInt (dLen (eL cI grads)) = (grads.length : Int) by simp]
  refine ifB_i (fun h6 => ?_) (fun h6 => ?_) <;> (conv => whnf) <;> simp only [nInt_eq, Int.natCast_zero, dLen_eL, sLen_eq, nOf_eq, Int.toNat_natCast, nAdd_eq, nSub_eq, dLen_nil, dLen_cons, iLt_t, iLt_f, iLe_t, iLe_f, iEq_t, iEq_f, sEq_t, sEq_f, bNot_t, bNot_f, bAnd_t, bEq_t, bEq_f, Bool.not_eq_true, Bool.not_eq_false, Bool.true_eq_false, Bool.false_eq_true] at h6
  · obtain ⟨y, hy⟩ := get_lt (show i < grads.length by omega)
    refine idx_at rfl hy ?_
    (conv => whnf)
    refine .inl ⟨_, _, _, spec_l1In_spec _ _ _, rfl, ?_⟩
    (conv => whnf)
    cases h7 : decide (-2199023255552 ≤ y ∧ y ≤ 2199023255552)
    · rw [decide_eq_false_iff_not] at h7
      (conv => whnf)
      rw [taskOk_f (fun q => h7 (q.2.2.2 y (List.mem_of_getElem? hy)))]
    · rw [decide_eq_true_iff] at h7
      (conv => whnf)
      refine ⟨i + 1, by omega, ⟨by omega, fun j z hj hz => ?_⟩, ?_⟩
      · rcases Nat.lt_or_ge j i with q | q
        · exact hq j z q hz
        · obtain rfl : j = i := by omega
          rw [hy] at hz; cases hz; exact h7
      have e1 : wAdd .i64 (i : Int) 1 = ((i + 1 : Nat) : Int) := by rw [wAdd64] <;> omega
      ((conv => whnf); simp only [St.mk.injEq, List.cons.injEq, Prod.mk.injEq, AV.c.injEq, AV.agg.injEq, AV.tup.injEq, CV.d.injEq, D.int.injEq, D.bool.injEq, D.str.injEq, D.sl.injEq, Ent.arr.injEq, Ent.box.injEq, true_and, and_true, and_self, nInt_eq, Int.natCast_zero, dLen_eL, sLen_eq, e1])
  · obtain rfl : i = grads.length := by omega
    rw [taskOk_t ⟨h1, h2, by omega, fun s hs => by
      obtain ⟨j, hj⟩ := List.mem_iff_getElem?.1 hs
      exact hq j s (List.getElem?_eq_some_iff.1 hj).1 hj⟩]
end Go.H.S
