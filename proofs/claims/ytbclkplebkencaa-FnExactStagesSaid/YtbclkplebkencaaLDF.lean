/- Library, part RA: names, signs, models that are right. -/
import Derived.Test.YtbclkplebkencaaLI
import Derived.Test.YtbclkplebkencaaLO
namespace Go.H.S
open Go Go.Proofs Go.H
attribute [local irreducible] Tri FnSpec FnSpecM FnSpecX FnSpecJ
set_option maxRecDepth 100000
set_option linter.unusedSimpArgs false
set_option linter.unusedVariables false


def letterB (b : UInt8) : Bool := decide (97 ≤ (b.toNat : Int) ∧ (b.toNat : Int) ≤ 122)
def digitB (b : UInt8) : Bool := decide (48 ≤ (b.toNat : Int) ∧ (b.toNat : Int) ≤ 57)
def nameL : List UInt8 → Nat → Bool
  | [], _ => true
  | b :: r, k => (letterB b || (decide (k ≠ 0) && digitB b)) && nameL r (k + 1)
def nameOk (s : ByteArray) : Bool := decide (1 ≤ (s.size : Int) ∧ (s.size : Int) ≤ 12) && nameL s.data.toList 0
theorem nameL_late : ∀ (l : List UInt8) (k : Nat), 0 < k → nameL l k = l.all fun b => letterB b || digitB b
  | [], k, h => rfl
  | b :: r, k, h => by
    simp only [nameL, List.all_cons, nameL_late r (k + 1) (by omega)]
    rw [show decide (k ≠ 0) = true from decide_eq_true (by omega), Bool.true_and]
theorem str_at {s : ByteArray} {n : Int} {k : Nat} {b : UInt8} {K : UInt8 → Prop} (hn : n = (k : Int)) (hb : s.data.toList[k]? = some b) (h : K b) : InB n s.size ∧ ∀ c, AtB s (nOf n) c → K c := by
  subst hn
  have hlt := (List.getElem?_eq_some_iff.1 hb).1
  refine ⟨by simp; exact hlt, fun c hc => ?_⟩
  have hc' : s.data.toList[nOf (k : Int)]? = some c := by unfold AtB at hc; exact hc
  rw [nOf_eq, Int.toNat_natCast, hb] at hc'
  cases hc'
  exact h
theorem byte_get {s : ByteArray} {k : Nat} (h : k < s.size) : ∃ b, s.data.toList[k]? = some b := get_lt (l := s.data.toList) (by simpa using h)
theorem bInt_eq' (b : UInt8) : bInt b = (b.toNat : Int) := by unfold bInt; rfl
theorem bInt_lt (b : UInt8) : 0 ≤ bInt b ∧ bInt b < 256 := by rw [bInt_eq']; have := b.toNat_lt; omega
theorem wConv_byte (b : UInt8) : wConv .i64 (bInt b) = bInt b := by
  have := bInt_lt b
  unfold wConv
  exact wrap64 (by omega) (by omega)
theorem letter_b (b : UInt8) : letterB b = decide (97 ≤ bInt b ∧ bInt b ≤ 122) := by rw [bInt_eq']; rfl
theorem digit_b (b : UInt8) : digitB b = decide (48 ≤ bInt b ∧ bInt b ≤ 57) := by rw [bInt_eq']; rfl
theorem toList_cons {s : ByteArray} {b : UInt8} (h : s.data.toList[0]? = some b) : ∃ r, s.data.toList = b :: r := by
  generalize s.data.toList = l at *
  cases l with
  | nil => simp at h
  | cons x r => simp at h; subst h; exact ⟨r, rfl⟩

theorem spec_NameOk_spec (s : ByteArray) (hs : s.size ≤ 9223372036854775807) : FnSpec PR f_spec_NameOk [aS s] (ab (nameOk s)) [] 0 := by
  have hsz : s.data.toList.length = s.size := by simp
  refine FnSpec.intro hT p_spec_NameOk rfl (by kernel_rfl) n_spec_NameOk rfl ?_
  conv => whnf
  refine .inl ⟨_, _, _, spec_l1In_spec _ _ _, rfl, ?_⟩
  (conv => whnf)
  refine ifB_i (fun h1 => ?_) (fun h1 => ?_) <;> (conv => whnf) <;> simp only [nInt_eq, Int.natCast_zero, dLen_eL, sLen_eq, nOf_eq, Int.toNat_natCast, nAdd_eq, nSub_eq, dLen_nil, dLen_cons, iLt_t, iLt_f, iLe_t, iLe_f, iEq_t, iEq_f, sEq_t, sEq_f, bNot_t, bNot_f, bAnd_t, bEq_t, bEq_f, Bool.not_eq_true, Bool.not_eq_false, Bool.true_eq_false, Bool.false_eq_true] at h1
  · have : decide (1 ≤ (s.size : Int) ∧ (s.size : Int) ≤ 12) = false := by simpa using h1
    simp [nameOk, this]
  have hno : nameOk s = nameL s.data.toList 0 := by simp only [nameOk]; rw [h1]; rfl
  have h1' := of_decide_eq_true h1
  obtain ⟨b0, hb0⟩ := byte_get (s := s) (k := 0) (by omega)
  refine str_at (k := 0) rfl hb0 ?_
  (conv => whnf)
  refine ifB_i (fun h2 => ?_) (fun h2 => ?_) <;> (conv => whnf) <;> simp only [nInt_eq, Int.natCast_zero, dLen_eL, sLen_eq, nOf_eq, Int.toNat_natCast, nAdd_eq, nSub_eq, dLen_nil, dLen_cons, iLt_t, iLt_f, iLe_t, iLe_f, iEq_t, iEq_f, sEq_t, sEq_f, bNot_t, bNot_f, bAnd_t, bEq_t, bEq_f, Bool.not_eq_true, Bool.not_eq_false, Bool.true_eq_false, Bool.false_eq_true] at h2
  · obtain ⟨r, hr⟩ := toList_cons hb0
    have hl : letterB b0 = false := by rw [letter_b]; exact decide_eq_false (by omega)
    rw [hno, hr, nameL, hl]
    rfl
  refine tri_loop hT [0, 3] (α := Nat) (fun k => { t := [(0, aS s), (3, ai k)], h := [], n := 0, N := 33 })
    (fun k => k ≤ s.size ∧ ((s.data.toList.drop k).all fun b => letterB b || digitB b) = (s.data.toList.all fun b => letterB b || digitB b)) (fun k => s.size - k) 0 (by ((conv => whnf); simp only [St.mk.injEq, List.cons.injEq, Prod.mk.injEq, AV.c.injEq, AV.agg.injEq, AV.tup.injEq, CV.d.injEq, D.int.injEq, D.bool.injEq, D.str.injEq, D.sl.injEq, Ent.arr.injEq, Ent.box.injEq, true_and, and_true, and_self, nInt_eq, Int.natCast_zero, dLen_eL, sLen_eq])) ⟨Nat.zero_le _, rfl⟩ ?_
  intro k ⟨hk, hn⟩
  (conv => whnf)
  refine ifB_i (fun h3 => ?_) (fun h3 => ?_) <;> (conv => whnf) <;> simp at h3
  · obtain ⟨b, hb⟩ := byte_get h3
    rw [drop_at hb, List.all_cons] at hn
    refine str_at (k := k) rfl hb ?_
    (conv => whnf)
    refine .inl ⟨_, _, _, spec_l1In_spec _ _ _, rfl, ?_⟩
    rw [wConv_byte, ← letter_b]
    (conv => whnf)
    have hbad : letterB b = false → digitB b = false → nameOk s = false := fun p1 p2 => by
      rw [p1, p2] at hn
      obtain ⟨r, hr⟩ := toList_cons hb0
      rw [hno, hr, nameL, nameL_late _ _ (by omega)]
      rw [hr, List.all_cons] at hn
      simp only [Bool.or_self, Bool.false_and] at hn
      cases hq : (r.all fun b => letterB b || digitB b) with
      | false => simp
      | true =>
        rw [hq, Bool.and_true] at hn
        have hb0n : letterB b0 = false := by
          cases hq2 : letterB b0 with
          | false => rfl
          | true => rw [hq2] at hn; simp at hn
        rw [hb0n]; rfl
    cases hl : letterB b
    · (conv => whnf)
      refine str_at (k := k) rfl hb ?_
      (conv => whnf)
      refine .inl ⟨_, _, _, spec_l1In_spec _ _ _, rfl, ?_⟩
      rw [wConv_byte, ← digit_b]
      (conv => whnf)
      cases hd : digitB b
      · (conv => whnf)
        rw [hbad hl hd]
      · (conv => whnf)
        refine ⟨k + 1, by omega, ⟨h3, by rw [hl, hd] at hn; simpa using hn⟩, ?_⟩
        ((conv => whnf); simp only [St.mk.injEq, List.cons.injEq, Prod.mk.injEq, AV.c.injEq, AV.agg.injEq, AV.tup.injEq, CV.d.injEq, D.int.injEq, D.bool.injEq, D.str.injEq, D.sl.injEq, Ent.arr.injEq, Ent.box.injEq, true_and, and_true, and_self, nInt_eq, Int.natCast_zero, dLen_eL, sLen_eq, wI h3 (by omega)])
    · (conv => whnf)
      refine ⟨k + 1, by omega, ⟨h3, by rw [hl] at hn; simpa using hn⟩, ?_⟩
      ((conv => whnf); simp only [St.mk.injEq, List.cons.injEq, Prod.mk.injEq, AV.c.injEq, AV.agg.injEq, AV.tup.injEq, CV.d.injEq, D.int.injEq, D.bool.injEq, D.str.injEq, D.sl.injEq, Ent.arr.injEq, Ent.box.injEq, true_and, and_true, and_self, nInt_eq, Int.natCast_zero, dLen_eL, sLen_eq, wI h3 (by omega)])
  · obtain rfl : k = s.size := by omega
    rw [← hsz, List.drop_length] at hn
    obtain ⟨r, hr⟩ := toList_cons hb0
    rw [hr] at hn
    simp only [List.all_nil, List.all_cons] at hn
    have hn' := hn.symm
    simp only [Bool.and_eq_true] at hn'
    have hl : letterB b0 = true := by
      have h4 := hn'.1
      simp only [Bool.or_eq_true] at h4
      rcases h4 with h4 | h4
      · exact h4
      · rw [digit_b, decide_eq_true_eq] at h4; omega
    have : nameOk s = true := by rw [hno, hr, nameL, nameL_late _ _ (by omega), hl, hn'.2]; rfl
    rw [this]

theorem impl_NameOk_spec (s : ByteArray) (hs : s.size ≤ 9223372036854775807) : FnSpec PR f_impl_NameOk [aS s] (ab (nameOk s)) [] 0 := by
  refine FnSpec.intro hT p_impl_NameOk rfl (by kernel_rfl) n_impl_NameOk rfl ?_
  conv => whnf
  refine tri_loop hT [0, 6, 7] (α := Nat) (fun k => { t := [(0, aS s), (6, ai s.size), (7, ai k)], h := [], n := 0, N := 42 })
    (fun k => k ≤ s.size ∧ nameL (s.data.toList.drop k) k = nameL s.data.toList 0) (fun k => s.size - k) 0 (by ((conv => whnf); simp only [St.mk.injEq, List.cons.injEq, Prod.mk.injEq, AV.c.injEq, AV.agg.injEq, AV.tup.injEq, CV.d.injEq, D.int.injEq, D.bool.injEq, D.str.injEq, D.sl.injEq, Ent.arr.injEq, Ent.box.injEq, true_and, and_true, and_self, nInt_eq, Int.natCast_zero, dLen_eL, sLen_eq])) ⟨Nat.zero_le _, rfl⟩ ?_
  intro k ⟨hk, hn⟩
  (conv => whnf)
  refine ifB_i (fun h1 => ?_) (fun h1 => ?_) <;> (conv => whnf) <;> simp at h1
  · obtain ⟨b, hb⟩ := byte_get h1
    rw [drop_at hb, nameL] at hn
    have hbad : (letterB b || (decide (k ≠ 0) && digitB b)) = false → nameOk s = false := fun p => by
      rw [p, Bool.false_and] at hn
      simp [nameOk, ← hn]
    have hgood : (letterB b || (decide (k ≠ 0) && digitB b)) = true → nameL (s.data.toList.drop (k + 1)) (k + 1) = nameL s.data.toList 0 := fun p => by
      rw [p, Bool.true_and] at hn
      exact hn
    rw [letter_b, digit_b] at hbad hgood
    refine str_at (k := k) rfl hb ?_
    (conv => whnf)
    generalize e1 : iLe 97 (bInt b) = c1
    cases c1 <;> (conv => whnf)
    · have h97 : ¬ 97 ≤ bInt b := by simpa [iLe] using e1
      have hnl : decide (97 ≤ bInt b ∧ bInt b ≤ 122) = false := decide_eq_false (by omega)
      generalize e3 : iEq (k : Int) 0 = c3
      cases c3 <;> (conv => whnf)
      · have hk0 : ¬ k = 0 := by intro h; subst h; simp [iEq] at e3
        refine str_at (k := k) rfl hb ?_
        (conv => whnf)
        generalize e4 : iLt (bInt b) 48 = c4
        cases c4 <;> (conv => whnf)
        · refine str_at (k := k) rfl hb ?_
          (conv => whnf)
          generalize e5 : iLt 57 (bInt b) = c5
          cases c5 <;> (conv => whnf)
          · refine ⟨k + 1, by omega, ⟨h1, hgood ?_⟩, ?_⟩
            · have h48 : ¬ bInt b < 48 := by simpa [iLt] using e4
              have h57 : ¬ 57 < bInt b := by simpa [iLt] using e5
              rw [decide_eq_true hk0, decide_eq_true (show 48 ≤ bInt b ∧ bInt b ≤ 57 by omega)]
              simp
            · ((conv => whnf); simp only [St.mk.injEq, List.cons.injEq, Prod.mk.injEq, AV.c.injEq, AV.agg.injEq, AV.tup.injEq, CV.d.injEq, D.int.injEq, D.bool.injEq, D.str.injEq, D.sl.injEq, Ent.arr.injEq, Ent.box.injEq, true_and, and_true, and_self, nInt_eq, Int.natCast_zero, dLen_eL, sLen_eq, wI h1 hs])
          · have h57 : 57 < bInt b := by simpa [iLt] using e5
            rw [hbad (by rw [hnl, decide_eq_false (show ¬ (48 ≤ bInt b ∧ bInt b ≤ 57) by omega)]; simp)]
        · have h48 : bInt b < 48 := by simpa [iLt] using e4
          rw [hbad (by rw [hnl, decide_eq_false (show ¬ (48 ≤ bInt b ∧ bInt b ≤ 57) by omega)]; simp)]
      · have hk0 : k = 0 := by simpa [iEq] using e3
        rw [hbad (by rw [hnl]; simp [hk0])]
    · have h97 : 97 ≤ bInt b := by simpa [iLe] using e1
      refine str_at (k := k) rfl hb ?_
      (conv => whnf)
      generalize e2 : iLe (bInt b) 122 = c2
      cases c2 <;> (conv => whnf)
      · have h122 : ¬ bInt b ≤ 122 := by simpa [iLe] using e2
        have hnl : decide (97 ≤ bInt b ∧ bInt b ≤ 122) = false := decide_eq_false (by omega)
        generalize e3 : iEq (k : Int) 0 = c3
        cases c3 <;> (conv => whnf)
        · have hk0 : ¬ k = 0 := by intro h; subst h; simp [iEq] at e3
          refine str_at (k := k) rfl hb ?_
          (conv => whnf)
          generalize e4 : iLt (bInt b) 48 = c4
          cases c4 <;> (conv => whnf)
          · refine str_at (k := k) rfl hb ?_
            (conv => whnf)
            generalize e5 : iLt 57 (bInt b) = c5
            cases c5 <;> (conv => whnf)
            · refine ⟨k + 1, by omega, ⟨h1, hgood ?_⟩, ?_⟩
              · have h48 : ¬ bInt b < 48 := by simpa [iLt] using e4
                have h57 : ¬ 57 < bInt b := by simpa [iLt] using e5
                rw [decide_eq_true hk0, decide_eq_true (show 48 ≤ bInt b ∧ bInt b ≤ 57 by omega)]
                simp
              · ((conv => whnf); simp only [St.mk.injEq, List.cons.injEq, Prod.mk.injEq, AV.c.injEq, AV.agg.injEq, AV.tup.injEq, CV.d.injEq, D.int.injEq, D.bool.injEq, D.str.injEq, D.sl.injEq, Ent.arr.injEq, Ent.box.injEq, true_and, and_true, and_self, nInt_eq, Int.natCast_zero, dLen_eL, sLen_eq, wI h1 hs])
            · have h57 : 57 < bInt b := by simpa [iLt] using e5
              rw [hbad (by rw [hnl, decide_eq_false (show ¬ (48 ≤ bInt b ∧ bInt b ≤ 57) by omega)]; simp)]
          · have h48 : bInt b < 48 := by simpa [iLt] using e4
            rw [hbad (by rw [hnl, decide_eq_false (show ¬ (48 ≤ bInt b ∧ bInt b ≤ 57) by omega)]; simp)]
        · have hk0 : k = 0 := by simpa [iEq] using e3
          rw [hbad (by rw [hnl]; simp [hk0])]
      · have h122 : bInt b ≤ 122 := by simpa [iLe] using e2
        refine ⟨k + 1, by omega, ⟨h1, hgood (by rw [decide_eq_true (show 97 ≤ bInt b ∧ bInt b ≤ 122 by omega)]; rfl)⟩, ?_⟩
        ((conv => whnf); simp only [St.mk.injEq, List.cons.injEq, Prod.mk.injEq, AV.c.injEq, AV.agg.injEq, AV.tup.injEq, CV.d.injEq, D.int.injEq, D.bool.injEq, D.str.injEq, D.sl.injEq, Ent.arr.injEq, Ent.box.injEq, true_and, and_true, and_self, nInt_eq, Int.natCast_zero, dLen_eL, sLen_eq, wI h1 hs])
  · obtain rfl : k = s.size := by omega
    refine .inl ⟨_, _, _, impl_within_spec _ _ _, rfl, ?_⟩
    rw [sLen_eq]
    have hd : s.data.toList.drop s.size = [] := List.drop_eq_nil_of_le (by simp)
    rw [hd] at hn
    have : nameOk s = decide (1 ≤ (s.size : Int) ∧ (s.size : Int) ≤ 12) := by simp [nameOk, ← hn, nameL]
    rw [this]
    (conv => whnf)

def hasS (x : ByteArray) (l : List ByteArray) : Bool := l.any fun y => decide (x = y)
/-- Names that are right, each once. -/
def namesL (all : List ByteArray) : List ByteArray → Nat → Bool
  | [], _ => true
  | s :: r, k => (nameOk s && !hasS s (all.take k)) && namesL all r (k + 1)
/-- The first k elements of a slice. -/
theorem dCut_take {α : Type} (f : α → List D) (xs : List α) (k : Nat) : dCut (eL f xs) (nOf 0) (nOf (k : Int)) = eL f (xs.take k) := by simp [dCut, eL, List.map_take]

theorem spec_l9Has_spec (l : List ByteArray) (x : ByteArray) (hl : l.length ≤ 9223372036854775807) : FnSpec PR f_spec_l9Has [aSs l, aS x] (ab (hasS x l)) [] 0 := by
  refine FnSpec.intro hT p_spec_l9Has rfl (by kernel_rfl) n_spec_l9Has rfl ?_
  conv => whnf
  refine tri_loop hT [0, 1, 5] (α := Nat) (fun k => { t := [(0, aSs l), (1, aS x), (5, ai k)], h := [], n := 0, N := 18 })
    (fun k => k ≤ l.length ∧ hasS x (l.drop k) = hasS x l) (fun k => l.length - k) 0 (by ((conv => whnf); simp only [St.mk.injEq, List.cons.injEq, Prod.mk.injEq, AV.c.injEq, AV.agg.injEq, AV.tup.injEq, CV.d.injEq, D.int.injEq, D.bool.injEq, D.str.injEq, D.sl.injEq, Ent.arr.injEq, Ent.box.injEq, true_and, and_true, and_self, nInt_eq, Int.natCast_zero, dLen_eL, sLen_eq])) ⟨Nat.zero_le _, rfl⟩ ?_
  intro k ⟨hk, hi⟩
  (conv => whnf)
  refine ifB_i (fun h1 => ?_) (fun h1 => ?_) <;> (conv => whnf) <;> simp at h1
  · obtain ⟨s, hs⟩ := get_lt h1
    refine idx_at (by simp) hs ?_
    (conv => whnf)
    rw [drop_at hs] at hi
    refine ifB_i (fun h2 => ?_) (fun h2 => ?_) <;> (conv => whnf) <;> simp only [nInt_eq, Int.natCast_zero, dLen_eL, sLen_eq, nOf_eq, Int.toNat_natCast, nAdd_eq, nSub_eq, dLen_nil, dLen_cons, iLt_t, iLt_f, iLe_t, iLe_f, iEq_t, iEq_f, sEq_t, sEq_f, bNot_t, bNot_f, bAnd_t, bEq_t, bEq_f, Bool.not_eq_true, Bool.not_eq_false, Bool.true_eq_false, Bool.false_eq_true] at h2
    · subst h2
      rw [← hi]
      simp [hasS]
    · refine ⟨k + 1, by omega, ⟨h1, by rw [← hi]; simp [hasS, Ne.symm h2]⟩, ?_⟩
      ((conv => whnf); simp only [St.mk.injEq, List.cons.injEq, Prod.mk.injEq, AV.c.injEq, AV.agg.injEq, AV.tup.injEq, CV.d.injEq, D.int.injEq, D.bool.injEq, D.str.injEq, D.sl.injEq, Ent.arr.injEq, Ent.box.injEq, true_and, and_true, and_self, nInt_eq, Int.natCast_zero, dLen_eL, sLen_eq, wI h1 hl])
  · obtain rfl : k = l.length := by omega
    simp only [List.drop_length] at hi
    rw [← hi]
    rfl

theorem slices_IndexS_spec (l : List ByteArray) (x : ByteArray) (hl : l.length ≤ 9223372036854775807) : FnSpec PR f_slices_Index_Lstring_string [aSs l, aS x] (ai (idxL (fun y => decide (x = y)) l 0)) [] 0 := by
  refine FnSpec.intro hT p_slices_Index_Lstring_string rfl (by kernel_rfl) n_slices_Index_Lstring_string rfl ?_
  conv => whnf
  refine tri_loop hT [0, 1, 7, 8] (α := Nat) (fun k => { t := [(0, aSs l), (1, aS x), (7, ai l.length), (8, ai k)], h := [], n := 0, N := 19 })
    (fun k => k ≤ l.length ∧ idxL (fun y => decide (x = y)) (l.drop k) k = idxL (fun y => decide (x = y)) l 0) (fun k => l.length - k) 0 (by ((conv => whnf); simp only [St.mk.injEq, List.cons.injEq, Prod.mk.injEq, AV.c.injEq, AV.agg.injEq, AV.tup.injEq, CV.d.injEq, D.int.injEq, D.bool.injEq, D.str.injEq, D.sl.injEq, Ent.arr.injEq, Ent.box.injEq, true_and, and_true, and_self, nInt_eq, Int.natCast_zero, dLen_eL, sLen_eq])) ⟨Nat.zero_le _, rfl⟩ ?_
  intro k ⟨hk, hi⟩
  (conv => whnf)
  refine ifB_i (fun h1 => ?_) (fun h1 => ?_) <;> (conv => whnf) <;> simp at h1
  · obtain ⟨s, hs⟩ := get_lt h1
    refine idx_at (by simp) hs ?_
    (conv => whnf)
    rw [drop_at hs, idxL] at hi
    refine ifB_i (fun h2 => ?_) (fun h2 => ?_) <;> (conv => whnf) <;> simp only [nInt_eq, Int.natCast_zero, dLen_eL, sLen_eq, nOf_eq, Int.toNat_natCast, nAdd_eq, nSub_eq, dLen_nil, dLen_cons, iLt_t, iLt_f, iLe_t, iLe_f, iEq_t, iEq_f, sEq_t, sEq_f, bNot_t, bNot_f, bAnd_t, bEq_t, bEq_f, Bool.not_eq_true, Bool.not_eq_false, Bool.true_eq_false, Bool.false_eq_true] at h2
    · rw [if_pos (by simpa using h2)] at hi
      ((conv => whnf); simp only [St.mk.injEq, List.cons.injEq, Prod.mk.injEq, AV.c.injEq, AV.agg.injEq, AV.tup.injEq, CV.d.injEq, D.int.injEq, D.bool.injEq, D.str.injEq, D.sl.injEq, Ent.arr.injEq, Ent.box.injEq, true_and, and_true, and_self, nInt_eq, Int.natCast_zero, dLen_eL, sLen_eq, hi])
    · rw [if_neg (by simpa using h2)] at hi
      refine ⟨k + 1, by omega, ⟨h1, hi⟩, ?_⟩
      ((conv => whnf); simp only [St.mk.injEq, List.cons.injEq, Prod.mk.injEq, AV.c.injEq, AV.agg.injEq, AV.tup.injEq, CV.d.injEq, D.int.injEq, D.bool.injEq, D.str.injEq, D.sl.injEq, Ent.arr.injEq, Ent.box.injEq, true_and, and_true, and_self, nInt_eq, Int.natCast_zero, dLen_eL, sLen_eq, wI h1 hl])
  · obtain rfl : k = l.length := by omega
    simp only [List.drop_length, idxL] at hi
    ((conv => whnf); simp only [St.mk.injEq, List.cons.injEq, Prod.mk.injEq, AV.c.injEq, AV.agg.injEq, AV.tup.injEq, CV.d.injEq, D.int.injEq, D.bool.injEq, D.str.injEq, D.sl.injEq, Ent.arr.injEq, Ent.box.injEq, true_and, and_true, and_self, nInt_eq, Int.natCast_zero, dLen_eL, sLen_eq, ← hi])

theorem slices_ContainsS_spec (l : List ByteArray) (x : ByteArray) (hl : l.length ≤ 9223372036854775807) : FnSpec PR f_slices_Contains_Lstring_string [aSs l, aS x] (ab (hasS x l)) [] 0 := by
  refine FnSpec.intro hT p_slices_Contains_Lstring_string rfl (by kernel_rfl) n_slices_Contains_Lstring_string rfl ?_
  conv => whnf
  refine .inl ⟨_, _, _, slices_IndexS_spec l x hl, rfl, ?_⟩
  have h := idxL_any (fun y => decide (x = y)) l 0
  ((conv => whnf); simp only [St.mk.injEq, List.cons.injEq, Prod.mk.injEq, AV.c.injEq, AV.agg.injEq, AV.tup.injEq, CV.d.injEq, D.int.injEq, D.bool.injEq, D.str.injEq, D.sl.injEq, Ent.arr.injEq, Ent.box.injEq, true_and, and_true, and_self, nInt_eq, Int.natCast_zero, dLen_eL, sLen_eq, iLe])
  rw [Bool.eq_iff_iff, decide_eq_true_eq]
  exact h

theorem impl_areNames_spec (l : List ByteArray) (hl : l.length ≤ 1048576) (hs : ∀ s ∈ l, s.size ≤ 9223372036854775807) : FnSpec PR f_impl_areNames [aSs l] (ab (namesL l l 0)) [] 0 := by
  refine FnSpec.intro hT p_impl_areNames rfl (by kernel_rfl) n_impl_areNames rfl ?_
  conv => whnf
  refine tri_loop hT [0, 5, 6, 7] (α := Nat) (fun k => { t := [(0, aSs l), (5, aSs l), (6, ai l.length), (7, ai k)], h := [], n := 0, N := 23 })
    (fun k => k ≤ l.length ∧ namesL l (l.drop k) k = namesL l l 0) (fun k => l.length - k) 0 (by ((conv => whnf); simp only [St.mk.injEq, List.cons.injEq, Prod.mk.injEq, AV.c.injEq, AV.agg.injEq, AV.tup.injEq, CV.d.injEq, D.int.injEq, D.bool.injEq, D.str.injEq, D.sl.injEq, Ent.arr.injEq, Ent.box.injEq, true_and, and_true, and_self, nInt_eq, Int.natCast_zero, dLen_eL, sLen_eq])) ⟨Nat.zero_le _, rfl⟩ ?_
  intro k ⟨hk, hi⟩
  (conv => whnf)
  refine ifB_i (fun h1 => ?_) (fun h1 => ?_) <;> (conv => whnf) <;> simp at h1
  · obtain ⟨s, hs'⟩ := get_lt h1
    rw [drop_at hs', namesL] at hi
    refine idx_at (by simp) hs' ?_
    (conv => whnf)
    refine .inl ⟨_, _, _, impl_NameOk_spec s (hs s (List.mem_of_getElem? hs')), rfl, ?_⟩
    (conv => whnf)
    cases hb : nameOk s <;> (conv => whnf)
    · rw [hb] at hi
      rw [← hi]
      simp
    · rw [hb, Bool.true_and] at hi
      refine And.intro (by simp; omega) ?_
      rw [dCut_take]
      (conv => whnf)
      refine .inl ⟨_, _, _, slices_ContainsS_spec (l.take k) s (by simp; omega), rfl, ?_⟩
      (conv => whnf)
      cases hh : hasS s (l.take k) <;> (conv => whnf)
      · rw [hh] at hi
        refine ⟨k + 1, by omega, ⟨h1, by simpa using hi⟩, ?_⟩
        ((conv => whnf); simp only [St.mk.injEq, List.cons.injEq, Prod.mk.injEq, AV.c.injEq, AV.agg.injEq, AV.tup.injEq, CV.d.injEq, D.int.injEq, D.bool.injEq, D.str.injEq, D.sl.injEq, Ent.arr.injEq, Ent.box.injEq, true_and, and_true, and_self, nInt_eq, Int.natCast_zero, dLen_eL, sLen_eq, wI h1 (by omega)])
      · rw [hh] at hi
        rw [← hi]
        rfl
  · obtain rfl : k = l.length := by omega
    simp only [List.drop_length, namesL] at hi
    rw [← hi]

theorem impl_isSign_spec (x : Int) : FnSpec PR f_impl_isSign [ai x] (ab (decide (-1 ≤ x ∧ x ≤ 1))) [] 0 := by
  refine FnSpec.intro hT p_impl_isSign rfl (by kernel_rfl) n_impl_isSign rfl ?_
  conv => whnf
  refine .inl ⟨_, _, _, impl_within_spec _ _ _, rfl, ?_⟩
  (conv => whnf)

theorem impl_ModelOk_1_spec (x : Int) : FnSpec PR f_impl_ModelOk_1 [ai x] (ab (bNot (decide (-1 ≤ x ∧ x ≤ 1)))) [] 0 := by
  refine FnSpec.intro hT p_impl_ModelOk_1 rfl (by kernel_rfl) n_impl_ModelOk_1 rfl ?_
  conv => whnf
  refine .inl ⟨_, _, _, impl_isSign_spec _, rfl, ?_⟩
  (conv => whnf)

theorem impl_ModelOk_2_spec (t : List Nd) (n : Int) (hl : t.length ≤ 1048576) : FnSpec PR f_impl_ModelOk_2 [aT t, .c (.d (.rp [.int .i64 n]))] (ab (bNot (treeOk t n))) [] 0 := by
  refine FnSpec.intro hT p_impl_ModelOk_2 rfl (by kernel_rfl) n_impl_ModelOk_2 rfl ?_
  conv => whnf
  refine .inl ⟨_, _, _, impl_TreeOk_spec t n hl, rfl, ?_⟩
  (conv => whnf)

def signOk (x : Int) : Bool := decide (-1 ≤ x ∧ x ≤ 1)
def modelOk (m : Mdl) : Bool :=
  decide (1 ≤ (m.names.length : Int) ∧ (m.names.length : Int) ≤ 4) && ((decide (m.signs.length = 0) || decide (m.signs.length = m.names.length)) && (decide (-2147483647 ≤ m.base ∧ m.base ≤ 2147483647) && (decide (m.trees.length ≤ 8) &&
    (namesL m.names m.names 0 && (m.signs.all signOk && m.trees.all fun t => treeOk t m.names.length)))))

set_option maxHeartbeats 1000000 in
theorem spec_ModelOk_spec (m : Mdl) (hn : m.names.length ≤ 1048576) (hns : ∀ s ∈ m.names, s.size ≤ 9223372036854775807) (hs : m.signs.length ≤ 1048576) (hm : m.trees.length ≤ 1048576) (ht : ∀ t ∈ m.trees, t.length ≤ 1048576) : FnSpec PR f_spec_ModelOk [aM m] (ab (modelOk m)) [] 0 := by
  have eS : nInt (dLen (eL cI m.signs)) = (m.signs.length : Int) := by simp
  have eN : nInt (dLen (eL cS m.names)) = (m.names.length : Int) := by simp
  have eT : nInt (dLen (eL cT m.trees)) = (m.trees.length : Int) := by simp
  refine FnSpec.intro hT p_spec_ModelOk rfl (by kernel_rfl) n_spec_ModelOk rfl ?_
  conv => whnf
  rw [eN]
  refine .inl ⟨_, _, _, spec_l1In_spec _ _ _, rfl, ?_⟩
  (conv => whnf)
  refine ifB_i (fun h1 => ?_) (fun h1 => ?_) <;> (conv => whnf) <;> simp only [nInt_eq, Int.natCast_zero, dLen_eL, sLen_eq, nOf_eq, Int.toNat_natCast, nAdd_eq, nSub_eq, dLen_nil, dLen_cons, iLt_t, iLt_f, iLe_t, iLe_f, iEq_t, iEq_f, sEq_t, sEq_f, bNot_t, bNot_f, bAnd_t, bEq_t, bEq_f, Bool.not_eq_true, Bool.not_eq_false, Bool.true_eq_false, Bool.false_eq_true] at h1
  · have : decide (1 ≤ (m.names.length : Int) ∧ (m.names.length : Int) ≤ 4) = false := by simpa using h1
    simp [modelOk, this]
  rw [eS]
  generalize e1 : iEq (m.signs.length : Int) 0 = c1
  cases c1 <;> (conv => whnf)
  · rw [eS]
    generalize e2 : iEq (m.signs.length : Int) (m.names.length : Int) = c2
    have h0 : ¬ m.signs.length = 0 := by intro h; rw [h] at e1; simp [iEq] at e1
    cases c2 <;> (conv => whnf)
    · have : ¬ m.signs.length = m.names.length := by intro h; rw [h] at e2; simp [iEq] at e2
      simp [modelOk, h0, this]
    · have hsg : (decide (m.signs.length = 0) || decide (m.signs.length = m.names.length)) = true := by
        have : (m.signs.length : Int) = m.names.length := by simpa [iEq] using e2
        rw [decide_eq_true (show m.signs.length = m.names.length by omega)]; simp
      refine .inl ⟨_, _, _, spec_l6Value_spec _, rfl, ?_⟩
      (conv => whnf)
      generalize e3 : decide (-2147483647 ≤ m.base ∧ m.base ≤ 2147483647) = c3
      cases c3 <;> (conv => whnf)
      · simp [modelOk, e3]
      rw [eT]
      generalize e4 : iLt 8 (m.trees.length : Int) = c4
      cases c4 <;> (conv => whnf)
      rotate_left
      · have : ¬ m.trees.length ≤ 8 := by have : (8 : Int) < m.trees.length := by simpa [iLt] using e4
                                          omega
        simp [modelOk, this]
      have h4 : decide (m.trees.length ≤ 8) = true := decide_eq_true (by have : ¬ (8 : Int) < m.trees.length := by simpa [iLt] using e4
                                                                         omega)
      have hmo : modelOk m = (namesL m.names m.names 0 && (m.signs.all signOk && m.trees.all fun t => treeOk t m.names.length)) := by simp only [modelOk]; rw [h1, hsg, e3, h4]; rfl
      rw [hmo]
      refine tri_loop hT [1, 3, 4] (α := Nat) (fun k => { t := [(1, .c (.ptr 0 0)), (3, ai m.names.length), (4, ai k)], h := [(0, .box t_impl_Model (cM m))], n := 1, N := 91 })
        (fun k => k ≤ m.names.length ∧ namesL m.names (m.names.drop k) k = namesL m.names m.names 0) (fun k => m.names.length - k) 0 (by ((conv => whnf); simp only [St.mk.injEq, List.cons.injEq, Prod.mk.injEq, AV.c.injEq, AV.agg.injEq, AV.tup.injEq, CV.d.injEq, D.int.injEq, D.bool.injEq, D.str.injEq, D.sl.injEq, Ent.arr.injEq, Ent.box.injEq, true_and, and_true, and_self, nInt_eq, Int.natCast_zero, dLen_eL, sLen_eq]); first | done | simp) ⟨Nat.zero_le _, rfl⟩ ?_
      intro k ⟨hk, hi⟩
      (conv => whnf)
      refine ifB_i (fun g1 => ?_) (fun g1 => ?_) <;> (conv => whnf) <;> simp at g1
      · obtain ⟨s, hs'⟩ := get_lt g1
        rw [drop_at hs', namesL] at hi
        refine tri_conf hT hmix (by kernel_rfl) ?_
        (conv => whnf)
        refine idx_at (by simp) hs' ?_
        (conv => whnf)
        refine ⟨_, _, spec_NameOk_spec s (hns s (List.mem_of_getElem? hs')), rfl, ?_⟩
        cases hb : nameOk s
        · (conv => whnf)
          repeat' (first | (refine And.intro (fun q => ?_) (fun q => ?_) <;> cases q <;> (conv => whnf)) | fail)
          rw [hb] at hi
          have : namesL m.names m.names 0 = false := by rw [← hi]; simp
          rw [this]
          (conv => whnf)
          rfl
        · rw [hb, Bool.true_and] at hi
          (conv => whnf)
          repeat' (first | (refine And.intro (fun q => ?_) (fun q => ?_) <;> cases q <;> (conv => whnf)) | fail)
          refine And.intro (by simp; omega) ?_
          rw [dCut_take]
          (conv => whnf)
          repeat' (first | (refine And.intro (fun q => ?_) (fun q => ?_) <;> cases q <;> (conv => whnf)) | fail)
          refine idx_at (by simp) hs' ?_
          (conv => whnf)
          repeat' (first | (refine And.intro (fun q => ?_) (fun q => ?_) <;> cases q <;> (conv => whnf)) | fail)
          refine ⟨_, _, spec_l9Has_spec (m.names.take k) s (by simp; omega), rfl, ?_⟩
          cases hh : hasS s (m.names.take k)
          · (conv => whnf)
            repeat' (first | (refine And.intro (fun q => ?_) (fun q => ?_) <;> cases q <;> (conv => whnf)) | fail)
            rw [hh] at hi
            refine ⟨k + 1, by omega, ⟨g1, by simpa using hi⟩, ?_⟩
            ((conv => whnf); simp only [St.mk.injEq, List.cons.injEq, Prod.mk.injEq, AV.c.injEq, AV.agg.injEq, AV.tup.injEq, CV.d.injEq, D.int.injEq, D.bool.injEq, D.str.injEq, D.sl.injEq, Ent.arr.injEq, Ent.box.injEq, true_and, and_true, and_self, nInt_eq, Int.natCast_zero, dLen_eL, sLen_eq, wI g1 (by omega)])
          · (conv => whnf)
            repeat' (first | (refine And.intro (fun q => ?_) (fun q => ?_) <;> cases q <;> (conv => whnf)) | fail)
            rw [hh] at hi
            have : namesL m.names m.names 0 = false := by rw [← hi]; simp
            rw [this]
            (conv => whnf)
            rfl
      · obtain rfl : k = m.names.length := by omega
        simp only [List.drop_length, namesL] at hi
        rw [← hi, Bool.true_and]
        refine tri_loop hT [1, 3, 5] (α := Nat) (fun k => { t := [(1, .c (.ptr 0 0)), (3, ai m.names.length), (5, ai k)], h := [(0, .box t_impl_Model (cM m))], n := 1, N := 91 })
          (fun k => k ≤ m.signs.length ∧ (m.signs.drop k).all signOk = m.signs.all signOk) (fun k => m.signs.length - k) 0 (by ((conv => whnf); simp only [St.mk.injEq, List.cons.injEq, Prod.mk.injEq, AV.c.injEq, AV.agg.injEq, AV.tup.injEq, CV.d.injEq, D.int.injEq, D.bool.injEq, D.str.injEq, D.sl.injEq, Ent.arr.injEq, Ent.box.injEq, true_and, and_true, and_self, nInt_eq, Int.natCast_zero, dLen_eL, sLen_eq])) ⟨Nat.zero_le _, rfl⟩ ?_
        intro k ⟨hk2, hj⟩
        (conv => whnf)
        refine ifB_i (fun g2 => ?_) (fun g2 => ?_) <;> (conv => whnf) <;> simp at g2
        · obtain ⟨x, hx⟩ := get_lt g2
          rw [drop_at hx, List.all_cons] at hj
          refine idx_at (by simp) hx ?_
          (conv => whnf)
          refine .inl ⟨_, _, _, spec_l1In_spec _ _ _, rfl, ?_⟩
          rw [show decide (-1 ≤ x ∧ x ≤ 1) = signOk x from rfl]
          cases hb : signOk x
          · (conv => whnf)
            rw [hb] at hj
            rw [← hj]
            rfl
          · (conv => whnf)
            rw [hb] at hj
            refine ⟨k + 1, by omega, ⟨g2, by simpa using hj⟩, ?_⟩
            ((conv => whnf); simp only [St.mk.injEq, List.cons.injEq, Prod.mk.injEq, AV.c.injEq, AV.agg.injEq, AV.tup.injEq, CV.d.injEq, D.int.injEq, D.bool.injEq, D.str.injEq, D.sl.injEq, Ent.arr.injEq, Ent.box.injEq, true_and, and_true, and_self, nInt_eq, Int.natCast_zero, dLen_eL, sLen_eq, wI g2 (by omega)])
        · obtain rfl : k = m.signs.length := by omega
          simp only [List.drop_length, List.all_nil] at hj
          rw [← hj, Bool.true_and]
          refine tri_loop hT [1, 3, 6] (α := Nat) (fun k => { t := [(1, .c (.ptr 0 0)), (3, ai m.names.length), (6, ai k)], h := [(0, .box t_impl_Model (cM m))], n := 1, N := 91 })
            (fun k => k ≤ m.trees.length ∧ ((m.trees.drop k).all fun t => treeOk t m.names.length) = m.trees.all fun t => treeOk t m.names.length) (fun k => m.trees.length - k) 0 (by ((conv => whnf); simp only [St.mk.injEq, List.cons.injEq, Prod.mk.injEq, AV.c.injEq, AV.agg.injEq, AV.tup.injEq, CV.d.injEq, D.int.injEq, D.bool.injEq, D.str.injEq, D.sl.injEq, Ent.arr.injEq, Ent.box.injEq, true_and, and_true, and_self, nInt_eq, Int.natCast_zero, dLen_eL, sLen_eq])) ⟨Nat.zero_le _, rfl⟩ ?_
          intro k ⟨hk3, hl⟩
          (conv => whnf)
          refine ifB_i (fun g3 => ?_) (fun g3 => ?_) <;> (conv => whnf) <;> simp at g3
          · obtain ⟨t, ht'⟩ := get_lt g3
            rw [drop_at ht', List.all_cons] at hl
            refine idx_at (by simp) ht' ?_
            (conv => whnf)
            refine .inl ⟨_, _, _, spec_TreeOk_spec t m.names.length (ht t (List.mem_of_getElem? ht')), rfl, ?_⟩
            cases hb : treeOk t m.names.length
            · (conv => whnf)
              rw [hb] at hl
              rw [← hl]
              rfl
            · (conv => whnf)
              rw [hb] at hl
              refine ⟨k + 1, by omega, ⟨g3, by simpa using hl⟩, ?_⟩
              ((conv => whnf); simp only [St.mk.injEq, List.cons.injEq, Prod.mk.injEq, AV.c.injEq, AV.agg.injEq, AV.tup.injEq, CV.d.injEq, D.int.injEq, D.bool.injEq, D.str.injEq, D.sl.injEq, Ent.arr.injEq, Ent.box.injEq, true_and, and_true, and_self, nInt_eq, Int.natCast_zero, dLen_eL, sLen_eq, wI g3 (by omega)])
          · obtain rfl : k = m.trees.length := by omega
            simp only [List.drop_length, List.all_nil] at hl
            rw [← hl]
  · have hsg : (decide (m.signs.length = 0) || decide (m.signs.length = m.names.length)) = true := by
      have : (m.signs.length : Int) = 0 := by simpa [iEq] using e1
      rw [decide_eq_true (show m.signs.length = 0 by omega)]; rfl
    refine .inl ⟨_, _, _, spec_l6Value_spec _, rfl, ?_⟩
    (conv => whnf)
    generalize e3 : decide (-2147483647 ≤ m.base ∧ m.base ≤ 2147483647) = c3
    cases c3 <;> (conv => whnf)
    · simp [modelOk, e3]
    rw [eT]
    generalize e4 : iLt 8 (m.trees.length : Int) = c4
    cases c4 <;> (conv => whnf)
    rotate_left
    · have : ¬ m.trees.length ≤ 8 := by have : (8 : Int) < m.trees.length := by simpa [iLt] using e4
                                        omega
      simp [modelOk, this]
    have h4 : decide (m.trees.length ≤ 8) = true := decide_eq_true (by have : ¬ (8 : Int) < m.trees.length := by simpa [iLt] using e4
                                                                       omega)
    have hmo : modelOk m = (namesL m.names m.names 0 && (m.signs.all signOk && m.trees.all fun t => treeOk t m.names.length)) := by simp only [modelOk]; rw [h1, hsg, e3, h4]; rfl
    rw [hmo]
    refine tri_loop hT [1, 3, 4] (α := Nat) (fun k => { t := [(1, .c (.ptr 0 0)), (3, ai m.names.length), (4, ai k)], h := [(0, .box t_impl_Model (cM m))], n := 1, N := 91 })
      (fun k => k ≤ m.names.length ∧ namesL m.names (m.names.drop k) k = namesL m.names m.names 0) (fun k => m.names.length - k) 0 (by ((conv => whnf); simp only [St.mk.injEq, List.cons.injEq, Prod.mk.injEq, AV.c.injEq, AV.agg.injEq, AV.tup.injEq, CV.d.injEq, D.int.injEq, D.bool.injEq, D.str.injEq, D.sl.injEq, Ent.arr.injEq, Ent.box.injEq, true_and, and_true, and_self, nInt_eq, Int.natCast_zero, dLen_eL, sLen_eq]); first | done | simp) ⟨Nat.zero_le _, rfl⟩ ?_
    intro k ⟨hk, hi⟩
    (conv => whnf)
    refine ifB_i (fun g1 => ?_) (fun g1 => ?_) <;> (conv => whnf) <;> simp at g1
    · obtain ⟨s, hs'⟩ := get_lt g1
      rw [drop_at hs', namesL] at hi
      refine tri_conf hT hmix (by kernel_rfl) ?_
      (conv => whnf)
      refine idx_at (by simp) hs' ?_
      (conv => whnf)
      refine ⟨_, _, spec_NameOk_spec s (hns s (List.mem_of_getElem? hs')), rfl, ?_⟩
      cases hb : nameOk s
      · (conv => whnf)
        repeat' (first | (refine And.intro (fun q => ?_) (fun q => ?_) <;> cases q <;> (conv => whnf)) | fail)
        rw [hb] at hi
        have : namesL m.names m.names 0 = false := by rw [← hi]; simp
        rw [this]
        (conv => whnf)
        rfl
      · rw [hb, Bool.true_and] at hi
        (conv => whnf)
        repeat' (first | (refine And.intro (fun q => ?_) (fun q => ?_) <;> cases q <;> (conv => whnf)) | fail)
        refine And.intro (by simp; omega) ?_
        rw [dCut_take]
        (conv => whnf)
        repeat' (first | (refine And.intro (fun q => ?_) (fun q => ?_) <;> cases q <;> (conv => whnf)) | fail)
        refine idx_at (by simp) hs' ?_
        (conv => whnf)
        repeat' (first | (refine And.intro (fun q => ?_) (fun q => ?_) <;> cases q <;> (conv => whnf)) | fail)
        refine ⟨_, _, spec_l9Has_spec (m.names.take k) s (by simp; omega), rfl, ?_⟩
        cases hh : hasS s (m.names.take k)
        · (conv => whnf)
          repeat' (first | (refine And.intro (fun q => ?_) (fun q => ?_) <;> cases q <;> (conv => whnf)) | fail)
          rw [hh] at hi
          refine ⟨k + 1, by omega, ⟨g1, by simpa using hi⟩, ?_⟩
          ((conv => whnf); simp only [St.mk.injEq, List.cons.injEq, Prod.mk.injEq, AV.c.injEq, AV.agg.injEq, AV.tup.injEq, CV.d.injEq, D.int.injEq, D.bool.injEq, D.str.injEq, D.sl.injEq, Ent.arr.injEq, Ent.box.injEq, true_and, and_true, and_self, nInt_eq, Int.natCast_zero, dLen_eL, sLen_eq, wI g1 (by omega)])
        · (conv => whnf)
          repeat' (first | (refine And.intro (fun q => ?_) (fun q => ?_) <;> cases q <;> (conv => whnf)) | fail)
          rw [hh] at hi
          have : namesL m.names m.names 0 = false := by rw [← hi]; simp
          rw [this]
          (conv => whnf)
          rfl
    · obtain rfl : k = m.names.length := by omega
      simp only [List.drop_length, namesL] at hi
      rw [← hi, Bool.true_and]
      refine tri_loop hT [1, 3, 5] (α := Nat) (fun k => { t := [(1, .c (.ptr 0 0)), (3, ai m.names.length), (5, ai k)], h := [(0, .box t_impl_Model (cM m))], n := 1, N := 91 })
        (fun k => k ≤ m.signs.length ∧ (m.signs.drop k).all signOk = m.signs.all signOk) (fun k => m.signs.length - k) 0 (by ((conv => whnf); simp only [St.mk.injEq, List.cons.injEq, Prod.mk.injEq, AV.c.injEq, AV.agg.injEq, AV.tup.injEq, CV.d.injEq, D.int.injEq, D.bool.injEq, D.str.injEq, D.sl.injEq, Ent.arr.injEq, Ent.box.injEq, true_and, and_true, and_self, nInt_eq, Int.natCast_zero, dLen_eL, sLen_eq])) ⟨Nat.zero_le _, rfl⟩ ?_
      intro k ⟨hk2, hj⟩
      (conv => whnf)
      refine ifB_i (fun g2 => ?_) (fun g2 => ?_) <;> (conv => whnf) <;> simp at g2
      · obtain ⟨x, hx⟩ := get_lt g2
        rw [drop_at hx, List.all_cons] at hj
        refine idx_at (by simp) hx ?_
        (conv => whnf)
        refine .inl ⟨_, _, _, spec_l1In_spec _ _ _, rfl, ?_⟩
        rw [show decide (-1 ≤ x ∧ x ≤ 1) = signOk x from rfl]
        cases hb : signOk x
        · (conv => whnf)
          rw [hb] at hj
          rw [← hj]
          rfl
        · (conv => whnf)
          rw [hb] at hj
          refine ⟨k + 1, by omega, ⟨g2, by simpa using hj⟩, ?_⟩
          ((conv => whnf); simp only [St.mk.injEq, List.cons.injEq, Prod.mk.injEq, AV.c.injEq, AV.agg.injEq, AV.tup.injEq, CV.d.injEq, D.int.injEq, D.bool.injEq, D.str.injEq, D.sl.injEq, Ent.arr.injEq, Ent.box.injEq, true_and, and_true, and_self, nInt_eq, Int.natCast_zero, dLen_eL, sLen_eq, wI g2 (by omega)])
      · obtain rfl : k = m.signs.length := by omega
        simp only [List.drop_length, List.all_nil] at hj
        rw [← hj, Bool.true_and]
        refine tri_loop hT [1, 3, 6] (α := Nat) (fun k => { t := [(1, .c (.ptr 0 0)), (3, ai m.names.length), (6, ai k)], h := [(0, .box t_impl_Model (cM m))], n := 1, N := 91 })
          (fun k => k ≤ m.trees.length ∧ ((m.trees.drop k).all fun t => treeOk t m.names.length) = m.trees.all fun t => treeOk t m.names.length) (fun k => m.trees.length - k) 0 (by ((conv => whnf); simp only [St.mk.injEq, List.cons.injEq, Prod.mk.injEq, AV.c.injEq, AV.agg.injEq, AV.tup.injEq, CV.d.injEq, D.int.injEq, D.bool.injEq, D.str.injEq, D.sl.injEq, Ent.arr.injEq, Ent.box.injEq, true_and, and_true, and_self, nInt_eq, Int.natCast_zero, dLen_eL, sLen_eq])) ⟨Nat.zero_le _, rfl⟩ ?_
        intro k ⟨hk3, hl⟩
        (conv => whnf)
        refine ifB_i (fun g3 => ?_) (fun g3 => ?_) <;> (conv => whnf) <;> simp at g3
        · obtain ⟨t, ht'⟩ := get_lt g3
          rw [drop_at ht', List.all_cons] at hl
          refine idx_at (by simp) ht' ?_
          (conv => whnf)
          refine .inl ⟨_, _, _, spec_TreeOk_spec t m.names.length (ht t (List.mem_of_getElem? ht')), rfl, ?_⟩
          cases hb : treeOk t m.names.length
          · (conv => whnf)
            rw [hb] at hl
            rw [← hl]
            rfl
          · (conv => whnf)
            rw [hb] at hl
            refine ⟨k + 1, by omega, ⟨g3, by simpa using hl⟩, ?_⟩
            ((conv => whnf); simp only [St.mk.injEq, List.cons.injEq, Prod.mk.injEq, AV.c.injEq, AV.agg.injEq, AV.tup.injEq, CV.d.injEq, D.int.injEq, D.bool.injEq, D.str.injEq, D.sl.injEq, Ent.arr.injEq, Ent.box.injEq, true_and, and_true, and_self, nInt_eq, Int.natCast_zero, dLen_eL, sLen_eq, wI g3 (by omega)])
        · obtain rfl : k = m.trees.length := by omega
          simp only [List.drop_length, List.all_nil] at hl
          rw [← hl]

theorem any_all {α : Type} (p : α → Bool) (l : List α) : (l.any fun x => bNot (p x)) = !l.all p := by
  induction l with
  | nil => rfl
  | cons x r ih => rw [List.any_cons, List.all_cons, ih, Bool.not_and]; rfl
set_option maxHeartbeats 1000000 in
theorem impl_ModelOk_spec (m : Mdl) (hn : m.names.length ≤ 1048576) (hns : ∀ s ∈ m.names, s.size ≤ 9223372036854775807) (hs : m.signs.length ≤ 1048576) (hm : m.trees.length ≤ 1048576) (ht : ∀ t ∈ m.trees, t.length ≤ 1048576) : FnSpec PR f_impl_ModelOk [aM m] (ab (modelOk m)) [] 0 := by
  have eS : nInt (dLen (eL cI m.signs)) = (m.signs.length : Int) := by simp
  have eN : nInt (dLen (eL cS m.names)) = (m.names.length : Int) := by simp
  have eT : nInt (dLen (eL cT m.trees)) = (m.trees.length : Int) := by simp
  refine FnSpec.intro hT p_impl_ModelOk rfl (by kernel_rfl) n_impl_ModelOk rfl ?_
  conv => whnf
  rw [eN]
  refine .inl ⟨_, _, _, impl_within_spec _ _ _, rfl, ?_⟩
  (conv => whnf)
  refine ifB_i (fun h1 => ?_) (fun h1 => ?_) <;> (conv => whnf) <;> simp only [nInt_eq, Int.natCast_zero, dLen_eL, sLen_eq, nOf_eq, Int.toNat_natCast, nAdd_eq, nSub_eq, dLen_nil, dLen_cons, iLt_t, iLt_f, iLe_t, iLe_f, iEq_t, iEq_f, sEq_t, sEq_f, bNot_t, bNot_f, bAnd_t, bEq_t, bEq_f, Bool.not_eq_true, Bool.not_eq_false, Bool.true_eq_false, Bool.false_eq_true] at h1
  · have : decide (1 ≤ (m.names.length : Int) ∧ (m.names.length : Int) ≤ 4) = false := by simpa using h1
    simp [modelOk, this]
  refine .inl ⟨_, _, _, impl_areNames_spec m.names hn hns, rfl, ?_⟩
  cases hnm : namesL m.names m.names 0
  · (conv => whnf)
    simp [modelOk, hnm]
  (conv => whnf)
  rw [eS]
  generalize e1 : iEq (m.signs.length : Int) 0 = c1
  cases c1 <;> (conv => whnf)
  · rw [eS]
    generalize e2 : iEq (m.signs.length : Int) (m.names.length : Int) = c2
    have h0 : ¬ m.signs.length = 0 := by intro h; rw [h] at e1; simp [iEq] at e1
    cases c2 <;> (conv => whnf)
    · have : ¬ m.signs.length = m.names.length := by intro h; rw [h] at e2; simp [iEq] at e2
      simp [modelOk, h0, this]
    · have hsg : (decide (m.signs.length = 0) || decide (m.signs.length = m.names.length)) = true := by
        have : (m.signs.length : Int) = m.names.length := by simpa [iEq] using e2
        rw [decide_eq_true (show m.signs.length = m.names.length by omega)]; simp
      refine .inl ⟨_, _, _, slices_ContainsFunc_Lint_int_0 m.signs f_impl_ModelOk_1 (fun x => bNot (signOk x)) (fun x _ => impl_ModelOk_1_spec x) (by omega), rfl, ?_⟩
      rw [any_all]
      cases hsa : m.signs.all signOk
      rotate_left
      · (conv => whnf)
        refine .inl ⟨_, _, _, impl_isDecimal_spec _, rfl, ?_⟩
        (conv => whnf)
        generalize e3 : decide (-2147483647 ≤ m.base ∧ m.base ≤ 2147483647) = c3
        cases c3 <;> (conv => whnf)
        · simp [modelOk, e3]
        rw [eT]
        generalize e4 : iLe (m.trees.length : Int) 8 = c4
        cases c4 <;> (conv => whnf)
        · have : ¬ m.trees.length ≤ 8 := by have : ¬ (m.trees.length : Int) ≤ 8 := by simpa [iLe] using e4
                                            omega
          simp [modelOk, this]
        have h4 : decide (m.trees.length ≤ 8) = true := decide_eq_true (by have : (m.trees.length : Int) ≤ 8 := by simpa [iLe] using e4
                                                                           omega)
        refine .inr (.inl ⟨_, _, _, slices_ContainsFunc_Limpl_Tree_impl_Tree_1 m.trees f_impl_ModelOk_2 (.rp [.int .i64 m.names.length]) (fun t => bNot (treeOk t m.names.length)) (fun t htm => impl_ModelOk_2_spec t m.names.length (ht t htm)) (by omega), rfl, trivial, ?_⟩)
        rw [any_all]
        (conv => whnf)
        have hmo : modelOk m = m.trees.all fun t => treeOk t m.names.length := by simp only [modelOk]; rw [h1, hsg, e3, h4, hnm, hsa]; rfl
        rw [hmo]
        simp [bNot]
      · (conv => whnf)
        simp [modelOk, hsa]
  · have hsg : (decide (m.signs.length = 0) || decide (m.signs.length = m.names.length)) = true := by
      have : (m.signs.length : Int) = 0 := by simpa [iEq] using e1
      rw [decide_eq_true (show m.signs.length = 0 by omega)]; rfl
    refine .inl ⟨_, _, _, slices_ContainsFunc_Lint_int_0 m.signs f_impl_ModelOk_1 (fun x => bNot (signOk x)) (fun x _ => impl_ModelOk_1_spec x) (by omega), rfl, ?_⟩
    rw [any_all]
    cases hsa : m.signs.all signOk
    rotate_left
    · (conv => whnf)
      refine .inl ⟨_, _, _, impl_isDecimal_spec _, rfl, ?_⟩
      (conv => whnf)
      generalize e3 : decide (-2147483647 ≤ m.base ∧ m.base ≤ 2147483647) = c3
      cases c3 <;> (conv => whnf)
      · simp [modelOk, e3]
      rw [eT]
      generalize e4 : iLe (m.trees.length : Int) 8 = c4
      cases c4 <;> (conv => whnf)
      · have : ¬ m.trees.length ≤ 8 := by have : ¬ (m.trees.length : Int) ≤ 8 := by simpa [iLe] using e4
                                          omega
        simp [modelOk, this]
      have h4 : decide (m.trees.length ≤ 8) = true := decide_eq_true (by have : (m.trees.length : Int) ≤ 8 := by simpa [iLe] using e4
                                                                         omega)
      refine .inr (.inl ⟨_, _, _, slices_ContainsFunc_Limpl_Tree_impl_Tree_1 m.trees f_impl_ModelOk_2 (.rp [.int .i64 m.names.length]) (fun t => bNot (treeOk t m.names.length)) (fun t htm => impl_ModelOk_2_spec t m.names.length (ht t htm)) (by omega), rfl, trivial, ?_⟩)
      rw [any_all]
      (conv => whnf)
      have hmo : modelOk m = m.trees.all fun t => treeOk t m.names.length := by simp only [modelOk]; rw [h1, hsg, e3, h4, hnm, hsa]; rfl
      rw [hmo]
      simp [bNot]
    · (conv => whnf)
      simp [modelOk, hsa]
end Go.H.S
namespace Go.H.S
open Go Go.Proofs Go.H
attribute [local irreducible] Tri FnSpec FnSpecM FnSpecX FnSpecJ
set_option maxRecDepth 100000
set_option linter.unusedSimpArgs false
set_option linter.unusedVariables false


def valsL : List Nd → List Int
  | [] => []
  | n :: r => if n.f = -1 then n.v :: valsL r else valsL r
theorem valsL_eq : ∀ (t : List Nd) (k : Nat) (all : List Nd), (∀ j n, t[j]? = some n → all[k + j]? = some n) → (leavesK t k).map (fun i => match all[i.toNat]? with | some n => n.v | none => 0) = valsL t
  | [], k, all, h => rfl
  | n :: r, k, all, h => by
    have ih := valsL_eq r (k + 1) all (fun j n hj => by rw [show k + 1 + j = k + (j + 1) by omega]; exact h (j + 1) n hj)
    have h0 := h 0 n rfl
    simp only [leavesK, valsL]
    split
    · rw [List.map_cons, ih, Int.toNat_natCast, show all[k]? = some n from h0]
    · exact ih
theorem valsL_len : ∀ t : List Nd, (valsL t).length ≤ t.length
  | [] => by simp [valsL]
  | n :: r => by
    have := valsL_len r
    simp only [valsL]
    split <;> simp <;> omega
def valuesL (t : List Nd) : List Int := distinctL (valsL t)
def vAtI (t : List Nd) (i : Int) : Int := match t[i.toNat]? with | some n => n.v | none => 0
theorem leaf_vals (t : List Nd) : (leavesK t 0).map (vAtI t) = valsL t := valsL_eq t 0 t (fun j n h => by rw [Nat.zero_add]; exact h)
theorem spec_ValuesIn_spec (t : List Nd) (hl : t.length ≤ 1048576) : FnSpec PR f_spec_ValuesIn [aT t] (.c (.ref 0 0 none)) [(0, .arr t_int 1 0 .own (eL cI (valuesL t)))] 1 := by
  have hll := leavesK_len t 0
  have hlt := leavesK_lt t 0
  have hlv := leaf_vals t
  refine FnSpec.intro hT p_spec_ValuesIn rfl (by kernel_rfl) n_spec_ValuesIn rfl ?_
  conv => whnf
  refine .inl ⟨_, _, _, spec_LeavesOf_spec t hl, rfl, ?_⟩
  generalize leavesK t 0 = L at *
  (conv => whnf)
  refine tri_loop hT [1, 3, 4, 5] (α := Nat) (fun k => { t := [(1, .c (.ptr 0 0)), (3, .c (.ref 1 0 none)), (4, .c (.ref 2 0 none)), (5, ai k)], h := [(0, .box t_impl_Tree (cTr t)), (1, .arr t_int 1 0 .own (eL cI ((L.take k).map (vAtI t)))), (2, .arr t_int 1 0 .own (eL cI L))], n := 3, N := 29 })
    (fun k => k ≤ L.length) (fun k => L.length - k) 0 (by ((conv => whnf); simp only [St.mk.injEq, List.cons.injEq, Prod.mk.injEq, AV.c.injEq, AV.agg.injEq, AV.tup.injEq, CV.d.injEq, D.int.injEq, D.bool.injEq, D.str.injEq, D.sl.injEq, Ent.arr.injEq, Ent.box.injEq, true_and, and_true, and_self, nInt_eq, Int.natCast_zero, dLen_eL, sLen_eq, List.take_zero, List.map_nil, eL_nil])) (Nat.zero_le _) ?_
  intro k hk
  (conv => whnf)
  refine ifB_i (fun h1 => ?_) (fun h1 => ?_) <;> (conv => whnf) <;> simp at h1
  · obtain ⟨i, hi⟩ := get_lt h1
    have hib := hlt i (List.mem_of_getElem? hi)
    obtain ⟨j, rfl⟩ : ∃ j : Nat, i = j := ⟨i.toNat, by omega⟩
    obtain ⟨n, hn⟩ := get_lt (show j < t.length by omega)
    have hv : vAtI t j = n.v := by simp [vAtI, hn]
    have hnx : (L.take (k + 1)).map (vAtI t) = (L.take k).map (vAtI t) ++ [n.v] := by rw [List.take_add_one, hi]; simp [hv]
    refine tri_every hT hmix [1, 3, 4, 5] { t := [(1, .c (.ptr 0 0)), (3, .c (.ref 1 0 none)), (4, .c (.ref 2 0 none)), (5, ai k)], h := [(0, .box t_impl_Tree (cTr t)), (1, .arr t_int 1 0 .own (eL cI ((L.take (k + 1)).map (vAtI t)))), (2, .arr t_int 1 0 .own (eL cI L))], n := 3, N := 29 } rfl ?_ ?_
    · repeat' first
        | (refine anyV_one rfl ?_; (conv => whnf))
        | (refine anyV_two rfl ?_ ?_ <;> (conv => whnf))
        | (refine anyV_three rfl ?_ ?_ ?_ <;> (conv => whnf))
        | (refine anyV_end rfl ?_; (conv => whnf); first | done | (rw [hnx, ← eL_app, partOf_none]; rfl))
        | (refine idx_at (by simp) hn ?_; (conv => whnf))
        | (refine ref_at (k := k) (by simp) (by simp; omega) ?_; (conv => whnf))
        | (refine ld_at (by simp) hi ?_; (conv => whnf))
        | (refine And.intro (by simp [eL_length, dLen_len]; omega) ?_; (conv => whnf))
    · (conv => whnf)
      refine ⟨k + 1, by omega, h1, ?_⟩
      ((conv => whnf); simp only [St.mk.injEq, List.cons.injEq, Prod.mk.injEq, AV.c.injEq, AV.agg.injEq, AV.tup.injEq, CV.d.injEq, D.int.injEq, D.bool.injEq, D.str.injEq, D.sl.injEq, Ent.arr.injEq, Ent.box.injEq, true_and, and_true, and_self, nInt_eq, Int.natCast_zero, dLen_eL, sLen_eq, wI h1 (by omega)])
  · obtain rfl : k = L.length := by omega
    rw [List.take_length, hlv]
    refine .inr (.inl ⟨_, _, _, spec_Distinct_spec (valsL t) (by have := valsL_len t; omega), rfl, ⟨flat_cI _, trivial⟩, ?_⟩)
    (conv => whnf)
    rfl

theorem impl_ValuesIn_spec (t : List Nd) (hl : t.length ≤ 1048576) : FnSpec PR f_impl_ValuesIn [aT t] (.c (.ref 0 0 none)) [(0, .arr t_int 1 0 .own (eL cI (valuesL t)))] 1 := by
  have hll := leavesK_len t 0
  have hlt := leavesK_lt t 0
  have hlv := leaf_vals t
  refine FnSpec.intro hT p_impl_ValuesIn rfl (by kernel_rfl) n_impl_ValuesIn rfl ?_
  conv => whnf
  refine .inl ⟨_, _, _, impl_LeavesOf_spec t hl, rfl, ?_⟩
  generalize leavesK t 0 = L at *
  (conv => whnf)
  refine tri_loop hT [1, 3, 8, 9, 10] (α := Nat) (fun k => { t := [(1, .c (.ptr 0 0)), (3, .c (.ref 1 0 none)), (8, .c (.ref 2 0 none)), (9, ai L.length), (10, ai k)], h := [(0, .box t_impl_Tree (cTr t)), (1, .arr t_int 1 0 .own (eL cI ((L.take k).map (vAtI t)))), (2, .arr t_int 1 0 .own (eL cI L))], n := 3, N := 26 })
    (fun k => k ≤ L.length) (fun k => L.length - k) 0 (by ((conv => whnf); simp only [St.mk.injEq, List.cons.injEq, Prod.mk.injEq, AV.c.injEq, AV.agg.injEq, AV.tup.injEq, CV.d.injEq, D.int.injEq, D.bool.injEq, D.str.injEq, D.sl.injEq, Ent.arr.injEq, Ent.box.injEq, true_and, and_true, and_self, nInt_eq, Int.natCast_zero, dLen_eL, sLen_eq, List.take_zero, List.map_nil, eL_nil, lenRE_none])) (Nat.zero_le _) ?_
  intro k hk
  (conv => whnf)
  refine ifB_i (fun h1 => ?_) (fun h1 => ?_) <;> (conv => whnf) <;> simp at h1
  · obtain ⟨i, hi⟩ := get_lt h1
    have hib := hlt i (List.mem_of_getElem? hi)
    obtain ⟨j, rfl⟩ : ∃ j : Nat, i = j := ⟨i.toNat, by omega⟩
    obtain ⟨n, hn⟩ := get_lt (show j < t.length by omega)
    have hv : vAtI t j = n.v := by simp [vAtI, hn]
    have hnx : (L.take (k + 1)).map (vAtI t) = (L.take k).map (vAtI t) ++ [n.v] := by rw [List.take_add_one, hi]; simp [hv]
    refine ref_at (k := k) (by simp) (by simp; omega) ?_
    (conv => whnf)
    refine ld_at (by simp) hi ?_
    (conv => whnf)
    refine idx_at (by simp) hn ?_
    (conv => whnf)
    refine And.intro (by simp [eL_length, dLen_len]; omega) ?_
    (conv => whnf)
    refine ⟨k + 1, by omega, h1, ?_⟩
    rw [hnx, ← eL_app]
    ((conv => whnf); simp only [St.mk.injEq, List.cons.injEq, Prod.mk.injEq, AV.c.injEq, AV.agg.injEq, AV.tup.injEq, CV.d.injEq, D.int.injEq, D.bool.injEq, D.str.injEq, D.sl.injEq, Ent.arr.injEq, Ent.box.injEq, true_and, and_true, and_self, nInt_eq, Int.natCast_zero, dLen_eL, sLen_eq, wI h1 (by omega), partOf_none])
    rfl
  · obtain rfl : k = L.length := by omega
    rw [List.take_length, hlv]
    refine .inr (.inl ⟨_, _, _, impl_Distinct_spec (valsL t) (by have := valsL_len t; omega), rfl, ⟨flat_cI _, trivial⟩, ?_⟩)
    (conv => whnf)
    rfl

theorem valuesL_pos {t : List Nd} {ft : Int} (h : treeOk t ft = true) : 0 < (valuesL t).length := by
  simp only [treeOk, Bool.and_eq_true, decide_eq_true_eq] at h
  obtain ⟨h1, _, h3, _⟩ := h
  obtain ⟨n, hn⟩ := get_lt (show t.length - 1 < t.length by omega)
  have hf : n.f = -1 := by
    by_cases q : n.f = -1
    · exact q
    · have := shape_kids h3 hn q; omega
  have hmem : n.v ∈ valsL t := by
    have key : ∀ l : List Nd, n ∈ l → n.v ∈ valsL l := by
      intro l
      induction l with
      | nil => intro h; cases h
      | cons x r ih =>
        intro h
        simp only [valsL]
        rcases List.mem_cons.1 h with rfl | h
        · rw [if_pos hf]; simp
        · split
          · exact List.mem_cons_of_mem _ (ih h)
          · exact ih h
    exact key t (List.mem_of_getElem? hn)
  have hpos : 0 < (sortL (valsL t)).length := by rw [sortL_len]; exact List.length_pos_of_mem hmem
  unfold valuesL distinctL Go.Lib.compact
  generalize sortL (valsL t) = s at *
  obtain ⟨m, hm⟩ : ∃ m, s.length = m + 1 := ⟨s.length - 1, by omega⟩
  rw [hm]
  have : 0 ∈ (List.range (m + 1)).filter (Go.Lib.keeps s.toArray) := by
    rw [List.mem_filter]
    exact ⟨by simp, Go.Lib.keeps_lt_one _ 0 (by omega)⟩
  simp only [Go.Lib.compactUpTo, List.length_map]
  exact List.length_pos_of_mem this
def lowV (t : List Nd) : Int := ((valuesL t)[0]?).getD 0
def highV (t : List Nd) : Int := ((valuesL t)[(valuesL t).length - 1]?).getD 0
def reachL : List (List Nd) → Int → Int → Int × Int
  | [], lo, hi => (lo, hi)
  | t :: r, lo, hi => reachL r (wAdd .i64 lo (lowV t)) (wAdd .i64 hi (highV t))
def reachM (m : Mdl) : Int × Int := if modelOk m then reachL m.trees m.base m.base else (0, 0)
theorem modelOk_trees {m : Mdl} (h : modelOk m = true) : ∀ t ∈ m.trees, treeOk t m.names.length = true := by
  simp only [modelOk, Bool.and_eq_true] at h
  have := h.2.2.2.2.2.2
  rw [List.all_eq_true] at this
  exact this
abbrev tup2 (x : Int × Int) : AV := .tup [(false, [.d (.int .i64 x.1)]), (false, [.d (.int .i64 x.2)])]

theorem spec_Reach_spec (m : Mdl) (hn : m.names.length ≤ 1048576) (hns : ∀ s ∈ m.names, s.size ≤ 9223372036854775807) (hs : m.signs.length ≤ 1048576) (hm : m.trees.length ≤ 1048576) (ht : ∀ t ∈ m.trees, t.length ≤ 1048576) : FnSpec PR f_spec_Reach [aM m] (tup2 (reachM m)) [] 0 := by
  have eT : nInt (dLen (eL cT m.trees)) = (m.trees.length : Int) := by simp
  refine FnSpec.intro hT p_spec_Reach rfl (by kernel_rfl) n_spec_Reach rfl ?_
  conv => whnf
  refine .inl ⟨_, _, _, spec_ModelOk_spec m hn hns hs hm ht, rfl, ?_⟩
  cases hmo : modelOk m <;> (conv => whnf)
  · simp [reachM, hmo]
  have htr := modelOk_trees hmo
  have hre : reachM m = reachL m.trees m.base m.base := by simp [reachM, hmo]
  rw [hre]
  refine tri_loop hT [1, 4, 5, 6] (α := Nat × Int × Int) (fun x => { t := [(1, .c (.ptr 0 0)), (4, ai x.2.1), (5, ai x.2.2), (6, ai x.1)], h := [(0, .box t_impl_Model (cM m))], n := 1, N := 43 })
    (fun x => x.1 ≤ m.trees.length ∧ reachL (m.trees.drop x.1) x.2.1 x.2.2 = reachL m.trees m.base m.base) (fun x => m.trees.length - x.1) (0, m.base, m.base) (by ((conv => whnf); simp only [St.mk.injEq, List.cons.injEq, Prod.mk.injEq, AV.c.injEq, AV.agg.injEq, AV.tup.injEq, CV.d.injEq, D.int.injEq, D.bool.injEq, D.str.injEq, D.sl.injEq, Ent.arr.injEq, Ent.box.injEq, true_and, and_true, and_self, nInt_eq, Int.natCast_zero, dLen_eL, sLen_eq])) ⟨Nat.zero_le _, rfl⟩ ?_
  intro ⟨k, lo, hi⟩ ⟨hk, hr⟩
  dsimp only at hk hr
  (conv => whnf)
  refine ifB_i (fun h1 => ?_) (fun h1 => ?_) <;> (conv => whnf) <;> simp at h1
  · obtain ⟨t, hx⟩ := get_lt h1
    have hlt := ht t (List.mem_of_getElem? hx)
    have hpos := valuesL_pos (htr t (List.mem_of_getElem? hx))
    rw [drop_at hx, reachL] at hr
    refine idx_at (by simp) hx ?_
    (conv => whnf)
    refine .inl ⟨_, _, _, spec_ValuesIn_spec t hlt, rfl, ?_⟩
    have hvl : (valuesL t).length ≤ 1048576 := by have := distinctL_len (valsL t); have := valsL_len t; unfold valuesL; omega
    obtain ⟨a, ha⟩ := get_lt hpos
    obtain ⟨b, hb⟩ := get_lt (show (valuesL t).length - 1 < (valuesL t).length by omega)
    have hla : lowV t = a := by simp [lowV, ha]
    have hhb : highV t = b := by simp [highV, hb]
    rw [hla, hhb] at hr
    generalize valuesL t = V at *
    obtain ⟨m', hm'⟩ : ∃ m', V.length = m' + 1 := ⟨V.length - 1, by omega⟩
    rw [hm'] at hb
    have e1 : wSub .i64 (nInt (lenRE (eL cI V) none)) 1 = (m' : Int) := by rw [wSub64] <;> simp <;> omega
    have e0 : nAdd (offR none) (nOf 0) = 0 := by simp
    have e2 : nAdd (offR none) (nOf (wSub .i64 (nInt (lenRE (eL cI V) none)) 1)) = m' := by rw [e1]; simp
    (conv => whnf)
    refine ref_at (k := 0) (by simp) (by simp; omega) ?_
    (conv => whnf)
    refine ld_at (by simp) ha ?_
    (conv => whnf)
    refine ref_at (k := m') e1 (by simp; omega) ?_
    (conv => whnf)
    refine ld_at (by rw [e1]; simp) hb ?_
    (conv => whnf)
    refine ⟨(k + 1, wAdd .i64 lo a, wAdd .i64 hi b), by dsimp only; omega, ⟨h1, hr⟩, ?_⟩
    ((conv => whnf); simp only [St.mk.injEq, List.cons.injEq, Prod.mk.injEq, AV.c.injEq, AV.agg.injEq, AV.tup.injEq, CV.d.injEq, D.int.injEq, D.bool.injEq, D.str.injEq, D.sl.injEq, Ent.arr.injEq, Ent.box.injEq, true_and, and_true, and_self, nInt_eq, Int.natCast_zero, dLen_eL, sLen_eq, wI h1 (by omega)])
  · obtain rfl : k = m.trees.length := by omega
    simp only [List.drop_length, reachL] at hr
    rw [← hr]

set_option maxHeartbeats 4000000 in
theorem impl_Reach_spec (m : Mdl) (hn : m.names.length ≤ 1048576) (hns : ∀ s ∈ m.names, s.size ≤ 9223372036854775807) (hs : m.signs.length ≤ 1048576) (hm : m.trees.length ≤ 1048576) (ht : ∀ t ∈ m.trees, t.length ≤ 1048576) : FnSpec PR f_impl_Reach [aM m] (tup2 (reachM m)) [] 0 := by
  have eT : nInt (dLen (eL cT m.trees)) = (m.trees.length : Int) := by simp
  refine FnSpec.intro hT p_impl_Reach rfl (by kernel_rfl) n_impl_Reach rfl ?_
  conv => whnf
  refine .inl ⟨_, _, _, impl_ModelOk_spec m hn hns hs hm ht, rfl, ?_⟩
  cases hmo : modelOk m <;> (conv => whnf)
  · simp [reachM, hmo]
  have htr := modelOk_trees hmo
  have hre : reachM m = reachL m.trees m.base m.base := by simp [reachM, hmo]
  rw [hre]
  refine tri_every hT hmix [1, 4, 5] { t := [(1, .c (.ptr 0 0)), (4, ai m.base), (5, ai m.base)], h := [(0, .box t_impl_Model (cM m))], n := 1, N := 41 } rfl ?_ ?_
  · repeat' first
      | (refine anyV_one rfl ?_; (conv => whnf))
      | (refine anyV_two rfl ?_ ?_ <;> (conv => whnf))
      | (refine anyV_end rfl ?_; (conv => whnf))
  (conv => whnf)
  refine tri_loop hT [4, 5, 17, 18, 19] (α := Nat × Int × Int) (fun x => { t := [(4, ai x.2.1), (5, ai x.2.2), (17, aTs m.trees), (18, ai m.trees.length), (19, ai x.1)], h := [], n := 0, N := 41 })
    (fun x => x.1 ≤ m.trees.length ∧ reachL (m.trees.drop x.1) x.2.1 x.2.2 = reachL m.trees m.base m.base) (fun x => m.trees.length - x.1) (0, m.base, m.base) (by ((conv => whnf); simp only [St.mk.injEq, List.cons.injEq, Prod.mk.injEq, AV.c.injEq, AV.agg.injEq, AV.tup.injEq, CV.d.injEq, D.int.injEq, D.bool.injEq, D.str.injEq, D.sl.injEq, Ent.arr.injEq, Ent.box.injEq, true_and, and_true, and_self, nInt_eq, Int.natCast_zero, dLen_eL, sLen_eq])) ⟨Nat.zero_le _, rfl⟩ ?_
  intro ⟨k, lo, hi⟩ ⟨hk, hr⟩
  dsimp only at hk hr
  (conv => whnf)
  refine ifB_i (fun h1 => ?_) (fun h1 => ?_) <;> (conv => whnf) <;> simp at h1
  · obtain ⟨t, hx⟩ := get_lt h1
    have hlt := ht t (List.mem_of_getElem? hx)
    have hpos := valuesL_pos (htr t (List.mem_of_getElem? hx))
    rw [drop_at hx, reachL] at hr
    refine idx_at (by simp) hx ?_
    (conv => whnf)
    refine .inl ⟨_, _, _, impl_ValuesIn_spec t hlt, rfl, ?_⟩
    have hvl : (valuesL t).length ≤ 1048576 := by have := distinctL_len (valsL t); have := valsL_len t; unfold valuesL; omega
    obtain ⟨a, ha⟩ := get_lt hpos
    obtain ⟨b, hb⟩ := get_lt (show (valuesL t).length - 1 < (valuesL t).length by omega)
    have hla : lowV t = a := by simp [lowV, ha]
    have hhb : highV t = b := by simp [highV, hb]
    rw [hla, hhb] at hr
    generalize valuesL t = V at *
    obtain ⟨m', hm'⟩ : ∃ m', V.length = m' + 1 := ⟨V.length - 1, by omega⟩
    rw [hm'] at hb
    have e1 : wSub .i64 (nInt (lenRE (eL cI V) none)) 1 = (m' : Int) := by rw [wSub64] <;> simp <;> omega
    have e0 : nAdd (offR none) (nOf 0) = 0 := by simp
    have e2 : nAdd (offR none) (nOf (wSub .i64 (nInt (lenRE (eL cI V) none)) 1)) = m' := by rw [e1]; simp
    (conv => whnf)
    refine tri_every hT hmix [4, 5, 17, 18, 19] { t := [(4, ai (wAdd .i64 lo a)), (5, ai (wAdd .i64 hi b)), (17, aTs m.trees), (18, ai m.trees.length), (19, ai k)], h := [], n := 0, N := 41 } rfl ?_ ?_
    · repeat' first
        | (refine anyV_one rfl ?_; (conv => whnf))
        | (refine anyV_two rfl ?_ ?_ <;> (conv => whnf))
        | (refine anyV_three rfl ?_ ?_ ?_ <;> (conv => whnf))
        | (refine anyV_end rfl ?_; (conv => whnf))
        | (refine ref_at (k := 0) rfl (by simp; omega) ?_; (conv => whnf))
        | (refine ref_at (k := m') e1 (by simp; omega) ?_; (conv => whnf))
        | (refine ld_at e0 ha ?_; (conv => whnf))
        | (refine ld_at e2 hb ?_; (conv => whnf))
    (conv => whnf)
    refine ⟨(k + 1, wAdd .i64 lo a, wAdd .i64 hi b), by dsimp only; omega, ⟨h1, hr⟩, ?_⟩
    ((conv => whnf); simp only [St.mk.injEq, List.cons.injEq, Prod.mk.injEq, AV.c.injEq, AV.agg.injEq, AV.tup.injEq, CV.d.injEq, D.int.injEq, D.bool.injEq, D.str.injEq, D.sl.injEq, Ent.arr.injEq, Ent.box.injEq, true_and, and_true, and_self, nInt_eq, Int.natCast_zero, dLen_eL, sLen_eq, wI h1 (by omega)])
  · obtain rfl : k = m.trees.length := by omega
    simp only [List.drop_length, reachL] at hr
    rw [← hr]

set_option maxHeartbeats 1000000 in
theorem law_FnExactReach (m : Mdl) (hm : okModel m ∧ rgModel m) : FnSpec PR f_laws_FnExactReach [aM m] (ab true) [] 0 := by
  refine FnSpec.intro hT p_laws_FnExactReach rfl (by kernel_rfl) n_laws_FnExactReach rfl ?_
  conv => whnf
  refine .inl ⟨_, _, _, szModel_spec m 1048576 (by omega) (by omega) hm.1, rfl, ?_⟩
  (conv => whnf)
  refine ifB_i (fun h => ?_) (fun h => ?_) <;> (conv => whnf) <;> simp only [nInt_eq, Int.natCast_zero, dLen_eL, sLen_eq, nOf_eq, Int.toNat_natCast, nAdd_eq, nSub_eq, dLen_nil, dLen_cons, iLt_t, iLt_f, iLe_t, iLe_f, iEq_t, iEq_f, sEq_t, sEq_f, bNot_t, bNot_f, bAnd_t, bEq_t, bEq_f, Bool.not_eq_true, Bool.not_eq_false, Bool.true_eq_false, Bool.false_eq_true] at h
  have hcost := bud_ok h
  obtain ⟨hsm, hl, hc⟩ := model_small hcost
  have hs : m.signs.length ≤ 1048576 := by unfold costModel at hcost; omega
  have hn : m.names.length ≤ 1048576 := by have := cost_len ByteArray.size m.names; unfold costModel at hcost; omega
  have ht : ∀ t ∈ m.trees, t.length ≤ 1048576 := fun t htm => by have := costL_mem List.length htm; omega
  have hns : ∀ s ∈ m.names, s.size ≤ 9223372036854775807 := fun s hsm => by
    have h1 := costL_mem ByteArray.size hsm
    have h2 := cost_costL ByteArray.size m.names
    unfold costModel at hcost
    omega
  refine .inl ⟨_, _, _, toModel_spec m hsm, rfl, ?_⟩
  (conv => whnf)
  refine .inl ⟨_, _, _, spec_Reach_spec m hn hns hs hl ht, rfl, ?_⟩
  (conv => whnf)
  refine .inl ⟨_, _, _, toModel_spec m hsm, rfl, ?_⟩
  (conv => whnf)
  refine .inl ⟨_, _, _, impl_Reach_spec m hn hns hs hl ht, rfl, ?_⟩
  generalize reachM m = p
  obtain ⟨a, b⟩ := p
  have ee : ∀ x : Int, iEq x x = true := fun x => decide_eq_true rfl
  (conv => whnf)
  rw [ee]
  (conv => whnf)
  rw [ee]
  (conv => whnf)
  refine tri_every hT hmix [39] { t := [(39, ab (bNot true))], h := [], n := 0, N := 40 } rfl ?_ ?_
  · repeat' first
      | (refine anyV_one rfl ?_; (conv => whnf))
      | (refine anyV_two rfl ?_ ?_ <;> (conv => whnf))
      | (refine anyV_end rfl ?_; (conv => whnf); first | done | (simp only [partOf_none]; done) | (simp only [partOf_none]; rfl))
      | (refine .inl ⟨_, _, _, toModel_spec m hsm, rfl, ?_⟩; (conv => whnf))
      | (refine .inl ⟨_, _, _, eqModel_spec m hm.1, rfl, ?_⟩; (conv => whnf))
      | (refine .inr (.inl ⟨_, _, _, eqModel_spec m hm.1, rfl, trivial, ?_⟩); (conv => whnf))
  (conv => whnf)
end Go.H.S
namespace Go.H.S
open Go Go.Proofs Go.H
attribute [local irreducible] Tri FnSpec FnSpecM FnSpecX FnSpecJ FnSpecB
set_option maxRecDepth 100000
set_option linter.unusedSimpArgs false
set_option linter.unusedVariables false


def cU (n : Int) : List D := [.int .u8 n]
abbrev cur (code : List Int) (i h : Int) : List CV := [.d (.sl 1 (eL cU code)), .d (.int .i64 i), .d (.int .i64 h)]
theorem wAnd255 (x : Int) : 0 ≤ wAnd .i64 x 255 ∧ wAnd .i64 x 255 ≤ 255 := by
  unfold wAnd wrapB
  have h : ((BitVec.ofInt IntKind.i64.bits x &&& BitVec.ofInt IntKind.i64.bits 255).toNat) ≤ 255 := by
    rw [BitVec.toNat_and]
    exact Nat.and_le_right
  rw [wrap64] <;> omega
set_option maxHeartbeats 4000000 in
theorem spec_l1Byte_spec (code : List Int) (i h : Int) (hi : 0 ≤ i ∧ i ≤ code.length) (hl : code.length ≤ 1048576) : FnSpecB PR f_spec_l1Byte [.c (.ptr 0 0)] t_spec_l1Cur (cur code i h) (Int × Int × Int) (fun x => (0 ≤ x.1 ∧ x.1 ≤ 255) ∧ 0 ≤ x.2.1 ∧ x.2.1 ≤ code.length) (fun x => ai x.1) (fun x => cur code x.2.1 x.2.2) (fun _ => []) (fun _ => 1) := by
  refine FnSpecB.intro hT 0 p_spec_l1Byte rfl (by kernel_rfl) n_spec_l1Byte rfl rfl ?_
  intro v0
  (conv => whnf)
  refine tri_conf hT hmix (by kernel_rfl) ?_
  (conv => whnf)
  refine And.intro (by simp) ?_
  (conv => whnf)
  refine And.intro (by simp) ?_
  (conv => whnf)
  refine tri_conf hT hmix (by kernel_rfl) ?_
  (conv => whnf)
  generalize hh : wAdd .i64 (wMul .i64 h 6364136223846793005) 1442695040888963407 = h1
  have hb := wAnd255 (wXor .i64 (wShr .i64 h1 33) (wShr .i64 h1 45))
  generalize wAnd .i64 (wXor .i64 (wShr .i64 h1 33) (wShr .i64 h1 45)) 255 = x at *
  refine ifB_i (fun h2 => ?_) (fun h2 => ?_) <;> (conv => whnf) <;> simp only [nInt_eq, Int.natCast_zero, dLen_eL, sLen_eq, nOf_eq, Int.toNat_natCast, nAdd_eq, nSub_eq, dLen_nil, dLen_cons, iLt_t, iLt_f, iLe_t, iLe_f, iEq_t, iEq_f, sEq_t, sEq_f, bNot_t, bNot_f, bAnd_t, bEq_t, bEq_f, Bool.not_eq_true, Bool.not_eq_false, Bool.true_eq_false, Bool.false_eq_true] at h2
  · obtain ⟨k, rfl⟩ : ∃ k : Nat, i = k := ⟨i.toNat, by omega⟩
    obtain ⟨y, hy⟩ := get_lt (show k < code.length by omega)
    refine tri_every hT hmix [0, 3] { t := [(0, .w (.ptr 0 0) v0), (3, ai (wAnd .i64 (wAdd .i64 x (wConv .i64 y)) 255))], h := [(0, .box t_spec_l1Cur (cur code k h1))], n := 1, N := 58 } rfl ?_ ?_
    · repeat' first
        | (refine anyV_one rfl ?_; (conv => whnf))
        | (refine anyV_two rfl ?_ ?_ <;> (conv => whnf))
        | (refine anyV_three rfl ?_ ?_ ?_ <;> (conv => whnf))
        | (refine anyV_end rfl ?_; (conv => whnf))
        | (refine idx_at (by simp) hy ?_; (conv => whnf))
    (conv => whnf)
    have hb2 := wAnd255 (wAdd .i64 x (wConv .i64 y))
    refine ⟨(wAnd .i64 (wAdd .i64 x (wConv .i64 y)) 255, (k : Int) + 1, h1), ⟨hb2, by dsimp only; omega, by dsimp only; omega⟩, ?_⟩
    ((conv => whnf); simp only [St.mk.injEq, List.cons.injEq, Prod.mk.injEq, AV.c.injEq, AV.agg.injEq, AV.tup.injEq, CV.d.injEq, D.int.injEq, D.bool.injEq, D.str.injEq, D.sl.injEq, Ent.arr.injEq, Ent.box.injEq, true_and, and_true, and_self, nInt_eq, Int.natCast_zero, dLen_eL, sLen_eq, wAdd64 (show -9223372036854775808 ≤ (k : Int) + 1 by omega) (by omega)])
  · refine ⟨(x, i, h1), ⟨hb, hi⟩, ?_⟩
    (conv => whnf)

theorem wRem_mod {x n : Int} (hx : 0 ≤ x) (hn : 0 < n) : 0 ≤ wRem x n ∧ wRem x n < n := by
  unfold wRem
  rw [Int.tmod_eq_emod_of_nonneg hx]
  exact ⟨Int.emod_nonneg _ (by omega), Int.emod_lt_of_pos _ hn⟩
def inCur (code : List Int) (x : Int × Int) : Prop := 0 ≤ x.1 ∧ x.1 ≤ code.length
theorem spec_l1Below_spec (code : List Int) (i h n : Int) (hi : 0 ≤ i ∧ i ≤ code.length) (hl : code.length ≤ 1048576) : FnSpecB PR f_spec_l1Below [.c (.ptr 0 0), ai n] t_spec_l1Cur (cur code i h) (Int × Int × Int)
    (fun x => (0 ≤ x.1 ∧ (0 < n → x.1 < n) ∧ (n ≤ 0 → x.1 = 0)) ∧ inCur code x.2) (fun x => ai x.1) (fun x => cur code x.2.1 x.2.2) (fun _ => []) (fun _ => 1) := by
  refine FnSpecB.intro hT 0 p_spec_l1Below rfl (by kernel_rfl) n_spec_l1Below rfl rfl ?_
  intro v0
  (conv => whnf)
  refine ifB_i (fun h1 => ?_) (fun h1 => ?_) <;> (conv => whnf) <;> simp only [nInt_eq, Int.natCast_zero, dLen_eL, sLen_eq, nOf_eq, Int.toNat_natCast, nAdd_eq, nSub_eq, dLen_nil, dLen_cons, iLt_t, iLt_f, iLe_t, iLe_f, iEq_t, iEq_f, sEq_t, sEq_f, bNot_t, bNot_f, bAnd_t, bEq_t, bEq_f, Bool.not_eq_true, Bool.not_eq_false, Bool.true_eq_false, Bool.false_eq_true] at h1
  · refine ⟨(0, i, h), ⟨⟨by omega, fun q => by omega, fun _ => rfl⟩, hi⟩, ?_⟩
    (conv => whnf)
  refine ifB_i (fun h2 => ?_) (fun h2 => ?_) <;> (conv => whnf) <;> simp only [nInt_eq, Int.natCast_zero, dLen_eL, sLen_eq, nOf_eq, Int.toNat_natCast, nAdd_eq, nSub_eq, dLen_nil, dLen_cons, iLt_t, iLt_f, iLe_t, iLe_f, iEq_t, iEq_f, sEq_t, sEq_f, bNot_t, bNot_f, bAnd_t, bEq_t, bEq_f, Bool.not_eq_true, Bool.not_eq_false, Bool.true_eq_false, Bool.false_eq_true] at h2
  · refine .inr (.inr (.inr (.inr (.inl ⟨0, ?_⟩))))
    (conv => whnf)
    refine ⟨_, _, _, _, _, _, spec_l1Byte_spec code i h hi hl, fun ⟨x, i1, h1'⟩ ⟨hx, hi1⟩ => ⟨rfl, ?_⟩⟩
    dsimp only at hx hi1
    (conv => whnf)
    refine And.intro (by simp; omega) ?_
    (conv => whnf)
    have hm := wRem_mod hx.1 (show 0 < n by omega)
    refine ⟨(wRem x n, i1, h1'), ⟨⟨hm.1, fun _ => hm.2, fun q => by omega⟩, hi1⟩, ?_⟩
    (conv => whnf)
  refine .inr (.inr (.inr (.inr (.inl ⟨0, ?_⟩))))
  (conv => whnf)
  refine ⟨_, _, _, _, _, _, spec_l1Byte_spec code i h hi hl, fun ⟨x, i1, h1'⟩ ⟨hx, hi1⟩ => ⟨rfl, ?_⟩⟩
  dsimp only at hx hi1
  (conv => whnf)
  refine .inr (.inr (.inr (.inr (.inl ⟨0, ?_⟩))))
  (conv => whnf)
  refine ⟨_, _, _, _, _, _, spec_l1Byte_spec code i1 h1' hi1 hl, fun ⟨y, i2, h2'⟩ ⟨hy, hi2⟩ => ⟨rfl, ?_⟩⟩
  dsimp only at hy hi2
  (conv => whnf)
  refine .inr (.inr (.inr (.inr (.inl ⟨0, ?_⟩))))
  (conv => whnf)
  refine ⟨_, _, _, _, _, _, spec_l1Byte_spec code i2 h2' hi2 hl, fun ⟨z, i3, h3'⟩ ⟨hz, hi3⟩ => ⟨rfl, ?_⟩⟩
  dsimp only at hz hi3
  (conv => whnf)
  refine .inr (.inr (.inr (.inr (.inl ⟨0, ?_⟩))))
  (conv => whnf)
  refine ⟨_, _, _, _, _, _, spec_l1Byte_spec code i3 h3' hi3 hl, fun ⟨w, i4, h4'⟩ ⟨hw, hi4⟩ => ⟨rfl, ?_⟩⟩
  dsimp only at hw hi4
  (conv => whnf)
  refine And.intro (by simp; omega) ?_
  (conv => whnf)
  have e1 : wMul .i64 x 16777216 = x * 16777216 := wMul64 (by omega) (by omega)
  have e2 : wMul .i64 y 65536 = y * 65536 := wMul64 (by omega) (by omega)
  have e3 : wMul .i64 z 256 = z * 256 := wMul64 (by omega) (by omega)
  rw [e1, e2, e3]
  rw [wAdd64 (x := x * 16777216) (y := y * 65536) (by omega) (by omega)]
  rw [wAdd64 (x := x * 16777216 + y * 65536) (y := z * 256) (by omega) (by omega)]
  rw [wAdd64 (x := x * 16777216 + y * 65536 + z * 256) (y := w) (by omega) (by omega)]
  have hm := wRem_mod (x := x * 16777216 + y * 65536 + z * 256 + w) (by omega) (show 0 < n by omega)
  refine ⟨(wRem (x * 16777216 + y * 65536 + z * 256 + w) n, i4, h4'), ⟨⟨hm.1, fun _ => hm.2, fun q => by omega⟩, hi4⟩, ?_⟩
  (conv => whnf)

theorem spec_l1PickInt_spec (code : List Int) (i h : Int) (l : List Int) (hi : 0 ≤ i ∧ i ≤ code.length) (hl : code.length ≤ 1048576) (hne : 0 < l.length) (hll : l.length ≤ 1048576) : FnSpecB PR f_spec_l1PickInt [.c (.ptr 0 0), aIs l] t_spec_l1Cur (cur code i h) (Int × Int × Int)
    (fun x => x.1 ∈ l ∧ inCur code x.2) (fun x => ai x.1) (fun x => cur code x.2.1 x.2.2) (fun _ => []) (fun _ => 1) := by
  refine FnSpecB.intro hT 0 p_spec_l1PickInt rfl (by kernel_rfl) n_spec_l1PickInt rfl rfl ?_
  intro v0
  (conv => whnf)
  refine .inr (.inr (.inr (.inr (.inl ⟨0, ?_⟩))))
  (conv => whnf)
  rw [show nInt (dLen (eL cI l)) = (l.length : Int) by simp]
  refine ⟨_, _, _, _, _, _, spec_l1Below_spec code i h l.length hi hl, fun ⟨x, i1, h1'⟩ ⟨hx, hi1⟩ => ⟨rfl, ?_⟩⟩
  dsimp only at hx hi1
  (conv => whnf)
  obtain ⟨k, rfl⟩ : ∃ k : Nat, x = k := ⟨x.toNat, by omega⟩
  obtain ⟨y, hy⟩ := get_lt (show k < l.length by have := hx.2.1 (by omega); omega)
  refine idx_at (by simp) hy ?_
  (conv => whnf)
  refine ⟨(y, i1, h1'), ⟨List.mem_of_getElem? hy, hi1⟩, ?_⟩
  (conv => whnf)
end Go.H.S
namespace Go.H.S
open Go Go.Proofs Go.H
attribute [local irreducible] Tri FnSpec FnSpecM FnSpecX FnSpecJ FnSpecB
set_option maxRecDepth 100000
set_option linter.unusedSimpArgs false
set_option linter.unusedVariables false


theorem spec_l1New_spec (code : List Int) (hl : code.length ≤ 1048576) : FnSpecX PR f_spec_l1New [.c (.d (.sl 1 (eL cU code)))] Int (fun _ => True) (fun _ => .c (.ptr 0 0)) (fun h => [(0, .box t_spec_l1Cur (cur code 0 h))]) (fun _ => 1) := by
  refine FnSpecX.intro hT p_spec_l1New rfl (by kernel_rfl) n_spec_l1New rfl ?_
  (conv => whnf)
  refine tri_loop hT [0, 3, 4] (α := Nat × Int) (fun x => { t := [(0, .c (.d (.sl 1 (eL cU code)))), (3, ai x.2), (4, ai x.1)], h := [], n := 0, N := 32 })
    (fun x => x.1 ≤ code.length) (fun x => code.length - x.1) (0, wAdd .i64 28507 code.length) (by ((conv => whnf); simp only [St.mk.injEq, List.cons.injEq, Prod.mk.injEq, AV.c.injEq, AV.agg.injEq, AV.tup.injEq, CV.d.injEq, D.int.injEq, D.bool.injEq, D.str.injEq, D.sl.injEq, Ent.arr.injEq, Ent.box.injEq, true_and, and_true, and_self, nInt_eq, Int.natCast_zero, dLen_eL, sLen_eq])) (Nat.zero_le _) ?_
  intro ⟨k, h⟩ hk
  dsimp only at hk
  (conv => whnf)
  refine ifB_i (fun h1 => ?_) (fun h1 => ?_) <;> (conv => whnf) <;> simp only [nInt_eq, Int.natCast_zero, dLen_eL, sLen_eq, nOf_eq, Int.toNat_natCast, nAdd_eq, nSub_eq, dLen_nil, dLen_cons, iLt_t, iLt_f, iLe_t, iLe_f, iEq_t, iEq_f, sEq_t, sEq_f, bNot_t, bNot_f, bAnd_t, bEq_t, bEq_f, Bool.not_eq_true, Bool.not_eq_false, Bool.true_eq_false, Bool.false_eq_true] at h1
  · obtain ⟨y, hy⟩ := get_lt (show k < code.length by simpa using h1)
    refine ifB_i (fun h2 => ?_) (fun h2 => ?_) <;> (conv => whnf)
    · refine idx_at (by simp) hy ?_
      (conv => whnf)
      refine ⟨(k + 1, wAnd .i64 (wAdd .i64 (wAdd .i64 (wMul .i64 h 131) (wConv .i64 y)) 7) 1073741823), by dsimp only; omega, by dsimp only; omega, ?_⟩
      ((conv => whnf); simp only [St.mk.injEq, List.cons.injEq, Prod.mk.injEq, AV.c.injEq, AV.agg.injEq, AV.tup.injEq, CV.d.injEq, D.int.injEq, D.bool.injEq, D.str.injEq, D.sl.injEq, Ent.arr.injEq, Ent.box.injEq, true_and, and_true, and_self, nInt_eq, Int.natCast_zero, dLen_eL, sLen_eq, wI (show k < code.length by omega) (by omega)])
    · refine ⟨h, trivial, ?_⟩
      (conv => whnf)
  · refine ⟨h, trivial, ?_⟩
    (conv => whnf)

theorem spec_OneLeaf_spec (v : Int) : FnSpec PR f_spec_OneLeaf [ai v] (.agg [.ref 0 0 none]) [(0, .arr t_impl_Node 5 0 .own (eL cN [⟨-1, 0, 0, 0, v⟩]))] 1 := by
  refine FnSpec.intro hT p_spec_OneLeaf rfl (by kernel_rfl) n_spec_OneLeaf rfl ?_
  conv => whnf
  ((conv => whnf); simp only [St.mk.injEq, List.cons.injEq, Prod.mk.injEq, AV.c.injEq, AV.agg.injEq, AV.tup.injEq, CV.d.injEq, D.int.injEq, D.bool.injEq, D.str.injEq, D.sl.injEq, Ent.arr.injEq, Ent.box.injEq, true_and, and_true, and_self, nInt_eq, Int.natCast_zero, dLen_eL, sLen_eq, eL_cons, eL_nil, cN])

/-- Children come behind, within, and each has one parent. -/
structure KidsOk (N : List Nd) : Prop where
  kid : ∀ {j : Nat} {n : Nd}, N[j]? = some n → n.f ≠ -1 → (j : Int) < n.l ∧ n.r = n.l + 1 ∧ n.r < N.length
  one : ∀ {j j' : Nat} {n n' : Nd}, N[j]? = some n → N[j']? = some n' → n.f ≠ -1 → n'.f ≠ -1 → ∀ x : Int, (n.l = x ∨ n.r = x) → (n'.l = x ∨ n'.r = x) → j = j'
theorem nodup_len : ∀ (M : Nat) (l : List Int), l.Nodup → (∀ x ∈ l, 0 ≤ x ∧ x < M) → l.length ≤ M
  | 0, l, hn, hl => by
    cases l with
    | nil => simp
    | cons x r => have := hl x (by simp); omega
  | M + 1, l, hn, hl => by
    have h1 := nodup_len M (l.erase (M : Int)) (hn.erase _) (fun x hx => by
      have hm := List.mem_of_mem_erase hx
      have hne : x ≠ (M : Int) := fun e => by
        subst e
        exact (List.Nodup.not_mem_erase hn) hx
      have := hl x hm
      omega)
    have h2 : l.length ≤ (l.erase (M : Int)).length + 1 := by
      rw [List.length_erase]
      split <;> omega
    omega
theorem eL_join {α : Type} (f : α → List D) (l r : List α) : dApp (eL f l) (eL f r) = eL f (l ++ r) := by simp [dApp, eL]
structure LvInv (N : List Nd) (i : Nat) (R : List Int) : Prop where
  le : i ≤ R.length
  nd : R.Nodup
  mem : ∀ x ∈ R, 0 ≤ x ∧ x < N.length
  src : ∀ x ∈ R, x = 0 ∨ ∃ (j p : Nat) (n : Nd), j < i ∧ R[j]? = some (p : Int) ∧ N[p]? = some n ∧ n.f ≠ -1 ∧ (n.l = x ∨ n.r = x)
theorem LvInv.len {N : List Nd} {i : Nat} {R : List Int} (h : LvInv N i R) : R.length ≤ N.length := nodup_len _ _ h.nd h.mem
theorem LvInv.leaf {N : List Nd} {i : Nat} {R : List Int} (h : LvInv N i R) (hi : i < R.length) : LvInv N (i + 1) R :=
  ⟨hi, h.nd, h.mem, fun x hx => (h.src x hx).imp id fun ⟨j, p, n, h1, h2⟩ => ⟨j, p, n, by omega, h2⟩⟩
theorem LvInv.inner {N : List Nd} (hk : KidsOk N) {i p : Nat} {R : List Int} {n : Nd} (h : LvInv N i R) (hi : R[i]? = some (p : Int)) (hn : N[p]? = some n) (hf : n.f ≠ -1) : LvInv N (i + 1) (R ++ [n.l, n.r]) := by
  obtain ⟨k1, k2, k3⟩ := hk.kid hn hf
  have hil := (List.getElem?_eq_some_iff.1 hi).1
  have hfresh : ∀ x, (n.l = x ∨ n.r = x) → x ∉ R := fun x hx hm => by
    rcases h.src x hm with h0 | ⟨j, q, n', g1, g2, g3, g4, g5⟩
    · subst h0; omega
    · have := hk.one g3 hn g4 hf x g5 hx
      subst this
      have hj := (List.getElem?_eq_some_iff.1 g2).1
      have := (List.getElem?_inj hj h.nd).1 (g2.trans hi.symm)
      omega
  refine ⟨by simp; omega, ?_, fun x hx => ?_, fun x hx => ?_⟩
  · rw [List.nodup_append]
    refine ⟨h.nd, by simp; omega, fun a ha b hb => ?_⟩
    intro e
    subst e
    simp at hb
    rcases hb with rfl | rfl
    · exact hfresh _ (.inl rfl) ha
    · exact hfresh _ (.inr rfl) ha
  · rcases List.mem_append.1 hx with hx | hx
    · exact h.mem x hx
    · simp at hx
      rcases hx with rfl | rfl <;> omega
  · rcases List.mem_append.1 hx with hx | hx
    · rcases h.src x hx with h0 | ⟨j, q, n', g1, g2, g3⟩
      · exact .inl h0
      · exact .inr ⟨j, q, n', by omega, by rw [List.getElem?_append_left (by omega)]; exact g2, g3⟩
    · simp at hx
      exact .inr ⟨i, p, n, by omega, by rw [List.getElem?_append_left hil]; exact hi, hn, hf, by rcases hx with rfl | rfl <;> simp⟩

theorem spec_l17Levels_spec (N : List Nd) (hk : KidsOk N) (h1 : 0 < N.length) (hl : N.length ≤ 1048576) : FnSpecX PR f_spec_l17Levels [aNs N] (List Nd) (fun t => 0 < t.length ∧ t.length ≤ N.length) (fun _ => .agg [.ref 0 0 none]) (fun t => [(0, .arr t_impl_Node 5 0 .own (eL cN t))]) (fun _ => 1) := by
  refine FnSpecX.intro hT p_spec_l17Levels rfl (by kernel_rfl) n_spec_l17Levels rfl ?_
  (conv => whnf)
  refine tri_loop hT [0, 2, 3, 4, 5, 6] (α := Nat × List Int × List Nd × Int) (fun x => match x.1 with
      | 0 => { t := [(0, aNs N), (2, .c (.ptr 0 0)), (3, .c (.ptr 1 0)), (4, .c (.ref 2 0 none)), (5, ai x.2.2.2), (6, ai (0 : Nat))], h := [(0, .box t_impl_Tree [.nl 5]), (1, .box t_impl_Tree [.nl 5]), (2, .arr t_int 1 0 .own (eL cI x.2.1))], n := 3, N := 46 }
      | i + 1 => { t := [(0, aNs N), (2, .c (.ptr 0 0)), (3, .c (.ptr 1 0)), (4, .c (.ref 3 0 none)), (5, ai x.2.2.2), (6, ai (i + 1 : Nat))], h := [(0, .box t_impl_Tree [.nl 5]), (1, .box t_impl_Tree [.ref 2 0 none]), (2, .arr t_impl_Node 5 0 .own (eL cN x.2.2.1)), (3, .arr t_int 1 0 .own (eL cI x.2.1))], n := 4, N := 46 })
    (fun x => LvInv N x.1 x.2.1 ∧ x.2.2.1.length = x.1 ∧ 0 < x.2.1.length) (fun x => N.length - x.1) (0, [0], [], 1) (by ((conv => whnf); simp only [St.mk.injEq, List.cons.injEq, Prod.mk.injEq, AV.c.injEq, AV.agg.injEq, AV.tup.injEq, CV.d.injEq, D.int.injEq, D.bool.injEq, D.str.injEq, D.sl.injEq, Ent.arr.injEq, Ent.box.injEq, true_and, and_true, and_self, nInt_eq, Int.natCast_zero, dLen_eL, sLen_eq, eL_cons, eL_nil, cI]))
    ⟨⟨by simp, by simp, by simp; omega, by simp⟩, rfl, by simp⟩ ?_
  intro ⟨i, R, O, nx⟩ ⟨hi, hO, hR⟩
  dsimp only at hi hO hR
  have hRl := hi.len
  cases i with
  | zero =>
    obtain rfl := List.eq_nil_of_length_eq_zero hO
    (conv => whnf)
    refine ifB_i (fun h2 => ?_) (fun h2 => ?_) <;> (conv => whnf)
    · dsimp only at h2
      simp only [nInt_eq, Int.natCast_zero, dLen_eL, sLen_eq, nOf_eq, Int.toNat_natCast, nAdd_eq, nSub_eq, dLen_nil, dLen_cons, iLt_t, iLt_f, iLe_t, iLe_f, iEq_t, iEq_f, sEq_t, sEq_f, bNot_t, bNot_f, bAnd_t, bEq_t, bEq_f, Bool.not_eq_true, Bool.not_eq_false, Bool.true_eq_false, Bool.false_eq_true] at h2
      rw [show lenRE (eL cI R) none = R.length by simp [lenRE]] at h2
      obtain ⟨y, hy⟩ := get_lt (show 0 < R.length by omega)
      obtain ⟨p, rfl⟩ : ∃ p : Nat, y = p := ⟨y.toNat, by have := hi.mem _ (List.mem_of_getElem? hy); omega⟩
      obtain ⟨n, hn⟩ := get_lt (show p < N.length by have := hi.mem _ (List.mem_of_getElem? hy); omega)
      have hz := hi.inner hk hy hn
      have hz2 := hi.leaf (show 0 < R.length by omega)
      refine ref_at rfl (by simp; omega) ?_
      (conv => whnf)
      refine ld_at (by simp) hy ?_
      (conv => whnf)
      refine idx_at (by simp) hn ?_
      (conv => whnf)
      refine .inl ⟨_, _, _, spec_l17Inner_spec n, rfl, ?_⟩
      (conv => whnf)
      refine ifB_i (fun h3 => ?_) (fun h3 => ?_) <;> (conv => whnf) <;> simp only [nInt_eq, Int.natCast_zero, dLen_eL, sLen_eq, nOf_eq, Int.toNat_natCast, nAdd_eq, nSub_eq, dLen_nil, dLen_cons, iLt_t, iLt_f, iLe_t, iLe_f, iEq_t, iEq_f, sEq_t, sEq_f, bNot_t, bNot_f, bAnd_t, bEq_t, bEq_f, Bool.not_eq_true, Bool.not_eq_false, Bool.true_eq_false, Bool.false_eq_true] at h3
      · have hz' := (hz h3).len
        refine And.intro (by unfold Fits; simp at hz' ⊢; omega) ?_
        (conv => whnf)
        refine And.intro (by unfold Fits; simp at hz' ⊢ <;> omega) ?_
        (conv => whnf)
        refine ⟨(0 + 1, R ++ [n.l, n.r], [⟨n.f, n.c, nx, wAdd .i64 nx 1, n.v⟩], wAdd .i64 nx 2), by dsimp only; omega, ⟨hz h3, by simp [hO], by simp⟩, ?_⟩
        ((conv => whnf); simp only [St.mk.injEq, List.cons.injEq, Prod.mk.injEq, AV.c.injEq, AV.agg.injEq, AV.tup.injEq, CV.d.injEq, D.int.injEq, D.bool.injEq, D.str.injEq, D.sl.injEq, Ent.arr.injEq, Ent.box.injEq, true_and, and_true, and_self, nInt_eq, Int.natCast_zero, dLen_eL, sLen_eq, partOf_none])
        refine ⟨wI (show 0 < R.length by omega) (by omega), ?_⟩
        exact ⟨by simp [eL, cN], by rw [← eL_join]; simp [eL, cI]⟩
      · refine And.intro (by unfold Fits; simp at hRl ⊢ <;> omega) ?_
        (conv => whnf)
        refine ⟨(0 + 1, R, [n], nx), by dsimp only; omega, ⟨hz2, by simp [hO], hR⟩, ?_⟩
        ((conv => whnf); simp only [St.mk.injEq, List.cons.injEq, Prod.mk.injEq, AV.c.injEq, AV.agg.injEq, AV.tup.injEq, CV.d.injEq, D.int.injEq, D.bool.injEq, D.str.injEq, D.sl.injEq, Ent.arr.injEq, Ent.box.injEq, true_and, and_true, and_self, nInt_eq, Int.natCast_zero, dLen_eL, sLen_eq, partOf_none])
        refine ⟨wI (show 0 < R.length by omega) (by omega), ?_⟩
        simp [eL, cN]
    · dsimp only at h2
      simp only [nInt_eq, Int.natCast_zero, dLen_eL, sLen_eq, nOf_eq, Int.toNat_natCast, nAdd_eq, nSub_eq, dLen_nil, dLen_cons, iLt_t, iLt_f, iLe_t, iLe_f, iEq_t, iEq_f, sEq_t, sEq_f, bNot_t, bNot_f, bAnd_t, bEq_t, bEq_f, Bool.not_eq_true, Bool.not_eq_false, Bool.true_eq_false, Bool.false_eq_true] at h2
      rw [show lenRE (eL cI R) none = R.length by simp [lenRE]] at h2
      omega
  | succ i =>
    (conv => whnf)
    refine ifB_i (fun h2 => ?_) (fun h2 => ?_) <;> (conv => whnf)
    · dsimp only at h2
      simp only [nInt_eq, Int.natCast_zero, dLen_eL, sLen_eq, nOf_eq, Int.toNat_natCast, nAdd_eq, nSub_eq, dLen_nil, dLen_cons, iLt_t, iLt_f, iLe_t, iLe_f, iEq_t, iEq_f, sEq_t, sEq_f, bNot_t, bNot_f, bAnd_t, bEq_t, bEq_f, Bool.not_eq_true, Bool.not_eq_false, Bool.true_eq_false, Bool.false_eq_true] at h2
      rw [show lenRE (eL cI R) none = R.length by simp [lenRE]] at h2
      obtain ⟨y, hy⟩ := get_lt (show (i + 1) < R.length by omega)
      obtain ⟨p, rfl⟩ : ∃ p : Nat, y = p := ⟨y.toNat, by have := hi.mem _ (List.mem_of_getElem? hy); omega⟩
      obtain ⟨n, hn⟩ := get_lt (show p < N.length by have := hi.mem _ (List.mem_of_getElem? hy); omega)
      have hz := hi.inner hk hy hn
      have hz2 := hi.leaf (show (i + 1) < R.length by omega)
      refine ref_at rfl (by simp; omega) ?_
      (conv => whnf)
      refine ld_at (by simp) hy ?_
      (conv => whnf)
      refine idx_at (by simp) hn ?_
      (conv => whnf)
      refine .inl ⟨_, _, _, spec_l17Inner_spec n, rfl, ?_⟩
      (conv => whnf)
      refine ifB_i (fun h3 => ?_) (fun h3 => ?_) <;> (conv => whnf) <;> simp only [nInt_eq, Int.natCast_zero, dLen_eL, sLen_eq, nOf_eq, Int.toNat_natCast, nAdd_eq, nSub_eq, dLen_nil, dLen_cons, iLt_t, iLt_f, iLe_t, iLe_f, iEq_t, iEq_f, sEq_t, sEq_f, bNot_t, bNot_f, bAnd_t, bEq_t, bEq_f, Bool.not_eq_true, Bool.not_eq_false, Bool.true_eq_false, Bool.false_eq_true] at h3
      · have hz' := (hz h3).len
        refine And.intro (by unfold Fits; simp at hz' ⊢; omega) ?_
        (conv => whnf)
        refine And.intro (by unfold Fits; simp at hz' ⊢ <;> omega) ?_
        (conv => whnf)
        refine ⟨((i + 1) + 1, R ++ [n.l, n.r], O ++ [⟨n.f, n.c, nx, wAdd .i64 nx 1, n.v⟩], wAdd .i64 nx 2), by dsimp only; omega, ⟨hz h3, by simp [hO], by simp⟩, ?_⟩
        ((conv => whnf); simp only [St.mk.injEq, List.cons.injEq, Prod.mk.injEq, AV.c.injEq, AV.agg.injEq, AV.tup.injEq, CV.d.injEq, D.int.injEq, D.bool.injEq, D.str.injEq, D.sl.injEq, Ent.arr.injEq, Ent.box.injEq, true_and, and_true, and_self, nInt_eq, Int.natCast_zero, dLen_eL, sLen_eq, partOf_none])
        refine ⟨wI (show i + 1 < R.length by omega) (by omega), ?_⟩
        exact ⟨by rw [← eL_app]; rfl, by rw [← eL_join]; simp [eL, cI]⟩
      · refine And.intro (by unfold Fits; simp at hRl ⊢ <;> omega) ?_
        (conv => whnf)
        refine ⟨((i + 1) + 1, R, O ++ [n], nx), by dsimp only; omega, ⟨hz2, by simp [hO], hR⟩, ?_⟩
        ((conv => whnf); simp only [St.mk.injEq, List.cons.injEq, Prod.mk.injEq, AV.c.injEq, AV.agg.injEq, AV.tup.injEq, CV.d.injEq, D.int.injEq, D.bool.injEq, D.str.injEq, D.sl.injEq, Ent.arr.injEq, Ent.box.injEq, true_and, and_true, and_self, nInt_eq, Int.natCast_zero, dLen_eL, sLen_eq, partOf_none])
        refine ⟨wI (show i + 1 < R.length by omega) (by omega), ?_⟩
        rw [← eL_app]; rfl
    · dsimp only at h2
      simp only [nInt_eq, Int.natCast_zero, dLen_eL, sLen_eq, nOf_eq, Int.toNat_natCast, nAdd_eq, nSub_eq, dLen_nil, dLen_cons, iLt_t, iLt_f, iLe_t, iLe_f, iEq_t, iEq_f, sEq_t, sEq_f, bNot_t, bNot_f, bAnd_t, bEq_t, bEq_f, Bool.not_eq_true, Bool.not_eq_false, Bool.true_eq_false, Bool.false_eq_true] at h2
      rw [show lenRE (eL cI R) none = R.length by simp [lenRE]] at h2
      have h4 := hi.le
      refine ⟨O, by omega, ?_⟩
      (conv => whnf)

theorem grown_kids {t : List Nd} {ft : Int} (h : shapeOk t ft = true) {k : Nat} (hk : k < t.length) (f c a b : Int) : KidsOk (t.set k ⟨f, c, t.length, t.length + 1, 0⟩ ++ [⟨-1, 0, 0, 0, a⟩, ⟨-1, 0, 0, 0, b⟩]) := by
  have key : ∀ {j : Nat} {n : Nd}, (t.set k ⟨f, c, t.length, t.length + 1, 0⟩ ++ [⟨-1, 0, 0, 0, a⟩, ⟨-1, 0, 0, 0, b⟩])[j]? = some n → n.f ≠ -1 → (j = k ∧ n = ⟨f, c, t.length, t.length + 1, 0⟩) ∨ (j < t.length ∧ t[j]? = some n) := by
    intro j n hj hf
    by_cases hl : j < t.length
    · rw [List.getElem?_append_left (by simpa using hl), List.getElem?_set] at hj
      split at hj
      · rename_i e
        subst e
        exact .inl ⟨rfl, (Option.some.inj hj).symm⟩
      · exact .inr ⟨hl, hj⟩
    · rw [List.getElem?_append_right (by simpa using hl)] at hj
      rcases hd : j - (t.set k ⟨f, c, t.length, t.length + 1, 0⟩).length with _ | _ | d <;> rw [hd] at hj <;> simp at hj <;> subst hj <;> exact absurd rfl hf
  constructor
  · intro j n hj hf
    rcases key hj hf with ⟨rfl, rfl⟩ | ⟨hl, hj'⟩
    · simp; omega
    · have := shape_kids h hj' hf
      simp
      omega
  · intro j j' n n' hj hj' hf hf' x hx hx'
    rcases key hj hf with ⟨rfl, rfl⟩ | ⟨hl, g⟩ <;> rcases key hj' hf' with ⟨rfl, rfl⟩ | ⟨hl', g'⟩
    · rfl
    · have := shape_kids h g' hf'
      dsimp only at hx
      omega
    · have := shape_kids h g hf
      dsimp only at hx'
      omega
    · exact shape_once h g g' hf hf' hx hx'
theorem spec_l17Grown_spec (t : List Nd) (ft : Int) (h : shapeOk t ft = true) (hl : t.length ≤ 31) (k : Nat) (hk : k < t.length) (x : Nd) (a b : Int) : FnSpecX PR f_spec_l17Grown [aT t, ai k, aN x, ai a, ai b] (List Nd) (fun t' => 0 < t'.length ∧ t'.length ≤ t.length + 2) (fun _ => .agg [.ref 0 0 none]) (fun t => [(0, .arr t_impl_Node 5 0 .own (eL cN t))]) (fun _ => 1) := by
  refine FnSpecX.intro hT p_spec_l17Grown rfl (by kernel_rfl) n_spec_l17Grown rfl ?_
  (conv => whnf)
  refine And.intro (by unfold Fits; simp; omega) ?_
  rw [show dApp [] (eL cN t) = eL cN t by simp [dApp]]
  (conv => whnf)
  obtain ⟨y, hy⟩ := get_lt hk
  refine ref_at rfl (by simpa using hk) ?_
  (conv => whnf)
  refine st_at (k := k) (by simp) hy (by simp [cN]) ?_
  (conv => whnf)
  have e1 : nInt (lenRE (eL cN t) none) = (t.length : Int) := by simp [lenRE]
  have e2 : wAdd .i64 (t.length : Int) 1 = (t.length : Int) + 1 := wAdd64 (by omega) (by omega)
  rw [e1, e2]
  rw [show dSet (eL cN t) (nAdd (offR none) (nOf (k : Int))) (dOver (cN y) 0 [.int .i64 x.f, .int .i64 x.c, .int .i64 (t.length : Int), .int .i64 ((t.length : Int) + 1), .int .i64 0]) = eL cN (t.set k ⟨x.f, x.c, t.length, t.length + 1, 0⟩) by
    rw [dOver_all (by simp [cN]), show nAdd (offR none) (nOf (k : Int)) = k by simp]
    exact eL_set cN t k ⟨x.f, x.c, t.length, t.length + 1, 0⟩]
  refine And.intro (by unfold Fits; simp; omega) ?_
  rw [show dApp (eL cN (t.set k ⟨x.f, x.c, t.length, t.length + 1, 0⟩)) (partOf [[D.int IntKind.i64 (-1), D.int IntKind.i64 0, D.int IntKind.i64 0, D.int IntKind.i64 0, D.int IntKind.i64 a], [D.int IntKind.i64 (-1), D.int IntKind.i64 0, D.int IntKind.i64 0, D.int IntKind.i64 0, D.int IntKind.i64 b]] none) = eL cN (t.set k ⟨x.f, x.c, t.length, t.length + 1, 0⟩ ++ [⟨-1, 0, 0, 0, a⟩, ⟨-1, 0, 0, 0, b⟩]) by
    rw [← eL_join]; simp [eL, cN]]
  (conv => whnf)
  refine .inr (.inr (.inr (.inr (.inr (.inl ⟨_, _, _, _, _, spec_l17Levels_spec _ (grown_kids h hk x.f x.c a b) (by simp) (by simp; omega), fun t' ht' => ⟨rfl, ?_⟩⟩)))))
  simp at ht'
  refine ⟨t', by omega, ?_⟩
  (conv => whnf)
end Go.H.S
namespace Go.H.S
open Go Go.Proofs Go.H
attribute [local irreducible] Tri FnSpec FnSpecM FnSpecX FnSpecJ FnSpecB
set_option maxRecDepth 100000
set_option linter.unusedSimpArgs false
set_option linter.unusedVariables false


theorem leavesK_mem : ∀ {t : List Nd} {k j : Nat} {n : Nd}, t[j]? = some n → n.f = -1 → ((k + j : Nat) : Int) ∈ leavesK t k
  | [], k, j, n, h, hf => by simp at h
  | x :: r, k, 0, n, h, hf => by
    simp at h
    subst h
    simp [leavesK, hf]
  | x :: r, k, j + 1, n, h, hf => by
    have := leavesK_mem (k := k + 1) (show r[j]? = some n by simpa using h) hf
    rw [show k + 1 + j = k + (j + 1) by omega] at this
    simp only [leavesK]
    split
    · exact List.mem_cons_of_mem _ this
    · exact this
theorem shape_leaves {t : List Nd} {ft : Int} (h : shapeOk t ft = true) : 0 < (leavesK t 0).length := by
  have h0 : 0 < t.length := by
    cases t with
    | nil => simp [shapeOk, shapeL] at h
    | cons x r => simp
  obtain ⟨n, hn⟩ := get_lt (show t.length - 1 < t.length by omega)
  have hf : n.f = -1 := by
    by_cases hf : n.f = -1
    · exact hf
    · have := shape_kids h hn hf
      omega
  exact List.length_pos_of_mem (leavesK_mem (k := 0) hn hf)
theorem treeOk_one (v ft : Int) (hft : 0 ≤ ft ∧ ft ≤ 4) (hv : -1099511627776 ≤ v ∧ v ≤ 1099511627776) : treeOk [⟨-1, 0, 0, 0, v⟩] ft = true := by
  have hu : up [⟨-1, 0, 0, 0, v⟩] 0 = -1 := by simp [up, idxL, pUp]
  have hs : steps [⟨-1, 0, 0, 0, v⟩] 32 0 = some [0] := by simp [steps, hu]
  have hl : levelL [⟨-1, 0, 0, 0, v⟩] 0 = 0 := by
    simp only [levelL]
    rw [if_pos (by simp), lvl_lt _ (by rw [hu]; decide)]
  have hw : waysBad [⟨-1, 0, 0, 0, v⟩] [⟨-1, 0, 0, 0, v⟩] 0 = false := by
    simp [waysBad, nodeBad, hs, iEq, bNot, bAnd]
  simp [treeOk, hft, shapeOk, shapeL, leafBad, depthK, hl, hw]
  omega
theorem flat_nodes (xs : List Nd) : FlatR (eL cN xs) := fun c hc d hd => by
  rw [eL] at hc
  obtain ⟨x, _, rfl⟩ := List.mem_map.1 hc
  simp [cN] at hd
  rcases hd with rfl | rfl | rfl | rfl | rfl <;> rfl

set_option maxHeartbeats 4000000 in
theorem spec_l17Right_spec (code : List Int) (i h ft : Int) (hi : inCur code (i, h)) (hl : code.length ≤ 1048576) (hft : 1 ≤ ft ∧ ft ≤ 4) : FnSpecB PR f_spec_l17Right [.c (.ptr 0 0), ai ft] t_spec_l1Cur (cur code i h) (List Nd × Int × Int)
    (fun x => treeOk x.1 ft = true ∧ inCur code x.2) (fun x => .agg [.ref 1 0 none]) (fun x => cur code x.2.1 x.2.2) (fun x => [(1, .arr t_impl_Node 5 0 .own (eL cN x.1))]) (fun _ => 2) := by
  refine FnSpecB.intro hT 0 p_spec_l17Right rfl (by kernel_rfl) n_spec_l17Right rfl rfl ?_
  intro v0
  (conv => whnf)
  refine .inr (.inr (.inr (.inr (.inl ⟨0, ?_⟩))))
  (conv => whnf)
  refine ⟨_, _, _, _, _, _, spec_l1Below_spec code i h _ hi hl, fun ⟨x, i1, h1'⟩ ⟨hx, hi1⟩ => ⟨rfl, ?_⟩⟩
  dsimp only at hx hi1
  (conv => whnf)
  have hx2 := hx.2.1 (by decide)
  rw [show wMul .i64 50 (wSub .i64 x 10) = 50 * (x - 10) by rw [wSub64, wMul64] <;> omega]
  refine .inl ⟨_, _, _, spec_OneLeaf_spec _, rfl, ?_⟩
  (conv => whnf)
  refine .inr (.inr (.inr (.inr (.inl ⟨0, ?_⟩))))
  (conv => whnf)
  refine ⟨_, _, _, _, _, _, spec_l1Below_spec code i1 h1' _ hi1 hl, fun ⟨n, i2, h2'⟩ ⟨hn, hi2⟩ => ⟨rfl, ?_⟩⟩
  dsimp only at hn hi2
  (conv => whnf)
  obtain ⟨m, rfl⟩ : ∃ m : Nat, n = m := ⟨n.toNat, by omega⟩
  have hm := hn.2.1 (by decide)
  refine tri_loop hT [0, 1, 4, 5, 6, 7] (α := Nat × List Nd × Int × Int) (fun x => { t := [(0, .w (.ptr 0 0) v0), (1, ai ft), (4, .c (.ptr 1 0)), (5, .c (.ptr 2 0)), (6, ai m), (7, ai x.1)], h := [(0, .box t_spec_l1Cur (cur code x.2.2.1 x.2.2.2)), (1, .box t_impl_Tree [.nl 5]), (2, .box t_impl_Tree [.ref 3 0 none]), (3, .arr t_impl_Node 5 0 .own (eL cN x.2.1))], n := 4, N := 54 })
    (fun x => x.1 ≤ m ∧ treeOk x.2.1 ft = true ∧ inCur code x.2.2) (fun x => m - x.1) (0, [⟨-1, 0, 0, 0, 50 * (x - 10)⟩], i2, h2') (by ((conv => whnf); simp only [St.mk.injEq, List.cons.injEq, Prod.mk.injEq, AV.c.injEq, AV.agg.injEq, AV.tup.injEq, CV.d.injEq, D.int.injEq, D.bool.injEq, D.str.injEq, D.sl.injEq, Ent.arr.injEq, Ent.box.injEq, true_and, and_true, and_self, nInt_eq, Int.natCast_zero, dLen_eL, sLen_eq])) ⟨Nat.zero_le _, treeOk_one _ ft (by omega) (by omega), hi2⟩ ?_
  intro ⟨k, t, i3, h3⟩ ⟨hk, ht, hi3⟩
  dsimp only at hk ht hi3
  (conv => whnf)
  have htl : t.length ≤ 31 := by simp [treeOk] at ht; omega
  have hsh : shapeOk t ft = true := by simp [treeOk] at ht; exact ht.2.2.1
  refine ifB_i (fun h1 => ?_) (fun h1 => ?_) <;> (conv => whnf) <;> simp only [nInt_eq, Int.natCast_zero, dLen_eL, sLen_eq, nOf_eq, Int.toNat_natCast, nAdd_eq, nSub_eq, dLen_nil, dLen_cons, iLt_t, iLt_f, iLe_t, iLe_f, iEq_t, iEq_f, sEq_t, sEq_f, bNot_t, bNot_f, bAnd_t, bEq_t, bEq_f, Bool.not_eq_true, Bool.not_eq_false, Bool.true_eq_false, Bool.false_eq_true] at h1
  · refine .inr (.inl ⟨_, _, _, spec_LeavesOf_spec t (by omega), rfl, ⟨flat_cI _, trivial⟩, ?_⟩)
    (conv => whnf)
    have hlv := shape_leaves hsh
    have hlv2 := leavesK_len t 0
    refine .inr (.inr (.inr (.inr (.inl ⟨0, ?_⟩))))
    (conv => whnf)
    rw [show nInt (lenRE (eL cI (leavesK t 0)) none) = ((leavesK t 0).length : Int) by simp [lenRE]]
    refine ⟨_, _, _, _, _, _, spec_l1Below_spec code i3 h3 _ hi3 hl, fun ⟨q, i4, h4⟩ ⟨hq, hi4⟩ => ⟨rfl, ?_⟩⟩
    dsimp only at hq hi4
    obtain ⟨q, rfl⟩ : ∃ m : Nat, q = m := ⟨q.toNat, by omega⟩
    have hq2 := hq.2.1 (by omega)
    obtain ⟨p, hp⟩ := get_lt (show q < (leavesK t 0).length by omega)
    have hpl := leavesK_lt t 0 p (List.mem_of_getElem? hp)
    obtain ⟨p, rfl⟩ : ∃ m : Nat, p = m := ⟨p.toNat, by omega⟩
    have hpt : p < t.length := by omega
    (conv => whnf)
    refine ref_at rfl (by simp; omega) ?_
    (conv => whnf)
    refine ld_at (by simp) hp ?_
    (conv => whnf)
    refine tri_everyX hT hmix [0, 1, 4, 5, 6, 7, 10] (Y := List Nd × Int × Int) (fun y => 0 < y.1.length ∧ y.1.length ≤ t.length + 2 ∧ inCur code y.2) (fun y => { t := [(0, .w (.ptr 0 0) v0), (1, ai ft), (4, .c (.ptr 1 0)), (5, .c (.ptr 2 0)), (6, ai m), (7, ai k), (10, .c (.ptr 4 0))], h := [(0, .box t_spec_l1Cur (cur code y.2.1 y.2.2)), (1, .box t_impl_Tree [.nl 5]), (2, .box t_impl_Tree [.ref 3 0 none]), (3, .arr t_impl_Node 5 0 .own (eL cN t)), (4, .box t_impl_Tree [.ref 5 0 none]), (5, .arr t_impl_Node 5 0 .own (eL cN y.1))], n := 6, N := 54 }) rfl ?_ ?_
    · repeat' first
        | (refine anyV_one rfl ?_; (conv => whnf))
        | (refine anyV_two rfl ?_ ?_ <;> (conv => whnf))
        | (refine anyV_three rfl ?_ ?_ ?_ <;> (conv => whnf))
        | (refine .inr (.inr (.inr (.inr (.inl ⟨0, ?_⟩)))); (conv => whnf); refine ⟨_, _, _, _, _, _, spec_l1Below_spec code _ _ _ (by first | exact hj | exact hi4) hl, fun ⟨x, j, g⟩ ⟨hx, hj⟩ => ⟨rfl, ?_⟩⟩; dsimp only at hx hj; (conv => whnf))
        | (refine .inr (.inr (.inr (.inr (.inr (.inr ⟨_, _, _, _, _, spec_l17Grown_spec t ft hsh htl p hpt ⟨_, _, 0, 0, 0⟩ _ _, fun t' ht' => ⟨rfl, ⟨flat_nodes _, trivial⟩, ?_⟩⟩))))); (conv => whnf))
      all_goals refine anyV_end rfl ?_
      all_goals refine ⟨(t', j, g), ⟨ht'.1, ht'.2, hj⟩, ?_⟩
      all_goals (conv => whnf)
    · intro ⟨t', i5, h5⟩ ⟨hy1, hy2, hy3⟩
      dsimp only at hy1 hy2 hy3
      (conv => whnf)
      refine .inr (.inl ⟨_, _, _, spec_TreeOk_spec t' ft (by omega), rfl, trivial, ?_⟩)
      (conv => whnf)
      refine ifB_i (fun h2 => ?_) (fun h2 => ?_) <;> (conv => whnf)
      · refine ⟨(k + 1, t', i5, h5), by dsimp only; omega, ⟨by dsimp only; omega, h2, hy3⟩, ?_⟩
        ((conv => whnf); simp only [St.mk.injEq, List.cons.injEq, Prod.mk.injEq, AV.c.injEq, AV.agg.injEq, AV.tup.injEq, CV.d.injEq, D.int.injEq, D.bool.injEq, D.str.injEq, D.sl.injEq, Ent.arr.injEq, Ent.box.injEq, true_and, and_true, and_self, nInt_eq, Int.natCast_zero, dLen_eL, sLen_eq])
        exact wI (show k < m by omega) (by omega)
      · refine ⟨(k + 1, t, i5, h5), by dsimp only; omega, ⟨by dsimp only; omega, ht, hy3⟩, ?_⟩
        ((conv => whnf); simp only [St.mk.injEq, List.cons.injEq, Prod.mk.injEq, AV.c.injEq, AV.agg.injEq, AV.tup.injEq, CV.d.injEq, D.int.injEq, D.bool.injEq, D.str.injEq, D.sl.injEq, Ent.arr.injEq, Ent.box.injEq, true_and, and_true, and_self, nInt_eq, Int.natCast_zero, dLen_eL, sLen_eq])
        exact wI (show k < m by omega) (by omega)
  · refine ⟨(t, i3, h3), ⟨ht, hi3⟩, ?_⟩
    (conv => whnf)
end Go.H.S
namespace Go.H.S
open Go Go.Proofs Go.H
attribute [local irreducible] Tri FnSpec FnSpecM FnSpecX FnSpecJ FnSpecB
set_option maxRecDepth 100000
set_option linter.unusedSimpArgs false
set_option linter.unusedVariables false


theorem spec_l1PickInt_of (code : List Int) (i h : Int) (es : List (List D)) (l : List Int) (he : es = eL cI l) (hi : 0 ≤ i ∧ i ≤ code.length) (hl : code.length ≤ 1048576) (hne : 0 < l.length) (hll : l.length ≤ 1048576) : FnSpecB PR f_spec_l1PickInt [.c (.ptr 0 0), .c (.d (.sl 1 es))] t_spec_l1Cur (cur code i h) (Int × Int × Int)
    (fun x => x.1 ∈ l ∧ inCur code x.2) (fun x => ai x.1) (fun x => cur code x.2.1 x.2.2) (fun _ => []) (fun _ => 1) := he ▸ spec_l1PickInt_spec code i h l hi hl hne hll

theorem part_eL {α : Type} (f : α → List D) (xs : List α) (b : Bool) (o n : Nat) : partOf (eL f xs) (some (b, o, n)) = eL f ((xs.drop o).take n) := by
  simp only [partOf, dPart_eq, eL, List.map_drop, List.map_take]
theorem nodes_set (ns : List Nd) {k' k : Nat} (x y : Nd) {j : Nat} {ds : List D} (hk : k' = k) (h : dOver (cN x) j ds = cN y) : dSet (eL cN ns) k' (dOver (cN x) j ds) = eL cN (ns.set k y) := by
  rw [h, hk]
  exact eL_set cN ns k y
set_option maxHeartbeats 4000000 in
theorem spec_l17Bent_spec (code : List Int) (i h : Int) (hi : inCur code (i, h)) (hl : code.length ≤ 1048576) : FnSpecB PR f_spec_l17Bent [.c (.ptr 0 0)] t_spec_l1Cur (cur code i h) (List Nd × Int × Int)
    (fun x => x.1.length ≤ 32 ∧ inCur code x.2) (fun x => aT x.1) (fun x => cur code x.2.1 x.2.2) (fun _ => []) (fun _ => 1) := by
  refine FnSpecB.intro hT 0 p_spec_l17Bent rfl (by kernel_rfl) n_spec_l17Bent rfl rfl ?_
  intro v0
  (conv => whnf)
  refine .inr (.inr (.inr (.inr (.inl ⟨0, ?_⟩))))
  (conv => whnf)
  refine ⟨_, _, _, _, _, _, spec_l1Below_spec code i h _ hi hl, fun ⟨x, i1, h1⟩ ⟨hx, hi1⟩ => ⟨rfl, ?_⟩⟩
  dsimp only at hx hi1
  have hx2 := hx.2.1 (by decide)
  (conv => whnf)
  refine .inr (.inr (.inr (.inr (.inl ⟨0, ?_⟩))))
  (conv => whnf)
  rw [show wAdd .i64 1 x = 1 + x from wAdd64 (by omega) (by omega)]
  refine ⟨_, _, _, _, _, _, spec_l17Right_spec code i1 h1 (1 + x) hi1 hl (by omega), fun ⟨t, i2, h2⟩ ⟨ht, hi2⟩ => ⟨rfl, ?_⟩⟩
  dsimp only at ht hi2
  have htl : 1 ≤ t.length ∧ t.length ≤ 31 := by simp [treeOk] at ht; omega
  (conv => whnf)
  refine .inr (.inr (.inr (.inr (.inl ⟨0, ?_⟩))))
  (conv => whnf)
  rw [show nInt (lenRE (eL cN (t, i2, h2).1) none) = (t.length : Int) by simp [lenRE]]
  refine ⟨_, _, _, _, _, _, spec_l1Below_spec code i2 h2 t.length hi2 hl, fun ⟨k, i3, h3⟩ ⟨hk, hi3⟩ => ⟨rfl, ?_⟩⟩
  dsimp only at hk hi3
  obtain ⟨k, rfl⟩ : ∃ m : Nat, k = m := ⟨k.toNat, by omega⟩
  have hk2 := hk.2.1 (by omega)
  obtain ⟨n, hn⟩ := get_lt (show k < t.length by omega)
  (conv => whnf)
  refine .inr (.inr (.inr (.inr (.inl ⟨0, ?_⟩))))
  (conv => whnf)
  refine ⟨_, _, _, _, _, _, spec_l1Below_spec code i3 h3 _ hi3 hl, fun ⟨q, i4, h4⟩ ⟨hq, hi4⟩ => ⟨rfl, ?_⟩⟩
  dsimp only at hq hi4
  (conv => whnf)
  refine ifB_i (fun g0 => ?_) (fun g0 => ?_) <;> (conv => whnf)
  · refine tri_everyX hT hmix [0, 2, 3] (Y := List Nd × Int × Int) (fun y => y.1.length ≤ 32 ∧ inCur code y.2) (fun y => { t := [(0, .w (.ptr 0 0) v0), (2, .c (.ptr 1 0)), (3, .c (.ptr 2 0))], h := [(0, .box t_spec_l1Cur (cur code y.2.1 y.2.2)), (1, .box t_impl_Tree [.nl 5]), (2, .box t_impl_Tree [.ref 3 0 none]), (3, .arr t_impl_Node 5 0 .own (eL cN y.1))], n := 4, N := 85 }) rfl ?_ ?_
    · repeat' first
        | (refine anyV_one rfl ?_; (conv => whnf))
        | (refine anyV_two rfl ?_ ?_ <;> (conv => whnf))
        | (refine anyV_three rfl ?_ ?_ ?_ <;> (conv => whnf))
        | (refine .inr (.inr (.inr (.inr (.inl ⟨0, ?_⟩)))); (conv => whnf); refine ⟨_, _, _, _, _, _, spec_l1PickInt_of code _ _ _ [-1, 0, 1, 4, -2, 9223372036854775807] (by simp [eL, cI]) hi4 hl (by simp) (by simp), fun ⟨y, j, g⟩ ⟨hy, hj⟩ => ⟨rfl, ?_⟩⟩; dsimp only at hy hj; (conv => whnf))
        | (refine ref_at rfl (by simp; omega) ?_; (conv => whnf))
        | (refine st_at (k := k) (by simp) hn (by simp [cN]) ?_; (conv => whnf))
      all_goals refine anyV_end rfl ?_
      all_goals refine ⟨(t.set k ⟨y, n.c, n.l, n.r, n.v⟩, j, g), ⟨by simp; omega, hj⟩, ?_⟩
      all_goals ((conv => whnf); simp only [St.mk.injEq, List.cons.injEq, Prod.mk.injEq, AV.c.injEq, AV.agg.injEq, AV.tup.injEq, CV.d.injEq, D.int.injEq, D.bool.injEq, D.str.injEq, D.sl.injEq, Ent.arr.injEq, Ent.box.injEq, true_and, and_true, and_self, nInt_eq, Int.natCast_zero, dLen_eL, sLen_eq])
      all_goals exact nodes_set t n _ (by simp) (by simp [dOver, cN, over])
    · intro ⟨t', i5, h5⟩ ⟨hy1, hy2⟩
      dsimp only at hy1 hy2
      (conv => whnf)
      refine ⟨(t', i5, h5), ⟨hy1, hy2⟩, ?_⟩
      (conv => whnf)
      rfl
  refine ifB_i (fun g1 => ?_) (fun g1 => ?_) <;> (conv => whnf)
  · refine tri_everyX hT hmix [0, 2, 3] (Y := List Nd × Int × Int) (fun y => y.1.length ≤ 32 ∧ inCur code y.2) (fun y => { t := [(0, .w (.ptr 0 0) v0), (2, .c (.ptr 1 0)), (3, .c (.ptr 2 0))], h := [(0, .box t_spec_l1Cur (cur code y.2.1 y.2.2)), (1, .box t_impl_Tree [.nl 5]), (2, .box t_impl_Tree [.ref 3 0 none]), (3, .arr t_impl_Node 5 0 .own (eL cN y.1))], n := 4, N := 85 }) rfl ?_ ?_
    · repeat' first
        | (refine anyV_one rfl ?_; (conv => whnf))
        | (refine anyV_two rfl ?_ ?_ <;> (conv => whnf))
        | (refine anyV_three rfl ?_ ?_ ?_ <;> (conv => whnf))
        | (refine .inr (.inr (.inr (.inr (.inl ⟨0, ?_⟩)))); (conv => whnf); refine ⟨_, _, _, _, _, _, spec_l1PickInt_of code _ _ _ [0, 1, 2147483648, -2147483648, 500] (by simp [eL, cI]) hi4 hl (by simp) (by simp), fun ⟨y, j, g⟩ ⟨hy, hj⟩ => ⟨rfl, ?_⟩⟩; dsimp only at hy hj; (conv => whnf))
        | (refine ref_at rfl (by simp; omega) ?_; (conv => whnf))
        | (refine st_at (k := k) (by simp) hn (by simp [cN]) ?_; (conv => whnf))
      all_goals refine anyV_end rfl ?_
      all_goals refine ⟨(t.set k ⟨n.f, y, n.l, n.r, n.v⟩, j, g), ⟨by simp; omega, hj⟩, ?_⟩
      all_goals ((conv => whnf); simp only [St.mk.injEq, List.cons.injEq, Prod.mk.injEq, AV.c.injEq, AV.agg.injEq, AV.tup.injEq, CV.d.injEq, D.int.injEq, D.bool.injEq, D.str.injEq, D.sl.injEq, Ent.arr.injEq, Ent.box.injEq, true_and, and_true, and_self, nInt_eq, Int.natCast_zero, dLen_eL, sLen_eq])
      all_goals exact nodes_set t n _ (by simp) (by simp [dOver, cN, over])
    · intro ⟨t', i5, h5⟩ ⟨hy1, hy2⟩
      dsimp only at hy1 hy2
      (conv => whnf)
      refine ⟨(t', i5, h5), ⟨hy1, hy2⟩, ?_⟩
      (conv => whnf)
      rfl
  refine ifB_i (fun g2 => ?_) (fun g2 => ?_) <;> (conv => whnf)
  · refine tri_everyX hT hmix [0, 2, 3] (Y := List Nd × Int × Int) (fun y => y.1.length ≤ 32 ∧ inCur code y.2) (fun y => { t := [(0, .w (.ptr 0 0) v0), (2, .c (.ptr 1 0)), (3, .c (.ptr 2 0))], h := [(0, .box t_spec_l1Cur (cur code y.2.1 y.2.2)), (1, .box t_impl_Tree [.nl 5]), (2, .box t_impl_Tree [.ref 3 0 none]), (3, .arr t_impl_Node 5 0 .own (eL cN y.1))], n := 4, N := 85 }) rfl ?_ ?_
    · repeat' first
        | (refine anyV_one rfl ?_; (conv => whnf))
        | (refine anyV_two rfl ?_ ?_ <;> (conv => whnf))
        | (refine anyV_three rfl ?_ ?_ ?_ <;> (conv => whnf))
        | (refine .inr (.inr (.inr (.inr (.inl ⟨0, ?_⟩)))); (conv => whnf); refine ⟨_, _, _, _, _, _, spec_l1PickInt_of code _ _ _ [0, 1, 2, -1, 40, (k : Int)] (by simp [eL, cI]) hi4 hl (by simp) (by simp), fun ⟨y, j, g⟩ ⟨hy, hj⟩ => ⟨rfl, ?_⟩⟩; dsimp only at hy hj; (conv => whnf))
        | (refine ref_at rfl (by simp; omega) ?_; (conv => whnf))
        | (refine st_at (k := k) (by simp) hn (by simp [cN]) ?_; (conv => whnf))
      all_goals refine anyV_end rfl ?_
      all_goals refine ⟨(t.set k ⟨n.f, n.c, y, n.r, n.v⟩, j, g), ⟨by simp; omega, hj⟩, ?_⟩
      all_goals ((conv => whnf); simp only [St.mk.injEq, List.cons.injEq, Prod.mk.injEq, AV.c.injEq, AV.agg.injEq, AV.tup.injEq, CV.d.injEq, D.int.injEq, D.bool.injEq, D.str.injEq, D.sl.injEq, Ent.arr.injEq, Ent.box.injEq, true_and, and_true, and_self, nInt_eq, Int.natCast_zero, dLen_eL, sLen_eq])
      all_goals exact nodes_set t n _ (by simp) (by simp [dOver, cN, over])
    · intro ⟨t', i5, h5⟩ ⟨hy1, hy2⟩
      dsimp only at hy1 hy2
      (conv => whnf)
      refine ⟨(t', i5, h5), ⟨hy1, hy2⟩, ?_⟩
      (conv => whnf)
      rfl
  refine ifB_i (fun g3 => ?_) (fun g3 => ?_) <;> (conv => whnf)
  · refine tri_everyX hT hmix [0, 2, 3] (Y := List Nd × Int × Int) (fun y => y.1.length ≤ 32 ∧ inCur code y.2) (fun y => { t := [(0, .w (.ptr 0 0) v0), (2, .c (.ptr 1 0)), (3, .c (.ptr 2 0))], h := [(0, .box t_spec_l1Cur (cur code y.2.1 y.2.2)), (1, .box t_impl_Tree [.nl 5]), (2, .box t_impl_Tree [.ref 3 0 none]), (3, .arr t_impl_Node 5 0 .own (eL cN y.1))], n := 4, N := 85 }) rfl ?_ ?_
    · repeat' first
        | (refine anyV_one rfl ?_; (conv => whnf))
        | (refine anyV_two rfl ?_ ?_ <;> (conv => whnf))
        | (refine anyV_three rfl ?_ ?_ ?_ <;> (conv => whnf))
        | (refine .inr (.inr (.inr (.inr (.inl ⟨0, ?_⟩)))); (conv => whnf); refine ⟨_, _, _, _, _, _, spec_l1PickInt_of code _ _ _ [0, 1, 2, -1, 40, (k : Int)] (by simp [eL, cI]) hi4 hl (by simp) (by simp), fun ⟨y, j, g⟩ ⟨hy, hj⟩ => ⟨rfl, ?_⟩⟩; dsimp only at hy hj; (conv => whnf))
        | (refine ref_at rfl (by simp; omega) ?_; (conv => whnf))
        | (refine st_at (k := k) (by simp) hn (by simp [cN]) ?_; (conv => whnf))
      all_goals refine anyV_end rfl ?_
      all_goals refine ⟨(t.set k ⟨n.f, n.c, n.l, y, n.v⟩, j, g), ⟨by simp; omega, hj⟩, ?_⟩
      all_goals ((conv => whnf); simp only [St.mk.injEq, List.cons.injEq, Prod.mk.injEq, AV.c.injEq, AV.agg.injEq, AV.tup.injEq, CV.d.injEq, D.int.injEq, D.bool.injEq, D.str.injEq, D.sl.injEq, Ent.arr.injEq, Ent.box.injEq, true_and, and_true, and_self, nInt_eq, Int.natCast_zero, dLen_eL, sLen_eq])
      all_goals exact nodes_set t n _ (by simp) (by simp [dOver, cN, over])
    · intro ⟨t', i5, h5⟩ ⟨hy1, hy2⟩
      dsimp only at hy1 hy2
      (conv => whnf)
      refine ⟨(t', i5, h5), ⟨hy1, hy2⟩, ?_⟩
      (conv => whnf)
      rfl
  refine ifB_i (fun g4 => ?_) (fun g4 => ?_) <;> (conv => whnf)
  · refine tri_everyX hT hmix [0, 2, 3] (Y := List Nd × Int × Int) (fun y => y.1.length ≤ 32 ∧ inCur code y.2) (fun y => { t := [(0, .w (.ptr 0 0) v0), (2, .c (.ptr 1 0)), (3, .c (.ptr 2 0))], h := [(0, .box t_spec_l1Cur (cur code y.2.1 y.2.2)), (1, .box t_impl_Tree [.nl 5]), (2, .box t_impl_Tree [.ref 3 0 none]), (3, .arr t_impl_Node 5 0 .own (eL cN y.1))], n := 4, N := 85 }) rfl ?_ ?_
    · repeat' first
        | (refine anyV_one rfl ?_; (conv => whnf))
        | (refine anyV_two rfl ?_ ?_ <;> (conv => whnf))
        | (refine anyV_three rfl ?_ ?_ ?_ <;> (conv => whnf))
        | (refine .inr (.inr (.inr (.inr (.inl ⟨0, ?_⟩)))); (conv => whnf); refine ⟨_, _, _, _, _, _, spec_l1PickInt_of code _ _ _ [0, 1, 1099511627776, 1099511627777, -1099511627777] (by simp [eL, cI]) hi4 hl (by simp) (by simp), fun ⟨y, j, g⟩ ⟨hy, hj⟩ => ⟨rfl, ?_⟩⟩; dsimp only at hy hj; (conv => whnf))
        | (refine ref_at rfl (by simp; omega) ?_; (conv => whnf))
        | (refine st_at (k := k) (by simp) hn (by simp [cN]) ?_; (conv => whnf))
      all_goals refine anyV_end rfl ?_
      all_goals refine ⟨(t.set k ⟨n.f, n.c, n.l, n.r, y⟩, j, g), ⟨by simp; omega, hj⟩, ?_⟩
      all_goals ((conv => whnf); simp only [St.mk.injEq, List.cons.injEq, Prod.mk.injEq, AV.c.injEq, AV.agg.injEq, AV.tup.injEq, CV.d.injEq, D.int.injEq, D.bool.injEq, D.str.injEq, D.sl.injEq, Ent.arr.injEq, Ent.box.injEq, true_and, and_true, and_self, nInt_eq, Int.natCast_zero, dLen_eL, sLen_eq])
      all_goals exact nodes_set t n _ (by simp) (by simp [dOver, cN, over])
    · intro ⟨t', i5, h5⟩ ⟨hy1, hy2⟩
      dsimp only at hy1 hy2
      (conv => whnf)
      refine ⟨(t', i5, h5), ⟨hy1, hy2⟩, ?_⟩
      (conv => whnf)
      rfl
  refine ifB_i (fun g5 => ?_) (fun g5 => ?_) <;> (conv => whnf)
  · refine And.intro (by unfold Fits; simp; omega) ?_
    (conv => whnf)
    refine ⟨(t ++ [⟨-1, 0, 0, 0, 0⟩], i4, h4), ⟨by simp; omega, hi4⟩, ?_⟩
    ((conv => whnf); simp only [St.mk.injEq, List.cons.injEq, Prod.mk.injEq, AV.c.injEq, AV.agg.injEq, AV.tup.injEq, CV.d.injEq, D.int.injEq, D.bool.injEq, D.str.injEq, D.sl.injEq, Ent.arr.injEq, Ent.box.injEq, true_and, and_true, and_self, nInt_eq, Int.natCast_zero, dLen_eL, sLen_eq, aT])
    simp only [partOf_none]
    rw [← eL_join]
    simp [eL, cN]
  refine ifB_i (fun g6 => ?_) (fun g6 => ?_) <;> (conv => whnf)
  · refine And.intro (by simp [lenRE]; omega) ?_
    (conv => whnf)
    refine ⟨(t.take k, i4, h4), ⟨by simp; omega, hi4⟩, ?_⟩
    ((conv => whnf); simp only [St.mk.injEq, List.cons.injEq, Prod.mk.injEq, AV.c.injEq, AV.agg.injEq, AV.tup.injEq, CV.d.injEq, D.int.injEq, D.bool.injEq, D.str.injEq, D.sl.injEq, Ent.arr.injEq, Ent.box.injEq, true_and, and_true, and_self, nInt_eq, Int.natCast_zero, dLen_eL, sLen_eq, aT])
    rw [part_eL]
    simp
  refine ⟨(t, i4, h4), ⟨by dsimp only; omega, hi4⟩, ?_⟩
  (conv => whnf)
  rfl
end Go.H.S
namespace Go.H.S
open Go Go.Proofs Go.H
set_option linter.unusedSimpArgs false
set_option linter.unusedVariables false


/-- The least and the greatest of these values, or none. -/
def IsSpan (S : Int → Prop) (a : Int × Int × Bool) : Prop :=
  (a.2.2 = true → S a.1 ∧ S a.2.1 ∧ ∀ v, S v → a.1 ≤ v ∧ v ≤ a.2.1) ∧ (a.2.2 = false → ∀ v, ¬ S v)
theorem IsSpan.congr {S S' : Int → Prop} {a : Int × Int × Bool} (h : IsSpan S a) (he : ∀ v, S v ↔ S' v) : IsSpan S' a := by
  have : S = S' := funext fun v => propext (he v)
  rw [← this]; exact h
theorem span_fold (t : List Nd) (node : Int) : ∀ (l : List Int) (S : Int → Prop) (a : Int × Int × Bool), IsSpan S a → IsSpan (fun v => S v ∨ ∃ y ∈ l, node ∈ wayL t y ∧ vAt t y = v) (l.foldl (spanStep t node) a)
  | [], S, a, h => h.congr fun v => by simp
  | y :: r, S, a, h => by
    rw [List.foldl_cons]
    have h1 : IsSpan (fun v => S v ∨ (node ∈ wayL t y ∧ vAt t y = v)) (spanStep t node a y) := by
      obtain ⟨lo, hi, ok⟩ := a
      unfold spanStep
      by_cases hy : node ∈ wayL t y
      · rw [if_pos hy]
        cases ok with
        | false =>
          refine ⟨fun _ => ⟨.inr ⟨hy, rfl⟩, .inr ⟨hy, rfl⟩, fun v hv => ?_⟩, fun q => by cases q⟩
          rcases hv with hv | ⟨_, rfl⟩
          · exact absurd hv (h.2 rfl v)
          · exact ⟨Int.le_refl _, Int.le_refl _⟩
        | true =>
          obtain ⟨q1, q2, q3⟩ := h.1 rfl
          have key : ∀ m : Int, (m = lo ∨ m = hi ∨ m = vAt t y) → S m ∨ (node ∈ wayL t y ∧ vAt t y = m) := fun m hm => by
            rcases hm with rfl | rfl | rfl
            · exact .inl q1
            · exact .inl q2
            · exact .inr ⟨hy, rfl⟩
          refine ⟨fun _ => ⟨key _ (by simp only [if_true]; omega), key _ (by simp only [if_true]; omega), fun v hv => ?_⟩, fun q => by cases q⟩
          simp only [if_true]
          rcases hv with hv | ⟨_, rfl⟩
          · have := q3 v hv; simp only at this; omega
          · omega
      · rw [if_neg hy]
        exact h.congr fun v => by simp [hy]
    refine (span_fold t node r _ _ h1).congr fun v => ?_
    simp only [List.mem_cons]
    constructor
    · rintro ((h | h) | ⟨z, hz, h⟩)
      · exact .inl h
      · exact .inr ⟨y, .inl rfl, h⟩
      · exact .inr ⟨z, .inr hz, h⟩
    · rintro (h | ⟨z, rfl | hz, h⟩)
      · exact .inl (.inl h)
      · exact .inl (.inr h)
      · exact .inr ⟨z, hz, h⟩
theorem spanL_spec (t : List Nd) (node : Int) : IsSpan (fun v => ∃ y ∈ leavesK t 0, node ∈ wayL t y ∧ vAt t y = v) (spanL t node) :=
  (span_fold t node (leavesK t 0) (fun _ => False) (0, 0, false) ⟨fun h => (by cases h), fun _ _ h => h⟩).congr fun v => by simp
theorem leaf_mem : ∀ (t : List Nd) (k : Nat) (y : Int), y ∈ leavesK t k ↔ ∃ (j : Nat) (n : Nd), y = (k : Int) + j ∧ t[j]? = some n ∧ n.f = -1
  | [], k, y => by simp [leavesK]
  | x :: r, k, y => by
    have ih := leaf_mem r (k + 1) y
    have hstep : (∃ (j : Nat) (n : Nd), y = (k : Int) + j ∧ (x :: r)[j]? = some n ∧ n.f = -1) ↔ (y = k ∧ x.f = -1) ∨ ∃ (j : Nat) (n : Nd), y = ((k + 1 : Nat) : Int) + j ∧ r[j]? = some n ∧ n.f = -1 := by
      constructor
      · rintro ⟨j, n, h1, h2, h3⟩
        cases j with
        | zero => simp at h2; subst h2; exact .inl ⟨by omega, h3⟩
        | succ j => rw [List.getElem?_cons_succ] at h2; exact .inr ⟨j, n, by omega, h2, h3⟩
      · rintro (⟨h1, h2⟩ | ⟨j, n, h1, h2, h3⟩)
        · exact ⟨0, x, by omega, by simp, h2⟩
        · exact ⟨j + 1, n, by omega, by rw [List.getElem?_cons_succ]; exact h2, h3⟩
    rw [hstep, ← ih]
    simp only [leavesK]
    split
    · rename_i hf; simp [hf]
    · rename_i hf; simp [hf]
/-- The values of the leaves below x. -/
def Under (t : List Nd) (x v : Int) : Prop := ∃ (j : Nat) (n : Nd), t[j]? = some n ∧ n.f = -1 ∧ Anc t x j ∧ n.v = v
theorem span_under {t : List Nd} {ft : Int} (h : shapeOk t ft = true) (hl : t.length ≤ 31) (x : Int) : IsSpan (Under t x) (spanL t x) := by
  refine (spanL_spec t x).congr fun v => ?_
  constructor
  · rintro ⟨y, hy, hw, rfl⟩
    obtain ⟨j, n, h1, h2, h3⟩ := (leaf_mem t 0 y).1 hy
    obtain rfl : y = j := by omega
    have hj : j < t.length := (List.getElem?_eq_some_iff.1 h2).1
    exact ⟨j, n, h2, h3, (way_anc h hl ⟨by omega, by omega⟩ x).1 hw, by simp [vAt, h2]⟩
  · rintro ⟨j, n, h2, h3, ha, rfl⟩
    have hj : j < t.length := (List.getElem?_eq_some_iff.1 h2).1
    exact ⟨j, (leaf_mem t 0 j).2 ⟨j, n, by omega, h2, h3⟩, (way_anc h hl ⟨by omega, by omega⟩ x).2 ha, by simp [vAt, h2]⟩
theorem under_kids {t : List Nd} {ft : Int} (h : shapeOk t ft = true) {j : Nat} {n : Nd} (hj : t[j]? = some n) (hf : n.f ≠ -1) (v : Int) : Under t j v ↔ Under t n.l v ∨ Under t n.r v := by
  constructor
  · rintro ⟨i, m, h1, h2, h3, h4⟩
    have hne : (i : Int) ≠ j := fun e => by
      have : i = j := by omega
      subst this
      rw [hj] at h1; cases h1
      exact hf h2
    rcases (anc_kid h hj hf hne).1 h3 with q | q
    · exact .inl ⟨i, m, h1, h2, q, h4⟩
    · exact .inr ⟨i, m, h1, h2, q, h4⟩
  · rintro (⟨i, m, h1, h2, h3, h4⟩ | ⟨i, m, h1, h2, h3, h4⟩) <;> refine ⟨i, m, h1, h2, (anc_kid h hj hf (fun e => ?_)).2 (by first | exact .inl h3 | exact .inr h3), h4⟩
    all_goals
      have : i = j := by omega
      subst this
      rw [hj] at h1; cases h1
      exact hf h2
theorem under_leaf {t : List Nd} {ft : Int} (h : shapeOk t ft = true) {j : Nat} {n : Nd} (hj : t[j]? = some n) (hf : n.f = -1) (v : Int) : Under t j v ↔ v = n.v := by
  constructor
  · rintro ⟨i, m, h1, h2, h3, h4⟩
    rcases anc_below h3 with e | ⟨c, q1, q2, _⟩
    · obtain rfl : j = i := by omega
      rw [hj] at h1; cases h1
      exact h4.symm
    · obtain ⟨j', n', r1, r2, r3, _, _⟩ := up_at h q1
      obtain rfl : j' = j := by omega
      rw [hj] at r2; cases r2
      exact absurd hf r3
  · rintro rfl
    exact ⟨j, n, hj, hf, .refl _, rfl⟩
theorem under_some {t : List Nd} {ft : Int} (h : shapeOk t ft = true) : ∀ (d j : Nat), j < t.length → t.length - j ≤ d → ∃ v, Under t j v
  | 0, j, h1, h2 => by omega
  | d + 1, j, h1, h2 => by
    obtain ⟨n, hj⟩ : ∃ n, t[j]? = some n := ⟨t[j], List.getElem?_eq_getElem h1⟩
    by_cases hf : n.f = -1
    · exact ⟨n.v, (under_leaf h hj hf _).2 rfl⟩
    · have hk := shape_kids h hj hf
      obtain ⟨v, hv⟩ := under_some h d n.l.toNat (by omega) (by omega)
      rw [show ((n.l.toNat : Nat) : Int) = n.l by omega] at hv
      exact ⟨v, (under_kids h hj hf v).2 (.inl hv)⟩
/-- The span of an inner node, from its children's. -/
theorem span_law {t : List Nd} {ft : Int} (h : shapeOk t ft = true) (hl : t.length ≤ 31) {j : Nat} {n : Nd} (hj : t[j]? = some n) (hf : n.f ≠ -1) :
    (spanL t j).1 = min (spanL t n.l).1 (spanL t n.r).1 ∧ (spanL t j).2.1 = max (spanL t n.l).2.1 (spanL t n.r).2.1 := by
  have hk := shape_kids h hj hf
  have hj' : j < t.length := (List.getElem?_eq_some_iff.1 hj).1
  have some' : ∀ x : Int, 0 ≤ x → x < t.length → (spanL t x).2.2 = true := fun x h0 h1 => by
    cases hb : (spanL t x).2.2 with
    | true => rfl
    | false =>
      obtain ⟨v, hv⟩ := under_some h (t.length - x.toNat) x.toNat (by omega) (Nat.le_refl _)
      rw [show ((x.toNat : Nat) : Int) = x by omega] at hv
      exact absurd hv ((span_under h hl x).2 hb v)
  obtain ⟨a1, a2, a3⟩ := (span_under h hl j).1 (some' j (by omega) (by omega))
  obtain ⟨b1, b2, b3⟩ := (span_under h hl n.l).1 (some' n.l (by omega) (by omega))
  obtain ⟨c1, c2, c3⟩ := (span_under h hl n.r).1 (some' n.r (by omega) (by omega))
  have e := under_kids h hj hf
  have k1 := a3 _ ((e _).2 (.inl b1))
  have k2 := a3 _ ((e _).2 (.inl b2))
  have k3 := a3 _ ((e _).2 (.inr c1))
  have k4 := a3 _ ((e _).2 (.inr c2))
  constructor
  · rcases (e _).1 a1 with q | q
    · have := b3 _ q; omega
    · have := c3 _ q; omega
  · rcases (e _).1 a2 with q | q
    · have := b3 _ q; omega
    · have := c3 _ q; omega
theorem span_leaf {t : List Nd} {ft : Int} (h : shapeOk t ft = true) (hl : t.length ≤ 31) {j : Nat} {n : Nd} (hj : t[j]? = some n) (hf : n.f = -1) : spanL t j = (n.v, n.v, true) := by
  have hs := span_under h hl j
  have e := under_leaf h hj hf
  cases hb : (spanL t j).2.2 with
  | false => exact absurd ((e _).2 rfl) (hs.2 hb n.v)
  | true =>
    obtain ⟨a1, a2, _⟩ := hs.1 hb
    have := (e _).1 a1
    have := (e _).1 a2
    refine Prod.ext ?_ (Prod.ext ?_ ?_) <;> simp_all
end Go.H.S
namespace Go.H.S
open Go Go.Proofs Go.H
set_option linter.unusedSimpArgs false
set_option linter.unusedVariables false


/-- Where a row ends, from x on: the leaf. g decides at each inner node: go left. -/
inductive Ends (t : List Nd) (g : Nd → Bool) : Int → Nat → Prop
  | leaf {j : Nat} {n : Nd} : t[j]? = some n → n.f = -1 → Ends t g j j
  | left {j k : Nat} {n : Nd} : t[j]? = some n → n.f ≠ -1 → g n = true → Ends t g n.l k → Ends t g j k
  | right {j k : Nat} {n : Nd} : t[j]? = some n → n.f ≠ -1 → g n = false → Ends t g n.r k → Ends t g j k
theorem ends_under {t : List Nd} {ft : Int} (h : shapeOk t ft = true) {g : Nd → Bool} {x : Int} {k : Nat} (he : Ends t g x k) : Under t x (vAt t k) := by
  induction he with
  | @leaf j n hj hf => exact (under_leaf h hj hf _).2 (by simp [vAt, hj])
  | left hj hf _ _ ih => exact (under_kids h hj hf _).2 (.inl ih)
  | right hj hf _ _ ih => exact (under_kids h hj hf _).2 (.inr ih)
/-- Two rows that part at nodes of the feature alone, the first to the left there, the second to the right. -/
theorem ends_rise {t : List Nd} {ft : Int} (h : shapeOk t ft = true) (hl : t.length ≤ 31) {f : Int} {g g' : Nd → Bool} (hg : ∀ n, n.f ≠ f → g n = g' n) (hg2 : ∀ n, n.f = f → g' n = true → g n = true)
    (hfol : ∀ (j : Nat) (n : Nd), t[j]? = some n → n.f ≠ -1 → n.f = f → (spanL t n.l).2.1 ≤ (spanL t n.r).1) {x : Int} {k : Nat} (he : Ends t g x k) : ∀ {k' : Nat}, Ends t g' x k' → vAt t k ≤ vAt t k' := by
  have sp : ∀ {y v : Int}, Under t y v → (spanL t y).1 ≤ v ∧ v ≤ (spanL t y).2.1 := fun {y v} hv => by
    cases hb : (spanL t y).2.2 with
    | true => exact ((span_under h hl y).1 hb).2.2 v hv
    | false => exact absurd hv ((span_under h hl y).2 hb v)
  induction he with
  | @leaf j n hj hf =>
    intro k' he'
    generalize hx : (j : Int) = x at he'
    cases he' with
    | @leaf _ n' hj' hf' =>
      obtain rfl : j = k' := by omega
      exact Int.le_refl _
    | @left j' _ n' hj' hf' _ _ =>
      obtain rfl : j = j' := by omega
      rw [hj] at hj'; cases hj'; exact absurd hf hf'
    | @right j' _ n' hj' hf' _ _ =>
      obtain rfl : j = j' := by omega
      rw [hj] at hj'; cases hj'; exact absurd hf hf'
  | @left j k n hj hf hgn he ih =>
    intro k' he'
    generalize hx : (j : Int) = x at he'
    cases he' with
    | @leaf _ n' hj' hf' =>
      obtain rfl : j = k' := by omega
      rw [hj] at hj'; cases hj'; exact absurd hf' hf
    | @left j' _ n' hj' hf' _ he2 =>
      obtain rfl : j = j' := by omega
      rw [hj] at hj'; cases hj'; exact ih he2
    | @right j' _ n' hj' hf' hg' he2 =>
      obtain rfl : j = j' := by omega
      rw [hj] at hj'; cases hj'
      have hff : n.f = f := by
        rcases Decidable.em (n.f = f) with q | q
        · exact q
        · rw [hg n q, hg'] at hgn; cases hgn
      have h1 := sp (ends_under h he)
      have h2 := sp (ends_under h he2)
      have h3 := hfol j n hj hf hff
      omega
  | @right j k n hj hf hgn he ih =>
    intro k' he'
    generalize hx : (j : Int) = x at he'
    cases he' with
    | @leaf _ n' hj' hf' =>
      obtain rfl : j = k' := by omega
      rw [hj] at hj'; cases hj'; exact absurd hf' hf
    | @left j' _ n' hj' hf' hg' he2 =>
      obtain rfl : j = j' := by omega
      rw [hj] at hj'; cases hj'
      rcases Decidable.em (n.f = f) with q | q
      · rw [hg2 n q hg'] at hgn; cases hgn
      · rw [hg n q, hg'] at hgn; cases hgn
    | @right j' _ n' hj' hf' _ he2 =>
      obtain rfl : j = j' := by omega
      rw [hj] at hj'; cases hj'; exact ih he2
/-- Two rows that part at nodes of the feature alone, the first to the left there, the second to the right: the sign turned. -/
theorem ends_fall {t : List Nd} {ft : Int} (h : shapeOk t ft = true) (hl : t.length ≤ 31) {f : Int} {g g' : Nd → Bool} (hg : ∀ n, n.f ≠ f → g n = g' n) (hg2 : ∀ n, n.f = f → g' n = true → g n = true)
    (hfol : ∀ (j : Nat) (n : Nd), t[j]? = some n → n.f ≠ -1 → n.f = f → (spanL t n.r).2.1 ≤ (spanL t n.l).1) {x : Int} {k : Nat} (he : Ends t g x k) : ∀ {k' : Nat}, Ends t g' x k' → vAt t k' ≤ vAt t k := by
  have sp : ∀ {y v : Int}, Under t y v → (spanL t y).1 ≤ v ∧ v ≤ (spanL t y).2.1 := fun {y v} hv => by
    cases hb : (spanL t y).2.2 with
    | true => exact ((span_under h hl y).1 hb).2.2 v hv
    | false => exact absurd hv ((span_under h hl y).2 hb v)
  induction he with
  | @leaf j n hj hf =>
    intro k' he'
    generalize hx : (j : Int) = x at he'
    cases he' with
    | @leaf _ n' hj' hf' =>
      obtain rfl : j = k' := by omega
      exact Int.le_refl _
    | @left j' _ n' hj' hf' _ _ =>
      obtain rfl : j = j' := by omega
      rw [hj] at hj'; cases hj'; exact absurd hf hf'
    | @right j' _ n' hj' hf' _ _ =>
      obtain rfl : j = j' := by omega
      rw [hj] at hj'; cases hj'; exact absurd hf hf'
  | @left j k n hj hf hgn he ih =>
    intro k' he'
    generalize hx : (j : Int) = x at he'
    cases he' with
    | @leaf _ n' hj' hf' =>
      obtain rfl : j = k' := by omega
      rw [hj] at hj'; cases hj'; exact absurd hf' hf
    | @left j' _ n' hj' hf' _ he2 =>
      obtain rfl : j = j' := by omega
      rw [hj] at hj'; cases hj'; exact ih he2
    | @right j' _ n' hj' hf' hg' he2 =>
      obtain rfl : j = j' := by omega
      rw [hj] at hj'; cases hj'
      have hff : n.f = f := by
        rcases Decidable.em (n.f = f) with q | q
        · exact q
        · rw [hg n q, hg'] at hgn; cases hgn
      have h1 := sp (ends_under h he)
      have h2 := sp (ends_under h he2)
      have h3 := hfol j n hj hf hff
      omega
  | @right j k n hj hf hgn he ih =>
    intro k' he'
    generalize hx : (j : Int) = x at he'
    cases he' with
    | @leaf _ n' hj' hf' =>
      obtain rfl : j = k' := by omega
      rw [hj] at hj'; cases hj'; exact absurd hf' hf
    | @left j' _ n' hj' hf' hg' he2 =>
      obtain rfl : j = j' := by omega
      rw [hj] at hj'; cases hj'
      rcases Decidable.em (n.f = f) with q | q
      · rw [hg2 n q hg'] at hgn; cases hgn
      · rw [hg n q, hg'] at hgn; cases hgn
    | @right j' _ n' hj' hf' _ he2 =>
      obtain rfl : j = j' := by omega
      rw [hj] at hj'; cases hj'; exact ih he2
end Go.H.S
namespace Go.H.S
open Go Go.Proofs Go.H
attribute [local irreducible] Tri FnSpec FnSpecM FnSpecX FnSpecJ FnSpecB
set_option maxRecDepth 100000
set_option linter.unusedSimpArgs false
set_option linter.unusedVariables false


def rowAt (row : List Int) (f : Int) : Int := (row[f.toNat]?).getD 0
def goL (row : List Int) (n : Nd) : Bool := iLe (rowAt row n.f) n.c
def routeL (t : List Nd) (row : List Int) : Nat → Int → Option (List Int)
  | 0, _ => none
  | m + 1, x => if 0 ≤ x then match t[x.toNat]? with
      | none => none
      | some n => if n.f = -1 then some [x] else if 0 ≤ n.f ∧ n.f ≤ (row.length : Int) - 1 then (routeL t row m (if goL row n = true then n.l else n.r)).map (x :: ·) else none
    else none

def resR : Option (List Int) → AV
  | none => .c (.nl 0)
  | some _ => .c (.ref 0 0 none)
def entsR : Option (List Int) → List (Nat × Ent)
  | none => []
  | some l => [(0, .arr t_int 1 0 .own (eL cI l))]
def numR : Option (List Int) → Nat
  | none => 0
  | some _ => 1
set_option maxHeartbeats 1000000 in
theorem impl_route_spec (t : List Nd) (row : List Int) (hl : t.length ≤ 1048576) (hr : row.length ≤ 1048576) : FnSpecX PR f_impl_route [aT t, aIs row] (Option (List Int)) (fun x => x = routeL t row (t.length + 1) 0) resR entsR numR := by
  refine FnSpecX.intro hT p_impl_route rfl (by kernel_rfl) n_impl_route rfl ?_
  (conv => whnf)
  refine tri_loop hT [1, 2, 5, 6, 12, 13] (α := Nat × Int × List Int) (fun x => { t := [(1, aIs row), (2, .c (.ptr 0 0)), (5, .c (.ref 1 0 none)), (6, ai x.2.1), (12, ai (t.length + 1 : Nat)), (13, ai x.1)], h := [(0, .box t_impl_Tree (cTr t)), (1, .arr t_int 1 0 .own (eL cI x.2.2))], n := 2, N := 57 })
    (fun x => x.1 ≤ t.length + 1 ∧ x.2.2.length ≤ x.1 ∧ (routeL t row (t.length + 1 - x.1) x.2.1).map (x.2.2 ++ ·) = routeL t row (t.length + 1) 0) (fun x => t.length + 1 - x.1) (0, 0, []) (by ((conv => whnf); simp only [St.mk.injEq, List.cons.injEq, Prod.mk.injEq, AV.c.injEq, AV.agg.injEq, AV.tup.injEq, CV.d.injEq, D.int.injEq, D.bool.injEq, D.str.injEq, D.sl.injEq, Ent.arr.injEq, Ent.box.injEq, true_and, and_true, and_self, nInt_eq, Int.natCast_zero, dLen_eL, sLen_eq, eL_nil]); exact wAdd64 (by omega) (by omega)) ⟨by simp, by simp, by simp⟩ ?_
  intro ⟨k, x, o⟩ ⟨hk, ho, he⟩
  dsimp only at hk ho he
  (conv => whnf)
  refine ifB_i (fun h1 => ?_) (fun h1 => ?_) <;> (conv => whnf) <;> simp only [nInt_eq, Int.natCast_zero, dLen_eL, sLen_eq, nOf_eq, Int.toNat_natCast, nAdd_eq, nSub_eq, dLen_nil, dLen_cons, iLt_t, iLt_f, iLe_t, iLe_f, iEq_t, iEq_f, sEq_t, sEq_f, bNot_t, bNot_f, bAnd_t, bEq_t, bEq_f, Bool.not_eq_true, Bool.not_eq_false, Bool.true_eq_false, Bool.false_eq_true] at h1
  · obtain ⟨m, hm⟩ : ∃ m, t.length + 1 - k = m + 1 := ⟨t.length - k, by omega⟩
    rw [hm, routeL] at he
    rw [show nInt (dLen (eL cN t)) = (t.length : Int) by simp]
    rw [show wSub .i64 (t.length : Int) 1 = (t.length : Int) - 1 from wSub64 (by omega) (by omega)]
    refine .inl ⟨_, _, _, impl_within_spec _ _ _, rfl, ?_⟩
    (conv => whnf)
    refine ifB_i (fun h2 => ?_) (fun h2 => ?_) <;> (conv => whnf)
    · simp at h2
      refine ⟨none, ?_, ?_⟩
      · rw [← he]
        split
        · rename_i h3
          have : t[x.toNat]? = none := List.getElem?_eq_none (by have := h2 h3; omega)
          simp [this]
        · rfl
      · (conv => whnf)
        rfl
    · simp at h2
      obtain ⟨j, rfl⟩ : ∃ j : Nat, x = j := ⟨x.toNat, by omega⟩
      obtain ⟨n, hn⟩ := get_lt (show j < t.length by omega)
      rw [if_pos h2.1, show (j : Int).toNat = j by simp, hn] at he
      dsimp only at he
      refine idx_at (by simp) hn ?_
      (conv => whnf)
      refine And.intro (by unfold Fits; simp; omega) ?_
      (conv => whnf)
      refine .inl ⟨_, _, _, impl_isLeaf_spec n, rfl, ?_⟩
      (conv => whnf)
      refine ifB_i (fun h3 => ?_) (fun h3 => ?_) <;> (conv => whnf) <;> simp only [nInt_eq, Int.natCast_zero, dLen_eL, sLen_eq, nOf_eq, Int.toNat_natCast, nAdd_eq, nSub_eq, dLen_nil, dLen_cons, iLt_t, iLt_f, iLe_t, iLe_f, iEq_t, iEq_f, sEq_t, sEq_f, bNot_t, bNot_f, bAnd_t, bEq_t, bEq_f, Bool.not_eq_true, Bool.not_eq_false, Bool.true_eq_false, Bool.false_eq_true] at h3
      · rw [if_pos h3] at he
        refine ⟨some (o ++ [(j : Int)]), he, ?_⟩
        ((conv => whnf); simp only [St.mk.injEq, List.cons.injEq, Prod.mk.injEq, AV.c.injEq, AV.agg.injEq, AV.tup.injEq, CV.d.injEq, D.int.injEq, D.bool.injEq, D.str.injEq, D.sl.injEq, Ent.arr.injEq, Ent.box.injEq, true_and, and_true, and_self, nInt_eq, Int.natCast_zero, dLen_eL, sLen_eq])
        refine ⟨rfl, ?_, rfl⟩
        rw [entsR, ← eL_app]
        rfl
      · rw [if_neg h3] at he
        refine .inl ⟨_, _, _, impl_within_spec _ _ _, rfl, ?_⟩
        (conv => whnf)
        have er : wSub .i64 (nInt (dLen (eL cI row))) 1 = (row.length : Int) - 1 := by rw [show nInt (dLen (eL cI row)) = (row.length : Int) by simp]; exact wSub64 (by omega) (by omega)
        refine ifB_i (fun h4 => ?_) (fun h4 => ?_) <;> (conv => whnf)
        · rw [er] at h4
          simp at h4
          refine ⟨none, ?_, ?_⟩
          · rw [if_neg (by omega)] at he
            exact he
          · (conv => whnf)
            rfl
        · rw [er] at h4
          simp at h4
          rw [if_pos (by omega)] at he
          obtain ⟨q, hq⟩ : ∃ q : Nat, n.f = q := ⟨n.f.toNat, by omega⟩
          obtain ⟨v, hv⟩ := get_lt (show q < row.length by omega)
          have hg : goL row n = iLe v n.c := by simp [goL, rowAt, hq, hv]
          refine tri_conf hT hmix (by kernel_rfl) ?_
          (conv => whnf)
          repeat' (first | (refine And.intro (fun q => ?_) (fun q => ?_) <;> cases q <;> (conv => whnf)) | fail)
          rw [hq]
          refine idx_at (by simp) hv ?_
          (conv => whnf)
          repeat' (first | (refine And.intro (fun q => ?_) (fun q => ?_) <;> cases q <;> (conv => whnf)) | fail)
          have hm2 : t.length + 1 - (k + 1) = m := by omega
          rw [hg] at he
          refine ifB_i (fun h5 => ?_) (fun h5 => ?_) <;> (conv => whnf)
          · refine ⟨(k + 1, n.l, o ++ [(j : Int)]), by dsimp only; omega, ⟨by dsimp only; omega, by simp; omega, ?_⟩, ?_⟩
            · dsimp only
              rw [hm2, ← he, if_pos h5]
              cases routeL t row m n.l <;> simp
            · ((conv => whnf); simp only [St.mk.injEq, List.cons.injEq, Prod.mk.injEq, AV.c.injEq, AV.agg.injEq, AV.tup.injEq, CV.d.injEq, D.int.injEq, D.bool.injEq, D.str.injEq, D.sl.injEq, Ent.arr.injEq, Ent.box.injEq, true_and, and_true, and_self, nInt_eq, Int.natCast_zero, dLen_eL, sLen_eq])
              refine ⟨wI (show k < t.length + 1 by omega) (by omega), ?_⟩
              rw [← eL_app]
              rfl
          · refine ⟨(k + 1, n.r, o ++ [(j : Int)]), by dsimp only; omega, ⟨by dsimp only; omega, by simp; omega, ?_⟩, ?_⟩
            · dsimp only
              rw [hm2, ← he, if_neg (by simp [h5])]
              cases routeL t row m n.r <;> simp
            · ((conv => whnf); simp only [St.mk.injEq, List.cons.injEq, Prod.mk.injEq, AV.c.injEq, AV.agg.injEq, AV.tup.injEq, CV.d.injEq, D.int.injEq, D.bool.injEq, D.str.injEq, D.sl.injEq, Ent.arr.injEq, Ent.box.injEq, true_and, and_true, and_self, nInt_eq, Int.natCast_zero, dLen_eL, sLen_eq])
              refine ⟨wI (show k < t.length + 1 by omega) (by omega), ?_⟩
              rw [← eL_app]
              rfl
  · have : t.length + 1 - k = 0 := by omega
    rw [this] at he
    refine ⟨none, he, ?_⟩
    (conv => whnf)
    rfl

def endL (t : List Nd) (row : List Int) : Int := match routeL t row (t.length + 1) 0 with
  | some l => l.getLast?.getD (-1)
  | none => -1
def evalL (t : List Nd) (row : List Int) : Int := if endL t row < 0 then 0 else match t[(endL t row).toNat]? with | some n => n.v | none => 0
theorem routeL_ends {t : List Nd} {row : List Int} : ∀ {m : Nat} {x : Int} {l : List Int}, routeL t row m x = some l → ∃ (k : Nat) (n : Nd), l.getLast? = some (k : Int) ∧ t[k]? = some n ∧ n.f = -1 ∧ Ends t (goL row) x k ∧ 0 < l.length ∧ l.length ≤ m
  | 0, x, l, h => by simp [routeL] at h
  | m + 1, x, l, h => by
    simp only [routeL] at h
    split at h
    · rename_i h0
      split at h
      · cases h
      · rename_i n hn
        obtain ⟨j, rfl⟩ : ∃ j : Nat, x = j := ⟨x.toNat, by omega⟩
        rw [show (j : Int).toNat = j by simp] at hn
        split at h
        · rename_i hf
          cases h
          exact ⟨j, n, by simp, hn, hf, .leaf hn hf, by simp, by simp⟩
        · rename_i hf
          split at h
          · simp only [Option.map_eq_some_iff] at h
            obtain ⟨r, hr, rfl⟩ := h
            obtain ⟨k, n', h1, h2, h3, h4, h5, h6⟩ := routeL_ends hr
            refine ⟨k, n', ?_, h2, h3, ?_, by simp, by simp; omega⟩
            · cases r with
              | nil => simp at h5
              | cons a b => simpa [List.getLast?_cons_cons] using h1
            · cases hg : goL row n with
              | true => rw [hg] at h4; exact .left hn hf hg h4
              | false => rw [hg] at h4; exact .right hn hf hg h4
          · cases h
    · cases h

theorem impl_RouteTo_spec (t : List Nd) (row : List Int) (hl : t.length ≤ 1048576) (hr : row.length ≤ 1048576) : FnSpec PR f_impl_RouteTo [aT t, aIs row] (ai (endL t row)) [] 0 := by
  refine FnSpec.intro hT p_impl_RouteTo rfl (by kernel_rfl) n_impl_RouteTo rfl ?_
  conv => whnf
  refine .inr ⟨_, _, _, _, _, impl_route_spec t row hl hr, fun x hx => ⟨by cases x <;> rfl, ?_⟩⟩
  cases x with
  | none =>
    (conv => whnf)
    rw [endL, ← hx]
  | some l =>
    (conv => whnf)
    obtain ⟨k, n, h1, h2, h3, h4, h5, h6⟩ := routeL_ends hx.symm
    have he : endL t row = (k : Int) := by rw [endL, ← hx]; simp [h1]
    rw [he]
    rw [show nInt (lenRE (eL cI l) none) = (l.length : Int) by simp [lenRE]]
    refine ifB_i (fun h7 => ?_) (fun h7 => ?_) <;> (conv => whnf) <;> simp only [nInt_eq, Int.natCast_zero, dLen_eL, sLen_eq, nOf_eq, Int.toNat_natCast, nAdd_eq, nSub_eq, dLen_nil, dLen_cons, iLt_t, iLt_f, iLe_t, iLe_f, iEq_t, iEq_f, sEq_t, sEq_f, bNot_t, bNot_f, bAnd_t, bEq_t, bEq_f, Bool.not_eq_true, Bool.not_eq_false, Bool.true_eq_false, Bool.false_eq_true] at h7
    · omega
    · rw [show nInt (lenRE (eL cI l) none) = (l.length : Int) by simp [lenRE]]
      rw [show wSub .i64 (l.length : Int) 1 = ((l.length - 1 : Nat) : Int) by rw [wSub64] <;> omega]
      refine ref_at rfl (by simp; omega) ?_
      (conv => whnf)
      refine ld_at (k := l.length - 1) (by simp) (by rw [← List.getLast?_eq_getElem?]; exact h1) ?_
      (conv => whnf)

theorem impl_EvalTree_spec (t : List Nd) (row : List Int) (hl : t.length ≤ 1048576) (hr : row.length ≤ 1048576) : FnSpec PR f_impl_EvalTree [aT t, aIs row] (ai (evalL t row)) [] 0 := by
  refine FnSpec.intro hT p_impl_EvalTree rfl (by kernel_rfl) n_impl_EvalTree rfl ?_
  conv => whnf
  refine .inl ⟨_, _, _, impl_RouteTo_spec t row hl hr, rfl, ?_⟩
  (conv => whnf)
  refine ifB_i (fun h1 => ?_) (fun h1 => ?_) <;> (conv => whnf) <;> simp only [nInt_eq, Int.natCast_zero, dLen_eL, sLen_eq, nOf_eq, Int.toNat_natCast, nAdd_eq, nSub_eq, dLen_nil, dLen_cons, iLt_t, iLt_f, iLe_t, iLe_f, iEq_t, iEq_f, sEq_t, sEq_f, bNot_t, bNot_f, bAnd_t, bEq_t, bEq_f, Bool.not_eq_true, Bool.not_eq_false, Bool.true_eq_false, Bool.false_eq_true] at h1
  · rw [evalL, if_pos h1]
  · have hz : ∃ (k : Nat) (n : Nd), endL t row = k ∧ t[k]? = some n := by
      unfold endL at h1 ⊢
      cases hx : routeL t row (t.length + 1) 0 with
      | none => rw [hx] at h1; simp at h1
      | some l =>
        obtain ⟨k, n, h2, h3, _⟩ := routeL_ends hx
        exact ⟨k, n, by simp [h2], h3⟩
    obtain ⟨k, n, hk, hn⟩ := hz
    rw [hk]
    refine idx_at (by simp) hn ?_
    (conv => whnf)
    rw [evalL, hk, if_neg (by omega), show (k : Int).toNat = k by simp, hn]
end Go.H.S
namespace Go.H.S
open Go Go.Proofs Go.H
set_option maxRecDepth 100000
set_option linter.unusedSimpArgs false
set_option linter.unusedVariables false


theorem compactUpTo_sub (xs : List Int) : ∀ i, i ≤ xs.length → (Go.Lib.compactUpTo xs.toArray i).Sublist (xs.take i)
  | 0, _ => by simp [Go.Lib.compactUpTo]
  | i + 1, h => by
    obtain ⟨x, hx⟩ := get_lt (show i < xs.length by omega)
    rw [compactUpTo_succ xs i x hx, List.take_add_one, hx]
    refine (compactUpTo_sub xs i (by omega)).append ?_
    split <;> simp
theorem compact_sub (xs : List Int) : (Go.Lib.compact xs).Sublist xs := by
  have := compactUpTo_sub xs xs.length (Nat.le_refl _)
  rwa [List.take_length] at this
theorem compactUpTo_mem (xs : List Int) : ∀ i, i ≤ xs.length → ∀ x, x ∈ xs.take i → x ∈ Go.Lib.compactUpTo xs.toArray i
  | 0, _, x, hx => by simp at hx
  | i + 1, h, x, hx => by
    obtain ⟨y, hy⟩ := get_lt (show i < xs.length by omega)
    rw [compactUpTo_succ xs i y hy]
    rw [List.take_add_one, hy] at hx
    rcases List.mem_append.1 hx with hx | hx
    · exact List.mem_append_left _ (compactUpTo_mem xs i (by omega) x hx)
    · simp at hx
      subst hx
      cases hk : Go.Lib.keeps xs.toArray i with
      | true => simp
      | false =>
        have hi : i ≠ 0 ∧ xs.toArray[i]! = xs.toArray[i - 1]! := by
          simp [Go.Lib.keeps] at hk
          refine ⟨hk.1, ?_⟩
          simpa using hk.2
        obtain ⟨z, hz⟩ := get_lt (show i - 1 < xs.length by omega)
        have e1 : xs.toArray[i]! = x := by
          rw [getElem!_pos _ i (by simp; omega)]
          simpa using (List.getElem?_eq_some_iff.1 hy).2
        have e2 : xs.toArray[i - 1]! = z := by
          rw [getElem!_pos _ (i - 1) (by simp; omega)]
          simpa using (List.getElem?_eq_some_iff.1 hz).2
        have : z = x := by rw [← e1, ← e2, hi.2]
        subst this
        refine List.mem_append_left _ (compactUpTo_mem xs i (by omega) z ?_)
        exact List.mem_of_getElem? (i := i - 1) (by rw [List.getElem?_take_of_lt (by omega)]; exact hz)
theorem mem_distinctL {xs : List Int} {x : Int} (h : x ∈ xs) : x ∈ distinctL xs := by
  have h1 : x ∈ sortL xs := by simpa [sortL] using h
  have := compactUpTo_mem (sortL xs) (sortL xs).length (Nat.le_refl _) x (by rw [List.take_length]; exact h1)
  exact this
theorem distinctL_sorted (xs : List Int) : (distinctL xs).Pairwise (· ≤ ·) := List.Pairwise.sublist (compact_sub _) (sortL_sorted xs)
theorem mem_cutsL {f : Int} : ∀ {t : List Nd} {n : Nd}, n ∈ t → n.f ≠ -1 → n.f = f → n.c ∈ cutsL f t
  | [], n, h, _, _ => by cases h
  | x :: r, n, h, hf, he => by
    simp only [cutsL]
    rcases List.mem_cons.1 h with rfl | h
    · rw [if_pos (by simp [isF, he]; omega)]
      simp
    · have := mem_cutsL h hf he
      split
      · exact List.mem_cons_of_mem _ this
      · exact this

def binL (l : List Int) (x : Int) : Nat := l.countP fun c => iLt c x
theorem binL_lt : ∀ {l : List Int}, l.Pairwise (· ≤ ·) → ∀ {x : Int} {m : Nat} {v : Int}, l[m]? = some v → (v < x ↔ m < binL l x)
  | [], _, x, m, v, h => by simp at h
  | a :: r, hp, x, m, v, h => by
    rw [List.pairwise_cons] at hp
    have hz : ¬ a < x → binL r x = 0 := fun ha => by
      rw [binL, List.countP_eq_zero]
      intro b hb hlt
      have := hp.1 b hb
      simp [iLt] at hlt
      omega
    have e : binL (a :: r) x = binL r x + (if iLt a x = true then 1 else 0) := by simp [binL, List.countP_cons]
    by_cases ha : a < x
    · rw [e, if_pos (by simp [iLt, ha])]
      cases m with
      | zero =>
        simp at h
        subst h
        omega
      | succ m =>
        have := binL_lt hp.2 (x := x) (show r[m]? = some v by simpa using h)
        omega
    · rw [e, hz ha, if_neg (by simp [iLt, ha])]
      cases m with
      | zero =>
        simp at h
        subst h
        omega
      | succ m =>
        have := binL_lt hp.2 (x := x) (show r[m]? = some v by simpa using h)
        rw [hz ha] at this
        omega

theorem routeL_same {t : List Nd} {row row' : List Int} (hlen : row.length = row'.length) (hg : ∀ n ∈ t, n.f ≠ -1 → 0 ≤ n.f → n.f < row.length → goL row n = goL row' n) : ∀ (m : Nat) (x : Int), routeL t row m x = routeL t row' m x
  | 0, x => rfl
  | m + 1, x => by
    simp only [routeL]
    split
    · split
      · rfl
      · rename_i n hn
        split
        · rfl
        · rename_i hf
          rw [← hlen]
          split
          · rename_i hr
            rw [hg n (List.mem_of_getElem? hn) hf hr.1 (by omega), routeL_same hlen hg m]
          · rfl
    · rfl
/-- Rows that part at no cut. -/
theorem steps_law {t : List Nd} {row : List Int} {f : Nat} {x y : Int} (hf : f < row.length) (hx : row[f]? = some x) (hx2 : x ≤ 9223372036854775807)
    (hy : (∃ z, (stepsAtL t f)[binL (stepsAtL t f) x]? = some z ∧ y = z) ∨ ((stepsAtL t f).length ≤ binL (stepsAtL t f) x ∧ y = 9223372036854775807)) : evalL t (row.set f y) = evalL t row := by
  have hr : ∀ m x, routeL t (row.set f y) m x = routeL t row m x := by
    refine routeL_same (by simp) fun n hn hf1 h0 hlt => ?_
    unfold goL rowAt
    by_cases he : n.f = f
    · rw [he]
      simp only [Int.toNat_natCast, List.getElem?_set_self hf, hx, Option.getD_some]
      have hm : n.c ∈ stepsAtL t f := mem_distinctL (mem_cutsL hn hf1 he)
      obtain ⟨m, hm⟩ := List.mem_iff_getElem?.1 hm
      have hb := binL_lt (distinctL_sorted (cutsL f t)) (x := x) hm
      have hml := (List.getElem?_eq_some_iff.1 hm).1
      rw [show distinctL (cutsL f t) = stepsAtL t f from rfl] at hb
      have key : y ≤ n.c ↔ x ≤ n.c := by
        rcases hy with ⟨z, hz, rfl⟩ | ⟨hz, rfl⟩
        · have hb2 := binL_lt (l := stepsAtL t f) (distinctL_sorted (cutsL f t)) (x := x) hz
          have hp : (stepsAtL t f).Pairwise (· ≤ ·) := distinctL_sorted (cutsL f t)
          have hzl := (List.getElem?_eq_some_iff.1 hz).1
          have hle : ∀ {a b : Nat} {u v : Int}, (stepsAtL t f)[a]? = some u → (stepsAtL t f)[b]? = some v → a ≤ b → u ≤ v := fun {a b u v} ha hb hab => by
            rcases Nat.lt_or_ge a b with q | q
            · have h1 := List.pairwise_iff_getElem.1 hp a b (List.getElem?_eq_some_iff.1 ha).1 (List.getElem?_eq_some_iff.1 hb).1 q
              rw [(List.getElem?_eq_some_iff.1 ha).2, (List.getElem?_eq_some_iff.1 hb).2] at h1
              exact h1
            · obtain rfl : a = b := by omega
              rw [ha] at hb
              cases hb
              exact Int.le_refl _
          constructor
          · intro h1
            by_cases h2 : x ≤ n.c
            · exact h2
            · have h3 := hb.1 (by omega)
              have h4 := hle hm hz (by omega)
              have h5 := fun q => Nat.lt_irrefl _ (hb2.1 q)
              omega
          · intro h1
            have h3 : ¬ m < binL (stepsAtL t f) x := fun q => by have := hb.2 q; omega
            exact hle hz hm (by omega)
        · constructor
          · intro h1; omega
          · intro h1
            have := hb.2 (by omega)
            omega
      simp only [iLe]
      exact decide_eq_decide.2 key
    · rw [List.getElem?_set_ne (by omega)]
  unfold evalL endL
  rw [hr]
end Go.H.S
