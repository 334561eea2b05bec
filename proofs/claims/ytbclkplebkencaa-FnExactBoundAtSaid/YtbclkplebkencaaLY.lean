/- Library, part NG: grids that are right; the rows at a node. -/
import Derived.Test.YtbclkplebkencaaLNE
import Derived.Test.YtbclkplebkencaaLNA
import Derived.Test.YtbclkplebkencaaShelf
import Derived.Sort.OwnSortedInts
namespace Go.H.S
open Go Go.Proofs Go.H
attribute [local irreducible] Tri FnSpec FnSpecM FnSpecX FnSpecJ
set_option maxRecDepth 100000
set_option linter.unusedSimpArgs false
set_option linter.unusedVariables false


def decP (x : Int) : Prop := -2147483647 ≤ x ∧ x ≤ 2147483647
def cutsP (cuts : List Int) : Prop := (∀ (j : Nat) (a b : Int), cuts[j]? = some a → cuts[j + 1]? = some b → a < b) ∧ cuts.length ≤ 7 ∧ ∀ c ∈ cuts, decP c
noncomputable def cutsOk (cuts : List Int) : Bool := @decide (cutsP cuts) (Classical.propDecidable _)
theorem cutsOk_t {cuts : List Int} (h : cutsP cuts) : cutsOk cuts = true := by unfold cutsOk; exact @decide_eq_true _ (Classical.propDecidable _) h
theorem cutsOk_f {cuts : List Int} (h : ¬ cutsP cuts) : cutsOk cuts = false := by unfold cutsOk; exact @decide_eq_false _ (Classical.propDecidable _) h
theorem cutsOk_iff {cuts : List Int} : cutsOk cuts = true ↔ cutsP cuts := by
  constructor
  · intro h
    rcases Classical.em (cutsP cuts) with q | q
    · exact q
    · rw [cutsOk_f q] at h; cases h
  · exact cutsOk_t

theorem impl_areDecimals_1_spec (x : Int) : FnSpec PR f_impl_areDecimals_1 [ai x] (ab (bNot (decide (-2147483647 ≤ x ∧ x ≤ 2147483647)))) [] 0 := by
  refine FnSpec.intro hT p_impl_areDecimals_1 rfl (by kernel_rfl) n_impl_areDecimals_1 rfl ?_
  conv => whnf
  refine .inl ⟨_, _, _, impl_isDecimal_spec x, rfl, ?_⟩
  (conv => whnf)
theorem impl_areDecimals_spec (xs : List Int) (hl : xs.length ≤ 1048576) : FnSpec PR f_impl_areDecimals [aIs xs] (ab (bNot (xs.any fun x => bNot (decide (-2147483647 ≤ x ∧ x ≤ 2147483647))))) [] 0 := by
  refine FnSpec.intro hT p_impl_areDecimals rfl (by kernel_rfl) n_impl_areDecimals rfl ?_
  conv => whnf
  refine .inl ⟨_, _, _, slices_ContainsFunc_Lint_int_0 xs f_impl_areDecimals_1 (fun x => bNot (decide (-2147483647 ≤ x ∧ x ≤ 2147483647))) (fun x _ => impl_areDecimals_1_spec x) (by omega), rfl, ?_⟩
  (conv => whnf)

theorem impl_CutsOk_spec (cuts : List Int) (hl : cuts.length ≤ 1048576) : FnSpec PR f_impl_CutsOk [aIs cuts] (ab (cutsOk cuts)) [] 0 := by
  refine FnSpec.intro hT p_impl_CutsOk rfl (by kernel_rfl) n_impl_CutsOk rfl ?_
  conv => whnf
  refine tri_loop hT [0, 3] (α := Nat) (fun x => { t := [(0, aIs cuts), (3, ai (x + 1 : Nat))], h := [], n := 0, N := 27 })
    (fun x => (x + 1 ≤ cuts.length ∨ x = 0) ∧ ∀ (j : Nat) (a b : Int), j < x → cuts[j]? = some a → cuts[j + 1]? = some b → a < b) (fun x => cuts.length - x) 0 (by first | ((conv => whnf); done) | ((conv => whnf); rfl)) ⟨.inr rfl, fun j a b h => by omega⟩ ?_
  intro k ⟨hk, hr⟩
  (conv => whnf)
  refine ifB_i (fun h1 => ?_) (fun h1 => ?_) <;> (conv => whnf) <;> simp only [nInt_eq, Int.natCast_zero, dLen_eL, sLen_eq, nOf_eq, Int.toNat_natCast, nAdd_eq, nSub_eq, dLen_nil, dLen_cons, iLt_t, iLt_f, iLe_t, iLe_f, iEq_t, iEq_f, sEq_t, sEq_f, bNot_t, bNot_f, bAnd_t, bEq_t, bEq_f, Bool.not_eq_true, Bool.not_eq_false, Bool.true_eq_false, Bool.false_eq_true] at h1
  · obtain ⟨x, hx⟩ := get_lt (show k < cuts.length by omega)
    obtain ⟨y, hy⟩ := get_lt (show k + 1 < cuts.length by omega)
    have e1 : wSub .i64 ((k + 1 : Nat) : Int) 1 = (k : Int) := by rw [wSub64] <;> omega
    refine tri_every hT hmix [0, 3, 19] { t := [(0, aIs cuts), (3, ai (k + 1 : Nat)), (19, ab (iLe y x))], h := [], n := 0, N := 27 } rfl ?_ ?_
    · repeat' first
        | (refine anyV_one rfl ?_; (conv => whnf))
        | (refine anyV_two rfl ?_ ?_ <;> (conv => whnf))
        | (rw [e1]; (conv => whnf))
        | (refine idx_at (k := k + 1) rfl hy ?_; (conv => whnf))
        | (refine idx_at (k := k) rfl hx ?_; (conv => whnf))
        | (refine anyV_end rfl ?_; (conv => whnf); done)
    (conv => whnf)
    refine ifB_i (fun h2 => ?_) (fun h2 => ?_) <;> (conv => whnf) <;> simp only [nInt_eq, Int.natCast_zero, dLen_eL, sLen_eq, nOf_eq, Int.toNat_natCast, nAdd_eq, nSub_eq, dLen_nil, dLen_cons, iLt_t, iLt_f, iLe_t, iLe_f, iEq_t, iEq_f, sEq_t, sEq_f, bNot_t, bNot_f, bAnd_t, bEq_t, bEq_f, Bool.not_eq_true, Bool.not_eq_false, Bool.true_eq_false, Bool.false_eq_true] at h2
    · rw [cutsOk_f (fun hc => by have := hc.1 k x y hx hy; omega)]
    · refine ⟨k + 1, by omega, ⟨.inl (by omega), fun j a b hj ha hb => ?_⟩, ?_⟩
      · rcases Nat.lt_or_ge j k with q | q
        · exact hr j a b q ha hb
        · obtain rfl : j = k := by omega
          rw [hx] at ha; rw [hy] at hb
          cases ha; cases hb
          omega
      ((conv => whnf); simp only [St.mk.injEq, List.cons.injEq, Prod.mk.injEq, AV.c.injEq, AV.agg.injEq, AV.tup.injEq, CV.d.injEq, D.int.injEq, D.bool.injEq, D.str.injEq, D.sl.injEq, Ent.arr.injEq, Ent.box.injEq, true_and, and_true, and_self, nInt_eq, Int.natCast_zero, dLen_eL, sLen_eq, wI (show k + 1 < cuts.length by omega) (by omega)])
  · have hr2 : ∀ (j : Nat) (a b : Int), cuts[j]? = some a → cuts[j + 1]? = some b → a < b := fun j a b ha hb => hr j a b (by have := (List.getElem?_eq_some_iff.1 hb).1; omega) ha hb
    rw [show nInt (dLen (eL cI cuts)) = (cuts.length : Int) by simp]
    cases h7 : iLe (cuts.length : Int) 7
    · (conv => whnf)
      simp at h7
      rw [cutsOk_f (fun hc => by have := hc.2.1; omega)]
    · (conv => whnf)
      simp at h7
      refine .inl ⟨_, _, _, impl_areDecimals_spec cuts hl, rfl, ?_⟩
      (conv => whnf)
      rw [show cutsOk cuts = bNot (cuts.any fun x => bNot (decide (-2147483647 ≤ x ∧ x ≤ 2147483647))) from ?_]
      cases ha : cuts.any fun x => bNot (decide (-2147483647 ≤ x ∧ x ≤ 2147483647))
      · refine cutsOk_t ⟨hr2, by omega, fun c hc => ?_⟩
        rw [List.any_eq_false] at ha
        have := ha c hc
        simp [bNot] at this
        exact ⟨by omega, by omega⟩
      · refine cutsOk_f fun hc => ?_
        rw [List.any_eq_true] at ha
        obtain ⟨c, hc1, hc2⟩ := ha
        have := hc.2.2 c hc1
        simp [bNot] at hc2
        unfold decP at this
        omega

theorem spec_CutsOk_spec (cuts : List Int) (hl : cuts.length ≤ 1048576) : FnSpec PR f_spec_CutsOk [aIs cuts] (ab (cutsOk cuts)) [] 0 := by
  refine FnSpec.intro hT p_spec_CutsOk rfl (by kernel_rfl) n_spec_CutsOk rfl ?_
  conv => whnf
  refine tri_loop hT [0, 3] (α := Nat) (fun x => { t := [(0, aIs cuts), (3, ai x)], h := [], n := 0, N := 35 })
    (fun x => x ≤ cuts.length ∧ (∀ (j : Nat) (a b : Int), j + 1 < x → cuts[j]? = some a → cuts[j + 1]? = some b → a < b) ∧ ∀ (j : Nat) (a : Int), j < x → cuts[j]? = some a → decP a) (fun x => cuts.length - x) 0 (by first | ((conv => whnf); done) | ((conv => whnf); rfl)) ⟨Nat.zero_le _, fun j a b h => by omega, fun j a h => by omega⟩ ?_
  intro k ⟨hk, hr, hd⟩
  (conv => whnf)
  refine ifB_i (fun h1 => ?_) (fun h1 => ?_) <;> (conv => whnf) <;> simp only [nInt_eq, Int.natCast_zero, dLen_eL, sLen_eq, nOf_eq, Int.toNat_natCast, nAdd_eq, nSub_eq, dLen_nil, dLen_cons, iLt_t, iLt_f, iLe_t, iLe_f, iEq_t, iEq_f, sEq_t, sEq_f, bNot_t, bNot_f, bAnd_t, bEq_t, bEq_f, Bool.not_eq_true, Bool.not_eq_false, Bool.true_eq_false, Bool.false_eq_true] at h1
  · obtain ⟨x, hx⟩ := get_lt (show k < cuts.length by omega)
    refine tri_conf hT hmix (by kernel_rfl) ?_
    (conv => whnf)
    refine idx_at rfl hx ?_
    (conv => whnf)
    refine ⟨_, _, spec_l6Value_spec x, rfl, ?_⟩
    cases hd1 : decide (-2147483647 ≤ x ∧ x ≤ 2147483647)
    · have hdx : ¬ decP x := by unfold decP; simpa using hd1
      (conv => whnf)
      repeat' (first | (refine And.intro (fun q => ?_) (fun q => ?_) <;> cases q <;> (conv => whnf)) | fail)
      rw [cutsOk_f (fun hc => hdx (hc.2.2 x (List.mem_of_getElem? hx)))]
    · have hdx : decP x := by unfold decP; simpa using hd1
      have hd' : ∀ (j : Nat) (a : Int), j < k + 1 → cuts[j]? = some a → decP a := fun j a hj ha => by
        rcases Nat.lt_or_ge j k with q | q
        · exact hd j a q ha
        · obtain rfl : j = k := by omega
          rw [hx] at ha; cases ha; exact hdx
      (conv => whnf)
      cases k with
      | zero =>
        repeat' (first | (refine And.intro (fun q => ?_) (fun q => ?_) <;> cases q <;> (conv => whnf)) | fail)
        rw [show iLt 0 ((0 : Nat) : Int) = false from rfl]
        repeat' (first | (refine And.intro (fun q => ?_) (fun q => ?_) <;> cases q <;> (conv => whnf)) | fail)
        refine ⟨1, by omega, ⟨by omega, fun j a b h => by omega, hd'⟩, ?_⟩
        ((conv => whnf); simp only [St.mk.injEq, List.cons.injEq, Prod.mk.injEq, AV.c.injEq, AV.agg.injEq, AV.tup.injEq, CV.d.injEq, D.int.injEq, D.bool.injEq, D.str.injEq, D.sl.injEq, Ent.arr.injEq, Ent.box.injEq, true_and, and_true, and_self, nInt_eq, Int.natCast_zero, dLen_eL, sLen_eq])
        show wAdd .i64 ((0 : Nat) : Int) 1 = ((1 : Nat) : Int)
        rw [wAdd64] <;> omega
      | succ i =>
        repeat' (first | (refine And.intro (fun q => ?_) (fun q => ?_) <;> cases q <;> (conv => whnf)) | fail)
        rw [show iLt 0 ((i + 1 : Nat) : Int) = true from decide_eq_true (by omega)]
        obtain ⟨y, hy⟩ := get_lt (show i < cuts.length by omega)
        have e1 : wSub .i64 ((i + 1 : Nat) : Int) 1 = (i : Int) := by rw [wSub64] <;> omega
        repeat' (first | (refine And.intro (fun q => ?_) (fun q => ?_) <;> cases q <;> (conv => whnf)) | fail)
        refine idx_at e1 hy ?_
        (conv => whnf)
        repeat' (first | (refine And.intro (fun q => ?_) (fun q => ?_) <;> cases q <;> (conv => whnf)) | fail)
        refine idx_at rfl hx ?_
        (conv => whnf)
        repeat' (first | (refine And.intro (fun q => ?_) (fun q => ?_) <;> cases q <;> (conv => whnf)) | fail)
        cases h3 : iLe x y
        · simp at h3
          repeat' (first | (refine And.intro (fun q => ?_) (fun q => ?_) <;> cases q <;> (conv => whnf)) | fail)
          refine ⟨i + 1 + 1, by omega, ⟨by omega, fun j a b hj ha hb => ?_, hd'⟩, ?_⟩
          · rcases Nat.lt_or_ge (j + 1) (i + 1) with q | q
            · exact hr j a b q ha hb
            · obtain rfl : j = i := by omega
              rw [hy] at ha; rw [hx] at hb
              cases ha; cases hb
              exact h3
          ((conv => whnf); simp only [St.mk.injEq, List.cons.injEq, Prod.mk.injEq, AV.c.injEq, AV.agg.injEq, AV.tup.injEq, CV.d.injEq, D.int.injEq, D.bool.injEq, D.str.injEq, D.sl.injEq, Ent.arr.injEq, Ent.box.injEq, true_and, and_true, and_self, nInt_eq, Int.natCast_zero, dLen_eL, sLen_eq, wI (show i + 1 < cuts.length by omega) (by omega)])
        · simp at h3
          repeat' (first | (refine And.intro (fun q => ?_) (fun q => ?_) <;> cases q <;> (conv => whnf)) | fail)
          (conv => whnf)
          rw [cutsOk_f (fun hc => by have := hc.1 i y x hy hx; omega)]
  · obtain rfl : k = cuts.length := by omega
    rw [show nInt (dLen (eL cI cuts)) = (cuts.length : Int) by simp]
    (conv => whnf)
    cases h7 : iLe (cuts.length : Int) 7
    · simp at h7
      rw [cutsOk_f (fun hc => by have := hc.2.1; omega)]
    · simp at h7
      rw [cutsOk_t ⟨fun j a b ha hb => hr j a b (by have := (List.getElem?_eq_some_iff.1 hb).1; omega) ha hb, by omega, fun c hc => by
        obtain ⟨j, hj⟩ := List.mem_iff_getElem?.1 hc
        exact hd j c (List.getElem?_eq_some_iff.1 hj).1 hj⟩]

def smG (g : Grd) : Prop := g.cuts.length ≤ 1048576 ∧ g.bins.length ≤ 1048576 ∧ (∀ c ∈ g.cuts, c.length ≤ 1048576) ∧ ∀ b ∈ g.bins, b.length ≤ 1048576
def gridAt (g : Grd) (k : Nat) : Prop := ∀ c b, g.cuts[k]? = some c → g.bins[k]? = some b → cutsP c ∧ b.length = rowsIn g ∧ ∀ x ∈ b, 0 ≤ x ∧ x ≤ (c.length : Int)
def gridP (g : Grd) : Prop := (1 ≤ g.cuts.length ∧ g.cuts.length ≤ 4) ∧ g.bins.length = g.cuts.length ∧ (1 ≤ rowsIn g ∧ rowsIn g ≤ 40) ∧ ∀ k, gridAt g k
noncomputable def gridOk (g : Grd) : Bool := @decide (gridP g) (Classical.propDecidable _)
theorem gridOk_t {g : Grd} (h : gridP g) : gridOk g = true := by unfold gridOk; exact @decide_eq_true _ (Classical.propDecidable _) h
theorem gridOk_f {g : Grd} (h : ¬ gridP g) : gridOk g = false := by unfold gridOk; exact @decide_eq_false _ (Classical.propDecidable _) h
theorem gridOk_iff {g : Grd} : gridOk g = true ↔ gridP g := by
  constructor
  · intro h
    rcases Classical.em (gridP g) with q | q
    · exact q
    · rw [gridOk_f q] at h; cases h
  · exact gridOk_t

theorem impl_GridOk_1_spec (x : Int) (c : List Int) (hl : c.length ≤ 1048576) : FnSpec PR f_impl_GridOk_1 [ai x, .c (.d (.rp [.sl 1 (eL cI c)]))] (ab (bNot (decide (0 ≤ x ∧ x ≤ (c.length : Int))))) [] 0 := by
  refine FnSpec.intro hT p_impl_GridOk_1 rfl (by kernel_rfl) n_impl_GridOk_1 rfl ?_
  conv => whnf
  refine .inl ⟨_, _, _, impl_within_spec _ _ _, rfl, ?_⟩
  (conv => whnf)
  rw [show nInt (dLen (eL cI c)) = (c.length : Int) by simp]
theorem impl_GridOk_spec (g : Grd) (hg : smG g) : FnSpec PR f_impl_GridOk [aG g] (ab (gridOk g)) [] 0 := by
  obtain ⟨z1, z2, z3, z4⟩ := hg
  refine FnSpec.intro hT p_impl_GridOk rfl (by kernel_rfl) n_impl_GridOk rfl ?_
  conv => whnf
  refine .inl ⟨_, _, _, impl_within_spec _ _ _, rfl, ?_⟩
  (conv => whnf)
  rw [show nInt (dLen (eL cIs g.cuts)) = (g.cuts.length : Int) by simp]
  cases h1 : decide (1 ≤ (g.cuts.length : Int) ∧ (g.cuts.length : Int) ≤ 4)
  · (conv => whnf)
    rw [decide_eq_false_iff_not] at h1
    rw [gridOk_f (fun hc => h1 ⟨by have := hc.1; omega, by have := hc.1; omega⟩)]
  rw [decide_eq_true_iff] at h1
  (conv => whnf)
  rw [show nInt (dLen (eL cIs g.bins)) = (g.bins.length : Int) by simp, show nInt (dLen (eL cIs g.cuts)) = (g.cuts.length : Int) by simp]
  cases h2 : iEq (g.bins.length : Int) (g.cuts.length : Int)
  · (conv => whnf)
    rw [gridOk_f (fun hc => by have := hc.2.1; simp at h2; omega)]
  have h2 : g.bins.length = g.cuts.length := by simp at h2; omega
  (conv => whnf)
  refine .inl ⟨_, _, _, impl_RowsIn_spec g, rfl, ?_⟩
  (conv => whnf)
  refine .inl ⟨_, _, _, impl_within_spec _ _ _, rfl, ?_⟩
  (conv => whnf)
  cases h3 : decide (1 ≤ (rowsIn g : Int) ∧ (rowsIn g : Int) ≤ 40)
  · (conv => whnf)
    rw [decide_eq_false_iff_not] at h3
    rw [gridOk_f (fun hc => h3 ⟨by have := hc.2.2.1; omega, by have := hc.2.2.1; omega⟩)]
  rw [decide_eq_true_iff] at h3
  (conv => whnf)
  refine tri_rp 0 ?_
  (conv => whnf)
  refine tri_loop hT [1, 26, 27, 28] (α := Nat) (fun x => { t := [(1, .c (.d (.rp [.sl 1 (eL cIs g.cuts), .sl 1 (eL cIs g.bins)]))), (26, aIss g.cuts), (27, ai (nInt (dLen (eL cIs g.cuts)))), (28, ai x)], h := [], n := 0, N := 57 })
    (fun x => x ≤ g.cuts.length ∧ ∀ j, j < x → gridAt g j) (fun x => g.cuts.length - x) 0 (by first | ((conv => whnf); done) | ((conv => whnf); rfl)) ⟨Nat.zero_le _, fun j h => by omega⟩ ?_
  intro k ⟨hk, hr⟩
  (conv => whnf)
  refine ifB_i (fun h4 => ?_) (fun h4 => ?_) <;> (conv => whnf) <;> simp only [nInt_eq, Int.natCast_zero, dLen_eL, sLen_eq, nOf_eq, Int.toNat_natCast, nAdd_eq, nSub_eq, dLen_nil, dLen_cons, iLt_t, iLt_f, iLe_t, iLe_f, iEq_t, iEq_f, sEq_t, sEq_f, bNot_t, bNot_f, bAnd_t, bEq_t, bEq_f, Bool.not_eq_true, Bool.not_eq_false, Bool.true_eq_false, Bool.false_eq_true] at h4
  · obtain ⟨c, hc⟩ := get_lt (show k < g.cuts.length by omega)
    obtain ⟨b, hb⟩ := get_lt (show k < g.bins.length by omega)
    refine idx_at rfl hc ?_
    (conv => whnf)
    have hcl := z3 c (List.mem_of_getElem? hc)
    have hbl := z4 b (List.mem_of_getElem? hb)
    refine tri_rp 0 ?_
    (conv => whnf)
    refine tri_conf hT hmix (by kernel_rfl) ?_
    (conv => whnf)
    refine ⟨_, _, impl_CutsOk_spec c hcl, rfl, ?_⟩
    cases h5 : cutsOk c
    · (conv => whnf)
      repeat' (first | (refine And.intro (fun q => ?_) (fun q => ?_) <;> cases q <;> (conv => whnf)) | fail)
      rw [gridOk_f (fun hp => by rw [cutsOk_t (hp.2.2.2 k c b hc hb).1] at h5; cases h5)]
    have h5' := cutsOk_iff.1 h5
    (conv => whnf)
    repeat' (first | (refine And.intro (fun q => ?_) (fun q => ?_) <;> cases q <;> (conv => whnf)) | fail)
    refine idx_at rfl hb ?_
    (conv => whnf)
    repeat' (first | (refine And.intro (fun q => ?_) (fun q => ?_) <;> cases q <;> (conv => whnf)) | fail)
    refine ⟨_, _, impl_RowsIn_spec g, rfl, ?_⟩
    (conv => whnf)
    repeat' (first | (refine And.intro (fun q => ?_) (fun q => ?_) <;> cases q <;> (conv => whnf)) | fail)
    rw [show nInt (dLen (eL cI b)) = (b.length : Int) by simp]
    cases h6 : iEq (b.length : Int) (rowsIn g : Int)
    · (conv => whnf)
      repeat' (first | (refine And.intro (fun q => ?_) (fun q => ?_) <;> cases q <;> (conv => whnf)) | fail)
      rw [gridOk_f (fun hp => by have := (hp.2.2.2 k c b hc hb).2.1; simp at h6; omega)]
    have h6' : b.length = rowsIn g := by simp at h6; omega
    (conv => whnf)
    repeat' (first | (refine And.intro (fun q => ?_) (fun q => ?_) <;> cases q <;> (conv => whnf)) | fail)
    refine idx_at rfl hb ?_
    (conv => whnf)
    repeat' (first | (refine And.intro (fun q => ?_) (fun q => ?_) <;> cases q <;> (conv => whnf)) | fail)
    refine ⟨_, _, slices_ContainsFunc_Lint_int_1 b f_impl_GridOk_1 (.rp [.sl 1 (eL cI c)]) (fun x => bNot (decide (0 ≤ x ∧ x ≤ (c.length : Int)))) (fun x _ => impl_GridOk_1_spec x c hcl) (by omega), rfl, ?_⟩
    (conv => whnf)
    repeat' (first | (refine And.intro (fun q => ?_) (fun q => ?_) <;> cases q <;> (conv => whnf)) | fail)
    refine ifB_i (fun h7 => ?_) (fun h7 => ?_) <;> (conv => whnf)
    · rw [gridOk_f (fun hp => ?_)]
      rw [List.any_eq_true] at h7
      obtain ⟨x, hx1, hx2⟩ := h7
      have := (hp.2.2.2 k c b hc hb).2.2 x hx1
      simp [bNot] at hx2
      omega
    · refine ⟨k + 1, by omega, ⟨by omega, fun j hj => ?_⟩, ?_⟩
      · rcases Nat.lt_or_ge j k with q | q
        · exact hr j q
        · obtain rfl : j = k := by omega
          intro c' b' hc' hb'
          rw [hc] at hc'; rw [hb] at hb'
          cases hc'; cases hb'
          refine ⟨h5', h6', fun x hx => ?_⟩
          rw [List.any_eq_false] at h7
          have h7 := h7 x hx
          simp [bNot] at h7
          exact h7
      ((conv => whnf); simp only [St.mk.injEq, List.cons.injEq, Prod.mk.injEq, AV.c.injEq, AV.agg.injEq, AV.tup.injEq, CV.d.injEq, D.int.injEq, D.bool.injEq, D.str.injEq, D.sl.injEq, Ent.arr.injEq, Ent.box.injEq, true_and, and_true, and_self, nInt_eq, Int.natCast_zero, dLen_eL, sLen_eq, wI (show k < g.cuts.length by omega) (by omega)])
  · obtain rfl : k = g.cuts.length := by omega
    rw [gridOk_t ⟨by omega, h2, by omega, fun j => ?_⟩]
    rcases Nat.lt_or_ge j g.cuts.length with q | q
    · exact hr j q
    · intro c b hc
      rw [List.getElem?_eq_none q] at hc
      cases hc

theorem spec_GridOk_spec (g : Grd) (hg : smG g) : FnSpec PR f_spec_GridOk [aG g] (ab (gridOk g)) [] 0 := by
  obtain ⟨z1, z2, z3, z4⟩ := hg
  refine FnSpec.intro hT p_spec_GridOk rfl (by kernel_rfl) n_spec_GridOk rfl ?_
  conv => whnf
  refine .inl ⟨_, _, _, spec_l1In_spec _ _ _, rfl, ?_⟩
  (conv => whnf)
  rw [show nInt (dLen (eL cIs g.cuts)) = (g.cuts.length : Int) by simp]
  cases h1 : decide (1 ≤ (g.cuts.length : Int) ∧ (g.cuts.length : Int) ≤ 4)
  · (conv => whnf)
    rw [decide_eq_false_iff_not] at h1
    rw [gridOk_f (fun hc => h1 ⟨by have := hc.1; omega, by have := hc.1; omega⟩)]
  rw [decide_eq_true_iff] at h1
  (conv => whnf)
  rw [show nInt (dLen (eL cIs g.bins)) = (g.bins.length : Int) by simp, show nInt (dLen (eL cIs g.cuts)) = (g.cuts.length : Int) by simp]
  cases h2 : iEq (g.bins.length : Int) (g.cuts.length : Int)
  · (conv => whnf)
    rw [gridOk_f (fun hc => by have := hc.2.1; simp at h2; omega)]
  have h2 : g.bins.length = g.cuts.length := by simp at h2; omega
  (conv => whnf)
  refine .inl ⟨_, _, _, spec_RowsIn_spec g, rfl, ?_⟩
  (conv => whnf)
  refine .inl ⟨_, _, _, spec_l1In_spec _ _ _, rfl, ?_⟩
  (conv => whnf)
  cases h3 : decide (1 ≤ (rowsIn g : Int) ∧ (rowsIn g : Int) ≤ 40)
  · (conv => whnf)
    rw [decide_eq_false_iff_not] at h3
    rw [gridOk_f (fun hc => h3 ⟨by have := hc.2.2.1; omega, by have := hc.2.2.1; omega⟩)]
  rw [decide_eq_true_iff] at h3
  (conv => whnf)
  refine tri_rp 0 ?_
  (conv => whnf)
  refine tri_loop hT [1, 3] (α := Nat) (fun x => { t := [(1, .c (.d (.rp [.sl 1 (eL cIs g.cuts), .sl 1 (eL cIs g.bins)]))), (3, ai x)], h := [], n := 0, N := 76 })
    (fun x => x ≤ g.cuts.length ∧ ∀ j, j < x → gridAt g j) (fun x => g.cuts.length - x) 0 (by first | ((conv => whnf); done) | ((conv => whnf); rfl)) ⟨Nat.zero_le _, fun j h => by omega⟩ ?_
  intro k ⟨hk, hr⟩
  (conv => whnf)
  rw [show nInt (dLen (eL cIs g.cuts)) = (g.cuts.length : Int) by simp]
  refine ifB_i (fun h4 => ?_) (fun h4 => ?_) <;> (conv => whnf) <;> simp only [nInt_eq, Int.natCast_zero, dLen_eL, sLen_eq, nOf_eq, Int.toNat_natCast, nAdd_eq, nSub_eq, dLen_nil, dLen_cons, iLt_t, iLt_f, iLe_t, iLe_f, iEq_t, iEq_f, sEq_t, sEq_f, bNot_t, bNot_f, bAnd_t, bEq_t, bEq_f, Bool.not_eq_true, Bool.not_eq_false, Bool.true_eq_false, Bool.false_eq_true] at h4
  · obtain ⟨c, hc⟩ := get_lt (show k < g.cuts.length by omega)
    obtain ⟨b, hb⟩ := get_lt (show k < g.bins.length by omega)
    have hcl := z3 c (List.mem_of_getElem? hc)
    have hbl := z4 b (List.mem_of_getElem? hb)
    refine tri_conf hT hmix (by kernel_rfl) ?_
    (conv => whnf)
    refine idx_at rfl hc ?_
    (conv => whnf)
    refine ⟨_, _, spec_CutsOk_spec c hcl, rfl, ?_⟩
    cases h5 : cutsOk c
    · (conv => whnf)
      repeat' (first | (refine And.intro (fun q => ?_) (fun q => ?_) <;> cases q <;> (conv => whnf)) | fail)
      rw [gridOk_f (fun hp => by rw [cutsOk_t (hp.2.2.2 k c b hc hb).1] at h5; cases h5)]
    have h5' := cutsOk_iff.1 h5
    (conv => whnf)
    repeat' (first | (refine And.intro (fun q => ?_) (fun q => ?_) <;> cases q <;> (conv => whnf)) | fail)
    refine idx_at rfl hb ?_
    (conv => whnf)
    repeat' (first | (refine And.intro (fun q => ?_) (fun q => ?_) <;> cases q <;> (conv => whnf)) | fail)
    refine ⟨_, _, spec_RowsIn_spec g, rfl, ?_⟩
    (conv => whnf)
    repeat' (first | (refine And.intro (fun q => ?_) (fun q => ?_) <;> cases q <;> (conv => whnf)) | fail)
    rw [show nInt (dLen (eL cI b)) = (b.length : Int) by simp]
    cases h6 : iEq (b.length : Int) (rowsIn g : Int)
    · (conv => whnf)
      repeat' (first | (refine And.intro (fun q => ?_) (fun q => ?_) <;> cases q <;> (conv => whnf)) | fail)
      rw [gridOk_f (fun hp => by have := (hp.2.2.2 k c b hc hb).2.1; simp at h6; omega)]
    have h6' : b.length = rowsIn g := by simp at h6; omega
    (conv => whnf)
    repeat' (first | (refine And.intro (fun q => ?_) (fun q => ?_) <;> cases q <;> (conv => whnf)) | fail)
    refine tri_loop hT [1, 3, 4] (α := Nat) (fun x => { t := [(1, .c (.d (.rp [.sl 1 (eL cIs g.cuts), .sl 1 (eL cIs g.bins)]))), (3, ai k), (4, ai x)], h := [], n := 0, N := 76 })
      (fun x => x ≤ b.length ∧ ∀ (j : Nat) (y : Int), j < x → b[j]? = some y → 0 ≤ y ∧ y ≤ (c.length : Int)) (fun x => b.length - x) 0 (by first | ((conv => whnf); done) | ((conv => whnf); rfl)) ⟨Nat.zero_le _, fun j y h => by omega⟩ ?_
    intro i ⟨hi, hq⟩
    (conv => whnf)
    refine idx_at rfl hb ?_
    (conv => whnf)
    rw [show nInt (dLen (eL cI b)) = (b.length : Int) by simp]
    refine ifB_i (fun h7 => ?_) (fun h7 => ?_) <;> (conv => whnf) <;> simp only [nInt_eq, Int.natCast_zero, dLen_eL, sLen_eq, nOf_eq, Int.toNat_natCast, nAdd_eq, nSub_eq, dLen_nil, dLen_cons, iLt_t, iLt_f, iLe_t, iLe_f, iEq_t, iEq_f, sEq_t, sEq_f, bNot_t, bNot_f, bAnd_t, bEq_t, bEq_f, Bool.not_eq_true, Bool.not_eq_false, Bool.true_eq_false, Bool.false_eq_true] at h7
    · obtain ⟨y, hy⟩ := get_lt (show i < b.length by omega)
      refine tri_conf hT hmix (by kernel_rfl) ?_
      (conv => whnf)
      refine idx_at rfl hb ?_
      (conv => whnf)
      refine idx_at rfl hy ?_
      (conv => whnf)
      refine idx_at rfl hc ?_
      (conv => whnf)
      refine ⟨_, _, spec_l1In_spec _ _ _, rfl, ?_⟩
      (conv => whnf)
      rw [show nInt (dLen (eL cI c)) = (c.length : Int) by simp]
      cases h8 : decide (0 ≤ y ∧ y ≤ (c.length : Int))
      · (conv => whnf)
        rw [decide_eq_false_iff_not] at h8
        rw [gridOk_f (fun hp => h8 ((hp.2.2.2 k c b hc hb).2.2 y (List.mem_of_getElem? hy)))]
      · rw [decide_eq_true_iff] at h8
        (conv => whnf)
        refine ⟨i + 1, by omega, ⟨by omega, fun j x hj hx => ?_⟩, ?_⟩
        · rcases Nat.lt_or_ge j i with q | q
          · exact hq j x q hx
          · obtain rfl : j = i := by omega
            rw [hy] at hx; cases hx; exact h8
        ((conv => whnf); simp only [St.mk.injEq, List.cons.injEq, Prod.mk.injEq, AV.c.injEq, AV.agg.injEq, AV.tup.injEq, CV.d.injEq, D.int.injEq, D.bool.injEq, D.str.injEq, D.sl.injEq, Ent.arr.injEq, Ent.box.injEq, true_and, and_true, and_self, nInt_eq, Int.natCast_zero, dLen_eL, sLen_eq, wI (show i < b.length by omega) (by omega)])
    · refine ⟨k + 1, by omega, ⟨by omega, fun j hj => ?_⟩, ?_⟩
      · rcases Nat.lt_or_ge j k with q | q
        · exact hr j q
        · obtain rfl : j = k := by omega
          intro c' b' hc' hb'
          rw [hc] at hc'; rw [hb] at hb'
          cases hc'; cases hb'
          refine ⟨h5', h6', fun x hx => ?_⟩
          obtain ⟨j', hj'⟩ := List.mem_iff_getElem?.1 hx
          exact hq j' x (by have := (List.getElem?_eq_some_iff.1 hj').1; omega) hj'
      ((conv => whnf); simp only [St.mk.injEq, List.cons.injEq, Prod.mk.injEq, AV.c.injEq, AV.agg.injEq, AV.tup.injEq, CV.d.injEq, D.int.injEq, D.bool.injEq, D.str.injEq, D.sl.injEq, Ent.arr.injEq, Ent.box.injEq, true_and, and_true, and_self, nInt_eq, Int.natCast_zero, dLen_eL, sLen_eq, wI (show k < g.cuts.length by omega) (by omega)])
  · obtain rfl : k = g.cuts.length := by omega
    rw [gridOk_t ⟨by omega, h2, by omega, fun j => ?_⟩]
    rcases Nat.lt_or_ge j g.cuts.length with q | q
    · exact hr j q
    · intro c b hc
      rw [List.getElem?_eq_none q] at hc
      cases hc

theorem treeOk_shp {t : List Nd} {ft : Int} (h : treeOk t ft = true) : shapeOk t ft = true ∧ 1 ≤ t.length ∧ t.length ≤ 31 := by
  simp only [treeOk, Bool.and_eq_true, decide_eq_true_eq] at h
  exact ⟨h.2.2.1, by omega, by omega⟩
theorem steps_next (t : List Nd) : ∀ (n : Nat) (x : Int) (l : List Int), steps t n x = some l → ∀ (j : Nat) (a b : Int), l[j]? = some a → l[j + 1]? = some b → 0 ≤ up t a ∧ b = up t a
  | 0, x, l, h => by simp [steps] at h
  | n + 1, x, l, h => by
    simp only [steps, Option.map_eq_some_iff] at h
    obtain ⟨r, h1, rfl⟩ := h
    intro j a b ha hb
    split at h1
    · cases h1; simp at hb
    · rename_i hq
      cases j with
      | zero =>
        simp at ha hb
        subst ha
        refine ⟨by omega, ?_⟩
        cases n with
        | zero => simp [steps] at h1
        | succ n =>
          simp only [steps, Option.map_eq_some_iff] at h1
          obtain ⟨r', h2, rfl⟩ := h1
          simpa using hb.symm
      | succ j => exact steps_next t n _ r h1 j a b (by simpa using ha) (by simpa using hb)
theorem way_next {t : List Nd} {ft : Int} (h : shapeOk t ft = true) {x : Int} {i : Nat} {z z' : Int} (hz : (wayL t x)[i]? = some z) (hz' : (wayL t x)[i + 1]? = some z') :
    ∃ (j : Nat) (n : Nd), z = (j : Int) ∧ t[j]? = some n ∧ n.f ≠ -1 ∧ (n.l = z' ∨ n.r = z') := by
  unfold wayL at hz hz'
  split at hz
  · rename_i hx
    rw [if_pos hx] at hz'
    split at hz
    · rename_i l hl
      rw [hl] at hz'
      have hi := (List.getElem?_eq_some_iff.1 hz').1
      rw [List.length_reverse] at hi
      rw [List.getElem?_reverse (by omega)] at hz hz'
      have := steps_next t 32 x l hl (l.length - 1 - (i + 1)) z' z hz' (by rw [show l.length - 1 - (i + 1) + 1 = l.length - 1 - i by omega]; exact hz)
      obtain ⟨j, n, h1, h2, h3, h4, _⟩ := up_at h this.1
      exact ⟨j, n, by rw [this.2, h1], h2, h3, h4⟩
    · cases hz
  · cases hz

theorem allRowsL_len (n : Int) : (allRowsL n).length ≤ 40 := by
  unfold allRowsL
  split
  · simp [upTo]; omega
  · simp
def nrStep (g : Grd) (t : List Nd) (rows : List Int) (z z' : Int) : List Int := match t[z.toNat]? with
  | none => rows
  | some n => match g.cuts[n.f.toNat]?, g.bins[n.f.toNat]? with
    | some c, some b => if n.l = z' then (splitL b rows (binOfL c n.c)).1 else (splitL b rows (binOfL c n.c)).2
    | _, _ => rows
def nrWay (g : Grd) (t : List Nd) : List Int → List Int → List Int
  | rows, z :: z' :: w => nrWay g t (nrStep g t rows z z') (z' :: w)
  | rows, [_] => rows
  | rows, [] => rows
def nodeRowsL (g : Grd) (t : List Nd) (node : Int) : List Int := nrWay g t (allRowsL (rowsIn g)) (wayL t node)
noncomputable def nodeRowsR (g : Grd) (t : List Nd) (node : Int) : List Int := if gridOk g = true ∧ treeOk t g.cuts.length = true ∧ 0 ≤ node ∧ node ≤ (t.length : Int) - 1 then nodeRowsL g t node else []
theorem nrWay_two {g : Grd} {t : List Nd} {rows w : List Int} {i : Nat} {z z' : Int} (h : w[i]? = some z) (h' : w[i + 1]? = some z') : nrWay g t rows (w.drop i) = nrWay g t (nrStep g t rows z z') (w.drop (i + 1)) := by
  rw [drop_at h, drop_at h', nrWay]
theorem nrWay_end {g : Grd} {t : List Nd} {rows w : List Int} {i : Nat} (h : ¬ i + 1 < w.length) : nrWay g t rows (w.drop i) = rows := by
  have : (w.drop i).length ≤ 1 := by simp; omega
  match hd : w.drop i, this with
  | [], _ => rw [nrWay]
  | [x], _ => rw [nrWay]

theorem impl_nodeRows_spec (g : Grd) (t : List Nd) (node : Int) (hg : smG g) (hl : t.length ≤ 1048576) (h1 : gridOk g = true) (h2 : treeOk t g.cuts.length = true) :
    FnSpec PR f_impl_nodeRows [aG g, aT t, ai node] (.c (.ref 0 0 none)) [(0, .arr t_int 1 0 .own (eL cI (nodeRowsL g t node)))] 1 := by
  obtain ⟨z1, z2, z3, z4⟩ := hg
  have hG := gridOk_iff.1 h1
  have hS := (treeOk_shp h2).1
  refine FnSpec.intro hT p_impl_nodeRows rfl (by kernel_rfl) n_impl_nodeRows rfl ?_
  conv => whnf
  refine tri_rp 0 ?_
  (conv => whnf)
  refine tri_rp 1 ?_
  (conv => whnf)
  refine tri_every hT hmix [3, 4, 7, 8] { t := [(3, .c (.d (.rp [.sl 1 (eL cIs g.cuts), .sl 1 (eL cIs g.bins)]))), (4, .c (.d (.rp [.sl 5 (eL cN t)]))), (7, .c (.ref 0 0 none)), (8, .c (.ref 1 0 none))], h := [(0, .arr t_int 1 0 .own (eL cI (allRowsL (rowsIn g)))), (1, .arr t_int 1 0 .own (eL cI (wayL t node)))], n := 2, N := 65 } rfl ?_ ?_
  · repeat' first
      | (refine anyV_one rfl ?_; (conv => whnf))
      | (refine anyV_two rfl ?_ ?_ <;> (conv => whnf))
      | (refine .inl ⟨_, _, _, impl_RowsIn_spec g, rfl, ?_⟩; (conv => whnf))
      | (refine .inl ⟨_, _, _, impl_AllRows_spec _, rfl, ?_⟩; (conv => whnf))
      | (refine .inl ⟨_, _, _, impl_wayTo_spec t node (by omega), rfl, ?_⟩; (conv => whnf))
      | (refine anyV_end rfl ?_; (conv => whnf); first | done | (simp only [partOf_none]; done) | (simp only [partOf_none]; rfl))
  (conv => whnf)
  refine tri_loop hT [3, 4, 7, 8, 9] (α := Nat × List Int) (fun x => { t := [(3, .c (.d (.rp [.sl 1 (eL cIs g.cuts), .sl 1 (eL cIs g.bins)]))), (4, .c (.d (.rp [.sl 5 (eL cN t)]))), (7, .c (.ref 0 0 none)), (8, .c (.ref 1 0 none)), (9, ai x.1)], h := [(0, .arr t_int 1 0 .own (eL cI x.2)), (1, .arr t_int 1 0 .own (eL cI (wayL t node)))], n := 2, N := 65 })
    (fun x => (x.1 + 1 ≤ (wayL t node).length ∨ x.1 = 0) ∧ x.2.length ≤ 1048576 ∧ nrWay g t x.2 ((wayL t node).drop x.1) = nodeRowsL g t node) (fun x => (wayL t node).length - x.1) (0, allRowsL (rowsIn g)) (by first | ((conv => whnf); done) | ((conv => whnf); rfl)) ⟨.inr rfl, by have := allRowsL_len (rowsIn g); dsimp only; omega, rfl⟩ ?_
  intro ⟨k, rs⟩ ⟨hk, hr, hw⟩
  dsimp only at hk hr hw
  have hwl := wayL_len t node
  (conv => whnf)
  rw [show wAdd .i64 (k : Int) 1 = ((k + 1 : Nat) : Int) from by rw [wAdd64] <;> omega]
  refine ifB_i (fun h3 => ?_) (fun h3 => ?_) <;> (conv => whnf) <;> simp only [nInt_eq, Int.natCast_zero, dLen_eL, sLen_eq, nOf_eq, Int.toNat_natCast, nAdd_eq, nSub_eq, dLen_nil, dLen_cons, iLt_t, iLt_f, iLe_t, iLe_f, iEq_t, iEq_f, sEq_t, sEq_f, bNot_t, bNot_f, bAnd_t, bEq_t, bEq_f, Bool.not_eq_true, Bool.not_eq_false, Bool.true_eq_false, Bool.false_eq_true, lenRE_none] at h3
  · obtain ⟨z, hz⟩ := get_lt (show k < (wayL t node).length by omega)
    obtain ⟨z', hz'⟩ := get_lt (show k + 1 < (wayL t node).length by omega)
    obtain ⟨j, n, rfl, hn, hf, hlr⟩ := way_next hS hz hz'
    obtain ⟨k1, k2, k3, k4, k5, k6, k7, k8⟩ := shape_kids hS hn hf
    obtain ⟨c, hc⟩ := get_lt (show n.f.toNat < g.cuts.length by omega)
    obtain ⟨b, hb⟩ := get_lt (show n.f.toNat < g.bins.length by have := hG.2.1; omega)
    have hcl := z3 c (List.mem_of_getElem? hc)
    have hbl := z4 b (List.mem_of_getElem? hb)
    have hfn : n.f = (n.f.toNat : Int) := by omega
    rw [nrWay_two hz hz'] at hw
    have hst : nrStep g t rs (j : Int) z' = if n.l = z' then (splitL b rs (binOfL c n.c)).1 else (splitL b rs (binOfL c n.c)).2 := by simp only [nrStep, Int.toNat_natCast, hn, hc, hb]
    have hsl := splitL_len b rs (binOfL c n.c)
    refine tri_every hT hmix [3, 4, 7, 8, 9, 10] { t := [(3, .c (.d (.rp [.sl 1 (eL cIs g.cuts), .sl 1 (eL cIs g.bins)]))), (4, .c (.d (.rp [.sl 5 (eL cN t)]))), (7, .c (.ref 0 0 none)), (8, .c (.ref 1 0 none)), (9, ai k), (10, .c (.ptr 2 0))], h := [(0, .arr t_int 1 0 .own (eL cI rs)), (1, .arr t_int 1 0 .own (eL cI (wayL t node))), (2, .box t_impl_Node (cNd n))], n := 3, N := 65 } rfl ?_ ?_
    · repeat' first
        | (refine anyV_one rfl ?_; (conv => whnf))
        | (refine anyV_two rfl ?_ ?_ <;> (conv => whnf))
        | (refine anyV_three rfl ?_ ?_ ?_ <;> (conv => whnf))
        | (refine ref_at (k := k) rfl (by first | omega | (simp only [eL_length]; omega) | (simp; omega)) ?_; (conv => whnf))
        | (refine ld_at (by simp) hz ?_; (conv => whnf))
        | (refine idx_at (k := j) rfl hn ?_; (conv => whnf))
        | (refine anyV_end rfl ?_; (conv => whnf); first | done | (simp only [partOf_none]; done) | (simp only [partOf_none]; rfl))
    (conv => whnf)
    refine tri_rp 2 ?_
    (conv => whnf)
    refine tri_every hT hmix [3, 4, 8, 9, 10, 11, 12] { t := [(3, .c (.d (.rp [.sl 1 (eL cIs g.cuts), .sl 1 (eL cIs g.bins)]))), (4, .c (.d (.rp [.sl 5 (eL cN t)]))), (8, .c (.ref 0 0 none)), (9, ai k), (10, .c (.d (.rp (cN n)))), (11, .c (.ref 1 0 none)), (12, .c (.ref 2 0 none))], h := [(0, .arr t_int 1 0 .own (eL cI (wayL t node))), (1, .arr t_int 1 0 .own (eL cI (splitL b rs (binOfL c n.c)).1)), (2, .arr t_int 1 0 .own (eL cI (splitL b rs (binOfL c n.c)).2))], n := 3, N := 65 } rfl ?_ ?_
    · repeat' first
        | (refine anyV_one rfl ?_; (conv => whnf))
        | (refine anyV_two rfl ?_ ?_ <;> (conv => whnf))
        | (refine anyV_three rfl ?_ ?_ ?_ <;> (conv => whnf))
        | (refine idx_at hfn hc ?_; (conv => whnf))
        | (refine idx_at hfn hb ?_; (conv => whnf))
        | (refine .inl ⟨_, _, _, impl_BinOf_spec c n.c hcl, rfl, ?_⟩; (conv => whnf))
        | (refine .inl ⟨_, _, _, impl_SplitRows_spec b rs (binOfL c n.c) hbl hr, rfl, ?_⟩; (conv => whnf))
        | (refine anyV_end rfl ?_; (conv => whnf); first | done | (simp only [partOf_none]; done) | (simp only [partOf_none]; rfl))
    (conv => whnf)
    refine tri_every hT hmix [3, 4, 8, 9, 11, 12, 61] { t := [(3, .c (.d (.rp [.sl 1 (eL cIs g.cuts), .sl 1 (eL cIs g.bins)]))), (4, .c (.d (.rp [.sl 5 (eL cN t)]))), (8, .c (.ref 0 0 none)), (9, ai k), (11, .c (.ref 1 0 none)), (12, .c (.ref 2 0 none)), (61, ab (iEq z' n.l))], h := [(0, .arr t_int 1 0 .own (eL cI (wayL t node))), (1, .arr t_int 1 0 .own (eL cI (splitL b rs (binOfL c n.c)).1)), (2, .arr t_int 1 0 .own (eL cI (splitL b rs (binOfL c n.c)).2))], n := 3, N := 65 } rfl ?_ ?_
    · repeat' first
        | (refine anyV_one rfl ?_; (conv => whnf))
        | (refine anyV_two rfl ?_ ?_ <;> (conv => whnf))
        | (refine anyV_three rfl ?_ ?_ ?_ <;> (conv => whnf))
        | (refine ref_at (k := k + 1) (by rw [wAdd64] <;> omega) (by first | omega | (simp only [eL_length]; omega) | (simp; omega)) ?_; (conv => whnf))
        | (refine ld_at (by first | rfl | (rw [wAdd64] <;> first | omega | (simp <;> omega))) hz' ?_; (conv => whnf))
        | (refine anyV_end rfl ?_; (conv => whnf); first | done | (simp only [partOf_none]; done) | (simp only [partOf_none]; rfl))
    (conv => whnf)
    refine ifB_i (fun h4 => ?_) (fun h4 => ?_) <;> (conv => whnf) <;> simp only [nInt_eq, Int.natCast_zero, dLen_eL, sLen_eq, nOf_eq, Int.toNat_natCast, nAdd_eq, nSub_eq, dLen_nil, dLen_cons, iLt_t, iLt_f, iLe_t, iLe_f, iEq_t, iEq_f, sEq_t, sEq_f, bNot_t, bNot_f, bAnd_t, bEq_t, bEq_f, Bool.not_eq_true, Bool.not_eq_false, Bool.true_eq_false, Bool.false_eq_true] at h4
    · rw [hst, if_pos h4.symm] at hw
      refine ⟨(k + 1, (splitL b rs (binOfL c n.c)).1), by dsimp only; omega, ⟨by dsimp only; omega, by dsimp only; omega, hw⟩, ?_⟩
      ((conv => whnf); simp only [St.mk.injEq, List.cons.injEq, Prod.mk.injEq, AV.c.injEq, AV.agg.injEq, AV.tup.injEq, CV.d.injEq, D.int.injEq, D.bool.injEq, D.str.injEq, D.sl.injEq, Ent.arr.injEq, Ent.box.injEq, true_and, and_true, and_self, nInt_eq, Int.natCast_zero, dLen_eL, sLen_eq, wI (show k < 32 by omega) (by omega), partOf_none])
    · rw [hst, if_neg (fun q => h4 q.symm)] at hw
      refine ⟨(k + 1, (splitL b rs (binOfL c n.c)).2), by dsimp only; omega, ⟨by dsimp only; omega, by dsimp only; omega, hw⟩, ?_⟩
      ((conv => whnf); simp only [St.mk.injEq, List.cons.injEq, Prod.mk.injEq, AV.c.injEq, AV.agg.injEq, AV.tup.injEq, CV.d.injEq, D.int.injEq, D.bool.injEq, D.str.injEq, D.sl.injEq, Ent.arr.injEq, Ent.box.injEq, true_and, and_true, and_self, nInt_eq, Int.natCast_zero, dLen_eL, sLen_eq, wI (show k < 32 by omega) (by omega), partOf_none])
  · rw [nrWay_end (by omega)] at hw
    ((conv => whnf); simp only [St.mk.injEq, List.cons.injEq, Prod.mk.injEq, AV.c.injEq, AV.agg.injEq, AV.tup.injEq, CV.d.injEq, D.int.injEq, D.bool.injEq, D.str.injEq, D.sl.injEq, Ent.arr.injEq, Ent.box.injEq, true_and, and_true, and_self, nInt_eq, Int.natCast_zero, dLen_eL, sLen_eq, hw])

theorem nodeRowsR_no {g : Grd} {t : List Nd} {node : Int} (h : ¬ (gridOk g = true ∧ treeOk t g.cuts.length = true ∧ 0 ≤ node ∧ node ≤ (t.length : Int) - 1)) : nodeRowsR g t node = [] := if_neg h
theorem nodeRowsR_yes {g : Grd} {t : List Nd} {node : Int} (h : gridOk g = true ∧ treeOk t g.cuts.length = true ∧ 0 ≤ node ∧ node ≤ (t.length : Int) - 1) : nodeRowsR g t node = nodeRowsL g t node := if_pos h

theorem impl_NodeRows_spec (g : Grd) (t : List Nd) (node : Int) (hg : smG g) (hl : t.length ≤ 1048576) :
    FnSpec PR f_impl_NodeRows [aG g, aT t, ai node] (.c (.ref 0 0 none)) [(0, .arr t_int 1 0 .own (eL cI (nodeRowsR g t node)))] 1 := by
  have z1 := hg.1
  refine FnSpec.intro hT p_impl_NodeRows rfl (by kernel_rfl) n_impl_NodeRows rfl ?_
  conv => whnf
  refine .inl ⟨_, _, _, impl_GridOk_spec g hg, rfl, ?_⟩
  cases h1 : gridOk g
  · (conv => whnf)
    rw [nodeRowsR_no (fun q => by rw [h1] at q; exact absurd q.1 (by simp)), eL_nil]
  (conv => whnf)
  refine .inl ⟨_, _, _, impl_TreeOk_spec t (nInt (dLen (eL cIs g.cuts))) hl, rfl, ?_⟩
  rw [show nInt (dLen (eL cIs g.cuts)) = (g.cuts.length : Int) by simp]
  cases h2 : treeOk t g.cuts.length
  · (conv => whnf)
    rw [nodeRowsR_no (fun q => by rw [h2] at q; exact absurd q.2.1 (by simp)), eL_nil]
  (conv => whnf)
  refine .inl ⟨_, _, _, impl_within_spec _ _ _, rfl, ?_⟩
  (conv => whnf)
  rw [show wSub .i64 (nInt (dLen (eL cN t))) 1 = (t.length : Int) - 1 from by rw [show nInt (dLen (eL cN t)) = (t.length : Int) by simp, wSub64] <;> omega]
  cases h3 : decide (0 ≤ node ∧ node ≤ (t.length : Int) - 1)
  · (conv => whnf)
    rw [decide_eq_false_iff_not] at h3
    rw [nodeRowsR_no (fun q => h3 q.2.2), eL_nil]
  rw [decide_eq_true_iff] at h3
  rw [nodeRowsR_yes ⟨h1, h2, h3⟩]
  (conv => whnf)
  refine .inl ⟨_, _, _, impl_nodeRows_spec g t node hg hl h1 h2, rfl, ?_⟩
  (conv => whnf)

theorem spec_NodeRows_spec (g : Grd) (t : List Nd) (node : Int) (hg : smG g) (hl : t.length ≤ 1048576) :
    FnSpec PR f_spec_NodeRows [aG g, aT t, ai node] (.c (.ref 0 0 none)) [(0, .arr t_int 1 0 .own (eL cI (nodeRowsR g t node)))] 1 := by
  have hg' := hg
  obtain ⟨z1, z2, z3, z4⟩ := hg
  refine FnSpec.intro hT p_spec_NodeRows rfl (by kernel_rfl) n_spec_NodeRows rfl ?_
  conv => whnf
  refine .inl ⟨_, _, _, spec_GridOk_spec g hg', rfl, ?_⟩
  cases h1 : gridOk g
  · (conv => whnf)
    rw [nodeRowsR_no (fun q => by rw [h1] at q; exact absurd q.1 (by simp)), eL_nil]
  (conv => whnf)
  refine .inl ⟨_, _, _, spec_TreeOk_spec t (nInt (dLen (eL cIs g.cuts))) hl, rfl, ?_⟩
  rw [show nInt (dLen (eL cIs g.cuts)) = (g.cuts.length : Int) by simp]
  cases h2 : treeOk t g.cuts.length
  · (conv => whnf)
    rw [nodeRowsR_no (fun q => by rw [h2] at q; exact absurd q.2.1 (by simp)), eL_nil]
  (conv => whnf)
  refine .inl ⟨_, _, _, spec_l1In_spec _ _ _, rfl, ?_⟩
  (conv => whnf)
  rw [show wSub .i64 (nInt (dLen (eL cN t))) 1 = (t.length : Int) - 1 from by rw [show nInt (dLen (eL cN t)) = (t.length : Int) by simp, wSub64] <;> omega]
  cases h3 : decide (0 ≤ node ∧ node ≤ (t.length : Int) - 1)
  · (conv => whnf)
    rw [decide_eq_false_iff_not] at h3
    rw [nodeRowsR_no (fun q => h3 q.2.2), eL_nil]
  rw [decide_eq_true_iff] at h3
  rw [nodeRowsR_yes ⟨h1, h2, h3⟩]
  have hG := gridOk_iff.1 h1
  have hS := (treeOk_shp h2).1
  (conv => whnf)
  refine .inl ⟨_, _, _, spec_RowsIn_spec g, rfl, ?_⟩
  (conv => whnf)
  refine .inl ⟨_, _, _, spec_AllRows_spec _, rfl, ?_⟩
  (conv => whnf)
  refine .inl ⟨_, _, _, spec_WayTo_spec t node (by omega), rfl, ?_⟩
  (conv => whnf)
  refine tri_rp 0 ?_
  (conv => whnf)
  refine tri_rp 1 ?_
  (conv => whnf)
  refine tri_loop hT [3, 4, 7, 8, 9] (α := Nat × List Int) (fun x => { t := [(3, .c (.d (.rp [.sl 1 (eL cIs g.cuts), .sl 1 (eL cIs g.bins)]))), (4, .c (.d (.rp [.sl 5 (eL cN t)]))), (7, .c (.ref 0 0 none)), (8, .c (.ref 1 0 none)), (9, ai x.1)], h := [(0, .arr t_int 1 0 .own (eL cI x.2)), (1, .arr t_int 1 0 .own (eL cI (wayL t node)))], n := 2, N := 86 })
    (fun x => (x.1 + 1 ≤ (wayL t node).length ∨ x.1 = 0) ∧ x.2.length ≤ 1048576 ∧ nrWay g t x.2 ((wayL t node).drop x.1) = nodeRowsL g t node) (fun x => (wayL t node).length - x.1) (0, allRowsL (rowsIn g)) (by first | ((conv => whnf); done) | ((conv => whnf); rfl)) ⟨.inr rfl, by have := allRowsL_len (rowsIn g); dsimp only; omega, rfl⟩ ?_
  intro ⟨k, rs⟩ ⟨hk, hr, hw⟩
  dsimp only at hk hr hw
  have hwl := wayL_len t node
  (conv => whnf)
  rw [show wAdd .i64 (k : Int) 1 = ((k + 1 : Nat) : Int) from by rw [wAdd64] <;> omega]
  refine ifB_i (fun h3 => ?_) (fun h3 => ?_) <;> (conv => whnf) <;> simp only [nInt_eq, Int.natCast_zero, dLen_eL, sLen_eq, nOf_eq, Int.toNat_natCast, nAdd_eq, nSub_eq, dLen_nil, dLen_cons, iLt_t, iLt_f, iLe_t, iLe_f, iEq_t, iEq_f, sEq_t, sEq_f, bNot_t, bNot_f, bAnd_t, bEq_t, bEq_f, Bool.not_eq_true, Bool.not_eq_false, Bool.true_eq_false, Bool.false_eq_true, lenRE_none] at h3
  · obtain ⟨z, hz⟩ := get_lt (show k < (wayL t node).length by omega)
    obtain ⟨z', hz'⟩ := get_lt (show k + 1 < (wayL t node).length by omega)
    obtain ⟨j, n, rfl, hn, hf, hlr⟩ := way_next hS hz hz'
    obtain ⟨k1, k2, k3, k4, k5, k6, k7, k8⟩ := shape_kids hS hn hf
    obtain ⟨c, hc⟩ := get_lt (show n.f.toNat < g.cuts.length by omega)
    obtain ⟨b, hb⟩ := get_lt (show n.f.toNat < g.bins.length by have := hG.2.1; omega)
    have hcl := z3 c (List.mem_of_getElem? hc)
    have hbl := z4 b (List.mem_of_getElem? hb)
    have hfn : n.f = (n.f.toNat : Int) := by omega
    rw [nrWay_two hz hz'] at hw
    have hst : nrStep g t rs (j : Int) z' = if n.l = z' then (splitL b rs (binOfL c n.c)).1 else (splitL b rs (binOfL c n.c)).2 := by simp only [nrStep, Int.toNat_natCast, hn, hc, hb]
    have hsl := splitL_len b rs (binOfL c n.c)
    refine tri_every hT hmix [3, 4, 7, 8, 9, 10] { t := [(3, .c (.d (.rp [.sl 1 (eL cIs g.cuts), .sl 1 (eL cIs g.bins)]))), (4, .c (.d (.rp [.sl 5 (eL cN t)]))), (7, .c (.ref 0 0 none)), (8, .c (.ref 1 0 none)), (9, ai k), (10, .c (.ptr 2 0))], h := [(0, .arr t_int 1 0 .own (eL cI rs)), (1, .arr t_int 1 0 .own (eL cI (wayL t node))), (2, .box t_impl_Node (cNd n))], n := 3, N := 86 } rfl ?_ ?_
    · repeat' first
        | (refine anyV_one rfl ?_; (conv => whnf))
        | (refine anyV_two rfl ?_ ?_ <;> (conv => whnf))
        | (refine anyV_three rfl ?_ ?_ ?_ <;> (conv => whnf))
        | (refine ref_at (k := k) rfl (by first | omega | (simp only [eL_length]; omega) | (simp; omega)) ?_; (conv => whnf))
        | (refine ld_at (by simp) hz ?_; (conv => whnf))
        | (refine idx_at (k := j) rfl hn ?_; (conv => whnf))
        | (refine anyV_end rfl ?_; (conv => whnf); first | done | (simp only [partOf_none]; done) | (simp only [partOf_none]; rfl))
    (conv => whnf)
    refine tri_rp 2 ?_
    (conv => whnf)
    refine tri_every hT hmix [3, 4, 8, 9, 10, 11, 12] { t := [(3, .c (.d (.rp [.sl 1 (eL cIs g.cuts), .sl 1 (eL cIs g.bins)]))), (4, .c (.d (.rp [.sl 5 (eL cN t)]))), (8, .c (.ref 0 0 none)), (9, ai k), (10, .c (.d (.rp (cN n)))), (11, .c (.ref 1 0 none)), (12, .c (.ref 2 0 none))], h := [(0, .arr t_int 1 0 .own (eL cI (wayL t node))), (1, .arr t_int 1 0 .own (eL cI (splitL b rs (binOfL c n.c)).1)), (2, .arr t_int 1 0 .own (eL cI (splitL b rs (binOfL c n.c)).2))], n := 3, N := 86 } rfl ?_ ?_
    · repeat' first
        | (refine anyV_one rfl ?_; (conv => whnf))
        | (refine anyV_two rfl ?_ ?_ <;> (conv => whnf))
        | (refine anyV_three rfl ?_ ?_ ?_ <;> (conv => whnf))
        | (refine idx_at hfn hc ?_; (conv => whnf))
        | (refine idx_at hfn hb ?_; (conv => whnf))
        | (refine .inl ⟨_, _, _, spec_BinOf_spec c n.c hcl, rfl, ?_⟩; (conv => whnf))
        | (refine .inl ⟨_, _, _, spec_SplitRows_spec b rs (binOfL c n.c) hbl hr, rfl, ?_⟩; (conv => whnf))
        | (refine anyV_end rfl ?_; (conv => whnf); first | done | (simp only [partOf_none]; done) | (simp only [partOf_none]; rfl))
    (conv => whnf)
    refine tri_every hT hmix [3, 4, 7, 8, 9, 11, 83] { t := [(3, .c (.d (.rp [.sl 1 (eL cIs g.cuts), .sl 1 (eL cIs g.bins)]))), (4, .c (.d (.rp [.sl 5 (eL cN t)]))), (7, .c (.ref 0 0 none)), (8, .c (.ref 1 0 none)), (9, ai k), (11, .c (.ref 2 0 none)), (83, ab (iEq n.l z'))], h := [(0, .arr t_int 1 0 .own (eL cI (splitL b rs (binOfL c n.c)).2)), (1, .arr t_int 1 0 .own (eL cI (wayL t node))), (2, .arr t_int 1 0 .own (eL cI (splitL b rs (binOfL c n.c)).1))], n := 3, N := 86 } rfl ?_ ?_
    · repeat' first
        | (refine anyV_one rfl ?_; (conv => whnf))
        | (refine anyV_two rfl ?_ ?_ <;> (conv => whnf))
        | (refine anyV_three rfl ?_ ?_ ?_ <;> (conv => whnf))
        | (refine ref_at (k := k + 1) (by rw [wAdd64] <;> omega) (by first | omega | (simp only [eL_length]; omega) | (simp; omega)) ?_; (conv => whnf))
        | (refine ld_at (by first | rfl | (rw [wAdd64] <;> first | omega | (simp <;> omega))) hz' ?_; (conv => whnf))
        | (refine anyV_end rfl ?_; (conv => whnf); first | done | (simp only [partOf_none]; done) | (simp only [partOf_none]; rfl))
    (conv => whnf)
    refine ifB_i (fun h4 => ?_) (fun h4 => ?_) <;> (conv => whnf) <;> simp only [nInt_eq, Int.natCast_zero, dLen_eL, sLen_eq, nOf_eq, Int.toNat_natCast, nAdd_eq, nSub_eq, dLen_nil, dLen_cons, iLt_t, iLt_f, iLe_t, iLe_f, iEq_t, iEq_f, sEq_t, sEq_f, bNot_t, bNot_f, bAnd_t, bEq_t, bEq_f, Bool.not_eq_true, Bool.not_eq_false, Bool.true_eq_false, Bool.false_eq_true] at h4
    · rw [hst, if_pos h4] at hw
      refine ⟨(k + 1, (splitL b rs (binOfL c n.c)).1), by dsimp only; omega, ⟨by dsimp only; omega, by dsimp only; omega, hw⟩, ?_⟩
      ((conv => whnf); simp only [St.mk.injEq, List.cons.injEq, Prod.mk.injEq, AV.c.injEq, AV.agg.injEq, AV.tup.injEq, CV.d.injEq, D.int.injEq, D.bool.injEq, D.str.injEq, D.sl.injEq, Ent.arr.injEq, Ent.box.injEq, true_and, and_true, and_self, nInt_eq, Int.natCast_zero, dLen_eL, sLen_eq, wI (show k < 32 by omega) (by omega), partOf_none])
    · rw [hst, if_neg h4] at hw
      refine ⟨(k + 1, (splitL b rs (binOfL c n.c)).2), by dsimp only; omega, ⟨by dsimp only; omega, by dsimp only; omega, hw⟩, ?_⟩
      ((conv => whnf); simp only [St.mk.injEq, List.cons.injEq, Prod.mk.injEq, AV.c.injEq, AV.agg.injEq, AV.tup.injEq, CV.d.injEq, D.int.injEq, D.bool.injEq, D.str.injEq, D.sl.injEq, Ent.arr.injEq, Ent.box.injEq, true_and, and_true, and_self, nInt_eq, Int.natCast_zero, dLen_eL, sLen_eq, wI (show k < 32 by omega) (by omega), partOf_none])
  · rw [nrWay_end (by omega)] at hw
    ((conv => whnf); simp only [St.mk.injEq, List.cons.injEq, Prod.mk.injEq, AV.c.injEq, AV.agg.injEq, AV.tup.injEq, CV.d.injEq, D.int.injEq, D.bool.injEq, D.str.injEq, D.sl.injEq, Ent.arr.injEq, Ent.box.injEq, true_and, and_true, and_self, nInt_eq, Int.natCast_zero, dLen_eL, sLen_eq, hw])
end Go.H.S
namespace Go.H.S
open Go Go.Proofs Go.H
set_option maxRecDepth 100000
set_option linter.unusedSimpArgs false
set_option linter.unusedVariables false


theorem and_xor_nat : ∀ (m n : Nat), 2 * (m &&& n) + (m ^^^ n) = m + n := by
  intro m
  induction m using Nat.strongRecOn with
  | ind m ih =>
    intro n
    rcases Nat.eq_zero_or_pos m with rfl | hm
    · simp
    · have h := ih (m / 2) (by omega) (n / 2)
      have h1 : (m &&& n) / 2 = m / 2 &&& n / 2 := Nat.and_div_two
      have h2 : (m ^^^ n) / 2 = m / 2 ^^^ n / 2 := Nat.xor_div_two
      have h3 : (m &&& n) % 2 = 1 ↔ m % 2 = 1 ∧ n % 2 = 1 := Nat.and_mod_two_eq_one
      have h4 : (m ^^^ n) % 2 = (m + n) % 2 := by
        have h5 := Nat.xor_mod_two_pow (a := m) (b := n) (n := 1)
        rw [show 2 ^ 1 = 2 from rfl] at h5
        rw [h5, Nat.add_mod]
        have a1 : m % 2 = 0 ∨ m % 2 = 1 := by omega
        have a2 : n % 2 = 0 ∨ n % 2 = 1 := by omega
        rcases a1 with a1 | a1 <;> rcases a2 with a2 | a2 <;> rw [a1, a2] <;> rfl
      rw [← h1, ← h2] at h
      omega
theorem and_xor_int (x y : BitVec 64) : 2 * (x &&& y).toInt + (x ^^^ y).toInt = x.toInt + y.toInt := by
  have h := and_xor_nat x.toNat y.toNat
  rw [BitVec.toInt_eq_msb_cond, BitVec.toInt_eq_msb_cond, BitVec.toInt_eq_msb_cond, BitVec.toInt_eq_msb_cond, BitVec.msb_and, BitVec.msb_xor, BitVec.toNat_and, BitVec.toNat_xor]
  cases hx : x.msb <;> cases hy : y.msb <;> simp <;> omega
theorem and_one_int (x y : BitVec 64) : (x &&& y &&& 1#64).toInt = if x.toInt % 2 = 1 ∧ y.toInt % 2 = 1 then 1 else 0 := by
  have e : (x &&& y &&& 1#64).toNat = (x.toNat &&& y.toNat) % 2 := by
    rw [BitVec.toNat_and, BitVec.toNat_and]
    exact Nat.and_one_is_mod _
  have h3 : (x.toNat &&& y.toNat) % 2 = 1 ↔ x.toNat % 2 = 1 ∧ y.toNat % 2 = 1 := Nat.and_mod_two_eq_one
  have o : ∀ z : BitVec 64, z.toInt % 2 = (z.toNat % 2 : Nat) := fun z => by
    rw [BitVec.toInt_eq_toNat_cond]; split <;> omega
  rw [BitVec.toInt_eq_toNat_cond, e, o x, o y]
  by_cases q : x.toNat % 2 = 1 ∧ y.toNat % 2 = 1
  · rw [if_pos (by omega : ((x.toNat % 2 : Nat) : Int) = 1 ∧ ((y.toNat % 2 : Nat) : Int) = 1), h3.2 q]; rfl
  · have : (x.toNat &&& y.toNat) % 2 = 0 := by have := (not_congr h3).2 q; omega
    rw [this]
    rw [if_pos (by decide), if_neg]
    · rfl
    · omega
theorem wrap_nat {n : Nat} (h : n < 18446744073709551616) : IntKind.i64.wrap (n : Int) = if 2 * n < 18446744073709551616 then (n : Int) else (n : Int) - 18446744073709551616 := by
  show (if (true && decide ((n : Int) % 18446744073709551616 ≥ 9223372036854775808)) = true then (n : Int) % 18446744073709551616 - 18446744073709551616 else (n : Int) % 18446744073709551616) = _
  rw [show ((n : Int) % 18446744073709551616) = n by omega]
  simp only [Bool.true_and, decide_eq_true_eq]
  split <;> split <;> omega
theorem wrapB_int (r : BitVec 64) : wrapB .i64 r = r.toInt := by
  unfold wrapB
  refine (wrap_nat (n := r.toNat) r.isLt).trans ?_
  rw [BitVec.toInt_eq_toNat_cond]
  rfl
theorem wAnd_int (a b : Int) : wAnd .i64 a b = (BitVec.ofInt 64 a &&& BitVec.ofInt 64 b).toInt := by unfold wAnd; exact wrapB_int _
theorem wXor_int (a b : Int) : wXor .i64 a b = (BitVec.ofInt 64 a ^^^ BitVec.ofInt 64 b).toInt := by unfold wXor; exact wrapB_int _
theorem wShr_one (x : Int) : wShr .i64 x 1 = x / 2 := by
  unfold wShr
  show x.fdiv (2 ^ 1) = x / 2
  rw [Int.fdiv_eq_ediv_of_nonneg _ (by decide)]; rfl
theorem ofInt_int {a : Int} (h : i64 a) : (BitVec.ofInt 64 a).toInt = a := by
  have h : -9223372036854775808 ≤ a ∧ a ≤ 9223372036854775807 := h
  rw [BitVec.toInt_ofInt, Int.bmod_def]
  split <;> omega
theorem ofInt_toInt (r : BitVec 64) : BitVec.ofInt 64 r.toInt = r := by simp
theorem half_spec {a b : Int} (ha : -4611686018427387904 ≤ a ∧ a ≤ 4611686018427387903) (hb : -4611686018427387904 ≤ b ∧ b ≤ 4611686018427387903) : wAdd .i64 (wAnd .i64 a b) (wShr .i64 (wXor .i64 a b) 1) = (a + b) / 2 := by
  have h := and_xor_int (BitVec.ofInt 64 a) (BitVec.ofInt 64 b)
  rw [ofInt_int (show i64 a from ⟨by omega, by omega⟩), ofInt_int (show i64 b from ⟨by omega, by omega⟩)] at h
  rw [wAnd_int, wXor_int, wShr_one]
  generalize (BitVec.ofInt 64 a &&& BitVec.ofInt 64 b).toInt = p at *
  generalize (BitVec.ofInt 64 a ^^^ BitVec.ofInt 64 b).toInt = q at *
  rw [wAdd64] <;> omega
theorem half_impl {a b : Int} (ha : -4611686018427387904 ≤ a ∧ a ≤ 4611686018427387903) (hb : -4611686018427387904 ≤ b ∧ b ≤ 4611686018427387903) :
    wAdd .i64 (wAdd .i64 (wShr .i64 a 1) (wShr .i64 b 1)) (wAnd .i64 (wAnd .i64 a b) 1) = (a + b) / 2 := by
  have h := and_one_int (BitVec.ofInt 64 a) (BitVec.ofInt 64 b)
  rw [ofInt_int (show i64 a from ⟨by omega, by omega⟩), ofInt_int (show i64 b from ⟨by omega, by omega⟩)] at h
  have e2 : wAnd .i64 (BitVec.ofInt 64 a &&& BitVec.ofInt 64 b).toInt 1 = (BitVec.ofInt 64 a &&& BitVec.ofInt 64 b &&& 1#64).toInt := by
    rw [wAnd_int, ofInt_toInt]; rfl
  rw [wAnd_int a b, e2, wShr_one, wShr_one, h, wAdd64 (x := a / 2) (y := b / 2) (by omega) (by omega)]
  split
  · rw [wAdd64] <;> omega
  · rw [wAdd64] <;> omega
end Go.H.S
namespace Go.H.S
open Go Go.Proofs Go.H
attribute [local irreducible] Tri FnSpec FnSpecM FnSpecX FnSpecJ
set_option maxRecDepth 100000
set_option linter.unusedSimpArgs false
set_option linter.unusedVariables false


theorem clone_ints_spec (xs : List Int) (hx : xs.length ≤ 1000000000) : FnSpec PR f_slices_Clone_Lint_int [aIs xs] (.c (.ref 0 0 none)) [(0, .arr t_int 1 0 .own (eL cI xs))] 1 := by
  refine FnSpec.intro hT p_slices_Clone_Lint_int rfl (by kernel_rfl) n_slices_Clone_Lint_int rfl ?_
  conv => whnf
  intro b hb
  cases b
  · (conv => whnf)
    refine And.intro (by simp [eL_length, dLen_len]; omega) ?_
    (conv => whnf)
    ((conv => whnf); simp only [St.mk.injEq, List.cons.injEq, Prod.mk.injEq, AV.c.injEq, AV.agg.injEq, AV.tup.injEq, CV.d.injEq, D.int.injEq, D.bool.injEq, D.str.injEq, D.sl.injEq, Ent.arr.injEq, Ent.box.injEq, true_and, and_true, and_self, nInt_eq, Int.natCast_zero, dLen_eL, sLen_eq, dApp_nil])
    done
  · have : xs = [] := by
      have := congrArg List.length (hb rfl)
      rw [eL_length] at this
      exact List.eq_nil_of_length_eq_zero this
    subst this
    (conv => whnf)
    ((conv => whnf); simp only [St.mk.injEq, List.cons.injEq, Prod.mk.injEq, AV.c.injEq, AV.agg.injEq, AV.tup.injEq, CV.d.injEq, D.int.injEq, D.bool.injEq, D.str.injEq, D.sl.injEq, Ent.arr.injEq, Ent.box.injEq, true_and, and_true, and_self, nInt_eq, Int.natCast_zero, dLen_eL, sLen_eq, eL_nil])
    done

theorem clone_strs_spec (xs : List ByteArray) (hx : xs.length ≤ 1000000000) : FnSpec PR f_slices_Clone_Lstring_string [aSs xs] (.c (.ref 0 0 none)) [(0, .arr t_string 1 0 .own (eL cS xs))] 1 := by
  refine FnSpec.intro hT p_slices_Clone_Lstring_string rfl (by kernel_rfl) n_slices_Clone_Lstring_string rfl ?_
  conv => whnf
  intro b hb
  cases b
  · (conv => whnf)
    refine And.intro (by simp [eL_length, dLen_len]; omega) ?_
    (conv => whnf)
    ((conv => whnf); simp only [St.mk.injEq, List.cons.injEq, Prod.mk.injEq, AV.c.injEq, AV.agg.injEq, AV.tup.injEq, CV.d.injEq, D.int.injEq, D.bool.injEq, D.str.injEq, D.sl.injEq, Ent.arr.injEq, Ent.box.injEq, true_and, and_true, and_self, nInt_eq, Int.natCast_zero, dLen_eL, sLen_eq, dApp_nil])
    done
  · have : xs = [] := by
      have := congrArg List.length (hb rfl)
      rw [eL_length] at this
      exact List.eq_nil_of_length_eq_zero this
    subst this
    (conv => whnf)
    ((conv => whnf); simp only [St.mk.injEq, List.cons.injEq, Prod.mk.injEq, AV.c.injEq, AV.agg.injEq, AV.tup.injEq, CV.d.injEq, D.int.injEq, D.bool.injEq, D.str.injEq, D.sl.injEq, Ent.arr.injEq, Ent.box.injEq, true_and, and_true, and_self, nInt_eq, Int.natCast_zero, dLen_eL, sLen_eq, eL_nil])
    done

theorem clone_nodes_spec (xs : List Nd) (hx : xs.length ≤ 1000000000) : FnSpec PR f_slices_Clone_Limpl_Node_impl_Node [aNs xs] (.c (.ref 0 0 none)) [(0, .arr t_impl_Node 5 0 .own (eL cN xs))] 1 := by
  refine FnSpec.intro hT p_slices_Clone_Limpl_Node_impl_Node rfl (by kernel_rfl) n_slices_Clone_Limpl_Node_impl_Node rfl ?_
  conv => whnf
  intro b hb
  cases b
  · (conv => whnf)
    refine And.intro (by simp [eL_length, dLen_len]; omega) ?_
    (conv => whnf)
    ((conv => whnf); simp only [St.mk.injEq, List.cons.injEq, Prod.mk.injEq, AV.c.injEq, AV.agg.injEq, AV.tup.injEq, CV.d.injEq, D.int.injEq, D.bool.injEq, D.str.injEq, D.sl.injEq, Ent.arr.injEq, Ent.box.injEq, true_and, and_true, and_self, nInt_eq, Int.natCast_zero, dLen_eL, sLen_eq, dApp_nil])
    done
  · have : xs = [] := by
      have := congrArg List.length (hb rfl)
      rw [eL_length] at this
      exact List.eq_nil_of_length_eq_zero this
    subst this
    (conv => whnf)
    ((conv => whnf); simp only [St.mk.injEq, List.cons.injEq, Prod.mk.injEq, AV.c.injEq, AV.agg.injEq, AV.tup.injEq, CV.d.injEq, D.int.injEq, D.bool.injEq, D.str.injEq, D.sl.injEq, Ent.arr.injEq, Ent.box.injEq, true_and, and_true, and_self, nInt_eq, Int.natCast_zero, dLen_eL, sLen_eq, eL_nil])
    done

theorem impl_copyTree_spec (t : List Nd) (hl : t.length ≤ 1000000000) : FnSpec PR f_impl_copyTree [aT t] (.agg [.ref 0 0 none]) [(0, .arr t_impl_Node 5 0 .own (eL cN t))] 1 := by
  refine FnSpec.intro hT p_impl_copyTree rfl (by kernel_rfl) n_impl_copyTree rfl ?_
  conv => whnf
  refine .inl ⟨_, _, _, clone_nodes_spec t hl, rfl, ?_⟩
  (conv => whnf)

theorem spec_l17Copy_spec (t : List Nd) (hl : t.length ≤ 1000000000) : FnSpec PR f_spec_l17Copy [aT t] (.agg [.ref 0 0 none]) [(0, .arr t_impl_Node 5 0 .own (eL cN t))] 1 := by
  refine FnSpec.intro hT p_spec_l17Copy rfl (by kernel_rfl) n_spec_l17Copy rfl ?_
  conv => whnf
  refine And.intro (by simp [eL_length, dLen_len]; omega) ?_
  (conv => whnf)
  ((conv => whnf); simp only [St.mk.injEq, List.cons.injEq, Prod.mk.injEq, AV.c.injEq, AV.agg.injEq, AV.tup.injEq, CV.d.injEq, D.int.injEq, D.bool.injEq, D.str.injEq, D.sl.injEq, Ent.arr.injEq, Ent.box.injEq, true_and, and_true, and_self, nInt_eq, Int.natCast_zero, dLen_eL, sLen_eq, dApp_nil])
  done

theorem impl_copyTrees_spec (ts : List (List Nd)) (hl : ts.length ≤ 1000000000) (ht : ∀ t ∈ ts, t.length ≤ 1000000000) : FnSpec PR f_impl_copyTrees [aTs ts] (.c (.ref 0 0 none)) [(0, .arr t_impl_Tree 1 0 (.nest [t_impl_Node]) (eL cT ts))] 1 := by
  refine FnSpec.intro hTn p_impl_copyTrees rfl (by kernel_rfl) n_impl_copyTrees rfl ?_
  conv => whnf
  refine tri_loop hTn [3, 7, 8, 9] (α := Nat × List (List Nd)) (fun x => { t := [(3, .c (.ref 0 0 none)), (7, aTs ts), (8, ai ts.length), (9, ai x.1)], h := [(0, .arr t_impl_Tree 1 0 (.nest [t_impl_Node]) (eL cT x.2))], n := 1, N := 20 })
    (fun x => x.1 ≤ ts.length ∧ x.2 = ts.take x.1) (fun x => ts.length - x.1) (0, []) (by ((conv => whnf); simp only [St.mk.injEq, List.cons.injEq, Prod.mk.injEq, AV.c.injEq, AV.agg.injEq, AV.tup.injEq, CV.d.injEq, D.int.injEq, D.bool.injEq, D.str.injEq, D.sl.injEq, Ent.arr.injEq, Ent.box.injEq, true_and, and_true, and_self, nInt_eq, Int.natCast_zero, dLen_eL, sLen_eq, eL_nil])) ⟨Nat.zero_le _, by simp⟩ ?_
  intro ⟨k, o⟩ ⟨hk, ho⟩
  dsimp only at hk ho
  (conv => whnf)
  refine ifB_i (fun h1 => ?_) (fun h1 => ?_) <;> (conv => whnf) <;> simp at h1
  · obtain ⟨t, hx⟩ := get_lt h1
    have hol : o.length = k := by rw [ho]; simp; omega
    refine idx_at (by simp) hx ?_
    (conv => whnf)
    refine .inl ⟨_, _, _, impl_copyTree_spec t (ht t (List.mem_of_getElem? hx)), rfl, ?_⟩
    (conv => whnf)
    refine ⟨flat_cN t, ?_⟩
    (conv => whnf)
    refine And.intro (by simp [eL_length, dLen_len]; omega) ?_
    (conv => whnf)
    refine ⟨(k + 1, o ++ [t]), by dsimp only; omega, ⟨h1, by dsimp only; rw [ho, List.take_add_one, hx]; rfl⟩, ?_⟩
    ((conv => whnf); simp only [St.mk.injEq, List.cons.injEq, Prod.mk.injEq, AV.c.injEq, AV.agg.injEq, AV.tup.injEq, CV.d.injEq, D.int.injEq, D.bool.injEq, D.str.injEq, D.sl.injEq, Ent.arr.injEq, Ent.box.injEq, true_and, and_true, and_self, nInt_eq, Int.natCast_zero, dLen_eL, sLen_eq, wI h1 (by omega)])
    rw [← eL_app]
    rfl
  · obtain rfl : k = ts.length := by omega
    rw [ho, List.take_length]

theorem spec_l22Trees_spec (ts : List (List Nd)) (hl : ts.length ≤ 1000000000) (ht : ∀ t ∈ ts, t.length ≤ 1000000000) : FnSpec PR f_spec_l22Trees [aTs ts] (.c (.ref 0 0 none)) [(0, .arr t_impl_Tree 1 0 (.nest [t_impl_Node]) (eL cT ts))] 1 := by
  refine FnSpec.intro hTn p_spec_l22Trees rfl (by kernel_rfl) n_spec_l22Trees rfl ?_
  conv => whnf
  refine tri_loop hTn [0, 3, 4] (α := Nat × List (List Nd)) (fun x => { t := [(0, aTs ts), (3, .c (.ref 0 0 none)), (4, ai x.1)], h := [(0, .arr t_impl_Tree 1 0 (.nest [t_impl_Node]) (eL cT x.2))], n := 1, N := 21 })
    (fun x => x.1 ≤ ts.length ∧ x.2 = ts.take x.1) (fun x => ts.length - x.1) (0, []) (by ((conv => whnf); simp only [St.mk.injEq, List.cons.injEq, Prod.mk.injEq, AV.c.injEq, AV.agg.injEq, AV.tup.injEq, CV.d.injEq, D.int.injEq, D.bool.injEq, D.str.injEq, D.sl.injEq, Ent.arr.injEq, Ent.box.injEq, true_and, and_true, and_self, nInt_eq, Int.natCast_zero, dLen_eL, sLen_eq, eL_nil])) ⟨Nat.zero_le _, by simp⟩ ?_
  intro ⟨k, o⟩ ⟨hk, ho⟩
  dsimp only at hk ho
  (conv => whnf)
  refine ifB_i (fun h1 => ?_) (fun h1 => ?_) <;> (conv => whnf) <;> simp at h1
  · obtain ⟨t, hx⟩ := get_lt h1
    have hol : o.length = k := by rw [ho]; simp; omega
    refine idx_at (by simp) hx ?_
    (conv => whnf)
    refine .inl ⟨_, _, _, spec_l17Copy_spec t (ht t (List.mem_of_getElem? hx)), rfl, ?_⟩
    (conv => whnf)
    refine ⟨flat_cN t, ?_⟩
    (conv => whnf)
    refine And.intro (by simp [eL_length, dLen_len]; omega) ?_
    (conv => whnf)
    refine ⟨(k + 1, o ++ [t]), by dsimp only; omega, ⟨h1, by dsimp only; rw [ho, List.take_add_one, hx]; rfl⟩, ?_⟩
    ((conv => whnf); simp only [St.mk.injEq, List.cons.injEq, Prod.mk.injEq, AV.c.injEq, AV.agg.injEq, AV.tup.injEq, CV.d.injEq, D.int.injEq, D.bool.injEq, D.str.injEq, D.sl.injEq, Ent.arr.injEq, Ent.box.injEq, true_and, and_true, and_self, nInt_eq, Int.natCast_zero, dLen_eL, sLen_eq, wI h1 (by omega)])
    rw [← eL_app]
    rfl
  · obtain rfl : k = ts.length := by omega
    rw [ho, List.take_length]

def mdlH (m : Mdl) : List (Nat × Ent) := [(0, .arr t_string 1 0 .own (eL cS m.names)), (1, .arr t_int 1 0 .own (eL cI m.signs)), (2, .arr t_impl_Tree 1 0 (.nest [t_impl_Node]) (eL cT m.trees))]
abbrev mdlA (m : Mdl) : AV := .agg [.ref 0 0 none, .ref 1 0 none, .d (.int .i64 m.base), .ref 2 0 none]
structure smM (m : Mdl) : Prop where
  names : m.names.length ≤ 1000000000
  signs : m.signs.length ≤ 1000000000
  trees : m.trees.length ≤ 1000000000
  nodes : ∀ t ∈ m.trees, t.length ≤ 1000000000

theorem impl_copyModel_spec (m : Mdl) (hs : smM m) : FnSpec PR f_impl_copyModel [aM m] (mdlA m) [(0, .arr t_string 1 0 .own (eL cS m.names)), (1, .arr t_int 1 0 .own (eL cI m.signs)), (2, .arr t_impl_Tree 1 0 (.nest [t_impl_Node]) (eL cT m.trees))] 3 := by
  refine FnSpec.intro hTn p_impl_copyModel rfl (by kernel_rfl) n_impl_copyModel rfl ?_
  conv => whnf
  refine tri_rp 0 ?_
  (conv => whnf)
  refine tri_every hTn hmix [2] { t := [(2, .c (.ptr 0 0))], h := [(0, .box t_impl_Model [.ref 1 0 none, .ref 2 0 none, .d (.int .i64 m.base), .ref 3 0 none]), (1, .arr t_string 1 0 .own (eL cS m.names)), (2, .arr t_int 1 0 .own (eL cI m.signs)), (3, .arr t_impl_Tree 1 0 (.nest [t_impl_Node]) (eL cT m.trees))], n := 4, N := 15 } rfl ?_ ?_
  · repeat' first
      | (refine anyV_one rfl ?_; (conv => whnf))
      | (refine anyV_two rfl ?_ ?_ <;> (conv => whnf))
      | (refine anyV_three rfl ?_ ?_ ?_ <;> (conv => whnf))
      | (refine anyV_four rfl ?_ ?_ ?_ ?_ <;> (conv => whnf))
      | (refine .inl ⟨_, _, _, clone_strs_spec m.names hs.names, rfl, ?_⟩; (conv => whnf))
      | (refine .inl ⟨_, _, _, clone_ints_spec m.signs hs.signs, rfl, ?_⟩; (conv => whnf))
      | (refine .inl ⟨_, _, _, impl_copyTrees_spec m.trees hs.trees hs.nodes, rfl, ?_⟩; (conv => whnf))
      | (refine anyV_end rfl ?_; (conv => whnf); done)
  (conv => whnf)

theorem spec_l24Copy_spec (m : Mdl) (hs : smM m) : FnSpec PR f_spec_l24Copy [aM m] (mdlA m) [(0, .arr t_string 1 0 .own (eL cS m.names)), (1, .arr t_int 1 0 .own (eL cI m.signs)), (2, .arr t_impl_Tree 1 0 (.nest [t_impl_Node]) (eL cT m.trees))] 3 := by
  have h1 : Fits (dLen []) (dLen (eL cS m.names)) := by have := hs.names; simp [Fits, dLen_len, eL_length]; omega
  have h2 : Fits (dLen []) (dLen (eL cI m.signs)) := by have := hs.signs; simp [Fits, dLen_len, eL_length]; omega
  refine FnSpec.intro hTn p_spec_l24Copy rfl (by kernel_rfl) n_spec_l24Copy rfl ?_
  conv => whnf
  refine tri_rp 0 ?_
  (conv => whnf)
  refine tri_every hTn hmix [2] { t := [(2, .c (.ptr 0 0))], h := [(0, .box t_impl_Model [.ref 1 0 none, .ref 2 0 none, .d (.int .i64 m.base), .ref 3 0 none]), (1, .arr t_string 1 0 .own (dApp [] (eL cS m.names))), (2, .arr t_int 1 0 .own (dApp [] (eL cI m.signs))), (3, .arr t_impl_Tree 1 0 (.nest [t_impl_Node]) (eL cT m.trees))], n := 4, N := 17 } rfl ?_ ?_
  · repeat' first
      | (refine anyV_one rfl ?_; (conv => whnf))
      | (refine anyV_two rfl ?_ ?_ <;> (conv => whnf))
      | (refine anyV_three rfl ?_ ?_ ?_ <;> (conv => whnf))
      | (refine anyV_four rfl ?_ ?_ ?_ ?_ <;> (conv => whnf))
      | (refine .inl ⟨_, _, _, spec_l22Trees_spec m.trees hs.trees hs.nodes, rfl, ?_⟩; (conv => whnf))
      | (refine And.intro h1 ?_; (conv => whnf))
      | (refine And.intro h2 ?_; (conv => whnf))
      | (refine anyV_end rfl ?_; (conv => whnf); done)
  (conv => whnf)
  ((conv => whnf); simp only [St.mk.injEq, List.cons.injEq, Prod.mk.injEq, AV.c.injEq, AV.agg.injEq, AV.tup.injEq, CV.d.injEq, D.int.injEq, D.bool.injEq, D.str.injEq, D.sl.injEq, Ent.arr.injEq, Ent.box.injEq, true_and, and_true, and_self, nInt_eq, Int.natCast_zero, dLen_eL, sLen_eq, dApp_nil])
  done

theorem impl_Brought_spec (x lo hi : Int) : FnSpec PR f_impl_Brought [ai x, ai lo, ai hi] (ai (brought x lo hi)) [] 0 := by
  refine FnSpec.intro hT p_impl_Brought rfl (by kernel_rfl) n_impl_Brought rfl ?_
  conv => whnf
  refine ifB_i (fun h => ?_) (fun h => ?_) <;> (conv => whnf) <;> simp only [nInt_eq, Int.natCast_zero, dLen_eL, sLen_eq, nOf_eq, Int.toNat_natCast, nAdd_eq, nSub_eq, dLen_nil, dLen_cons, iLt_t, iLt_f, iLe_t, iLe_f, iEq_t, iEq_f, sEq_t, sEq_f, bNot_t, bNot_f, bAnd_t, bEq_t, bEq_f, Bool.not_eq_true, Bool.not_eq_false, Bool.true_eq_false, Bool.false_eq_true] at h
  · ((conv => whnf); simp only [St.mk.injEq, List.cons.injEq, Prod.mk.injEq, AV.c.injEq, AV.agg.injEq, AV.tup.injEq, CV.d.injEq, D.int.injEq, D.bool.injEq, D.str.injEq, D.sl.injEq, Ent.arr.injEq, Ent.box.injEq, true_and, and_true, and_self, nInt_eq, Int.natCast_zero, dLen_eL, sLen_eq])
    simp only [brought]
    rw [if_pos (by omega)]
  · refine ifB_i (fun h2 => ?_) (fun h2 => ?_) <;> (conv => whnf) <;> simp only [nInt_eq, Int.natCast_zero, dLen_eL, sLen_eq, nOf_eq, Int.toNat_natCast, nAdd_eq, nSub_eq, dLen_nil, dLen_cons, iLt_t, iLt_f, iLe_t, iLe_f, iEq_t, iEq_f, sEq_t, sEq_f, bNot_t, bNot_f, bAnd_t, bEq_t, bEq_f, Bool.not_eq_true, Bool.not_eq_false, Bool.true_eq_false, Bool.false_eq_true] at h2 <;> ((conv => whnf); simp only [St.mk.injEq, List.cons.injEq, Prod.mk.injEq, AV.c.injEq, AV.agg.injEq, AV.tup.injEq, CV.d.injEq, D.int.injEq, D.bool.injEq, D.str.injEq, D.sl.injEq, Ent.arr.injEq, Ent.box.injEq, true_and, and_true, and_self, nInt_eq, Int.natCast_zero, dLen_eL, sLen_eq]) <;> simp only [brought]
    · rw [if_neg (by omega), if_pos (by omega)]
    · rw [if_neg (by omega), if_neg (by omega)]

def firstK (m : Mdl) (k : Int) : Nat := (brought k 0 m.trees.length).toNat
theorem firstK_le (m : Mdl) (k : Int) : firstK m k ≤ m.trees.length ∧ brought k 0 m.trees.length = firstK m k := by
  unfold firstK brought
  split <;> (try split) <;> omega
def firstM (m : Mdl) (k : Int) : Mdl := { m with trees := m.trees.take (firstK m k) }
abbrev firstA (m : Mdl) (k : Int) : AV := .agg [.ref 0 0 none, .ref 1 0 none, .d (.int .i64 m.base), .ref 2 0 (some (true, 0, firstK m k))]

theorem impl_FirstTrees_spec (m : Mdl) (k : Int) (hs : smM m) : FnSpec PR f_impl_FirstTrees [aM m, ai k] (firstA m k) [(0, .arr t_string 1 0 .own (eL cS m.names)), (1, .arr t_int 1 0 .own (eL cI m.signs)), (2, .arr t_impl_Tree 1 0 (.nest [t_impl_Node]) (eL cT m.trees))] 3 := by
  have hk := firstK_le m k
  have eT : nInt (dLen (eL cT m.trees)) = (m.trees.length : Int) := by simp
  have hS : InS 0 (brought k 0 m.trees.length) (lenRE (eL cT m.trees) none) := by simp [InS]; omega
  refine FnSpec.intro hTn p_impl_FirstTrees rfl (by kernel_rfl) n_impl_FirstTrees rfl ?_
  conv => whnf
  refine .inl ⟨_, _, _, impl_copyModel_spec m hs, rfl, ?_⟩
  (conv => whnf)
  refine tri_every hTn hmix [4, 5] { t := [(4, .c (.ptr 0 0)), (5, .c (.ptr 1 0))], h := [(0, .box t_impl_Model [.nl 1, .nl 1, .d (.int .i64 0), .nl 1]), (1, .box t_impl_Model [.ref 2 0 none, .ref 3 0 none, .d (.int .i64 m.base), .ref 4 0 (some (true, nAdd (offR none) (nOf 0), nSub (nOf (brought k 0 m.trees.length)) (nOf 0)))]), (2, .arr t_string 1 0 .own (eL cS m.names)), (3, .arr t_int 1 0 .own (eL cI m.signs)), (4, .arr t_impl_Tree 1 0 (.nest [t_impl_Node]) (eL cT m.trees))], n := 5, N := 18 } rfl ?_ ?_
  · repeat' first
      | (refine anyV_one rfl ?_; (conv => whnf))
      | (refine anyV_two rfl ?_ ?_ <;> (conv => whnf))
      | (refine anyV_three rfl ?_ ?_ ?_ <;> (conv => whnf))
      | (refine anyV_four rfl ?_ ?_ ?_ ?_ <;> (conv => whnf))
      | (rw [eT]; refine .inl ⟨_, _, _, impl_Brought_spec k 0 m.trees.length, rfl, ?_⟩; (conv => whnf))
      | (refine And.intro hS ?_; (conv => whnf))
      | (refine anyV_end rfl ?_; (conv => whnf); done)
  (conv => whnf)
  rw [hk.2]
  ((conv => whnf); simp only [St.mk.injEq, List.cons.injEq, Prod.mk.injEq, AV.c.injEq, AV.agg.injEq, AV.tup.injEq, CV.d.injEq, D.int.injEq, D.bool.injEq, D.str.injEq, D.sl.injEq, Ent.arr.injEq, Ent.box.injEq, true_and, and_true, and_self, nInt_eq, Int.natCast_zero, dLen_eL, sLen_eq, nAdd_eq, nSub_eq, nOf_eq, Int.toNat_natCast, Nat.sub_zero, offR, Int.toNat_zero, Nat.add_zero])

theorem spec_FirstTrees_spec (m : Mdl) (k : Int) (hs : smM m) : FnSpec PR f_spec_FirstTrees [aM m, ai k] (firstA m k) [(0, .arr t_string 1 0 .own (eL cS m.names)), (1, .arr t_int 1 0 .own (eL cI m.signs)), (2, .arr t_impl_Tree 1 0 (.nest [t_impl_Node]) (eL cT m.trees))] 3 := by
  have hk := firstK_le m k
  have eT : nInt (lenRE (eL cT m.trees) none) = (m.trees.length : Int) := by simp
  have hS : InS 0 (brought k 0 m.trees.length) (lenRE (eL cT m.trees) none) := by simp [InS]; omega
  refine FnSpec.intro hTn p_spec_FirstTrees rfl (by kernel_rfl) n_spec_FirstTrees rfl ?_
  conv => whnf
  refine .inl ⟨_, _, _, spec_l24Copy_spec m hs, rfl, ?_⟩
  (conv => whnf)
  refine tri_every hTn hmix [4, 5] { t := [(4, .c (.ptr 0 0)), (5, .c (.ptr 1 0))], h := [(0, .box t_impl_Model [.nl 1, .nl 1, .d (.int .i64 0), .nl 1]), (1, .box t_impl_Model [.ref 2 0 none, .ref 3 0 none, .d (.int .i64 m.base), .ref 4 0 (some (true, nAdd (offR none) (nOf 0), nSub (nOf (brought k 0 m.trees.length)) (nOf 0)))]), (2, .arr t_string 1 0 .own (eL cS m.names)), (3, .arr t_int 1 0 .own (eL cI m.signs)), (4, .arr t_impl_Tree 1 0 (.nest [t_impl_Node]) (eL cT m.trees))], n := 5, N := 18 } rfl ?_ ?_
  · repeat' first
      | (refine anyV_one rfl ?_; (conv => whnf))
      | (refine anyV_two rfl ?_ ?_ <;> (conv => whnf))
      | (refine anyV_three rfl ?_ ?_ ?_ <;> (conv => whnf))
      | (refine anyV_four rfl ?_ ?_ ?_ ?_ <;> (conv => whnf))
      | (rw [eT]; refine .inl ⟨_, _, _, spec_Brought_spec k 0 m.trees.length, rfl, ?_⟩; (conv => whnf))
      | (refine And.intro hS ?_; (conv => whnf))
      | (refine anyV_end rfl ?_; (conv => whnf); done)
  (conv => whnf)
  rw [hk.2]
  ((conv => whnf); simp only [St.mk.injEq, List.cons.injEq, Prod.mk.injEq, AV.c.injEq, AV.agg.injEq, AV.tup.injEq, CV.d.injEq, D.int.injEq, D.bool.injEq, D.str.injEq, D.sl.injEq, Ent.arr.injEq, Ent.box.injEq, true_and, and_true, and_self, nInt_eq, Int.natCast_zero, dLen_eL, sLen_eq, nAdd_eq, nSub_eq, nOf_eq, Int.toNat_natCast, Nat.sub_zero, offR, Int.toNat_zero, Nat.add_zero])
end Go.H.S
namespace Go.H.S
open Go Go.Proofs Go.H
attribute [local irreducible] Tri FnSpec FnSpecM FnSpecX
set_option maxRecDepth 100000
set_option linter.unusedSimpArgs false
set_option linter.unusedVariables false


theorem own_ints {w : World} {F : Nat → Prop} {e : TypeId} {v : Value} {xs : List Int} (h : OwnRep w F e 1 v (eL cI xs)) : w.ownsRow 0 e 1 v xs.length (xs.map (Value.int .i64)) := by
  obtain ⟨ys, h1, h2⟩ := h
  rw [eL_length] at h1
  have hl : ys.length = xs.length := by have := h1.1; omega
  have : ys = xs.map (Value.int .i64) := by
    apply List.ext_getElem?
    intro i
    rcases Nat.lt_or_ge i xs.length with q | q
    · obtain ⟨x, hx⟩ := get_lt q
      obtain ⟨_, h3⟩ := h2 i (cI x) (by rw [eL_get, hx]; rfl)
      obtain ⟨u, hu, hf⟩ := h3 0 (.int .i64 x) rfl
      cases hf
      rw [List.getElem?_map, hx]
      simpa using hu
    · rw [List.getElem?_eq_none (by omega), List.getElem?_eq_none (by simp; omega)]
  rw [← this]
  exact h1
theorem ints_own {w : World} {F : Nat → Prop} {e : TypeId} {v : Value} {xs : List Int} (h : w.ownsRow 0 e 1 v xs.length (xs.map (Value.int .i64))) : OwnRep w F e 1 v (eL cI xs) := by
  refine ⟨xs.map (Value.int .i64), by rw [eL_length]; exact h, fun i c hc => ?_⟩
  rw [eL_get] at hc
  simp only [Option.map_eq_some_iff] at hc
  obtain ⟨x, hx, rfl⟩ := hc
  refine ⟨rfl, fun j d hj => ?_⟩
  cases j with
  | zero =>
    simp [cI] at hj
    subst hj
    exact ⟨.int .i64 x, by simp [hx], .int _ _⟩
  | succ j => simp [cI] at hj
/-- The value of a row that is lent whole. -/
theorem lent_val {w : World} {F : Nat → Prop} {e sz : TypeId} {v0 v : Value} {es : List (List D)} (ho : OwnRep w F e sz v0 es) (h : AVRep w (conM F v0) [(0, .arr e sz 0 .own es)] (.c (.ref 0 0 none)) v) : v = v0 := by
  obtain ⟨_, _, _, h4⟩ := h
  obtain ⟨_, a, n, c, a', c', hv, rfl, hc, _, hh⟩ := h4 e sz .own es rfl
  obtain ⟨_, rfl, rfl⟩ := hh rfl
  obtain ⟨A, c2, hs, _⟩ := own_shape ho
  have hv0 : v0 = .slice a' n c' := hv
  rw [hv0] at hs ⊢
  simp only [Value.slice.injEq] at hs
  rw [hs.2.1]
  rfl
theorem grewX_of {L : Nat → Prop} {w w' : World} {row : Option Nat} (h : w.grownBy w' row) (hL : ∀ b, row = some b → L b) : GrewX L w w' :=
  ⟨h.os, h.tape, h.output, h.size, fun k hk hn => h.block k hk (fun e => hn (hL k e.symm))⟩
theorem partOf_eL {α : Type} (f : α → List D) (xs : List α) (b : Bool) (o n : Nat) : partOf (eL f xs) (some (b, o, n)) = eL f ((xs.drop o).take n) := by
  simp only [partOf, dPart_eq, eL, List.map_drop, List.map_take]

def sortL (xs : List Int) : List Int := xs.mergeSort fun x y => decide (x ≤ y)
theorem sortL_len (xs : List Int) : (sortL xs).length = xs.length := by simp [sortL]
theorem slices_Sort_spec (xs : List Int) (hx : xs.length ≤ 4000000000) : FnSpecM PR f_slices_Sort_Lint_int [.c (.ref 0 0 none)] t_int 1 (eL cI xs) (.tup []) (eL cI (sortL xs)) := by
  unfold FnSpecM
  refine ⟨⟨_, p_slices_Sort_Lint_int, rfl, by kernel_rfl⟩, by rw [eL_length, eL_length, sortL_len], rfl, flat_cI _, fun F w v0 vals hF ho hl hv => ?_⟩
  match vals, hl, hv with
  | [v], _, hv =>
    have e0 := lent_val ho (hv 0 _ v rfl rfl)
    subst e0
    have hi := own_ints ho
    unfold PR
    rcases hi.2 with ⟨rfl, h0⟩ | ⟨g, cap, cur, rfl, _, hg, h1, h2, h3, h4⟩
    · have hx0 : xs = [] := List.eq_nil_of_length_eq_zero h0
      subst hx0
      refine (Try.slices_Sort_int_none none 0 w).mono fun en w' ⟨he, hw⟩ => ?_
      subst hw
      exact ⟨_, he, ⟨[], rfl, rfl, fun j x u hj => by simp at hj⟩, ⟨rfl, rfl, rfl, Nat.le_refl _, fun _ _ _ => rfl⟩, ints_own (by rw [show sortL [] = [] from List.eq_nil_of_length_eq_zero (sortL_len [])]; exact hi)⟩
    · have hh : Go.Sort.Holds (Value.int .i64) w g 0 xs.toArray := holds_of_blockI hg (by rw [Nat.mul_one] at h4; exact h4)
      refine (Try.slices_Sort_int g 0 cap xs w hh (Array.getElem?_eq_some_iff.1 hg).1 (by omega)).mono fun en w' ⟨he, n, os, hw⟩ => ?_
      subst hw
      refine ⟨_, he, ⟨[], rfl, rfl, fun j x u hj => by simp at hj⟩, grewX_of (grownBy_sortedI _) (fun b hb => hb), ints_own ?_⟩
      have := ownsRow_sortedI (base := 0) (n := n) (os := os) (ts := sortL xs) (sortL_len xs) (Nat.zero_le _) hg h1 h2 h3
      rw [sortL_len]
      exact this

theorem compact_len (xs : List Int) : (Go.Lib.compact xs).length ≤ xs.length := by
  have h := List.length_filter_le (Go.Lib.keeps xs.toArray) (List.range xs.length)
  simp only [Go.Lib.compact, Go.Lib.compactUpTo, List.length_map]
  simpa using h
theorem slices_Compact_spec (xs : List Int) (hx : xs.length ≤ 4000000000) : FnSpecV PR f_slices_Compact_Lint_int [.c (.ref 0 0 none)] t_int 1 (eL cI xs) (eL cI (Go.Lib.compact xs)) := by
  refine ⟨⟨_, p_slices_Compact_Lint_int, rfl, by kernel_rfl⟩, flat_cI _, fun F w v0 vals hF ho hl hv => ?_⟩
  match vals, hl, hv with
  | [v], _, hv =>
    have e0 := lent_val ho (hv 0 _ v rfl rfl)
    subst e0
    have hi := own_ints ho
    unfold PR
    rcases hi.2 with ⟨rfl, h0⟩ | ⟨g, cap, cur, rfl, _, hg, h1, h2, h3, h4⟩
    · have hx0 : xs = [] := List.eq_nil_of_length_eq_zero h0
      subst hx0
      refine (Try.slices_Compact_int_empty none 0 w).mono fun en w' ⟨he, hw⟩ => ?_
      subst hw
      exact ⟨_, he, ⟨rfl, rfl, rfl, Nat.le_refl _, fun _ _ _ => rfl⟩, ints_own hi, fun b hb => .inl hb⟩
    · have hh : Go.Sort.Holds (Value.int .i64) w g 0 xs.toArray := holds_of_blockI hg (by rw [Nat.mul_one] at h4; exact h4)
      have hcl := compact_len xs
      refine (Try.slices_Compact_int g 0 cap xs w hh (by omega) h1).mono fun en w' ⟨he, q, hw⟩ => ?_
      subst hw
      have hgr := grownBy_sortedI (w := w) (g := g) (n := q) (os := #[]) (Go.Lib.compact xs ++ List.replicate (xs.length - (Go.Lib.compact xs).length) 0).toArray
      have hrow := ownsRow_sortedI (base := 0) (n := q) (os := #[]) (ss := xs) (ts := Go.Lib.compact xs ++ List.replicate (xs.length - (Go.Lib.compact xs).length) 0) (by simp; omega) (Nat.zero_le _) hg h1 h2 h3
      rw [Go.Sort.grow_empty] at hgr hrow
      refine ⟨_, he, grewX_of hgr (fun b hb => hb), ints_own ?_, fun b hb => .inl hb⟩
      rcases hrow.2 with ⟨h, _⟩ | ⟨g', cap', cur', hv', hb', hg', n1, n2, n3, n4⟩
      · cases h
      · cases hv'
        refine ⟨by simp, .inr ⟨g, cap, cur', rfl, Nat.zero_le _, hg', by omega, n2, n3, ?_⟩⟩
        rw [Nat.mul_one] at n4 ⊢
        have := congrArg (List.take (Go.Lib.compact xs).length) n4
        rw [List.take_take, Nat.min_eq_left hcl, List.map_append, List.take_left' (by simp)] at this
        exact this

theorem slices_Clone_ints_spec (xs : List Int) (hx : xs.length ≤ 1000000000) : FnSpec PR f_slices_Clone_Lint_int [aIs xs] (.c (.ref 0 0 none)) [(0, .arr t_int 1 0 .own (eL cI xs))] 1 := by
  refine FnSpec.intro hT p_slices_Clone_Lint_int rfl (by kernel_rfl) n_slices_Clone_Lint_int rfl ?_
  conv => whnf
  intro b hb
  cases b <;> (conv => whnf)
  · refine ⟨by simp [eL_length, dLen_len]; omega, ?_⟩
    ((conv => whnf); simp only [St.mk.injEq, List.cons.injEq, Prod.mk.injEq, AV.c.injEq, AV.agg.injEq, AV.tup.injEq, CV.d.injEq, D.int.injEq, D.bool.injEq, D.str.injEq, D.sl.injEq, Ent.arr.injEq, Ent.box.injEq, true_and, and_true, and_self, nInt_eq, Int.natCast_zero, dLen_eL, sLen_eq, partOf_none, dApp_nil])
  · have := hb rfl
    ((conv => whnf); simp only [St.mk.injEq, List.cons.injEq, Prod.mk.injEq, AV.c.injEq, AV.agg.injEq, AV.tup.injEq, CV.d.injEq, D.int.injEq, D.bool.injEq, D.str.injEq, D.sl.injEq, Ent.arr.injEq, Ent.box.injEq, true_and, and_true, and_self, nInt_eq, Int.natCast_zero, dLen_eL, sLen_eq, this])

theorem impl_SortInts_spec (xs : List Int) (hx : xs.length ≤ 1000000000) : FnSpec PR f_impl_SortInts [aIs xs] (.c (.ref 0 0 none)) [(0, .arr t_int 1 0 .own (eL cI (sortL xs)))] 1 := by
  refine FnSpec.intro hT p_impl_SortInts rfl (by kernel_rfl) n_impl_SortInts rfl ?_
  conv => whnf
  refine .inl ⟨_, _, _, slices_Clone_ints_spec xs hx, rfl, ?_⟩
  (conv => whnf)
  refine .inr (.inr (.inl ⟨0, ?_⟩))
  (conv => whnf)
  refine .inl ⟨_, _, slices_Sort_spec xs (by omega), ?_⟩
  (conv => whnf)

def distinctL (xs : List Int) : List Int := Go.Lib.compact (sortL xs)
theorem distinctL_len (xs : List Int) : (distinctL xs).length ≤ xs.length := by have := compact_len (sortL xs); rw [sortL_len] at this; exact this
theorem impl_Distinct_spec (xs : List Int) (hx : xs.length ≤ 1000000000) : FnSpec PR f_impl_Distinct [aIs xs] (.c (.ref 0 0 none)) [(0, .arr t_int 1 0 .own (eL cI (distinctL xs)))] 1 := by
  refine FnSpec.intro hT p_impl_Distinct rfl (by kernel_rfl) n_impl_Distinct rfl ?_
  conv => whnf
  refine .inl ⟨_, _, _, impl_SortInts_spec xs hx, rfl, ?_⟩
  (conv => whnf)
  refine .inr (.inr (.inl ⟨0, ?_⟩))
  (conv => whnf)
  refine .inr ⟨_, slices_Compact_spec (sortL xs) (by rw [sortL_len]; omega), ?_⟩
  (conv => whnf)
  rfl

theorem sortL_uniq {a : List Int} {xs : List Int} (h1 : a.Pairwise (· ≤ ·)) (h2 : a.Perm xs) : a = sortL xs := by
  refine List.Perm.eq_of_pairwise (le := fun x y => x ≤ y) (fun a b _ _ p q => by omega) h1 ?_ (h2.trans (List.mergeSort_perm xs _).symm)
  have := List.pairwise_mergeSort (le := fun x y : Int => decide (x ≤ y)) (fun a b c => by simp; omega) (fun a b => by simp; omega) xs
  simpa [sortL] using this
theorem sortL_sorted (xs : List Int) : (sortL xs).Pairwise (· ≤ ·) := by
  have := List.pairwise_mergeSort (le := fun x y : Int => decide (x ≤ y)) (fun a b c => by simp; omega) (fun a b => by simp; omega) xs
  simpa [sortL] using this
/-- Put in where it belongs. -/
theorem sortL_put {xs : List Int} {x : Int} {k : Nat} (hk : k ≤ (sortL xs).length) (h1 : ∀ y, (sortL xs)[k - 1]? = some y → 0 < k → y ≤ x) (h2 : ∀ (j : Nat) (y : Int), k ≤ j → (sortL xs)[j]? = some y → x < y) :
    (sortL xs).take k ++ [x] ++ (sortL xs).drop k = sortL (xs ++ [x]) := by
  have hs := sortL_sorted xs
  have hs' := hs
  rw [← List.take_append_drop k (sortL xs), List.pairwise_append] at hs'
  obtain ⟨q1, q2, q3⟩ := hs'
  apply sortL_uniq
  · rw [List.append_assoc, List.pairwise_append]
    refine ⟨q1, ?_, fun a ha b hb => ?_⟩
    · simp only [List.singleton_append, List.pairwise_cons]
      refine ⟨fun b hb => ?_, q2⟩
      obtain ⟨j, hj⟩ := List.getElem?_of_mem hb
      rw [List.getElem?_drop] at hj
      have := h2 (k + j) b (by omega) hj
      omega
    · have hax : a ≤ x := by
        obtain ⟨j, hj⟩ := List.getElem?_of_mem ha
        rw [List.getElem?_take] at hj
        split at hj
        · rename_i hjk
          obtain ⟨y, hy⟩ := get_lt (show k - 1 < (sortL xs).length by omega)
          have hyx := h1 y hy (by omega)
          rcases Nat.lt_or_ge j (k - 1) with q | q
          · have := List.pairwise_iff_getElem.1 hs j (k - 1) (List.getElem?_eq_some_iff.1 hj).1 (List.getElem?_eq_some_iff.1 hy).1 q
            rw [(List.getElem?_eq_some_iff.1 hj).2, (List.getElem?_eq_some_iff.1 hy).2] at this
            omega
          · obtain rfl : j = k - 1 := by omega
            rw [hj] at hy; cases hy; exact hyx
        · cases hj
      simp only [List.singleton_append, List.mem_cons] at hb
      rcases hb with rfl | hb
      · exact hax
      · exact q3 a ha b hb
  · rw [List.append_assoc]
    refine List.perm_middle.trans ?_
    show (x :: ((sortL xs).take k ++ (sortL xs).drop k)).Perm _
    rw [List.take_append_drop]
    have hp : (sortL xs).Perm xs := List.mergeSort_perm xs _
    refine (List.Perm.cons x hp).trans ?_
    exact (List.perm_append_comm (l₁ := [x]) (l₂ := xs))
theorem ins_eq (s : List Int) (k : Nat) (x : Int) : dApp (dApp [] (partOf (eL cI s) (some (true, nAdd (offR none) (nOf 0), nSub (nOf (k : Int)) (nOf 0))))) (partOf [[D.int .i64 x]] none) = eL cI (s.take k ++ [x]) := by
  simp [partOf_eL, dApp_nil, nOf_eq, nSub_eq, nAdd_eq]
  rw [show [[D.int .i64 x]] = [cI x] from rfl, eL_app]
theorem eL_apps {α : Type} (f : α → List D) (l r : List α) : dApp (eL f l) (eL f r) = eL f (l ++ r) := by simp [dApp, eL]
set_option maxHeartbeats 4000000 in
theorem spec_SortInts_spec (xs : List Int) (hx : xs.length ≤ 1000000000) : FnSpec PR f_spec_SortInts [aIs xs] (.c (.ref 0 0 none)) [(0, .arr t_int 1 0 .own (eL cI (sortL xs)))] 1 := by
  refine FnSpec.intro hT p_spec_SortInts rfl (by kernel_rfl) n_spec_SortInts rfl ?_
  conv => whnf
  refine tri_loop hT [0, 3, 4] (α := Nat) (fun x => { t := [(0, aIs xs), (3, .c (.ref 0 0 none)), (4, ai x)], h := [(0, .arr t_int 1 0 .own (eL cI (sortL (xs.take x))))], n := 1, N := 49 })
    (fun x => x ≤ xs.length) (fun x => xs.length - x) 0 (by ((conv => whnf); simp only [St.mk.injEq, List.cons.injEq, Prod.mk.injEq, AV.c.injEq, AV.agg.injEq, AV.tup.injEq, CV.d.injEq, D.int.injEq, D.bool.injEq, D.str.injEq, D.sl.injEq, Ent.arr.injEq, Ent.box.injEq, true_and, and_true, and_self, nInt_eq, Int.natCast_zero, dLen_eL, sLen_eq]); simp [sortL, eL_nil]) (Nat.zero_le _) ?_
  intro i hi
  (conv => whnf)
  refine ifB_i (fun h1 => ?_) (fun h1 => ?_) <;> (conv => whnf) <;> simp at h1
  · obtain ⟨x, hxi⟩ := get_lt h1
    have hlen : (sortL (xs.take i)).length = i := by rw [sortL_len]; simp; omega
    generalize hs : sortL (xs.take i) = s at *
    refine tri_loop hT [0, 3, 4, 5] (α := Nat) (fun k => { t := [(0, aIs xs), (3, .c (.ref 0 0 none)), (4, ai i), (5, ai k)], h := [(0, .arr t_int 1 0 .own (eL cI s))], n := 1, N := 49 })
      (fun k => k ≤ i ∧ ∀ (j : Nat) (y : Int), k ≤ j → s[j]? = some y → x < y) (fun k => k) i (by ((conv => whnf); simp only [St.mk.injEq, List.cons.injEq, Prod.mk.injEq, AV.c.injEq, AV.agg.injEq, AV.tup.injEq, CV.d.injEq, D.int.injEq, D.bool.injEq, D.str.injEq, D.sl.injEq, Ent.arr.injEq, Ent.box.injEq, true_and, and_true, and_self, nInt_eq, Int.natCast_zero, dLen_eL, sLen_eq]); simp [hlen]) ⟨Nat.le_refl _, fun j y hj hy => by have := (List.getElem?_eq_some_iff.1 hy).1; omega⟩ ?_
    intro k ⟨hk, hgt⟩
    (conv => whnf)
    refine tri_conf hT hmix (by kernel_rfl) ?_
    (conv => whnf)
    cases k with
    | zero =>
      rw [show iLt 0 ((0 : Nat) : Int) = false from rfl]
      repeat' (first | (refine And.intro (fun q => ?_) (fun q => ?_) <;> cases q <;> (conv => whnf)) | fail)
      refine tri_every hT hmix [0, 3, 4, 5, 6] { t := [(0, aIs xs), (3, .c (.ref 0 0 none)), (4, ai i), (5, ai (0 : Nat)), (6, .c (.ref 1 0 none))], h := [(0, .arr t_int 1 0 .own (eL cI s)), (1, .arr t_int 1 0 .own (eL cI (s.take (0) ++ [x])))], n := 2, N := 49 } rfl ?_ ?_
      · repeat' first
          | (refine anyV_one rfl ?_; (conv => whnf))
          | (refine anyV_two rfl ?_ ?_ <;> (conv => whnf))
          | (refine anyV_three rfl ?_ ?_ ?_ <;> (conv => whnf))
          | (refine anyV_end rfl ?_; (conv => whnf); rw [ins_eq s (0) x])
          | (refine idx_at (by simp) hxi ?_; (conv => whnf))
          | (refine And.intro (by simp [partOf_eL, dApp_nil, eL_length, dLen_len]; try omega) ?_; (conv => whnf))
      · (conv => whnf)
        refine And.intro (by simp; try omega) ?_
        (conv => whnf)
        refine And.intro (by simp [partOf_eL, eL_length, dLen_len]; try omega) ?_
        (conv => whnf)
        have hput := sortL_put (xs := xs.take i) (x := x) (k := 0) (by rw [hs]; omega) (fun y hy h0 => by omega) (fun j y hj hy => by rw [hs] at hy; exact hgt j y hj hy)
        rw [hs] at hput
        have htk : xs.take (i + 1) = xs.take i ++ [x] := by rw [List.take_add_one, hxi]; rfl
        refine ⟨i + 1, by omega, h1, ?_⟩
        ((conv => whnf); simp only [St.mk.injEq, List.cons.injEq, Prod.mk.injEq, AV.c.injEq, AV.agg.injEq, AV.tup.injEq, CV.d.injEq, D.int.injEq, D.bool.injEq, D.str.injEq, D.sl.injEq, Ent.arr.injEq, Ent.box.injEq, true_and, and_true, and_self, nInt_eq, Int.natCast_zero, dLen_eL, sLen_eq, wI h1 (by omega), htk, ← hput])
        simp [partOf_eL, eL_apps, nOf_eq, nSub_eq, nAdd_eq]
    | succ k' =>
      rw [show iLt 0 ((k' + 1 : Nat) : Int) = true from decide_eq_true (by omega)]
      have ek : wSub .i64 ((k' + 1 : Nat) : Int) 1 = (k' : Int) := by rw [wSub64] <;> omega
      obtain ⟨y, hy⟩ := get_lt (show k' < s.length by omega)
      repeat' (first | (refine And.intro (fun q => ?_) (fun q => ?_) <;> cases q <;> (conv => whnf)) | (refine idx_at (by simp) hxi ?_; (conv => whnf)) | (refine ref_at (k := k') ek (by simp; omega) ?_; (conv => whnf)) | (refine ld_at (by rw [ek]; simp) hy ?_; (conv => whnf)) | fail)
      generalize e2 : iLt x y = c2
      cases c2
      · repeat' (first | (refine And.intro (fun q => ?_) (fun q => ?_) <;> cases q <;> (conv => whnf)) | (refine idx_at (by simp) hxi ?_; (conv => whnf)) | (refine ref_at (k := k') ek (by simp; omega) ?_; (conv => whnf)) | (refine ld_at (by rw [ek]; simp) hy ?_; (conv => whnf)) | fail)
        (conv => whnf)
        refine tri_every hT hmix [0, 3, 4, 5, 6] { t := [(0, aIs xs), (3, .c (.ref 0 0 none)), (4, ai i), (5, ai (k' + 1 : Nat)), (6, .c (.ref 1 0 none))], h := [(0, .arr t_int 1 0 .own (eL cI s)), (1, .arr t_int 1 0 .own (eL cI (s.take (k' + 1) ++ [x])))], n := 2, N := 49 } rfl ?_ ?_
        · repeat' first
            | (refine anyV_one rfl ?_; (conv => whnf))
            | (refine anyV_two rfl ?_ ?_ <;> (conv => whnf))
            | (refine anyV_three rfl ?_ ?_ ?_ <;> (conv => whnf))
            | (refine anyV_end rfl ?_; (conv => whnf); rw [ins_eq s (k' + 1) x])
            | (refine idx_at (by simp) hxi ?_; (conv => whnf))
            | (refine And.intro (by simp [partOf_eL, dApp_nil, eL_length, dLen_len]; try omega) ?_; (conv => whnf))
        · (conv => whnf)
          refine And.intro (by simp; try omega) ?_
          (conv => whnf)
          refine And.intro (by simp [partOf_eL, eL_length, dLen_len]; try omega) ?_
          (conv => whnf)
          have hf : ∀ y', (sortL (xs.take i))[k' + 1 - 1]? = some y' → 0 < k' + 1 → y' ≤ x := by
            intro y' hy' _
            rw [hs, show k' + 1 - 1 = k' from rfl, hy] at hy'
            cases hy'
            have : ¬ x < y := by simpa [iLt] using e2
            omega
          have hput := sortL_put (xs := xs.take i) (x := x) (k := k' + 1) (by rw [hs]; omega) hf (fun j y hj hy => by rw [hs] at hy; exact hgt j y hj hy)
          rw [hs] at hput
          have htk : xs.take (i + 1) = xs.take i ++ [x] := by rw [List.take_add_one, hxi]; rfl
          refine ⟨i + 1, by omega, h1, ?_⟩
          ((conv => whnf); simp only [St.mk.injEq, List.cons.injEq, Prod.mk.injEq, AV.c.injEq, AV.agg.injEq, AV.tup.injEq, CV.d.injEq, D.int.injEq, D.bool.injEq, D.str.injEq, D.sl.injEq, Ent.arr.injEq, Ent.box.injEq, true_and, and_true, and_self, nInt_eq, Int.natCast_zero, dLen_eL, sLen_eq, wI h1 (by omega), htk, ← hput])
          simp [partOf_eL, eL_apps, nOf_eq, nSub_eq, nAdd_eq]
          rw [show (s.drop (k' + 1)).take (s.length - (k' + 1)) = s.drop (k' + 1) from List.take_of_length_le (by simp)]
      · repeat' (first | (refine And.intro (fun q => ?_) (fun q => ?_) <;> cases q <;> (conv => whnf)) | (refine idx_at (by simp) hxi ?_; (conv => whnf)) | (refine ref_at (k := k') ek (by simp; omega) ?_; (conv => whnf)) | (refine ld_at (by rw [ek]; simp) hy ?_; (conv => whnf)) | fail)
        (conv => whnf)
        refine ⟨k', by omega, ⟨by omega, fun j y2 hj hy2 => ?_⟩, ?_⟩
        · rcases Nat.eq_or_lt_of_le hj with rfl | q
          · rw [hy] at hy2; cases hy2; simpa [iLt] using e2
          · exact hgt j y2 q hy2
        · ((conv => whnf); simp only [St.mk.injEq, List.cons.injEq, Prod.mk.injEq, AV.c.injEq, AV.agg.injEq, AV.tup.injEq, CV.d.injEq, D.int.injEq, D.bool.injEq, D.str.injEq, D.sl.injEq, Ent.arr.injEq, Ent.box.injEq, true_and, and_true, and_self, nInt_eq, Int.natCast_zero, dLen_eL, sLen_eq, ek])
  · obtain rfl : i = xs.length := by omega
    rw [List.take_length]
end Go.H.S
namespace Go.H.S
open Go Go.Proofs Go.H
attribute [local irreducible] Tri FnSpec FnSpecM FnSpecX FnSpecJ
set_option maxRecDepth 100000
set_option linter.unusedSimpArgs false
set_option linter.unusedVariables false


theorem compactUpTo_succ (xs : List Int) (i : Nat) (x : Int) (hx : xs[i]? = some x) : Go.Lib.compactUpTo xs.toArray (i + 1) = Go.Lib.compactUpTo xs.toArray i ++ (if Go.Lib.keeps xs.toArray i then [x] else []) := by
  have hlt := (List.getElem?_eq_some_iff.1 hx).1
  simp only [Go.Lib.compactUpTo, List.range_succ, List.filter_append, List.map_append]
  congr 1
  have hv : xs.toArray[i]! = x := by
    rw [getElem!_pos _ i (by simpa using hlt)]
    simpa using (List.getElem?_eq_some_iff.1 hx).2
  have hv2 : xs[i]?.getD 0 = x := by rw [hx]; rfl
  cases hk : Go.Lib.keeps xs.toArray i <;> simp [hk, hv, hv2]
theorem spec_Distinct_spec (xs : List Int) (hx : xs.length ≤ 1000000000) : FnSpec PR f_spec_Distinct [aIs xs] (.c (.ref 0 0 none)) [(0, .arr t_int 1 0 .own (eL cI (distinctL xs)))] 1 := by
  refine FnSpec.intro hT p_spec_Distinct rfl (by kernel_rfl) n_spec_Distinct rfl ?_
  conv => whnf
  refine .inl ⟨_, _, _, spec_SortInts_spec xs hx, rfl, ?_⟩
  have hsl := sortL_len xs
  have hd : distinctL xs = Go.Lib.compactUpTo (sortL xs).toArray (sortL xs).length := rfl
  rw [hd]
  generalize sortL xs = s at *
  refine tri_loop hT [3, 4, 5] (α := Nat) (fun i => { t := [(3, .c (.ref 0 0 none)), (4, .c (.ref 1 0 none)), (5, ai i)], h := [(0, .arr t_int 1 0 .own (eL cI (Go.Lib.compactUpTo s.toArray i))), (1, .arr t_int 1 0 .own (eL cI s))], n := 2, N := 37 })
    (fun i => i ≤ s.length) (fun i => s.length - i) 0 (by (conv => whnf); rw [show Go.Lib.compactUpTo s.toArray 0 = [] from rfl, eL_nil]; rfl) (Nat.zero_le _) ?_
  intro i hi
  (conv => whnf)
  refine ifB_i (fun h1 => ?_) (fun h1 => ?_) <;> (conv => whnf) <;> simp at h1
  · obtain ⟨x, hxi⟩ := get_lt h1
    have hcl : (Go.Lib.compactUpTo s.toArray i).length ≤ i := by
      have h := List.length_filter_le (Go.Lib.keeps s.toArray) (List.range i)
      simp only [Go.Lib.compactUpTo, List.length_map]
      simpa using h
    have hcs := compactUpTo_succ s i x hxi
    have hk : ∀ b, Go.Lib.keeps s.toArray i = b → Go.Lib.keeps s.toArray i = b := fun _ h => h
    refine tri_conf hT hmix (by kernel_rfl) ?_
    (conv => whnf)
    cases i with
    | zero =>
      rw [show iEq ((0 : Nat) : Int) 0 = true from rfl]
      have hkt : Go.Lib.keeps s.toArray 0 = true := Go.Lib.keeps_lt_one _ 0 (by omega)
      rw [hkt] at hcs
      rw [if_pos rfl] at hcs
      have hnx : Go.Lib.compactUpTo s.toArray 1 = Go.Lib.compactUpTo s.toArray 0 ++ [x] := hcs
      generalize Go.Lib.compactUpTo s.toArray 0 = o at *
      repeat' (first | (refine And.intro (fun q => ?_) (fun q => ?_) <;> cases q <;> (conv => whnf)) | fail)
      refine ref_at (k := 0) (by simp) (by simp; omega) ?_
      (conv => whnf)
      refine ld_at (by simp) hxi ?_
      (conv => whnf)
      refine And.intro (by simp [eL_length, dLen_len]; omega) ?_
      (conv => whnf)
      refine ⟨1, by omega, h1, ?_⟩
      ((conv => whnf); simp only [St.mk.injEq, List.cons.injEq, Prod.mk.injEq, AV.c.injEq, AV.agg.injEq, AV.tup.injEq, CV.d.injEq, D.int.injEq, D.bool.injEq, D.str.injEq, D.sl.injEq, Ent.arr.injEq, Ent.box.injEq, true_and, and_true, and_self, nInt_eq, Int.natCast_zero, dLen_eL, sLen_eq, partOf_none])
      refine ⟨wI h1 (by omega), ?_⟩
      rw [hnx, ← eL_app]
      rfl
    | succ j =>
      rw [show iEq ((j + 1 : Nat) : Int) 0 = false from decide_eq_false (by omega)]
      obtain ⟨y, hy⟩ := get_lt (show j < s.length by omega)
      have ek : wSub .i64 ((j + 1 : Nat) : Int) 1 = (j : Int) := by rw [wSub64] <;> omega
      repeat' (first | (refine And.intro (fun q => ?_) (fun q => ?_) <;> cases q <;> (conv => whnf)) | fail)
      refine ref_at (k := j + 1) rfl (by simp; omega) ?_
      (conv => whnf)
      repeat' (first | (refine And.intro (fun q => ?_) (fun q => ?_) <;> cases q <;> (conv => whnf)) | fail)
      refine ld_at (by simp) hxi ?_
      (conv => whnf)
      repeat' (first | (refine And.intro (fun q => ?_) (fun q => ?_) <;> cases q <;> (conv => whnf)) | fail)
      refine ref_at (k := j) ek (by simp; omega) ?_
      (conv => whnf)
      repeat' (first | (refine And.intro (fun q => ?_) (fun q => ?_) <;> cases q <;> (conv => whnf)) | fail)
      refine ld_at (by rw [ek]; simp) hy ?_
      (conv => whnf)
      repeat' (first | (refine And.intro (fun q => ?_) (fun q => ?_) <;> cases q <;> (conv => whnf)) | fail)
      generalize e2 : iEq x y = c2
      have hg1 : s.toArray[j + 1]! = x := by
        rw [getElem!_pos _ (j + 1) (by simpa using h1)]
        simpa using (List.getElem?_eq_some_iff.1 hxi).2
      have hg2 : s.toArray[j + 1 - 1]! = y := by
        rw [getElem!_pos _ (j + 1 - 1) (by simp; omega)]
        simpa using (List.getElem?_eq_some_iff.1 hy).2
      cases c2
      · have hkt : Go.Lib.keeps s.toArray (j + 1) = true := Go.Lib.keeps_pos (by rw [hg1, hg2]; simpa [iEq] using e2)
        rw [hkt, if_pos rfl] at hcs
        (conv => whnf)
        refine ref_at (k := j + 1) rfl (by simp; omega) ?_
        (conv => whnf)
        refine ld_at (by simp) hxi ?_
        (conv => whnf)
        refine And.intro (by simp [eL_length, dLen_len]; omega) ?_
        (conv => whnf)
        refine ⟨j + 1 + 1, by omega, h1, ?_⟩
        ((conv => whnf); simp only [St.mk.injEq, List.cons.injEq, Prod.mk.injEq, AV.c.injEq, AV.agg.injEq, AV.tup.injEq, CV.d.injEq, D.int.injEq, D.bool.injEq, D.str.injEq, D.sl.injEq, Ent.arr.injEq, Ent.box.injEq, true_and, and_true, and_self, nInt_eq, Int.natCast_zero, dLen_eL, sLen_eq, partOf_none])
        refine ⟨wI h1 (by omega), ?_⟩
        rw [hcs, ← eL_app]
        rfl
      · have hkt : Go.Lib.keeps s.toArray (j + 1) = false := Go.Lib.keeps_neg (by omega) (by rw [hg1, hg2]; simpa [iEq] using e2)
        rw [hkt] at hcs
        simp only [Bool.false_eq_true, if_false, List.append_nil] at hcs
        (conv => whnf)
        refine ⟨j + 1 + 1, by omega, h1, ?_⟩
        ((conv => whnf); simp only [St.mk.injEq, List.cons.injEq, Prod.mk.injEq, AV.c.injEq, AV.agg.injEq, AV.tup.injEq, CV.d.injEq, D.int.injEq, D.bool.injEq, D.str.injEq, D.sl.injEq, Ent.arr.injEq, Ent.box.injEq, true_and, and_true, and_self, nInt_eq, Int.natCast_zero, dLen_eL, sLen_eq, wI h1 (by omega), hcs])
  · obtain rfl : i = s.length := by omega
    (conv => whnf)

def cutsL (f : Int) : List Nd → List Int
  | [] => []
  | n :: r => if isF f n then n.c :: cutsL f r else cutsL f r
theorem cutsL_len (f : Int) : ∀ t : List Nd, (cutsL f t).length ≤ t.length
  | [] => by simp [cutsL]
  | n :: r => by
    have := cutsL_len f r
    simp only [cutsL]
    split <;> simp <;> omega
def stepsAtL (t : List Nd) (f : Int) : List Int := distinctL (cutsL f t)
theorem impl_StepsAt_spec (t : List Nd) (f : Int) (hl : t.length ≤ 1048576) : FnSpec PR f_impl_StepsAt [aT t, ai f] (.c (.ref 0 0 none)) [(0, .arr t_int 1 0 .own (eL cI (stepsAtL t f)))] 1 := by
  have hcl := cutsL_len f t
  refine FnSpec.intro hT p_impl_StepsAt rfl (by kernel_rfl) n_impl_StepsAt rfl ?_
  conv => whnf
  refine tri_loop hT [1, 5, 10, 11, 12] (α := Nat × List Int) (fun x => { t := [(1, ai f), (5, .c (.ref 0 0 none)), (10, aNs t), (11, ai t.length), (12, ai x.1)], h := [(0, .arr t_int 1 0 .own (eL cI x.2))], n := 1, N := 33 })
    (fun x => x.1 ≤ t.length ∧ x.2 ++ cutsL f (t.drop x.1) = cutsL f t) (fun x => t.length - x.1) (0, []) (by ((conv => whnf); simp only [St.mk.injEq, List.cons.injEq, Prod.mk.injEq, AV.c.injEq, AV.agg.injEq, AV.tup.injEq, CV.d.injEq, D.int.injEq, D.bool.injEq, D.str.injEq, D.sl.injEq, Ent.arr.injEq, Ent.box.injEq, true_and, and_true, and_self, nInt_eq, Int.natCast_zero, dLen_eL, sLen_eq, eL_nil])) ⟨Nat.zero_le _, by simp⟩ ?_
  intro ⟨k, o⟩ ⟨hk, ho⟩
  dsimp only at hk ho
  have hol : o.length ≤ t.length := by have := congrArg List.length ho; simp at this; omega
  (conv => whnf)
  refine ifB_i (fun h1 => ?_) (fun h1 => ?_) <;> (conv => whnf) <;> simp at h1
  · obtain ⟨n, hn⟩ := get_lt h1
    rw [drop_at hn, cutsL] at ho
    refine idx_at (by simp) hn ?_
    (conv => whnf)
    refine .inl ⟨_, _, _, impl_isLeaf_spec n, rfl, ?_⟩
    (conv => whnf)
    refine ifB_i (fun h2 => ?_) (fun h2 => ?_) <;> (conv => whnf)
    all_goals try (refine ifB_i (fun h4 => ?_) (fun h4 => ?_) <;> (conv => whnf))
    all_goals
      first | (have hb : isF f n = true := by simp_all [isF, bNot, iEq]) | (have hb : isF f n = false := by simp_all [isF, bNot, iEq])
      rw [hb] at ho
    all_goals first
      | (refine And.intro (by simp [eL_length, dLen_len]; omega) ?_
         (conv => whnf)
         refine ⟨(k + 1, o ++ [n.c]), by dsimp only; omega, ⟨h1, by simpa using ho⟩, ?_⟩
         ((conv => whnf); simp only [St.mk.injEq, List.cons.injEq, Prod.mk.injEq, AV.c.injEq, AV.agg.injEq, AV.tup.injEq, CV.d.injEq, D.int.injEq, D.bool.injEq, D.str.injEq, D.sl.injEq, Ent.arr.injEq, Ent.box.injEq, true_and, and_true, and_self, nInt_eq, Int.natCast_zero, dLen_eL, sLen_eq, partOf_none, wI h1 (by omega)])
         rw [← eL_app]
         rfl)
      | (refine ⟨(k + 1, o), by dsimp only; omega, ⟨h1, by simpa using ho⟩, ?_⟩
         ((conv => whnf); simp only [St.mk.injEq, List.cons.injEq, Prod.mk.injEq, AV.c.injEq, AV.agg.injEq, AV.tup.injEq, CV.d.injEq, D.int.injEq, D.bool.injEq, D.str.injEq, D.sl.injEq, Ent.arr.injEq, Ent.box.injEq, true_and, and_true, and_self, nInt_eq, Int.natCast_zero, dLen_eL, sLen_eq, wI h1 (by omega)])
         done)
  · obtain rfl : k = t.length := by omega
    simp [cutsL] at ho
    subst ho
    refine .inr (.inl ⟨_, _, _, impl_Distinct_spec _ (by dsimp only; omega), rfl, ⟨flat_cI _, trivial⟩, ?_⟩)
    (conv => whnf)
    rfl

theorem spec_StepsAt_spec (t : List Nd) (f : Int) (hl : t.length ≤ 1048576) : FnSpec PR f_spec_StepsAt [aT t, ai f] (.c (.ref 0 0 none)) [(0, .arr t_int 1 0 .own (eL cI (stepsAtL t f)))] 1 := by
  have hcl := cutsL_len f t
  refine FnSpec.intro hT p_spec_StepsAt rfl (by kernel_rfl) n_spec_StepsAt rfl ?_
  conv => whnf
  refine tri_loop hT [1, 2, 5, 6] (α := Nat × List Int) (fun x => { t := [(1, ai f), (2, .c (.ptr 0 0)), (5, .c (.ref 1 0 none)), (6, ai x.1)], h := [(0, .box t_impl_Tree (cTr t)), (1, .arr t_int 1 0 .own (eL cI x.2))], n := 2, N := 42 })
    (fun x => x.1 ≤ t.length ∧ x.2 ++ cutsL f (t.drop x.1) = cutsL f t) (fun x => t.length - x.1) (0, []) (by ((conv => whnf); simp only [St.mk.injEq, List.cons.injEq, Prod.mk.injEq, AV.c.injEq, AV.agg.injEq, AV.tup.injEq, CV.d.injEq, D.int.injEq, D.bool.injEq, D.str.injEq, D.sl.injEq, Ent.arr.injEq, Ent.box.injEq, true_and, and_true, and_self, nInt_eq, Int.natCast_zero, dLen_eL, sLen_eq, eL_nil])) ⟨Nat.zero_le _, by simp⟩ ?_
  intro ⟨k, o⟩ ⟨hk, ho⟩
  dsimp only at hk ho
  have hol : o.length ≤ t.length := by have := congrArg List.length ho; simp at this; omega
  (conv => whnf)
  refine ifB_i (fun h1 => ?_) (fun h1 => ?_) <;> (conv => whnf) <;> simp at h1
  · obtain ⟨n, hn⟩ := get_lt h1
    rw [drop_at hn, cutsL] at ho
    refine idx_at (by simp) hn ?_
    (conv => whnf)
    refine .inl ⟨_, _, _, spec_l17Inner_spec n, rfl, ?_⟩
    (conv => whnf)
    refine ifB_i (fun h2 => ?_) (fun h2 => ?_) <;> (conv => whnf)
    all_goals try (refine idx_at (by simp) hn ?_; (conv => whnf))
    all_goals try (refine ifB_i (fun h4 => ?_) (fun h4 => ?_) <;> (conv => whnf))
    all_goals
      first | (have hb : isF f n = true := by simp_all [isF, bNot, iEq]) | (have hb : isF f n = false := by simp_all [isF, bNot, iEq])
      rw [hb] at ho
    all_goals try (refine idx_at (by simp) hn ?_; (conv => whnf))
    all_goals first
      | (refine And.intro (by simp [eL_length, dLen_len]; omega) ?_
         (conv => whnf)
         refine ⟨(k + 1, o ++ [n.c]), by dsimp only; omega, ⟨h1, by simpa using ho⟩, ?_⟩
         ((conv => whnf); simp only [St.mk.injEq, List.cons.injEq, Prod.mk.injEq, AV.c.injEq, AV.agg.injEq, AV.tup.injEq, CV.d.injEq, D.int.injEq, D.bool.injEq, D.str.injEq, D.sl.injEq, Ent.arr.injEq, Ent.box.injEq, true_and, and_true, and_self, nInt_eq, Int.natCast_zero, dLen_eL, sLen_eq, partOf_none, wI h1 (by omega)])
         rw [← eL_app]
         rfl)
      | (refine ⟨(k + 1, o), by dsimp only; omega, ⟨h1, by simpa using ho⟩, ?_⟩
         ((conv => whnf); simp only [St.mk.injEq, List.cons.injEq, Prod.mk.injEq, AV.c.injEq, AV.agg.injEq, AV.tup.injEq, CV.d.injEq, D.int.injEq, D.bool.injEq, D.str.injEq, D.sl.injEq, Ent.arr.injEq, Ent.box.injEq, true_and, and_true, and_self, nInt_eq, Int.natCast_zero, dLen_eL, sLen_eq, wI h1 (by omega)])
         done)
  · obtain rfl : k = t.length := by omega
    simp [cutsL] at ho
    subst ho
    refine .inr (.inl ⟨_, _, _, spec_Distinct_spec _ (by dsimp only; omega), rfl, ⟨flat_cI _, trivial⟩, ?_⟩)
    (conv => whnf)
    rfl
end Go.H.S
