/- Library, part M: equality of models; desks. -/
import Derived.Test.YtpkpedaonmbeiaaLJ
import Derived.Test.YtpkpedaonmbeiaaLMA
import Derived.Test.YtpkpedaonmbeiaaShelf
import Derived.Sort.OwnSortedInts
namespace Go.H.S
open Go Go.Proofs Go.H
attribute [local irreducible] Tri FnSpec FnSpecM
set_option maxRecDepth 100000
set_option linter.unusedSimpArgs false
set_option linter.unusedVariables false


theorem slices_EqualFunc_Tree_spec (a b : List (List Nd)) (g : FuncId) (hg : ∀ x ∈ a, ∀ y, FnSpec PR g [aT x, aT y] (ab (decide (x = y))) [] 0) (ha : a.length ≤ 9223372036854775807) :
    FnSpec PR f_slices_EqualFunc_Limpl_Tree_Limpl_Tree_impl_Tree_impl_Tree [aTs a, aTs b, .c (.d (.fn g []))] (ab (decide (a = b))) [] 0 := by
  refine FnSpec.intro hT p_slices_EqualFunc_Limpl_Tree_Limpl_Tree_impl_Tree_impl_Tree rfl (by kernel_rfl) n_slices_EqualFunc_Limpl_Tree_Limpl_Tree_impl_Tree_impl_Tree rfl ?_
  conv => whnf
  refine ifB_i (fun h0 => ?_) (fun h0 => ?_) <;> (conv => whnf) <;> simp only [nInt_eq, Int.natCast_zero, dLen_eL, sLen_eq, nOf_eq, Int.toNat_natCast, nAdd_eq, nSub_eq, dLen_nil, dLen_cons, iLt_t, iLt_f, iLe_t, iLe_f, iEq_t, iEq_f, sEq_t, sEq_f, bNot_t, bNot_f, bAnd_t, bEq_t, bEq_f, Bool.not_eq_true, Bool.not_eq_false, Bool.true_eq_false, Bool.false_eq_true] at h0
  · rw [eq_len (by omega)]
  refine tri_loop hT [1, 2, 15, 16, 17] (α := Nat) (fun x => { t := [(1, aTs b), (2, .c (.d (.fn g []))), (15, aTs a), (16, ai a.length), (17, ai x)], h := [], n := 0, N := 32 })
    (fun x => x ≤ a.length ∧ decide (a.drop x = b.drop x) = decide (a = b)) (fun x => a.length - x) 0 (by ((conv => whnf); simp only [St.mk.injEq, List.cons.injEq, Prod.mk.injEq, AV.c.injEq, AV.agg.injEq, AV.tup.injEq, CV.d.injEq, D.int.injEq, D.bool.injEq, D.str.injEq, D.sl.injEq, Ent.arr.injEq, Ent.box.injEq, true_and, and_true, and_self, nInt_eq, Int.natCast_zero, dLen_eL, sLen_eq])) ⟨Nat.zero_le _, rfl⟩ ?_
  intro k ⟨hk, hi⟩
  (conv => whnf)
  refine ifB_i (fun h1 => ?_) (fun h1 => ?_) <;> (conv => whnf) <;> simp at h1
  · obtain ⟨s, hs⟩ := get_lt h1
    obtain ⟨u, hu⟩ := get_lt (l := b) (k := k) (by omega)
    rw [eq_drop hs hu] at hi
    refine idx_at (by simp) hs ?_
    (conv => whnf)
    refine idx_at (by simp) hu ?_
    (conv => whnf)
    refine .inl ⟨_, _, _, hg s (List.mem_of_getElem? hs) u, rfl, ?_⟩
    generalize decide (s = u) = c at hi ⊢
    cases c <;> (conv => whnf)
    · simp only [Bool.false_and] at hi
      rw [← hi]
    · refine ⟨k + 1, by omega, ⟨h1, by rw [← hi, Bool.true_and]⟩, ?_⟩
      ((conv => whnf); simp only [St.mk.injEq, List.cons.injEq, Prod.mk.injEq, AV.c.injEq, AV.agg.injEq, AV.tup.injEq, CV.d.injEq, D.int.injEq, D.bool.injEq, D.str.injEq, D.sl.injEq, Ent.arr.injEq, Ent.box.injEq, true_and, and_true, and_self, nInt_eq, Int.natCast_zero, dLen_eL, sLen_eq, wI h1 ha])
  · obtain rfl : k = a.length := by omega
    have : decide (a.drop a.length = b.drop a.length) = true := by simp [List.drop_of_length_le (show b.length ≤ a.length by omega)]
    rw [this] at hi
    rw [← hi]

def eqMd (a b : Mdl) : Bool := decide (a.names = b.names) && decide (a.signs = b.signs) && decide (a.base = b.base) && decide (a.trees = b.trees)

theorem impl_SameModel_spec (a b : Mdl) (ha : okModel a) : FnSpec PR f_impl_SameModel [aM a, aM b] (ab (eqMd a b)) [] 0 := by
  obtain ⟨o0, o1, o2⟩ := ha
  unfold eqMd
  refine FnSpec.intro hT p_impl_SameModel rfl (by kernel_rfl) n_impl_SameModel rfl ?_
  conv => whnf
  refine .inl ⟨_, _, _, slices_Equal_Lstring_string_spec a.names b.names o0.1, rfl, ?_⟩
  generalize decide (a.names = b.names) = c0
  cases c0
  · (conv => whnf)
    rfl
  (conv => whnf)
  refine .inl ⟨_, _, _, slices_Equal_Lint_int_spec a.signs b.signs o1, rfl, ?_⟩
  generalize decide (a.signs = b.signs) = c1
  cases c1
  · (conv => whnf)
    rfl
  (conv => whnf)
  refine ifB_i (fun h => ?_) (fun h => ?_)
  · (conv => whnf)
    simp only [nInt_eq, Int.natCast_zero, dLen_eL, sLen_eq, nOf_eq, Int.toNat_natCast, nAdd_eq, nSub_eq, dLen_nil, dLen_cons, iLt_t, iLt_f, iLe_t, iLe_f, iEq_t, iEq_f, sEq_t, sEq_f, bNot_t, bNot_f, bAnd_t, bEq_t, bEq_f, Bool.not_eq_true, Bool.not_eq_false, Bool.true_eq_false, Bool.false_eq_true] at h
    rw [decide_eq_true h]
    refine .inl ⟨_, _, _, slices_EqualFunc_Tree_spec a.trees b.trees f_impl_SameTree (fun x hx y => impl_SameTree_spec x y (o2.2 x hx)) o2.1, rfl, ?_⟩
    (conv => whnf)
    rfl
  · (conv => whnf)
    simp only [nInt_eq, Int.natCast_zero, dLen_eL, sLen_eq, nOf_eq, Int.toNat_natCast, nAdd_eq, nSub_eq, dLen_nil, dLen_cons, iLt_t, iLt_f, iLe_t, iLe_f, iEq_t, iEq_f, sEq_t, sEq_f, bNot_t, bNot_f, bAnd_t, bEq_t, bEq_f, Bool.not_eq_true, Bool.not_eq_false, Bool.true_eq_false, Bool.false_eq_true] at h
    rw [decide_eq_false h]
    rfl

theorem spec_SameRows_one (a b : List ByteArray) (ha : a.length ≤ 9223372036854775807) (hb : b.length ≤ 9223372036854775807) : FnSpec PR f_spec_SameRows [.c (.d (.sl 1 [[.sl 1 (eL cS a)]])), .c (.d (.sl 1 [[.sl 1 (eL cS b)]]))] (ab (decide (a = b))) [] 0 := by
  have e : ∀ x : List ByteArray, [[D.sl 1 (eL cS x)]] = eL cSs [x] := fun x => by rw [eL_cons, eL_nil]; rfl
  rw [e, e]
  refine FnSpec.intro hT p_spec_SameRows rfl (by kernel_rfl) n_spec_SameRows rfl ?_
  conv => whnf
  refine ifB_i (fun h0 => ?_) (fun h0 => ?_) <;> (conv => whnf) <;> simp only [nInt_eq, Int.natCast_zero, dLen_eL, sLen_eq, nOf_eq, Int.toNat_natCast, nAdd_eq, nSub_eq, dLen_nil, dLen_cons, iLt_t, iLt_f, iLe_t, iLe_f, iEq_t, iEq_f, sEq_t, sEq_f, bNot_t, bNot_f, bAnd_t, bEq_t, bEq_f, Bool.not_eq_true, Bool.not_eq_false, Bool.true_eq_false, Bool.false_eq_true, List.length_singleton] at h0
  · exact absurd rfl h0
  refine tri_loop hT [0, 1, 5] (α := Nat) (fun x => { t := [(0, .c (.d (.sl 1 (eL cSs [a])))), (1, .c (.d (.sl 1 (eL cSs [b])))), (5, ai x)], h := [], n := 0, N := 53 })
    (fun x => x = 0 ∨ (x = 1 ∧ a = b)) (fun x => 1 - x) 0 (by ((conv => whnf); simp only [St.mk.injEq, List.cons.injEq, Prod.mk.injEq, AV.c.injEq, AV.agg.injEq, AV.tup.injEq, CV.d.injEq, D.int.injEq, D.bool.injEq, D.str.injEq, D.sl.injEq, Ent.arr.injEq, Ent.box.injEq, true_and, and_true, and_self, nInt_eq, Int.natCast_zero, dLen_eL, sLen_eq])) (.inl rfl) ?_
  intro x hx
  rcases hx with rfl | ⟨rfl, rfl⟩
  rotate_left
  · (conv => whnf)
    refine ifB_i (fun h1 => ?_) (fun h1 => ?_)
    · simp at h1
    (conv => whnf)
    simp
  · have g0 : ([a] : List (List ByteArray))[0]? = some a := rfl
    have g1 : ([b] : List (List ByteArray))[0]? = some b := rfl
    (conv => whnf)
    refine ifB_i (fun h1 => ?_) (fun h1 => absurd h1 (by simp))
    (conv => whnf)
    refine tri_conf hT hmix (by kernel_rfl) ?_
    (conv => whnf)
    refine idx_at (by simp) g0 ?_
    (conv => whnf)
    refine idx_at (by simp) g1 ?_
    (conv => whnf)
    refine ifB_i (fun h2 => ?_) (fun h2 => ?_) <;> (conv => whnf) <;> simp only [nInt_eq, Int.natCast_zero, dLen_eL, sLen_eq, nOf_eq, Int.toNat_natCast, nAdd_eq, nSub_eq, dLen_nil, dLen_cons, iLt_t, iLt_f, iLe_t, iLe_f, iEq_t, iEq_f, sEq_t, sEq_f, bNot_t, bNot_f, bAnd_t, bEq_t, bEq_f, Bool.not_eq_true, Bool.not_eq_false, Bool.true_eq_false, Bool.false_eq_true] at h2
    · rw [eq_len (by omega)]
    refine tri_loop hT [0, 1, 5, 6] (α := Nat) (fun x => { t := [(0, .c (.d (.sl 1 (eL cSs [a])))), (1, .c (.d (.sl 1 (eL cSs [b])))), (5, ai ((0 : Nat) : Int)), (6, ai x)], h := [], n := 0, N := 53 })
      (fun x => x ≤ a.length ∧ decide (a.drop x = b.drop x) = decide (a = b)) (fun x => a.length - x) 0 (by ((conv => whnf); simp only [St.mk.injEq, List.cons.injEq, Prod.mk.injEq, AV.c.injEq, AV.agg.injEq, AV.tup.injEq, CV.d.injEq, D.int.injEq, D.bool.injEq, D.str.injEq, D.sl.injEq, Ent.arr.injEq, Ent.box.injEq, true_and, and_true, and_self, nInt_eq, Int.natCast_zero, dLen_eL, sLen_eq])) ⟨Nat.zero_le _, rfl⟩ ?_
    intro k ⟨hk, hi⟩
    (conv => whnf)
    refine idx_at (by simp) g0 ?_
    (conv => whnf)
    refine ifB_i (fun h3 => ?_) (fun h3 => ?_) <;> (conv => whnf) <;> simp at h3
    · obtain ⟨s, hs⟩ := get_lt h3
      obtain ⟨u, hu⟩ := get_lt (l := b) (k := k) (by omega)
      rw [eq_drop hs hu] at hi
      refine tri_conf hT hmix (by kernel_rfl) ?_
      (conv => whnf)
      refine idx_at (by simp) g0 ?_
      (conv => whnf)
      refine idx_at (by simp) hs ?_
      (conv => whnf)
      refine idx_at (by simp) g1 ?_
      (conv => whnf)
      refine idx_at (by simp) hu ?_
      (conv => whnf)
      refine ifB_i (fun h4 => ?_) (fun h4 => ?_) <;> (conv => whnf) <;> simp only [nInt_eq, Int.natCast_zero, dLen_eL, sLen_eq, nOf_eq, Int.toNat_natCast, nAdd_eq, nSub_eq, dLen_nil, dLen_cons, iLt_t, iLt_f, iLe_t, iLe_f, iEq_t, iEq_f, sEq_t, sEq_f, bNot_t, bNot_f, bAnd_t, bEq_t, bEq_f, Bool.not_eq_true, Bool.not_eq_false, Bool.true_eq_false, Bool.false_eq_true] at h4
      · rw [decide_eq_false h4] at hi
        simp only [Bool.false_and] at hi
        rw [← hi]
      · rw [decide_eq_true h4] at hi
        refine ⟨k + 1, by omega, ⟨h3, by rw [← hi, Bool.true_and]⟩, ?_⟩
        ((conv => whnf); simp only [St.mk.injEq, List.cons.injEq, Prod.mk.injEq, AV.c.injEq, AV.agg.injEq, AV.tup.injEq, CV.d.injEq, D.int.injEq, D.bool.injEq, D.str.injEq, D.sl.injEq, Ent.arr.injEq, Ent.box.injEq, true_and, and_true, and_self, nInt_eq, Int.natCast_zero, dLen_eL, sLen_eq, wI h3 ha])
    · obtain rfl : k = a.length := by omega
      have : decide (a.drop a.length = b.drop a.length) = true := by simp [List.drop_of_length_le (show b.length ≤ a.length by omega)]
      rw [this] at hi
      have hab : a = b := by simpa using hi.symm
      refine ⟨1, by simp, .inr ⟨rfl, hab⟩, ?_⟩
      ((conv => whnf); simp only [St.mk.injEq, List.cons.injEq, Prod.mk.injEq, AV.c.injEq, AV.agg.injEq, AV.tup.injEq, CV.d.injEq, D.int.injEq, D.bool.injEq, D.str.injEq, D.sl.injEq, Ent.arr.injEq, Ent.box.injEq, true_and, and_true, and_self, nInt_eq, Int.natCast_zero, dLen_eL, sLen_eq])
      rw [wAdd64 (by omega) (by omega)]
      rfl
theorem spec_l9Texts_spec (a b : List ByteArray) (ha : a.length ≤ 9223372036854775807) (hb : b.length ≤ 9223372036854775807) : FnSpec PR f_spec_l9Texts [aSs a, aSs b] (ab (decide (a = b))) [] 0 := by
  refine FnSpec.intro hT p_spec_l9Texts rfl (by kernel_rfl) n_spec_l9Texts rfl ?_
  conv => whnf
  refine .inl ⟨_, _, _, spec_SameRows_one a b ha hb, rfl, ?_⟩
  (conv => whnf)

theorem spec_SameModel_spec (a b : Mdl) (ha : okModel a) (hb : okModel b) : FnSpec PR f_spec_SameModel [aM a, aM b] (ab (eqMd a b)) [] 0 := by
  obtain ⟨o0, o1, o2⟩ := ha
  unfold eqMd
  refine FnSpec.intro hT p_spec_SameModel rfl (by kernel_rfl) n_spec_SameModel rfl ?_
  conv => whnf
  refine .inl ⟨_, _, _, spec_l9Texts_spec a.names b.names o0.1 hb.1.1, rfl, ?_⟩
  generalize decide (a.names = b.names) = c0
  cases c0
  · (conv => whnf)
    rfl
  (conv => whnf)
  refine .inl ⟨_, _, _, spec_l8Ints_spec a.signs b.signs o1, rfl, ?_⟩
  generalize decide (a.signs = b.signs) = c1
  cases c1
  · (conv => whnf)
    rfl
  (conv => whnf)
  refine ifB_i (fun h => ?_) (fun h => ?_) <;> (conv => whnf) <;> simp only [nInt_eq, Int.natCast_zero, dLen_eL, sLen_eq, nOf_eq, Int.toNat_natCast, nAdd_eq, nSub_eq, dLen_nil, dLen_cons, iLt_t, iLt_f, iLe_t, iLe_f, iEq_t, iEq_f, sEq_t, sEq_f, bNot_t, bNot_f, bAnd_t, bEq_t, bEq_f, Bool.not_eq_true, Bool.not_eq_false, Bool.true_eq_false, Bool.false_eq_true] at h
  · rw [decide_eq_false h]
    rfl
  rw [decide_eq_true h]
  refine ifB_i (fun h0 => ?_) (fun h0 => ?_) <;> (conv => whnf) <;> simp only [nInt_eq, Int.natCast_zero, dLen_eL, sLen_eq, nOf_eq, Int.toNat_natCast, nAdd_eq, nSub_eq, dLen_nil, dLen_cons, iLt_t, iLt_f, iLe_t, iLe_f, iEq_t, iEq_f, sEq_t, sEq_f, bNot_t, bNot_f, bAnd_t, bEq_t, bEq_f, Bool.not_eq_true, Bool.not_eq_false, Bool.true_eq_false, Bool.false_eq_true] at h0
  · rw [eq_len (a := a.trees) (by omega)]
    rfl
  refine tri_loop hT [2, 3, 5] (α := Nat) (fun x => { t := [(2, .c (.ptr 0 0)), (3, .c (.ptr 1 0)), (5, ai x)], h := [(0, .box t_impl_Model (cM a)), (1, .box t_impl_Model (cM b))], n := 2, N := 55 })
    (fun x => x ≤ a.trees.length ∧ decide (a.trees.drop x = b.trees.drop x) = decide (a.trees = b.trees)) (fun x => a.trees.length - x) 0 (by ((conv => whnf); simp only [St.mk.injEq, List.cons.injEq, Prod.mk.injEq, AV.c.injEq, AV.agg.injEq, AV.tup.injEq, CV.d.injEq, D.int.injEq, D.bool.injEq, D.str.injEq, D.sl.injEq, Ent.arr.injEq, Ent.box.injEq, true_and, and_true, and_self, nInt_eq, Int.natCast_zero, dLen_eL, sLen_eq])) ⟨Nat.zero_le _, rfl⟩ ?_
  intro k ⟨hk, hi⟩
  (conv => whnf)
  refine ifB_i (fun h1 => ?_) (fun h1 => ?_) <;> (conv => whnf) <;> simp at h1
  · obtain ⟨s, hs⟩ := get_lt h1
    obtain ⟨u, hu⟩ := get_lt (l := b.trees) (k := k) (by omega)
    rw [eq_drop hs hu] at hi
    refine tri_conf hT hmix (by kernel_rfl) ?_
    (conv => whnf)
    refine idx_at (by simp) hs ?_
    (conv => whnf)
    refine idx_at (by simp) hu ?_
    (conv => whnf)
    refine ⟨_, _, spec_SameTree_spec s u (o2.2 s (List.mem_of_getElem? hs)), rfl, ?_⟩
    generalize decide (s = u) = c at hi ⊢
    cases c <;> (conv => whnf)
    · simp only [Bool.false_and] at hi
      rw [← hi]
      rfl
    · refine ⟨k + 1, by omega, ⟨h1, by rw [← hi, Bool.true_and]⟩, ?_⟩
      ((conv => whnf); simp only [St.mk.injEq, List.cons.injEq, Prod.mk.injEq, AV.c.injEq, AV.agg.injEq, AV.tup.injEq, CV.d.injEq, D.int.injEq, D.bool.injEq, D.str.injEq, D.sl.injEq, Ent.arr.injEq, Ent.box.injEq, true_and, and_true, and_self, nInt_eq, Int.natCast_zero, dLen_eL, sLen_eq, wI h1 o2.1])
  · obtain rfl : k = a.trees.length := by omega
    have : decide (a.trees.drop a.trees.length = b.trees.drop a.trees.length) = true := by simp [List.drop_of_length_le (show b.trees.length ≤ a.trees.length by omega)]
    rw [this] at hi
    rw [← hi]
    rfl

structure Dsk where
  csv : ByteArray
  config : ByteArray
  model : Mdl
  made : Bool
abbrev cD (d : Dsk) : List CV := [.d (.str d.csv), .d (.str d.config), .d (.sl 1 (eL cS d.model.names)), .d (.sl 1 (eL cI d.model.signs)), .d (.int .i64 d.model.base), .d (.sl 1 (eL cT d.model.trees)), .d (.bool d.made)]
abbrev aD (d : Dsk) : AV := .agg (cD d)
def okDesk (d : Dsk) : Prop := d.csv.size ≤ 9223372036854775807 ∧ d.config.size ≤ 9223372036854775807 ∧ okModel d.model
def costDesk (d : Dsk) : Nat := d.csv.size + d.config.size + costModel d.model
def eqDs (a b : Dsk) : Bool := decide (a.csv = b.csv) && decide (a.config = b.config) && eqMd a.model b.model && decide (a.made = b.made)

theorem szDesk_spec (x : Dsk) (n : Int) (h0 : 0 ≤ n) (hn : n ≤ 1048576) (ho : okDesk x) : FnSpec PR f_laws_szDesk [aD x, ai n] (ai (bud n (costDesk x))) [] 0 := by
  obtain ⟨o0, o1, o2⟩ := ho
  refine FnSpec.intro hT p_laws_szDesk rfl (by kernel_rfl) n_laws_szDesk rfl ?_
  conv => whnf
  have e0 : wSub .i64 n x.csv.size = n - x.csv.size := wSub64 (by omega) (by omega)
  refine ifB_i (fun h => ?_) (fun h => ?_) <;> (conv => whnf) <;> simp only [nInt_eq, Int.natCast_zero, dLen_eL, sLen_eq, nOf_eq, Int.toNat_natCast, nAdd_eq, nSub_eq, dLen_nil, dLen_cons, iLt_t, iLt_f, iLe_t, iLe_f, iEq_t, iEq_f, sEq_t, sEq_f, bNot_t, bNot_f, bAnd_t, bEq_t, bEq_f, Bool.not_eq_true, Bool.not_eq_false, Bool.true_eq_false, Bool.false_eq_true, e0] at h
  · rw [costDesk, bud_more (c := x.csv.size) (bud_lt (by omega)) (by omega)]
  have k0 : wSub .i64 n x.csv.size = bud n x.csv.size := by rw [e0]; exact (bud_le (by omega)).symm
  have g0 : 0 ≤ bud n x.csv.size := by rw [← k0, e0]; exact h
  simp only [sLen_eq, k0]
  have l1 : bud n x.csv.size ≤ 1048576 := bud_mono hn
  have e1 : wSub .i64 (bud n x.csv.size) x.config.size = bud n x.csv.size - x.config.size := wSub64 (by omega) (by omega)
  refine ifB_i (fun h => ?_) (fun h => ?_) <;> (conv => whnf) <;> simp only [nInt_eq, Int.natCast_zero, dLen_eL, sLen_eq, nOf_eq, Int.toNat_natCast, nAdd_eq, nSub_eq, dLen_nil, dLen_cons, iLt_t, iLt_f, iLe_t, iLe_f, iEq_t, iEq_f, sEq_t, sEq_f, bNot_t, bNot_f, bAnd_t, bEq_t, bEq_f, Bool.not_eq_true, Bool.not_eq_false, Bool.true_eq_false, Bool.false_eq_true, e1] at h
  · rw [costDesk, bud_more (c := x.csv.size + x.config.size) (bud_slt h g0) (by omega)]
  have k1 : wSub .i64 (bud n x.csv.size) x.config.size = bud n (x.csv.size + x.config.size) := by rw [e1]; exact bud_sle h g0
  have g1 : 0 ≤ bud n (x.csv.size + x.config.size) := by rw [← k1, e1]; exact h
  simp only [sLen_eq, k1]
  have s2 := szModel_spec x.model _ g1 (bud_mono hn) o2
  rw [bud_bud g1] at s2
  refine .inl ⟨_, _, _, s2, rfl, ?_⟩
  (conv => whnf)
  refine ifB_i (fun h => ?_) (fun h => ?_) <;> (conv => whnf) <;> simp only [nInt_eq, Int.natCast_zero, dLen_eL, sLen_eq, nOf_eq, Int.toNat_natCast, nAdd_eq, nSub_eq, dLen_nil, dLen_cons, iLt_t, iLt_f, iLe_t, iLe_f, iEq_t, iEq_f, sEq_t, sEq_f, bNot_t, bNot_f, bAnd_t, bEq_t, bEq_f, Bool.not_eq_true, Bool.not_eq_false, Bool.true_eq_false, Bool.false_eq_true] at h
  · rw [costDesk, bud_m1 h]
  · rw [costDesk]

theorem toDesk_spec (x : Dsk) (ho : smModel x.model) : FnSpec PR f_laws_toDesk [aD x] (.agg [.d (.str x.csv), .d (.str x.config), .ref 0 0 none, .ref 1 0 none, .d (.int .i64 x.model.base), .ref 2 0 none, .d (.bool x.made)])
    [(0, .arr t_string 1 0 .own (eL cS x.model.names)), (1, .arr t_int 1 0 .own (eL cI x.model.signs)), (2, .arr t_impl_Tree 1 0 .own (eL cT x.model.trees))] 3 := by
  refine FnSpec.intro hT p_laws_toDesk rfl (by kernel_rfl) n_laws_toDesk rfl ?_
  conv => whnf
  refine .inl ⟨_, _, _, toModel_spec x.model ho, rfl, ?_⟩
  (conv => whnf)

theorem eqDesk_spec (x : Dsk) (ho : okModel x.model) : FnSpec PR f_laws_eqDesk [aD x, aD x] (ab true) [] 0 := by
  refine FnSpec.intro hT p_laws_eqDesk rfl (by kernel_rfl) n_laws_eqDesk rfl ?_
  conv => whnf
  refine ifB_i (fun hb => ?_) (fun hb => ?_)
  · simp at hb
  (conv => whnf)
  refine ifB_i (fun hb => ?_) (fun hb => ?_)
  · simp at hb
  (conv => whnf)
  refine .inl ⟨_, _, _, eqModel_spec x.model ho, rfl, ?_⟩
  (conv => whnf)
  cases x.made <;> (conv => whnf)

theorem spec_SameDesk_spec (a b : Dsk) (ha : okModel a.model) (hb : okModel b.model) : FnSpec PR f_spec_SameDesk [aD a, aD b] (ab (eqDs a b)) [] 0 := by
  unfold eqDs
  refine FnSpec.intro hT p_spec_SameDesk rfl (by kernel_rfl) n_spec_SameDesk rfl ?_
  conv => whnf
  refine ifB_i (fun h => ?_) (fun h => ?_)
  rotate_left
  · (conv => whnf)
    simp only [nInt_eq, Int.natCast_zero, dLen_eL, sLen_eq, nOf_eq, Int.toNat_natCast, nAdd_eq, nSub_eq, dLen_nil, dLen_cons, iLt_t, iLt_f, iLe_t, iLe_f, iEq_t, iEq_f, sEq_t, sEq_f, bNot_t, bNot_f, bAnd_t, bEq_t, bEq_f, Bool.not_eq_true, Bool.not_eq_false, Bool.true_eq_false, Bool.false_eq_true] at h
    rw [decide_eq_false h]
    rfl
  (conv => whnf)
  simp only [nInt_eq, Int.natCast_zero, dLen_eL, sLen_eq, nOf_eq, Int.toNat_natCast, nAdd_eq, nSub_eq, dLen_nil, dLen_cons, iLt_t, iLt_f, iLe_t, iLe_f, iEq_t, iEq_f, sEq_t, sEq_f, bNot_t, bNot_f, bAnd_t, bEq_t, bEq_f, Bool.not_eq_true, Bool.not_eq_false, Bool.true_eq_false, Bool.false_eq_true] at h
  rw [decide_eq_true h]
  refine ifB_i (fun h => ?_) (fun h => ?_)
  rotate_left
  · (conv => whnf)
    simp only [nInt_eq, Int.natCast_zero, dLen_eL, sLen_eq, nOf_eq, Int.toNat_natCast, nAdd_eq, nSub_eq, dLen_nil, dLen_cons, iLt_t, iLt_f, iLe_t, iLe_f, iEq_t, iEq_f, sEq_t, sEq_f, bNot_t, bNot_f, bAnd_t, bEq_t, bEq_f, Bool.not_eq_true, Bool.not_eq_false, Bool.true_eq_false, Bool.false_eq_true] at h
    rw [decide_eq_false h]
    rfl
  (conv => whnf)
  simp only [nInt_eq, Int.natCast_zero, dLen_eL, sLen_eq, nOf_eq, Int.toNat_natCast, nAdd_eq, nSub_eq, dLen_nil, dLen_cons, iLt_t, iLt_f, iLe_t, iLe_f, iEq_t, iEq_f, sEq_t, sEq_f, bNot_t, bNot_f, bAnd_t, bEq_t, bEq_f, Bool.not_eq_true, Bool.not_eq_false, Bool.true_eq_false, Bool.false_eq_true] at h
  rw [decide_eq_true h]
  obtain ⟨c1, c2, c3, c4⟩ := a
  obtain ⟨d1, d2, d3, d4⟩ := b
  dsimp only at *
  cases c4 <;> cases d4 <;> (conv => whnf)
  all_goals first
    | (refine .inl ⟨_, _, _, spec_SameModel_spec c3 d3 ha hb, rfl, ?_⟩
       (conv => whnf)
       simp)
    | simp

theorem impl_SameDesk_spec (a b : Dsk) (ha : okModel a.model) : FnSpec PR f_impl_SameDesk [aD a, aD b] (ab (eqDs a b)) [] 0 := by
  unfold eqDs
  refine FnSpec.intro hT p_impl_SameDesk rfl (by kernel_rfl) n_impl_SameDesk rfl ?_
  conv => whnf
  refine ifB_i (fun h => ?_) (fun h => ?_)
  rotate_left
  · (conv => whnf)
    simp only [nInt_eq, Int.natCast_zero, dLen_eL, sLen_eq, nOf_eq, Int.toNat_natCast, nAdd_eq, nSub_eq, dLen_nil, dLen_cons, iLt_t, iLt_f, iLe_t, iLe_f, iEq_t, iEq_f, sEq_t, sEq_f, bNot_t, bNot_f, bAnd_t, bEq_t, bEq_f, Bool.not_eq_true, Bool.not_eq_false, Bool.true_eq_false, Bool.false_eq_true] at h
    rw [decide_eq_false h]
    rfl
  (conv => whnf)
  simp only [nInt_eq, Int.natCast_zero, dLen_eL, sLen_eq, nOf_eq, Int.toNat_natCast, nAdd_eq, nSub_eq, dLen_nil, dLen_cons, iLt_t, iLt_f, iLe_t, iLe_f, iEq_t, iEq_f, sEq_t, sEq_f, bNot_t, bNot_f, bAnd_t, bEq_t, bEq_f, Bool.not_eq_true, Bool.not_eq_false, Bool.true_eq_false, Bool.false_eq_true] at h
  rw [decide_eq_true h]
  refine ifB_i (fun h => ?_) (fun h => ?_)
  rotate_left
  · (conv => whnf)
    simp only [nInt_eq, Int.natCast_zero, dLen_eL, sLen_eq, nOf_eq, Int.toNat_natCast, nAdd_eq, nSub_eq, dLen_nil, dLen_cons, iLt_t, iLt_f, iLe_t, iLe_f, iEq_t, iEq_f, sEq_t, sEq_f, bNot_t, bNot_f, bAnd_t, bEq_t, bEq_f, Bool.not_eq_true, Bool.not_eq_false, Bool.true_eq_false, Bool.false_eq_true] at h
    rw [decide_eq_false h]
    rfl
  (conv => whnf)
  simp only [nInt_eq, Int.natCast_zero, dLen_eL, sLen_eq, nOf_eq, Int.toNat_natCast, nAdd_eq, nSub_eq, dLen_nil, dLen_cons, iLt_t, iLt_f, iLe_t, iLe_f, iEq_t, iEq_f, sEq_t, sEq_f, bNot_t, bNot_f, bAnd_t, bEq_t, bEq_f, Bool.not_eq_true, Bool.not_eq_false, Bool.true_eq_false, Bool.false_eq_true] at h
  rw [decide_eq_true h]
  obtain ⟨c1, c2, c3, c4⟩ := a
  obtain ⟨d1, d2, d3, d4⟩ := b
  dsimp only at *
  refine .inl ⟨_, _, _, impl_SameModel_spec c3 d3 ha, rfl, ?_⟩
  generalize eqMd c3 d3 = q
  cases q <;> cases c4 <;> cases d4 <;> (conv => whnf) <;> simp

theorem ty_desk {n : Nat} {c : List D} (h : TyD Tp n t_laws_Desk c) : ∃ x : Dsk, (okDesk x ∧ rgModel x.model) ∧ c = [.str x.csv, .str x.config, .sl 1 (eL cS x.model.names), .sl 1 (eL cI x.model.signs), .int .i64 x.model.base, .sl 1 (eL cT x.model.trees), .bool x.made] := by
  obtain ⟨hl, hf⟩ := h.struct (ti := _) rfl rfl
  obtain ⟨_, g0⟩ := hf (0, t_string) (by simp) _ rfl
  obtain ⟨_, g1⟩ := hf (1, t_string) (by simp) _ rfl
  obtain ⟨_, g2⟩ := hf (2, t_laws_Model) (by simp) _ rfl
  obtain ⟨_, g3⟩ := hf (6, t_bool) (by simp) _ rfl
  obtain ⟨x0, e0, r0⟩ := ty_str g0
  obtain ⟨x1, e1, r1⟩ := ty_str g1
  obtain ⟨m, r2, e2⟩ := ty_model g2
  obtain ⟨x3, e3⟩ := ty_bool g3
  refine ⟨⟨x0, x1, m, x3⟩, ⟨⟨r0, r1, r2.1⟩, r2.2⟩, ?_⟩
  match c, hl with
  | [c0, c1, c2, c3, c4, c5, c6], _ =>
    simp [cS] at e0 e1 e2 e3
    simp [e0, e1, e2, e3]
end Go.H.S
namespace Go.H.S
open Go Go.Proofs Go.H
attribute [local irreducible] Tri FnSpec FnSpecM FnSpecX
set_option maxRecDepth 100000
set_option linter.unusedSimpArgs false
set_option linter.unusedVariables false


theorem own_ints {w : World} {F : Nat → Prop} {e : TypeId} {v : Value} {xs : List Int} (h : OwnRep w F e 1 v (eL cI xs)) : w.ownsRow 0 e 1 v xs.length (xs.map (Value.int .i64)) := by
  obtain ⟨ys, h1, h2⟩ := h
  rw [eL_length] at h1
  have hl : ys.length = xs.length := by have := h1.1; omega
  have : ys = xs.map (Value.int .i64) := by
    apply List.ext_getElem?
    intro i
    rcases Nat.lt_or_ge i xs.length with q | q
    · obtain ⟨x, hx⟩ := get_lt q
      obtain ⟨_, h3⟩ := h2 i (cI x) (by rw [eL_get, hx]; rfl)
      obtain ⟨u, hu, hf⟩ := h3 0 (.int .i64 x) rfl
      cases hf
      rw [List.getElem?_map, hx]
      simpa using hu
    · rw [List.getElem?_eq_none (by omega), List.getElem?_eq_none (by simp; omega)]
  rw [← this]
  exact h1
theorem ints_own {w : World} {F : Nat → Prop} {e : TypeId} {v : Value} {xs : List Int} (h : w.ownsRow 0 e 1 v xs.length (xs.map (Value.int .i64))) : OwnRep w F e 1 v (eL cI xs) := by
  refine ⟨xs.map (Value.int .i64), by rw [eL_length]; exact h, fun i c hc => ?_⟩
  rw [eL_get] at hc
  simp only [Option.map_eq_some_iff] at hc
  obtain ⟨x, hx, rfl⟩ := hc
  refine ⟨rfl, fun j d hj => ?_⟩
  cases j with
  | zero =>
    simp [cI] at hj
    subst hj
    exact ⟨.int .i64 x, by simp [hx], .int _ _⟩
  | succ j => simp [cI] at hj
/-- The value of a row that is lent whole. -/
theorem lent_val {w : World} {F : Nat → Prop} {e sz : TypeId} {v0 v : Value} {es : List (List D)} (ho : OwnRep w F e sz v0 es) (h : AVRep w (conM F v0) [(0, .arr e sz 0 .own es)] (.c (.ref 0 0 none)) v) : v = v0 := by
  obtain ⟨_, _, _, h4⟩ := h
  obtain ⟨_, a, n, c, a', c', hv, rfl, hc, _, hh⟩ := h4 e sz .own es rfl
  obtain ⟨_, rfl, rfl⟩ := hh rfl
  obtain ⟨A, c2, hs, _⟩ := own_shape ho
  have hv0 : v0 = .slice a' n c' := hv
  rw [hv0] at hs ⊢
  simp only [Value.slice.injEq] at hs
  rw [hs.2.1]
  rfl
theorem grewX_of {L : Nat → Prop} {w w' : World} {row : Option Nat} (h : w.grownBy w' row) (hL : ∀ b, row = some b → L b) : GrewX L w w' :=
  ⟨h.os, h.tape, h.output, h.size, fun k hk hn => h.block k hk (fun e => hn (hL k e.symm))⟩
theorem partOf_eL {α : Type} (f : α → List D) (xs : List α) (b : Bool) (o n : Nat) : partOf (eL f xs) (some (b, o, n)) = eL f ((xs.drop o).take n) := by
  simp only [partOf, dPart_eq, eL, List.map_drop, List.map_take]

theorem slices_Clone_ints_spec (xs : List Int) (hx : xs.length ≤ 1000000000) : FnSpec PR f_slices_Clone_Lint_int [aIs xs] (.c (.ref 0 0 none)) [(0, .arr t_int 1 0 .own (eL cI xs))] 1 := by
  refine FnSpec.intro hT p_slices_Clone_Lint_int rfl (by kernel_rfl) n_slices_Clone_Lint_int rfl ?_
  conv => whnf
  intro b hb
  cases b <;> (conv => whnf)
  · refine ⟨by simp [eL_length, dLen_len]; omega, ?_⟩
    ((conv => whnf); simp only [St.mk.injEq, List.cons.injEq, Prod.mk.injEq, AV.c.injEq, AV.agg.injEq, AV.tup.injEq, CV.d.injEq, D.int.injEq, D.bool.injEq, D.str.injEq, D.sl.injEq, Ent.arr.injEq, Ent.box.injEq, true_and, and_true, and_self, nInt_eq, Int.natCast_zero, dLen_eL, sLen_eq, partOf_none, dApp_nil])
  · have := hb rfl
    ((conv => whnf); simp only [St.mk.injEq, List.cons.injEq, Prod.mk.injEq, AV.c.injEq, AV.agg.injEq, AV.tup.injEq, CV.d.injEq, D.int.injEq, D.bool.injEq, D.str.injEq, D.sl.injEq, Ent.arr.injEq, Ent.box.injEq, true_and, and_true, and_self, nInt_eq, Int.natCast_zero, dLen_eL, sLen_eq, this])
end Go.H.S
namespace Go.H.S
open Go Go.Proofs Go.H
attribute [local irreducible] Tri FnSpec FnSpecM FnSpecX FnSpecJ
set_option maxRecDepth 100000
set_option linter.unusedSimpArgs false
set_option linter.unusedVariables false
end Go.H.S
namespace Go.H.S
open Go Go.Proofs Go.H
attribute [local irreducible] Tri FnSpec FnSpecM FnSpecX FnSpecJ
set_option maxRecDepth 100000
set_option linter.unusedSimpArgs false
set_option linter.unusedVariables false


def letterB (b : UInt8) : Bool := decide (97 ≤ (b.toNat : Int) ∧ (b.toNat : Int) ≤ 122)
def digitB (b : UInt8) : Bool := decide (48 ≤ (b.toNat : Int) ∧ (b.toNat : Int) ≤ 57)
def nameL : List UInt8 → Nat → Bool
  | [], _ => true
  | b :: r, k => (letterB b || (decide (k ≠ 0) && digitB b)) && nameL r (k + 1)
def nameOk (s : ByteArray) : Bool := decide (1 ≤ (s.size : Int) ∧ (s.size : Int) ≤ 12) && nameL s.data.toList 0
theorem nameL_late : ∀ (l : List UInt8) (k : Nat), 0 < k → nameL l k = l.all fun b => letterB b || digitB b
  | [], k, h => rfl
  | b :: r, k, h => by
    simp only [nameL, List.all_cons, nameL_late r (k + 1) (by omega)]
    rw [show decide (k ≠ 0) = true from decide_eq_true (by omega), Bool.true_and]
theorem str_at {s : ByteArray} {n : Int} {k : Nat} {b : UInt8} {K : UInt8 → Prop} (hn : n = (k : Int)) (hb : s.data.toList[k]? = some b) (h : K b) : InB n s.size ∧ ∀ c, AtB s (nOf n) c → K c := by
  subst hn
  have hlt := (List.getElem?_eq_some_iff.1 hb).1
  refine ⟨by simp; exact hlt, fun c hc => ?_⟩
  have hc' : s.data.toList[nOf (k : Int)]? = some c := by unfold AtB at hc; exact hc
  rw [nOf_eq, Int.toNat_natCast, hb] at hc'
  cases hc'
  exact h
theorem byte_get {s : ByteArray} {k : Nat} (h : k < s.size) : ∃ b, s.data.toList[k]? = some b := get_lt (l := s.data.toList) (by simpa using h)
theorem bInt_eq' (b : UInt8) : bInt b = (b.toNat : Int) := by unfold bInt; rfl
theorem bInt_lt (b : UInt8) : 0 ≤ bInt b ∧ bInt b < 256 := by rw [bInt_eq']; have := b.toNat_lt; omega
theorem wConv_byte (b : UInt8) : wConv .i64 (bInt b) = bInt b := by
  have := bInt_lt b
  unfold wConv
  exact wrap64 (by omega) (by omega)
theorem letter_b (b : UInt8) : letterB b = decide (97 ≤ bInt b ∧ bInt b ≤ 122) := by rw [bInt_eq']; rfl
theorem digit_b (b : UInt8) : digitB b = decide (48 ≤ bInt b ∧ bInt b ≤ 57) := by rw [bInt_eq']; rfl
theorem toList_cons {s : ByteArray} {b : UInt8} (h : s.data.toList[0]? = some b) : ∃ r, s.data.toList = b :: r := by
  generalize s.data.toList = l at *
  cases l with
  | nil => simp at h
  | cons x r => simp at h; subst h; exact ⟨r, rfl⟩

theorem spec_NameOk_spec (s : ByteArray) (hs : s.size ≤ 9223372036854775807) : FnSpec PR f_spec_NameOk [aS s] (ab (nameOk s)) [] 0 := by
  have hsz : s.data.toList.length = s.size := by simp
  refine FnSpec.intro hT p_spec_NameOk rfl (by kernel_rfl) n_spec_NameOk rfl ?_
  conv => whnf
  refine .inl ⟨_, _, _, spec_l1In_spec _ _ _, rfl, ?_⟩
  (conv => whnf)
  refine ifB_i (fun h1 => ?_) (fun h1 => ?_) <;> (conv => whnf) <;> simp only [nInt_eq, Int.natCast_zero, dLen_eL, sLen_eq, nOf_eq, Int.toNat_natCast, nAdd_eq, nSub_eq, dLen_nil, dLen_cons, iLt_t, iLt_f, iLe_t, iLe_f, iEq_t, iEq_f, sEq_t, sEq_f, bNot_t, bNot_f, bAnd_t, bEq_t, bEq_f, Bool.not_eq_true, Bool.not_eq_false, Bool.true_eq_false, Bool.false_eq_true] at h1
  · have : decide (1 ≤ (s.size : Int) ∧ (s.size : Int) ≤ 12) = false := by simpa using h1
    simp [nameOk, this]
  have hno : nameOk s = nameL s.data.toList 0 := by simp only [nameOk]; rw [h1]; rfl
  have h1' := of_decide_eq_true h1
  obtain ⟨b0, hb0⟩ := byte_get (s := s) (k := 0) (by omega)
  refine str_at (k := 0) rfl hb0 ?_
  (conv => whnf)
  refine ifB_i (fun h2 => ?_) (fun h2 => ?_) <;> (conv => whnf) <;> simp only [nInt_eq, Int.natCast_zero, dLen_eL, sLen_eq, nOf_eq, Int.toNat_natCast, nAdd_eq, nSub_eq, dLen_nil, dLen_cons, iLt_t, iLt_f, iLe_t, iLe_f, iEq_t, iEq_f, sEq_t, sEq_f, bNot_t, bNot_f, bAnd_t, bEq_t, bEq_f, Bool.not_eq_true, Bool.not_eq_false, Bool.true_eq_false, Bool.false_eq_true] at h2
  · obtain ⟨r, hr⟩ := toList_cons hb0
    have hl : letterB b0 = false := by rw [letter_b]; exact decide_eq_false (by omega)
    rw [hno, hr, nameL, hl]
    rfl
  refine tri_loop hT [0, 3] (α := Nat) (fun k => { t := [(0, aS s), (3, ai k)], h := [], n := 0, N := 33 })
    (fun k => k ≤ s.size ∧ ((s.data.toList.drop k).all fun b => letterB b || digitB b) = (s.data.toList.all fun b => letterB b || digitB b)) (fun k => s.size - k) 0 (by ((conv => whnf); simp only [St.mk.injEq, List.cons.injEq, Prod.mk.injEq, AV.c.injEq, AV.agg.injEq, AV.tup.injEq, CV.d.injEq, D.int.injEq, D.bool.injEq, D.str.injEq, D.sl.injEq, Ent.arr.injEq, Ent.box.injEq, true_and, and_true, and_self, nInt_eq, Int.natCast_zero, dLen_eL, sLen_eq])) ⟨Nat.zero_le _, rfl⟩ ?_
  intro k ⟨hk, hn⟩
  (conv => whnf)
  refine ifB_i (fun h3 => ?_) (fun h3 => ?_) <;> (conv => whnf) <;> simp at h3
  · obtain ⟨b, hb⟩ := byte_get h3
    rw [drop_at hb, List.all_cons] at hn
    refine str_at (k := k) rfl hb ?_
    (conv => whnf)
    refine .inl ⟨_, _, _, spec_l1In_spec _ _ _, rfl, ?_⟩
    rw [wConv_byte, ← letter_b]
    (conv => whnf)
    have hbad : letterB b = false → digitB b = false → nameOk s = false := fun p1 p2 => by
      rw [p1, p2] at hn
      obtain ⟨r, hr⟩ := toList_cons hb0
      rw [hno, hr, nameL, nameL_late _ _ (by omega)]
      rw [hr, List.all_cons] at hn
      simp only [Bool.or_self, Bool.false_and] at hn
      cases hq : (r.all fun b => letterB b || digitB b) with
      | false => simp
      | true =>
        rw [hq, Bool.and_true] at hn
        have hb0n : letterB b0 = false := by
          cases hq2 : letterB b0 with
          | false => rfl
          | true => rw [hq2] at hn; simp at hn
        rw [hb0n]; rfl
    cases hl : letterB b
    · (conv => whnf)
      refine str_at (k := k) rfl hb ?_
      (conv => whnf)
      refine .inl ⟨_, _, _, spec_l1In_spec _ _ _, rfl, ?_⟩
      rw [wConv_byte, ← digit_b]
      (conv => whnf)
      cases hd : digitB b
      · (conv => whnf)
        rw [hbad hl hd]
      · (conv => whnf)
        refine ⟨k + 1, by omega, ⟨h3, by rw [hl, hd] at hn; simpa using hn⟩, ?_⟩
        ((conv => whnf); simp only [St.mk.injEq, List.cons.injEq, Prod.mk.injEq, AV.c.injEq, AV.agg.injEq, AV.tup.injEq, CV.d.injEq, D.int.injEq, D.bool.injEq, D.str.injEq, D.sl.injEq, Ent.arr.injEq, Ent.box.injEq, true_and, and_true, and_self, nInt_eq, Int.natCast_zero, dLen_eL, sLen_eq, wI h3 (by omega)])
    · (conv => whnf)
      refine ⟨k + 1, by omega, ⟨h3, by rw [hl] at hn; simpa using hn⟩, ?_⟩
      ((conv => whnf); simp only [St.mk.injEq, List.cons.injEq, Prod.mk.injEq, AV.c.injEq, AV.agg.injEq, AV.tup.injEq, CV.d.injEq, D.int.injEq, D.bool.injEq, D.str.injEq, D.sl.injEq, Ent.arr.injEq, Ent.box.injEq, true_and, and_true, and_self, nInt_eq, Int.natCast_zero, dLen_eL, sLen_eq, wI h3 (by omega)])
  · obtain rfl : k = s.size := by omega
    rw [← hsz, List.drop_length] at hn
    obtain ⟨r, hr⟩ := toList_cons hb0
    rw [hr] at hn
    simp only [List.all_nil, List.all_cons] at hn
    have hn' := hn.symm
    simp only [Bool.and_eq_true] at hn'
    have hl : letterB b0 = true := by
      have h4 := hn'.1
      simp only [Bool.or_eq_true] at h4
      rcases h4 with h4 | h4
      · exact h4
      · rw [digit_b, decide_eq_true_eq] at h4; omega
    have : nameOk s = true := by rw [hno, hr, nameL, nameL_late _ _ (by omega), hl, hn'.2]; rfl
    rw [this]

theorem impl_NameOk_spec (s : ByteArray) (hs : s.size ≤ 9223372036854775807) : FnSpec PR f_impl_NameOk [aS s] (ab (nameOk s)) [] 0 := by
  refine FnSpec.intro hT p_impl_NameOk rfl (by kernel_rfl) n_impl_NameOk rfl ?_
  conv => whnf
  refine tri_loop hT [0, 6, 7] (α := Nat) (fun k => { t := [(0, aS s), (6, ai s.size), (7, ai k)], h := [], n := 0, N := 42 })
    (fun k => k ≤ s.size ∧ nameL (s.data.toList.drop k) k = nameL s.data.toList 0) (fun k => s.size - k) 0 (by ((conv => whnf); simp only [St.mk.injEq, List.cons.injEq, Prod.mk.injEq, AV.c.injEq, AV.agg.injEq, AV.tup.injEq, CV.d.injEq, D.int.injEq, D.bool.injEq, D.str.injEq, D.sl.injEq, Ent.arr.injEq, Ent.box.injEq, true_and, and_true, and_self, nInt_eq, Int.natCast_zero, dLen_eL, sLen_eq])) ⟨Nat.zero_le _, rfl⟩ ?_
  intro k ⟨hk, hn⟩
  (conv => whnf)
  refine ifB_i (fun h1 => ?_) (fun h1 => ?_) <;> (conv => whnf) <;> simp at h1
  · obtain ⟨b, hb⟩ := byte_get h1
    rw [drop_at hb, nameL] at hn
    have hbad : (letterB b || (decide (k ≠ 0) && digitB b)) = false → nameOk s = false := fun p => by
      rw [p, Bool.false_and] at hn
      simp [nameOk, ← hn]
    have hgood : (letterB b || (decide (k ≠ 0) && digitB b)) = true → nameL (s.data.toList.drop (k + 1)) (k + 1) = nameL s.data.toList 0 := fun p => by
      rw [p, Bool.true_and] at hn
      exact hn
    rw [letter_b, digit_b] at hbad hgood
    refine str_at (k := k) rfl hb ?_
    (conv => whnf)
    generalize e1 : iLe 97 (bInt b) = c1
    cases c1 <;> (conv => whnf)
    · have h97 : ¬ 97 ≤ bInt b := by simpa [iLe] using e1
      have hnl : decide (97 ≤ bInt b ∧ bInt b ≤ 122) = false := decide_eq_false (by omega)
      generalize e3 : iEq (k : Int) 0 = c3
      cases c3 <;> (conv => whnf)
      · have hk0 : ¬ k = 0 := by intro h; subst h; simp [iEq] at e3
        refine str_at (k := k) rfl hb ?_
        (conv => whnf)
        generalize e4 : iLt (bInt b) 48 = c4
        cases c4 <;> (conv => whnf)
        · refine str_at (k := k) rfl hb ?_
          (conv => whnf)
          generalize e5 : iLt 57 (bInt b) = c5
          cases c5 <;> (conv => whnf)
          · refine ⟨k + 1, by omega, ⟨h1, hgood ?_⟩, ?_⟩
            · have h48 : ¬ bInt b < 48 := by simpa [iLt] using e4
              have h57 : ¬ 57 < bInt b := by simpa [iLt] using e5
              rw [decide_eq_true hk0, decide_eq_true (show 48 ≤ bInt b ∧ bInt b ≤ 57 by omega)]
              simp
            · ((conv => whnf); simp only [St.mk.injEq, List.cons.injEq, Prod.mk.injEq, AV.c.injEq, AV.agg.injEq, AV.tup.injEq, CV.d.injEq, D.int.injEq, D.bool.injEq, D.str.injEq, D.sl.injEq, Ent.arr.injEq, Ent.box.injEq, true_and, and_true, and_self, nInt_eq, Int.natCast_zero, dLen_eL, sLen_eq, wI h1 hs])
          · have h57 : 57 < bInt b := by simpa [iLt] using e5
            rw [hbad (by rw [hnl, decide_eq_false (show ¬ (48 ≤ bInt b ∧ bInt b ≤ 57) by omega)]; simp)]
        · have h48 : bInt b < 48 := by simpa [iLt] using e4
          rw [hbad (by rw [hnl, decide_eq_false (show ¬ (48 ≤ bInt b ∧ bInt b ≤ 57) by omega)]; simp)]
      · have hk0 : k = 0 := by simpa [iEq] using e3
        rw [hbad (by rw [hnl]; simp [hk0])]
    · have h97 : 97 ≤ bInt b := by simpa [iLe] using e1
      refine str_at (k := k) rfl hb ?_
      (conv => whnf)
      generalize e2 : iLe (bInt b) 122 = c2
      cases c2 <;> (conv => whnf)
      · have h122 : ¬ bInt b ≤ 122 := by simpa [iLe] using e2
        have hnl : decide (97 ≤ bInt b ∧ bInt b ≤ 122) = false := decide_eq_false (by omega)
        generalize e3 : iEq (k : Int) 0 = c3
        cases c3 <;> (conv => whnf)
        · have hk0 : ¬ k = 0 := by intro h; subst h; simp [iEq] at e3
          refine str_at (k := k) rfl hb ?_
          (conv => whnf)
          generalize e4 : iLt (bInt b) 48 = c4
          cases c4 <;> (conv => whnf)
          · refine str_at (k := k) rfl hb ?_
            (conv => whnf)
            generalize e5 : iLt 57 (bInt b) = c5
            cases c5 <;> (conv => whnf)
            · refine ⟨k + 1, by omega, ⟨h1, hgood ?_⟩, ?_⟩
              · have h48 : ¬ bInt b < 48 := by simpa [iLt] using e4
                have h57 : ¬ 57 < bInt b := by simpa [iLt] using e5
                rw [decide_eq_true hk0, decide_eq_true (show 48 ≤ bInt b ∧ bInt b ≤ 57 by omega)]
                simp
              · ((conv => whnf); simp only [St.mk.injEq, List.cons.injEq, Prod.mk.injEq, AV.c.injEq, AV.agg.injEq, AV.tup.injEq, CV.d.injEq, D.int.injEq, D.bool.injEq, D.str.injEq, D.sl.injEq, Ent.arr.injEq, Ent.box.injEq, true_and, and_true, and_self, nInt_eq, Int.natCast_zero, dLen_eL, sLen_eq, wI h1 hs])
            · have h57 : 57 < bInt b := by simpa [iLt] using e5
              rw [hbad (by rw [hnl, decide_eq_false (show ¬ (48 ≤ bInt b ∧ bInt b ≤ 57) by omega)]; simp)]
          · have h48 : bInt b < 48 := by simpa [iLt] using e4
            rw [hbad (by rw [hnl, decide_eq_false (show ¬ (48 ≤ bInt b ∧ bInt b ≤ 57) by omega)]; simp)]
        · have hk0 : k = 0 := by simpa [iEq] using e3
          rw [hbad (by rw [hnl]; simp [hk0])]
      · have h122 : bInt b ≤ 122 := by simpa [iLe] using e2
        refine ⟨k + 1, by omega, ⟨h1, hgood (by rw [decide_eq_true (show 97 ≤ bInt b ∧ bInt b ≤ 122 by omega)]; rfl)⟩, ?_⟩
        ((conv => whnf); simp only [St.mk.injEq, List.cons.injEq, Prod.mk.injEq, AV.c.injEq, AV.agg.injEq, AV.tup.injEq, CV.d.injEq, D.int.injEq, D.bool.injEq, D.str.injEq, D.sl.injEq, Ent.arr.injEq, Ent.box.injEq, true_and, and_true, and_self, nInt_eq, Int.natCast_zero, dLen_eL, sLen_eq, wI h1 hs])
  · obtain rfl : k = s.size := by omega
    refine .inl ⟨_, _, _, impl_within_spec _ _ _, rfl, ?_⟩
    rw [sLen_eq]
    have hd : s.data.toList.drop s.size = [] := List.drop_eq_nil_of_le (by simp)
    rw [hd] at hn
    have : nameOk s = decide (1 ≤ (s.size : Int) ∧ (s.size : Int) ≤ 12) := by simp [nameOk, ← hn, nameL]
    rw [this]
    (conv => whnf)

def hasS (x : ByteArray) (l : List ByteArray) : Bool := l.any fun y => decide (x = y)
/-- Names that are right, each once. -/
def namesL (all : List ByteArray) : List ByteArray → Nat → Bool
  | [], _ => true
  | s :: r, k => (nameOk s && !hasS s (all.take k)) && namesL all r (k + 1)
/-- The first k elements of a slice. -/
theorem dCut_take {α : Type} (f : α → List D) (xs : List α) (k : Nat) : dCut (eL f xs) (nOf 0) (nOf (k : Int)) = eL f (xs.take k) := by simp [dCut, eL, List.map_take]

theorem spec_l9Has_spec (l : List ByteArray) (x : ByteArray) (hl : l.length ≤ 9223372036854775807) : FnSpec PR f_spec_l9Has [aSs l, aS x] (ab (hasS x l)) [] 0 := by
  refine FnSpec.intro hT p_spec_l9Has rfl (by kernel_rfl) n_spec_l9Has rfl ?_
  conv => whnf
  refine tri_loop hT [0, 1, 5] (α := Nat) (fun k => { t := [(0, aSs l), (1, aS x), (5, ai k)], h := [], n := 0, N := 18 })
    (fun k => k ≤ l.length ∧ hasS x (l.drop k) = hasS x l) (fun k => l.length - k) 0 (by ((conv => whnf); simp only [St.mk.injEq, List.cons.injEq, Prod.mk.injEq, AV.c.injEq, AV.agg.injEq, AV.tup.injEq, CV.d.injEq, D.int.injEq, D.bool.injEq, D.str.injEq, D.sl.injEq, Ent.arr.injEq, Ent.box.injEq, true_and, and_true, and_self, nInt_eq, Int.natCast_zero, dLen_eL, sLen_eq])) ⟨Nat.zero_le _, rfl⟩ ?_
  intro k ⟨hk, hi⟩
  (conv => whnf)
  refine ifB_i (fun h1 => ?_) (fun h1 => ?_) <;> (conv => whnf) <;> simp at h1
  · obtain ⟨s, hs⟩ := get_lt h1
    refine idx_at (by simp) hs ?_
    (conv => whnf)
    rw [drop_at hs] at hi
    refine ifB_i (fun h2 => ?_) (fun h2 => ?_) <;> (conv => whnf) <;> simp only [nInt_eq, Int.natCast_zero, dLen_eL, sLen_eq, nOf_eq, Int.toNat_natCast, nAdd_eq, nSub_eq, dLen_nil, dLen_cons, iLt_t, iLt_f, iLe_t, iLe_f, iEq_t, iEq_f, sEq_t, sEq_f, bNot_t, bNot_f, bAnd_t, bEq_t, bEq_f, Bool.not_eq_true, Bool.not_eq_false, Bool.true_eq_false, Bool.false_eq_true] at h2
    · subst h2
      rw [← hi]
      simp [hasS]
    · refine ⟨k + 1, by omega, ⟨h1, by rw [← hi]; simp [hasS, Ne.symm h2]⟩, ?_⟩
      ((conv => whnf); simp only [St.mk.injEq, List.cons.injEq, Prod.mk.injEq, AV.c.injEq, AV.agg.injEq, AV.tup.injEq, CV.d.injEq, D.int.injEq, D.bool.injEq, D.str.injEq, D.sl.injEq, Ent.arr.injEq, Ent.box.injEq, true_and, and_true, and_self, nInt_eq, Int.natCast_zero, dLen_eL, sLen_eq, wI h1 hl])
  · obtain rfl : k = l.length := by omega
    simp only [List.drop_length] at hi
    rw [← hi]
    rfl

theorem slices_IndexS_spec (l : List ByteArray) (x : ByteArray) (hl : l.length ≤ 9223372036854775807) : FnSpec PR f_slices_Index_Lstring_string [aSs l, aS x] (ai (idxL (fun y => decide (x = y)) l 0)) [] 0 := by
  refine FnSpec.intro hT p_slices_Index_Lstring_string rfl (by kernel_rfl) n_slices_Index_Lstring_string rfl ?_
  conv => whnf
  refine tri_loop hT [0, 1, 7, 8] (α := Nat) (fun k => { t := [(0, aSs l), (1, aS x), (7, ai l.length), (8, ai k)], h := [], n := 0, N := 19 })
    (fun k => k ≤ l.length ∧ idxL (fun y => decide (x = y)) (l.drop k) k = idxL (fun y => decide (x = y)) l 0) (fun k => l.length - k) 0 (by ((conv => whnf); simp only [St.mk.injEq, List.cons.injEq, Prod.mk.injEq, AV.c.injEq, AV.agg.injEq, AV.tup.injEq, CV.d.injEq, D.int.injEq, D.bool.injEq, D.str.injEq, D.sl.injEq, Ent.arr.injEq, Ent.box.injEq, true_and, and_true, and_self, nInt_eq, Int.natCast_zero, dLen_eL, sLen_eq])) ⟨Nat.zero_le _, rfl⟩ ?_
  intro k ⟨hk, hi⟩
  (conv => whnf)
  refine ifB_i (fun h1 => ?_) (fun h1 => ?_) <;> (conv => whnf) <;> simp at h1
  · obtain ⟨s, hs⟩ := get_lt h1
    refine idx_at (by simp) hs ?_
    (conv => whnf)
    rw [drop_at hs, idxL] at hi
    refine ifB_i (fun h2 => ?_) (fun h2 => ?_) <;> (conv => whnf) <;> simp only [nInt_eq, Int.natCast_zero, dLen_eL, sLen_eq, nOf_eq, Int.toNat_natCast, nAdd_eq, nSub_eq, dLen_nil, dLen_cons, iLt_t, iLt_f, iLe_t, iLe_f, iEq_t, iEq_f, sEq_t, sEq_f, bNot_t, bNot_f, bAnd_t, bEq_t, bEq_f, Bool.not_eq_true, Bool.not_eq_false, Bool.true_eq_false, Bool.false_eq_true] at h2
    · rw [if_pos (by simpa using h2)] at hi
      ((conv => whnf); simp only [St.mk.injEq, List.cons.injEq, Prod.mk.injEq, AV.c.injEq, AV.agg.injEq, AV.tup.injEq, CV.d.injEq, D.int.injEq, D.bool.injEq, D.str.injEq, D.sl.injEq, Ent.arr.injEq, Ent.box.injEq, true_and, and_true, and_self, nInt_eq, Int.natCast_zero, dLen_eL, sLen_eq, hi])
    · rw [if_neg (by simpa using h2)] at hi
      refine ⟨k + 1, by omega, ⟨h1, hi⟩, ?_⟩
      ((conv => whnf); simp only [St.mk.injEq, List.cons.injEq, Prod.mk.injEq, AV.c.injEq, AV.agg.injEq, AV.tup.injEq, CV.d.injEq, D.int.injEq, D.bool.injEq, D.str.injEq, D.sl.injEq, Ent.arr.injEq, Ent.box.injEq, true_and, and_true, and_self, nInt_eq, Int.natCast_zero, dLen_eL, sLen_eq, wI h1 hl])
  · obtain rfl : k = l.length := by omega
    simp only [List.drop_length, idxL] at hi
    ((conv => whnf); simp only [St.mk.injEq, List.cons.injEq, Prod.mk.injEq, AV.c.injEq, AV.agg.injEq, AV.tup.injEq, CV.d.injEq, D.int.injEq, D.bool.injEq, D.str.injEq, D.sl.injEq, Ent.arr.injEq, Ent.box.injEq, true_and, and_true, and_self, nInt_eq, Int.natCast_zero, dLen_eL, sLen_eq, ← hi])

theorem slices_ContainsS_spec (l : List ByteArray) (x : ByteArray) (hl : l.length ≤ 9223372036854775807) : FnSpec PR f_slices_Contains_Lstring_string [aSs l, aS x] (ab (hasS x l)) [] 0 := by
  refine FnSpec.intro hT p_slices_Contains_Lstring_string rfl (by kernel_rfl) n_slices_Contains_Lstring_string rfl ?_
  conv => whnf
  refine .inl ⟨_, _, _, slices_IndexS_spec l x hl, rfl, ?_⟩
  have h := idxL_any (fun y => decide (x = y)) l 0
  ((conv => whnf); simp only [St.mk.injEq, List.cons.injEq, Prod.mk.injEq, AV.c.injEq, AV.agg.injEq, AV.tup.injEq, CV.d.injEq, D.int.injEq, D.bool.injEq, D.str.injEq, D.sl.injEq, Ent.arr.injEq, Ent.box.injEq, true_and, and_true, and_self, nInt_eq, Int.natCast_zero, dLen_eL, sLen_eq, iLe])
  rw [Bool.eq_iff_iff, decide_eq_true_eq]
  exact h

theorem impl_areNames_spec (l : List ByteArray) (hl : l.length ≤ 1048576) (hs : ∀ s ∈ l, s.size ≤ 9223372036854775807) : FnSpec PR f_impl_areNames [aSs l] (ab (namesL l l 0)) [] 0 := by
  refine FnSpec.intro hT p_impl_areNames rfl (by kernel_rfl) n_impl_areNames rfl ?_
  conv => whnf
  refine tri_loop hT [0, 5, 6, 7] (α := Nat) (fun k => { t := [(0, aSs l), (5, aSs l), (6, ai l.length), (7, ai k)], h := [], n := 0, N := 23 })
    (fun k => k ≤ l.length ∧ namesL l (l.drop k) k = namesL l l 0) (fun k => l.length - k) 0 (by ((conv => whnf); simp only [St.mk.injEq, List.cons.injEq, Prod.mk.injEq, AV.c.injEq, AV.agg.injEq, AV.tup.injEq, CV.d.injEq, D.int.injEq, D.bool.injEq, D.str.injEq, D.sl.injEq, Ent.arr.injEq, Ent.box.injEq, true_and, and_true, and_self, nInt_eq, Int.natCast_zero, dLen_eL, sLen_eq])) ⟨Nat.zero_le _, rfl⟩ ?_
  intro k ⟨hk, hi⟩
  (conv => whnf)
  refine ifB_i (fun h1 => ?_) (fun h1 => ?_) <;> (conv => whnf) <;> simp at h1
  · obtain ⟨s, hs'⟩ := get_lt h1
    rw [drop_at hs', namesL] at hi
    refine idx_at (by simp) hs' ?_
    (conv => whnf)
    refine .inl ⟨_, _, _, impl_NameOk_spec s (hs s (List.mem_of_getElem? hs')), rfl, ?_⟩
    (conv => whnf)
    cases hb : nameOk s <;> (conv => whnf)
    · rw [hb] at hi
      rw [← hi]
      simp
    · rw [hb, Bool.true_and] at hi
      refine And.intro (by simp; omega) ?_
      rw [dCut_take]
      (conv => whnf)
      refine .inl ⟨_, _, _, slices_ContainsS_spec (l.take k) s (by simp; omega), rfl, ?_⟩
      (conv => whnf)
      cases hh : hasS s (l.take k) <;> (conv => whnf)
      · rw [hh] at hi
        refine ⟨k + 1, by omega, ⟨h1, by simpa using hi⟩, ?_⟩
        ((conv => whnf); simp only [St.mk.injEq, List.cons.injEq, Prod.mk.injEq, AV.c.injEq, AV.agg.injEq, AV.tup.injEq, CV.d.injEq, D.int.injEq, D.bool.injEq, D.str.injEq, D.sl.injEq, Ent.arr.injEq, Ent.box.injEq, true_and, and_true, and_self, nInt_eq, Int.natCast_zero, dLen_eL, sLen_eq, wI h1 (by omega)])
      · rw [hh] at hi
        rw [← hi]
        rfl
  · obtain rfl : k = l.length := by omega
    simp only [List.drop_length, namesL] at hi
    rw [← hi]

theorem impl_isSign_spec (x : Int) : FnSpec PR f_impl_isSign [ai x] (ab (decide (-1 ≤ x ∧ x ≤ 1))) [] 0 := by
  refine FnSpec.intro hT p_impl_isSign rfl (by kernel_rfl) n_impl_isSign rfl ?_
  conv => whnf
  refine .inl ⟨_, _, _, impl_within_spec _ _ _, rfl, ?_⟩
  (conv => whnf)

theorem impl_ModelOk_1_spec (x : Int) : FnSpec PR f_impl_ModelOk_1 [ai x] (ab (bNot (decide (-1 ≤ x ∧ x ≤ 1)))) [] 0 := by
  refine FnSpec.intro hT p_impl_ModelOk_1 rfl (by kernel_rfl) n_impl_ModelOk_1 rfl ?_
  conv => whnf
  refine .inl ⟨_, _, _, impl_isSign_spec _, rfl, ?_⟩
  (conv => whnf)

theorem impl_ModelOk_2_spec (t : List Nd) (n : Int) (hl : t.length ≤ 1048576) : FnSpec PR f_impl_ModelOk_2 [aT t, .c (.d (.rp [.int .i64 n]))] (ab (bNot (treeOk t n))) [] 0 := by
  refine FnSpec.intro hT p_impl_ModelOk_2 rfl (by kernel_rfl) n_impl_ModelOk_2 rfl ?_
  conv => whnf
  refine .inl ⟨_, _, _, impl_TreeOk_spec t n hl, rfl, ?_⟩
  (conv => whnf)

def signOk (x : Int) : Bool := decide (-1 ≤ x ∧ x ≤ 1)
def modelOk (m : Mdl) : Bool :=
  decide (1 ≤ (m.names.length : Int) ∧ (m.names.length : Int) ≤ 4) && ((decide (m.signs.length = 0) || decide (m.signs.length = m.names.length)) && (decide (-2147483647 ≤ m.base ∧ m.base ≤ 2147483647) && (decide (m.trees.length ≤ 8) &&
    (namesL m.names m.names 0 && (m.signs.all signOk && m.trees.all fun t => treeOk t m.names.length)))))

set_option maxHeartbeats 1000000 in
theorem spec_ModelOk_spec (m : Mdl) (hn : m.names.length ≤ 1048576) (hns : ∀ s ∈ m.names, s.size ≤ 9223372036854775807) (hs : m.signs.length ≤ 1048576) (hm : m.trees.length ≤ 1048576) (ht : ∀ t ∈ m.trees, t.length ≤ 1048576) : FnSpec PR f_spec_ModelOk [aM m] (ab (modelOk m)) [] 0 := by
  have eS : nInt (dLen (eL cI m.signs)) = (m.signs.length : Int) := by simp
  have eN : nInt (dLen (eL cS m.names)) = (m.names.length : Int) := by simp
  have eT : nInt (dLen (eL cT m.trees)) = (m.trees.length : Int) := by simp
  refine FnSpec.intro hT p_spec_ModelOk rfl (by kernel_rfl) n_spec_ModelOk rfl ?_
  conv => whnf
  rw [eN]
  refine .inl ⟨_, _, _, spec_l1In_spec _ _ _, rfl, ?_⟩
  (conv => whnf)
  refine ifB_i (fun h1 => ?_) (fun h1 => ?_) <;> (conv => whnf) <;> simp only [nInt_eq, Int.natCast_zero, dLen_eL, sLen_eq, nOf_eq, Int.toNat_natCast, nAdd_eq, nSub_eq, dLen_nil, dLen_cons, iLt_t, iLt_f, iLe_t, iLe_f, iEq_t, iEq_f, sEq_t, sEq_f, bNot_t, bNot_f, bAnd_t, bEq_t, bEq_f, Bool.not_eq_true, Bool.not_eq_false, Bool.true_eq_false, Bool.false_eq_true] at h1
  · have : decide (1 ≤ (m.names.length : Int) ∧ (m.names.length : Int) ≤ 4) = false := by simpa using h1
    simp [modelOk, this]
  rw [eS]
  generalize e1 : iEq (m.signs.length : Int) 0 = c1
  cases c1 <;> (conv => whnf)
  · rw [eS]
    generalize e2 : iEq (m.signs.length : Int) (m.names.length : Int) = c2
    have h0 : ¬ m.signs.length = 0 := by intro h; rw [h] at e1; simp [iEq] at e1
    cases c2 <;> (conv => whnf)
    · have : ¬ m.signs.length = m.names.length := by intro h; rw [h] at e2; simp [iEq] at e2
      simp [modelOk, h0, this]
    · have hsg : (decide (m.signs.length = 0) || decide (m.signs.length = m.names.length)) = true := by
        have : (m.signs.length : Int) = m.names.length := by simpa [iEq] using e2
        rw [decide_eq_true (show m.signs.length = m.names.length by omega)]; simp
      refine .inl ⟨_, _, _, spec_l6Value_spec _, rfl, ?_⟩
      (conv => whnf)
      generalize e3 : decide (-2147483647 ≤ m.base ∧ m.base ≤ 2147483647) = c3
      cases c3 <;> (conv => whnf)
      · simp [modelOk, e3]
      rw [eT]
      generalize e4 : iLt 8 (m.trees.length : Int) = c4
      cases c4 <;> (conv => whnf)
      rotate_left
      · have : ¬ m.trees.length ≤ 8 := by have : (8 : Int) < m.trees.length := by simpa [iLt] using e4
                                          omega
        simp [modelOk, this]
      have h4 : decide (m.trees.length ≤ 8) = true := decide_eq_true (by have : ¬ (8 : Int) < m.trees.length := by simpa [iLt] using e4
                                                                         omega)
      have hmo : modelOk m = (namesL m.names m.names 0 && (m.signs.all signOk && m.trees.all fun t => treeOk t m.names.length)) := by simp only [modelOk]; rw [h1, hsg, e3, h4]; rfl
      rw [hmo]
      refine tri_loop hT [1, 3, 4] (α := Nat) (fun k => { t := [(1, .c (.ptr 0 0)), (3, ai m.names.length), (4, ai k)], h := [(0, .box t_impl_Model (cM m))], n := 1, N := 91 })
        (fun k => k ≤ m.names.length ∧ namesL m.names (m.names.drop k) k = namesL m.names m.names 0) (fun k => m.names.length - k) 0 (by ((conv => whnf); simp only [St.mk.injEq, List.cons.injEq, Prod.mk.injEq, AV.c.injEq, AV.agg.injEq, AV.tup.injEq, CV.d.injEq, D.int.injEq, D.bool.injEq, D.str.injEq, D.sl.injEq, Ent.arr.injEq, Ent.box.injEq, true_and, and_true, and_self, nInt_eq, Int.natCast_zero, dLen_eL, sLen_eq]); first | done | simp) ⟨Nat.zero_le _, rfl⟩ ?_
      intro k ⟨hk, hi⟩
      (conv => whnf)
      refine ifB_i (fun g1 => ?_) (fun g1 => ?_) <;> (conv => whnf) <;> simp at g1
      · obtain ⟨s, hs'⟩ := get_lt g1
        rw [drop_at hs', namesL] at hi
        refine tri_conf hT hmix (by kernel_rfl) ?_
        (conv => whnf)
        refine idx_at (by simp) hs' ?_
        (conv => whnf)
        refine ⟨_, _, spec_NameOk_spec s (hns s (List.mem_of_getElem? hs')), rfl, ?_⟩
        cases hb : nameOk s
        · (conv => whnf)
          repeat' (first | (refine And.intro (fun q => ?_) (fun q => ?_) <;> cases q <;> (conv => whnf)) | fail)
          rw [hb] at hi
          have : namesL m.names m.names 0 = false := by rw [← hi]; simp
          rw [this]
          (conv => whnf)
          rfl
        · rw [hb, Bool.true_and] at hi
          (conv => whnf)
          repeat' (first | (refine And.intro (fun q => ?_) (fun q => ?_) <;> cases q <;> (conv => whnf)) | fail)
          refine And.intro (by simp; omega) ?_
          rw [dCut_take]
          (conv => whnf)
          repeat' (first | (refine And.intro (fun q => ?_) (fun q => ?_) <;> cases q <;> (conv => whnf)) | fail)
          refine idx_at (by simp) hs' ?_
          (conv => whnf)
          repeat' (first | (refine And.intro (fun q => ?_) (fun q => ?_) <;> cases q <;> (conv => whnf)) | fail)
          refine ⟨_, _, spec_l9Has_spec (m.names.take k) s (by simp; omega), rfl, ?_⟩
          cases hh : hasS s (m.names.take k)
          · (conv => whnf)
            repeat' (first | (refine And.intro (fun q => ?_) (fun q => ?_) <;> cases q <;> (conv => whnf)) | fail)
            rw [hh] at hi
            refine ⟨k + 1, by omega, ⟨g1, by simpa using hi⟩, ?_⟩
            ((conv => whnf); simp only [St.mk.injEq, List.cons.injEq, Prod.mk.injEq, AV.c.injEq, AV.agg.injEq, AV.tup.injEq, CV.d.injEq, D.int.injEq, D.bool.injEq, D.str.injEq, D.sl.injEq, Ent.arr.injEq, Ent.box.injEq, true_and, and_true, and_self, nInt_eq, Int.natCast_zero, dLen_eL, sLen_eq, wI g1 (by omega)])
          · (conv => whnf)
            repeat' (first | (refine And.intro (fun q => ?_) (fun q => ?_) <;> cases q <;> (conv => whnf)) | fail)
            rw [hh] at hi
            have : namesL m.names m.names 0 = false := by rw [← hi]; simp
            rw [this]
            (conv => whnf)
            rfl
      · obtain rfl : k = m.names.length := by omega
        simp only [List.drop_length, namesL] at hi
        rw [← hi, Bool.true_and]
        refine tri_loop hT [1, 3, 5] (α := Nat) (fun k => { t := [(1, .c (.ptr 0 0)), (3, ai m.names.length), (5, ai k)], h := [(0, .box t_impl_Model (cM m))], n := 1, N := 91 })
          (fun k => k ≤ m.signs.length ∧ (m.signs.drop k).all signOk = m.signs.all signOk) (fun k => m.signs.length - k) 0 (by ((conv => whnf); simp only [St.mk.injEq, List.cons.injEq, Prod.mk.injEq, AV.c.injEq, AV.agg.injEq, AV.tup.injEq, CV.d.injEq, D.int.injEq, D.bool.injEq, D.str.injEq, D.sl.injEq, Ent.arr.injEq, Ent.box.injEq, true_and, and_true, and_self, nInt_eq, Int.natCast_zero, dLen_eL, sLen_eq])) ⟨Nat.zero_le _, rfl⟩ ?_
        intro k ⟨hk2, hj⟩
        (conv => whnf)
        refine ifB_i (fun g2 => ?_) (fun g2 => ?_) <;> (conv => whnf) <;> simp at g2
        · obtain ⟨x, hx⟩ := get_lt g2
          rw [drop_at hx, List.all_cons] at hj
          refine idx_at (by simp) hx ?_
          (conv => whnf)
          refine .inl ⟨_, _, _, spec_l1In_spec _ _ _, rfl, ?_⟩
          rw [show decide (-1 ≤ x ∧ x ≤ 1) = signOk x from rfl]
          cases hb : signOk x
          · (conv => whnf)
            rw [hb] at hj
            rw [← hj]
            rfl
          · (conv => whnf)
            rw [hb] at hj
            refine ⟨k + 1, by omega, ⟨g2, by simpa using hj⟩, ?_⟩
            ((conv => whnf); simp only [St.mk.injEq, List.cons.injEq, Prod.mk.injEq, AV.c.injEq, AV.agg.injEq, AV.tup.injEq, CV.d.injEq, D.int.injEq, D.bool.injEq, D.str.injEq, D.sl.injEq, Ent.arr.injEq, Ent.box.injEq, true_and, and_true, and_self, nInt_eq, Int.natCast_zero, dLen_eL, sLen_eq, wI g2 (by omega)])
        · obtain rfl : k = m.signs.length := by omega
          simp only [List.drop_length, List.all_nil] at hj
          rw [← hj, Bool.true_and]
          refine tri_loop hT [1, 3, 6] (α := Nat) (fun k => { t := [(1, .c (.ptr 0 0)), (3, ai m.names.length), (6, ai k)], h := [(0, .box t_impl_Model (cM m))], n := 1, N := 91 })
            (fun k => k ≤ m.trees.length ∧ ((m.trees.drop k).all fun t => treeOk t m.names.length) = m.trees.all fun t => treeOk t m.names.length) (fun k => m.trees.length - k) 0 (by ((conv => whnf); simp only [St.mk.injEq, List.cons.injEq, Prod.mk.injEq, AV.c.injEq, AV.agg.injEq, AV.tup.injEq, CV.d.injEq, D.int.injEq, D.bool.injEq, D.str.injEq, D.sl.injEq, Ent.arr.injEq, Ent.box.injEq, true_and, and_true, and_self, nInt_eq, Int.natCast_zero, dLen_eL, sLen_eq])) ⟨Nat.zero_le _, rfl⟩ ?_
          intro k ⟨hk3, hl⟩
          (conv => whnf)
          refine ifB_i (fun g3 => ?_) (fun g3 => ?_) <;> (conv => whnf) <;> simp at g3
          · obtain ⟨t, ht'⟩ := get_lt g3
            rw [drop_at ht', List.all_cons] at hl
            refine idx_at (by simp) ht' ?_
            (conv => whnf)
            refine .inl ⟨_, _, _, spec_TreeOk_spec t m.names.length (ht t (List.mem_of_getElem? ht')), rfl, ?_⟩
            cases hb : treeOk t m.names.length
            · (conv => whnf)
              rw [hb] at hl
              rw [← hl]
              rfl
            · (conv => whnf)
              rw [hb] at hl
              refine ⟨k + 1, by omega, ⟨g3, by simpa using hl⟩, ?_⟩
              ((conv => whnf); simp only [St.mk.injEq, List.cons.injEq, Prod.mk.injEq, AV.c.injEq, AV.agg.injEq, AV.tup.injEq, CV.d.injEq, D.int.injEq, D.bool.injEq, D.str.injEq, D.sl.injEq, Ent.arr.injEq, Ent.box.injEq, true_and, and_true, and_self, nInt_eq, Int.natCast_zero, dLen_eL, sLen_eq, wI g3 (by omega)])
          · obtain rfl : k = m.trees.length := by omega
            simp only [List.drop_length, List.all_nil] at hl
            rw [← hl]
  · have hsg : (decide (m.signs.length = 0) || decide (m.signs.length = m.names.length)) = true := by
      have : (m.signs.length : Int) = 0 := by simpa [iEq] using e1
      rw [decide_eq_true (show m.signs.length = 0 by omega)]; rfl
    refine .inl ⟨_, _, _, spec_l6Value_spec _, rfl, ?_⟩
    (conv => whnf)
    generalize e3 : decide (-2147483647 ≤ m.base ∧ m.base ≤ 2147483647) = c3
    cases c3 <;> (conv => whnf)
    · simp [modelOk, e3]
    rw [eT]
    generalize e4 : iLt 8 (m.trees.length : Int) = c4
    cases c4 <;> (conv => whnf)
    rotate_left
    · have : ¬ m.trees.length ≤ 8 := by have : (8 : Int) < m.trees.length := by simpa [iLt] using e4
                                        omega
      simp [modelOk, this]
    have h4 : decide (m.trees.length ≤ 8) = true := decide_eq_true (by have : ¬ (8 : Int) < m.trees.length := by simpa [iLt] using e4
                                                                       omega)
    have hmo : modelOk m = (namesL m.names m.names 0 && (m.signs.all signOk && m.trees.all fun t => treeOk t m.names.length)) := by simp only [modelOk]; rw [h1, hsg, e3, h4]; rfl
    rw [hmo]
    refine tri_loop hT [1, 3, 4] (α := Nat) (fun k => { t := [(1, .c (.ptr 0 0)), (3, ai m.names.length), (4, ai k)], h := [(0, .box t_impl_Model (cM m))], n := 1, N := 91 })
      (fun k => k ≤ m.names.length ∧ namesL m.names (m.names.drop k) k = namesL m.names m.names 0) (fun k => m.names.length - k) 0 (by ((conv => whnf); simp only [St.mk.injEq, List.cons.injEq, Prod.mk.injEq, AV.c.injEq, AV.agg.injEq, AV.tup.injEq, CV.d.injEq, D.int.injEq, D.bool.injEq, D.str.injEq, D.sl.injEq, Ent.arr.injEq, Ent.box.injEq, true_and, and_true, and_self, nInt_eq, Int.natCast_zero, dLen_eL, sLen_eq]); first | done | simp) ⟨Nat.zero_le _, rfl⟩ ?_
    intro k ⟨hk, hi⟩
    (conv => whnf)
    refine ifB_i (fun g1 => ?_) (fun g1 => ?_) <;> (conv => whnf) <;> simp at g1
    · obtain ⟨s, hs'⟩ := get_lt g1
      rw [drop_at hs', namesL] at hi
      refine tri_conf hT hmix (by kernel_rfl) ?_
      (conv => whnf)
      refine idx_at (by simp) hs' ?_
      (conv => whnf)
      refine ⟨_, _, spec_NameOk_spec s (hns s (List.mem_of_getElem? hs')), rfl, ?_⟩
      cases hb : nameOk s
      · (conv => whnf)
        repeat' (first | (refine And.intro (fun q => ?_) (fun q => ?_) <;> cases q <;> (conv => whnf)) | fail)
        rw [hb] at hi
        have : namesL m.names m.names 0 = false := by rw [← hi]; simp
        rw [this]
        (conv => whnf)
        rfl
      · rw [hb, Bool.true_and] at hi
        (conv => whnf)
        repeat' (first | (refine And.intro (fun q => ?_) (fun q => ?_) <;> cases q <;> (conv => whnf)) | fail)
        refine And.intro (by simp; omega) ?_
        rw [dCut_take]
        (conv => whnf)
        repeat' (first | (refine And.intro (fun q => ?_) (fun q => ?_) <;> cases q <;> (conv => whnf)) | fail)
        refine idx_at (by simp) hs' ?_
        (conv => whnf)
        repeat' (first | (refine And.intro (fun q => ?_) (fun q => ?_) <;> cases q <;> (conv => whnf)) | fail)
        refine ⟨_, _, spec_l9Has_spec (m.names.take k) s (by simp; omega), rfl, ?_⟩
        cases hh : hasS s (m.names.take k)
        · (conv => whnf)
          repeat' (first | (refine And.intro (fun q => ?_) (fun q => ?_) <;> cases q <;> (conv => whnf)) | fail)
          rw [hh] at hi
          refine ⟨k + 1, by omega, ⟨g1, by simpa using hi⟩, ?_⟩
          ((conv => whnf); simp only [St.mk.injEq, List.cons.injEq, Prod.mk.injEq, AV.c.injEq, AV.agg.injEq, AV.tup.injEq, CV.d.injEq, D.int.injEq, D.bool.injEq, D.str.injEq, D.sl.injEq, Ent.arr.injEq, Ent.box.injEq, true_and, and_true, and_self, nInt_eq, Int.natCast_zero, dLen_eL, sLen_eq, wI g1 (by omega)])
        · (conv => whnf)
          repeat' (first | (refine And.intro (fun q => ?_) (fun q => ?_) <;> cases q <;> (conv => whnf)) | fail)
          rw [hh] at hi
          have : namesL m.names m.names 0 = false := by rw [← hi]; simp
          rw [this]
          (conv => whnf)
          rfl
    · obtain rfl : k = m.names.length := by omega
      simp only [List.drop_length, namesL] at hi
      rw [← hi, Bool.true_and]
      refine tri_loop hT [1, 3, 5] (α := Nat) (fun k => { t := [(1, .c (.ptr 0 0)), (3, ai m.names.length), (5, ai k)], h := [(0, .box t_impl_Model (cM m))], n := 1, N := 91 })
        (fun k => k ≤ m.signs.length ∧ (m.signs.drop k).all signOk = m.signs.all signOk) (fun k => m.signs.length - k) 0 (by ((conv => whnf); simp only [St.mk.injEq, List.cons.injEq, Prod.mk.injEq, AV.c.injEq, AV.agg.injEq, AV.tup.injEq, CV.d.injEq, D.int.injEq, D.bool.injEq, D.str.injEq, D.sl.injEq, Ent.arr.injEq, Ent.box.injEq, true_and, and_true, and_self, nInt_eq, Int.natCast_zero, dLen_eL, sLen_eq])) ⟨Nat.zero_le _, rfl⟩ ?_
      intro k ⟨hk2, hj⟩
      (conv => whnf)
      refine ifB_i (fun g2 => ?_) (fun g2 => ?_) <;> (conv => whnf) <;> simp at g2
      · obtain ⟨x, hx⟩ := get_lt g2
        rw [drop_at hx, List.all_cons] at hj
        refine idx_at (by simp) hx ?_
        (conv => whnf)
        refine .inl ⟨_, _, _, spec_l1In_spec _ _ _, rfl, ?_⟩
        rw [show decide (-1 ≤ x ∧ x ≤ 1) = signOk x from rfl]
        cases hb : signOk x
        · (conv => whnf)
          rw [hb] at hj
          rw [← hj]
          rfl
        · (conv => whnf)
          rw [hb] at hj
          refine ⟨k + 1, by omega, ⟨g2, by simpa using hj⟩, ?_⟩
          ((conv => whnf); simp only [St.mk.injEq, List.cons.injEq, Prod.mk.injEq, AV.c.injEq, AV.agg.injEq, AV.tup.injEq, CV.d.injEq, D.int.injEq, D.bool.injEq, D.str.injEq, D.sl.injEq, Ent.arr.injEq, Ent.box.injEq, true_and, and_true, and_self, nInt_eq, Int.natCast_zero, dLen_eL, sLen_eq, wI g2 (by omega)])
      · obtain rfl : k = m.signs.length := by omega
        simp only [List.drop_length, List.all_nil] at hj
        rw [← hj, Bool.true_and]
        refine tri_loop hT [1, 3, 6] (α := Nat) (fun k => { t := [(1, .c (.ptr 0 0)), (3, ai m.names.length), (6, ai k)], h := [(0, .box t_impl_Model (cM m))], n := 1, N := 91 })
          (fun k => k ≤ m.trees.length ∧ ((m.trees.drop k).all fun t => treeOk t m.names.length) = m.trees.all fun t => treeOk t m.names.length) (fun k => m.trees.length - k) 0 (by ((conv => whnf); simp only [St.mk.injEq, List.cons.injEq, Prod.mk.injEq, AV.c.injEq, AV.agg.injEq, AV.tup.injEq, CV.d.injEq, D.int.injEq, D.bool.injEq, D.str.injEq, D.sl.injEq, Ent.arr.injEq, Ent.box.injEq, true_and, and_true, and_self, nInt_eq, Int.natCast_zero, dLen_eL, sLen_eq])) ⟨Nat.zero_le _, rfl⟩ ?_
        intro k ⟨hk3, hl⟩
        (conv => whnf)
        refine ifB_i (fun g3 => ?_) (fun g3 => ?_) <;> (conv => whnf) <;> simp at g3
        · obtain ⟨t, ht'⟩ := get_lt g3
          rw [drop_at ht', List.all_cons] at hl
          refine idx_at (by simp) ht' ?_
          (conv => whnf)
          refine .inl ⟨_, _, _, spec_TreeOk_spec t m.names.length (ht t (List.mem_of_getElem? ht')), rfl, ?_⟩
          cases hb : treeOk t m.names.length
          · (conv => whnf)
            rw [hb] at hl
            rw [← hl]
            rfl
          · (conv => whnf)
            rw [hb] at hl
            refine ⟨k + 1, by omega, ⟨g3, by simpa using hl⟩, ?_⟩
            ((conv => whnf); simp only [St.mk.injEq, List.cons.injEq, Prod.mk.injEq, AV.c.injEq, AV.agg.injEq, AV.tup.injEq, CV.d.injEq, D.int.injEq, D.bool.injEq, D.str.injEq, D.sl.injEq, Ent.arr.injEq, Ent.box.injEq, true_and, and_true, and_self, nInt_eq, Int.natCast_zero, dLen_eL, sLen_eq, wI g3 (by omega)])
        · obtain rfl : k = m.trees.length := by omega
          simp only [List.drop_length, List.all_nil] at hl
          rw [← hl]

theorem any_all {α : Type} (p : α → Bool) (l : List α) : (l.any fun x => bNot (p x)) = !l.all p := by
  induction l with
  | nil => rfl
  | cons x r ih => rw [List.any_cons, List.all_cons, ih, Bool.not_and]; rfl
set_option maxHeartbeats 1000000 in
theorem impl_ModelOk_spec (m : Mdl) (hn : m.names.length ≤ 1048576) (hns : ∀ s ∈ m.names, s.size ≤ 9223372036854775807) (hs : m.signs.length ≤ 1048576) (hm : m.trees.length ≤ 1048576) (ht : ∀ t ∈ m.trees, t.length ≤ 1048576) : FnSpec PR f_impl_ModelOk [aM m] (ab (modelOk m)) [] 0 := by
  have eS : nInt (dLen (eL cI m.signs)) = (m.signs.length : Int) := by simp
  have eN : nInt (dLen (eL cS m.names)) = (m.names.length : Int) := by simp
  have eT : nInt (dLen (eL cT m.trees)) = (m.trees.length : Int) := by simp
  refine FnSpec.intro hT p_impl_ModelOk rfl (by kernel_rfl) n_impl_ModelOk rfl ?_
  conv => whnf
  rw [eN]
  refine .inl ⟨_, _, _, impl_within_spec _ _ _, rfl, ?_⟩
  (conv => whnf)
  refine ifB_i (fun h1 => ?_) (fun h1 => ?_) <;> (conv => whnf) <;> simp only [nInt_eq, Int.natCast_zero, dLen_eL, sLen_eq, nOf_eq, Int.toNat_natCast, nAdd_eq, nSub_eq, dLen_nil, dLen_cons, iLt_t, iLt_f, iLe_t, iLe_f, iEq_t, iEq_f, sEq_t, sEq_f, bNot_t, bNot_f, bAnd_t, bEq_t, bEq_f, Bool.not_eq_true, Bool.not_eq_false, Bool.true_eq_false, Bool.false_eq_true] at h1
  · have : decide (1 ≤ (m.names.length : Int) ∧ (m.names.length : Int) ≤ 4) = false := by simpa using h1
    simp [modelOk, this]
  refine .inl ⟨_, _, _, impl_areNames_spec m.names hn hns, rfl, ?_⟩
  cases hnm : namesL m.names m.names 0
  · (conv => whnf)
    simp [modelOk, hnm]
  (conv => whnf)
  rw [eS]
  generalize e1 : iEq (m.signs.length : Int) 0 = c1
  cases c1 <;> (conv => whnf)
  · rw [eS]
    generalize e2 : iEq (m.signs.length : Int) (m.names.length : Int) = c2
    have h0 : ¬ m.signs.length = 0 := by intro h; rw [h] at e1; simp [iEq] at e1
    cases c2 <;> (conv => whnf)
    · have : ¬ m.signs.length = m.names.length := by intro h; rw [h] at e2; simp [iEq] at e2
      simp [modelOk, h0, this]
    · have hsg : (decide (m.signs.length = 0) || decide (m.signs.length = m.names.length)) = true := by
        have : (m.signs.length : Int) = m.names.length := by simpa [iEq] using e2
        rw [decide_eq_true (show m.signs.length = m.names.length by omega)]; simp
      refine .inl ⟨_, _, _, slices_ContainsFunc_Lint_int_0 m.signs f_impl_ModelOk_1 (fun x => bNot (signOk x)) (fun x _ => impl_ModelOk_1_spec x) (by omega), rfl, ?_⟩
      rw [any_all]
      cases hsa : m.signs.all signOk
      rotate_left
      · (conv => whnf)
        refine .inl ⟨_, _, _, impl_isDecimal_spec _, rfl, ?_⟩
        (conv => whnf)
        generalize e3 : decide (-2147483647 ≤ m.base ∧ m.base ≤ 2147483647) = c3
        cases c3 <;> (conv => whnf)
        · simp [modelOk, e3]
        rw [eT]
        generalize e4 : iLe (m.trees.length : Int) 8 = c4
        cases c4 <;> (conv => whnf)
        · have : ¬ m.trees.length ≤ 8 := by have : ¬ (m.trees.length : Int) ≤ 8 := by simpa [iLe] using e4
                                            omega
          simp [modelOk, this]
        have h4 : decide (m.trees.length ≤ 8) = true := decide_eq_true (by have : (m.trees.length : Int) ≤ 8 := by simpa [iLe] using e4
                                                                           omega)
        refine .inr (.inl ⟨_, _, _, slices_ContainsFunc_Limpl_Tree_impl_Tree_1 m.trees f_impl_ModelOk_2 (.rp [.int .i64 m.names.length]) (fun t => bNot (treeOk t m.names.length)) (fun t htm => impl_ModelOk_2_spec t m.names.length (ht t htm)) (by omega), rfl, trivial, ?_⟩)
        rw [any_all]
        (conv => whnf)
        have hmo : modelOk m = m.trees.all fun t => treeOk t m.names.length := by simp only [modelOk]; rw [h1, hsg, e3, h4, hnm, hsa]; rfl
        rw [hmo]
        simp [bNot]
      · (conv => whnf)
        simp [modelOk, hsa]
  · have hsg : (decide (m.signs.length = 0) || decide (m.signs.length = m.names.length)) = true := by
      have : (m.signs.length : Int) = 0 := by simpa [iEq] using e1
      rw [decide_eq_true (show m.signs.length = 0 by omega)]; rfl
    refine .inl ⟨_, _, _, slices_ContainsFunc_Lint_int_0 m.signs f_impl_ModelOk_1 (fun x => bNot (signOk x)) (fun x _ => impl_ModelOk_1_spec x) (by omega), rfl, ?_⟩
    rw [any_all]
    cases hsa : m.signs.all signOk
    rotate_left
    · (conv => whnf)
      refine .inl ⟨_, _, _, impl_isDecimal_spec _, rfl, ?_⟩
      (conv => whnf)
      generalize e3 : decide (-2147483647 ≤ m.base ∧ m.base ≤ 2147483647) = c3
      cases c3 <;> (conv => whnf)
      · simp [modelOk, e3]
      rw [eT]
      generalize e4 : iLe (m.trees.length : Int) 8 = c4
      cases c4 <;> (conv => whnf)
      · have : ¬ m.trees.length ≤ 8 := by have : ¬ (m.trees.length : Int) ≤ 8 := by simpa [iLe] using e4
                                          omega
        simp [modelOk, this]
      have h4 : decide (m.trees.length ≤ 8) = true := decide_eq_true (by have : (m.trees.length : Int) ≤ 8 := by simpa [iLe] using e4
                                                                         omega)
      refine .inr (.inl ⟨_, _, _, slices_ContainsFunc_Limpl_Tree_impl_Tree_1 m.trees f_impl_ModelOk_2 (.rp [.int .i64 m.names.length]) (fun t => bNot (treeOk t m.names.length)) (fun t htm => impl_ModelOk_2_spec t m.names.length (ht t htm)) (by omega), rfl, trivial, ?_⟩)
      rw [any_all]
      (conv => whnf)
      have hmo : modelOk m = m.trees.all fun t => treeOk t m.names.length := by simp only [modelOk]; rw [h1, hsg, e3, h4, hnm, hsa]; rfl
      rw [hmo]
      simp [bNot]
    · (conv => whnf)
      simp [modelOk, hsa]
end Go.H.S
namespace Go.H.S
open Go Go.Proofs Go.H
attribute [local irreducible] Tri FnSpec FnSpecM FnSpecX FnSpecJ FnSpecB
set_option maxRecDepth 100000
set_option linter.unusedSimpArgs false
set_option linter.unusedVariables false


theorem firstM_twice (m : Mdl) (k : Int) : firstM (firstM m k) k = firstM m k := by
  have e0 : ∀ m' : Mdl, k < 0 → firstK m' k = 0 := fun m' hk => by unfold firstK brought; rw [if_pos hk]; rfl
  have e1 : ∀ m' : Mdl, 0 ≤ k → firstK m' k = min k.toNat m'.trees.length := fun m' hk => by
    unfold firstK brought
    rw [if_neg (by omega)]
    split <;> omega
  have e : (m.trees.take (firstK m k)).take (firstK (firstM m k) k) = m.trees.take (firstK m k) := by
    rcases Int.lt_or_le k 0 with q | q
    · rw [e0 _ q, e0 _ q]; simp
    · rw [e1 (firstM m k) q, e1 m q]
      refine List.take_of_length_le ?_
      show (m.trees.take (min k.toNat m.trees.length)).length ≤ min k.toNat (m.trees.take (firstK m k)).length
      rw [e1 m q, List.length_take]
      omega
  show ({ m with trees := (m.trees.take (firstK m k)).take (firstK (firstM m k) k) } : Mdl) = { m with trees := m.trees.take (firstK m k) }
  rw [e]
theorem firstM_all (m : Mdl) : firstM m m.trees.length = m := by
  have e : firstK m m.trees.length = m.trees.length := by unfold firstK brought; split <;> (try split) <;> omega
  unfold firstM
  rw [e, List.take_length]
theorem modelOk_first {m : Mdl} (h : modelOk m = true) (k : Int) : modelOk (firstM m k) = true := by
  have hk := firstK_le m k
  simp only [modelOk, Bool.and_eq_true, decide_eq_true_eq, List.all_eq_true] at h ⊢
  obtain ⟨h1, h2, h3, h4, h5, h6, h7⟩ := h
  refine ⟨h1, h2, h3, ?_, h5, h6, fun t ht => h7 t (List.mem_of_mem_take ht)⟩
  show (m.trees.take (firstK m k)).length ≤ 8
  rw [List.length_take]; omega
theorem eqMd_self (m : Mdl) : eqMd m m = true := by simp [eqMd]

abbrev tupM1 (x : Mdl × Int) : AV := .tup [(true, cM x.1), (false, [.d (.int .i64 x.2)])]
theorem spec_DrawFirstTrees_spec (code : List Int) (hl : code.length ≤ 1048576) : FnSpecX PR f_spec_DrawFirstTrees [.c (.d (.sl 1 (eL cU code)))] (Mdl × Int) (fun x => drawn x.1) tupM1 (fun _ => []) (fun _ => 0) := by
  refine FnSpecX.intro hT p_spec_DrawFirstTrees rfl (by kernel_rfl) n_spec_DrawFirstTrees rfl ?_
  (conv => whnf)
  refine .inr ⟨_, _, _, _, _, spec_l1New_spec code hl, fun h0 _ => ⟨rfl, ?_⟩⟩
  (conv => whnf)
  refine .inr (.inr (.inr (.inr (.inl ⟨1, ?_⟩))))
  (conv => whnf)
  refine ⟨_, _, _, _, _, _, spec_l24Bent_spec code 0 h0 ⟨by omega, by omega⟩ hl, fun ⟨m, i1, h1⟩ ⟨hm, hi1⟩ => ⟨rfl, ?_⟩⟩
  dsimp only at hm hi1
  (conv => whnf)
  refine .inr (.inr (.inr (.inr (.inl ⟨1, ?_⟩))))
  (conv => whnf)
  refine ⟨_, _, _, _, _, _, spec_l1PickInt_of code i1 h1 _ [0, 1, 2, 3, 9, -1, 9223372036854775807] (by simp [eL, cI]) hi1 hl (by simp) (by simp), fun ⟨k, i2, h2⟩ ⟨hk, hi2⟩ => ⟨rfl, ?_⟩⟩
  (conv => whnf)
  refine ⟨(m, k), hm, ?_⟩
  (conv => whnf)
end Go.H.S
namespace Go.H.S
open Go Go.Proofs Go.H
set_option linter.unusedSimpArgs false
set_option linter.unusedVariables false


/-- The least and the greatest of these values, or none. -/
def IsSpan (S : Int → Prop) (a : Int × Int × Bool) : Prop :=
  (a.2.2 = true → S a.1 ∧ S a.2.1 ∧ ∀ v, S v → a.1 ≤ v ∧ v ≤ a.2.1) ∧ (a.2.2 = false → ∀ v, ¬ S v)
theorem IsSpan.congr {S S' : Int → Prop} {a : Int × Int × Bool} (h : IsSpan S a) (he : ∀ v, S v ↔ S' v) : IsSpan S' a := by
  have : S = S' := funext fun v => propext (he v)
  rw [← this]; exact h
theorem span_fold (t : List Nd) (node : Int) : ∀ (l : List Int) (S : Int → Prop) (a : Int × Int × Bool), IsSpan S a → IsSpan (fun v => S v ∨ ∃ y ∈ l, node ∈ wayL t y ∧ vAt t y = v) (l.foldl (spanStep t node) a)
  | [], S, a, h => h.congr fun v => by simp
  | y :: r, S, a, h => by
    rw [List.foldl_cons]
    have h1 : IsSpan (fun v => S v ∨ (node ∈ wayL t y ∧ vAt t y = v)) (spanStep t node a y) := by
      obtain ⟨lo, hi, ok⟩ := a
      unfold spanStep
      by_cases hy : node ∈ wayL t y
      · rw [if_pos hy]
        cases ok with
        | false =>
          refine ⟨fun _ => ⟨.inr ⟨hy, rfl⟩, .inr ⟨hy, rfl⟩, fun v hv => ?_⟩, fun q => by cases q⟩
          rcases hv with hv | ⟨_, rfl⟩
          · exact absurd hv (h.2 rfl v)
          · exact ⟨Int.le_refl _, Int.le_refl _⟩
        | true =>
          obtain ⟨q1, q2, q3⟩ := h.1 rfl
          have key : ∀ m : Int, (m = lo ∨ m = hi ∨ m = vAt t y) → S m ∨ (node ∈ wayL t y ∧ vAt t y = m) := fun m hm => by
            rcases hm with rfl | rfl | rfl
            · exact .inl q1
            · exact .inl q2
            · exact .inr ⟨hy, rfl⟩
          refine ⟨fun _ => ⟨key _ (by simp only [if_true]; omega), key _ (by simp only [if_true]; omega), fun v hv => ?_⟩, fun q => by cases q⟩
          simp only [if_true]
          rcases hv with hv | ⟨_, rfl⟩
          · have := q3 v hv; simp only at this; omega
          · omega
      · rw [if_neg hy]
        exact h.congr fun v => by simp [hy]
    refine (span_fold t node r _ _ h1).congr fun v => ?_
    simp only [List.mem_cons]
    constructor
    · rintro ((h | h) | ⟨z, hz, h⟩)
      · exact .inl h
      · exact .inr ⟨y, .inl rfl, h⟩
      · exact .inr ⟨z, .inr hz, h⟩
    · rintro (h | ⟨z, rfl | hz, h⟩)
      · exact .inl (.inl h)
      · exact .inl (.inr h)
      · exact .inr ⟨z, hz, h⟩
theorem spanL_spec (t : List Nd) (node : Int) : IsSpan (fun v => ∃ y ∈ leavesK t 0, node ∈ wayL t y ∧ vAt t y = v) (spanL t node) :=
  (span_fold t node (leavesK t 0) (fun _ => False) (0, 0, false) ⟨fun h => (by cases h), fun _ _ h => h⟩).congr fun v => by simp
theorem leaf_mem : ∀ (t : List Nd) (k : Nat) (y : Int), y ∈ leavesK t k ↔ ∃ (j : Nat) (n : Nd), y = (k : Int) + j ∧ t[j]? = some n ∧ n.f = -1
  | [], k, y => by simp [leavesK]
  | x :: r, k, y => by
    have ih := leaf_mem r (k + 1) y
    have hstep : (∃ (j : Nat) (n : Nd), y = (k : Int) + j ∧ (x :: r)[j]? = some n ∧ n.f = -1) ↔ (y = k ∧ x.f = -1) ∨ ∃ (j : Nat) (n : Nd), y = ((k + 1 : Nat) : Int) + j ∧ r[j]? = some n ∧ n.f = -1 := by
      constructor
      · rintro ⟨j, n, h1, h2, h3⟩
        cases j with
        | zero => simp at h2; subst h2; exact .inl ⟨by omega, h3⟩
        | succ j => rw [List.getElem?_cons_succ] at h2; exact .inr ⟨j, n, by omega, h2, h3⟩
      · rintro (⟨h1, h2⟩ | ⟨j, n, h1, h2, h3⟩)
        · exact ⟨0, x, by omega, by simp, h2⟩
        · exact ⟨j + 1, n, by omega, by rw [List.getElem?_cons_succ]; exact h2, h3⟩
    rw [hstep, ← ih]
    simp only [leavesK]
    split
    · rename_i hf; simp [hf]
    · rename_i hf; simp [hf]
/-- The values of the leaves below x. -/
def Under (t : List Nd) (x v : Int) : Prop := ∃ (j : Nat) (n : Nd), t[j]? = some n ∧ n.f = -1 ∧ Anc t x j ∧ n.v = v
theorem span_under {t : List Nd} {ft : Int} (h : shapeOk t ft = true) (hl : t.length ≤ 31) (x : Int) : IsSpan (Under t x) (spanL t x) := by
  refine (spanL_spec t x).congr fun v => ?_
  constructor
  · rintro ⟨y, hy, hw, rfl⟩
    obtain ⟨j, n, h1, h2, h3⟩ := (leaf_mem t 0 y).1 hy
    obtain rfl : y = j := by omega
    have hj : j < t.length := (List.getElem?_eq_some_iff.1 h2).1
    exact ⟨j, n, h2, h3, (way_anc h hl ⟨by omega, by omega⟩ x).1 hw, by simp [vAt, h2]⟩
  · rintro ⟨j, n, h2, h3, ha, rfl⟩
    have hj : j < t.length := (List.getElem?_eq_some_iff.1 h2).1
    exact ⟨j, (leaf_mem t 0 j).2 ⟨j, n, by omega, h2, h3⟩, (way_anc h hl ⟨by omega, by omega⟩ x).2 ha, by simp [vAt, h2]⟩
theorem under_kids {t : List Nd} {ft : Int} (h : shapeOk t ft = true) {j : Nat} {n : Nd} (hj : t[j]? = some n) (hf : n.f ≠ -1) (v : Int) : Under t j v ↔ Under t n.l v ∨ Under t n.r v := by
  constructor
  · rintro ⟨i, m, h1, h2, h3, h4⟩
    have hne : (i : Int) ≠ j := fun e => by
      have : i = j := by omega
      subst this
      rw [hj] at h1; cases h1
      exact hf h2
    rcases (anc_kid h hj hf hne).1 h3 with q | q
    · exact .inl ⟨i, m, h1, h2, q, h4⟩
    · exact .inr ⟨i, m, h1, h2, q, h4⟩
  · rintro (⟨i, m, h1, h2, h3, h4⟩ | ⟨i, m, h1, h2, h3, h4⟩) <;> refine ⟨i, m, h1, h2, (anc_kid h hj hf (fun e => ?_)).2 (by first | exact .inl h3 | exact .inr h3), h4⟩
    all_goals
      have : i = j := by omega
      subst this
      rw [hj] at h1; cases h1
      exact hf h2
theorem under_leaf {t : List Nd} {ft : Int} (h : shapeOk t ft = true) {j : Nat} {n : Nd} (hj : t[j]? = some n) (hf : n.f = -1) (v : Int) : Under t j v ↔ v = n.v := by
  constructor
  · rintro ⟨i, m, h1, h2, h3, h4⟩
    rcases anc_below h3 with e | ⟨c, q1, q2, _⟩
    · obtain rfl : j = i := by omega
      rw [hj] at h1; cases h1
      exact h4.symm
    · obtain ⟨j', n', r1, r2, r3, _, _⟩ := up_at h q1
      obtain rfl : j' = j := by omega
      rw [hj] at r2; cases r2
      exact absurd hf r3
  · rintro rfl
    exact ⟨j, n, hj, hf, .refl _, rfl⟩
theorem under_some {t : List Nd} {ft : Int} (h : shapeOk t ft = true) : ∀ (d j : Nat), j < t.length → t.length - j ≤ d → ∃ v, Under t j v
  | 0, j, h1, h2 => by omega
  | d + 1, j, h1, h2 => by
    obtain ⟨n, hj⟩ : ∃ n, t[j]? = some n := ⟨t[j], List.getElem?_eq_getElem h1⟩
    by_cases hf : n.f = -1
    · exact ⟨n.v, (under_leaf h hj hf _).2 rfl⟩
    · have hk := shape_kids h hj hf
      obtain ⟨v, hv⟩ := under_some h d n.l.toNat (by omega) (by omega)
      rw [show ((n.l.toNat : Nat) : Int) = n.l by omega] at hv
      exact ⟨v, (under_kids h hj hf v).2 (.inl hv)⟩
/-- The span of an inner node, from its children's. -/
theorem span_law {t : List Nd} {ft : Int} (h : shapeOk t ft = true) (hl : t.length ≤ 31) {j : Nat} {n : Nd} (hj : t[j]? = some n) (hf : n.f ≠ -1) :
    (spanL t j).1 = min (spanL t n.l).1 (spanL t n.r).1 ∧ (spanL t j).2.1 = max (spanL t n.l).2.1 (spanL t n.r).2.1 := by
  have hk := shape_kids h hj hf
  have hj' : j < t.length := (List.getElem?_eq_some_iff.1 hj).1
  have some' : ∀ x : Int, 0 ≤ x → x < t.length → (spanL t x).2.2 = true := fun x h0 h1 => by
    cases hb : (spanL t x).2.2 with
    | true => rfl
    | false =>
      obtain ⟨v, hv⟩ := under_some h (t.length - x.toNat) x.toNat (by omega) (Nat.le_refl _)
      rw [show ((x.toNat : Nat) : Int) = x by omega] at hv
      exact absurd hv ((span_under h hl x).2 hb v)
  obtain ⟨a1, a2, a3⟩ := (span_under h hl j).1 (some' j (by omega) (by omega))
  obtain ⟨b1, b2, b3⟩ := (span_under h hl n.l).1 (some' n.l (by omega) (by omega))
  obtain ⟨c1, c2, c3⟩ := (span_under h hl n.r).1 (some' n.r (by omega) (by omega))
  have e := under_kids h hj hf
  have k1 := a3 _ ((e _).2 (.inl b1))
  have k2 := a3 _ ((e _).2 (.inl b2))
  have k3 := a3 _ ((e _).2 (.inr c1))
  have k4 := a3 _ ((e _).2 (.inr c2))
  constructor
  · rcases (e _).1 a1 with q | q
    · have := b3 _ q; omega
    · have := c3 _ q; omega
  · rcases (e _).1 a2 with q | q
    · have := b3 _ q; omega
    · have := c3 _ q; omega
theorem span_leaf {t : List Nd} {ft : Int} (h : shapeOk t ft = true) (hl : t.length ≤ 31) {j : Nat} {n : Nd} (hj : t[j]? = some n) (hf : n.f = -1) : spanL t j = (n.v, n.v, true) := by
  have hs := span_under h hl j
  have e := under_leaf h hj hf
  cases hb : (spanL t j).2.2 with
  | false => exact absurd ((e _).2 rfl) (hs.2 hb n.v)
  | true =>
    obtain ⟨a1, a2, _⟩ := hs.1 hb
    have := (e _).1 a1
    have := (e _).1 a2
    refine Prod.ext ?_ (Prod.ext ?_ ?_) <;> simp_all
end Go.H.S
namespace Go.H.S
open Go Go.Proofs Go.H
set_option linter.unusedSimpArgs false
set_option linter.unusedVariables false


/-- Where a row ends, from x on: the leaf. g decides at each inner node: go left. -/
inductive Ends (t : List Nd) (g : Nd → Bool) : Int → Nat → Prop
  | leaf {j : Nat} {n : Nd} : t[j]? = some n → n.f = -1 → Ends t g j j
  | left {j k : Nat} {n : Nd} : t[j]? = some n → n.f ≠ -1 → g n = true → Ends t g n.l k → Ends t g j k
  | right {j k : Nat} {n : Nd} : t[j]? = some n → n.f ≠ -1 → g n = false → Ends t g n.r k → Ends t g j k
theorem ends_under {t : List Nd} {ft : Int} (h : shapeOk t ft = true) {g : Nd → Bool} {x : Int} {k : Nat} (he : Ends t g x k) : Under t x (vAt t k) := by
  induction he with
  | @leaf j n hj hf => exact (under_leaf h hj hf _).2 (by simp [vAt, hj])
  | left hj hf _ _ ih => exact (under_kids h hj hf _).2 (.inl ih)
  | right hj hf _ _ ih => exact (under_kids h hj hf _).2 (.inr ih)
/-- Two rows that part at nodes of the feature alone, the first to the left there, the second to the right. -/
theorem ends_rise {t : List Nd} {ft : Int} (h : shapeOk t ft = true) (hl : t.length ≤ 31) {f : Int} {g g' : Nd → Bool} (hg : ∀ n, n.f ≠ f → g n = g' n) (hg2 : ∀ n, n.f = f → g' n = true → g n = true)
    (hfol : ∀ (j : Nat) (n : Nd), t[j]? = some n → n.f ≠ -1 → n.f = f → (spanL t n.l).2.1 ≤ (spanL t n.r).1) {x : Int} {k : Nat} (he : Ends t g x k) : ∀ {k' : Nat}, Ends t g' x k' → vAt t k ≤ vAt t k' := by
  have sp : ∀ {y v : Int}, Under t y v → (spanL t y).1 ≤ v ∧ v ≤ (spanL t y).2.1 := fun {y v} hv => by
    cases hb : (spanL t y).2.2 with
    | true => exact ((span_under h hl y).1 hb).2.2 v hv
    | false => exact absurd hv ((span_under h hl y).2 hb v)
  induction he with
  | @leaf j n hj hf =>
    intro k' he'
    generalize hx : (j : Int) = x at he'
    cases he' with
    | @leaf _ n' hj' hf' =>
      obtain rfl : j = k' := by omega
      exact Int.le_refl _
    | @left j' _ n' hj' hf' _ _ =>
      obtain rfl : j = j' := by omega
      rw [hj] at hj'; cases hj'; exact absurd hf hf'
    | @right j' _ n' hj' hf' _ _ =>
      obtain rfl : j = j' := by omega
      rw [hj] at hj'; cases hj'; exact absurd hf hf'
  | @left j k n hj hf hgn he ih =>
    intro k' he'
    generalize hx : (j : Int) = x at he'
    cases he' with
    | @leaf _ n' hj' hf' =>
      obtain rfl : j = k' := by omega
      rw [hj] at hj'; cases hj'; exact absurd hf' hf
    | @left j' _ n' hj' hf' _ he2 =>
      obtain rfl : j = j' := by omega
      rw [hj] at hj'; cases hj'; exact ih he2
    | @right j' _ n' hj' hf' hg' he2 =>
      obtain rfl : j = j' := by omega
      rw [hj] at hj'; cases hj'
      have hff : n.f = f := by
        rcases Decidable.em (n.f = f) with q | q
        · exact q
        · rw [hg n q, hg'] at hgn; cases hgn
      have h1 := sp (ends_under h he)
      have h2 := sp (ends_under h he2)
      have h3 := hfol j n hj hf hff
      omega
  | @right j k n hj hf hgn he ih =>
    intro k' he'
    generalize hx : (j : Int) = x at he'
    cases he' with
    | @leaf _ n' hj' hf' =>
      obtain rfl : j = k' := by omega
      rw [hj] at hj'; cases hj'; exact absurd hf' hf
    | @left j' _ n' hj' hf' hg' he2 =>
      obtain rfl : j = j' := by omega
      rw [hj] at hj'; cases hj'
      rcases Decidable.em (n.f = f) with q | q
      · rw [hg2 n q hg'] at hgn; cases hgn
      · rw [hg n q, hg'] at hgn; cases hgn
    | @right j' _ n' hj' hf' _ he2 =>
      obtain rfl : j = j' := by omega
      rw [hj] at hj'; cases hj'; exact ih he2
/-- Two rows that part at nodes of the feature alone, the first to the left there, the second to the right: the sign turned. -/
theorem ends_fall {t : List Nd} {ft : Int} (h : shapeOk t ft = true) (hl : t.length ≤ 31) {f : Int} {g g' : Nd → Bool} (hg : ∀ n, n.f ≠ f → g n = g' n) (hg2 : ∀ n, n.f = f → g' n = true → g n = true)
    (hfol : ∀ (j : Nat) (n : Nd), t[j]? = some n → n.f ≠ -1 → n.f = f → (spanL t n.r).2.1 ≤ (spanL t n.l).1) {x : Int} {k : Nat} (he : Ends t g x k) : ∀ {k' : Nat}, Ends t g' x k' → vAt t k' ≤ vAt t k := by
  have sp : ∀ {y v : Int}, Under t y v → (spanL t y).1 ≤ v ∧ v ≤ (spanL t y).2.1 := fun {y v} hv => by
    cases hb : (spanL t y).2.2 with
    | true => exact ((span_under h hl y).1 hb).2.2 v hv
    | false => exact absurd hv ((span_under h hl y).2 hb v)
  induction he with
  | @leaf j n hj hf =>
    intro k' he'
    generalize hx : (j : Int) = x at he'
    cases he' with
    | @leaf _ n' hj' hf' =>
      obtain rfl : j = k' := by omega
      exact Int.le_refl _
    | @left j' _ n' hj' hf' _ _ =>
      obtain rfl : j = j' := by omega
      rw [hj] at hj'; cases hj'; exact absurd hf hf'
    | @right j' _ n' hj' hf' _ _ =>
      obtain rfl : j = j' := by omega
      rw [hj] at hj'; cases hj'; exact absurd hf hf'
  | @left j k n hj hf hgn he ih =>
    intro k' he'
    generalize hx : (j : Int) = x at he'
    cases he' with
    | @leaf _ n' hj' hf' =>
      obtain rfl : j = k' := by omega
      rw [hj] at hj'; cases hj'; exact absurd hf' hf
    | @left j' _ n' hj' hf' _ he2 =>
      obtain rfl : j = j' := by omega
      rw [hj] at hj'; cases hj'; exact ih he2
    | @right j' _ n' hj' hf' hg' he2 =>
      obtain rfl : j = j' := by omega
      rw [hj] at hj'; cases hj'
      have hff : n.f = f := by
        rcases Decidable.em (n.f = f) with q | q
        · exact q
        · rw [hg n q, hg'] at hgn; cases hgn
      have h1 := sp (ends_under h he)
      have h2 := sp (ends_under h he2)
      have h3 := hfol j n hj hf hff
      omega
  | @right j k n hj hf hgn he ih =>
    intro k' he'
    generalize hx : (j : Int) = x at he'
    cases he' with
    | @leaf _ n' hj' hf' =>
      obtain rfl : j = k' := by omega
      rw [hj] at hj'; cases hj'; exact absurd hf' hf
    | @left j' _ n' hj' hf' hg' he2 =>
      obtain rfl : j = j' := by omega
      rw [hj] at hj'; cases hj'
      rcases Decidable.em (n.f = f) with q | q
      · rw [hg2 n q hg'] at hgn; cases hgn
      · rw [hg n q, hg'] at hgn; cases hgn
    | @right j' _ n' hj' hf' _ he2 =>
      obtain rfl : j = j' := by omega
      rw [hj] at hj'; cases hj'; exact ih he2
end Go.H.S
namespace Go.H.S
open Go Go.Proofs Go.H
attribute [local irreducible] Tri FnSpec FnSpecM FnSpecX FnSpecJ FnSpecB
set_option maxRecDepth 100000
set_option linter.unusedSimpArgs false
set_option linter.unusedVariables false


def rowAt (row : List Int) (f : Int) : Int := (row[f.toNat]?).getD 0
def goL (row : List Int) (n : Nd) : Bool := iLe (rowAt row n.f) n.c
def routeL (t : List Nd) (row : List Int) : Nat → Int → Option (List Int)
  | 0, _ => none
  | m + 1, x => if 0 ≤ x then match t[x.toNat]? with
      | none => none
      | some n => if n.f = -1 then some [x] else if 0 ≤ n.f ∧ n.f ≤ (row.length : Int) - 1 then (routeL t row m (if goL row n = true then n.l else n.r)).map (x :: ·) else none
    else none

def resR : Option (List Int) → AV
  | none => .c (.nl 0)
  | some _ => .c (.ref 0 0 none)
def entsR : Option (List Int) → List (Nat × Ent)
  | none => []
  | some l => [(0, .arr t_int 1 0 .own (eL cI l))]
def numR : Option (List Int) → Nat
  | none => 0
  | some _ => 1
set_option maxHeartbeats 1000000 in
theorem impl_route_spec (t : List Nd) (row : List Int) (hl : t.length ≤ 1048576) (hr : row.length ≤ 1048576) : FnSpecX PR f_impl_route [aT t, aIs row] (Option (List Int)) (fun x => x = routeL t row (t.length + 1) 0) resR entsR numR := by
  refine FnSpecX.intro hT p_impl_route rfl (by kernel_rfl) n_impl_route rfl ?_
  (conv => whnf)
  refine tri_loop hT [1, 2, 5, 6, 12, 13] (α := Nat × Int × List Int) (fun x => { t := [(1, aIs row), (2, .c (.ptr 0 0)), (5, .c (.ref 1 0 none)), (6, ai x.2.1), (12, ai (t.length + 1 : Nat)), (13, ai x.1)], h := [(0, .box t_impl_Tree (cTr t)), (1, .arr t_int 1 0 .own (eL cI x.2.2))], n := 2, N := 57 })
    (fun x => x.1 ≤ t.length + 1 ∧ x.2.2.length ≤ x.1 ∧ (routeL t row (t.length + 1 - x.1) x.2.1).map (x.2.2 ++ ·) = routeL t row (t.length + 1) 0) (fun x => t.length + 1 - x.1) (0, 0, []) (by ((conv => whnf); simp only [St.mk.injEq, List.cons.injEq, Prod.mk.injEq, AV.c.injEq, AV.agg.injEq, AV.tup.injEq, CV.d.injEq, D.int.injEq, D.bool.injEq, D.str.injEq, D.sl.injEq, Ent.arr.injEq, Ent.box.injEq, true_and, and_true, and_self, nInt_eq, Int.natCast_zero, dLen_eL, sLen_eq, eL_nil]); exact wAdd64 (by omega) (by omega)) ⟨by simp, by simp, by simp⟩ ?_
  intro ⟨k, x, o⟩ ⟨hk, ho, he⟩
  dsimp only at hk ho he
  (conv => whnf)
  refine ifB_i (fun h1 => ?_) (fun h1 => ?_) <;> (conv => whnf) <;> simp only [nInt_eq, Int.natCast_zero, dLen_eL, sLen_eq, nOf_eq, Int.toNat_natCast, nAdd_eq, nSub_eq, dLen_nil, dLen_cons, iLt_t, iLt_f, iLe_t, iLe_f, iEq_t, iEq_f, sEq_t, sEq_f, bNot_t, bNot_f, bAnd_t, bEq_t, bEq_f, Bool.not_eq_true, Bool.not_eq_false, Bool.true_eq_false, Bool.false_eq_true] at h1
  · obtain ⟨m, hm⟩ : ∃ m, t.length + 1 - k = m + 1 := ⟨t.length - k, by omega⟩
    rw [hm, routeL] at he
    rw [show nInt (dLen (eL cN t)) = (t.length : Int) by simp]
    rw [show wSub .i64 (t.length : Int) 1 = (t.length : Int) - 1 from wSub64 (by omega) (by omega)]
    refine .inl ⟨_, _, _, impl_within_spec _ _ _, rfl, ?_⟩
    (conv => whnf)
    refine ifB_i (fun h2 => ?_) (fun h2 => ?_) <;> (conv => whnf)
    · simp at h2
      refine ⟨none, ?_, ?_⟩
      · rw [← he]
        split
        · rename_i h3
          have : t[x.toNat]? = none := List.getElem?_eq_none (by have := h2 h3; omega)
          simp [this]
        · rfl
      · (conv => whnf)
        rfl
    · simp at h2
      obtain ⟨j, rfl⟩ : ∃ j : Nat, x = j := ⟨x.toNat, by omega⟩
      obtain ⟨n, hn⟩ := get_lt (show j < t.length by omega)
      rw [if_pos h2.1, show (j : Int).toNat = j by simp, hn] at he
      dsimp only at he
      refine idx_at (by simp) hn ?_
      (conv => whnf)
      refine And.intro (by unfold Fits; simp; omega) ?_
      (conv => whnf)
      refine .inl ⟨_, _, _, impl_isLeaf_spec n, rfl, ?_⟩
      (conv => whnf)
      refine ifB_i (fun h3 => ?_) (fun h3 => ?_) <;> (conv => whnf) <;> simp only [nInt_eq, Int.natCast_zero, dLen_eL, sLen_eq, nOf_eq, Int.toNat_natCast, nAdd_eq, nSub_eq, dLen_nil, dLen_cons, iLt_t, iLt_f, iLe_t, iLe_f, iEq_t, iEq_f, sEq_t, sEq_f, bNot_t, bNot_f, bAnd_t, bEq_t, bEq_f, Bool.not_eq_true, Bool.not_eq_false, Bool.true_eq_false, Bool.false_eq_true] at h3
      · rw [if_pos h3] at he
        refine ⟨some (o ++ [(j : Int)]), he, ?_⟩
        ((conv => whnf); simp only [St.mk.injEq, List.cons.injEq, Prod.mk.injEq, AV.c.injEq, AV.agg.injEq, AV.tup.injEq, CV.d.injEq, D.int.injEq, D.bool.injEq, D.str.injEq, D.sl.injEq, Ent.arr.injEq, Ent.box.injEq, true_and, and_true, and_self, nInt_eq, Int.natCast_zero, dLen_eL, sLen_eq])
        refine ⟨rfl, ?_, rfl⟩
        rw [entsR, ← eL_app]
        rfl
      · rw [if_neg h3] at he
        refine .inl ⟨_, _, _, impl_within_spec _ _ _, rfl, ?_⟩
        (conv => whnf)
        have er : wSub .i64 (nInt (dLen (eL cI row))) 1 = (row.length : Int) - 1 := by rw [show nInt (dLen (eL cI row)) = (row.length : Int) by simp]; exact wSub64 (by omega) (by omega)
        refine ifB_i (fun h4 => ?_) (fun h4 => ?_) <;> (conv => whnf)
        · rw [er] at h4
          simp at h4
          refine ⟨none, ?_, ?_⟩
          · rw [if_neg (by omega)] at he
            exact he
          · (conv => whnf)
            rfl
        · rw [er] at h4
          simp at h4
          rw [if_pos (by omega)] at he
          obtain ⟨q, hq⟩ : ∃ q : Nat, n.f = q := ⟨n.f.toNat, by omega⟩
          obtain ⟨v, hv⟩ := get_lt (show q < row.length by omega)
          have hg : goL row n = iLe v n.c := by simp [goL, rowAt, hq, hv]
          refine tri_conf hT hmix (by kernel_rfl) ?_
          (conv => whnf)
          repeat' (first | (refine And.intro (fun q => ?_) (fun q => ?_) <;> cases q <;> (conv => whnf)) | fail)
          rw [hq]
          refine idx_at (by simp) hv ?_
          (conv => whnf)
          repeat' (first | (refine And.intro (fun q => ?_) (fun q => ?_) <;> cases q <;> (conv => whnf)) | fail)
          have hm2 : t.length + 1 - (k + 1) = m := by omega
          rw [hg] at he
          refine ifB_i (fun h5 => ?_) (fun h5 => ?_) <;> (conv => whnf)
          · refine ⟨(k + 1, n.l, o ++ [(j : Int)]), by dsimp only; omega, ⟨by dsimp only; omega, by simp; omega, ?_⟩, ?_⟩
            · dsimp only
              rw [hm2, ← he, if_pos h5]
              cases routeL t row m n.l <;> simp
            · ((conv => whnf); simp only [St.mk.injEq, List.cons.injEq, Prod.mk.injEq, AV.c.injEq, AV.agg.injEq, AV.tup.injEq, CV.d.injEq, D.int.injEq, D.bool.injEq, D.str.injEq, D.sl.injEq, Ent.arr.injEq, Ent.box.injEq, true_and, and_true, and_self, nInt_eq, Int.natCast_zero, dLen_eL, sLen_eq])
              refine ⟨wI (show k < t.length + 1 by omega) (by omega), ?_⟩
              rw [← eL_app]
              rfl
          · refine ⟨(k + 1, n.r, o ++ [(j : Int)]), by dsimp only; omega, ⟨by dsimp only; omega, by simp; omega, ?_⟩, ?_⟩
            · dsimp only
              rw [hm2, ← he, if_neg (by simp [h5])]
              cases routeL t row m n.r <;> simp
            · ((conv => whnf); simp only [St.mk.injEq, List.cons.injEq, Prod.mk.injEq, AV.c.injEq, AV.agg.injEq, AV.tup.injEq, CV.d.injEq, D.int.injEq, D.bool.injEq, D.str.injEq, D.sl.injEq, Ent.arr.injEq, Ent.box.injEq, true_and, and_true, and_self, nInt_eq, Int.natCast_zero, dLen_eL, sLen_eq])
              refine ⟨wI (show k < t.length + 1 by omega) (by omega), ?_⟩
              rw [← eL_app]
              rfl
  · have : t.length + 1 - k = 0 := by omega
    rw [this] at he
    refine ⟨none, he, ?_⟩
    (conv => whnf)
    rfl

def endL (t : List Nd) (row : List Int) : Int := match routeL t row (t.length + 1) 0 with
  | some l => l.getLast?.getD (-1)
  | none => -1
def evalL (t : List Nd) (row : List Int) : Int := if endL t row < 0 then 0 else match t[(endL t row).toNat]? with | some n => n.v | none => 0
theorem routeL_ends {t : List Nd} {row : List Int} : ∀ {m : Nat} {x : Int} {l : List Int}, routeL t row m x = some l → ∃ (k : Nat) (n : Nd), l.getLast? = some (k : Int) ∧ t[k]? = some n ∧ n.f = -1 ∧ Ends t (goL row) x k ∧ 0 < l.length ∧ l.length ≤ m
  | 0, x, l, h => by simp [routeL] at h
  | m + 1, x, l, h => by
    simp only [routeL] at h
    split at h
    · rename_i h0
      split at h
      · cases h
      · rename_i n hn
        obtain ⟨j, rfl⟩ : ∃ j : Nat, x = j := ⟨x.toNat, by omega⟩
        rw [show (j : Int).toNat = j by simp] at hn
        split at h
        · rename_i hf
          cases h
          exact ⟨j, n, by simp, hn, hf, .leaf hn hf, by simp, by simp⟩
        · rename_i hf
          split at h
          · simp only [Option.map_eq_some_iff] at h
            obtain ⟨r, hr, rfl⟩ := h
            obtain ⟨k, n', h1, h2, h3, h4, h5, h6⟩ := routeL_ends hr
            refine ⟨k, n', ?_, h2, h3, ?_, by simp, by simp; omega⟩
            · cases r with
              | nil => simp at h5
              | cons a b => simpa [List.getLast?_cons_cons] using h1
            · cases hg : goL row n with
              | true => rw [hg] at h4; exact .left hn hf hg h4
              | false => rw [hg] at h4; exact .right hn hf hg h4
          · cases h
    · cases h

theorem impl_RouteTo_spec (t : List Nd) (row : List Int) (hl : t.length ≤ 1048576) (hr : row.length ≤ 1048576) : FnSpec PR f_impl_RouteTo [aT t, aIs row] (ai (endL t row)) [] 0 := by
  refine FnSpec.intro hT p_impl_RouteTo rfl (by kernel_rfl) n_impl_RouteTo rfl ?_
  conv => whnf
  refine .inr ⟨_, _, _, _, _, impl_route_spec t row hl hr, fun x hx => ⟨by cases x <;> rfl, ?_⟩⟩
  cases x with
  | none =>
    (conv => whnf)
    rw [endL, ← hx]
  | some l =>
    (conv => whnf)
    obtain ⟨k, n, h1, h2, h3, h4, h5, h6⟩ := routeL_ends hx.symm
    have he : endL t row = (k : Int) := by rw [endL, ← hx]; simp [h1]
    rw [he]
    rw [show nInt (lenRE (eL cI l) none) = (l.length : Int) by simp [lenRE]]
    refine ifB_i (fun h7 => ?_) (fun h7 => ?_) <;> (conv => whnf) <;> simp only [nInt_eq, Int.natCast_zero, dLen_eL, sLen_eq, nOf_eq, Int.toNat_natCast, nAdd_eq, nSub_eq, dLen_nil, dLen_cons, iLt_t, iLt_f, iLe_t, iLe_f, iEq_t, iEq_f, sEq_t, sEq_f, bNot_t, bNot_f, bAnd_t, bEq_t, bEq_f, Bool.not_eq_true, Bool.not_eq_false, Bool.true_eq_false, Bool.false_eq_true] at h7
    · omega
    · rw [show nInt (lenRE (eL cI l) none) = (l.length : Int) by simp [lenRE]]
      rw [show wSub .i64 (l.length : Int) 1 = ((l.length - 1 : Nat) : Int) by rw [wSub64] <;> omega]
      refine ref_at rfl (by simp; omega) ?_
      (conv => whnf)
      refine ld_at (k := l.length - 1) (by simp) (by rw [← List.getLast?_eq_getElem?]; exact h1) ?_
      (conv => whnf)

theorem impl_EvalTree_spec (t : List Nd) (row : List Int) (hl : t.length ≤ 1048576) (hr : row.length ≤ 1048576) : FnSpec PR f_impl_EvalTree [aT t, aIs row] (ai (evalL t row)) [] 0 := by
  refine FnSpec.intro hT p_impl_EvalTree rfl (by kernel_rfl) n_impl_EvalTree rfl ?_
  conv => whnf
  refine .inl ⟨_, _, _, impl_RouteTo_spec t row hl hr, rfl, ?_⟩
  (conv => whnf)
  refine ifB_i (fun h1 => ?_) (fun h1 => ?_) <;> (conv => whnf) <;> simp only [nInt_eq, Int.natCast_zero, dLen_eL, sLen_eq, nOf_eq, Int.toNat_natCast, nAdd_eq, nSub_eq, dLen_nil, dLen_cons, iLt_t, iLt_f, iLe_t, iLe_f, iEq_t, iEq_f, sEq_t, sEq_f, bNot_t, bNot_f, bAnd_t, bEq_t, bEq_f, Bool.not_eq_true, Bool.not_eq_false, Bool.true_eq_false, Bool.false_eq_true] at h1
  · rw [evalL, if_pos h1]
  · have hz : ∃ (k : Nat) (n : Nd), endL t row = k ∧ t[k]? = some n := by
      unfold endL at h1 ⊢
      cases hx : routeL t row (t.length + 1) 0 with
      | none => rw [hx] at h1; simp at h1
      | some l =>
        obtain ⟨k, n, h2, h3, _⟩ := routeL_ends hx
        exact ⟨k, n, by simp [h2], h3⟩
    obtain ⟨k, n, hk, hn⟩ := hz
    rw [hk]
    refine idx_at (by simp) hn ?_
    (conv => whnf)
    rw [evalL, hk, if_neg (by omega), show (k : Int).toNat = k by simp, hn]
end Go.H.S
namespace Go.H.S
open Go Go.Proofs Go.H
attribute [local irreducible] Tri FnSpec FnSpecM FnSpecX FnSpecJ FnSpecB
set_option maxRecDepth 100000
set_option linter.unusedSimpArgs false
set_option linter.unusedVariables false


theorem laws_big_spec (code : List Int) : FnSpec PR f_laws_big [.c (.d (.sl 1 (eL cU code)))] (ab (iLt 1048576 code.length)) [] 0 := by
  refine FnSpec.intro hT p_laws_big rfl (by kernel_rfl) n_laws_big rfl ?_
  conv => whnf
  rw [show nInt (dLen (eL cU code)) = (code.length : Int) by simp]

theorem laws_at0_spec (code : List Int) (i : Nat) (hl : code.length ≤ 1048576) (hi : i ≤ 100) (hb : ∀ x ∈ code, 0 ≤ x ∧ x ≤ 255) : FnSpecX PR f_laws_at0 [.c (.d (.sl 1 (eL cU code))), ai i] Int (fun x => 0 ≤ x ∧ x ≤ 255) (fun x => ai x) (fun _ => []) (fun _ => 0) := by
  refine FnSpecX.intro hT p_laws_at0 rfl (by kernel_rfl) n_laws_at0 rfl ?_
  (conv => whnf)
  refine ifB_i (fun h1 => ?_) (fun h1 => ?_) <;> (conv => whnf) <;> simp only [nInt_eq, Int.natCast_zero, dLen_eL, sLen_eq, nOf_eq, Int.toNat_natCast, nAdd_eq, nSub_eq, dLen_nil, dLen_cons, iLt_t, iLt_f, iLe_t, iLe_f, iEq_t, iEq_f, sEq_t, sEq_f, bNot_t, bNot_f, bAnd_t, bEq_t, bEq_f, Bool.not_eq_true, Bool.not_eq_false, Bool.true_eq_false, Bool.false_eq_true] at h1
  · obtain ⟨y, hy⟩ := get_lt (show i < code.length by omega)
    refine idx_at (by simp) hy ?_
    (conv => whnf)
    have hy2 := hb y (List.mem_of_getElem? hy)
    have e : wConv .i64 y = y := by
      unfold wConv
      rw [wrap64] <;> omega
    refine ⟨y, hy2, ?_⟩
    ((conv => whnf); simp only [St.mk.injEq, List.cons.injEq, Prod.mk.injEq, AV.c.injEq, AV.agg.injEq, AV.tup.injEq, CV.d.injEq, D.int.injEq, D.bool.injEq, D.str.injEq, D.sl.injEq, Ent.arr.injEq, Ent.box.injEq, true_and, and_true, and_self, nInt_eq, Int.natCast_zero, dLen_eL, sLen_eq])
    exact e
  · refine And.intro (by simp [NZ]) ?_
    (conv => whnf)
    rw [show nInt (dLen (eL cU code)) = (code.length : Int) by simp]
    have e1 : wMul .i64 (i : Int) 7 = (i : Int) * 7 := wMul64 (by omega) (by omega)
    have e2 : wAdd .i64 ((i : Int) * 7) code.length = (i : Int) * 7 + code.length := wAdd64 (by omega) (by omega)
    rw [e1, e2]
    have hm := wRem_mod (x := (i : Int) * 7 + code.length) (n := 256) (by omega) (by decide)
    refine ⟨wRem ((i : Int) * 7 + code.length) 256, by omega, ?_⟩
    (conv => whnf)

abbrev tupT1 (x : List Nd × Int) : AV := .tup [(true, [.d (.sl 5 (eL cN x.1))]), (false, [.d (.int .i64 x.2)])]
abbrev tupT2 (x : List Nd × Int × Int) : AV := .tup [(true, [.d (.sl 5 (eL cN x.1))]), (false, [.d (.int .i64 x.2.1)]), (false, [.d (.int .i64 x.2.2)])]

theorem spec_DrawLevelOf_spec (code : List Int) (hl : code.length ≤ 1048576) : FnSpecX PR f_spec_DrawLevelOf [.c (.d (.sl 1 (eL cU code)))] (List Nd × Int) (fun x => x.1.length ≤ 32 ∧ -1 ≤ x.2 ∧ x.2 ≤ 9223372036854775807) tupT1 (fun _ => []) (fun _ => 0) := by
  refine FnSpecX.intro hT p_spec_DrawLevelOf rfl (by kernel_rfl) n_spec_DrawLevelOf rfl ?_
  (conv => whnf)
  refine .inr ⟨_, _, _, _, _, spec_l1New_spec code hl, fun h0 _ => ⟨rfl, ?_⟩⟩
  (conv => whnf)
  refine .inr (.inr (.inr (.inr (.inl ⟨1, ?_⟩))))
  (conv => whnf)
  refine ⟨_, _, _, _, _, _, spec_l17Bent_spec code 0 h0 ⟨by omega, by omega⟩ hl, fun ⟨t, i1, h1⟩ ⟨ht, hi1⟩ => ⟨rfl, ?_⟩⟩
  dsimp only at ht hi1
  (conv => whnf)
  refine tri_everyX hT hmix [2, 3] (Y := Int) (fun y => -1 ≤ y ∧ y ≤ 9223372036854775807) (fun y => { t := [(2, .c (.ptr 0 0)), (3, ai y)], h := [(0, .box t_impl_Tree (cTr t))], n := 1, N := 20 }) rfl ?_ ?_
  · repeat' first
      | (refine anyV_one rfl ?_; (conv => whnf))
      | (refine anyV_two rfl ?_ ?_ <;> (conv => whnf))
      | (refine anyV_three rfl ?_ ?_ ?_ <;> (conv => whnf))
      | (refine .inr (.inr (.inr (.inr (.inl ⟨1, ?_⟩)))); (conv => whnf); rw [show wAdd .i64 (nInt (dLen (eL cN (t, i1, h1).1))) 1 = (t.length : Int) + 1 by rw [show nInt (dLen (eL cN (t, i1, h1).1)) = (t.length : Int) by simp]; exact wAdd64 (by omega) (by omega)]; refine ⟨_, _, _, _, _, _, spec_l1Below_spec code _ _ _ hi1 hl, fun ⟨x, j, g⟩ ⟨hx, hj⟩ => ⟨rfl, ?_⟩⟩; dsimp only at hx hj; (conv => whnf))
      | (refine .inr (.inr (.inr (.inr (.inl ⟨1, ?_⟩)))); (conv => whnf); refine ⟨_, _, _, _, _, _, spec_l1PickInt_of code _ _ _ [0, 1, 2, x, -1, 9223372036854775807] (by simp [eL, cI]) hj hl (by simp) (by simp), fun ⟨y, j2, g2⟩ ⟨hy, hj2⟩ => ⟨rfl, ?_⟩⟩; dsimp only at hy hj2; (conv => whnf))
    all_goals refine anyV_end rfl ?_
    all_goals refine ⟨y, by have := hx.2.1 (by omega); simp at hy; omega, ?_⟩
    all_goals (conv => whnf)
  · intro y hy
    (conv => whnf)
    refine ⟨(t, y), ⟨ht, hy⟩, ?_⟩
    (conv => whnf)

theorem spec_DrawSpanOf_spec (code : List Int) (hl : code.length ≤ 1048576) : FnSpecX PR f_spec_DrawSpanOf [.c (.d (.sl 1 (eL cU code)))] (List Nd × Int) (fun x => x.1.length ≤ 32 ∧ -1 ≤ x.2 ∧ x.2 ≤ 9223372036854775807) tupT1 (fun _ => []) (fun _ => 0) := by
  refine FnSpecX.intro hT p_spec_DrawSpanOf rfl (by kernel_rfl) n_spec_DrawSpanOf rfl ?_
  (conv => whnf)
  refine .inr ⟨_, _, _, _, _, spec_DrawLevelOf_spec code hl, fun ⟨t, y⟩ hy => ⟨rfl, ?_⟩⟩
  (conv => whnf)
  refine ⟨(t, y), hy, ?_⟩
  (conv => whnf)

theorem spec_DrawTreeFollows_spec (code : List Int) (hl : code.length ≤ 1048576) : FnSpecX PR f_spec_DrawTreeFollows [.c (.d (.sl 1 (eL cU code)))] (List Nd × Int × Int) (fun x => x.1.length ≤ 32 ∧ (-1 ≤ x.2.1 ∧ x.2.1 ≤ 3) ∧ -1 ≤ x.2.2 ∧ x.2.2 ≤ 2) tupT2 (fun _ => []) (fun _ => 0) := by
  refine FnSpecX.intro hT p_spec_DrawTreeFollows rfl (by kernel_rfl) n_spec_DrawTreeFollows rfl ?_
  (conv => whnf)
  refine .inr ⟨_, _, _, _, _, spec_l1New_spec code hl, fun h0 _ => ⟨rfl, ?_⟩⟩
  (conv => whnf)
  refine .inr (.inr (.inr (.inr (.inl ⟨1, ?_⟩))))
  (conv => whnf)
  refine ⟨_, _, _, _, _, _, spec_l17Bent_spec code 0 h0 ⟨by omega, by omega⟩ hl, fun ⟨t, i1, h1⟩ ⟨ht, hi1⟩ => ⟨rfl, ?_⟩⟩
  dsimp only at ht hi1
  (conv => whnf)
  refine .inr (.inr (.inr (.inr (.inl ⟨1, ?_⟩))))
  (conv => whnf)
  refine ⟨_, _, _, _, _, _, spec_l1Below_spec code i1 h1 _ hi1 hl, fun ⟨x, i2, h2⟩ ⟨hx, hi2⟩ => ⟨rfl, ?_⟩⟩
  dsimp only at hx hi2
  have hx2 := hx.2.1 (by decide)
  (conv => whnf)
  rw [show wSub .i64 x 1 = x - 1 from wSub64 (by omega) (by omega)]
  refine .inr (.inr (.inr (.inr (.inl ⟨1, ?_⟩))))
  (conv => whnf)
  refine ⟨_, _, _, _, _, _, spec_l1PickInt_of code i2 h2 _ [1, -1, 0, 2] (by simp [eL, cI]) hi2 hl (by simp) (by simp), fun ⟨y, i3, h3⟩ ⟨hy, hi3⟩ => ⟨rfl, ?_⟩⟩
  dsimp only at hy hi3
  (conv => whnf)
  refine ⟨(t, x - 1, y), ⟨ht, by dsimp only; omega, ?_⟩, ?_⟩
  · simp at hy ⊢
    omega
  (conv => whnf)
end Go.H.S
