/- Library, part M: equality of models; desks. -/
import Derived.Test.YtpkpedaonmbeiaaLK
import Derived.Test.YtpkpedaonmbeiaaLJ
import Derived.Test.YtpkpedaonmbeiaaLT
namespace Go.H.S
open Go Go.Proofs Go.H
attribute [local irreducible] Tri FnSpec FnSpecM
set_option maxRecDepth 100000
set_option linter.unusedSimpArgs false
set_option linter.unusedVariables false


theorem slices_EqualFunc_Tree_spec (a b : List (List Nd)) (g : FuncId) (hg : ∀ x ∈ a, ∀ y, FnSpec PR g [aT x, aT y] (ab (decide (x = y))) [] 0) (ha : a.length ≤ 9223372036854775807) :
    FnSpec PR f_slices_EqualFunc_Limpl_Tree_Limpl_Tree_impl_Tree_impl_Tree [aTs a, aTs b, .c (.d (.fn g []))] (ab (decide (a = b))) [] 0 := by
  refine FnSpec.intro hT p_slices_EqualFunc_Limpl_Tree_Limpl_Tree_impl_Tree_impl_Tree rfl (by kernel_rfl) n_slices_EqualFunc_Limpl_Tree_Limpl_Tree_impl_Tree_impl_Tree rfl ?_
  conv => whnf
  refine ifB_i (fun h0 => ?_) (fun h0 => ?_) <;> (conv => whnf) <;> simp only [nInt_eq, Int.natCast_zero, dLen_eL, sLen_eq, nOf_eq, Int.toNat_natCast, nAdd_eq, nSub_eq, dLen_nil, dLen_cons, iLt_t, iLt_f, iLe_t, iLe_f, iEq_t, iEq_f, sEq_t, sEq_f, bNot_t, bNot_f, bAnd_t, bEq_t, bEq_f, Bool.not_eq_true, Bool.not_eq_false, Bool.true_eq_false, Bool.false_eq_true] at h0
  · rw [eq_len (by omega)]
  refine tri_loop hT [1, 2, 15, 16, 17] (α := Nat) (fun x => { t := [(1, aTs b), (2, .c (.d (.fn g []))), (15, aTs a), (16, ai a.length), (17, ai x)], h := [], n := 0, N := 32 })
    (fun x => x ≤ a.length ∧ decide (a.drop x = b.drop x) = decide (a = b)) (fun x => a.length - x) 0 (by ((conv => whnf); simp only [St.mk.injEq, List.cons.injEq, Prod.mk.injEq, AV.c.injEq, AV.agg.injEq, AV.tup.injEq, CV.d.injEq, D.int.injEq, D.bool.injEq, D.str.injEq, D.sl.injEq, Ent.arr.injEq, Ent.box.injEq, true_and, and_true, and_self, nInt_eq, Int.natCast_zero, dLen_eL, sLen_eq])) ⟨Nat.zero_le _, rfl⟩ ?_
  intro k ⟨hk, hi⟩
  (conv => whnf)
  refine ifB_i (fun h1 => ?_) (fun h1 => ?_) <;> (conv => whnf) <;> simp at h1
  · obtain ⟨s, hs⟩ := get_lt h1
    obtain ⟨u, hu⟩ := get_lt (l := b) (k := k) (by omega)
    rw [eq_drop hs hu] at hi
    refine idx_at (by simp) hs ?_
    (conv => whnf)
    refine idx_at (by simp) hu ?_
    (conv => whnf)
    refine ⟨_, _, _, hg s (List.mem_of_getElem? hs) u, rfl, ?_⟩
    generalize decide (s = u) = c at hi ⊢
    cases c <;> (conv => whnf)
    · simp only [Bool.false_and] at hi
      rw [← hi]
    · refine ⟨k + 1, by omega, ⟨h1, by rw [← hi, Bool.true_and]⟩, ?_⟩
      ((conv => whnf); simp only [St.mk.injEq, List.cons.injEq, Prod.mk.injEq, AV.c.injEq, AV.agg.injEq, AV.tup.injEq, CV.d.injEq, D.int.injEq, D.bool.injEq, D.str.injEq, D.sl.injEq, Ent.arr.injEq, Ent.box.injEq, true_and, and_true, and_self, nInt_eq, Int.natCast_zero, dLen_eL, sLen_eq, wI h1 ha])
  · obtain rfl : k = a.length := by omega
    have : decide (a.drop a.length = b.drop a.length) = true := by simp [List.drop_of_length_le (show b.length ≤ a.length by omega)]
    rw [this] at hi
    rw [← hi]

def eqMd (a b : Mdl) : Bool := decide (a.names = b.names) && decide (a.signs = b.signs) && decide (a.base = b.base) && decide (a.trees = b.trees)

theorem impl_SameModel_spec (a b : Mdl) (ha : okModel a) : FnSpec PR f_impl_SameModel [aM a, aM b] (ab (eqMd a b)) [] 0 := by
  obtain ⟨o0, o1, o2⟩ := ha
  unfold eqMd
  refine FnSpec.intro hT p_impl_SameModel rfl (by kernel_rfl) n_impl_SameModel rfl ?_
  conv => whnf
  refine ⟨_, _, _, slices_Equal_Lstring_string_spec a.names b.names o0.1, rfl, ?_⟩
  generalize decide (a.names = b.names) = c0
  cases c0
  · (conv => whnf)
    rfl
  (conv => whnf)
  refine ⟨_, _, _, slices_Equal_Lint_int_spec a.signs b.signs o1, rfl, ?_⟩
  generalize decide (a.signs = b.signs) = c1
  cases c1
  · (conv => whnf)
    rfl
  (conv => whnf)
  refine ifB_i (fun h => ?_) (fun h => ?_)
  · (conv => whnf)
    simp only [nInt_eq, Int.natCast_zero, dLen_eL, sLen_eq, nOf_eq, Int.toNat_natCast, nAdd_eq, nSub_eq, dLen_nil, dLen_cons, iLt_t, iLt_f, iLe_t, iLe_f, iEq_t, iEq_f, sEq_t, sEq_f, bNot_t, bNot_f, bAnd_t, bEq_t, bEq_f, Bool.not_eq_true, Bool.not_eq_false, Bool.true_eq_false, Bool.false_eq_true] at h
    rw [decide_eq_true h]
    refine ⟨_, _, _, slices_EqualFunc_Tree_spec a.trees b.trees f_impl_SameTree (fun x hx y => impl_SameTree_spec x y (o2.2 x hx)) o2.1, rfl, ?_⟩
    (conv => whnf)
    rfl
  · (conv => whnf)
    simp only [nInt_eq, Int.natCast_zero, dLen_eL, sLen_eq, nOf_eq, Int.toNat_natCast, nAdd_eq, nSub_eq, dLen_nil, dLen_cons, iLt_t, iLt_f, iLe_t, iLe_f, iEq_t, iEq_f, sEq_t, sEq_f, bNot_t, bNot_f, bAnd_t, bEq_t, bEq_f, Bool.not_eq_true, Bool.not_eq_false, Bool.true_eq_false, Bool.false_eq_true] at h
    rw [decide_eq_false h]
    rfl

theorem spec_SameRows_one (a b : List ByteArray) (ha : a.length ≤ 9223372036854775807) (hb : b.length ≤ 9223372036854775807) : FnSpec PR f_spec_SameRows [.c (.d (.sl 1 [[.sl 1 (eL cS a)]])), .c (.d (.sl 1 [[.sl 1 (eL cS b)]]))] (ab (decide (a = b))) [] 0 := by
  have e : ∀ x : List ByteArray, [[D.sl 1 (eL cS x)]] = eL cSs [x] := fun x => by rw [eL_cons, eL_nil]; rfl
  rw [e, e]
  refine FnSpec.intro hT p_spec_SameRows rfl (by kernel_rfl) n_spec_SameRows rfl ?_
  conv => whnf
  refine ifB_i (fun h0 => ?_) (fun h0 => ?_) <;> (conv => whnf) <;> simp only [nInt_eq, Int.natCast_zero, dLen_eL, sLen_eq, nOf_eq, Int.toNat_natCast, nAdd_eq, nSub_eq, dLen_nil, dLen_cons, iLt_t, iLt_f, iLe_t, iLe_f, iEq_t, iEq_f, sEq_t, sEq_f, bNot_t, bNot_f, bAnd_t, bEq_t, bEq_f, Bool.not_eq_true, Bool.not_eq_false, Bool.true_eq_false, Bool.false_eq_true, List.length_singleton] at h0
  · exact absurd rfl h0
  refine tri_loop hT [0, 1, 5] (α := Nat) (fun x => { t := [(0, .c (.d (.sl 1 (eL cSs [a])))), (1, .c (.d (.sl 1 (eL cSs [b])))), (5, ai x)], h := [], n := 0, N := 53 })
    (fun x => x = 0 ∨ (x = 1 ∧ a = b)) (fun x => 1 - x) 0 (by ((conv => whnf); simp only [St.mk.injEq, List.cons.injEq, Prod.mk.injEq, AV.c.injEq, AV.agg.injEq, AV.tup.injEq, CV.d.injEq, D.int.injEq, D.bool.injEq, D.str.injEq, D.sl.injEq, Ent.arr.injEq, Ent.box.injEq, true_and, and_true, and_self, nInt_eq, Int.natCast_zero, dLen_eL, sLen_eq])) (.inl rfl) ?_
  intro x hx
  rcases hx with rfl | ⟨rfl, rfl⟩
  rotate_left
  · (conv => whnf)
    refine ifB_i (fun h1 => ?_) (fun h1 => ?_)
    · simp at h1
    (conv => whnf)
    simp
  · have g0 : ([a] : List (List ByteArray))[0]? = some a := rfl
    have g1 : ([b] : List (List ByteArray))[0]? = some b := rfl
    (conv => whnf)
    refine ifB_i (fun h1 => ?_) (fun h1 => absurd h1 (by simp))
    (conv => whnf)
    refine tri_conf hT hmix (by kernel_rfl) ?_
    (conv => whnf)
    refine idx_at (by simp) g0 ?_
    (conv => whnf)
    refine idx_at (by simp) g1 ?_
    (conv => whnf)
    refine ifB_i (fun h2 => ?_) (fun h2 => ?_) <;> (conv => whnf) <;> simp only [nInt_eq, Int.natCast_zero, dLen_eL, sLen_eq, nOf_eq, Int.toNat_natCast, nAdd_eq, nSub_eq, dLen_nil, dLen_cons, iLt_t, iLt_f, iLe_t, iLe_f, iEq_t, iEq_f, sEq_t, sEq_f, bNot_t, bNot_f, bAnd_t, bEq_t, bEq_f, Bool.not_eq_true, Bool.not_eq_false, Bool.true_eq_false, Bool.false_eq_true] at h2
    · rw [eq_len (by omega)]
    refine tri_loop hT [0, 1, 5, 6] (α := Nat) (fun x => { t := [(0, .c (.d (.sl 1 (eL cSs [a])))), (1, .c (.d (.sl 1 (eL cSs [b])))), (5, ai ((0 : Nat) : Int)), (6, ai x)], h := [], n := 0, N := 53 })
      (fun x => x ≤ a.length ∧ decide (a.drop x = b.drop x) = decide (a = b)) (fun x => a.length - x) 0 (by ((conv => whnf); simp only [St.mk.injEq, List.cons.injEq, Prod.mk.injEq, AV.c.injEq, AV.agg.injEq, AV.tup.injEq, CV.d.injEq, D.int.injEq, D.bool.injEq, D.str.injEq, D.sl.injEq, Ent.arr.injEq, Ent.box.injEq, true_and, and_true, and_self, nInt_eq, Int.natCast_zero, dLen_eL, sLen_eq])) ⟨Nat.zero_le _, rfl⟩ ?_
    intro k ⟨hk, hi⟩
    (conv => whnf)
    refine idx_at (by simp) g0 ?_
    (conv => whnf)
    refine ifB_i (fun h3 => ?_) (fun h3 => ?_) <;> (conv => whnf) <;> simp at h3
    · obtain ⟨s, hs⟩ := get_lt h3
      obtain ⟨u, hu⟩ := get_lt (l := b) (k := k) (by omega)
      rw [eq_drop hs hu] at hi
      refine tri_conf hT hmix (by kernel_rfl) ?_
      (conv => whnf)
      refine idx_at (by simp) g0 ?_
      (conv => whnf)
      refine idx_at (by simp) hs ?_
      (conv => whnf)
      refine idx_at (by simp) g1 ?_
      (conv => whnf)
      refine idx_at (by simp) hu ?_
      (conv => whnf)
      refine ifB_i (fun h4 => ?_) (fun h4 => ?_) <;> (conv => whnf) <;> simp only [nInt_eq, Int.natCast_zero, dLen_eL, sLen_eq, nOf_eq, Int.toNat_natCast, nAdd_eq, nSub_eq, dLen_nil, dLen_cons, iLt_t, iLt_f, iLe_t, iLe_f, iEq_t, iEq_f, sEq_t, sEq_f, bNot_t, bNot_f, bAnd_t, bEq_t, bEq_f, Bool.not_eq_true, Bool.not_eq_false, Bool.true_eq_false, Bool.false_eq_true] at h4
      · rw [decide_eq_false h4] at hi
        simp only [Bool.false_and] at hi
        rw [← hi]
      · rw [decide_eq_true h4] at hi
        refine ⟨k + 1, by omega, ⟨h3, by rw [← hi, Bool.true_and]⟩, ?_⟩
        ((conv => whnf); simp only [St.mk.injEq, List.cons.injEq, Prod.mk.injEq, AV.c.injEq, AV.agg.injEq, AV.tup.injEq, CV.d.injEq, D.int.injEq, D.bool.injEq, D.str.injEq, D.sl.injEq, Ent.arr.injEq, Ent.box.injEq, true_and, and_true, and_self, nInt_eq, Int.natCast_zero, dLen_eL, sLen_eq, wI h3 ha])
    · obtain rfl : k = a.length := by omega
      have : decide (a.drop a.length = b.drop a.length) = true := by simp [List.drop_of_length_le (show b.length ≤ a.length by omega)]
      rw [this] at hi
      have hab : a = b := by simpa using hi.symm
      refine ⟨1, by simp, .inr ⟨rfl, hab⟩, ?_⟩
      ((conv => whnf); simp only [St.mk.injEq, List.cons.injEq, Prod.mk.injEq, AV.c.injEq, AV.agg.injEq, AV.tup.injEq, CV.d.injEq, D.int.injEq, D.bool.injEq, D.str.injEq, D.sl.injEq, Ent.arr.injEq, Ent.box.injEq, true_and, and_true, and_self, nInt_eq, Int.natCast_zero, dLen_eL, sLen_eq])
      rw [wAdd64 (by omega) (by omega)]
      rfl
theorem spec_l9Texts_spec (a b : List ByteArray) (ha : a.length ≤ 9223372036854775807) (hb : b.length ≤ 9223372036854775807) : FnSpec PR f_spec_l9Texts [aSs a, aSs b] (ab (decide (a = b))) [] 0 := by
  refine FnSpec.intro hT p_spec_l9Texts rfl (by kernel_rfl) n_spec_l9Texts rfl ?_
  conv => whnf
  refine .inl ⟨_, _, _, spec_SameRows_one a b ha hb, rfl, ?_⟩
  (conv => whnf)

theorem spec_SameModel_spec (a b : Mdl) (ha : okModel a) (hb : okModel b) : FnSpec PR f_spec_SameModel [aM a, aM b] (ab (eqMd a b)) [] 0 := by
  obtain ⟨o0, o1, o2⟩ := ha
  unfold eqMd
  refine FnSpec.intro hT p_spec_SameModel rfl (by kernel_rfl) n_spec_SameModel rfl ?_
  conv => whnf
  refine ⟨_, _, _, spec_l9Texts_spec a.names b.names o0.1 hb.1.1, rfl, ?_⟩
  generalize decide (a.names = b.names) = c0
  cases c0
  · (conv => whnf)
    rfl
  (conv => whnf)
  refine ⟨_, _, _, spec_l8Ints_spec a.signs b.signs o1, rfl, ?_⟩
  generalize decide (a.signs = b.signs) = c1
  cases c1
  · (conv => whnf)
    rfl
  (conv => whnf)
  refine ifB_i (fun h => ?_) (fun h => ?_) <;> (conv => whnf) <;> simp only [nInt_eq, Int.natCast_zero, dLen_eL, sLen_eq, nOf_eq, Int.toNat_natCast, nAdd_eq, nSub_eq, dLen_nil, dLen_cons, iLt_t, iLt_f, iLe_t, iLe_f, iEq_t, iEq_f, sEq_t, sEq_f, bNot_t, bNot_f, bAnd_t, bEq_t, bEq_f, Bool.not_eq_true, Bool.not_eq_false, Bool.true_eq_false, Bool.false_eq_true] at h
  · rw [decide_eq_false h]
    rfl
  rw [decide_eq_true h]
  refine ifB_i (fun h0 => ?_) (fun h0 => ?_) <;> (conv => whnf) <;> simp only [nInt_eq, Int.natCast_zero, dLen_eL, sLen_eq, nOf_eq, Int.toNat_natCast, nAdd_eq, nSub_eq, dLen_nil, dLen_cons, iLt_t, iLt_f, iLe_t, iLe_f, iEq_t, iEq_f, sEq_t, sEq_f, bNot_t, bNot_f, bAnd_t, bEq_t, bEq_f, Bool.not_eq_true, Bool.not_eq_false, Bool.true_eq_false, Bool.false_eq_true] at h0
  · rw [eq_len (a := a.trees) (by omega)]
    rfl
  refine tri_loop hT [2, 3, 5] (α := Nat) (fun x => { t := [(2, .c (.ptr 0 0)), (3, .c (.ptr 1 0)), (5, ai x)], h := [(0, .box t_impl_Model (cM a)), (1, .box t_impl_Model (cM b))], n := 2, N := 55 })
    (fun x => x ≤ a.trees.length ∧ decide (a.trees.drop x = b.trees.drop x) = decide (a.trees = b.trees)) (fun x => a.trees.length - x) 0 (by ((conv => whnf); simp only [St.mk.injEq, List.cons.injEq, Prod.mk.injEq, AV.c.injEq, AV.agg.injEq, AV.tup.injEq, CV.d.injEq, D.int.injEq, D.bool.injEq, D.str.injEq, D.sl.injEq, Ent.arr.injEq, Ent.box.injEq, true_and, and_true, and_self, nInt_eq, Int.natCast_zero, dLen_eL, sLen_eq])) ⟨Nat.zero_le _, rfl⟩ ?_
  intro k ⟨hk, hi⟩
  (conv => whnf)
  refine ifB_i (fun h1 => ?_) (fun h1 => ?_) <;> (conv => whnf) <;> simp at h1
  · obtain ⟨s, hs⟩ := get_lt h1
    obtain ⟨u, hu⟩ := get_lt (l := b.trees) (k := k) (by omega)
    rw [eq_drop hs hu] at hi
    refine tri_conf hT hmix (by kernel_rfl) ?_
    (conv => whnf)
    refine idx_at (by simp) hs ?_
    (conv => whnf)
    refine idx_at (by simp) hu ?_
    (conv => whnf)
    refine ⟨_, _, spec_SameTree_spec s u (o2.2 s (List.mem_of_getElem? hs)), rfl, ?_⟩
    generalize decide (s = u) = c at hi ⊢
    cases c <;> (conv => whnf)
    · simp only [Bool.false_and] at hi
      rw [← hi]
      rfl
    · refine ⟨k + 1, by omega, ⟨h1, by rw [← hi, Bool.true_and]⟩, ?_⟩
      ((conv => whnf); simp only [St.mk.injEq, List.cons.injEq, Prod.mk.injEq, AV.c.injEq, AV.agg.injEq, AV.tup.injEq, CV.d.injEq, D.int.injEq, D.bool.injEq, D.str.injEq, D.sl.injEq, Ent.arr.injEq, Ent.box.injEq, true_and, and_true, and_self, nInt_eq, Int.natCast_zero, dLen_eL, sLen_eq, wI h1 o2.1])
  · obtain rfl : k = a.trees.length := by omega
    have : decide (a.trees.drop a.trees.length = b.trees.drop a.trees.length) = true := by simp [List.drop_of_length_le (show b.trees.length ≤ a.trees.length by omega)]
    rw [this] at hi
    rw [← hi]
    rfl

structure Dsk where
  csv : ByteArray
  config : ByteArray
  model : Mdl
  made : Bool
abbrev cD (d : Dsk) : List CV := [.d (.str d.csv), .d (.str d.config), .d (.sl 1 (eL cS d.model.names)), .d (.sl 1 (eL cI d.model.signs)), .d (.int .i64 d.model.base), .d (.sl 1 (eL cT d.model.trees)), .d (.bool d.made)]
abbrev aD (d : Dsk) : AV := .agg (cD d)
def okDesk (d : Dsk) : Prop := d.csv.size ≤ 9223372036854775807 ∧ d.config.size ≤ 9223372036854775807 ∧ okModel d.model
def costDesk (d : Dsk) : Nat := d.csv.size + d.config.size + costModel d.model
def eqDs (a b : Dsk) : Bool := decide (a.csv = b.csv) && decide (a.config = b.config) && eqMd a.model b.model && decide (a.made = b.made)

theorem szDesk_spec (x : Dsk) (n : Int) (h0 : 0 ≤ n) (hn : n ≤ 1048576) (ho : okDesk x) : FnSpec PR f_laws_szDesk [aD x, ai n] (ai (bud n (costDesk x))) [] 0 := by
  obtain ⟨o0, o1, o2⟩ := ho
  refine FnSpec.intro hT p_laws_szDesk rfl (by kernel_rfl) n_laws_szDesk rfl ?_
  conv => whnf
  have e0 : wSub .i64 n x.csv.size = n - x.csv.size := wSub64 (by omega) (by omega)
  refine ifB_i (fun h => ?_) (fun h => ?_) <;> (conv => whnf) <;> simp only [nInt_eq, Int.natCast_zero, dLen_eL, sLen_eq, nOf_eq, Int.toNat_natCast, nAdd_eq, nSub_eq, dLen_nil, dLen_cons, iLt_t, iLt_f, iLe_t, iLe_f, iEq_t, iEq_f, sEq_t, sEq_f, bNot_t, bNot_f, bAnd_t, bEq_t, bEq_f, Bool.not_eq_true, Bool.not_eq_false, Bool.true_eq_false, Bool.false_eq_true, e0] at h
  · rw [costDesk, bud_more (c := x.csv.size) (bud_lt (by omega)) (by omega)]
  have k0 : wSub .i64 n x.csv.size = bud n x.csv.size := by rw [e0]; exact (bud_le (by omega)).symm
  have g0 : 0 ≤ bud n x.csv.size := by rw [← k0, e0]; exact h
  simp only [sLen_eq, k0]
  have l1 : bud n x.csv.size ≤ 1048576 := bud_mono hn
  have e1 : wSub .i64 (bud n x.csv.size) x.config.size = bud n x.csv.size - x.config.size := wSub64 (by omega) (by omega)
  refine ifB_i (fun h => ?_) (fun h => ?_) <;> (conv => whnf) <;> simp only [nInt_eq, Int.natCast_zero, dLen_eL, sLen_eq, nOf_eq, Int.toNat_natCast, nAdd_eq, nSub_eq, dLen_nil, dLen_cons, iLt_t, iLt_f, iLe_t, iLe_f, iEq_t, iEq_f, sEq_t, sEq_f, bNot_t, bNot_f, bAnd_t, bEq_t, bEq_f, Bool.not_eq_true, Bool.not_eq_false, Bool.true_eq_false, Bool.false_eq_true, e1] at h
  · rw [costDesk, bud_more (c := x.csv.size + x.config.size) (bud_slt h g0) (by omega)]
  have k1 : wSub .i64 (bud n x.csv.size) x.config.size = bud n (x.csv.size + x.config.size) := by rw [e1]; exact bud_sle h g0
  have g1 : 0 ≤ bud n (x.csv.size + x.config.size) := by rw [← k1, e1]; exact h
  simp only [sLen_eq, k1]
  have s2 := szModel_spec x.model _ g1 (bud_mono hn) o2
  rw [bud_bud g1] at s2
  refine ⟨_, _, _, s2, rfl, ?_⟩
  (conv => whnf)
  refine ifB_i (fun h => ?_) (fun h => ?_) <;> (conv => whnf) <;> simp only [nInt_eq, Int.natCast_zero, dLen_eL, sLen_eq, nOf_eq, Int.toNat_natCast, nAdd_eq, nSub_eq, dLen_nil, dLen_cons, iLt_t, iLt_f, iLe_t, iLe_f, iEq_t, iEq_f, sEq_t, sEq_f, bNot_t, bNot_f, bAnd_t, bEq_t, bEq_f, Bool.not_eq_true, Bool.not_eq_false, Bool.true_eq_false, Bool.false_eq_true] at h
  · rw [costDesk, bud_m1 h]
  · rw [costDesk]

theorem toDesk_spec (x : Dsk) (ho : smModel x.model) : FnSpec PR f_laws_toDesk [aD x] (.agg [.d (.str x.csv), .d (.str x.config), .ref 0 0 none, .ref 1 0 none, .d (.int .i64 x.model.base), .ref 2 0 none, .d (.bool x.made)])
    [(0, .arr t_string 1 0 true (eL cS x.model.names)), (1, .arr t_int 1 0 true (eL cI x.model.signs)), (2, .arr t_impl_Tree 1 0 true (eL cT x.model.trees))] 3 := by
  refine FnSpec.intro hT p_laws_toDesk rfl (by kernel_rfl) n_laws_toDesk rfl ?_
  conv => whnf
  refine ⟨_, _, _, toModel_spec x.model ho, rfl, ?_⟩
  (conv => whnf)

theorem eqDesk_spec (x : Dsk) (ho : okModel x.model) : FnSpec PR f_laws_eqDesk [aD x, aD x] (ab true) [] 0 := by
  refine FnSpec.intro hT p_laws_eqDesk rfl (by kernel_rfl) n_laws_eqDesk rfl ?_
  conv => whnf
  refine ifB_i (fun hb => ?_) (fun hb => ?_)
  · simp at hb
  (conv => whnf)
  refine ifB_i (fun hb => ?_) (fun hb => ?_)
  · simp at hb
  (conv => whnf)
  refine ⟨_, _, _, eqModel_spec x.model ho, rfl, ?_⟩
  (conv => whnf)
  cases x.made <;> (conv => whnf)

theorem spec_SameDesk_spec (a b : Dsk) (ha : okModel a.model) (hb : okModel b.model) : FnSpec PR f_spec_SameDesk [aD a, aD b] (ab (eqDs a b)) [] 0 := by
  unfold eqDs
  refine FnSpec.intro hT p_spec_SameDesk rfl (by kernel_rfl) n_spec_SameDesk rfl ?_
  conv => whnf
  refine ifB_i (fun h => ?_) (fun h => ?_)
  rotate_left
  · (conv => whnf)
    simp only [nInt_eq, Int.natCast_zero, dLen_eL, sLen_eq, nOf_eq, Int.toNat_natCast, nAdd_eq, nSub_eq, dLen_nil, dLen_cons, iLt_t, iLt_f, iLe_t, iLe_f, iEq_t, iEq_f, sEq_t, sEq_f, bNot_t, bNot_f, bAnd_t, bEq_t, bEq_f, Bool.not_eq_true, Bool.not_eq_false, Bool.true_eq_false, Bool.false_eq_true] at h
    rw [decide_eq_false h]
    rfl
  (conv => whnf)
  simp only [nInt_eq, Int.natCast_zero, dLen_eL, sLen_eq, nOf_eq, Int.toNat_natCast, nAdd_eq, nSub_eq, dLen_nil, dLen_cons, iLt_t, iLt_f, iLe_t, iLe_f, iEq_t, iEq_f, sEq_t, sEq_f, bNot_t, bNot_f, bAnd_t, bEq_t, bEq_f, Bool.not_eq_true, Bool.not_eq_false, Bool.true_eq_false, Bool.false_eq_true] at h
  rw [decide_eq_true h]
  refine ifB_i (fun h => ?_) (fun h => ?_)
  rotate_left
  · (conv => whnf)
    simp only [nInt_eq, Int.natCast_zero, dLen_eL, sLen_eq, nOf_eq, Int.toNat_natCast, nAdd_eq, nSub_eq, dLen_nil, dLen_cons, iLt_t, iLt_f, iLe_t, iLe_f, iEq_t, iEq_f, sEq_t, sEq_f, bNot_t, bNot_f, bAnd_t, bEq_t, bEq_f, Bool.not_eq_true, Bool.not_eq_false, Bool.true_eq_false, Bool.false_eq_true] at h
    rw [decide_eq_false h]
    rfl
  (conv => whnf)
  simp only [nInt_eq, Int.natCast_zero, dLen_eL, sLen_eq, nOf_eq, Int.toNat_natCast, nAdd_eq, nSub_eq, dLen_nil, dLen_cons, iLt_t, iLt_f, iLe_t, iLe_f, iEq_t, iEq_f, sEq_t, sEq_f, bNot_t, bNot_f, bAnd_t, bEq_t, bEq_f, Bool.not_eq_true, Bool.not_eq_false, Bool.true_eq_false, Bool.false_eq_true] at h
  rw [decide_eq_true h]
  obtain ⟨c1, c2, c3, c4⟩ := a
  obtain ⟨d1, d2, d3, d4⟩ := b
  dsimp only at *
  cases c4 <;> cases d4 <;> (conv => whnf)
  all_goals first
    | (refine ⟨_, _, _, spec_SameModel_spec c3 d3 ha hb, rfl, ?_⟩
       (conv => whnf)
       simp)
    | simp

theorem impl_SameDesk_spec (a b : Dsk) (ha : okModel a.model) : FnSpec PR f_impl_SameDesk [aD a, aD b] (ab (eqDs a b)) [] 0 := by
  unfold eqDs
  refine FnSpec.intro hT p_impl_SameDesk rfl (by kernel_rfl) n_impl_SameDesk rfl ?_
  conv => whnf
  refine ifB_i (fun h => ?_) (fun h => ?_)
  rotate_left
  · (conv => whnf)
    simp only [nInt_eq, Int.natCast_zero, dLen_eL, sLen_eq, nOf_eq, Int.toNat_natCast, nAdd_eq, nSub_eq, dLen_nil, dLen_cons, iLt_t, iLt_f, iLe_t, iLe_f, iEq_t, iEq_f, sEq_t, sEq_f, bNot_t, bNot_f, bAnd_t, bEq_t, bEq_f, Bool.not_eq_true, Bool.not_eq_false, Bool.true_eq_false, Bool.false_eq_true] at h
    rw [decide_eq_false h]
    rfl
  (conv => whnf)
  simp only [nInt_eq, Int.natCast_zero, dLen_eL, sLen_eq, nOf_eq, Int.toNat_natCast, nAdd_eq, nSub_eq, dLen_nil, dLen_cons, iLt_t, iLt_f, iLe_t, iLe_f, iEq_t, iEq_f, sEq_t, sEq_f, bNot_t, bNot_f, bAnd_t, bEq_t, bEq_f, Bool.not_eq_true, Bool.not_eq_false, Bool.true_eq_false, Bool.false_eq_true] at h
  rw [decide_eq_true h]
  refine ifB_i (fun h => ?_) (fun h => ?_)
  rotate_left
  · (conv => whnf)
    simp only [nInt_eq, Int.natCast_zero, dLen_eL, sLen_eq, nOf_eq, Int.toNat_natCast, nAdd_eq, nSub_eq, dLen_nil, dLen_cons, iLt_t, iLt_f, iLe_t, iLe_f, iEq_t, iEq_f, sEq_t, sEq_f, bNot_t, bNot_f, bAnd_t, bEq_t, bEq_f, Bool.not_eq_true, Bool.not_eq_false, Bool.true_eq_false, Bool.false_eq_true] at h
    rw [decide_eq_false h]
    rfl
  (conv => whnf)
  simp only [nInt_eq, Int.natCast_zero, dLen_eL, sLen_eq, nOf_eq, Int.toNat_natCast, nAdd_eq, nSub_eq, dLen_nil, dLen_cons, iLt_t, iLt_f, iLe_t, iLe_f, iEq_t, iEq_f, sEq_t, sEq_f, bNot_t, bNot_f, bAnd_t, bEq_t, bEq_f, Bool.not_eq_true, Bool.not_eq_false, Bool.true_eq_false, Bool.false_eq_true] at h
  rw [decide_eq_true h]
  obtain ⟨c1, c2, c3, c4⟩ := a
  obtain ⟨d1, d2, d3, d4⟩ := b
  dsimp only at *
  refine ⟨_, _, _, impl_SameModel_spec c3 d3 ha, rfl, ?_⟩
  generalize eqMd c3 d3 = q
  cases q <;> cases c4 <;> cases d4 <;> (conv => whnf) <;> simp

theorem ty_desk {n : Nat} {c : List D} (h : TyD Tp n t_laws_Desk c) : ∃ x : Dsk, (okDesk x ∧ rgModel x.model) ∧ c = [.str x.csv, .str x.config, .sl 1 (eL cS x.model.names), .sl 1 (eL cI x.model.signs), .int .i64 x.model.base, .sl 1 (eL cT x.model.trees), .bool x.made] := by
  obtain ⟨hl, hf⟩ := h.struct (ti := _) rfl rfl
  obtain ⟨_, g0⟩ := hf (0, t_string) (by simp) _ rfl
  obtain ⟨_, g1⟩ := hf (1, t_string) (by simp) _ rfl
  obtain ⟨_, g2⟩ := hf (2, t_laws_Model) (by simp) _ rfl
  obtain ⟨_, g3⟩ := hf (6, t_bool) (by simp) _ rfl
  obtain ⟨x0, e0, r0⟩ := ty_str g0
  obtain ⟨x1, e1, r1⟩ := ty_str g1
  obtain ⟨m, r2, e2⟩ := ty_model g2
  obtain ⟨x3, e3⟩ := ty_bool g3
  refine ⟨⟨x0, x1, m, x3⟩, ⟨⟨r0, r1, r2.1⟩, r2.2⟩, ?_⟩
  match c, hl with
  | [c0, c1, c2, c3, c4, c5, c6], _ =>
    simp [cS] at e0 e1 e2 e3
    simp [e0, e1, e2, e3]
end Go.H.S
