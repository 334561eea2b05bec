/- Library, part NA: nested rows: copied, marked. -/
import Derived.Test.YtbclkplebkencaaLMA
import Derived.Test.YtbclkplebkencaaLY
namespace Go.H.S
open Go Go.Proofs Go.H
attribute [local irreducible] Tri FnSpec FnSpecM FnSpecX FnSpecJ
set_option maxRecDepth 100000
set_option linter.unusedSimpArgs false
set_option linter.unusedVariables false


theorem eL_set2 {α : Type} (f : α → List D) (xs : List α) (i : Nat) (y : α) : (eL f xs).set i (f y) = eL f (xs.set i y) := by rw [← eL_set]; unfold dSet; rfl
theorem set_keep {α : Type} {xs : List α} {i j : Nat} {y : α} (h : j ≠ i) : (xs.set i y)[j]? = xs[j]? := by rw [List.getElem?_set, if_neg (fun q => h q.symm)]
theorem costL_take {α : Type} (f : α → Nat) : ∀ (xs : List α) (i : Nat) (x : α), xs[i]? = some x → costL f (xs.take (i + 1)) = costL f (xs.take i) + f x
  | [], i, x, h => by simp at h
  | y :: r, 0, x, h => by simp at h; subst h; simp [costL]
  | y :: r, i + 1, x, h => by
    simp only [List.getElem?_cons_succ] at h
    simp only [List.take_succ_cons, costL]
    rw [costL_take f r i x h]
    omega
theorem costL_take_le {α : Type} (f : α → Nat) : ∀ (xs : List α) (i : Nat), costL f (xs.take i) ≤ costL f xs
  | [], i => by simp
  | y :: r, 0 => by simp [costL]
  | y :: r, i + 1 => by
    simp only [List.take_succ_cons, costL]
    have := costL_take_le f r i
    omega

theorem toTreeS_nest (xs : List (List Nd)) (hx : xs.length ≤ 4000000000) (hs : ∀ s ∈ xs, s.length ≤ 4000000000) :
    FnSpec PR f_laws_toTreeS [.c (.d (.sl 1 (eL cT xs)))] (.c (.ref 0 0 none)) [(0, .arr t_impl_Tree 1 0 (.nest [t_impl_Node]) (eL cT xs))] 1 := by
  refine FnSpec.intro hTn p_laws_toTreeS rfl (by kernel_rfl) n_laws_toTreeS rfl ?_
  conv => whnf
  refine ⟨by simp; omega, ?_⟩
  (conv => whnf)
  refine tri_loop hTn [0, 3, 4] (α := Nat × List (List D)) (fun x => { t := [(0, .c (.d (.sl 1 (eL cT xs)))), (3, .c (.ref 0 0 none)), (4, ai (nInt x.1))], h := [(0, .arr t_impl_Tree 1 0 (.nest [t_impl_Node]) x.2)], n := 1, N := 23 })
    (fun x => x.1 ≤ xs.length ∧ Fill cT 1 xs x.1 x.2) (fun x => xs.length - x.1) (0, _) (by ((conv => whnf); simp only [St.mk.injEq, List.cons.injEq, Prod.mk.injEq, AV.c.injEq, AV.agg.injEq, AV.tup.injEq, CV.d.injEq, D.int.injEq, D.bool.injEq, D.str.injEq, D.sl.injEq, Ent.arr.injEq, Ent.box.injEq, true_and, and_true, and_self, nInt_eq, Int.natCast_zero, dLen_eL, sLen_eq]); rfl) ⟨by omega, Fill.start cT xs rfl⟩ ?_
  intro ⟨k, es⟩ ⟨hk, hf⟩
  dsimp only at hk hf
  have hl := hf.len
  (conv => whnf)
  refine ifB_i (fun h1 => ?_) (fun h1 => ?_) <;> (conv => whnf) <;> simp at h1
  · obtain ⟨s, hs'⟩ := get_lt h1
    refine idx_at (by simp) hs' ?_
    (conv => whnf)
    refine .inl ⟨_, _, _, toTree_spec s (hs s (List.mem_of_getElem? hs')), rfl, ?_⟩
    (conv => whnf)
    refine ⟨by simp only [lenRE_none, dLen_len, hl, InB_eq, nInt_eq]; omega, ?_⟩
    (conv => whnf)
    refine ⟨flat_cN s, fun c' hc' => ?_⟩
    have hr := hf.room hc'
    refine ⟨by simp; omega, ?_⟩
    rw [dOver_all (by rw [hr]; rfl)]
    (conv => whnf)
    refine ⟨(k + 1, dSet es k (cT s)), by dsimp only; omega, ⟨h1, hf.step hs' rfl⟩, ?_⟩
    ((conv => whnf); simp only [St.mk.injEq, List.cons.injEq, Prod.mk.injEq, AV.c.injEq, AV.agg.injEq, AV.tup.injEq, CV.d.injEq, D.int.injEq, D.bool.injEq, D.str.injEq, D.sl.injEq, Ent.arr.injEq, Ent.box.injEq, true_and, and_true, and_self, nInt_eq, Int.natCast_zero, dLen_eL, sLen_eq, wI h1 (by omega), nAdd_eq, nOf_eq, Int.toNat_natCast, offR, Nat.zero_add])
    rfl
  · obtain rfl : k = xs.length := by omega
    rw [hf.done]

theorem toIntSS_nest (xs : List (List Int)) (hx : xs.length ≤ 4000000000) (hs : ∀ s ∈ xs, s.length ≤ 4000000000) :
    FnSpec PR f_laws_toIntSS [.c (.d (.sl 1 (eL cIs xs)))] (.c (.ref 0 0 none)) [(0, .arr t_Lint 1 0 (.nest [t_int]) (eL cIs xs))] 1 := by
  refine FnSpec.intro hTn p_laws_toIntSS rfl (by kernel_rfl) n_laws_toIntSS rfl ?_
  conv => whnf
  refine ⟨by simp; omega, ?_⟩
  (conv => whnf)
  refine tri_loop hTn [0, 3, 4] (α := Nat × List (List D)) (fun x => { t := [(0, .c (.d (.sl 1 (eL cIs xs)))), (3, .c (.ref 0 0 none)), (4, ai (nInt x.1))], h := [(0, .arr t_Lint 1 0 (.nest [t_int]) x.2)], n := 1, N := 23 })
    (fun x => x.1 ≤ xs.length ∧ Fill cIs 1 xs x.1 x.2) (fun x => xs.length - x.1) (0, _) (by ((conv => whnf); simp only [St.mk.injEq, List.cons.injEq, Prod.mk.injEq, AV.c.injEq, AV.agg.injEq, AV.tup.injEq, CV.d.injEq, D.int.injEq, D.bool.injEq, D.str.injEq, D.sl.injEq, Ent.arr.injEq, Ent.box.injEq, true_and, and_true, and_self, nInt_eq, Int.natCast_zero, dLen_eL, sLen_eq]); rfl) ⟨by omega, Fill.start cIs xs rfl⟩ ?_
  intro ⟨k, es⟩ ⟨hk, hf⟩
  dsimp only at hk hf
  have hl := hf.len
  (conv => whnf)
  refine ifB_i (fun h1 => ?_) (fun h1 => ?_) <;> (conv => whnf) <;> simp at h1
  · obtain ⟨s, hs'⟩ := get_lt h1
    refine idx_at (by simp) hs' ?_
    (conv => whnf)
    refine .inl ⟨_, _, _, toIntS_spec s (hs s (List.mem_of_getElem? hs')), rfl, ?_⟩
    (conv => whnf)
    refine ⟨by simp only [lenRE_none, dLen_len, hl, InB_eq, nInt_eq]; omega, ?_⟩
    (conv => whnf)
    refine ⟨flat_cI s, fun c' hc' => ?_⟩
    have hr := hf.room hc'
    refine ⟨by simp; omega, ?_⟩
    rw [dOver_all (by rw [hr]; rfl)]
    (conv => whnf)
    refine ⟨(k + 1, dSet es k (cIs s)), by dsimp only; omega, ⟨h1, hf.step hs' rfl⟩, ?_⟩
    ((conv => whnf); simp only [St.mk.injEq, List.cons.injEq, Prod.mk.injEq, AV.c.injEq, AV.agg.injEq, AV.tup.injEq, CV.d.injEq, D.int.injEq, D.bool.injEq, D.str.injEq, D.sl.injEq, Ent.arr.injEq, Ent.box.injEq, true_and, and_true, and_self, nInt_eq, Int.natCast_zero, dLen_eL, sLen_eq, wI h1 (by omega), nAdd_eq, nOf_eq, Int.toNat_natCast, offR, Nat.zero_add])
    rfl
  · obtain rfl : k = xs.length := by omega
    rw [hf.done]

theorem toModel_nest (x : Mdl) (ho : smModel x) : FnSpec PR f_laws_toModel [aM x] (.agg [.ref 0 0 none, .ref 1 0 none, .d (.int .i64 x.base), .ref 2 0 none]) [(0, .arr t_string 1 0 .own (eL cS x.names)), (1, .arr t_int 1 0 .own (eL cI x.signs)), (2, .arr t_impl_Tree 1 0 (.nest [t_impl_Node]) (eL cT x.trees))] 3 := by
  obtain ⟨o0, o1, o2⟩ := ho
  refine FnSpec.intro hTn p_laws_toModel rfl (by kernel_rfl) n_laws_toModel rfl ?_
  conv => whnf
  refine .inl ⟨_, _, _, toStringS_spec x.names o0, rfl, ?_⟩
  (conv => whnf)
  refine .inl ⟨_, _, _, toIntS_spec x.signs o1, rfl, ?_⟩
  (conv => whnf)
  refine .inl ⟨_, _, _, toTreeS_nest x.trees o2.1 o2.2, rfl, ?_⟩
  (conv => whnf)

theorem toGrid_nest (x : Grd) (ho : smGrid x) : FnSpec PR f_laws_toGrid [aG x] (.agg [.ref 0 0 none, .ref 1 0 none]) [(0, .arr t_Lint 1 0 (.nest [t_int]) (eL cIs x.cuts)), (1, .arr t_Lint 1 0 (.nest [t_int]) (eL cIs x.bins))] 2 := by
  obtain ⟨o0, o1⟩ := ho
  refine FnSpec.intro hTn p_laws_toGrid rfl (by kernel_rfl) n_laws_toGrid rfl ?_
  conv => whnf
  refine .inl ⟨_, _, _, toIntSS_nest x.cuts o0.1 o0.2, rfl, ?_⟩
  (conv => whnf)
  refine .inl ⟨_, _, _, toIntSS_nest x.bins o1.1 o1.2, rfl, ?_⟩
  (conv => whnf)

theorem markTreeS_lost (xs : List (List Nd)) (k : Int) (hk : 0 < k ∧ k + 5 * costL List.length xs ≤ 1000000000000) (hx : xs.length ≤ 1000000000) (hxs : ∀ t ∈ xs, t.length ≤ 1000000000) :
    FnSpecJ PR f_laws_markTreeS [.c (.ref 0 0 none), ai k] [(0, .arr t_impl_Tree 1 0 (.nest [t_impl_Node]) (eL cT xs))] 1 (ai (k + 5 * costL List.length xs)) := by
  refine FnSpecJ.intro hTn p_laws_markTreeS rfl (by kernel_rfl) n_laws_markTreeS rfl rfl rfl ?_
  (conv => whnf)
  refine tri_loop hTn [0, 1, 5] (α := Nat × List (List Nd)) (fun x => { t := [(0, .c (.ref 0 0 none)), (1, ai (k + 5 * costL List.length (xs.take x.1))), (5, ai x.1)], h := [(0, .arr t_impl_Tree 1 0 (.nest [t_impl_Node]) (eL cT x.2))], n := 1, N := 20 })
    (fun x => x.1 ≤ xs.length ∧ x.2.length = xs.length ∧ ∀ j, x.1 ≤ j → x.2[j]? = xs[j]?) (fun x => xs.length - x.1) (0, xs) (by ((conv => whnf); simp only [St.mk.injEq, List.cons.injEq, Prod.mk.injEq, AV.c.injEq, AV.agg.injEq, AV.tup.injEq, CV.d.injEq, D.int.injEq, D.bool.injEq, D.str.injEq, D.sl.injEq, Ent.arr.injEq, Ent.box.injEq, true_and, and_true, and_self, nInt_eq, Int.natCast_zero, dLen_eL, sLen_eq]); simp [costL]) ⟨Nat.zero_le _, rfl, fun j _ => rfl⟩ ?_
  intro ⟨i, ys⟩ ⟨hi, hl, hj⟩
  dsimp only at hi hl hj
  (conv => whnf)
  refine ifB_i (fun h1 => ?_) (fun h1 => ?_) <;> (conv => whnf) <;> simp at h1
  · obtain ⟨y, hy⟩ := get_lt h1
    have hyx : xs[i]? = some y := by rw [← hj i (Nat.le_refl _)]; exact hy
    have hyl := hxs y (List.mem_of_getElem? hyx)
    have hc := costL_take List.length xs i y hyx
    have hc2 := costL_take_le List.length xs (i + 1)
    refine ref_at (k := i) (by simp) (by simp; omega) ?_
    (conv => whnf)
    refine ld_at (k := i) (by simp) hy ?_
    (conv => whnf)
    refine ⟨i, 0, cT y, 5, eL cN y, t_impl_Node, by simp, by decide, by rw [eL_get, hy]; rfl, rfl, rfl, _, _, markNodeS_spec y _ (by dsimp only; omega) hyl, ?_⟩
    (conv => whnf)
    rw [show (eL cT ys).set i ((cT y).set 0 (.sl 5 (eL cN (marksN (k + 5 * costL List.length (xs.take i)) y.length)))) = eL cT (ys.set i (marksN (k + 5 * costL List.length (xs.take i)) y.length)) from eL_set2 cT ys i _]
    (conv => whnf)
    refine ⟨(i + 1, ys.set i (marksN (k + 5 * costL List.length (xs.take i)) y.length)), by dsimp only; omega, ⟨by dsimp only; omega, by simp [hl], fun j hlt => ?_⟩, ?_⟩
    · dsimp only at hlt ⊢
      rw [set_keep (by omega)]
      exact hj j (by omega)
    · ((conv => whnf); simp only [St.mk.injEq, List.cons.injEq, Prod.mk.injEq, AV.c.injEq, AV.agg.injEq, AV.tup.injEq, CV.d.injEq, D.int.injEq, D.bool.injEq, D.str.injEq, D.sl.injEq, Ent.arr.injEq, Ent.box.injEq, true_and, and_true, and_self, nInt_eq, Int.natCast_zero, dLen_eL, sLen_eq, wI h1 (by omega)])
      rw [hc]; omega
  · obtain rfl : i = xs.length := by omega
    rw [show xs.take xs.length = xs by simp]

theorem markModel_lost (x : Mdl) (hn : x.names.length ≤ 1048576) (hs : x.signs.length ≤ 1048576) (ht : x.trees.length ≤ 1048576) (hc : costL List.length x.trees ≤ 1048576) :
    FnSpecJ PR f_laws_markModel [.agg [.ref 0 0 none, .ref 1 0 none, .d (.int .i64 x.base), .ref 2 0 none], ai 1] [(0, .arr t_string 1 0 .own (eL cS x.names)), (1, .arr t_int 1 0 .own (eL cI x.signs)), (2, .arr t_impl_Tree 1 0 (.nest [t_impl_Node]) (eL cT x.trees))] 3 (ai (1 + x.names.length + x.signs.length + 5 * costL List.length x.trees)) := by
  refine FnSpecJ.intro hTn p_laws_markModel rfl (by kernel_rfl) n_laws_markModel rfl rfl rfl ?_
  (conv => whnf)
  refine .inr (.inr (.inl ⟨0, ?_⟩))
  (conv => whnf)
  refine .inl ⟨_, _, markStringS_spec x.names 1 (by omega) (by omega), ?_⟩
  (conv => whnf)
  refine .inr (.inr (.inl ⟨1, ?_⟩))
  (conv => whnf)
  refine .inl ⟨_, _, markIntS_spec x.signs (1 + x.names.length) (by omega) (by omega), ?_⟩
  (conv => whnf)
  refine .inr (.inr (.inr (.inl ⟨[(2, 0)], ?_⟩)))
  (conv => whnf)
  refine ⟨[.c (.ref 0 0 none), ai (1 + x.names.length + x.signs.length)], _, ⟨rfl, rfl, rfl⟩, markTreeS_lost x.trees _ (by omega) (by omega) (fun t h => by have := costL_mem List.length h; omega), ?_⟩
  (conv => whnf)
end Go.H.S
namespace Go.H.S
open Go Go.Proofs Go.H
attribute [local irreducible] Tri FnSpec FnSpecM FnSpecX FnSpecJ
set_option maxRecDepth 100000
set_option linter.unusedSimpArgs false
set_option linter.unusedVariables false


def catL (f : Int) : List (List Nd) → List Int
  | [] => []
  | t :: r => stepsAtL t f ++ catL f r
theorem stepsAtL_len (t : List Nd) (f : Int) : (stepsAtL t f).length ≤ t.length := by
  have h1 := distinctL_len (cutsL f t)
  have h2 := cutsL_len f t
  unfold stepsAtL
  omega
theorem catL_len (f : Int) : ∀ ts : List (List Nd), (catL f ts).length ≤ costL List.length ts
  | [] => by simp [catL, costL]
  | t :: r => by
    have := catL_len f r
    have := stepsAtL_len t f
    simp only [catL, costL, List.length_append]
    omega
def cutsInL (m : Mdl) (f : Int) : List Int := distinctL (catL f m.trees)
theorem cutsInL_len (m : Mdl) (f : Int) : (cutsInL m f).length ≤ costL List.length m.trees := by
  have h1 := distinctL_len (catL f m.trees)
  have h2 := catL_len f m.trees
  unfold cutsInL
  omega
theorem impl_CutsIn_spec (m : Mdl) (f : Int) (hl : m.trees.length ≤ 1048576) (hc : costL List.length m.trees ≤ 1048576) : FnSpec PR f_impl_CutsIn [aM m, ai f] (.c (.ref 0 0 none)) [(0, .arr t_int 1 0 .own (eL cI (cutsInL m f)))] 1 := by
  have hcl := catL_len f m.trees
  refine FnSpec.intro hT p_impl_CutsIn rfl (by kernel_rfl) n_impl_CutsIn rfl ?_
  conv => whnf
  refine tri_loop hT [1, 5, 10, 11, 12] (α := Nat × List Int) (fun x => { t := [(1, ai f), (5, .c (.ref 0 0 none)), (10, aTs m.trees), (11, ai m.trees.length), (12, ai x.1)], h := [(0, .arr t_int 1 0 .own (eL cI x.2))], n := 1, N := 24 })
    (fun x => x.1 ≤ m.trees.length ∧ x.2 ++ catL f (m.trees.drop x.1) = catL f m.trees) (fun x => m.trees.length - x.1) (0, []) (by ((conv => whnf); simp only [St.mk.injEq, List.cons.injEq, Prod.mk.injEq, AV.c.injEq, AV.agg.injEq, AV.tup.injEq, CV.d.injEq, D.int.injEq, D.bool.injEq, D.str.injEq, D.sl.injEq, Ent.arr.injEq, Ent.box.injEq, true_and, and_true, and_self, nInt_eq, Int.natCast_zero, dLen_eL, sLen_eq, eL_nil])) ⟨Nat.zero_le _, by simp⟩ ?_
  intro ⟨k, o⟩ ⟨hk, ho⟩
  dsimp only at hk ho
  have hol : o.length ≤ costL List.length m.trees := by have := congrArg List.length ho; simp at this; omega
  (conv => whnf)
  refine ifB_i (fun h1 => ?_) (fun h1 => ?_) <;> (conv => whnf) <;> simp at h1
  · obtain ⟨t, ht⟩ := get_lt h1
    have htl := costL_mem List.length (List.mem_of_getElem? ht)
    have hsl := stepsAtL_len t f
    rw [drop_at ht, catL] at ho
    refine idx_at (by simp) ht ?_
    (conv => whnf)
    refine .inl ⟨_, _, _, impl_StepsAt_spec t f (by omega), rfl, ?_⟩
    (conv => whnf)
    refine And.intro (by simp [eL_length, dLen_len]; omega) ?_
    (conv => whnf)
    refine ⟨(k + 1, o ++ stepsAtL t f), by dsimp only; omega, ⟨h1, by simpa using ho⟩, ?_⟩
    ((conv => whnf); simp only [St.mk.injEq, List.cons.injEq, Prod.mk.injEq, AV.c.injEq, AV.agg.injEq, AV.tup.injEq, CV.d.injEq, D.int.injEq, D.bool.injEq, D.str.injEq, D.sl.injEq, Ent.arr.injEq, Ent.box.injEq, true_and, and_true, and_self, nInt_eq, Int.natCast_zero, dLen_eL, sLen_eq, partOf_none, wI h1 (by omega)])
    rw [← eL_apps]
    try rfl
  · obtain rfl : k = m.trees.length := by omega
    simp [catL] at ho
    subst ho
    refine .inr (.inl ⟨_, _, _, impl_Distinct_spec _ (by dsimp only; omega), rfl, ⟨flat_cI _, trivial⟩, ?_⟩)
    (conv => whnf)
    try rfl

theorem spec_CutsIn_spec (m : Mdl) (f : Int) (hl : m.trees.length ≤ 1048576) (hc : costL List.length m.trees ≤ 1048576) : FnSpec PR f_spec_CutsIn [aM m, ai f] (.c (.ref 0 0 none)) [(0, .arr t_int 1 0 .own (eL cI (cutsInL m f)))] 1 := by
  have hcl := catL_len f m.trees
  refine FnSpec.intro hT p_spec_CutsIn rfl (by kernel_rfl) n_spec_CutsIn rfl ?_
  conv => whnf
  refine tri_loop hT [1, 2, 5, 6] (α := Nat × List Int) (fun x => { t := [(1, ai f), (2, .c (.ptr 0 0)), (5, .c (.ref 1 0 none)), (6, ai x.1)], h := [(0, .box t_impl_Model (cM m)), (1, .arr t_int 1 0 .own (eL cI x.2))], n := 2, N := 26 })
    (fun x => x.1 ≤ m.trees.length ∧ x.2 ++ catL f (m.trees.drop x.1) = catL f m.trees) (fun x => m.trees.length - x.1) (0, []) (by ((conv => whnf); simp only [St.mk.injEq, List.cons.injEq, Prod.mk.injEq, AV.c.injEq, AV.agg.injEq, AV.tup.injEq, CV.d.injEq, D.int.injEq, D.bool.injEq, D.str.injEq, D.sl.injEq, Ent.arr.injEq, Ent.box.injEq, true_and, and_true, and_self, nInt_eq, Int.natCast_zero, dLen_eL, sLen_eq, eL_nil])) ⟨Nat.zero_le _, by simp⟩ ?_
  intro ⟨k, o⟩ ⟨hk, ho⟩
  dsimp only at hk ho
  have hol : o.length ≤ costL List.length m.trees := by have := congrArg List.length ho; simp at this; omega
  (conv => whnf)
  refine ifB_i (fun h1 => ?_) (fun h1 => ?_) <;> (conv => whnf) <;> simp at h1
  · obtain ⟨t, ht⟩ := get_lt h1
    have htl := costL_mem List.length (List.mem_of_getElem? ht)
    have hsl := stepsAtL_len t f
    rw [drop_at ht, catL] at ho
    refine idx_at (by simp) ht ?_
    (conv => whnf)
    refine .inl ⟨_, _, _, spec_StepsAt_spec t f (by omega), rfl, ?_⟩
    (conv => whnf)
    refine And.intro (by simp [eL_length, dLen_len]; omega) ?_
    (conv => whnf)
    refine ⟨(k + 1, o ++ stepsAtL t f), by dsimp only; omega, ⟨h1, by simpa using ho⟩, ?_⟩
    ((conv => whnf); simp only [St.mk.injEq, List.cons.injEq, Prod.mk.injEq, AV.c.injEq, AV.agg.injEq, AV.tup.injEq, CV.d.injEq, D.int.injEq, D.bool.injEq, D.str.injEq, D.sl.injEq, Ent.arr.injEq, Ent.box.injEq, true_and, and_true, and_self, nInt_eq, Int.natCast_zero, dLen_eL, sLen_eq, partOf_none, wI h1 (by omega)])
    rw [← eL_apps]
    try rfl
  · obtain rfl : k = m.trees.length := by omega
    simp [catL] at ho
    subst ho
    refine .inr (.inl ⟨_, _, _, spec_Distinct_spec _ (by dsimp only; omega), rfl, ⟨flat_cI _, trivial⟩, ?_⟩)
    (conv => whnf)
    try rfl

set_option maxHeartbeats 4000000 in
theorem law_FnExactCutsIn (m : Mdl) (f : Int) (hm : okModel m ∧ rgModel m) (_ : i64 f) : FnSpec PR f_laws_FnExactCutsIn [aM m, ai f] (ab true) [] 0 := by
  refine FnSpec.intro hTn p_laws_FnExactCutsIn rfl (by kernel_rfl) n_laws_FnExactCutsIn rfl ?_
  conv => whnf
  refine .inl ⟨_, _, _, szModel_spec m 1048576 (by omega) (by omega) hm.1, rfl, ?_⟩
  (conv => whnf)
  refine ifB_i (fun h => ?_) (fun h => ?_) <;> (conv => whnf) <;> simp only [nInt_eq, Int.natCast_zero, dLen_eL, sLen_eq, nOf_eq, Int.toNat_natCast, nAdd_eq, nSub_eq, dLen_nil, dLen_cons, iLt_t, iLt_f, iLe_t, iLe_f, iEq_t, iEq_f, sEq_t, sEq_f, bNot_t, bNot_f, bAnd_t, bEq_t, bEq_f, Bool.not_eq_true, Bool.not_eq_false, Bool.true_eq_false, Bool.false_eq_true] at h
  have hcost := bud_ok h
  obtain ⟨hsm, hl, hc⟩ := model_small hcost
  have hs : m.signs.length ≤ 1048576 := by unfold costModel at hcost; omega
  have hn : m.names.length ≤ 1048576 := by have := cost_len ByteArray.size m.names; unfold costModel at hcost; omega
  have hsl := cutsInL_len m f
  refine .inl ⟨_, _, _, toModel_spec m hsm, rfl, ?_⟩
  (conv => whnf)
  refine .inl ⟨_, _, _, spec_CutsIn_spec m f hl hc, rfl, ?_⟩
  (conv => whnf)
  refine .inl ⟨_, _, _, toModel_nest m hsm, rfl, ?_⟩
  (conv => whnf)
  refine .inr (.inl ⟨_, _, _, impl_CutsIn_spec m f hl hc, rfl, ⟨flat_cI _, trivial⟩, ?_⟩)
  generalize hss : cutsInL m f = s at *
  (conv => whnf)
  refine .inr (.inl ⟨_, _, _, eqIntS_spec s (by omega), rfl, trivial, ?_⟩)
  (conv => whnf)
  refine tri_every hTn hmix [1, 2, 6, 7, 8, 35] { t := [(1, ai f), (2, .c (.ptr 0 0)), (6, .c (.ref 1 0 none)), (7, .c (.ptr 2 0)), (8, .c (.ref 6 0 none)), (35, ab (bNot true))], h := [(0, .box t_laws_Model (cM m)), (1, .arr t_int 1 0 .own (eL cI s)), (2, .box t_impl_Model [.ref 3 0 none, .ref 4 0 none, .d (.int .i64 m.base), .ref 5 0 none]), (3, .arr t_string 1 0 .own (eL cS m.names)), (4, .arr t_int 1 0 .own (eL cI m.signs)), (5, .arr t_impl_Tree 1 0 (.nest [t_impl_Node]) (eL cT m.trees)), (6, .arr t_int 1 0 .own (eL cI s))], n := 7, N := 74 } rfl ?_ ?_
  · repeat' first
      | (refine anyV_one rfl ?_; (conv => whnf))
      | (refine anyV_two rfl ?_ ?_ <;> (conv => whnf))
      | (refine anyV_end rfl ?_; (conv => whnf); first | done | (simp only [partOf_none]; done) | (simp only [partOf_none]; rfl))
      | (refine .inl ⟨_, _, _, toModel_spec m hsm, rfl, ?_⟩; (conv => whnf))
      | (refine .inr (.inl ⟨_, _, _, eqModel_spec m hm.1, rfl, trivial, ?_⟩); (conv => whnf))
  (conv => whnf)
  refine .inr (.inr (.inr (.inl ⟨[(3, 0), (4, 1), (5, 2)], ?_⟩)))
  (conv => whnf)
  refine ⟨[.agg [.ref 0 0 none, .ref 1 0 none, .d (.int .i64 m.base), .ref 2 0 none], ai 1], _, ⟨rfl, rfl, rfl⟩, markModel_lost m hn hs hl hc, ?_⟩
  (conv => whnf)
  rw [show iLt (1 + (m.names.length : Int) + m.signs.length + 5 * costL List.length m.trees) 0 = false by simp; omega]
  (conv => whnf)
  refine .inr (.inl ⟨_, _, _, eqIntS_spec s (by omega), rfl, trivial, ?_⟩)
  (conv => whnf)
  refine .inr (.inr (.inl ⟨6, ?_⟩))
  (conv => whnf)
  refine .inl ⟨_, _, markIntS_spec s 1 (by omega) (by omega), ?_⟩
  (conv => whnf)
  refine .inr (.inl ⟨_, _, _, heldIntS_spec 1 s.length (by omega) (by omega), rfl, trivial, ?_⟩)
  (conv => whnf)
  rw [show iEq (1 + (s.length : Int)) (1 + s.length) = true from decide_eq_true rfl]
  (conv => whnf)
  refine .inl ⟨_, _, _, toModel_spec m hsm, rfl, ?_⟩
  (conv => whnf)
  refine .inl ⟨_, _, _, impl_CutsIn_spec m f hl hc, rfl, ?_⟩
  rw [hss]
  (conv => whnf)
  refine .inr (.inl ⟨_, _, _, eqIntS_spec s (by omega), rfl, trivial, ?_⟩)
  (conv => whnf)
  refine .inr (.inl ⟨_, _, _, heldIntS_spec 1 s.length (by omega) (by omega), rfl, trivial, ?_⟩)
  (conv => whnf)
  rw [show iEq (1 + (s.length : Int)) (1 + s.length) = true from decide_eq_true rfl]
  (conv => whnf)
end Go.H.S
