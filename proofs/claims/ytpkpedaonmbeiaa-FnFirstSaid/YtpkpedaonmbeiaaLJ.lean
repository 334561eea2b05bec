/- Library, part NA: nested rows: copied, marked. -/
import Derived.Test.YtpkpedaonmbeiaaLMA
import Derived.Test.YtpkpedaonmbeiaaLO
import Derived.Test.YtpkpedaonmbeiaaH29
namespace Go.H.S
open Go Go.Proofs Go.H
attribute [local irreducible] Tri FnSpec FnSpecM FnSpecX FnSpecJ
set_option maxRecDepth 100000
set_option linter.unusedSimpArgs false
set_option linter.unusedVariables false


theorem eL_set2 {α : Type} (f : α → List D) (xs : List α) (i : Nat) (y : α) : (eL f xs).set i (f y) = eL f (xs.set i y) := by rw [← eL_set]; unfold dSet; rfl
theorem set_keep {α : Type} {xs : List α} {i j : Nat} {y : α} (h : j ≠ i) : (xs.set i y)[j]? = xs[j]? := by rw [List.getElem?_set, if_neg (fun q => h q.symm)]
theorem costL_take {α : Type} (f : α → Nat) : ∀ (xs : List α) (i : Nat) (x : α), xs[i]? = some x → costL f (xs.take (i + 1)) = costL f (xs.take i) + f x
  | [], i, x, h => by simp at h
  | y :: r, 0, x, h => by simp at h; subst h; simp [costL]
  | y :: r, i + 1, x, h => by
    simp only [List.getElem?_cons_succ] at h
    simp only [List.take_succ_cons, costL]
    rw [costL_take f r i x h]
    omega
theorem costL_take_le {α : Type} (f : α → Nat) : ∀ (xs : List α) (i : Nat), costL f (xs.take i) ≤ costL f xs
  | [], i => by simp
  | y :: r, 0 => by simp [costL]
  | y :: r, i + 1 => by
    simp only [List.take_succ_cons, costL]
    have := costL_take_le f r i
    omega

theorem toTreeS_nest (xs : List (List Nd)) (hx : xs.length ≤ 4000000000) (hs : ∀ s ∈ xs, s.length ≤ 4000000000) :
    FnSpec PR f_laws_toTreeS [.c (.d (.sl 1 (eL cT xs)))] (.c (.ref 0 0 none)) [(0, .arr t_impl_Tree 1 0 (.nest [t_impl_Node]) (eL cT xs))] 1 := by
  refine FnSpec.intro hTn p_laws_toTreeS rfl (by kernel_rfl) n_laws_toTreeS rfl ?_
  conv => whnf
  refine ⟨by simp; omega, ?_⟩
  (conv => whnf)
  refine tri_loop hTn [0, 3, 4] (α := Nat × List (List D)) (fun x => { t := [(0, .c (.d (.sl 1 (eL cT xs)))), (3, .c (.ref 0 0 none)), (4, ai (nInt x.1))], h := [(0, .arr t_impl_Tree 1 0 (.nest [t_impl_Node]) x.2)], n := 1, N := 23 })
    (fun x => x.1 ≤ xs.length ∧ Fill cT 1 xs x.1 x.2) (fun x => xs.length - x.1) (0, _) (by ((conv => whnf); simp only [St.mk.injEq, List.cons.injEq, Prod.mk.injEq, AV.c.injEq, AV.agg.injEq, AV.tup.injEq, CV.d.injEq, D.int.injEq, D.bool.injEq, D.str.injEq, D.sl.injEq, Ent.arr.injEq, Ent.box.injEq, true_and, and_true, and_self, nInt_eq, Int.natCast_zero, dLen_eL, sLen_eq]); rfl) ⟨by omega, Fill.start cT xs rfl⟩ ?_
  intro ⟨k, es⟩ ⟨hk, hf⟩
  dsimp only at hk hf
  have hl := hf.len
  (conv => whnf)
  refine ifB_i (fun h1 => ?_) (fun h1 => ?_) <;> (conv => whnf) <;> simp at h1
  · obtain ⟨s, hs'⟩ := get_lt h1
    refine idx_at (by simp) hs' ?_
    (conv => whnf)
    refine .inl ⟨_, _, _, toTree_spec s (hs s (List.mem_of_getElem? hs')), rfl, ?_⟩
    (conv => whnf)
    refine ⟨by simp only [lenRE_none, dLen_len, hl, InB_eq, nInt_eq]; omega, ?_⟩
    (conv => whnf)
    refine ⟨flat_cN s, fun c' hc' => ?_⟩
    have hr := hf.room hc'
    refine ⟨by simp; omega, ?_⟩
    rw [dOver_all (by rw [hr]; rfl)]
    (conv => whnf)
    refine ⟨(k + 1, dSet es k (cT s)), by dsimp only; omega, ⟨h1, hf.step hs' rfl⟩, ?_⟩
    ((conv => whnf); simp only [St.mk.injEq, List.cons.injEq, Prod.mk.injEq, AV.c.injEq, AV.agg.injEq, AV.tup.injEq, CV.d.injEq, D.int.injEq, D.bool.injEq, D.str.injEq, D.sl.injEq, Ent.arr.injEq, Ent.box.injEq, true_and, and_true, and_self, nInt_eq, Int.natCast_zero, dLen_eL, sLen_eq, wI h1 (by omega), nAdd_eq, nOf_eq, Int.toNat_natCast, offR, Nat.zero_add])
    rfl
  · obtain rfl : k = xs.length := by omega
    rw [hf.done]

theorem toIntSS_nest (xs : List (List Int)) (hx : xs.length ≤ 4000000000) (hs : ∀ s ∈ xs, s.length ≤ 4000000000) :
    FnSpec PR f_laws_toIntSS [.c (.d (.sl 1 (eL cIs xs)))] (.c (.ref 0 0 none)) [(0, .arr t_Lint 1 0 (.nest [t_int]) (eL cIs xs))] 1 := by
  refine FnSpec.intro hTn p_laws_toIntSS rfl (by kernel_rfl) n_laws_toIntSS rfl ?_
  conv => whnf
  refine ⟨by simp; omega, ?_⟩
  (conv => whnf)
  refine tri_loop hTn [0, 3, 4] (α := Nat × List (List D)) (fun x => { t := [(0, .c (.d (.sl 1 (eL cIs xs)))), (3, .c (.ref 0 0 none)), (4, ai (nInt x.1))], h := [(0, .arr t_Lint 1 0 (.nest [t_int]) x.2)], n := 1, N := 23 })
    (fun x => x.1 ≤ xs.length ∧ Fill cIs 1 xs x.1 x.2) (fun x => xs.length - x.1) (0, _) (by ((conv => whnf); simp only [St.mk.injEq, List.cons.injEq, Prod.mk.injEq, AV.c.injEq, AV.agg.injEq, AV.tup.injEq, CV.d.injEq, D.int.injEq, D.bool.injEq, D.str.injEq, D.sl.injEq, Ent.arr.injEq, Ent.box.injEq, true_and, and_true, and_self, nInt_eq, Int.natCast_zero, dLen_eL, sLen_eq]); rfl) ⟨by omega, Fill.start cIs xs rfl⟩ ?_
  intro ⟨k, es⟩ ⟨hk, hf⟩
  dsimp only at hk hf
  have hl := hf.len
  (conv => whnf)
  refine ifB_i (fun h1 => ?_) (fun h1 => ?_) <;> (conv => whnf) <;> simp at h1
  · obtain ⟨s, hs'⟩ := get_lt h1
    refine idx_at (by simp) hs' ?_
    (conv => whnf)
    refine .inl ⟨_, _, _, toIntS_spec s (hs s (List.mem_of_getElem? hs')), rfl, ?_⟩
    (conv => whnf)
    refine ⟨by simp only [lenRE_none, dLen_len, hl, InB_eq, nInt_eq]; omega, ?_⟩
    (conv => whnf)
    refine ⟨flat_cI s, fun c' hc' => ?_⟩
    have hr := hf.room hc'
    refine ⟨by simp; omega, ?_⟩
    rw [dOver_all (by rw [hr]; rfl)]
    (conv => whnf)
    refine ⟨(k + 1, dSet es k (cIs s)), by dsimp only; omega, ⟨h1, hf.step hs' rfl⟩, ?_⟩
    ((conv => whnf); simp only [St.mk.injEq, List.cons.injEq, Prod.mk.injEq, AV.c.injEq, AV.agg.injEq, AV.tup.injEq, CV.d.injEq, D.int.injEq, D.bool.injEq, D.str.injEq, D.sl.injEq, Ent.arr.injEq, Ent.box.injEq, true_and, and_true, and_self, nInt_eq, Int.natCast_zero, dLen_eL, sLen_eq, wI h1 (by omega), nAdd_eq, nOf_eq, Int.toNat_natCast, offR, Nat.zero_add])
    rfl
  · obtain rfl : k = xs.length := by omega
    rw [hf.done]

theorem toModel_nest (x : Mdl) (ho : smModel x) : FnSpec PR f_laws_toModel [aM x] (.agg [.ref 0 0 none, .ref 1 0 none, .d (.int .i64 x.base), .ref 2 0 none]) [(0, .arr t_string 1 0 .own (eL cS x.names)), (1, .arr t_int 1 0 .own (eL cI x.signs)), (2, .arr t_impl_Tree 1 0 (.nest [t_impl_Node]) (eL cT x.trees))] 3 := by
  obtain ⟨o0, o1, o2⟩ := ho
  refine FnSpec.intro hTn p_laws_toModel rfl (by kernel_rfl) n_laws_toModel rfl ?_
  conv => whnf
  refine .inl ⟨_, _, _, toStringS_spec x.names o0, rfl, ?_⟩
  (conv => whnf)
  refine .inl ⟨_, _, _, toIntS_spec x.signs o1, rfl, ?_⟩
  (conv => whnf)
  refine .inl ⟨_, _, _, toTreeS_nest x.trees o2.1 o2.2, rfl, ?_⟩
  (conv => whnf)

theorem toGrid_nest (x : Grd) (ho : smGrid x) : FnSpec PR f_laws_toGrid [aG x] (.agg [.ref 0 0 none, .ref 1 0 none]) [(0, .arr t_Lint 1 0 (.nest [t_int]) (eL cIs x.cuts)), (1, .arr t_Lint 1 0 (.nest [t_int]) (eL cIs x.bins))] 2 := by
  obtain ⟨o0, o1⟩ := ho
  refine FnSpec.intro hTn p_laws_toGrid rfl (by kernel_rfl) n_laws_toGrid rfl ?_
  conv => whnf
  refine .inl ⟨_, _, _, toIntSS_nest x.cuts o0.1 o0.2, rfl, ?_⟩
  (conv => whnf)
  refine .inl ⟨_, _, _, toIntSS_nest x.bins o1.1 o1.2, rfl, ?_⟩
  (conv => whnf)

theorem markTreeS_lost (xs : List (List Nd)) (k : Int) (hk : 0 < k ∧ k + 5 * costL List.length xs ≤ 1000000000000) (hx : xs.length ≤ 1000000000) (hxs : ∀ t ∈ xs, t.length ≤ 1000000000) :
    FnSpecJ PR f_laws_markTreeS [.c (.ref 0 0 none), ai k] [(0, .arr t_impl_Tree 1 0 (.nest [t_impl_Node]) (eL cT xs))] 1 (ai (k + 5 * costL List.length xs)) := by
  refine FnSpecJ.intro hTn p_laws_markTreeS rfl (by kernel_rfl) n_laws_markTreeS rfl rfl rfl ?_
  (conv => whnf)
  refine tri_loop hTn [0, 1, 5] (α := Nat × List (List Nd)) (fun x => { t := [(0, .c (.ref 0 0 none)), (1, ai (k + 5 * costL List.length (xs.take x.1))), (5, ai x.1)], h := [(0, .arr t_impl_Tree 1 0 (.nest [t_impl_Node]) (eL cT x.2))], n := 1, N := 20 })
    (fun x => x.1 ≤ xs.length ∧ x.2.length = xs.length ∧ ∀ j, x.1 ≤ j → x.2[j]? = xs[j]?) (fun x => xs.length - x.1) (0, xs) (by ((conv => whnf); simp only [St.mk.injEq, List.cons.injEq, Prod.mk.injEq, AV.c.injEq, AV.agg.injEq, AV.tup.injEq, CV.d.injEq, D.int.injEq, D.bool.injEq, D.str.injEq, D.sl.injEq, Ent.arr.injEq, Ent.box.injEq, true_and, and_true, and_self, nInt_eq, Int.natCast_zero, dLen_eL, sLen_eq]); simp [costL]) ⟨Nat.zero_le _, rfl, fun j _ => rfl⟩ ?_
  intro ⟨i, ys⟩ ⟨hi, hl, hj⟩
  dsimp only at hi hl hj
  (conv => whnf)
  refine ifB_i (fun h1 => ?_) (fun h1 => ?_) <;> (conv => whnf) <;> simp at h1
  · obtain ⟨y, hy⟩ := get_lt h1
    have hyx : xs[i]? = some y := by rw [← hj i (Nat.le_refl _)]; exact hy
    have hyl := hxs y (List.mem_of_getElem? hyx)
    have hc := costL_take List.length xs i y hyx
    have hc2 := costL_take_le List.length xs (i + 1)
    refine ref_at (k := i) (by simp) (by simp; omega) ?_
    (conv => whnf)
    refine ld_at (k := i) (by simp) hy ?_
    (conv => whnf)
    refine ⟨i, 0, cT y, 5, eL cN y, t_impl_Node, by simp, by decide, by rw [eL_get, hy]; rfl, rfl, rfl, _, _, markNodeS_spec y _ (by dsimp only; omega) hyl, ?_⟩
    (conv => whnf)
    rw [show (eL cT ys).set i ((cT y).set 0 (.sl 5 (eL cN (marksN (k + 5 * costL List.length (xs.take i)) y.length)))) = eL cT (ys.set i (marksN (k + 5 * costL List.length (xs.take i)) y.length)) from eL_set2 cT ys i _]
    (conv => whnf)
    refine ⟨(i + 1, ys.set i (marksN (k + 5 * costL List.length (xs.take i)) y.length)), by dsimp only; omega, ⟨by dsimp only; omega, by simp [hl], fun j hlt => ?_⟩, ?_⟩
    · dsimp only at hlt ⊢
      rw [set_keep (by omega)]
      exact hj j (by omega)
    · ((conv => whnf); simp only [St.mk.injEq, List.cons.injEq, Prod.mk.injEq, AV.c.injEq, AV.agg.injEq, AV.tup.injEq, CV.d.injEq, D.int.injEq, D.bool.injEq, D.str.injEq, D.sl.injEq, Ent.arr.injEq, Ent.box.injEq, true_and, and_true, and_self, nInt_eq, Int.natCast_zero, dLen_eL, sLen_eq, wI h1 (by omega)])
      rw [hc]; omega
  · obtain rfl : i = xs.length := by omega
    rw [show xs.take xs.length = xs by simp]

theorem markModel_lost (x : Mdl) (hn : x.names.length ≤ 1048576) (hs : x.signs.length ≤ 1048576) (ht : x.trees.length ≤ 1048576) (hc : costL List.length x.trees ≤ 1048576) :
    FnSpecJ PR f_laws_markModel [.agg [.ref 0 0 none, .ref 1 0 none, .d (.int .i64 x.base), .ref 2 0 none], ai 1] [(0, .arr t_string 1 0 .own (eL cS x.names)), (1, .arr t_int 1 0 .own (eL cI x.signs)), (2, .arr t_impl_Tree 1 0 (.nest [t_impl_Node]) (eL cT x.trees))] 3 (ai (1 + x.names.length + x.signs.length + 5 * costL List.length x.trees)) := by
  refine FnSpecJ.intro hTn p_laws_markModel rfl (by kernel_rfl) n_laws_markModel rfl rfl rfl ?_
  (conv => whnf)
  refine .inr (.inr (.inl ⟨0, ?_⟩))
  (conv => whnf)
  refine .inl ⟨_, _, markStringS_spec x.names 1 (by omega) (by omega), ?_⟩
  (conv => whnf)
  refine .inr (.inr (.inl ⟨1, ?_⟩))
  (conv => whnf)
  refine .inl ⟨_, _, markIntS_spec x.signs (1 + x.names.length) (by omega) (by omega), ?_⟩
  (conv => whnf)
  refine .inr (.inr (.inr (.inl ⟨[(2, 0)], ?_⟩)))
  (conv => whnf)
  refine ⟨[.c (.ref 0 0 none), ai (1 + x.names.length + x.signs.length)], _, ⟨rfl, rfl, rfl⟩, markTreeS_lost x.trees _ (by omega) (by omega) (fun t h => by have := costL_mem List.length h; omega), ?_⟩
  (conv => whnf)

theorem markIntSS_lost (xs : List (List Int)) (k : Int) (hk : 0 < k ∧ k + costL List.length xs ≤ 1000000000000) (hx : xs.length ≤ 1000000000) (hxs : ∀ t ∈ xs, t.length ≤ 1000000000) :
    FnSpecJ PR f_laws_markIntSS [.c (.ref 0 0 none), ai k] [(0, .arr t_Lint 1 0 (.nest [t_int]) (eL cIs xs))] 1 (ai (k + costL List.length xs)) := by
  refine FnSpecJ.intro hTn p_laws_markIntSS rfl (by kernel_rfl) n_laws_markIntSS rfl rfl rfl ?_
  (conv => whnf)
  refine tri_loop hTn [0, 1, 5] (α := Nat × List (List Int)) (fun x => { t := [(0, .c (.ref 0 0 none)), (1, ai (k + costL List.length (xs.take x.1))), (5, ai x.1)], h := [(0, .arr t_Lint 1 0 (.nest [t_int]) (eL cIs x.2))], n := 1, N := 19 })
    (fun x => x.1 ≤ xs.length ∧ x.2.length = xs.length ∧ ∀ j, x.1 ≤ j → x.2[j]? = xs[j]?) (fun x => xs.length - x.1) (0, xs) (by ((conv => whnf); simp only [St.mk.injEq, List.cons.injEq, Prod.mk.injEq, AV.c.injEq, AV.agg.injEq, AV.tup.injEq, CV.d.injEq, D.int.injEq, D.bool.injEq, D.str.injEq, D.sl.injEq, Ent.arr.injEq, Ent.box.injEq, true_and, and_true, and_self, nInt_eq, Int.natCast_zero, dLen_eL, sLen_eq]); simp [costL]) ⟨Nat.zero_le _, rfl, fun j _ => rfl⟩ ?_
  intro ⟨i, ys⟩ ⟨hi, hl, hj⟩
  dsimp only at hi hl hj
  (conv => whnf)
  refine ifB_i (fun h1 => ?_) (fun h1 => ?_) <;> (conv => whnf) <;> simp at h1
  · obtain ⟨y, hy⟩ := get_lt h1
    have hyx : xs[i]? = some y := by rw [← hj i (Nat.le_refl _)]; exact hy
    have hyl := hxs y (List.mem_of_getElem? hyx)
    have hc := costL_take List.length xs i y hyx
    have hc2 := costL_take_le List.length xs (i + 1)
    refine ref_at (k := i) (by simp) (by simp; omega) ?_
    (conv => whnf)
    refine ld_at (k := i) (by simp) hy ?_
    (conv => whnf)
    refine ⟨i, 0, cIs y, 1, eL cI y, t_int, by simp, by decide, by rw [eL_get, hy]; rfl, rfl, rfl, _, _, markIntS_spec y _ (by dsimp only; omega) hyl, ?_⟩
    (conv => whnf)
    rw [show (eL cIs ys).set i ((cIs y).set 0 (.sl 1 (eL cI (marks (k + costL List.length (xs.take i)) y.length)))) = eL cIs (ys.set i (marks (k + costL List.length (xs.take i)) y.length)) from eL_set2 cIs ys i _]
    (conv => whnf)
    refine ⟨(i + 1, ys.set i (marks (k + costL List.length (xs.take i)) y.length)), by dsimp only; omega, ⟨by dsimp only; omega, by simp [hl], fun j hlt => ?_⟩, ?_⟩
    · dsimp only at hlt ⊢
      rw [set_keep (by omega)]
      exact hj j (by omega)
    · ((conv => whnf); simp only [St.mk.injEq, List.cons.injEq, Prod.mk.injEq, AV.c.injEq, AV.agg.injEq, AV.tup.injEq, CV.d.injEq, D.int.injEq, D.bool.injEq, D.str.injEq, D.sl.injEq, Ent.arr.injEq, Ent.box.injEq, true_and, and_true, and_self, nInt_eq, Int.natCast_zero, dLen_eL, sLen_eq, wI h1 (by omega)])
      rw [hc]; omega
  · obtain rfl : i = xs.length := by omega
    rw [show xs.take xs.length = xs by simp]

theorem markGrid_lost (x : Grd) (h1 : x.cuts.length ≤ 1048576) (h2 : x.bins.length ≤ 1048576) (hc : costL List.length x.cuts ≤ 1048576) (hb : costL List.length x.bins ≤ 1048576) :
    FnSpecJ PR f_laws_markGrid [.agg [.ref 0 0 none, .ref 1 0 none], ai 1] [(0, .arr t_Lint 1 0 (.nest [t_int]) (eL cIs x.cuts)), (1, .arr t_Lint 1 0 (.nest [t_int]) (eL cIs x.bins))] 2 (ai (1 + costL List.length x.cuts + costL List.length x.bins)) := by
  refine FnSpecJ.intro hTn p_laws_markGrid rfl (by kernel_rfl) n_laws_markGrid rfl rfl rfl ?_
  (conv => whnf)
  refine .inr (.inr (.inr (.inl ⟨[(0, 0)], ?_⟩)))
  (conv => whnf)
  refine ⟨[.c (.ref 0 0 none), ai 1], _, ⟨rfl, rfl, rfl⟩, markIntSS_lost x.cuts _ (by omega) (by omega) (fun t h => by have := costL_mem List.length h; omega), ?_⟩
  (conv => whnf)
  refine .inr (.inr (.inr (.inl ⟨[(1, 0)], ?_⟩)))
  (conv => whnf)
  refine ⟨[.c (.ref 0 0 none), ai (1 + costL List.length x.cuts)], _, ⟨rfl, rfl, rfl⟩, markIntSS_lost x.bins _ (by omega) (by omega) (fun t h => by have := costL_mem List.length h; omega), ?_⟩
  (conv => whnf)
end Go.H.S
namespace Go.H.S
open Go Go.Proofs Go.H
attribute [local irreducible] Tri FnSpec FnSpecM FnSpecX FnSpecJ
set_option maxRecDepth 100000
set_option linter.unusedSimpArgs false
set_option linter.unusedVariables false


theorem clone_ints_spec (xs : List Int) (hx : xs.length ≤ 1000000000) : FnSpec PR f_slices_Clone_Lint_int [aIs xs] (.c (.ref 0 0 none)) [(0, .arr t_int 1 0 .own (eL cI xs))] 1 := by
  refine FnSpec.intro hT p_slices_Clone_Lint_int rfl (by kernel_rfl) n_slices_Clone_Lint_int rfl ?_
  conv => whnf
  intro b hb
  cases b
  · (conv => whnf)
    refine And.intro (by simp [eL_length, dLen_len]; omega) ?_
    (conv => whnf)
    ((conv => whnf); simp only [St.mk.injEq, List.cons.injEq, Prod.mk.injEq, AV.c.injEq, AV.agg.injEq, AV.tup.injEq, CV.d.injEq, D.int.injEq, D.bool.injEq, D.str.injEq, D.sl.injEq, Ent.arr.injEq, Ent.box.injEq, true_and, and_true, and_self, nInt_eq, Int.natCast_zero, dLen_eL, sLen_eq, dApp_nil])
    done
  · have : xs = [] := by
      have := congrArg List.length (hb rfl)
      rw [eL_length] at this
      exact List.eq_nil_of_length_eq_zero this
    subst this
    (conv => whnf)
    ((conv => whnf); simp only [St.mk.injEq, List.cons.injEq, Prod.mk.injEq, AV.c.injEq, AV.agg.injEq, AV.tup.injEq, CV.d.injEq, D.int.injEq, D.bool.injEq, D.str.injEq, D.sl.injEq, Ent.arr.injEq, Ent.box.injEq, true_and, and_true, and_self, nInt_eq, Int.natCast_zero, dLen_eL, sLen_eq, eL_nil])
    done

theorem clone_strs_spec (xs : List ByteArray) (hx : xs.length ≤ 1000000000) : FnSpec PR f_slices_Clone_Lstring_string [aSs xs] (.c (.ref 0 0 none)) [(0, .arr t_string 1 0 .own (eL cS xs))] 1 := by
  refine FnSpec.intro hT p_slices_Clone_Lstring_string rfl (by kernel_rfl) n_slices_Clone_Lstring_string rfl ?_
  conv => whnf
  intro b hb
  cases b
  · (conv => whnf)
    refine And.intro (by simp [eL_length, dLen_len]; omega) ?_
    (conv => whnf)
    ((conv => whnf); simp only [St.mk.injEq, List.cons.injEq, Prod.mk.injEq, AV.c.injEq, AV.agg.injEq, AV.tup.injEq, CV.d.injEq, D.int.injEq, D.bool.injEq, D.str.injEq, D.sl.injEq, Ent.arr.injEq, Ent.box.injEq, true_and, and_true, and_self, nInt_eq, Int.natCast_zero, dLen_eL, sLen_eq, dApp_nil])
    done
  · have : xs = [] := by
      have := congrArg List.length (hb rfl)
      rw [eL_length] at this
      exact List.eq_nil_of_length_eq_zero this
    subst this
    (conv => whnf)
    ((conv => whnf); simp only [St.mk.injEq, List.cons.injEq, Prod.mk.injEq, AV.c.injEq, AV.agg.injEq, AV.tup.injEq, CV.d.injEq, D.int.injEq, D.bool.injEq, D.str.injEq, D.sl.injEq, Ent.arr.injEq, Ent.box.injEq, true_and, and_true, and_self, nInt_eq, Int.natCast_zero, dLen_eL, sLen_eq, eL_nil])
    done

theorem clone_nodes_spec (xs : List Nd) (hx : xs.length ≤ 1000000000) : FnSpec PR f_slices_Clone_Limpl_Node_impl_Node [aNs xs] (.c (.ref 0 0 none)) [(0, .arr t_impl_Node 5 0 .own (eL cN xs))] 1 := by
  refine FnSpec.intro hT p_slices_Clone_Limpl_Node_impl_Node rfl (by kernel_rfl) n_slices_Clone_Limpl_Node_impl_Node rfl ?_
  conv => whnf
  intro b hb
  cases b
  · (conv => whnf)
    refine And.intro (by simp [eL_length, dLen_len]; omega) ?_
    (conv => whnf)
    ((conv => whnf); simp only [St.mk.injEq, List.cons.injEq, Prod.mk.injEq, AV.c.injEq, AV.agg.injEq, AV.tup.injEq, CV.d.injEq, D.int.injEq, D.bool.injEq, D.str.injEq, D.sl.injEq, Ent.arr.injEq, Ent.box.injEq, true_and, and_true, and_self, nInt_eq, Int.natCast_zero, dLen_eL, sLen_eq, dApp_nil])
    done
  · have : xs = [] := by
      have := congrArg List.length (hb rfl)
      rw [eL_length] at this
      exact List.eq_nil_of_length_eq_zero this
    subst this
    (conv => whnf)
    ((conv => whnf); simp only [St.mk.injEq, List.cons.injEq, Prod.mk.injEq, AV.c.injEq, AV.agg.injEq, AV.tup.injEq, CV.d.injEq, D.int.injEq, D.bool.injEq, D.str.injEq, D.sl.injEq, Ent.arr.injEq, Ent.box.injEq, true_and, and_true, and_self, nInt_eq, Int.natCast_zero, dLen_eL, sLen_eq, eL_nil])
    done

theorem impl_copyTree_spec (t : List Nd) (hl : t.length ≤ 1000000000) : FnSpec PR f_impl_copyTree [aT t] (.agg [.ref 0 0 none]) [(0, .arr t_impl_Node 5 0 .own (eL cN t))] 1 := by
  refine FnSpec.intro hT p_impl_copyTree rfl (by kernel_rfl) n_impl_copyTree rfl ?_
  conv => whnf
  refine .inl ⟨_, _, _, clone_nodes_spec t hl, rfl, ?_⟩
  (conv => whnf)

theorem spec_l17Copy_spec (t : List Nd) (hl : t.length ≤ 1000000000) : FnSpec PR f_spec_l17Copy [aT t] (.agg [.ref 0 0 none]) [(0, .arr t_impl_Node 5 0 .own (eL cN t))] 1 := by
  refine FnSpec.intro hT p_spec_l17Copy rfl (by kernel_rfl) n_spec_l17Copy rfl ?_
  conv => whnf
  refine And.intro (by simp [eL_length, dLen_len]; omega) ?_
  (conv => whnf)
  ((conv => whnf); simp only [St.mk.injEq, List.cons.injEq, Prod.mk.injEq, AV.c.injEq, AV.agg.injEq, AV.tup.injEq, CV.d.injEq, D.int.injEq, D.bool.injEq, D.str.injEq, D.sl.injEq, Ent.arr.injEq, Ent.box.injEq, true_and, and_true, and_self, nInt_eq, Int.natCast_zero, dLen_eL, sLen_eq, dApp_nil])
  done

theorem impl_copyTrees_spec (ts : List (List Nd)) (hl : ts.length ≤ 1000000000) (ht : ∀ t ∈ ts, t.length ≤ 1000000000) : FnSpec PR f_impl_copyTrees [aTs ts] (.c (.ref 0 0 none)) [(0, .arr t_impl_Tree 1 0 (.nest [t_impl_Node]) (eL cT ts))] 1 := by
  refine FnSpec.intro hTn p_impl_copyTrees rfl (by kernel_rfl) n_impl_copyTrees rfl ?_
  conv => whnf
  refine tri_loop hTn [3, 7, 8, 9] (α := Nat × List (List Nd)) (fun x => { t := [(3, .c (.ref 0 0 none)), (7, aTs ts), (8, ai ts.length), (9, ai x.1)], h := [(0, .arr t_impl_Tree 1 0 (.nest [t_impl_Node]) (eL cT x.2))], n := 1, N := 20 })
    (fun x => x.1 ≤ ts.length ∧ x.2 = ts.take x.1) (fun x => ts.length - x.1) (0, []) (by ((conv => whnf); simp only [St.mk.injEq, List.cons.injEq, Prod.mk.injEq, AV.c.injEq, AV.agg.injEq, AV.tup.injEq, CV.d.injEq, D.int.injEq, D.bool.injEq, D.str.injEq, D.sl.injEq, Ent.arr.injEq, Ent.box.injEq, true_and, and_true, and_self, nInt_eq, Int.natCast_zero, dLen_eL, sLen_eq, eL_nil])) ⟨Nat.zero_le _, by simp⟩ ?_
  intro ⟨k, o⟩ ⟨hk, ho⟩
  dsimp only at hk ho
  (conv => whnf)
  refine ifB_i (fun h1 => ?_) (fun h1 => ?_) <;> (conv => whnf) <;> simp at h1
  · obtain ⟨t, hx⟩ := get_lt h1
    have hol : o.length = k := by rw [ho]; simp; omega
    refine idx_at (by simp) hx ?_
    (conv => whnf)
    refine .inl ⟨_, _, _, impl_copyTree_spec t (ht t (List.mem_of_getElem? hx)), rfl, ?_⟩
    (conv => whnf)
    refine ⟨flat_cN t, ?_⟩
    (conv => whnf)
    refine And.intro (by simp [eL_length, dLen_len]; omega) ?_
    (conv => whnf)
    refine ⟨(k + 1, o ++ [t]), by dsimp only; omega, ⟨h1, by dsimp only; rw [ho, List.take_add_one, hx]; rfl⟩, ?_⟩
    ((conv => whnf); simp only [St.mk.injEq, List.cons.injEq, Prod.mk.injEq, AV.c.injEq, AV.agg.injEq, AV.tup.injEq, CV.d.injEq, D.int.injEq, D.bool.injEq, D.str.injEq, D.sl.injEq, Ent.arr.injEq, Ent.box.injEq, true_and, and_true, and_self, nInt_eq, Int.natCast_zero, dLen_eL, sLen_eq, wI h1 (by omega)])
    rw [← eL_app]
    rfl
  · obtain rfl : k = ts.length := by omega
    rw [ho, List.take_length]

theorem spec_l22Trees_spec (ts : List (List Nd)) (hl : ts.length ≤ 1000000000) (ht : ∀ t ∈ ts, t.length ≤ 1000000000) : FnSpec PR f_spec_l22Trees [aTs ts] (.c (.ref 0 0 none)) [(0, .arr t_impl_Tree 1 0 (.nest [t_impl_Node]) (eL cT ts))] 1 := by
  refine FnSpec.intro hTn p_spec_l22Trees rfl (by kernel_rfl) n_spec_l22Trees rfl ?_
  conv => whnf
  refine tri_loop hTn [0, 3, 4] (α := Nat × List (List Nd)) (fun x => { t := [(0, aTs ts), (3, .c (.ref 0 0 none)), (4, ai x.1)], h := [(0, .arr t_impl_Tree 1 0 (.nest [t_impl_Node]) (eL cT x.2))], n := 1, N := 21 })
    (fun x => x.1 ≤ ts.length ∧ x.2 = ts.take x.1) (fun x => ts.length - x.1) (0, []) (by ((conv => whnf); simp only [St.mk.injEq, List.cons.injEq, Prod.mk.injEq, AV.c.injEq, AV.agg.injEq, AV.tup.injEq, CV.d.injEq, D.int.injEq, D.bool.injEq, D.str.injEq, D.sl.injEq, Ent.arr.injEq, Ent.box.injEq, true_and, and_true, and_self, nInt_eq, Int.natCast_zero, dLen_eL, sLen_eq, eL_nil])) ⟨Nat.zero_le _, by simp⟩ ?_
  intro ⟨k, o⟩ ⟨hk, ho⟩
  dsimp only at hk ho
  (conv => whnf)
  refine ifB_i (fun h1 => ?_) (fun h1 => ?_) <;> (conv => whnf) <;> simp at h1
  · obtain ⟨t, hx⟩ := get_lt h1
    have hol : o.length = k := by rw [ho]; simp; omega
    refine idx_at (by simp) hx ?_
    (conv => whnf)
    refine .inl ⟨_, _, _, spec_l17Copy_spec t (ht t (List.mem_of_getElem? hx)), rfl, ?_⟩
    (conv => whnf)
    refine ⟨flat_cN t, ?_⟩
    (conv => whnf)
    refine And.intro (by simp [eL_length, dLen_len]; omega) ?_
    (conv => whnf)
    refine ⟨(k + 1, o ++ [t]), by dsimp only; omega, ⟨h1, by dsimp only; rw [ho, List.take_add_one, hx]; rfl⟩, ?_⟩
    ((conv => whnf); simp only [St.mk.injEq, List.cons.injEq, Prod.mk.injEq, AV.c.injEq, AV.agg.injEq, AV.tup.injEq, CV.d.injEq, D.int.injEq, D.bool.injEq, D.str.injEq, D.sl.injEq, Ent.arr.injEq, Ent.box.injEq, true_and, and_true, and_self, nInt_eq, Int.natCast_zero, dLen_eL, sLen_eq, wI h1 (by omega)])
    rw [← eL_app]
    rfl
  · obtain rfl : k = ts.length := by omega
    rw [ho, List.take_length]

def mdlH (m : Mdl) : List (Nat × Ent) := [(0, .arr t_string 1 0 .own (eL cS m.names)), (1, .arr t_int 1 0 .own (eL cI m.signs)), (2, .arr t_impl_Tree 1 0 (.nest [t_impl_Node]) (eL cT m.trees))]
abbrev mdlA (m : Mdl) : AV := .agg [.ref 0 0 none, .ref 1 0 none, .d (.int .i64 m.base), .ref 2 0 none]
structure smM (m : Mdl) : Prop where
  names : m.names.length ≤ 1000000000
  signs : m.signs.length ≤ 1000000000
  trees : m.trees.length ≤ 1000000000
  nodes : ∀ t ∈ m.trees, t.length ≤ 1000000000

theorem impl_copyModel_spec (m : Mdl) (hs : smM m) : FnSpec PR f_impl_copyModel [aM m] (mdlA m) [(0, .arr t_string 1 0 .own (eL cS m.names)), (1, .arr t_int 1 0 .own (eL cI m.signs)), (2, .arr t_impl_Tree 1 0 (.nest [t_impl_Node]) (eL cT m.trees))] 3 := by
  refine FnSpec.intro hTn p_impl_copyModel rfl (by kernel_rfl) n_impl_copyModel rfl ?_
  conv => whnf
  refine tri_rp 0 ?_
  (conv => whnf)
  refine tri_every hTn hmix [2] { t := [(2, .c (.ptr 0 0))], h := [(0, .box t_impl_Model [.ref 1 0 none, .ref 2 0 none, .d (.int .i64 m.base), .ref 3 0 none]), (1, .arr t_string 1 0 .own (eL cS m.names)), (2, .arr t_int 1 0 .own (eL cI m.signs)), (3, .arr t_impl_Tree 1 0 (.nest [t_impl_Node]) (eL cT m.trees))], n := 4, N := 15 } rfl ?_ ?_
  · repeat' first
      | (refine anyV_one rfl ?_; (conv => whnf))
      | (refine anyV_two rfl ?_ ?_ <;> (conv => whnf))
      | (refine anyV_three rfl ?_ ?_ ?_ <;> (conv => whnf))
      | (refine anyV_four rfl ?_ ?_ ?_ ?_ <;> (conv => whnf))
      | (refine .inl ⟨_, _, _, clone_strs_spec m.names hs.names, rfl, ?_⟩; (conv => whnf))
      | (refine .inl ⟨_, _, _, clone_ints_spec m.signs hs.signs, rfl, ?_⟩; (conv => whnf))
      | (refine .inl ⟨_, _, _, impl_copyTrees_spec m.trees hs.trees hs.nodes, rfl, ?_⟩; (conv => whnf))
      | (refine anyV_end rfl ?_; (conv => whnf); done)
  (conv => whnf)

theorem spec_l24Copy_spec (m : Mdl) (hs : smM m) : FnSpec PR f_spec_l24Copy [aM m] (mdlA m) [(0, .arr t_string 1 0 .own (eL cS m.names)), (1, .arr t_int 1 0 .own (eL cI m.signs)), (2, .arr t_impl_Tree 1 0 (.nest [t_impl_Node]) (eL cT m.trees))] 3 := by
  have h1 : Fits (dLen []) (dLen (eL cS m.names)) := by have := hs.names; simp [Fits, dLen_len, eL_length]; omega
  have h2 : Fits (dLen []) (dLen (eL cI m.signs)) := by have := hs.signs; simp [Fits, dLen_len, eL_length]; omega
  refine FnSpec.intro hTn p_spec_l24Copy rfl (by kernel_rfl) n_spec_l24Copy rfl ?_
  conv => whnf
  refine tri_rp 0 ?_
  (conv => whnf)
  refine tri_every hTn hmix [2] { t := [(2, .c (.ptr 0 0))], h := [(0, .box t_impl_Model [.ref 1 0 none, .ref 2 0 none, .d (.int .i64 m.base), .ref 3 0 none]), (1, .arr t_string 1 0 .own (dApp [] (eL cS m.names))), (2, .arr t_int 1 0 .own (dApp [] (eL cI m.signs))), (3, .arr t_impl_Tree 1 0 (.nest [t_impl_Node]) (eL cT m.trees))], n := 4, N := 17 } rfl ?_ ?_
  · repeat' first
      | (refine anyV_one rfl ?_; (conv => whnf))
      | (refine anyV_two rfl ?_ ?_ <;> (conv => whnf))
      | (refine anyV_three rfl ?_ ?_ ?_ <;> (conv => whnf))
      | (refine anyV_four rfl ?_ ?_ ?_ ?_ <;> (conv => whnf))
      | (refine .inl ⟨_, _, _, spec_l22Trees_spec m.trees hs.trees hs.nodes, rfl, ?_⟩; (conv => whnf))
      | (refine And.intro h1 ?_; (conv => whnf))
      | (refine And.intro h2 ?_; (conv => whnf))
      | (refine anyV_end rfl ?_; (conv => whnf); done)
  (conv => whnf)
  ((conv => whnf); simp only [St.mk.injEq, List.cons.injEq, Prod.mk.injEq, AV.c.injEq, AV.agg.injEq, AV.tup.injEq, CV.d.injEq, D.int.injEq, D.bool.injEq, D.str.injEq, D.sl.injEq, Ent.arr.injEq, Ent.box.injEq, true_and, and_true, and_self, nInt_eq, Int.natCast_zero, dLen_eL, sLen_eq, dApp_nil])
  done

theorem impl_Brought_spec (x lo hi : Int) : FnSpec PR f_impl_Brought [ai x, ai lo, ai hi] (ai (brought x lo hi)) [] 0 := by
  refine FnSpec.intro hT p_impl_Brought rfl (by kernel_rfl) n_impl_Brought rfl ?_
  conv => whnf
  refine ifB_i (fun h => ?_) (fun h => ?_) <;> (conv => whnf) <;> simp only [nInt_eq, Int.natCast_zero, dLen_eL, sLen_eq, nOf_eq, Int.toNat_natCast, nAdd_eq, nSub_eq, dLen_nil, dLen_cons, iLt_t, iLt_f, iLe_t, iLe_f, iEq_t, iEq_f, sEq_t, sEq_f, bNot_t, bNot_f, bAnd_t, bEq_t, bEq_f, Bool.not_eq_true, Bool.not_eq_false, Bool.true_eq_false, Bool.false_eq_true] at h
  · ((conv => whnf); simp only [St.mk.injEq, List.cons.injEq, Prod.mk.injEq, AV.c.injEq, AV.agg.injEq, AV.tup.injEq, CV.d.injEq, D.int.injEq, D.bool.injEq, D.str.injEq, D.sl.injEq, Ent.arr.injEq, Ent.box.injEq, true_and, and_true, and_self, nInt_eq, Int.natCast_zero, dLen_eL, sLen_eq])
    simp only [brought]
    rw [if_pos (by omega)]
  · refine ifB_i (fun h2 => ?_) (fun h2 => ?_) <;> (conv => whnf) <;> simp only [nInt_eq, Int.natCast_zero, dLen_eL, sLen_eq, nOf_eq, Int.toNat_natCast, nAdd_eq, nSub_eq, dLen_nil, dLen_cons, iLt_t, iLt_f, iLe_t, iLe_f, iEq_t, iEq_f, sEq_t, sEq_f, bNot_t, bNot_f, bAnd_t, bEq_t, bEq_f, Bool.not_eq_true, Bool.not_eq_false, Bool.true_eq_false, Bool.false_eq_true] at h2 <;> ((conv => whnf); simp only [St.mk.injEq, List.cons.injEq, Prod.mk.injEq, AV.c.injEq, AV.agg.injEq, AV.tup.injEq, CV.d.injEq, D.int.injEq, D.bool.injEq, D.str.injEq, D.sl.injEq, Ent.arr.injEq, Ent.box.injEq, true_and, and_true, and_self, nInt_eq, Int.natCast_zero, dLen_eL, sLen_eq]) <;> simp only [brought]
    · rw [if_neg (by omega), if_pos (by omega)]
    · rw [if_neg (by omega), if_neg (by omega)]

def firstK (m : Mdl) (k : Int) : Nat := (brought k 0 m.trees.length).toNat
theorem firstK_le (m : Mdl) (k : Int) : firstK m k ≤ m.trees.length ∧ brought k 0 m.trees.length = firstK m k := by
  unfold firstK brought
  split <;> (try split) <;> omega
def firstM (m : Mdl) (k : Int) : Mdl := { m with trees := m.trees.take (firstK m k) }
abbrev firstA (m : Mdl) (k : Int) : AV := .agg [.ref 0 0 none, .ref 1 0 none, .d (.int .i64 m.base), .ref 2 0 (some (true, 0, firstK m k))]

theorem impl_FirstTrees_spec (m : Mdl) (k : Int) (hs : smM m) : FnSpec PR f_impl_FirstTrees [aM m, ai k] (firstA m k) [(0, .arr t_string 1 0 .own (eL cS m.names)), (1, .arr t_int 1 0 .own (eL cI m.signs)), (2, .arr t_impl_Tree 1 0 (.nest [t_impl_Node]) (eL cT m.trees))] 3 := by
  have hk := firstK_le m k
  have eT : nInt (dLen (eL cT m.trees)) = (m.trees.length : Int) := by simp
  have hS : InS 0 (brought k 0 m.trees.length) (lenRE (eL cT m.trees) none) := by simp [InS]; omega
  refine FnSpec.intro hTn p_impl_FirstTrees rfl (by kernel_rfl) n_impl_FirstTrees rfl ?_
  conv => whnf
  refine .inl ⟨_, _, _, impl_copyModel_spec m hs, rfl, ?_⟩
  (conv => whnf)
  refine tri_every hTn hmix [4, 5] { t := [(4, .c (.ptr 0 0)), (5, .c (.ptr 1 0))], h := [(0, .box t_impl_Model [.nl 1, .nl 1, .d (.int .i64 0), .nl 1]), (1, .box t_impl_Model [.ref 2 0 none, .ref 3 0 none, .d (.int .i64 m.base), .ref 4 0 (some (true, nAdd (offR none) (nOf 0), nSub (nOf (brought k 0 m.trees.length)) (nOf 0)))]), (2, .arr t_string 1 0 .own (eL cS m.names)), (3, .arr t_int 1 0 .own (eL cI m.signs)), (4, .arr t_impl_Tree 1 0 (.nest [t_impl_Node]) (eL cT m.trees))], n := 5, N := 18 } rfl ?_ ?_
  · repeat' first
      | (refine anyV_one rfl ?_; (conv => whnf))
      | (refine anyV_two rfl ?_ ?_ <;> (conv => whnf))
      | (refine anyV_three rfl ?_ ?_ ?_ <;> (conv => whnf))
      | (refine anyV_four rfl ?_ ?_ ?_ ?_ <;> (conv => whnf))
      | (rw [eT]; refine .inl ⟨_, _, _, impl_Brought_spec k 0 m.trees.length, rfl, ?_⟩; (conv => whnf))
      | (refine And.intro hS ?_; (conv => whnf))
      | (refine anyV_end rfl ?_; (conv => whnf); done)
  (conv => whnf)
  rw [hk.2]
  ((conv => whnf); simp only [St.mk.injEq, List.cons.injEq, Prod.mk.injEq, AV.c.injEq, AV.agg.injEq, AV.tup.injEq, CV.d.injEq, D.int.injEq, D.bool.injEq, D.str.injEq, D.sl.injEq, Ent.arr.injEq, Ent.box.injEq, true_and, and_true, and_self, nInt_eq, Int.natCast_zero, dLen_eL, sLen_eq, nAdd_eq, nSub_eq, nOf_eq, Int.toNat_natCast, Nat.sub_zero, offR, Int.toNat_zero, Nat.add_zero])

theorem spec_FirstTrees_spec (m : Mdl) (k : Int) (hs : smM m) : FnSpec PR f_spec_FirstTrees [aM m, ai k] (firstA m k) [(0, .arr t_string 1 0 .own (eL cS m.names)), (1, .arr t_int 1 0 .own (eL cI m.signs)), (2, .arr t_impl_Tree 1 0 (.nest [t_impl_Node]) (eL cT m.trees))] 3 := by
  have hk := firstK_le m k
  have eT : nInt (lenRE (eL cT m.trees) none) = (m.trees.length : Int) := by simp
  have hS : InS 0 (brought k 0 m.trees.length) (lenRE (eL cT m.trees) none) := by simp [InS]; omega
  refine FnSpec.intro hTn p_spec_FirstTrees rfl (by kernel_rfl) n_spec_FirstTrees rfl ?_
  conv => whnf
  refine .inl ⟨_, _, _, spec_l24Copy_spec m hs, rfl, ?_⟩
  (conv => whnf)
  refine tri_every hTn hmix [4, 5] { t := [(4, .c (.ptr 0 0)), (5, .c (.ptr 1 0))], h := [(0, .box t_impl_Model [.nl 1, .nl 1, .d (.int .i64 0), .nl 1]), (1, .box t_impl_Model [.ref 2 0 none, .ref 3 0 none, .d (.int .i64 m.base), .ref 4 0 (some (true, nAdd (offR none) (nOf 0), nSub (nOf (brought k 0 m.trees.length)) (nOf 0)))]), (2, .arr t_string 1 0 .own (eL cS m.names)), (3, .arr t_int 1 0 .own (eL cI m.signs)), (4, .arr t_impl_Tree 1 0 (.nest [t_impl_Node]) (eL cT m.trees))], n := 5, N := 18 } rfl ?_ ?_
  · repeat' first
      | (refine anyV_one rfl ?_; (conv => whnf))
      | (refine anyV_two rfl ?_ ?_ <;> (conv => whnf))
      | (refine anyV_three rfl ?_ ?_ ?_ <;> (conv => whnf))
      | (refine anyV_four rfl ?_ ?_ ?_ ?_ <;> (conv => whnf))
      | (rw [eT]; refine .inl ⟨_, _, _, spec_Brought_spec k 0 m.trees.length, rfl, ?_⟩; (conv => whnf))
      | (refine And.intro hS ?_; (conv => whnf))
      | (refine anyV_end rfl ?_; (conv => whnf); done)
  (conv => whnf)
  rw [hk.2]
  ((conv => whnf); simp only [St.mk.injEq, List.cons.injEq, Prod.mk.injEq, AV.c.injEq, AV.agg.injEq, AV.tup.injEq, CV.d.injEq, D.int.injEq, D.bool.injEq, D.str.injEq, D.sl.injEq, Ent.arr.injEq, Ent.box.injEq, true_and, and_true, and_self, nInt_eq, Int.natCast_zero, dLen_eL, sLen_eq, nAdd_eq, nSub_eq, nOf_eq, Int.toNat_natCast, Nat.sub_zero, offR, Int.toNat_zero, Nat.add_zero])
end Go.H.S
namespace Go.H.S
open Go Go.Proofs Go.H
attribute [local irreducible] Tri FnSpec FnSpecM FnSpecX FnSpecJ FnSpecB
set_option maxRecDepth 100000
set_option linter.unusedSimpArgs false
set_option linter.unusedVariables false


theorem spec_l1Once_spec (code : List Int) (i h n : Int) (hi : inCur code (i, h)) (hl : code.length ≤ 1048576) : FnSpecB PR f_spec_l1Once [.c (.ptr 0 0), ai n] t_spec_l1Cur (cur code i h) (Bool × Int × Int)
    (fun x => inCur code x.2) (fun x => ab x.1) (fun x => cur code x.2.1 x.2.2) (fun _ => []) (fun _ => 1) := by
  refine FnSpecB.intro hT 0 p_spec_l1Once rfl (by kernel_rfl) n_spec_l1Once rfl rfl ?_
  intro v0
  (conv => whnf)
  refine .inr (.inr (.inr (.inr (.inl ⟨0, ?_⟩))))
  (conv => whnf)
  refine ⟨_, _, _, _, _, _, spec_l1Below_spec code i h n hi hl, fun ⟨x, i1, h1⟩ ⟨hx, hi1⟩ => ⟨rfl, ?_⟩⟩
  dsimp only at hx hi1
  (conv => whnf)
  refine ⟨(iEq x 0, i1, h1), hi1, ?_⟩
  (conv => whnf)

theorem spec_l1Whole_spec (code : List Int) (i h : Int) (hi : inCur code (i, h)) (hl : code.length ≤ 1048576) : FnSpecB PR f_spec_l1Whole [.c (.ptr 0 0)] t_spec_l1Cur (cur code i h) (Int × Int × Int)
    (fun x => inCur code x.2) (fun x => ai x.1) (fun x => cur code x.2.1 x.2.2) (fun _ => []) (fun _ => 1) := by
  refine FnSpecB.intro hT 0 p_spec_l1Whole rfl (by kernel_rfl) n_spec_l1Whole rfl rfl ?_
  intro v0
  (conv => whnf)
  refine .inr (.inr (.inr (.inr (.inl ⟨0, ?_⟩))))
  (conv => whnf)
  refine ⟨_, _, _, _, _, _, spec_l1Below_spec code i h _ hi hl, fun ⟨x, i1, h1⟩ ⟨hx, hi1⟩ => ⟨rfl, ?_⟩⟩
  dsimp only at hx hi1
  (conv => whnf)
  refine ifB_i (fun g0 => ?_) (fun g0 => ?_) <;> (conv => whnf)
  · refine .inr (.inr (.inr (.inr (.inl ⟨0, ?_⟩))))
    (conv => whnf)
    refine ⟨_, _, _, _, _, _, spec_l1PickInt_of code _ _ _ [0, 1, -1, 9, 10, 999, 1000, 2147483647, -2147483648, 3037000499, 3037000500, 9223372036854775807, -9223372036854775807, -9223372036854775808] (by simp [eL, cI]) hi1 hl (by simp) (by simp), fun ⟨y, j, g⟩ ⟨hy, hj⟩ => ⟨rfl, ?_⟩⟩
    dsimp only at hy hj
    (conv => whnf)
    refine ⟨(y, j, g), hj, ?_⟩
    (conv => whnf)
  refine ifB_i (fun g1 => ?_) (fun g1 => ?_) <;> (conv => whnf)
  · refine tri_loop hT [0, 3, 4] (α := Nat × Int × Int × Int) (fun x => { t := [(0, .w (.ptr 0 0) v0), (3, ai x.2.1), (4, ai x.1)], h := [(0, .box t_spec_l1Cur (cur code x.2.2.1 x.2.2.2))], n := 1, N := 32 })
      (fun x => x.1 ≤ 8 ∧ inCur code x.2.2) (fun x => 8 - x.1) (0, 0, i1, h1) (by first | ((conv => whnf); done) | ((conv => whnf); rfl)) ⟨by omega, hi1⟩ ?_
    intro ⟨k, y, i2, h2⟩ ⟨hk, hi2⟩
    dsimp only at hk hi2
    (conv => whnf)
    refine ifB_i (fun g2 => ?_) (fun g2 => ?_) <;> (conv => whnf) <;> simp only [nInt_eq, Int.natCast_zero, dLen_eL, sLen_eq, nOf_eq, Int.toNat_natCast, nAdd_eq, nSub_eq, dLen_nil, dLen_cons, iLt_t, iLt_f, iLe_t, iLe_f, iEq_t, iEq_f, sEq_t, sEq_f, bNot_t, bNot_f, bAnd_t, bEq_t, bEq_f, Bool.not_eq_true, Bool.not_eq_false, Bool.true_eq_false, Bool.false_eq_true] at g2
    · refine .inr (.inr (.inr (.inr (.inl ⟨0, ?_⟩))))
      (conv => whnf)
      refine ⟨_, _, _, _, _, _, spec_l1Byte_spec code i2 h2 hi2 hl, fun ⟨z, i3, h3⟩ ⟨hz, hi3⟩ => ⟨rfl, ?_⟩⟩
      dsimp only at hz hi3
      (conv => whnf)
      refine ⟨(k + 1, wAdd .i64 (wMul .i64 y 256) z, i3, h3), by dsimp only; omega, ⟨by dsimp only; omega, hi3⟩, ?_⟩
      ((conv => whnf); simp only [St.mk.injEq, List.cons.injEq, Prod.mk.injEq, AV.c.injEq, AV.agg.injEq, AV.tup.injEq, CV.d.injEq, D.int.injEq, D.bool.injEq, D.str.injEq, D.sl.injEq, Ent.arr.injEq, Ent.box.injEq, true_and, and_true, and_self, nInt_eq, Int.natCast_zero, dLen_eL, sLen_eq, wI (show k < 8 by omega) (by omega)])
    · refine ⟨(y, i2, h2), hi2, ?_⟩
      (conv => whnf)
  refine ifB_i (fun g2 => ?_) (fun g2 => ?_) <;> (conv => whnf)
  · refine .inr (.inr (.inr (.inr (.inl ⟨0, ?_⟩))))
    (conv => whnf)
    refine ⟨_, _, _, _, _, _, spec_l1Below_spec code i1 h1 _ hi1 hl, fun ⟨y, i2, h2⟩ ⟨hy, hi2⟩ => ⟨rfl, ?_⟩⟩
    dsimp only at hy hi2
    (conv => whnf)
    refine ⟨(wSub .i64 y 500000, i2, h2), hi2, ?_⟩
    (conv => whnf)
  · refine .inr (.inr (.inr (.inr (.inl ⟨0, ?_⟩))))
    (conv => whnf)
    refine ⟨_, _, _, _, _, _, spec_l1Below_spec code i1 h1 _ hi1 hl, fun ⟨y, i2, h2⟩ ⟨hy, hi2⟩ => ⟨rfl, ?_⟩⟩
    dsimp only at hy hi2
    (conv => whnf)
    refine ⟨(wSub .i64 y 20, i2, h2), hi2, ?_⟩
    (conv => whnf)

theorem spec_l1Pick_spec (code : List Int) (i h : Int) (l : List ByteArray) (hi : 0 ≤ i ∧ i ≤ code.length) (hl : code.length ≤ 1048576) (hne : 0 < l.length) (hll : l.length ≤ 1048576) : FnSpecB PR f_spec_l1Pick [.c (.ptr 0 0), aSs l] t_spec_l1Cur (cur code i h) (ByteArray × Int × Int)
    (fun x => x.1 ∈ l ∧ inCur code x.2) (fun x => aS x.1) (fun x => cur code x.2.1 x.2.2) (fun _ => []) (fun _ => 1) := by
  refine FnSpecB.intro hT 0 p_spec_l1Pick rfl (by kernel_rfl) n_spec_l1Pick rfl rfl ?_
  intro v0
  (conv => whnf)
  refine .inr (.inr (.inr (.inr (.inl ⟨0, ?_⟩))))
  (conv => whnf)
  rw [show nInt (dLen (eL cS l)) = (l.length : Int) by simp]
  refine ⟨_, _, _, _, _, _, spec_l1Below_spec code i h l.length hi hl, fun ⟨x, i1, h1'⟩ ⟨hx, hi1⟩ => ⟨rfl, ?_⟩⟩
  dsimp only at hx hi1
  (conv => whnf)
  obtain ⟨k, rfl⟩ : ∃ k : Nat, x = k := ⟨x.toNat, by omega⟩
  obtain ⟨y, hy⟩ := get_lt (show k < l.length by have := hx.2.1 (by omega); omega)
  refine idx_at (by simp) hy ?_
  (conv => whnf)
  refine ⟨(y, i1, h1'), ⟨List.mem_of_getElem? hy, hi1⟩, ?_⟩
  (conv => whnf)
theorem spec_l1Pick_of (code : List Int) (i h : Int) (es : List (List D)) (l : List ByteArray) (he : es = eL cS l) (hi : 0 ≤ i ∧ i ≤ code.length) (hl : code.length ≤ 1048576) (hne : 0 < l.length) (hll : l.length ≤ 1048576) : FnSpecB PR f_spec_l1Pick [.c (.ptr 0 0), .c (.d (.sl 1 es))] t_spec_l1Cur (cur code i h) (ByteArray × Int × Int)
    (fun x => x.1 ∈ l ∧ inCur code x.2) (fun x => aS x.1) (fun x => cur code x.2.1 x.2.2) (fun _ => []) (fun _ => 1) := he ▸ spec_l1Pick_spec code i h l hi hl hne hll

structure drawn (m : Mdl) : Prop where
  names : m.names.length ≤ 5
  one : 1 ≤ m.names.length
  texts : ∀ s ∈ m.names, s.size ≤ 100
  signs : m.signs.length ≤ 5
  trees : m.trees.length ≤ 12
  nodes : ∀ t ∈ m.trees, t.length ≤ 32
def abc : List ByteArray := [⟨#[97]⟩, ⟨#[98]⟩, ⟨#[99, 50]⟩]
theorem spec_l24Right_spec (code : List Int) (i h : Int) (hi : inCur code (i, h)) (hl : code.length ≤ 1048576) : FnSpecB PR f_spec_l24Right [.c (.ptr 0 0)] t_spec_l1Cur (cur code i h) (Mdl × Int × Int)
    (fun x => drawn x.1 ∧ x.1.names.length ≤ 3 ∧ x.1.signs.length ≤ 3 ∧ x.1.trees.length ≤ 3 ∧ inCur code x.2) (fun x => .agg [.ref 1 0 none, .ref 2 0 none, .d (.int .i64 x.1.base), .ref 3 0 none]) (fun x => cur code x.2.1 x.2.2)
    (fun x => [(1, .arr t_string 1 0 .own (eL cS x.1.names)), (2, .arr t_int 1 0 .own (eL cI x.1.signs)), (3, .arr t_impl_Tree 1 0 .own (eL cT x.1.trees))]) (fun _ => 4) := by
  refine FnSpecB.intro hT 0 p_spec_l24Right rfl (by kernel_rfl) n_spec_l24Right rfl rfl ?_
  intro v0
  (conv => whnf)
  refine .inr (.inr (.inr (.inr (.inl ⟨0, ?_⟩))))
  (conv => whnf)
  refine ⟨_, _, _, _, _, _, spec_l1Below_spec code i h 3 hi hl, fun ⟨x, i1, h1⟩ ⟨hx, hi1⟩ => ⟨rfl, ?_⟩⟩
  dsimp only at hx hi1
  have hx2 := hx.2.1 (by decide)
  (conv => whnf)
  rw [show wAdd .i64 1 x = 1 + x from wAdd64 (by omega) (by omega)]
  have hp : partOf [[D.str { data := #[97] }], [D.str { data := #[98] }], [D.str { data := #[99, 50] }]] (some (true, nAdd (offR none) (nOf 0), nSub (nOf (1 + x)) (nOf 0))) = eL cS (abc.take (1 + x).toNat) := by
    rw [show [[D.str { data := #[97] }], [D.str { data := #[98] }], [D.str { data := #[99, 50] }]] = eL cS abc from by simp [eL, cS, abc], part_eL]
    simp [nAdd_eq, nSub_eq, nOf_eq, offR]
  refine And.intro (by simp [InS, lenRE]; omega) ?_
  (conv => whnf)
  refine And.intro (by rw [hp]; simp [eL_length, dLen_len, abc]; omega) ?_
  (conv => whnf)
  rw [hp]
  refine .inr (.inr (.inr (.inr (.inl ⟨0, ?_⟩))))
  (conv => whnf)
  refine ⟨_, _, _, _, _, _, spec_l1Below_spec code i1 h1 _ hi1 hl, fun ⟨y, i2, h2⟩ ⟨hy, hi2⟩ => ⟨rfl, ?_⟩⟩
  dsimp only at hy hi2
  (conv => whnf)
  refine .inr (.inr (.inr (.inr (.inl ⟨0, ?_⟩))))
  (conv => whnf)
  refine ⟨_, _, _, _, _, _, spec_l1Below_spec code i2 h2 4 hi2 hl, fun ⟨k, i3, h3⟩ ⟨hk, hi3⟩ => ⟨rfl, ?_⟩⟩
  dsimp only at hk hi3
  have hk2 := hk.2.1 (by decide)
  (conv => whnf)
  have hal3 : (abc.take (1 + x).toNat).length = (1 + x).toNat := by simp [abc]; omega
  refine tri_nl 6 1 t_int 1 ?_
  (conv => whnf)
  refine tri_nl 6 3 t_impl_Tree 1 ?_
  (conv => whnf)
  refine tri_loop hT [0, 2, 3, 4, 5, 6] (α := Nat × List (List Nd) × Int × Int) (fun x' => { t := [(0, .w (.ptr 0 0) v0), (2, .c (.ptr 1 0)), (3, ai (1 + x)), (4, .c (.ptr 2 0)), (5, ai k), (6, ai x'.1)], h := [(0, .box t_spec_l1Cur (cur code x'.2.2.1 x'.2.2.2)), (1, .box t_impl_Model [.nl 1, .nl 1, .d (.int .i64 0), .nl 1]), (2, .box t_impl_Model [.ref 3 0 none, .ref 4 0 none, .d (.int .i64 (wMul .i64 50 (wSub .i64 y 10))), .ref 5 0 none]), (3, .arr t_string 1 0 .own (eL cS (abc.take (1 + x).toNat))), (4, .arr t_int 1 0 .own (eL cI ([] : List Int))), (5, .arr t_impl_Tree 1 0 .own (eL cT x'.2.1))], n := 6, N := 55 })
    (fun x' => (x'.1 : Int) ≤ k ∧ x'.2.1.length = x'.1 ∧ (∀ t ∈ x'.2.1, t.length ≤ 32) ∧ inCur code x'.2.2) (fun x' => k.toNat - x'.1) (0, [], i3, h3) (by (conv => whnf); simp only [dApp_nil, eL_nil]; rfl) ⟨by dsimp only; omega, rfl, fun t ht => absurd ht (by simp), hi3⟩ ?_
  intro ⟨a, ts, i4, h4⟩ ⟨ha, hal, hat, hi4⟩
  dsimp only at ha hal hat hi4
  (conv => whnf)
  refine ifB_i (fun g1 => ?_) (fun g1 => ?_) <;> (conv => whnf) <;> simp only [nInt_eq, Int.natCast_zero, dLen_eL, sLen_eq, nOf_eq, Int.toNat_natCast, nAdd_eq, nSub_eq, dLen_nil, dLen_cons, iLt_t, iLt_f, iLe_t, iLe_f, iEq_t, iEq_f, sEq_t, sEq_f, bNot_t, bNot_f, bAnd_t, bEq_t, bEq_f, Bool.not_eq_true, Bool.not_eq_false, Bool.true_eq_false, Bool.false_eq_true] at g1
  · refine tri_everyX hT hmix [0, 2, 3, 4, 5, 6] (Y := List Nd × Int × Int) (fun y' => y'.1.length ≤ 32 ∧ inCur code y'.2) (fun y' => { t := [(0, .w (.ptr 0 0) v0), (2, .c (.ptr 1 0)), (3, ai (1 + x)), (4, .c (.ptr 2 0)), (5, ai k), (6, ai a)], h := [(0, .box t_spec_l1Cur (cur code y'.2.1 y'.2.2)), (1, .box t_impl_Model [.nl 1, .nl 1, .d (.int .i64 0), .nl 1]), (2, .box t_impl_Model [.ref 3 0 none, .ref 4 0 none, .d (.int .i64 (wMul .i64 50 (wSub .i64 y 10))), .ref 5 0 none]), (3, .arr t_string 1 0 .own (eL cS (abc.take (1 + x).toNat))), (4, .arr t_int 1 0 .own (eL cI ([] : List Int))), (5, .arr t_impl_Tree 1 0 .own (eL cT (ts ++ [y'.1])))], n := 6, N := 55 }) rfl ?_ ?_
    · repeat' first
          | (refine anyV_one rfl ?_; (conv => whnf))
          | (refine anyV_two rfl ?_ ?_ <;> (conv => whnf))
          | (refine anyV_three rfl ?_ ?_ ?_ <;> (conv => whnf))
          | (refine .inr (.inr (.inr (.inr (.inl ⟨0, ?_⟩)))); (conv => whnf); refine ⟨_, _, _, _, _, _, spec_l17Right_spec code i4 h4 (1 + x) hi4 hl (by omega), fun ⟨t', i5, h5⟩ ⟨ht', hi5⟩ => ⟨rfl, ?_⟩⟩; dsimp only at ht' hi5; (conv => whnf))
          | (refine And.intro (by simp [partOf_none]; omega) ?_; (conv => whnf))
      all_goals
        refine anyV_end rfl ?_
        refine ⟨(t', i5, h5), ⟨by simp only [treeOk, Bool.and_eq_true, decide_eq_true_eq] at ht'; dsimp only; omega, hi5⟩, ?_⟩
        (conv => whnf)
        simp only [partOf_none]
        rw [← eL_app]
        rfl
    · intro ⟨t', i5, h5⟩ ⟨hy1, hy2⟩
      dsimp only at hy1 hy2
      (conv => whnf)
      refine ⟨(a + 1, ts ++ [t'], i5, h5), by dsimp only; omega, ⟨by dsimp only; omega, by simp; omega, fun t ht => ?_, hy2⟩, ?_⟩
      · rcases List.mem_append.1 ht with ht | ht
        · exact hat t ht
        · simp at ht; rw [ht]; exact hy1
      ((conv => whnf); simp only [St.mk.injEq, List.cons.injEq, Prod.mk.injEq, AV.c.injEq, AV.agg.injEq, AV.tup.injEq, CV.d.injEq, D.int.injEq, D.bool.injEq, D.str.injEq, D.sl.injEq, Ent.arr.injEq, Ent.box.injEq, true_and, and_true, and_self, nInt_eq, Int.natCast_zero, dLen_eL, sLen_eq, wI (show a < 3 by omega) (by omega)])
  · refine tri_loop hT [0, 2, 3, 4, 5, 7] (α := Nat × List Int × Int × Int) (fun x' => { t := [(0, .w (.ptr 0 0) v0), (2, .c (.ptr 1 0)), (3, ai (1 + x)), (4, .c (.ptr 2 0)), (5, ai k), (7, ai x'.1)], h := [(0, .box t_spec_l1Cur (cur code x'.2.2.1 x'.2.2.2)), (1, .box t_impl_Model [.nl 1, .nl 1, .d (.int .i64 0), .nl 1]), (2, .box t_impl_Model [.ref 3 0 none, .ref 4 0 none, .d (.int .i64 (wMul .i64 50 (wSub .i64 y 10))), .ref 5 0 none]), (3, .arr t_string 1 0 .own (eL cS (abc.take (1 + x).toNat))), (4, .arr t_int 1 0 .own (eL cI x'.2.1)), (5, .arr t_impl_Tree 1 0 .own (eL cT ts))], n := 6, N := 55 })
      (fun x' => (x'.1 : Int) ≤ 1 + x ∧ x'.2.1.length ≤ x'.1 ∧ inCur code x'.2.2) (fun x' => (1 + x).toNat - x'.1) (0, [], i4, h4) (by (conv => whnf); rfl) ⟨by dsimp only; omega, Nat.le_refl _, hi4⟩ ?_
    intro ⟨b, ss, i5, h5⟩ ⟨hb, hbl, hi5⟩
    dsimp only at hb hbl hi5
    (conv => whnf)
    have hend : ∀ (i6 h6 : Int), inCur code (i6, h6) → drawn (⟨abc.take (1 + x).toNat, ss, wMul .i64 50 (wSub .i64 y 10), ts⟩ : Mdl) ∧ (abc.take (1 + x).toNat).length ≤ 3 ∧ ss.length ≤ 3 ∧ ts.length ≤ 3 ∧ inCur code (i6, h6) := fun i6 h6 hc6 =>
      ⟨⟨by dsimp only; omega, by dsimp only; omega, fun s hs => by
        have : s ∈ abc := List.mem_of_mem_take hs
        simp [abc] at this
        rcases this with rfl | rfl | rfl <;> decide, by dsimp only; omega, by dsimp only; omega, hat⟩, by omega, by omega, by omega, hc6⟩
    cases g2 : iLt (b : Int) (1 + x)
    · (conv => whnf)
      refine ⟨(⟨abc.take (1 + x).toNat, ss, wMul .i64 50 (wSub .i64 y 10), ts⟩, i5, h5), hend i5 h5 hi5, ?_⟩
      (conv => whnf)
    simp at g2
    (conv => whnf)
    refine And.intro (by unfold NZ; omega) ?_
    (conv => whnf)
    cases g3 : iEq (wRem k 2) 1
    · (conv => whnf)
      refine ⟨(⟨abc.take (1 + x).toNat, ss, wMul .i64 50 (wSub .i64 y 10), ts⟩, i5, h5), hend i5 h5 hi5, ?_⟩
      (conv => whnf)
    (conv => whnf)
    refine tri_everyX hT hmix [0, 2, 3, 4, 5, 7] (Y := Int × Int × Int) (fun y' => inCur code y'.2) (fun y' => { t := [(0, .w (.ptr 0 0) v0), (2, .c (.ptr 1 0)), (3, ai (1 + x)), (4, .c (.ptr 2 0)), (5, ai k), (7, ai b)], h := [(0, .box t_spec_l1Cur (cur code y'.2.1 y'.2.2)), (1, .box t_impl_Model [.nl 1, .nl 1, .d (.int .i64 0), .nl 1]), (2, .box t_impl_Model [.ref 3 0 none, .ref 4 0 none, .d (.int .i64 (wMul .i64 50 (wSub .i64 y 10))), .ref 5 0 none]), (3, .arr t_string 1 0 .own (eL cS (abc.take (1 + x).toNat))), (4, .arr t_int 1 0 .own (eL cI (ss ++ [y'.1]))), (5, .arr t_impl_Tree 1 0 .own (eL cT ts))], n := 6, N := 55 }) rfl ?_ ?_
    · repeat' first
          | (refine anyV_one rfl ?_; (conv => whnf))
          | (refine anyV_two rfl ?_ ?_ <;> (conv => whnf))
          | (refine anyV_three rfl ?_ ?_ ?_ <;> (conv => whnf))
          | (refine .inr (.inr (.inr (.inr (.inl ⟨0, ?_⟩)))); (conv => whnf); refine ⟨_, _, _, _, _, _, spec_l1Below_spec code i5 h5 3 hi5 hl, fun ⟨z, i6, h6⟩ ⟨hz, hi6⟩ => ⟨rfl, ?_⟩⟩; dsimp only at hz hi6; (conv => whnf))
          | (refine And.intro (by simp [partOf_none]; omega) ?_; (conv => whnf))
      all_goals
        refine anyV_end rfl ?_
        refine ⟨(wSub .i64 z 1, i6, h6), hi6, ?_⟩
        (conv => whnf)
        simp only [partOf_none]
        rw [← eL_app]
        rfl
    · intro ⟨z, i6, h6⟩ hi6
      dsimp only at hi6
      (conv => whnf)
      refine ⟨(b + 1, ss ++ [z], i6, h6), by dsimp only; omega, ⟨by dsimp only; omega, by simp; omega, hi6⟩, ?_⟩
      ((conv => whnf); simp only [St.mk.injEq, List.cons.injEq, Prod.mk.injEq, AV.c.injEq, AV.agg.injEq, AV.tup.injEq, CV.d.injEq, D.int.injEq, D.bool.injEq, D.str.injEq, D.sl.injEq, Ent.arr.injEq, Ent.box.injEq, true_and, and_true, and_self, nInt_eq, Int.natCast_zero, dLen_eL, sLen_eq, wI (show b < 3 by omega) (by omega)])

theorem pick_size {y : ByteArray} (hy : y ∈ [(⟨#[]⟩ : ByteArray), ⟨#[65]⟩, ⟨#[98]⟩, ⟨#[97, 98, 99, 100, 101, 102, 103, 104, 105, 106, 107, 108, 109]⟩]) : y.size ≤ 100 := by
  simp only [List.mem_cons, List.mem_nil_iff, or_false] at hy
  rcases hy with rfl | rfl | rfl | rfl <;> decide
theorem cS_set0 (xs : List ByteArray) (x y : ByteArray) : dSet (eL cS xs) (nAdd (offR none) (nOf 0)) (dOver (cS x) 0 [.str y]) = eL cS (xs.set 0 y) := by
  rw [dOver_all (by rfl), show nAdd (offR none) (nOf 0) = 0 from by simp [nAdd_eq, nOf_eq, offR]]
  exact eL_set cS xs 0 y
theorem spec_l24Bent_spec (code : List Int) (i h : Int) (hi : inCur code (i, h)) (hl : code.length ≤ 1048576) : FnSpecB PR f_spec_l24Bent [.c (.ptr 0 0)] t_spec_l1Cur (cur code i h) (Mdl × Int × Int)
    (fun x => drawn x.1 ∧ inCur code x.2) (fun x => aM x.1) (fun x => cur code x.2.1 x.2.2) (fun _ => []) (fun _ => 1) := by
  refine FnSpecB.intro hT 0 p_spec_l24Bent rfl (by kernel_rfl) n_spec_l24Bent rfl rfl ?_
  intro v0
  (conv => whnf)
  refine .inr (.inr (.inr (.inr (.inl ⟨0, ?_⟩))))
  (conv => whnf)
  refine ⟨_, _, _, _, _, _, spec_l24Right_spec code i h hi hl, fun ⟨m, i1, h1⟩ ⟨hm, hm1, hm2, hm3, hi1⟩ => ⟨rfl, ?_⟩⟩
  dsimp only at hm hm1 hm2 hm3 hi1
  (conv => whnf)
  refine .inr (.inr (.inr (.inr (.inl ⟨0, ?_⟩))))
  (conv => whnf)
  refine ⟨_, _, _, _, _, _, spec_l1Below_spec code i1 h1 14 hi1 hl, fun ⟨x, i2, h2⟩ ⟨hx, hi2⟩ => ⟨rfl, ?_⟩⟩
  dsimp only at hx hi2
  (conv => whnf)
  refine ifB_i (fun g0 => ?_) (fun g0 => ?_) <;> (conv => whnf)
  · refine tri_everyX hT hmix [0, 2, 3] (Y := ByteArray × Int × Int) (fun y' => y'.1.size ≤ 100 ∧ inCur code y'.2) (fun y' => { t := [(0, .w (.ptr 0 0) v0), (2, .c (.ptr 1 0)), (3, .c (.ptr 2 0))], h := [(0, .box t_spec_l1Cur (cur code y'.2.1 y'.2.2)), (1, .box t_impl_Model [.nl 1, .nl 1, .d (.int .i64 0), .nl 1]), (2, .box t_impl_Model [.ref 3 0 none, .ref 4 0 none, .d (.int .i64 m.base), .ref 5 0 none]), (3, .arr t_string 1 0 .own (eL cS (m.names.set 0 y'.1))), (4, .arr t_int 1 0 .own (eL cI m.signs)), (5, .arr t_impl_Tree 1 0 .own (eL cT m.trees))], n := 6, N := 61 }) rfl ?_ ?_
    · have hone := hm.one
      obtain ⟨s0, hs0⟩ := get_lt (show 0 < m.names.length by omega)
      repeat' first
        | (refine anyV_one rfl ?_; (conv => whnf))
        | (refine anyV_two rfl ?_ ?_ <;> (conv => whnf))
        | (refine anyV_three rfl ?_ ?_ ?_ <;> (conv => whnf))
        | (refine .inr (.inr (.inr (.inr (.inl ⟨0, ?_⟩)))); (conv => whnf); refine ⟨_, _, _, _, _, _, spec_l1Pick_of code _ _ _ [⟨#[]⟩, ⟨#[65]⟩, ⟨#[98]⟩, ⟨#[97, 98, 99, 100, 101, 102, 103, 104, 105, 106, 107, 108, 109]⟩] (by simp [eL, cS]) hi2 hl (by simp) (by simp), fun ⟨y, j, g⟩ ⟨hy, hj⟩ => ⟨rfl, ?_⟩⟩; dsimp only at hy hj; (conv => whnf))
        | (refine ref_at (k := 0) rfl (by simp; omega) ?_; (conv => whnf))
        | (refine st_at (k := 0) (by simp) hs0 (by simp [cS]) ?_; (conv => whnf))
      all_goals refine anyV_end rfl ?_
      all_goals refine ⟨(y, j, g), ⟨pick_size hy, hj⟩, ?_⟩
      all_goals ((conv => whnf); simp only [St.mk.injEq, List.cons.injEq, Prod.mk.injEq, AV.c.injEq, AV.agg.injEq, AV.tup.injEq, CV.d.injEq, D.int.injEq, D.bool.injEq, D.str.injEq, D.sl.injEq, Ent.arr.injEq, Ent.box.injEq, true_and, and_true, and_self, nInt_eq, Int.natCast_zero, dLen_eL, sLen_eq])
      all_goals exact cS_set0 _ _ _
    · intro ⟨s1, i5, h5⟩ ⟨hy1, hy2⟩
      dsimp only at hy1 hy2
      (conv => whnf)
      refine ⟨(⟨m.names.set 0 s1, m.signs, m.base, m.trees⟩, i5, h5), ⟨⟨by simp; omega, by simp; exact hm.one, fun s hs => ?_, hm.signs, hm.trees, hm.nodes⟩, hy2⟩, ?_⟩
      · rcases List.mem_or_eq_of_mem_set hs with hs | rfl
        · exact hm.texts s hs
        · exact hy1
      (conv => whnf)
      simp only [partOf_none]
  refine ifB_i (fun g1 => ?_) (fun g1 => ?_) <;> (conv => whnf)
  · refine And.intro (by simp [partOf_none]; omega) ?_
    (conv => whnf)
    refine ⟨(⟨m.names, m.signs ++ [0], m.base, m.trees⟩, i2, h2), ⟨⟨hm.names, hm.one, hm.texts, by simp; omega, hm.trees, hm.nodes⟩, hi2⟩, ?_⟩
    (conv => whnf)
    simp only [partOf_none]
    rw [show dApp (eL cI m.signs) [[D.int .i64 0]] = eL cI (m.signs ++ [0]) from eL_app cI m.signs 0]
  refine ifB_i (fun g2 => ?_) (fun g2 => ?_) <;> (conv => whnf)
  · refine .inr (.inr (.inr (.inr (.inl ⟨0, ?_⟩))))
    (conv => whnf)
    refine ⟨_, _, _, _, _, _, spec_l1PickInt_of code _ _ _ [2147483647, 2147483648, -2147483648] (by simp [eL, cI]) hi2 hl (by simp) (by simp), fun ⟨y, j, g⟩ ⟨hy, hj⟩ => ⟨rfl, ?_⟩⟩
    dsimp only at hy hj
    (conv => whnf)
    refine ⟨(⟨m.names, m.signs, y, m.trees⟩, j, g), ⟨⟨hm.names, hm.one, hm.texts, hm.signs, hm.trees, hm.nodes⟩, hj⟩, ?_⟩
    (conv => whnf)
    simp only [partOf_none]
    first | done | rfl
  refine ifB_i (fun g3 => ?_) (fun g3 => ?_) <;> (conv => whnf)
  · refine tri_everyX hT hmix [0, 2, 3] (Y := List Nd × Int × Int) (fun y' => y'.1.length ≤ 32 ∧ inCur code y'.2) (fun y' => { t := [(0, .w (.ptr 0 0) v0), (2, .c (.ptr 1 0)), (3, .c (.ptr 2 0))], h := [(0, .box t_spec_l1Cur (cur code y'.2.1 y'.2.2)), (1, .box t_impl_Model [.nl 1, .nl 1, .d (.int .i64 0), .nl 1]), (2, .box t_impl_Model [.ref 3 0 none, .ref 4 0 none, .d (.int .i64 m.base), .ref 5 0 none]), (3, .arr t_string 1 0 .own (eL cS m.names)), (4, .arr t_int 1 0 .own (eL cI m.signs)), (5, .arr t_impl_Tree 1 0 .own (eL cT (m.trees ++ [y'.1])))], n := 6, N := 61 }) rfl ?_ ?_
    · repeat' first
        | (refine anyV_one rfl ?_; (conv => whnf))
        | (refine anyV_two rfl ?_ ?_ <;> (conv => whnf))
        | (refine anyV_three rfl ?_ ?_ ?_ <;> (conv => whnf))
        | (refine .inr (.inr (.inr (.inr (.inl ⟨0, ?_⟩)))); (conv => whnf); refine ⟨_, _, _, _, _, _, spec_l17Bent_spec code i2 h2 hi2 hl, fun ⟨t', i5, h5⟩ ⟨ht', hi5⟩ => ⟨rfl, ?_⟩⟩; dsimp only at ht' hi5; (conv => whnf))
        | (refine And.intro (by simp [partOf_none]; omega) ?_; (conv => whnf))
      all_goals
        refine anyV_end rfl ?_
        refine ⟨(t', i5, h5), ⟨ht', hi5⟩, ?_⟩
        (conv => whnf)
        simp only [partOf_none]
        rw [← eL_app]
        rfl
    · intro ⟨t', i5, h5⟩ ⟨hy1, hy2⟩
      dsimp only at hy1 hy2
      (conv => whnf)
      refine ⟨(⟨m.names, m.signs, m.base, m.trees ++ [t']⟩, i5, h5), ⟨⟨hm.names, hm.one, hm.texts, hm.signs, by simp; omega, fun t ht => ?_⟩, hy2⟩, ?_⟩
      · rcases List.mem_append.1 ht with ht | ht
        · exact hm.nodes t ht
        · simp at ht; rw [ht]; exact hy1
      (conv => whnf)
      simp only [partOf_none]
  refine ifB_i (fun g4 => ?_) (fun g4 => ?_) <;> (conv => whnf)
  · refine tri_loop hT [0, 2, 3] (α := List (List Nd) × Int × Int) (fun x' => { t := [(0, .w (.ptr 0 0) v0), (2, .c (.ptr 1 0)), (3, .c (.ptr 2 0))], h := [(0, .box t_spec_l1Cur (cur code x'.2.1 x'.2.2)), (1, .box t_impl_Model [.nl 1, .nl 1, .d (.int .i64 0), .nl 1]), (2, .box t_impl_Model [.ref 3 0 none, .ref 4 0 none, .d (.int .i64 m.base), .ref 5 0 none]), (3, .arr t_string 1 0 .own (eL cS m.names)), (4, .arr t_int 1 0 .own (eL cI m.signs)), (5, .arr t_impl_Tree 1 0 .own (eL cT x'.1))], n := 6, N := 61 })
      (fun x' => x'.1.length ≤ 9 ∧ (∀ t ∈ x'.1, t.length ≤ 32) ∧ inCur code x'.2) (fun x' => 9 - x'.1.length) (m.trees, i2, h2) (by (conv => whnf)) ⟨by dsimp only; omega, hm.nodes, hi2⟩ ?_
    intro ⟨ts, i4, h4⟩ ⟨hal, hat, hi4⟩
    dsimp only at hal hat hi4
    (conv => whnf)
    refine tri_everyX hT hmix [0, 2, 3, 46] (Y := Int × Int × Int) (fun y' => (0 ≤ y'.1 ∧ y'.1 < 2) ∧ inCur code y'.2) (fun y' => { t := [(0, .w (.ptr 0 0) v0), (2, .c (.ptr 1 0)), (3, .c (.ptr 2 0)), (46, ab (iLt (ts.length : Int) (8 + y'.1)))], h := [(0, .box t_spec_l1Cur (cur code y'.2.1 y'.2.2)), (1, .box t_impl_Model [.nl 1, .nl 1, .d (.int .i64 0), .nl 1]), (2, .box t_impl_Model [.ref 3 0 none, .ref 4 0 none, .d (.int .i64 m.base), .ref 5 0 none]), (3, .arr t_string 1 0 .own (eL cS m.names)), (4, .arr t_int 1 0 .own (eL cI m.signs)), (5, .arr t_impl_Tree 1 0 .own (eL cT ts))], n := 6, N := 61 }) rfl ?_ ?_
    · repeat' first
        | (refine anyV_one rfl ?_; (conv => whnf))
        | (refine anyV_two rfl ?_ ?_ <;> (conv => whnf))
        | (refine anyV_three rfl ?_ ?_ ?_ <;> (conv => whnf))
        | (refine .inr (.inr (.inr (.inr (.inl ⟨0, ?_⟩)))); (conv => whnf); refine ⟨_, _, _, _, _, _, spec_l1Below_spec code i4 h4 2 hi4 hl, fun ⟨z, i5, h5⟩ ⟨hz, hi5⟩ => ⟨rfl, ?_⟩⟩; dsimp only at hz hi5; (conv => whnf))
      all_goals refine anyV_end rfl ?_
      all_goals refine ⟨(z, i5, h5), ⟨⟨hz.1, hz.2.1 (by decide)⟩, hi5⟩, ?_⟩
      all_goals have hz2 := hz.2.1 (by decide)
      all_goals rw [show wAdd .i64 8 z = 8 + z from wAdd64 (by omega) (by omega)]
      all_goals (conv => whnf)
      all_goals rw [show nInt (lenRE (eL cT ts) none) = (ts.length : Int) by simp [lenRE]]
      all_goals first | done | rfl
    intro ⟨z, i5, h5⟩ ⟨hz, hi5⟩
    dsimp only at hz hi5
    (conv => whnf)
    refine ifB_i (fun g5 => ?_) (fun g5 => ?_) <;> (conv => whnf) <;> simp only [nInt_eq, Int.natCast_zero, dLen_eL, sLen_eq, nOf_eq, Int.toNat_natCast, nAdd_eq, nSub_eq, dLen_nil, dLen_cons, iLt_t, iLt_f, iLe_t, iLe_f, iEq_t, iEq_f, sEq_t, sEq_f, bNot_t, bNot_f, bAnd_t, bEq_t, bEq_f, Bool.not_eq_true, Bool.not_eq_false, Bool.true_eq_false, Bool.false_eq_true] at g5
    · refine tri_every hT hmix [0, 2, 3] { t := [(0, .w (.ptr 0 0) v0), (2, .c (.ptr 1 0)), (3, .c (.ptr 2 0))], h := [(0, .box t_spec_l1Cur (cur code i5 h5)), (1, .box t_impl_Model [.nl 1, .nl 1, .d (.int .i64 0), .nl 1]), (2, .box t_impl_Model [.ref 3 0 none, .ref 4 0 none, .d (.int .i64 m.base), .ref 5 0 none]), (3, .arr t_string 1 0 .own (eL cS m.names)), (4, .arr t_int 1 0 .own (eL cI m.signs)), (5, .arr t_impl_Tree 1 0 .own (eL cT (ts ++ [[⟨-1, 0, 0, 0, 1⟩]])))], n := 6, N := 61 } rfl ?_ ?_
      · repeat' first
        | (refine anyV_one rfl ?_; (conv => whnf))
        | (refine anyV_two rfl ?_ ?_ <;> (conv => whnf))
        | (refine anyV_three rfl ?_ ?_ ?_ <;> (conv => whnf))
          | (refine .inl ⟨_, _, _, spec_OneLeaf_spec 1, rfl, ?_⟩; (conv => whnf))
          | (refine And.intro (by simp [partOf_none]; omega) ?_; (conv => whnf))
        all_goals
          refine anyV_end rfl ?_
          (conv => whnf)
          simp only [partOf_none]
          rw [← eL_app]
          rfl
      (conv => whnf)
      refine ⟨(ts ++ [[⟨-1, 0, 0, 0, 1⟩]], i5, h5), by simp; omega, ⟨by simp; omega, fun t ht => ?_, hi5⟩, ?_⟩
      · rcases List.mem_append.1 ht with ht | ht
        · exact hat t ht
        · simp at ht; rw [ht]; decide
      (conv => whnf)
    · refine ⟨(⟨m.names, m.signs, m.base, ts⟩, i5, h5), ⟨⟨hm.names, hm.one, hm.texts, hm.signs, by dsimp only; omega, hat⟩, hi5⟩, ?_⟩
      (conv => whnf)
      simp only [partOf_none]
  refine ifB_i (fun g5 => ?_) (fun g5 => ?_) <;> (conv => whnf)
  · refine And.intro (by simp [partOf_none]; omega) ?_
    (conv => whnf)
    refine ⟨(⟨m.names ++ [⟨#[100]⟩, ⟨#[101]⟩], m.signs, m.base, m.trees⟩, i2, h2), ⟨⟨by simp; omega, by simp, fun s hs => ?_, hm.signs, hm.trees, hm.nodes⟩, hi2⟩, ?_⟩
    · rcases List.mem_append.1 hs with hs | hs
      · exact hm.texts s hs
      · simp at hs; rcases hs with rfl | rfl <;> decide
    (conv => whnf)
    simp only [partOf_none]
    rw [show dApp (eL cS m.names) [[D.str { data := #[100] }], [D.str { data := #[101] }]] = eL cS (m.names ++ [⟨#[100]⟩, ⟨#[101]⟩]) from by simp [dApp_eq, eL, cS]]
  · refine ⟨(m, i2, h2), ⟨hm, hi2⟩, ?_⟩
    (conv => whnf)
    simp only [partOf_none]
    first | done | rfl
end Go.H.S
namespace Go.H.S
open Go Go.Proofs Go.H
attribute [local irreducible] Tri FnSpec FnSpecM
set_option maxRecDepth 100000
set_option linter.unusedSimpArgs false
set_option linter.unusedVariables false


theorem idxL_any {α : Type} (p : α → Bool) : ∀ (l : List α) (k : Nat), (0 ≤ idxL p l k) ↔ l.any p = true
  | [], k => by simp [idxL]
  | y :: r, k => by
    simp only [idxL, List.any_cons]
    have ih := idxL_any p r (k + 1)
    cases h : p y
    · simpa using ih
    · simp


theorem slices_IndexFunc_Limpl_Tree_impl_Tree_0 (xs : List (List Nd)) (g : FuncId) (p : List Nd → Bool) (hp : ∀ x ∈ xs, FnSpec PR g [aT x] (ab (p x)) [] 0) (hl : xs.length ≤ 9223372036854775807) :
    FnSpec PR f_slices_IndexFunc_Limpl_Tree_impl_Tree [aTs xs, .c (.d (.fn g []))] (ai (idxL p xs 0)) [] 0 := by
  refine FnSpec.intro hT p_slices_IndexFunc_Limpl_Tree_impl_Tree rfl (by kernel_rfl) n_slices_IndexFunc_Limpl_Tree_impl_Tree rfl ?_
  conv => whnf
  refine tri_loop hT [0, 1, 7, 8] (α := Nat) (fun k => { t := [(0, aTs xs), (1, .c (.d (.fn g []))), (7, ai xs.length), (8, ai k)], h := [], n := 0, N := 19 })
    (fun k => k ≤ xs.length ∧ idxL p (xs.drop k) k = idxL p xs 0) (fun k => xs.length - k) 0 (by ((conv => whnf); simp only [St.mk.injEq, List.cons.injEq, Prod.mk.injEq, AV.c.injEq, AV.agg.injEq, AV.tup.injEq, CV.d.injEq, D.int.injEq, D.bool.injEq, D.str.injEq, D.sl.injEq, Ent.arr.injEq, Ent.box.injEq, true_and, and_true, and_self, nInt_eq, Int.natCast_zero, dLen_eL, sLen_eq])) ⟨Nat.zero_le _, rfl⟩ ?_
  intro k ⟨hk, hi⟩
  (conv => whnf)
  refine ifB_i (fun h1 => ?_) (fun h1 => ?_) <;> (conv => whnf) <;> simp at h1
  · obtain ⟨s, hs⟩ := get_lt h1
    rw [drop_at hs, idxL] at hi
    refine idx_at (by simp) hs ?_
    (conv => whnf)
    refine .inl ⟨_, _, _, hp s (List.mem_of_getElem? hs), rfl, ?_⟩
    (conv => whnf)
    refine ifB_i (fun h2 => ?_) (fun h2 => ?_) <;> (conv => whnf)
    · rw [if_pos h2] at hi
      ((conv => whnf); simp only [St.mk.injEq, List.cons.injEq, Prod.mk.injEq, AV.c.injEq, AV.agg.injEq, AV.tup.injEq, CV.d.injEq, D.int.injEq, D.bool.injEq, D.str.injEq, D.sl.injEq, Ent.arr.injEq, Ent.box.injEq, true_and, and_true, and_self, nInt_eq, Int.natCast_zero, dLen_eL, sLen_eq, hi])
    · rw [if_neg (by simp [h2])] at hi
      refine ⟨k + 1, by omega, ⟨h1, hi⟩, ?_⟩
      ((conv => whnf); simp only [St.mk.injEq, List.cons.injEq, Prod.mk.injEq, AV.c.injEq, AV.agg.injEq, AV.tup.injEq, CV.d.injEq, D.int.injEq, D.bool.injEq, D.str.injEq, D.sl.injEq, Ent.arr.injEq, Ent.box.injEq, true_and, and_true, and_self, nInt_eq, Int.natCast_zero, dLen_eL, sLen_eq, wI h1 hl])
  · obtain rfl : k = xs.length := by omega
    simp only [List.drop_length, idxL] at hi
    ((conv => whnf); simp only [St.mk.injEq, List.cons.injEq, Prod.mk.injEq, AV.c.injEq, AV.agg.injEq, AV.tup.injEq, CV.d.injEq, D.int.injEq, D.bool.injEq, D.str.injEq, D.sl.injEq, Ent.arr.injEq, Ent.box.injEq, true_and, and_true, and_self, nInt_eq, Int.natCast_zero, dLen_eL, sLen_eq, ← hi])


theorem slices_ContainsFunc_Limpl_Tree_impl_Tree_0 (xs : List (List Nd)) (g : FuncId) (p : List Nd → Bool) (hp : ∀ x ∈ xs, FnSpec PR g [aT x] (ab (p x)) [] 0) (hl : xs.length ≤ 9223372036854775807) :
    FnSpec PR f_slices_ContainsFunc_Limpl_Tree_impl_Tree [aTs xs, .c (.d (.fn g []))] (ab (xs.any p)) [] 0 := by
  refine FnSpec.intro hT p_slices_ContainsFunc_Limpl_Tree_impl_Tree rfl (by kernel_rfl) n_slices_ContainsFunc_Limpl_Tree_impl_Tree rfl ?_
  conv => whnf
  refine .inl ⟨_, _, _, slices_IndexFunc_Limpl_Tree_impl_Tree_0 xs g  p hp hl, rfl, ?_⟩
  (conv => whnf)
  have h := idxL_any p xs 0
  cases hb : xs.any p
  · rw [hb] at h
    ((conv => whnf); simp only [St.mk.injEq, List.cons.injEq, Prod.mk.injEq, AV.c.injEq, AV.agg.injEq, AV.tup.injEq, CV.d.injEq, D.int.injEq, D.bool.injEq, D.str.injEq, D.sl.injEq, Ent.arr.injEq, Ent.box.injEq, true_and, and_true, and_self, nInt_eq, Int.natCast_zero, dLen_eL, sLen_eq, iLe])
    simpa using h
  · rw [hb] at h
    ((conv => whnf); simp only [St.mk.injEq, List.cons.injEq, Prod.mk.injEq, AV.c.injEq, AV.agg.injEq, AV.tup.injEq, CV.d.injEq, D.int.injEq, D.bool.injEq, D.str.injEq, D.sl.injEq, Ent.arr.injEq, Ent.box.injEq, true_and, and_true, and_self, nInt_eq, Int.natCast_zero, dLen_eL, sLen_eq, iLe])
    simpa using h


theorem slices_IndexFunc_Limpl_Tree_impl_Tree_1 (xs : List (List Nd)) (g : FuncId) (d0 : D) (p : List Nd → Bool) (hp : ∀ x ∈ xs, FnSpec PR g [aT x, .c (.d d0)] (ab (p x)) [] 0) (hl : xs.length ≤ 9223372036854775807) :
    FnSpec PR f_slices_IndexFunc_Limpl_Tree_impl_Tree [aTs xs, .c (.d (.fn g [d0]))] (ai (idxL p xs 0)) [] 0 := by
  refine FnSpec.intro hT p_slices_IndexFunc_Limpl_Tree_impl_Tree rfl (by kernel_rfl) n_slices_IndexFunc_Limpl_Tree_impl_Tree rfl ?_
  conv => whnf
  refine tri_loop hT [0, 1, 7, 8] (α := Nat) (fun k => { t := [(0, aTs xs), (1, .c (.d (.fn g [d0]))), (7, ai xs.length), (8, ai k)], h := [], n := 0, N := 19 })
    (fun k => k ≤ xs.length ∧ idxL p (xs.drop k) k = idxL p xs 0) (fun k => xs.length - k) 0 (by ((conv => whnf); simp only [St.mk.injEq, List.cons.injEq, Prod.mk.injEq, AV.c.injEq, AV.agg.injEq, AV.tup.injEq, CV.d.injEq, D.int.injEq, D.bool.injEq, D.str.injEq, D.sl.injEq, Ent.arr.injEq, Ent.box.injEq, true_and, and_true, and_self, nInt_eq, Int.natCast_zero, dLen_eL, sLen_eq])) ⟨Nat.zero_le _, rfl⟩ ?_
  intro k ⟨hk, hi⟩
  (conv => whnf)
  refine ifB_i (fun h1 => ?_) (fun h1 => ?_) <;> (conv => whnf) <;> simp at h1
  · obtain ⟨s, hs⟩ := get_lt h1
    rw [drop_at hs, idxL] at hi
    refine idx_at (by simp) hs ?_
    (conv => whnf)
    refine .inl ⟨_, _, _, hp s (List.mem_of_getElem? hs), rfl, ?_⟩
    (conv => whnf)
    refine ifB_i (fun h2 => ?_) (fun h2 => ?_) <;> (conv => whnf)
    · rw [if_pos h2] at hi
      ((conv => whnf); simp only [St.mk.injEq, List.cons.injEq, Prod.mk.injEq, AV.c.injEq, AV.agg.injEq, AV.tup.injEq, CV.d.injEq, D.int.injEq, D.bool.injEq, D.str.injEq, D.sl.injEq, Ent.arr.injEq, Ent.box.injEq, true_and, and_true, and_self, nInt_eq, Int.natCast_zero, dLen_eL, sLen_eq, hi])
    · rw [if_neg (by simp [h2])] at hi
      refine ⟨k + 1, by omega, ⟨h1, hi⟩, ?_⟩
      ((conv => whnf); simp only [St.mk.injEq, List.cons.injEq, Prod.mk.injEq, AV.c.injEq, AV.agg.injEq, AV.tup.injEq, CV.d.injEq, D.int.injEq, D.bool.injEq, D.str.injEq, D.sl.injEq, Ent.arr.injEq, Ent.box.injEq, true_and, and_true, and_self, nInt_eq, Int.natCast_zero, dLen_eL, sLen_eq, wI h1 hl])
  · obtain rfl : k = xs.length := by omega
    simp only [List.drop_length, idxL] at hi
    ((conv => whnf); simp only [St.mk.injEq, List.cons.injEq, Prod.mk.injEq, AV.c.injEq, AV.agg.injEq, AV.tup.injEq, CV.d.injEq, D.int.injEq, D.bool.injEq, D.str.injEq, D.sl.injEq, Ent.arr.injEq, Ent.box.injEq, true_and, and_true, and_self, nInt_eq, Int.natCast_zero, dLen_eL, sLen_eq, ← hi])


theorem slices_ContainsFunc_Limpl_Tree_impl_Tree_1 (xs : List (List Nd)) (g : FuncId) (d0 : D) (p : List Nd → Bool) (hp : ∀ x ∈ xs, FnSpec PR g [aT x, .c (.d d0)] (ab (p x)) [] 0) (hl : xs.length ≤ 9223372036854775807) :
    FnSpec PR f_slices_ContainsFunc_Limpl_Tree_impl_Tree [aTs xs, .c (.d (.fn g [d0]))] (ab (xs.any p)) [] 0 := by
  refine FnSpec.intro hT p_slices_ContainsFunc_Limpl_Tree_impl_Tree rfl (by kernel_rfl) n_slices_ContainsFunc_Limpl_Tree_impl_Tree rfl ?_
  conv => whnf
  refine .inl ⟨_, _, _, slices_IndexFunc_Limpl_Tree_impl_Tree_1 xs g d0 p hp hl, rfl, ?_⟩
  (conv => whnf)
  have h := idxL_any p xs 0
  cases hb : xs.any p
  · rw [hb] at h
    ((conv => whnf); simp only [St.mk.injEq, List.cons.injEq, Prod.mk.injEq, AV.c.injEq, AV.agg.injEq, AV.tup.injEq, CV.d.injEq, D.int.injEq, D.bool.injEq, D.str.injEq, D.sl.injEq, Ent.arr.injEq, Ent.box.injEq, true_and, and_true, and_self, nInt_eq, Int.natCast_zero, dLen_eL, sLen_eq, iLe])
    simpa using h
  · rw [hb] at h
    ((conv => whnf); simp only [St.mk.injEq, List.cons.injEq, Prod.mk.injEq, AV.c.injEq, AV.agg.injEq, AV.tup.injEq, CV.d.injEq, D.int.injEq, D.bool.injEq, D.str.injEq, D.sl.injEq, Ent.arr.injEq, Ent.box.injEq, true_and, and_true, and_self, nInt_eq, Int.natCast_zero, dLen_eL, sLen_eq, iLe])
    simpa using h


theorem slices_IndexFunc_Limpl_Tree_impl_Tree_2 (xs : List (List Nd)) (g : FuncId) (d0 d1 : D) (p : List Nd → Bool) (hp : ∀ x ∈ xs, FnSpec PR g [aT x, .c (.d d0), .c (.d d1)] (ab (p x)) [] 0) (hl : xs.length ≤ 9223372036854775807) :
    FnSpec PR f_slices_IndexFunc_Limpl_Tree_impl_Tree [aTs xs, .c (.d (.fn g [d0, d1]))] (ai (idxL p xs 0)) [] 0 := by
  refine FnSpec.intro hT p_slices_IndexFunc_Limpl_Tree_impl_Tree rfl (by kernel_rfl) n_slices_IndexFunc_Limpl_Tree_impl_Tree rfl ?_
  conv => whnf
  refine tri_loop hT [0, 1, 7, 8] (α := Nat) (fun k => { t := [(0, aTs xs), (1, .c (.d (.fn g [d0, d1]))), (7, ai xs.length), (8, ai k)], h := [], n := 0, N := 19 })
    (fun k => k ≤ xs.length ∧ idxL p (xs.drop k) k = idxL p xs 0) (fun k => xs.length - k) 0 (by ((conv => whnf); simp only [St.mk.injEq, List.cons.injEq, Prod.mk.injEq, AV.c.injEq, AV.agg.injEq, AV.tup.injEq, CV.d.injEq, D.int.injEq, D.bool.injEq, D.str.injEq, D.sl.injEq, Ent.arr.injEq, Ent.box.injEq, true_and, and_true, and_self, nInt_eq, Int.natCast_zero, dLen_eL, sLen_eq])) ⟨Nat.zero_le _, rfl⟩ ?_
  intro k ⟨hk, hi⟩
  (conv => whnf)
  refine ifB_i (fun h1 => ?_) (fun h1 => ?_) <;> (conv => whnf) <;> simp at h1
  · obtain ⟨s, hs⟩ := get_lt h1
    rw [drop_at hs, idxL] at hi
    refine idx_at (by simp) hs ?_
    (conv => whnf)
    refine .inl ⟨_, _, _, hp s (List.mem_of_getElem? hs), rfl, ?_⟩
    (conv => whnf)
    refine ifB_i (fun h2 => ?_) (fun h2 => ?_) <;> (conv => whnf)
    · rw [if_pos h2] at hi
      ((conv => whnf); simp only [St.mk.injEq, List.cons.injEq, Prod.mk.injEq, AV.c.injEq, AV.agg.injEq, AV.tup.injEq, CV.d.injEq, D.int.injEq, D.bool.injEq, D.str.injEq, D.sl.injEq, Ent.arr.injEq, Ent.box.injEq, true_and, and_true, and_self, nInt_eq, Int.natCast_zero, dLen_eL, sLen_eq, hi])
    · rw [if_neg (by simp [h2])] at hi
      refine ⟨k + 1, by omega, ⟨h1, hi⟩, ?_⟩
      ((conv => whnf); simp only [St.mk.injEq, List.cons.injEq, Prod.mk.injEq, AV.c.injEq, AV.agg.injEq, AV.tup.injEq, CV.d.injEq, D.int.injEq, D.bool.injEq, D.str.injEq, D.sl.injEq, Ent.arr.injEq, Ent.box.injEq, true_and, and_true, and_self, nInt_eq, Int.natCast_zero, dLen_eL, sLen_eq, wI h1 hl])
  · obtain rfl : k = xs.length := by omega
    simp only [List.drop_length, idxL] at hi
    ((conv => whnf); simp only [St.mk.injEq, List.cons.injEq, Prod.mk.injEq, AV.c.injEq, AV.agg.injEq, AV.tup.injEq, CV.d.injEq, D.int.injEq, D.bool.injEq, D.str.injEq, D.sl.injEq, Ent.arr.injEq, Ent.box.injEq, true_and, and_true, and_self, nInt_eq, Int.natCast_zero, dLen_eL, sLen_eq, ← hi])


theorem slices_ContainsFunc_Limpl_Tree_impl_Tree_2 (xs : List (List Nd)) (g : FuncId) (d0 d1 : D) (p : List Nd → Bool) (hp : ∀ x ∈ xs, FnSpec PR g [aT x, .c (.d d0), .c (.d d1)] (ab (p x)) [] 0) (hl : xs.length ≤ 9223372036854775807) :
    FnSpec PR f_slices_ContainsFunc_Limpl_Tree_impl_Tree [aTs xs, .c (.d (.fn g [d0, d1]))] (ab (xs.any p)) [] 0 := by
  refine FnSpec.intro hT p_slices_ContainsFunc_Limpl_Tree_impl_Tree rfl (by kernel_rfl) n_slices_ContainsFunc_Limpl_Tree_impl_Tree rfl ?_
  conv => whnf
  refine .inl ⟨_, _, _, slices_IndexFunc_Limpl_Tree_impl_Tree_2 xs g d0 d1 p hp hl, rfl, ?_⟩
  (conv => whnf)
  have h := idxL_any p xs 0
  cases hb : xs.any p
  · rw [hb] at h
    ((conv => whnf); simp only [St.mk.injEq, List.cons.injEq, Prod.mk.injEq, AV.c.injEq, AV.agg.injEq, AV.tup.injEq, CV.d.injEq, D.int.injEq, D.bool.injEq, D.str.injEq, D.sl.injEq, Ent.arr.injEq, Ent.box.injEq, true_and, and_true, and_self, nInt_eq, Int.natCast_zero, dLen_eL, sLen_eq, iLe])
    simpa using h
  · rw [hb] at h
    ((conv => whnf); simp only [St.mk.injEq, List.cons.injEq, Prod.mk.injEq, AV.c.injEq, AV.agg.injEq, AV.tup.injEq, CV.d.injEq, D.int.injEq, D.bool.injEq, D.str.injEq, D.sl.injEq, Ent.arr.injEq, Ent.box.injEq, true_and, and_true, and_self, nInt_eq, Int.natCast_zero, dLen_eL, sLen_eq, iLe])
    simpa using h


theorem slices_IndexFunc_Lint_int_0 (xs : List (Int)) (g : FuncId) (p : Int → Bool) (hp : ∀ x ∈ xs, FnSpec PR g [ai x] (ab (p x)) [] 0) (hl : xs.length ≤ 9223372036854775807) :
    FnSpec PR f_slices_IndexFunc_Lint_int [aIs xs, .c (.d (.fn g []))] (ai (idxL p xs 0)) [] 0 := by
  refine FnSpec.intro hT p_slices_IndexFunc_Lint_int rfl (by kernel_rfl) n_slices_IndexFunc_Lint_int rfl ?_
  conv => whnf
  refine tri_loop hT [0, 1, 7, 8] (α := Nat) (fun k => { t := [(0, aIs xs), (1, .c (.d (.fn g []))), (7, ai xs.length), (8, ai k)], h := [], n := 0, N := 19 })
    (fun k => k ≤ xs.length ∧ idxL p (xs.drop k) k = idxL p xs 0) (fun k => xs.length - k) 0 (by ((conv => whnf); simp only [St.mk.injEq, List.cons.injEq, Prod.mk.injEq, AV.c.injEq, AV.agg.injEq, AV.tup.injEq, CV.d.injEq, D.int.injEq, D.bool.injEq, D.str.injEq, D.sl.injEq, Ent.arr.injEq, Ent.box.injEq, true_and, and_true, and_self, nInt_eq, Int.natCast_zero, dLen_eL, sLen_eq])) ⟨Nat.zero_le _, rfl⟩ ?_
  intro k ⟨hk, hi⟩
  (conv => whnf)
  refine ifB_i (fun h1 => ?_) (fun h1 => ?_) <;> (conv => whnf) <;> simp at h1
  · obtain ⟨s, hs⟩ := get_lt h1
    rw [drop_at hs, idxL] at hi
    refine idx_at (by simp) hs ?_
    (conv => whnf)
    refine .inl ⟨_, _, _, hp s (List.mem_of_getElem? hs), rfl, ?_⟩
    (conv => whnf)
    refine ifB_i (fun h2 => ?_) (fun h2 => ?_) <;> (conv => whnf)
    · rw [if_pos h2] at hi
      ((conv => whnf); simp only [St.mk.injEq, List.cons.injEq, Prod.mk.injEq, AV.c.injEq, AV.agg.injEq, AV.tup.injEq, CV.d.injEq, D.int.injEq, D.bool.injEq, D.str.injEq, D.sl.injEq, Ent.arr.injEq, Ent.box.injEq, true_and, and_true, and_self, nInt_eq, Int.natCast_zero, dLen_eL, sLen_eq, hi])
    · rw [if_neg (by simp [h2])] at hi
      refine ⟨k + 1, by omega, ⟨h1, hi⟩, ?_⟩
      ((conv => whnf); simp only [St.mk.injEq, List.cons.injEq, Prod.mk.injEq, AV.c.injEq, AV.agg.injEq, AV.tup.injEq, CV.d.injEq, D.int.injEq, D.bool.injEq, D.str.injEq, D.sl.injEq, Ent.arr.injEq, Ent.box.injEq, true_and, and_true, and_self, nInt_eq, Int.natCast_zero, dLen_eL, sLen_eq, wI h1 hl])
  · obtain rfl : k = xs.length := by omega
    simp only [List.drop_length, idxL] at hi
    ((conv => whnf); simp only [St.mk.injEq, List.cons.injEq, Prod.mk.injEq, AV.c.injEq, AV.agg.injEq, AV.tup.injEq, CV.d.injEq, D.int.injEq, D.bool.injEq, D.str.injEq, D.sl.injEq, Ent.arr.injEq, Ent.box.injEq, true_and, and_true, and_self, nInt_eq, Int.natCast_zero, dLen_eL, sLen_eq, ← hi])


theorem slices_ContainsFunc_Lint_int_0 (xs : List (Int)) (g : FuncId) (p : Int → Bool) (hp : ∀ x ∈ xs, FnSpec PR g [ai x] (ab (p x)) [] 0) (hl : xs.length ≤ 9223372036854775807) :
    FnSpec PR f_slices_ContainsFunc_Lint_int [aIs xs, .c (.d (.fn g []))] (ab (xs.any p)) [] 0 := by
  refine FnSpec.intro hT p_slices_ContainsFunc_Lint_int rfl (by kernel_rfl) n_slices_ContainsFunc_Lint_int rfl ?_
  conv => whnf
  refine .inl ⟨_, _, _, slices_IndexFunc_Lint_int_0 xs g  p hp hl, rfl, ?_⟩
  (conv => whnf)
  have h := idxL_any p xs 0
  cases hb : xs.any p
  · rw [hb] at h
    ((conv => whnf); simp only [St.mk.injEq, List.cons.injEq, Prod.mk.injEq, AV.c.injEq, AV.agg.injEq, AV.tup.injEq, CV.d.injEq, D.int.injEq, D.bool.injEq, D.str.injEq, D.sl.injEq, Ent.arr.injEq, Ent.box.injEq, true_and, and_true, and_self, nInt_eq, Int.natCast_zero, dLen_eL, sLen_eq, iLe])
    simpa using h
  · rw [hb] at h
    ((conv => whnf); simp only [St.mk.injEq, List.cons.injEq, Prod.mk.injEq, AV.c.injEq, AV.agg.injEq, AV.tup.injEq, CV.d.injEq, D.int.injEq, D.bool.injEq, D.str.injEq, D.sl.injEq, Ent.arr.injEq, Ent.box.injEq, true_and, and_true, and_self, nInt_eq, Int.natCast_zero, dLen_eL, sLen_eq, iLe])
    simpa using h


theorem slices_IndexFunc_Lint_int_1 (xs : List (Int)) (g : FuncId) (d0 : D) (p : Int → Bool) (hp : ∀ x ∈ xs, FnSpec PR g [ai x, .c (.d d0)] (ab (p x)) [] 0) (hl : xs.length ≤ 9223372036854775807) :
    FnSpec PR f_slices_IndexFunc_Lint_int [aIs xs, .c (.d (.fn g [d0]))] (ai (idxL p xs 0)) [] 0 := by
  refine FnSpec.intro hT p_slices_IndexFunc_Lint_int rfl (by kernel_rfl) n_slices_IndexFunc_Lint_int rfl ?_
  conv => whnf
  refine tri_loop hT [0, 1, 7, 8] (α := Nat) (fun k => { t := [(0, aIs xs), (1, .c (.d (.fn g [d0]))), (7, ai xs.length), (8, ai k)], h := [], n := 0, N := 19 })
    (fun k => k ≤ xs.length ∧ idxL p (xs.drop k) k = idxL p xs 0) (fun k => xs.length - k) 0 (by ((conv => whnf); simp only [St.mk.injEq, List.cons.injEq, Prod.mk.injEq, AV.c.injEq, AV.agg.injEq, AV.tup.injEq, CV.d.injEq, D.int.injEq, D.bool.injEq, D.str.injEq, D.sl.injEq, Ent.arr.injEq, Ent.box.injEq, true_and, and_true, and_self, nInt_eq, Int.natCast_zero, dLen_eL, sLen_eq])) ⟨Nat.zero_le _, rfl⟩ ?_
  intro k ⟨hk, hi⟩
  (conv => whnf)
  refine ifB_i (fun h1 => ?_) (fun h1 => ?_) <;> (conv => whnf) <;> simp at h1
  · obtain ⟨s, hs⟩ := get_lt h1
    rw [drop_at hs, idxL] at hi
    refine idx_at (by simp) hs ?_
    (conv => whnf)
    refine .inl ⟨_, _, _, hp s (List.mem_of_getElem? hs), rfl, ?_⟩
    (conv => whnf)
    refine ifB_i (fun h2 => ?_) (fun h2 => ?_) <;> (conv => whnf)
    · rw [if_pos h2] at hi
      ((conv => whnf); simp only [St.mk.injEq, List.cons.injEq, Prod.mk.injEq, AV.c.injEq, AV.agg.injEq, AV.tup.injEq, CV.d.injEq, D.int.injEq, D.bool.injEq, D.str.injEq, D.sl.injEq, Ent.arr.injEq, Ent.box.injEq, true_and, and_true, and_self, nInt_eq, Int.natCast_zero, dLen_eL, sLen_eq, hi])
    · rw [if_neg (by simp [h2])] at hi
      refine ⟨k + 1, by omega, ⟨h1, hi⟩, ?_⟩
      ((conv => whnf); simp only [St.mk.injEq, List.cons.injEq, Prod.mk.injEq, AV.c.injEq, AV.agg.injEq, AV.tup.injEq, CV.d.injEq, D.int.injEq, D.bool.injEq, D.str.injEq, D.sl.injEq, Ent.arr.injEq, Ent.box.injEq, true_and, and_true, and_self, nInt_eq, Int.natCast_zero, dLen_eL, sLen_eq, wI h1 hl])
  · obtain rfl : k = xs.length := by omega
    simp only [List.drop_length, idxL] at hi
    ((conv => whnf); simp only [St.mk.injEq, List.cons.injEq, Prod.mk.injEq, AV.c.injEq, AV.agg.injEq, AV.tup.injEq, CV.d.injEq, D.int.injEq, D.bool.injEq, D.str.injEq, D.sl.injEq, Ent.arr.injEq, Ent.box.injEq, true_and, and_true, and_self, nInt_eq, Int.natCast_zero, dLen_eL, sLen_eq, ← hi])


theorem slices_ContainsFunc_Lint_int_1 (xs : List (Int)) (g : FuncId) (d0 : D) (p : Int → Bool) (hp : ∀ x ∈ xs, FnSpec PR g [ai x, .c (.d d0)] (ab (p x)) [] 0) (hl : xs.length ≤ 9223372036854775807) :
    FnSpec PR f_slices_ContainsFunc_Lint_int [aIs xs, .c (.d (.fn g [d0]))] (ab (xs.any p)) [] 0 := by
  refine FnSpec.intro hT p_slices_ContainsFunc_Lint_int rfl (by kernel_rfl) n_slices_ContainsFunc_Lint_int rfl ?_
  conv => whnf
  refine .inl ⟨_, _, _, slices_IndexFunc_Lint_int_1 xs g d0 p hp hl, rfl, ?_⟩
  (conv => whnf)
  have h := idxL_any p xs 0
  cases hb : xs.any p
  · rw [hb] at h
    ((conv => whnf); simp only [St.mk.injEq, List.cons.injEq, Prod.mk.injEq, AV.c.injEq, AV.agg.injEq, AV.tup.injEq, CV.d.injEq, D.int.injEq, D.bool.injEq, D.str.injEq, D.sl.injEq, Ent.arr.injEq, Ent.box.injEq, true_and, and_true, and_self, nInt_eq, Int.natCast_zero, dLen_eL, sLen_eq, iLe])
    simpa using h
  · rw [hb] at h
    ((conv => whnf); simp only [St.mk.injEq, List.cons.injEq, Prod.mk.injEq, AV.c.injEq, AV.agg.injEq, AV.tup.injEq, CV.d.injEq, D.int.injEq, D.bool.injEq, D.str.injEq, D.sl.injEq, Ent.arr.injEq, Ent.box.injEq, true_and, and_true, and_self, nInt_eq, Int.natCast_zero, dLen_eL, sLen_eq, iLe])
    simpa using h


theorem slices_IndexFunc_Lint_int_2 (xs : List (Int)) (g : FuncId) (d0 d1 : D) (p : Int → Bool) (hp : ∀ x ∈ xs, FnSpec PR g [ai x, .c (.d d0), .c (.d d1)] (ab (p x)) [] 0) (hl : xs.length ≤ 9223372036854775807) :
    FnSpec PR f_slices_IndexFunc_Lint_int [aIs xs, .c (.d (.fn g [d0, d1]))] (ai (idxL p xs 0)) [] 0 := by
  refine FnSpec.intro hT p_slices_IndexFunc_Lint_int rfl (by kernel_rfl) n_slices_IndexFunc_Lint_int rfl ?_
  conv => whnf
  refine tri_loop hT [0, 1, 7, 8] (α := Nat) (fun k => { t := [(0, aIs xs), (1, .c (.d (.fn g [d0, d1]))), (7, ai xs.length), (8, ai k)], h := [], n := 0, N := 19 })
    (fun k => k ≤ xs.length ∧ idxL p (xs.drop k) k = idxL p xs 0) (fun k => xs.length - k) 0 (by ((conv => whnf); simp only [St.mk.injEq, List.cons.injEq, Prod.mk.injEq, AV.c.injEq, AV.agg.injEq, AV.tup.injEq, CV.d.injEq, D.int.injEq, D.bool.injEq, D.str.injEq, D.sl.injEq, Ent.arr.injEq, Ent.box.injEq, true_and, and_true, and_self, nInt_eq, Int.natCast_zero, dLen_eL, sLen_eq])) ⟨Nat.zero_le _, rfl⟩ ?_
  intro k ⟨hk, hi⟩
  (conv => whnf)
  refine ifB_i (fun h1 => ?_) (fun h1 => ?_) <;> (conv => whnf) <;> simp at h1
  · obtain ⟨s, hs⟩ := get_lt h1
    rw [drop_at hs, idxL] at hi
    refine idx_at (by simp) hs ?_
    (conv => whnf)
    refine .inl ⟨_, _, _, hp s (List.mem_of_getElem? hs), rfl, ?_⟩
    (conv => whnf)
    refine ifB_i (fun h2 => ?_) (fun h2 => ?_) <;> (conv => whnf)
    · rw [if_pos h2] at hi
      ((conv => whnf); simp only [St.mk.injEq, List.cons.injEq, Prod.mk.injEq, AV.c.injEq, AV.agg.injEq, AV.tup.injEq, CV.d.injEq, D.int.injEq, D.bool.injEq, D.str.injEq, D.sl.injEq, Ent.arr.injEq, Ent.box.injEq, true_and, and_true, and_self, nInt_eq, Int.natCast_zero, dLen_eL, sLen_eq, hi])
    · rw [if_neg (by simp [h2])] at hi
      refine ⟨k + 1, by omega, ⟨h1, hi⟩, ?_⟩
      ((conv => whnf); simp only [St.mk.injEq, List.cons.injEq, Prod.mk.injEq, AV.c.injEq, AV.agg.injEq, AV.tup.injEq, CV.d.injEq, D.int.injEq, D.bool.injEq, D.str.injEq, D.sl.injEq, Ent.arr.injEq, Ent.box.injEq, true_and, and_true, and_self, nInt_eq, Int.natCast_zero, dLen_eL, sLen_eq, wI h1 hl])
  · obtain rfl : k = xs.length := by omega
    simp only [List.drop_length, idxL] at hi
    ((conv => whnf); simp only [St.mk.injEq, List.cons.injEq, Prod.mk.injEq, AV.c.injEq, AV.agg.injEq, AV.tup.injEq, CV.d.injEq, D.int.injEq, D.bool.injEq, D.str.injEq, D.sl.injEq, Ent.arr.injEq, Ent.box.injEq, true_and, and_true, and_self, nInt_eq, Int.natCast_zero, dLen_eL, sLen_eq, ← hi])


theorem slices_ContainsFunc_Lint_int_2 (xs : List (Int)) (g : FuncId) (d0 d1 : D) (p : Int → Bool) (hp : ∀ x ∈ xs, FnSpec PR g [ai x, .c (.d d0), .c (.d d1)] (ab (p x)) [] 0) (hl : xs.length ≤ 9223372036854775807) :
    FnSpec PR f_slices_ContainsFunc_Lint_int [aIs xs, .c (.d (.fn g [d0, d1]))] (ab (xs.any p)) [] 0 := by
  refine FnSpec.intro hT p_slices_ContainsFunc_Lint_int rfl (by kernel_rfl) n_slices_ContainsFunc_Lint_int rfl ?_
  conv => whnf
  refine .inl ⟨_, _, _, slices_IndexFunc_Lint_int_2 xs g d0 d1 p hp hl, rfl, ?_⟩
  (conv => whnf)
  have h := idxL_any p xs 0
  cases hb : xs.any p
  · rw [hb] at h
    ((conv => whnf); simp only [St.mk.injEq, List.cons.injEq, Prod.mk.injEq, AV.c.injEq, AV.agg.injEq, AV.tup.injEq, CV.d.injEq, D.int.injEq, D.bool.injEq, D.str.injEq, D.sl.injEq, Ent.arr.injEq, Ent.box.injEq, true_and, and_true, and_self, nInt_eq, Int.natCast_zero, dLen_eL, sLen_eq, iLe])
    simpa using h
  · rw [hb] at h
    ((conv => whnf); simp only [St.mk.injEq, List.cons.injEq, Prod.mk.injEq, AV.c.injEq, AV.agg.injEq, AV.tup.injEq, CV.d.injEq, D.int.injEq, D.bool.injEq, D.str.injEq, D.sl.injEq, Ent.arr.injEq, Ent.box.injEq, true_and, and_true, and_self, nInt_eq, Int.natCast_zero, dLen_eL, sLen_eq, iLe])
    simpa using h


theorem slices_IndexFunc_LLint_Lint_0 (xs : List (List Int)) (g : FuncId) (p : List Int → Bool) (hp : ∀ x ∈ xs, FnSpec PR g [aIs x] (ab (p x)) [] 0) (hl : xs.length ≤ 9223372036854775807) :
    FnSpec PR f_slices_IndexFunc_LLint_Lint [aIss xs, .c (.d (.fn g []))] (ai (idxL p xs 0)) [] 0 := by
  refine FnSpec.intro hT p_slices_IndexFunc_LLint_Lint rfl (by kernel_rfl) n_slices_IndexFunc_LLint_Lint rfl ?_
  conv => whnf
  refine tri_loop hT [0, 1, 7, 8] (α := Nat) (fun k => { t := [(0, aIss xs), (1, .c (.d (.fn g []))), (7, ai xs.length), (8, ai k)], h := [], n := 0, N := 19 })
    (fun k => k ≤ xs.length ∧ idxL p (xs.drop k) k = idxL p xs 0) (fun k => xs.length - k) 0 (by ((conv => whnf); simp only [St.mk.injEq, List.cons.injEq, Prod.mk.injEq, AV.c.injEq, AV.agg.injEq, AV.tup.injEq, CV.d.injEq, D.int.injEq, D.bool.injEq, D.str.injEq, D.sl.injEq, Ent.arr.injEq, Ent.box.injEq, true_and, and_true, and_self, nInt_eq, Int.natCast_zero, dLen_eL, sLen_eq])) ⟨Nat.zero_le _, rfl⟩ ?_
  intro k ⟨hk, hi⟩
  (conv => whnf)
  refine ifB_i (fun h1 => ?_) (fun h1 => ?_) <;> (conv => whnf) <;> simp at h1
  · obtain ⟨s, hs⟩ := get_lt h1
    rw [drop_at hs, idxL] at hi
    refine idx_at (by simp) hs ?_
    (conv => whnf)
    refine .inl ⟨_, _, _, hp s (List.mem_of_getElem? hs), rfl, ?_⟩
    (conv => whnf)
    refine ifB_i (fun h2 => ?_) (fun h2 => ?_) <;> (conv => whnf)
    · rw [if_pos h2] at hi
      ((conv => whnf); simp only [St.mk.injEq, List.cons.injEq, Prod.mk.injEq, AV.c.injEq, AV.agg.injEq, AV.tup.injEq, CV.d.injEq, D.int.injEq, D.bool.injEq, D.str.injEq, D.sl.injEq, Ent.arr.injEq, Ent.box.injEq, true_and, and_true, and_self, nInt_eq, Int.natCast_zero, dLen_eL, sLen_eq, hi])
    · rw [if_neg (by simp [h2])] at hi
      refine ⟨k + 1, by omega, ⟨h1, hi⟩, ?_⟩
      ((conv => whnf); simp only [St.mk.injEq, List.cons.injEq, Prod.mk.injEq, AV.c.injEq, AV.agg.injEq, AV.tup.injEq, CV.d.injEq, D.int.injEq, D.bool.injEq, D.str.injEq, D.sl.injEq, Ent.arr.injEq, Ent.box.injEq, true_and, and_true, and_self, nInt_eq, Int.natCast_zero, dLen_eL, sLen_eq, wI h1 hl])
  · obtain rfl : k = xs.length := by omega
    simp only [List.drop_length, idxL] at hi
    ((conv => whnf); simp only [St.mk.injEq, List.cons.injEq, Prod.mk.injEq, AV.c.injEq, AV.agg.injEq, AV.tup.injEq, CV.d.injEq, D.int.injEq, D.bool.injEq, D.str.injEq, D.sl.injEq, Ent.arr.injEq, Ent.box.injEq, true_and, and_true, and_self, nInt_eq, Int.natCast_zero, dLen_eL, sLen_eq, ← hi])


theorem slices_ContainsFunc_LLint_Lint_0 (xs : List (List Int)) (g : FuncId) (p : List Int → Bool) (hp : ∀ x ∈ xs, FnSpec PR g [aIs x] (ab (p x)) [] 0) (hl : xs.length ≤ 9223372036854775807) :
    FnSpec PR f_slices_ContainsFunc_LLint_Lint [aIss xs, .c (.d (.fn g []))] (ab (xs.any p)) [] 0 := by
  refine FnSpec.intro hT p_slices_ContainsFunc_LLint_Lint rfl (by kernel_rfl) n_slices_ContainsFunc_LLint_Lint rfl ?_
  conv => whnf
  refine .inl ⟨_, _, _, slices_IndexFunc_LLint_Lint_0 xs g  p hp hl, rfl, ?_⟩
  (conv => whnf)
  have h := idxL_any p xs 0
  cases hb : xs.any p
  · rw [hb] at h
    ((conv => whnf); simp only [St.mk.injEq, List.cons.injEq, Prod.mk.injEq, AV.c.injEq, AV.agg.injEq, AV.tup.injEq, CV.d.injEq, D.int.injEq, D.bool.injEq, D.str.injEq, D.sl.injEq, Ent.arr.injEq, Ent.box.injEq, true_and, and_true, and_self, nInt_eq, Int.natCast_zero, dLen_eL, sLen_eq, iLe])
    simpa using h
  · rw [hb] at h
    ((conv => whnf); simp only [St.mk.injEq, List.cons.injEq, Prod.mk.injEq, AV.c.injEq, AV.agg.injEq, AV.tup.injEq, CV.d.injEq, D.int.injEq, D.bool.injEq, D.str.injEq, D.sl.injEq, Ent.arr.injEq, Ent.box.injEq, true_and, and_true, and_self, nInt_eq, Int.natCast_zero, dLen_eL, sLen_eq, iLe])
    simpa using h


theorem slices_IndexFunc_LLint_Lint_1 (xs : List (List Int)) (g : FuncId) (d0 : D) (p : List Int → Bool) (hp : ∀ x ∈ xs, FnSpec PR g [aIs x, .c (.d d0)] (ab (p x)) [] 0) (hl : xs.length ≤ 9223372036854775807) :
    FnSpec PR f_slices_IndexFunc_LLint_Lint [aIss xs, .c (.d (.fn g [d0]))] (ai (idxL p xs 0)) [] 0 := by
  refine FnSpec.intro hT p_slices_IndexFunc_LLint_Lint rfl (by kernel_rfl) n_slices_IndexFunc_LLint_Lint rfl ?_
  conv => whnf
  refine tri_loop hT [0, 1, 7, 8] (α := Nat) (fun k => { t := [(0, aIss xs), (1, .c (.d (.fn g [d0]))), (7, ai xs.length), (8, ai k)], h := [], n := 0, N := 19 })
    (fun k => k ≤ xs.length ∧ idxL p (xs.drop k) k = idxL p xs 0) (fun k => xs.length - k) 0 (by ((conv => whnf); simp only [St.mk.injEq, List.cons.injEq, Prod.mk.injEq, AV.c.injEq, AV.agg.injEq, AV.tup.injEq, CV.d.injEq, D.int.injEq, D.bool.injEq, D.str.injEq, D.sl.injEq, Ent.arr.injEq, Ent.box.injEq, true_and, and_true, and_self, nInt_eq, Int.natCast_zero, dLen_eL, sLen_eq])) ⟨Nat.zero_le _, rfl⟩ ?_
  intro k ⟨hk, hi⟩
  (conv => whnf)
  refine ifB_i (fun h1 => ?_) (fun h1 => ?_) <;> (conv => whnf) <;> simp at h1
  · obtain ⟨s, hs⟩ := get_lt h1
    rw [drop_at hs, idxL] at hi
    refine idx_at (by simp) hs ?_
    (conv => whnf)
    refine .inl ⟨_, _, _, hp s (List.mem_of_getElem? hs), rfl, ?_⟩
    (conv => whnf)
    refine ifB_i (fun h2 => ?_) (fun h2 => ?_) <;> (conv => whnf)
    · rw [if_pos h2] at hi
      ((conv => whnf); simp only [St.mk.injEq, List.cons.injEq, Prod.mk.injEq, AV.c.injEq, AV.agg.injEq, AV.tup.injEq, CV.d.injEq, D.int.injEq, D.bool.injEq, D.str.injEq, D.sl.injEq, Ent.arr.injEq, Ent.box.injEq, true_and, and_true, and_self, nInt_eq, Int.natCast_zero, dLen_eL, sLen_eq, hi])
    · rw [if_neg (by simp [h2])] at hi
      refine ⟨k + 1, by omega, ⟨h1, hi⟩, ?_⟩
      ((conv => whnf); simp only [St.mk.injEq, List.cons.injEq, Prod.mk.injEq, AV.c.injEq, AV.agg.injEq, AV.tup.injEq, CV.d.injEq, D.int.injEq, D.bool.injEq, D.str.injEq, D.sl.injEq, Ent.arr.injEq, Ent.box.injEq, true_and, and_true, and_self, nInt_eq, Int.natCast_zero, dLen_eL, sLen_eq, wI h1 hl])
  · obtain rfl : k = xs.length := by omega
    simp only [List.drop_length, idxL] at hi
    ((conv => whnf); simp only [St.mk.injEq, List.cons.injEq, Prod.mk.injEq, AV.c.injEq, AV.agg.injEq, AV.tup.injEq, CV.d.injEq, D.int.injEq, D.bool.injEq, D.str.injEq, D.sl.injEq, Ent.arr.injEq, Ent.box.injEq, true_and, and_true, and_self, nInt_eq, Int.natCast_zero, dLen_eL, sLen_eq, ← hi])


theorem slices_ContainsFunc_LLint_Lint_1 (xs : List (List Int)) (g : FuncId) (d0 : D) (p : List Int → Bool) (hp : ∀ x ∈ xs, FnSpec PR g [aIs x, .c (.d d0)] (ab (p x)) [] 0) (hl : xs.length ≤ 9223372036854775807) :
    FnSpec PR f_slices_ContainsFunc_LLint_Lint [aIss xs, .c (.d (.fn g [d0]))] (ab (xs.any p)) [] 0 := by
  refine FnSpec.intro hT p_slices_ContainsFunc_LLint_Lint rfl (by kernel_rfl) n_slices_ContainsFunc_LLint_Lint rfl ?_
  conv => whnf
  refine .inl ⟨_, _, _, slices_IndexFunc_LLint_Lint_1 xs g d0 p hp hl, rfl, ?_⟩
  (conv => whnf)
  have h := idxL_any p xs 0
  cases hb : xs.any p
  · rw [hb] at h
    ((conv => whnf); simp only [St.mk.injEq, List.cons.injEq, Prod.mk.injEq, AV.c.injEq, AV.agg.injEq, AV.tup.injEq, CV.d.injEq, D.int.injEq, D.bool.injEq, D.str.injEq, D.sl.injEq, Ent.arr.injEq, Ent.box.injEq, true_and, and_true, and_self, nInt_eq, Int.natCast_zero, dLen_eL, sLen_eq, iLe])
    simpa using h
  · rw [hb] at h
    ((conv => whnf); simp only [St.mk.injEq, List.cons.injEq, Prod.mk.injEq, AV.c.injEq, AV.agg.injEq, AV.tup.injEq, CV.d.injEq, D.int.injEq, D.bool.injEq, D.str.injEq, D.sl.injEq, Ent.arr.injEq, Ent.box.injEq, true_and, and_true, and_self, nInt_eq, Int.natCast_zero, dLen_eL, sLen_eq, iLe])
    simpa using h


theorem slices_IndexFunc_LLint_Lint_2 (xs : List (List Int)) (g : FuncId) (d0 d1 : D) (p : List Int → Bool) (hp : ∀ x ∈ xs, FnSpec PR g [aIs x, .c (.d d0), .c (.d d1)] (ab (p x)) [] 0) (hl : xs.length ≤ 9223372036854775807) :
    FnSpec PR f_slices_IndexFunc_LLint_Lint [aIss xs, .c (.d (.fn g [d0, d1]))] (ai (idxL p xs 0)) [] 0 := by
  refine FnSpec.intro hT p_slices_IndexFunc_LLint_Lint rfl (by kernel_rfl) n_slices_IndexFunc_LLint_Lint rfl ?_
  conv => whnf
  refine tri_loop hT [0, 1, 7, 8] (α := Nat) (fun k => { t := [(0, aIss xs), (1, .c (.d (.fn g [d0, d1]))), (7, ai xs.length), (8, ai k)], h := [], n := 0, N := 19 })
    (fun k => k ≤ xs.length ∧ idxL p (xs.drop k) k = idxL p xs 0) (fun k => xs.length - k) 0 (by ((conv => whnf); simp only [St.mk.injEq, List.cons.injEq, Prod.mk.injEq, AV.c.injEq, AV.agg.injEq, AV.tup.injEq, CV.d.injEq, D.int.injEq, D.bool.injEq, D.str.injEq, D.sl.injEq, Ent.arr.injEq, Ent.box.injEq, true_and, and_true, and_self, nInt_eq, Int.natCast_zero, dLen_eL, sLen_eq])) ⟨Nat.zero_le _, rfl⟩ ?_
  intro k ⟨hk, hi⟩
  (conv => whnf)
  refine ifB_i (fun h1 => ?_) (fun h1 => ?_) <;> (conv => whnf) <;> simp at h1
  · obtain ⟨s, hs⟩ := get_lt h1
    rw [drop_at hs, idxL] at hi
    refine idx_at (by simp) hs ?_
    (conv => whnf)
    refine .inl ⟨_, _, _, hp s (List.mem_of_getElem? hs), rfl, ?_⟩
    (conv => whnf)
    refine ifB_i (fun h2 => ?_) (fun h2 => ?_) <;> (conv => whnf)
    · rw [if_pos h2] at hi
      ((conv => whnf); simp only [St.mk.injEq, List.cons.injEq, Prod.mk.injEq, AV.c.injEq, AV.agg.injEq, AV.tup.injEq, CV.d.injEq, D.int.injEq, D.bool.injEq, D.str.injEq, D.sl.injEq, Ent.arr.injEq, Ent.box.injEq, true_and, and_true, and_self, nInt_eq, Int.natCast_zero, dLen_eL, sLen_eq, hi])
    · rw [if_neg (by simp [h2])] at hi
      refine ⟨k + 1, by omega, ⟨h1, hi⟩, ?_⟩
      ((conv => whnf); simp only [St.mk.injEq, List.cons.injEq, Prod.mk.injEq, AV.c.injEq, AV.agg.injEq, AV.tup.injEq, CV.d.injEq, D.int.injEq, D.bool.injEq, D.str.injEq, D.sl.injEq, Ent.arr.injEq, Ent.box.injEq, true_and, and_true, and_self, nInt_eq, Int.natCast_zero, dLen_eL, sLen_eq, wI h1 hl])
  · obtain rfl : k = xs.length := by omega
    simp only [List.drop_length, idxL] at hi
    ((conv => whnf); simp only [St.mk.injEq, List.cons.injEq, Prod.mk.injEq, AV.c.injEq, AV.agg.injEq, AV.tup.injEq, CV.d.injEq, D.int.injEq, D.bool.injEq, D.str.injEq, D.sl.injEq, Ent.arr.injEq, Ent.box.injEq, true_and, and_true, and_self, nInt_eq, Int.natCast_zero, dLen_eL, sLen_eq, ← hi])


theorem slices_ContainsFunc_LLint_Lint_2 (xs : List (List Int)) (g : FuncId) (d0 d1 : D) (p : List Int → Bool) (hp : ∀ x ∈ xs, FnSpec PR g [aIs x, .c (.d d0), .c (.d d1)] (ab (p x)) [] 0) (hl : xs.length ≤ 9223372036854775807) :
    FnSpec PR f_slices_ContainsFunc_LLint_Lint [aIss xs, .c (.d (.fn g [d0, d1]))] (ab (xs.any p)) [] 0 := by
  refine FnSpec.intro hT p_slices_ContainsFunc_LLint_Lint rfl (by kernel_rfl) n_slices_ContainsFunc_LLint_Lint rfl ?_
  conv => whnf
  refine .inl ⟨_, _, _, slices_IndexFunc_LLint_Lint_2 xs g d0 d1 p hp hl, rfl, ?_⟩
  (conv => whnf)
  have h := idxL_any p xs 0
  cases hb : xs.any p
  · rw [hb] at h
    ((conv => whnf); simp only [St.mk.injEq, List.cons.injEq, Prod.mk.injEq, AV.c.injEq, AV.agg.injEq, AV.tup.injEq, CV.d.injEq, D.int.injEq, D.bool.injEq, D.str.injEq, D.sl.injEq, Ent.arr.injEq, Ent.box.injEq, true_and, and_true, and_self, nInt_eq, Int.natCast_zero, dLen_eL, sLen_eq, iLe])
    simpa using h
  · rw [hb] at h
    ((conv => whnf); simp only [St.mk.injEq, List.cons.injEq, Prod.mk.injEq, AV.c.injEq, AV.agg.injEq, AV.tup.injEq, CV.d.injEq, D.int.injEq, D.bool.injEq, D.str.injEq, D.sl.injEq, Ent.arr.injEq, Ent.box.injEq, true_and, and_true, and_self, nInt_eq, Int.natCast_zero, dLen_eL, sLen_eq, iLe])
    simpa using h


theorem slices_IndexFunc_Limpl_Node_impl_Node_0 (xs : List (Nd)) (g : FuncId) (p : Nd → Bool) (hp : ∀ x ∈ xs, FnSpec PR g [aN x] (ab (p x)) [] 0) (hl : xs.length ≤ 9223372036854775807) :
    FnSpec PR f_slices_IndexFunc_Limpl_Node_impl_Node [aNs xs, .c (.d (.fn g []))] (ai (idxL p xs 0)) [] 0 := by
  refine FnSpec.intro hT p_slices_IndexFunc_Limpl_Node_impl_Node rfl (by kernel_rfl) n_slices_IndexFunc_Limpl_Node_impl_Node rfl ?_
  conv => whnf
  refine tri_loop hT [0, 1, 7, 8] (α := Nat) (fun k => { t := [(0, aNs xs), (1, .c (.d (.fn g []))), (7, ai xs.length), (8, ai k)], h := [], n := 0, N := 19 })
    (fun k => k ≤ xs.length ∧ idxL p (xs.drop k) k = idxL p xs 0) (fun k => xs.length - k) 0 (by ((conv => whnf); simp only [St.mk.injEq, List.cons.injEq, Prod.mk.injEq, AV.c.injEq, AV.agg.injEq, AV.tup.injEq, CV.d.injEq, D.int.injEq, D.bool.injEq, D.str.injEq, D.sl.injEq, Ent.arr.injEq, Ent.box.injEq, true_and, and_true, and_self, nInt_eq, Int.natCast_zero, dLen_eL, sLen_eq])) ⟨Nat.zero_le _, rfl⟩ ?_
  intro k ⟨hk, hi⟩
  (conv => whnf)
  refine ifB_i (fun h1 => ?_) (fun h1 => ?_) <;> (conv => whnf) <;> simp at h1
  · obtain ⟨s, hs⟩ := get_lt h1
    rw [drop_at hs, idxL] at hi
    refine idx_at (by simp) hs ?_
    (conv => whnf)
    refine .inl ⟨_, _, _, hp s (List.mem_of_getElem? hs), rfl, ?_⟩
    (conv => whnf)
    refine ifB_i (fun h2 => ?_) (fun h2 => ?_) <;> (conv => whnf)
    · rw [if_pos h2] at hi
      ((conv => whnf); simp only [St.mk.injEq, List.cons.injEq, Prod.mk.injEq, AV.c.injEq, AV.agg.injEq, AV.tup.injEq, CV.d.injEq, D.int.injEq, D.bool.injEq, D.str.injEq, D.sl.injEq, Ent.arr.injEq, Ent.box.injEq, true_and, and_true, and_self, nInt_eq, Int.natCast_zero, dLen_eL, sLen_eq, hi])
    · rw [if_neg (by simp [h2])] at hi
      refine ⟨k + 1, by omega, ⟨h1, hi⟩, ?_⟩
      ((conv => whnf); simp only [St.mk.injEq, List.cons.injEq, Prod.mk.injEq, AV.c.injEq, AV.agg.injEq, AV.tup.injEq, CV.d.injEq, D.int.injEq, D.bool.injEq, D.str.injEq, D.sl.injEq, Ent.arr.injEq, Ent.box.injEq, true_and, and_true, and_self, nInt_eq, Int.natCast_zero, dLen_eL, sLen_eq, wI h1 hl])
  · obtain rfl : k = xs.length := by omega
    simp only [List.drop_length, idxL] at hi
    ((conv => whnf); simp only [St.mk.injEq, List.cons.injEq, Prod.mk.injEq, AV.c.injEq, AV.agg.injEq, AV.tup.injEq, CV.d.injEq, D.int.injEq, D.bool.injEq, D.str.injEq, D.sl.injEq, Ent.arr.injEq, Ent.box.injEq, true_and, and_true, and_self, nInt_eq, Int.natCast_zero, dLen_eL, sLen_eq, ← hi])


theorem slices_IndexFunc_Limpl_Node_impl_Node_1 (xs : List (Nd)) (g : FuncId) (d0 : D) (p : Nd → Bool) (hp : ∀ x ∈ xs, FnSpec PR g [aN x, .c (.d d0)] (ab (p x)) [] 0) (hl : xs.length ≤ 9223372036854775807) :
    FnSpec PR f_slices_IndexFunc_Limpl_Node_impl_Node [aNs xs, .c (.d (.fn g [d0]))] (ai (idxL p xs 0)) [] 0 := by
  refine FnSpec.intro hT p_slices_IndexFunc_Limpl_Node_impl_Node rfl (by kernel_rfl) n_slices_IndexFunc_Limpl_Node_impl_Node rfl ?_
  conv => whnf
  refine tri_loop hT [0, 1, 7, 8] (α := Nat) (fun k => { t := [(0, aNs xs), (1, .c (.d (.fn g [d0]))), (7, ai xs.length), (8, ai k)], h := [], n := 0, N := 19 })
    (fun k => k ≤ xs.length ∧ idxL p (xs.drop k) k = idxL p xs 0) (fun k => xs.length - k) 0 (by ((conv => whnf); simp only [St.mk.injEq, List.cons.injEq, Prod.mk.injEq, AV.c.injEq, AV.agg.injEq, AV.tup.injEq, CV.d.injEq, D.int.injEq, D.bool.injEq, D.str.injEq, D.sl.injEq, Ent.arr.injEq, Ent.box.injEq, true_and, and_true, and_self, nInt_eq, Int.natCast_zero, dLen_eL, sLen_eq])) ⟨Nat.zero_le _, rfl⟩ ?_
  intro k ⟨hk, hi⟩
  (conv => whnf)
  refine ifB_i (fun h1 => ?_) (fun h1 => ?_) <;> (conv => whnf) <;> simp at h1
  · obtain ⟨s, hs⟩ := get_lt h1
    rw [drop_at hs, idxL] at hi
    refine idx_at (by simp) hs ?_
    (conv => whnf)
    refine .inl ⟨_, _, _, hp s (List.mem_of_getElem? hs), rfl, ?_⟩
    (conv => whnf)
    refine ifB_i (fun h2 => ?_) (fun h2 => ?_) <;> (conv => whnf)
    · rw [if_pos h2] at hi
      ((conv => whnf); simp only [St.mk.injEq, List.cons.injEq, Prod.mk.injEq, AV.c.injEq, AV.agg.injEq, AV.tup.injEq, CV.d.injEq, D.int.injEq, D.bool.injEq, D.str.injEq, D.sl.injEq, Ent.arr.injEq, Ent.box.injEq, true_and, and_true, and_self, nInt_eq, Int.natCast_zero, dLen_eL, sLen_eq, hi])
    · rw [if_neg (by simp [h2])] at hi
      refine ⟨k + 1, by omega, ⟨h1, hi⟩, ?_⟩
      ((conv => whnf); simp only [St.mk.injEq, List.cons.injEq, Prod.mk.injEq, AV.c.injEq, AV.agg.injEq, AV.tup.injEq, CV.d.injEq, D.int.injEq, D.bool.injEq, D.str.injEq, D.sl.injEq, Ent.arr.injEq, Ent.box.injEq, true_and, and_true, and_self, nInt_eq, Int.natCast_zero, dLen_eL, sLen_eq, wI h1 hl])
  · obtain rfl : k = xs.length := by omega
    simp only [List.drop_length, idxL] at hi
    ((conv => whnf); simp only [St.mk.injEq, List.cons.injEq, Prod.mk.injEq, AV.c.injEq, AV.agg.injEq, AV.tup.injEq, CV.d.injEq, D.int.injEq, D.bool.injEq, D.str.injEq, D.sl.injEq, Ent.arr.injEq, Ent.box.injEq, true_and, and_true, and_self, nInt_eq, Int.natCast_zero, dLen_eL, sLen_eq, ← hi])


theorem slices_IndexFunc_Limpl_Node_impl_Node_2 (xs : List (Nd)) (g : FuncId) (d0 d1 : D) (p : Nd → Bool) (hp : ∀ x ∈ xs, FnSpec PR g [aN x, .c (.d d0), .c (.d d1)] (ab (p x)) [] 0) (hl : xs.length ≤ 9223372036854775807) :
    FnSpec PR f_slices_IndexFunc_Limpl_Node_impl_Node [aNs xs, .c (.d (.fn g [d0, d1]))] (ai (idxL p xs 0)) [] 0 := by
  refine FnSpec.intro hT p_slices_IndexFunc_Limpl_Node_impl_Node rfl (by kernel_rfl) n_slices_IndexFunc_Limpl_Node_impl_Node rfl ?_
  conv => whnf
  refine tri_loop hT [0, 1, 7, 8] (α := Nat) (fun k => { t := [(0, aNs xs), (1, .c (.d (.fn g [d0, d1]))), (7, ai xs.length), (8, ai k)], h := [], n := 0, N := 19 })
    (fun k => k ≤ xs.length ∧ idxL p (xs.drop k) k = idxL p xs 0) (fun k => xs.length - k) 0 (by ((conv => whnf); simp only [St.mk.injEq, List.cons.injEq, Prod.mk.injEq, AV.c.injEq, AV.agg.injEq, AV.tup.injEq, CV.d.injEq, D.int.injEq, D.bool.injEq, D.str.injEq, D.sl.injEq, Ent.arr.injEq, Ent.box.injEq, true_and, and_true, and_self, nInt_eq, Int.natCast_zero, dLen_eL, sLen_eq])) ⟨Nat.zero_le _, rfl⟩ ?_
  intro k ⟨hk, hi⟩
  (conv => whnf)
  refine ifB_i (fun h1 => ?_) (fun h1 => ?_) <;> (conv => whnf) <;> simp at h1
  · obtain ⟨s, hs⟩ := get_lt h1
    rw [drop_at hs, idxL] at hi
    refine idx_at (by simp) hs ?_
    (conv => whnf)
    refine .inl ⟨_, _, _, hp s (List.mem_of_getElem? hs), rfl, ?_⟩
    (conv => whnf)
    refine ifB_i (fun h2 => ?_) (fun h2 => ?_) <;> (conv => whnf)
    · rw [if_pos h2] at hi
      ((conv => whnf); simp only [St.mk.injEq, List.cons.injEq, Prod.mk.injEq, AV.c.injEq, AV.agg.injEq, AV.tup.injEq, CV.d.injEq, D.int.injEq, D.bool.injEq, D.str.injEq, D.sl.injEq, Ent.arr.injEq, Ent.box.injEq, true_and, and_true, and_self, nInt_eq, Int.natCast_zero, dLen_eL, sLen_eq, hi])
    · rw [if_neg (by simp [h2])] at hi
      refine ⟨k + 1, by omega, ⟨h1, hi⟩, ?_⟩
      ((conv => whnf); simp only [St.mk.injEq, List.cons.injEq, Prod.mk.injEq, AV.c.injEq, AV.agg.injEq, AV.tup.injEq, CV.d.injEq, D.int.injEq, D.bool.injEq, D.str.injEq, D.sl.injEq, Ent.arr.injEq, Ent.box.injEq, true_and, and_true, and_self, nInt_eq, Int.natCast_zero, dLen_eL, sLen_eq, wI h1 hl])
  · obtain rfl : k = xs.length := by omega
    simp only [List.drop_length, idxL] at hi
    ((conv => whnf); simp only [St.mk.injEq, List.cons.injEq, Prod.mk.injEq, AV.c.injEq, AV.agg.injEq, AV.tup.injEq, CV.d.injEq, D.int.injEq, D.bool.injEq, D.str.injEq, D.sl.injEq, Ent.arr.injEq, Ent.box.injEq, true_and, and_true, and_self, nInt_eq, Int.natCast_zero, dLen_eL, sLen_eq, ← hi])
end Go.H.S
namespace Go.H.S
open Go Go.Proofs Go.H
attribute [local irreducible] Tri FnSpec FnSpecM
set_option maxRecDepth 100000
set_option linter.unusedSimpArgs false
set_option linter.unusedVariables false


theorem eq_drop {α : Type} [DecidableEq α] {a b : List α} {k : Nat} {x y : α} (hx : a[k]? = some x) (hy : b[k]? = some y) : decide (a.drop k = b.drop k) = (decide (x = y) && decide (a.drop (k + 1) = b.drop (k + 1))) := by
  rw [drop_at hx, drop_at hy, Bool.eq_iff_iff]
  simp
theorem eq_len {α : Type} [DecidableEq α] {a b : List α} (h : a.length ≠ b.length) : decide (a = b) = false := by
  rw [decide_eq_false_iff_not]
  intro e; rw [e] at h; exact h rfl
theorem eqNd_b (x y : Nd) : bAnd (iEq x.f y.f) (bAnd (iEq x.c y.c) (bAnd (iEq x.l y.l) (bAnd (iEq x.r y.r) (bAnd (iEq x.v y.v) true)))) = decide (x = y) := by
  rw [Bool.eq_iff_iff]
  cases x; cases y
  simp

theorem h0_len {a b : Nat} (h : (a : Int) = b) : a = b := by omega

theorem slices_Equal_Lstring_string_spec (a b : List ByteArray) (ha : a.length ≤ 9223372036854775807) : FnSpec PR f_slices_Equal_Lstring_string [aSs a, aSs b] (ab (decide (a = b))) [] 0 := by
  refine FnSpec.intro hT p_slices_Equal_Lstring_string rfl (by kernel_rfl) n_slices_Equal_Lstring_string rfl ?_
  conv => whnf
  refine ifB_i (fun h0 => ?_) (fun h0 => ?_) <;> (conv => whnf) <;> simp only [nInt_eq, Int.natCast_zero, dLen_eL, sLen_eq, nOf_eq, Int.toNat_natCast, nAdd_eq, nSub_eq, dLen_nil, dLen_cons, iLt_t, iLt_f, iLe_t, iLe_f, iEq_t, iEq_f, sEq_t, sEq_f, bNot_t, bNot_f, bAnd_t, bEq_t, bEq_f, Bool.not_eq_true, Bool.not_eq_false, Bool.true_eq_false, Bool.false_eq_true] at h0
  · rw [eq_len (by omega)]
  refine tri_loop hT [0, 1, 12, 13] (α := Nat) (fun x => { t := [(0, aSs a), (1, aSs b), (12, ai a.length), (13, ai x)], h := [], n := 0, N := 26 })
    (fun x => x ≤ a.length ∧ decide (a.drop x = b.drop x) = decide (a = b)) (fun x => a.length - x) 0 (by ((conv => whnf); simp only [St.mk.injEq, List.cons.injEq, Prod.mk.injEq, AV.c.injEq, AV.agg.injEq, AV.tup.injEq, CV.d.injEq, D.int.injEq, D.bool.injEq, D.str.injEq, D.sl.injEq, Ent.arr.injEq, Ent.box.injEq, true_and, and_true, and_self, nInt_eq, Int.natCast_zero, dLen_eL, sLen_eq])) ⟨Nat.zero_le _, rfl⟩ ?_
  intro k ⟨hk, hi⟩
  (conv => whnf)
  refine ifB_i (fun h1 => ?_) (fun h1 => ?_) <;> (conv => whnf) <;> simp at h1
  · obtain ⟨s, hs⟩ := get_lt h1
    obtain ⟨u, hu⟩ := get_lt (l := b) (k := k) (by omega)
    rw [eq_drop hs hu] at hi
    have ht : sEq s u = decide (s = u) := by rw [Bool.eq_iff_iff]; simp
    refine tri_conf hT hmix (by kernel_rfl) ?_
    (conv => whnf)
    refine idx_at (by simp) hs ?_
    (conv => whnf)
    refine idx_at (by simp) hu ?_
    (conv => whnf)
    refine ifB_i (fun h2 => ?_) (fun h2 => ?_) <;> (conv => whnf)
    · have h3 : decide (s = u) = false := by rw [← ht]; exact (bNot_t _).mp h2
      rw [h3] at hi
      simp only [Bool.false_and] at hi
      rw [← hi]
    · have h3 : decide (s = u) = true := by rw [← ht]; exact (bNot_f _).mp h2
      rw [h3] at hi
      refine ⟨k + 1, by omega, ⟨h1, by rw [← hi, Bool.true_and]⟩, ?_⟩
      ((conv => whnf); simp only [St.mk.injEq, List.cons.injEq, Prod.mk.injEq, AV.c.injEq, AV.agg.injEq, AV.tup.injEq, CV.d.injEq, D.int.injEq, D.bool.injEq, D.str.injEq, D.sl.injEq, Ent.arr.injEq, Ent.box.injEq, true_and, and_true, and_self, nInt_eq, Int.natCast_zero, dLen_eL, sLen_eq, wI h1 ha])
  · obtain rfl : k = a.length := by omega
    have : decide (a.drop a.length = b.drop a.length) = true := by simp [List.drop_of_length_le (show b.length ≤ a.length by omega)]
    rw [this] at hi
    rw [← hi]


theorem slices_Equal_Lint_int_spec (a b : List Int) (ha : a.length ≤ 9223372036854775807) : FnSpec PR f_slices_Equal_Lint_int [aIs a, aIs b] (ab (decide (a = b))) [] 0 := by
  refine FnSpec.intro hT p_slices_Equal_Lint_int rfl (by kernel_rfl) n_slices_Equal_Lint_int rfl ?_
  conv => whnf
  refine ifB_i (fun h0 => ?_) (fun h0 => ?_) <;> (conv => whnf) <;> simp only [nInt_eq, Int.natCast_zero, dLen_eL, sLen_eq, nOf_eq, Int.toNat_natCast, nAdd_eq, nSub_eq, dLen_nil, dLen_cons, iLt_t, iLt_f, iLe_t, iLe_f, iEq_t, iEq_f, sEq_t, sEq_f, bNot_t, bNot_f, bAnd_t, bEq_t, bEq_f, Bool.not_eq_true, Bool.not_eq_false, Bool.true_eq_false, Bool.false_eq_true] at h0
  · rw [eq_len (by omega)]
  refine tri_loop hT [0, 1, 12, 13] (α := Nat) (fun x => { t := [(0, aIs a), (1, aIs b), (12, ai a.length), (13, ai x)], h := [], n := 0, N := 26 })
    (fun x => x ≤ a.length ∧ decide (a.drop x = b.drop x) = decide (a = b)) (fun x => a.length - x) 0 (by ((conv => whnf); simp only [St.mk.injEq, List.cons.injEq, Prod.mk.injEq, AV.c.injEq, AV.agg.injEq, AV.tup.injEq, CV.d.injEq, D.int.injEq, D.bool.injEq, D.str.injEq, D.sl.injEq, Ent.arr.injEq, Ent.box.injEq, true_and, and_true, and_self, nInt_eq, Int.natCast_zero, dLen_eL, sLen_eq])) ⟨Nat.zero_le _, rfl⟩ ?_
  intro k ⟨hk, hi⟩
  (conv => whnf)
  refine ifB_i (fun h1 => ?_) (fun h1 => ?_) <;> (conv => whnf) <;> simp at h1
  · obtain ⟨s, hs⟩ := get_lt h1
    obtain ⟨u, hu⟩ := get_lt (l := b) (k := k) (by omega)
    rw [eq_drop hs hu] at hi
    have ht : iEq s u = decide (s = u) := rfl
    refine tri_conf hT hmix (by kernel_rfl) ?_
    (conv => whnf)
    refine idx_at (by simp) hs ?_
    (conv => whnf)
    refine idx_at (by simp) hu ?_
    (conv => whnf)
    refine ifB_i (fun h2 => ?_) (fun h2 => ?_) <;> (conv => whnf)
    · have h3 : decide (s = u) = false := by rw [← ht]; exact (bNot_t _).mp h2
      rw [h3] at hi
      simp only [Bool.false_and] at hi
      rw [← hi]
    · have h3 : decide (s = u) = true := by rw [← ht]; exact (bNot_f _).mp h2
      rw [h3] at hi
      refine ⟨k + 1, by omega, ⟨h1, by rw [← hi, Bool.true_and]⟩, ?_⟩
      ((conv => whnf); simp only [St.mk.injEq, List.cons.injEq, Prod.mk.injEq, AV.c.injEq, AV.agg.injEq, AV.tup.injEq, CV.d.injEq, D.int.injEq, D.bool.injEq, D.str.injEq, D.sl.injEq, Ent.arr.injEq, Ent.box.injEq, true_and, and_true, and_self, nInt_eq, Int.natCast_zero, dLen_eL, sLen_eq, wI h1 ha])
  · obtain rfl : k = a.length := by omega
    have : decide (a.drop a.length = b.drop a.length) = true := by simp [List.drop_of_length_le (show b.length ≤ a.length by omega)]
    rw [this] at hi
    rw [← hi]


theorem slices_Equal_Limpl_Node_impl_Node_spec (a b : List Nd) (ha : a.length ≤ 9223372036854775807) : FnSpec PR f_slices_Equal_Limpl_Node_impl_Node [aNs a, aNs b] (ab (decide (a = b))) [] 0 := by
  refine FnSpec.intro hT p_slices_Equal_Limpl_Node_impl_Node rfl (by kernel_rfl) n_slices_Equal_Limpl_Node_impl_Node rfl ?_
  conv => whnf
  refine ifB_i (fun h0 => ?_) (fun h0 => ?_) <;> (conv => whnf) <;> simp only [nInt_eq, Int.natCast_zero, dLen_eL, sLen_eq, nOf_eq, Int.toNat_natCast, nAdd_eq, nSub_eq, dLen_nil, dLen_cons, iLt_t, iLt_f, iLe_t, iLe_f, iEq_t, iEq_f, sEq_t, sEq_f, bNot_t, bNot_f, bAnd_t, bEq_t, bEq_f, Bool.not_eq_true, Bool.not_eq_false, Bool.true_eq_false, Bool.false_eq_true] at h0
  · rw [eq_len (by omega)]
  refine tri_loop hT [0, 1, 12, 13] (α := Nat) (fun x => { t := [(0, aNs a), (1, aNs b), (12, ai a.length), (13, ai x)], h := [], n := 0, N := 26 })
    (fun x => x ≤ a.length ∧ decide (a.drop x = b.drop x) = decide (a = b)) (fun x => a.length - x) 0 (by ((conv => whnf); simp only [St.mk.injEq, List.cons.injEq, Prod.mk.injEq, AV.c.injEq, AV.agg.injEq, AV.tup.injEq, CV.d.injEq, D.int.injEq, D.bool.injEq, D.str.injEq, D.sl.injEq, Ent.arr.injEq, Ent.box.injEq, true_and, and_true, and_self, nInt_eq, Int.natCast_zero, dLen_eL, sLen_eq])) ⟨Nat.zero_le _, rfl⟩ ?_
  intro k ⟨hk, hi⟩
  (conv => whnf)
  refine ifB_i (fun h1 => ?_) (fun h1 => ?_) <;> (conv => whnf) <;> simp at h1
  · obtain ⟨s, hs⟩ := get_lt h1
    obtain ⟨u, hu⟩ := get_lt (l := b) (k := k) (by omega)
    rw [eq_drop hs hu] at hi
    have ht := eqNd_b s u
    refine tri_conf hT hmix (by kernel_rfl) ?_
    (conv => whnf)
    refine idx_at (by simp) hs ?_
    (conv => whnf)
    refine idx_at (by simp) hu ?_
    (conv => whnf)
    refine ifB_i (fun h2 => ?_) (fun h2 => ?_) <;> (conv => whnf)
    · have h3 : decide (s = u) = false := by rw [← ht]; exact (bNot_t _).mp h2
      rw [h3] at hi
      simp only [Bool.false_and] at hi
      rw [← hi]
    · have h3 : decide (s = u) = true := by rw [← ht]; exact (bNot_f _).mp h2
      rw [h3] at hi
      refine ⟨k + 1, by omega, ⟨h1, by rw [← hi, Bool.true_and]⟩, ?_⟩
      ((conv => whnf); simp only [St.mk.injEq, List.cons.injEq, Prod.mk.injEq, AV.c.injEq, AV.agg.injEq, AV.tup.injEq, CV.d.injEq, D.int.injEq, D.bool.injEq, D.str.injEq, D.sl.injEq, Ent.arr.injEq, Ent.box.injEq, true_and, and_true, and_self, nInt_eq, Int.natCast_zero, dLen_eL, sLen_eq, wI h1 ha])
  · obtain rfl : k = a.length := by omega
    have : decide (a.drop a.length = b.drop a.length) = true := by simp [List.drop_of_length_le (show b.length ≤ a.length by omega)]
    rw [this] at hi
    rw [← hi]


theorem spec_l8Ints_spec (a b : List Int) (ha : a.length ≤ 9223372036854775807) : FnSpec PR f_spec_l8Ints [aIs a, aIs b] (ab (decide (a = b))) [] 0 := by
  refine FnSpec.intro hT p_spec_l8Ints rfl (by kernel_rfl) n_spec_l8Ints rfl ?_
  conv => whnf
  refine ifB_i (fun h0 => ?_) (fun h0 => ?_) <;> (conv => whnf) <;> simp only [nInt_eq, Int.natCast_zero, dLen_eL, sLen_eq, nOf_eq, Int.toNat_natCast, nAdd_eq, nSub_eq, dLen_nil, dLen_cons, iLt_t, iLt_f, iLe_t, iLe_f, iEq_t, iEq_f, sEq_t, sEq_f, bNot_t, bNot_f, bAnd_t, bEq_t, bEq_f, Bool.not_eq_true, Bool.not_eq_false, Bool.true_eq_false, Bool.false_eq_true] at h0
  · rw [eq_len (by omega)]
  refine tri_loop hT [0, 1, 5] (α := Nat) (fun x => { t := [(0, aIs a), (1, aIs b), (5, ai x)], h := [], n := 0, N := 26 })
    (fun x => x ≤ a.length ∧ decide (a.drop x = b.drop x) = decide (a = b)) (fun x => a.length - x) 0 (by ((conv => whnf); simp only [St.mk.injEq, List.cons.injEq, Prod.mk.injEq, AV.c.injEq, AV.agg.injEq, AV.tup.injEq, CV.d.injEq, D.int.injEq, D.bool.injEq, D.str.injEq, D.sl.injEq, Ent.arr.injEq, Ent.box.injEq, true_and, and_true, and_self, nInt_eq, Int.natCast_zero, dLen_eL, sLen_eq])) ⟨Nat.zero_le _, rfl⟩ ?_
  intro k ⟨hk, hi⟩
  (conv => whnf)
  refine ifB_i (fun h1 => ?_) (fun h1 => ?_) <;> (conv => whnf) <;> simp at h1
  · obtain ⟨s, hs⟩ := get_lt h1
    obtain ⟨u, hu⟩ := get_lt (l := b) (k := k) (by omega)
    rw [eq_drop hs hu] at hi
    have ht : iEq s u = decide (s = u) := rfl
    refine tri_conf hT hmix (by kernel_rfl) ?_
    (conv => whnf)
    refine idx_at (by simp) hs ?_
    (conv => whnf)
    refine idx_at (by simp) hu ?_
    (conv => whnf)
    refine ifB_i (fun h2 => ?_) (fun h2 => ?_) <;> (conv => whnf)
    · have h3 : decide (s = u) = false := by rw [← ht]; exact (bNot_t _).mp h2
      rw [h3] at hi
      simp only [Bool.false_and] at hi
      rw [← hi]
    · have h3 : decide (s = u) = true := by rw [← ht]; exact (bNot_f _).mp h2
      rw [h3] at hi
      refine ⟨k + 1, by omega, ⟨h1, by rw [← hi, Bool.true_and]⟩, ?_⟩
      ((conv => whnf); simp only [St.mk.injEq, List.cons.injEq, Prod.mk.injEq, AV.c.injEq, AV.agg.injEq, AV.tup.injEq, CV.d.injEq, D.int.injEq, D.bool.injEq, D.str.injEq, D.sl.injEq, Ent.arr.injEq, Ent.box.injEq, true_and, and_true, and_self, nInt_eq, Int.natCast_zero, dLen_eL, sLen_eq, wI h1 ha])
  · obtain rfl : k = a.length := by omega
    have : decide (a.drop a.length = b.drop a.length) = true := by simp [List.drop_of_length_le (show b.length ≤ a.length by omega)]
    rw [this] at hi
    rw [← hi]

theorem spec_SameTree_spec (a b : List Nd) (ha : a.length ≤ 9223372036854775807) : FnSpec PR f_spec_SameTree [aT a, aT b] (ab (decide (a = b))) [] 0 := by
  refine FnSpec.intro hT p_spec_SameTree rfl (by kernel_rfl) n_spec_SameTree rfl ?_
  conv => whnf
  refine ifB_i (fun h0 => ?_) (fun h0 => ?_) <;> (conv => whnf) <;> simp only [nInt_eq, Int.natCast_zero, dLen_eL, sLen_eq, nOf_eq, Int.toNat_natCast, nAdd_eq, nSub_eq, dLen_nil, dLen_cons, iLt_t, iLt_f, iLe_t, iLe_f, iEq_t, iEq_f, sEq_t, sEq_f, bNot_t, bNot_f, bAnd_t, bEq_t, bEq_f, Bool.not_eq_true, Bool.not_eq_false, Bool.true_eq_false, Bool.false_eq_true] at h0
  · rw [eq_len (by omega)]
  refine tri_loop hT [2, 3, 5] (α := Nat) (fun x => { t := [(2, .c (.ptr 0 0)), (3, .c (.ptr 1 0)), (5, ai x)], h := [(0, .box t_impl_Tree (cTr a)), (1, .box t_impl_Tree (cTr b))], n := 2, N := 31 })
    (fun x => x ≤ a.length ∧ decide (a.drop x = b.drop x) = decide (a = b)) (fun x => a.length - x) 0 (by ((conv => whnf); simp only [St.mk.injEq, List.cons.injEq, Prod.mk.injEq, AV.c.injEq, AV.agg.injEq, AV.tup.injEq, CV.d.injEq, D.int.injEq, D.bool.injEq, D.str.injEq, D.sl.injEq, Ent.arr.injEq, Ent.box.injEq, true_and, and_true, and_self, nInt_eq, Int.natCast_zero, dLen_eL, sLen_eq])) ⟨Nat.zero_le _, rfl⟩ ?_
  intro k ⟨hk, hi⟩
  (conv => whnf)
  refine ifB_i (fun h1 => ?_) (fun h1 => ?_) <;> (conv => whnf) <;> simp at h1
  · obtain ⟨s, hs⟩ := get_lt h1
    obtain ⟨u, hu⟩ := get_lt (l := b) (k := k) (by omega)
    rw [eq_drop hs hu] at hi
    have ht := eqNd_b s u
    refine tri_conf hT hmix (by kernel_rfl) ?_
    (conv => whnf)
    refine idx_at (by simp) hs ?_
    (conv => whnf)
    refine idx_at (by simp) hu ?_
    (conv => whnf)
    refine ifB_i (fun h2 => ?_) (fun h2 => ?_) <;> (conv => whnf)
    · have h3 : decide (s = u) = false := by rw [← ht]; exact (bNot_t _).mp h2
      rw [h3] at hi
      simp only [Bool.false_and] at hi
      rw [← hi]
    · have h3 : decide (s = u) = true := by rw [← ht]; exact (bNot_f _).mp h2
      rw [h3] at hi
      refine ⟨k + 1, by omega, ⟨h1, by rw [← hi, Bool.true_and]⟩, ?_⟩
      ((conv => whnf); simp only [St.mk.injEq, List.cons.injEq, Prod.mk.injEq, AV.c.injEq, AV.agg.injEq, AV.tup.injEq, CV.d.injEq, D.int.injEq, D.bool.injEq, D.str.injEq, D.sl.injEq, Ent.arr.injEq, Ent.box.injEq, true_and, and_true, and_self, nInt_eq, Int.natCast_zero, dLen_eL, sLen_eq, wI h1 ha])
  · obtain rfl : k = a.length := by omega
    have : decide (a.drop a.length = b.drop a.length) = true := by simp [List.drop_of_length_le (show b.length ≤ a.length by omega)]
    rw [this] at hi
    rw [← hi]

theorem impl_SameTree_spec (a b : List Nd) (ha : a.length ≤ 9223372036854775807) : FnSpec PR f_impl_SameTree [aT a, aT b] (ab (decide (a = b))) [] 0 := by
  refine FnSpec.intro hT p_impl_SameTree rfl (by kernel_rfl) n_impl_SameTree rfl ?_
  conv => whnf
  refine .inl ⟨_, _, _, slices_Equal_Limpl_Node_impl_Node_spec a b ha, rfl, ?_⟩
  (conv => whnf)
end Go.H.S
namespace Go.H.S
open Go Go.Proofs Go.H
attribute [local irreducible] Tri FnSpec FnSpecM
set_option maxRecDepth 100000
set_option linter.unusedSimpArgs false
set_option linter.unusedVariables false


def signsAll (t : List Nd) : List Int → Nat → Bool
  | [], _ => true
  | s :: r, k => followsL t k s && signsAll t r (k + 1)
def treesAll (ts : List (List Nd)) : List Int → Nat → Bool
  | [], _ => true
  | s :: r, k => ts.all (fun t => followsL t k s) && treesAll ts r (k + 1)
theorem follows_swap (ts : List (List Nd)) : ∀ (ss : List Int) (k : Nat), treesAll ts ss k = ts.all (fun t => signsAll t ss k)
  | [], k => by simp [treesAll, signsAll]
  | s :: r, k => by
    simp only [treesAll, signsAll, follows_swap ts r (k + 1)]
    induction ts with
    | nil => rfl
    | cons t ts ih =>
      simp only [List.all_cons]
      rw [← ih]
      cases followsL t k s <;> cases signsAll t r (k + 1) <;> simp

theorem spec_ModelFollows_spec (m : Mdl) (hs : m.signs.length ≤ 1048576) (hl : m.trees.length ≤ 1048576) (ht : ∀ t ∈ m.trees, t.length ≤ 1048576) : FnSpec PR f_spec_ModelFollows [aM m] (ab (m.trees.all fun t => signsAll t m.signs 0)) [] 0 := by
  refine FnSpec.intro hT p_spec_ModelFollows rfl (by kernel_rfl) n_spec_ModelFollows rfl ?_
  conv => whnf
  refine tri_loop hT [1, 3] (α := Nat) (fun x => { t := [(1, .c (.ptr 0 0)), (3, ai x)], h := [(0, .box t_impl_Model (cM m))], n := 1, N := 32 })
    (fun x => x ≤ m.trees.length ∧ (m.trees.drop x).all (fun t => signsAll t m.signs 0) = m.trees.all (fun t => signsAll t m.signs 0)) (fun x => m.trees.length - x) 0 (by ((conv => whnf); simp only [St.mk.injEq, List.cons.injEq, Prod.mk.injEq, AV.c.injEq, AV.agg.injEq, AV.tup.injEq, CV.d.injEq, D.int.injEq, D.bool.injEq, D.str.injEq, D.sl.injEq, Ent.arr.injEq, Ent.box.injEq, true_and, and_true, and_self, nInt_eq, Int.natCast_zero, dLen_eL, sLen_eq])) ⟨Nat.zero_le _, rfl⟩ ?_
  intro k ⟨hk, hi⟩
  (conv => whnf)
  refine ifB_i (fun h1 => ?_) (fun h1 => ?_) <;> (conv => whnf) <;> simp at h1
  · obtain ⟨t, htk⟩ := get_lt h1
    have htl := ht t (List.mem_of_getElem? htk)
    rw [drop_at htk, List.all_cons] at hi
    refine tri_loop hT [1, 3, 4] (α := Nat) (fun x => { t := [(1, .c (.ptr 0 0)), (3, ai k), (4, ai x)], h := [(0, .box t_impl_Model (cM m))], n := 1, N := 32 })
      (fun x => x ≤ m.signs.length ∧ signsAll t (m.signs.drop x) x = signsAll t m.signs 0) (fun x => m.signs.length - x) 0 (by ((conv => whnf); simp only [St.mk.injEq, List.cons.injEq, Prod.mk.injEq, AV.c.injEq, AV.agg.injEq, AV.tup.injEq, CV.d.injEq, D.int.injEq, D.bool.injEq, D.str.injEq, D.sl.injEq, Ent.arr.injEq, Ent.box.injEq, true_and, and_true, and_self, nInt_eq, Int.natCast_zero, dLen_eL, sLen_eq])) ⟨Nat.zero_le _, rfl⟩ ?_
    intro j ⟨hj, hd⟩
    (conv => whnf)
    refine ifB_i (fun h2 => ?_) (fun h2 => ?_) <;> (conv => whnf) <;> simp at h2
    · obtain ⟨s, hsj⟩ := get_lt h2
      rw [drop_at hsj, signsAll] at hd
      refine tri_conf hT hmix (by kernel_rfl) ?_
      (conv => whnf)
      refine idx_at (by simp) htk ?_
      (conv => whnf)
      refine idx_at (by simp) hsj ?_
      (conv => whnf)
      refine ⟨_, _, spec_TreeFollows_spec t j s htl, rfl, ?_⟩
      (conv => whnf)
      cases hb : followsL t j s <;> (conv => whnf)
      · rw [hb] at hd
        simp at hd
        rw [hd] at hi
        simp only [Bool.false_and] at hi
        rw [← hi]
      · rw [hb] at hd
        refine ⟨j + 1, by omega, ⟨h2, hd⟩, ?_⟩
        ((conv => whnf); simp only [St.mk.injEq, List.cons.injEq, Prod.mk.injEq, AV.c.injEq, AV.agg.injEq, AV.tup.injEq, CV.d.injEq, D.int.injEq, D.bool.injEq, D.str.injEq, D.sl.injEq, Ent.arr.injEq, Ent.box.injEq, true_and, and_true, and_self, nInt_eq, Int.natCast_zero, dLen_eL, sLen_eq, wI h2 (by omega)])
    · obtain rfl : j = m.signs.length := by omega
      simp [signsAll] at hd
      refine ⟨k + 1, by omega, ⟨h1, by rw [← hi, hd]; simp⟩, ?_⟩
      ((conv => whnf); simp only [St.mk.injEq, List.cons.injEq, Prod.mk.injEq, AV.c.injEq, AV.agg.injEq, AV.tup.injEq, CV.d.injEq, D.int.injEq, D.bool.injEq, D.str.injEq, D.sl.injEq, Ent.arr.injEq, Ent.box.injEq, true_and, and_true, and_self, nInt_eq, Int.natCast_zero, dLen_eL, sLen_eq, wI h1 (by omega)])
  · obtain rfl : k = m.trees.length := by omega
    simp only [List.drop_length, List.all_nil] at hi
    ((conv => whnf); simp only [St.mk.injEq, List.cons.injEq, Prod.mk.injEq, AV.c.injEq, AV.agg.injEq, AV.tup.injEq, CV.d.injEq, D.int.injEq, D.bool.injEq, D.str.injEq, D.sl.injEq, Ent.arr.injEq, Ent.box.injEq, true_and, and_true, and_self, nInt_eq, Int.natCast_zero, dLen_eL, sLen_eq, ← hi])

theorem impl_ModelFollows_1_spec (t : List Nd) (f sign : Int) (hl : t.length ≤ 1048576) : FnSpec PR f_impl_ModelFollows_1 [aT t, .c (.d (.rp [.int .i64 f])), .c (.d (.rp [.int .i64 sign]))] (ab (bNot (followsL t f sign))) [] 0 := by
  refine FnSpec.intro hT p_impl_ModelFollows_1 rfl (by kernel_rfl) n_impl_ModelFollows_1 rfl ?_
  conv => whnf
  refine .inl ⟨_, _, _, impl_TreeFollows_spec t f sign hl, rfl, ?_⟩
  (conv => whnf)

theorem impl_ModelFollows_spec (m : Mdl) (hs : m.signs.length ≤ 1048576) (hl : m.trees.length ≤ 1048576) (ht : ∀ t ∈ m.trees, t.length ≤ 1048576) : FnSpec PR f_impl_ModelFollows [aM m] (ab (treesAll m.trees m.signs 0)) [] 0 := by
  refine FnSpec.intro hT p_impl_ModelFollows rfl (by kernel_rfl) n_impl_ModelFollows rfl ?_
  conv => whnf
  refine tri_loop hT [1, 6, 7, 8] (α := Nat) (fun x => { t := [(1, .c (.ptr 0 0)), (6, aIs m.signs), (7, ai m.signs.length), (8, ai x)], h := [(0, .box t_impl_Model (cM m))], n := 1, N := 18 })
    (fun x => x ≤ m.signs.length ∧ treesAll m.trees (m.signs.drop x) x = treesAll m.trees m.signs 0) (fun x => m.signs.length - x) 0 (by ((conv => whnf); simp only [St.mk.injEq, List.cons.injEq, Prod.mk.injEq, AV.c.injEq, AV.agg.injEq, AV.tup.injEq, CV.d.injEq, D.int.injEq, D.bool.injEq, D.str.injEq, D.sl.injEq, Ent.arr.injEq, Ent.box.injEq, true_and, and_true, and_self, nInt_eq, Int.natCast_zero, dLen_eL, sLen_eq])) ⟨Nat.zero_le _, rfl⟩ ?_
  intro k ⟨hk, hi⟩
  (conv => whnf)
  refine ifB_i (fun h1 => ?_) (fun h1 => ?_) <;> (conv => whnf) <;> simp at h1
  · obtain ⟨s, hs'⟩ := get_lt h1
    rw [drop_at hs', treesAll] at hi
    refine idx_at (by simp) hs' ?_
    (conv => whnf)
    refine .inr (.inl ⟨_, _, _, slices_ContainsFunc_Limpl_Tree_impl_Tree_2 m.trees f_impl_ModelFollows_1 (.rp [.int .i64 k]) (.rp [.int .i64 s]) (fun t => bNot (followsL t k s)) (fun t hm => impl_ModelFollows_1_spec t k s (ht t hm)) (by omega), rfl, trivial, ?_⟩)
    (conv => whnf)
    have hany : (m.trees.any fun t => bNot (followsL t k s)) = !(m.trees.all fun t => followsL t k s) := by
      rw [List.not_all_eq_any_not]; rfl
    cases hb : (m.trees.all fun t => followsL t k s) with
    | false =>
      rw [hb] at hany hi
      rw [hany]
      (conv => whnf)
      simp at hi
      rw [← hi]
    | true =>
      rw [hb] at hany hi
      rw [hany]
      (conv => whnf)
      refine ⟨k + 1, by omega, ⟨h1, hi⟩, ?_⟩
      ((conv => whnf); simp only [St.mk.injEq, List.cons.injEq, Prod.mk.injEq, AV.c.injEq, AV.agg.injEq, AV.tup.injEq, CV.d.injEq, D.int.injEq, D.bool.injEq, D.str.injEq, D.sl.injEq, Ent.arr.injEq, Ent.box.injEq, true_and, and_true, and_self, nInt_eq, Int.natCast_zero, dLen_eL, sLen_eq, wI h1 (by omega)])
  · obtain rfl : k = m.signs.length := by omega
    simp [treesAll] at hi
    ((conv => whnf); simp only [St.mk.injEq, List.cons.injEq, Prod.mk.injEq, AV.c.injEq, AV.agg.injEq, AV.tup.injEq, CV.d.injEq, D.int.injEq, D.bool.injEq, D.str.injEq, D.sl.injEq, Ent.arr.injEq, Ent.box.injEq, true_and, and_true, and_self, nInt_eq, Int.natCast_zero, dLen_eL, sLen_eq, ← hi])

theorem law_FnExactModelFollows (m : Mdl) (hm : okModel m ∧ rgModel m) : FnSpec PR f_laws_FnExactModelFollows [aM m] (ab true) [] 0 := by
  refine FnSpec.intro hT p_laws_FnExactModelFollows rfl (by kernel_rfl) n_laws_FnExactModelFollows rfl ?_
  conv => whnf
  refine .inl ⟨_, _, _, szModel_spec m 1048576 (by omega) (by omega) hm.1, rfl, ?_⟩
  (conv => whnf)
  refine ifB_i (fun h => ?_) (fun h => ?_) <;> (conv => whnf) <;> simp only [nInt_eq, Int.natCast_zero, dLen_eL, sLen_eq, nOf_eq, Int.toNat_natCast, nAdd_eq, nSub_eq, dLen_nil, dLen_cons, iLt_t, iLt_f, iLe_t, iLe_f, iEq_t, iEq_f, sEq_t, sEq_f, bNot_t, bNot_f, bAnd_t, bEq_t, bEq_f, Bool.not_eq_true, Bool.not_eq_false, Bool.true_eq_false, Bool.false_eq_true] at h
  have hcost := bud_ok h
  obtain ⟨hsm, hl, hc⟩ := model_small hcost
  have hs : m.signs.length ≤ 1048576 := by unfold costModel at hcost; omega
  have ht : ∀ t ∈ m.trees, t.length ≤ 1048576 := fun t htm => by have := costL_mem List.length htm; omega
  refine .inl ⟨_, _, _, toModel_spec m hsm, rfl, ?_⟩
  (conv => whnf)
  refine .inl ⟨_, _, _, spec_ModelFollows_spec m hs hl ht, rfl, ?_⟩
  (conv => whnf)
  refine .inl ⟨_, _, _, toModel_spec m hsm, rfl, ?_⟩
  (conv => whnf)
  refine .inl ⟨_, _, _, impl_ModelFollows_spec m hs hl ht, rfl, ?_⟩
  rw [follows_swap]
  generalize (m.trees.all fun t => signsAll t m.signs 0) = c
  cases c <;> (conv => whnf)
  all_goals
    refine tri_each hT hmix [26] { t := [(26, ab (bNot true))], h := [], n := 0, N := 27 } rfl ?_ ?_
    · (conv => whnf)
      repeat' first
        | (refine .inl ⟨_, _, _, toModel_spec m hsm, rfl, ?_⟩; (conv => whnf))
        | (refine .inl ⟨_, _, _, eqModel_spec m hm.1, rfl, ?_⟩; (conv => whnf))
        | (refine And.intro ?_ ?_ <;> (conv => whnf))
      all_goals rfl
    (conv => whnf)
end Go.H.S
