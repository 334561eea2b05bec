/- Library, part J: models that follow their signs. -/
import Derived.Test.YtpkpedaonmbeiaaLI
import Derived.Test.YtpkpedaonmbeiaaLG
namespace Go.H.S
open Go Go.Proofs Go.H
attribute [local irreducible] Tri FnSpec FnSpecM
set_option maxRecDepth 100000
set_option linter.unusedSimpArgs false
set_option linter.unusedVariables false


def signsAll (t : List Nd) : List Int → Nat → Bool
  | [], _ => true
  | s :: r, k => followsL t k s && signsAll t r (k + 1)
def treesAll (ts : List (List Nd)) : List Int → Nat → Bool
  | [], _ => true
  | s :: r, k => ts.all (fun t => followsL t k s) && treesAll ts r (k + 1)
theorem follows_swap (ts : List (List Nd)) : ∀ (ss : List Int) (k : Nat), treesAll ts ss k = ts.all (fun t => signsAll t ss k)
  | [], k => by simp [treesAll, signsAll]
  | s :: r, k => by
    simp only [treesAll, signsAll, follows_swap ts r (k + 1)]
    induction ts with
    | nil => rfl
    | cons t ts ih =>
      simp only [List.all_cons]
      rw [← ih]
      cases followsL t k s <;> cases signsAll t r (k + 1) <;> simp

theorem spec_ModelFollows_spec (m : Mdl) (hs : m.signs.length ≤ 1048576) (hl : m.trees.length ≤ 1048576) (ht : ∀ t ∈ m.trees, t.length ≤ 1048576) : FnSpec PR f_spec_ModelFollows [aM m] (ab (m.trees.all fun t => signsAll t m.signs 0)) [] 0 := by
  refine FnSpec.intro hT p_spec_ModelFollows rfl (by kernel_rfl) n_spec_ModelFollows rfl ?_
  conv => whnf
  refine tri_loop hT [1, 3] (α := Nat) (fun x => { t := [(1, .c (.ptr 0 0)), (3, ai x)], h := [(0, .box t_impl_Model (cM m))], n := 1, N := 32 })
    (fun x => x ≤ m.trees.length ∧ (m.trees.drop x).all (fun t => signsAll t m.signs 0) = m.trees.all (fun t => signsAll t m.signs 0)) (fun x => m.trees.length - x) 0 (by ((conv => whnf); simp only [St.mk.injEq, List.cons.injEq, Prod.mk.injEq, AV.c.injEq, AV.agg.injEq, AV.tup.injEq, CV.d.injEq, D.int.injEq, D.bool.injEq, D.str.injEq, D.sl.injEq, Ent.arr.injEq, Ent.box.injEq, true_and, and_true, and_self, nInt_eq, Int.natCast_zero, dLen_eL, sLen_eq])) ⟨Nat.zero_le _, rfl⟩ ?_
  intro k ⟨hk, hi⟩
  (conv => whnf)
  refine ifB_i (fun h1 => ?_) (fun h1 => ?_) <;> (conv => whnf) <;> simp at h1
  · obtain ⟨t, htk⟩ := get_lt h1
    have htl := ht t (List.mem_of_getElem? htk)
    rw [drop_at htk, List.all_cons] at hi
    refine tri_loop hT [1, 3, 4] (α := Nat) (fun x => { t := [(1, .c (.ptr 0 0)), (3, ai k), (4, ai x)], h := [(0, .box t_impl_Model (cM m))], n := 1, N := 32 })
      (fun x => x ≤ m.signs.length ∧ signsAll t (m.signs.drop x) x = signsAll t m.signs 0) (fun x => m.signs.length - x) 0 (by ((conv => whnf); simp only [St.mk.injEq, List.cons.injEq, Prod.mk.injEq, AV.c.injEq, AV.agg.injEq, AV.tup.injEq, CV.d.injEq, D.int.injEq, D.bool.injEq, D.str.injEq, D.sl.injEq, Ent.arr.injEq, Ent.box.injEq, true_and, and_true, and_self, nInt_eq, Int.natCast_zero, dLen_eL, sLen_eq])) ⟨Nat.zero_le _, rfl⟩ ?_
    intro j ⟨hj, hd⟩
    (conv => whnf)
    refine ifB_i (fun h2 => ?_) (fun h2 => ?_) <;> (conv => whnf) <;> simp at h2
    · obtain ⟨s, hsj⟩ := get_lt h2
      rw [drop_at hsj, signsAll] at hd
      refine tri_conf hT hmix (by kernel_rfl) ?_
      (conv => whnf)
      refine idx_at (by simp) htk ?_
      (conv => whnf)
      refine idx_at (by simp) hsj ?_
      (conv => whnf)
      refine ⟨_, _, spec_TreeFollows_spec t j s htl, rfl, ?_⟩
      (conv => whnf)
      cases hb : followsL t j s <;> (conv => whnf)
      · rw [hb] at hd
        simp at hd
        rw [hd] at hi
        simp only [Bool.false_and] at hi
        rw [← hi]
      · rw [hb] at hd
        refine ⟨j + 1, by omega, ⟨h2, hd⟩, ?_⟩
        ((conv => whnf); simp only [St.mk.injEq, List.cons.injEq, Prod.mk.injEq, AV.c.injEq, AV.agg.injEq, AV.tup.injEq, CV.d.injEq, D.int.injEq, D.bool.injEq, D.str.injEq, D.sl.injEq, Ent.arr.injEq, Ent.box.injEq, true_and, and_true, and_self, nInt_eq, Int.natCast_zero, dLen_eL, sLen_eq, wI h2 (by omega)])
    · obtain rfl : j = m.signs.length := by omega
      simp [signsAll] at hd
      refine ⟨k + 1, by omega, ⟨h1, by rw [← hi, hd]; simp⟩, ?_⟩
      ((conv => whnf); simp only [St.mk.injEq, List.cons.injEq, Prod.mk.injEq, AV.c.injEq, AV.agg.injEq, AV.tup.injEq, CV.d.injEq, D.int.injEq, D.bool.injEq, D.str.injEq, D.sl.injEq, Ent.arr.injEq, Ent.box.injEq, true_and, and_true, and_self, nInt_eq, Int.natCast_zero, dLen_eL, sLen_eq, wI h1 (by omega)])
  · obtain rfl : k = m.trees.length := by omega
    simp only [List.drop_length, List.all_nil] at hi
    ((conv => whnf); simp only [St.mk.injEq, List.cons.injEq, Prod.mk.injEq, AV.c.injEq, AV.agg.injEq, AV.tup.injEq, CV.d.injEq, D.int.injEq, D.bool.injEq, D.str.injEq, D.sl.injEq, Ent.arr.injEq, Ent.box.injEq, true_and, and_true, and_self, nInt_eq, Int.natCast_zero, dLen_eL, sLen_eq, ← hi])

theorem impl_ModelFollows_1_spec (t : List Nd) (f sign : Int) (hl : t.length ≤ 1048576) : FnSpec PR f_impl_ModelFollows_1 [aT t, .c (.d (.rp [.int .i64 f])), .c (.d (.rp [.int .i64 sign]))] (ab (bNot (followsL t f sign))) [] 0 := by
  refine FnSpec.intro hT p_impl_ModelFollows_1 rfl (by kernel_rfl) n_impl_ModelFollows_1 rfl ?_
  conv => whnf
  refine ⟨_, _, _, impl_TreeFollows_spec t f sign hl, rfl, ?_⟩
  (conv => whnf)

theorem impl_ModelFollows_spec (m : Mdl) (hs : m.signs.length ≤ 1048576) (hl : m.trees.length ≤ 1048576) (ht : ∀ t ∈ m.trees, t.length ≤ 1048576) : FnSpec PR f_impl_ModelFollows [aM m] (ab (treesAll m.trees m.signs 0)) [] 0 := by
  refine FnSpec.intro hT p_impl_ModelFollows rfl (by kernel_rfl) n_impl_ModelFollows rfl ?_
  conv => whnf
  refine tri_loop hT [1, 6, 7, 8] (α := Nat) (fun x => { t := [(1, .c (.ptr 0 0)), (6, aIs m.signs), (7, ai m.signs.length), (8, ai x)], h := [(0, .box t_impl_Model (cM m))], n := 1, N := 18 })
    (fun x => x ≤ m.signs.length ∧ treesAll m.trees (m.signs.drop x) x = treesAll m.trees m.signs 0) (fun x => m.signs.length - x) 0 (by ((conv => whnf); simp only [St.mk.injEq, List.cons.injEq, Prod.mk.injEq, AV.c.injEq, AV.agg.injEq, AV.tup.injEq, CV.d.injEq, D.int.injEq, D.bool.injEq, D.str.injEq, D.sl.injEq, Ent.arr.injEq, Ent.box.injEq, true_and, and_true, and_self, nInt_eq, Int.natCast_zero, dLen_eL, sLen_eq])) ⟨Nat.zero_le _, rfl⟩ ?_
  intro k ⟨hk, hi⟩
  (conv => whnf)
  refine ifB_i (fun h1 => ?_) (fun h1 => ?_) <;> (conv => whnf) <;> simp at h1
  · obtain ⟨s, hs'⟩ := get_lt h1
    rw [drop_at hs', treesAll] at hi
    refine idx_at (by simp) hs' ?_
    (conv => whnf)
    refine .inr (.inl ⟨_, _, _, slices_ContainsFunc_Limpl_Tree_impl_Tree_2 m.trees f_impl_ModelFollows_1 (.rp [.int .i64 k]) (.rp [.int .i64 s]) (fun t => bNot (followsL t k s)) (fun t hm => impl_ModelFollows_1_spec t k s (ht t hm)) (by omega), rfl, trivial, ?_⟩)
    (conv => whnf)
    have hany : (m.trees.any fun t => bNot (followsL t k s)) = !(m.trees.all fun t => followsL t k s) := by
      rw [List.not_all_eq_any_not]; rfl
    cases hb : (m.trees.all fun t => followsL t k s) with
    | false =>
      rw [hb] at hany hi
      rw [hany]
      (conv => whnf)
      simp at hi
      rw [← hi]
    | true =>
      rw [hb] at hany hi
      rw [hany]
      (conv => whnf)
      refine ⟨k + 1, by omega, ⟨h1, hi⟩, ?_⟩
      ((conv => whnf); simp only [St.mk.injEq, List.cons.injEq, Prod.mk.injEq, AV.c.injEq, AV.agg.injEq, AV.tup.injEq, CV.d.injEq, D.int.injEq, D.bool.injEq, D.str.injEq, D.sl.injEq, Ent.arr.injEq, Ent.box.injEq, true_and, and_true, and_self, nInt_eq, Int.natCast_zero, dLen_eL, sLen_eq, wI h1 (by omega)])
  · obtain rfl : k = m.signs.length := by omega
    simp [treesAll] at hi
    ((conv => whnf); simp only [St.mk.injEq, List.cons.injEq, Prod.mk.injEq, AV.c.injEq, AV.agg.injEq, AV.tup.injEq, CV.d.injEq, D.int.injEq, D.bool.injEq, D.str.injEq, D.sl.injEq, Ent.arr.injEq, Ent.box.injEq, true_and, and_true, and_self, nInt_eq, Int.natCast_zero, dLen_eL, sLen_eq, ← hi])

theorem law_FnExactModelFollows (m : Mdl) (hm : okModel m ∧ rgModel m) : FnSpec PR f_laws_FnExactModelFollows [aM m] (ab true) [] 0 := by
  refine FnSpec.intro hT p_laws_FnExactModelFollows rfl (by kernel_rfl) n_laws_FnExactModelFollows rfl ?_
  conv => whnf
  refine ⟨_, _, _, szModel_spec m 1048576 (by omega) (by omega) hm.1, rfl, ?_⟩
  (conv => whnf)
  refine ifB_i (fun h => ?_) (fun h => ?_) <;> (conv => whnf) <;> simp only [nInt_eq, Int.natCast_zero, dLen_eL, sLen_eq, nOf_eq, Int.toNat_natCast, nAdd_eq, nSub_eq, dLen_nil, dLen_cons, iLt_t, iLt_f, iLe_t, iLe_f, iEq_t, iEq_f, sEq_t, sEq_f, bNot_t, bNot_f, bAnd_t, bEq_t, bEq_f, Bool.not_eq_true, Bool.not_eq_false, Bool.true_eq_false, Bool.false_eq_true] at h
  have hcost := bud_ok h
  obtain ⟨hsm, hl, hc⟩ := model_small hcost
  have hs : m.signs.length ≤ 1048576 := by unfold costModel at hcost; omega
  have ht : ∀ t ∈ m.trees, t.length ≤ 1048576 := fun t htm => by have := costL_mem List.length htm; omega
  refine ⟨_, _, _, toModel_spec m hsm, rfl, ?_⟩
  (conv => whnf)
  refine .inl ⟨_, _, _, spec_ModelFollows_spec m hs hl ht, rfl, ?_⟩
  (conv => whnf)
  refine ⟨_, _, _, toModel_spec m hsm, rfl, ?_⟩
  (conv => whnf)
  refine .inl ⟨_, _, _, impl_ModelFollows_spec m hs hl ht, rfl, ?_⟩
  rw [follows_swap]
  generalize (m.trees.all fun t => signsAll t m.signs 0) = c
  cases c <;> (conv => whnf)
  all_goals
    refine tri_each hT hmix [26] { t := [(26, ab (bNot true))], h := [], n := 0, N := 27 } rfl ?_ ?_
    · (conv => whnf)
      repeat' first
        | (refine ⟨_, _, _, toModel_spec m hsm, rfl, ?_⟩; (conv => whnf))
        | (refine .inl ⟨_, _, _, eqModel_spec m hm.1, rfl, ?_⟩; (conv => whnf))
        | (refine And.intro ?_ ?_ <;> (conv => whnf))
      all_goals rfl
    (conv => whnf)
end Go.H.S
