/- Library, part E: ways to nodes, spans, signs. -/
import Derived.Test.YtbclkplebkencaaLD
namespace Go.H.S
open Go Go.Proofs Go.H
attribute [local irreducible] Tri FnSpec FnSpecM
set_option maxRecDepth 100000
set_option linter.unusedSimpArgs false
set_option linter.unusedVariables false


theorem spec_WayTo_spec (t : List Nd) (node : Int) (hl : t.length ≤ 9223372036854775807) : FnSpec PR f_spec_WayTo [aT t, ai node] (.c (.ref 0 0 none)) [(0, .arr t_int 1 0 true (eL cI (wayL t node)))] 1 := by
  refine FnSpec.intro hT p_spec_WayTo rfl (by kernel_rfl) n_spec_WayTo rfl ?_
  conv => whnf
  refine .inl ⟨_, _, _, spec_LevelOf_spec t node hl, rfl, ?_⟩
  (conv => whnf)
  refine ifB_i (fun h1 => ?_) (fun h1 => ?_) <;> (conv => whnf) <;> simp only [nInt_eq, Int.natCast_zero, dLen_eL, sLen_eq, nOf_eq, Int.toNat_natCast, nAdd_eq, nSub_eq, dLen_nil, dLen_cons, iLt_t, iLt_f, iLe_t, iLe_f, iEq_t, iEq_f, sEq_t, sEq_f, bNot_t, bNot_f, bAnd_t, bEq_t, bEq_f, Bool.not_eq_true, Bool.not_eq_false, Bool.true_eq_false, Bool.false_eq_true] at h1
  · have : wayL t node = [] := by
      unfold levelL lvl at h1
      unfold wayL
      split at h1
      · rename_i hn
        split at h1
        · rename_i l hs
          cases l with
          | nil =>
            have : steps t 32 node = some [] := hs
            simp [steps] at this
          | cons x r => simp at h1; omega
        · rename_i hs
          have : steps t 32 node = none := hs
          simp [hn, this]
      · rename_i hn; rw [if_neg hn]
    rw [this]
    ((conv => whnf); simp only [St.mk.injEq, List.cons.injEq, Prod.mk.injEq, AV.c.injEq, AV.agg.injEq, AV.tup.injEq, CV.d.injEq, D.int.injEq, D.bool.injEq, D.str.injEq, D.sl.injEq, Ent.arr.injEq, Ent.box.injEq, true_and, and_true, and_self, nInt_eq, Int.natCast_zero, dLen_eL, sLen_eq, eL_nil])
  · obtain ⟨hn, l, hs⟩ : (0 ≤ node ∧ node ≤ (t.length : Int) - 1) ∧ ∃ l, steps t 32 node = some l := by
      unfold levelL lvl at h1
      split at h1
      · rename_i hn
        split at h1
        · rename_i l hs; exact ⟨hn, l, hs⟩
        · omega
      · omega
    have hway : wayL t node = l.reverse := by unfold wayL; rw [if_pos hn, hs]
    have hlen := steps_len t 32 node l hs
    refine tri_loop hT [1, 2, 5] (α := Int × List Int × List Int) (fun x => { t := [(1, ai x.1), (2, .c (.ptr 0 0)), (5, .c (.ref 1 0 none))], h := [(0, .box t_impl_Tree (cTr t)), (1, .arr t_int 1 0 true (eL cI x.2.1))], n := 2, N := 22 })
      (fun x => x.2.2.reverse ++ x.2.1 = l.reverse ∧ ((x.1 < 0 ∧ x.2.2 = []) ∨ (0 ≤ x.1 ∧ ∃ k, steps t k x.1 = some x.2.2))) (fun x => x.2.2.length) (node, [], l) (by ((conv => whnf); simp only [St.mk.injEq, List.cons.injEq, Prod.mk.injEq, AV.c.injEq, AV.agg.injEq, AV.tup.injEq, CV.d.injEq, D.int.injEq, D.bool.injEq, D.str.injEq, D.sl.injEq, Ent.arr.injEq, Ent.box.injEq, true_and, and_true, and_self, nInt_eq, Int.natCast_zero, dLen_eL, sLen_eq, eL_nil])) ⟨by simp, .inr ⟨hn.1, 32, hs⟩⟩ ?_
    intro ⟨x, out, rem⟩ ⟨h2, h3⟩
    dsimp only at h2 h3
    have hol : out.length ≤ 32 := by
      have := congrArg List.length h2
      simp at this; omega
    (conv => whnf)
    refine ifB_i (fun h4 => ?_) (fun h4 => ?_) <;> (conv => whnf) <;> simp only [nInt_eq, Int.natCast_zero, dLen_eL, sLen_eq, nOf_eq, Int.toNat_natCast, nAdd_eq, nSub_eq, dLen_nil, dLen_cons, iLt_t, iLt_f, iLe_t, iLe_f, iEq_t, iEq_f, sEq_t, sEq_f, bNot_t, bNot_f, bAnd_t, bEq_t, bEq_f, Bool.not_eq_true, Bool.not_eq_false, Bool.true_eq_false, Bool.false_eq_true] at h4
    · rcases h3 with ⟨h3, _⟩ | ⟨_, k, h3⟩
      · omega
      refine ⟨by simp [eL_length, dLen_len]; omega, ?_⟩
      (conv => whnf)
      refine .inl ⟨_, _, _, spec_l17Up_spec t x hl, rfl, ?_⟩
      (conv => whnf)
      cases k with
      | zero => simp [steps] at h3
      | succ k =>
        simp only [steps, Option.map_eq_some_iff] at h3
        obtain ⟨r, h5, rfl⟩ := h3
        refine ⟨(up t x, x :: out, r), by simp, ⟨by rw [← h2]; simp, ?_⟩, ?_⟩
        · by_cases hu : up t x < 0
          · rw [if_pos hu] at h5; cases h5; exact .inl ⟨hu, rfl⟩
          · rw [if_neg hu] at h5; exact .inr ⟨by dsimp only; omega, k, h5⟩
        · ((conv => whnf); simp only [St.mk.injEq, List.cons.injEq, Prod.mk.injEq, AV.c.injEq, AV.agg.injEq, AV.tup.injEq, CV.d.injEq, D.int.injEq, D.bool.injEq, D.str.injEq, D.sl.injEq, Ent.arr.injEq, Ent.box.injEq, true_and, and_true, and_self, nInt_eq, Int.natCast_zero, dLen_eL, sLen_eq, partOf_none, eL_cons, dApp_cons, dApp_nil, cI])
    · rcases h3 with ⟨_, h3⟩ | ⟨h3, _⟩
      · subst h3
        simp at h2
        rw [hway, ← h2]
      · omega

theorem impl_wayTo_spec (t : List Nd) (node : Int) (hl : t.length ≤ 9223372036854775807) : FnSpec PR f_impl_wayTo [aT t, ai node] (.c (.ref 0 0 none)) [(0, .arr t_int 1 0 true (eL cI (wayL t node)))] 1 := by
  have e : wSub .i64 t.length 1 = (t.length : Int) - 1 := wSub64 (by omega) (by omega)
  refine FnSpec.intro hT p_impl_wayTo rfl (by kernel_rfl) n_impl_wayTo rfl ?_
  conv => whnf
  refine .inl ⟨_, _, _, impl_within_spec _ _ _, rfl, ?_⟩
  (conv => whnf)
  refine ifB_i (fun h1 => ?_) (fun h1 => ?_) <;> (conv => whnf) <;> simp only [nInt_eq, Int.natCast_zero, dLen_eL, sLen_eq, nOf_eq, Int.toNat_natCast, nAdd_eq, nSub_eq, dLen_nil, dLen_cons, iLt_t, iLt_f, iLe_t, iLe_f, iEq_t, iEq_f, sEq_t, sEq_f, bNot_t, bNot_f, bAnd_t, bEq_t, bEq_f, Bool.not_eq_true, Bool.not_eq_false, Bool.true_eq_false, Bool.false_eq_true, e, decide_eq_true_eq, decide_eq_false_iff_not] at h1
  · have : wayL t node = [] := by unfold wayL; rw [if_neg h1]
    rw [this]
    ((conv => whnf); simp only [St.mk.injEq, List.cons.injEq, Prod.mk.injEq, AV.c.injEq, AV.agg.injEq, AV.tup.injEq, CV.d.injEq, D.int.injEq, D.bool.injEq, D.str.injEq, D.sl.injEq, Ent.arr.injEq, Ent.box.injEq, true_and, and_true, and_self, nInt_eq, Int.natCast_zero, dLen_eL, sLen_eq, eL_nil])
  refine .inl ⟨_, _, _, impl_parent_spec t node hl, rfl, ?_⟩
  (conv => whnf)
  refine tri_loop hT [2, 5, 6] (α := Int × List Int) (fun x => { t := [(2, .c (.ptr 0 0)), (5, .c (.ref 1 0 none)), (6, ai x.1)], h := [(0, .box t_impl_Tree (cTr t)), (1, .arr t_int 1 0 true (eL cI x.2))], n := 2, N := 34 })
    (fun x => 1 ≤ x.2.length ∧ x.2.length ≤ 32 ∧ steps t 32 node = (if x.1 < 0 then some [] else steps t (32 - x.2.length) x.1).map (x.2 ++ ·)) (fun x => 33 - x.2.length) (up t node, [node]) (by ((conv => whnf); simp only [St.mk.injEq, List.cons.injEq, Prod.mk.injEq, AV.c.injEq, AV.agg.injEq, AV.tup.injEq, CV.d.injEq, D.int.injEq, D.bool.injEq, D.str.injEq, D.sl.injEq, Ent.arr.injEq, Ent.box.injEq, true_and, and_true, and_self, nInt_eq, Int.natCast_zero, dLen_eL, sLen_eq, eL_nil, eL_cons, cI])) ⟨by simp, by simp, rfl⟩ ?_
  intro ⟨x, out⟩ ⟨h2, h3, h4⟩
  dsimp only at h2 h3 h4
  (conv => whnf)
  refine ifB_i (fun h5 => ?_) (fun h5 => ?_) <;> (conv => whnf) <;> simp only [nInt_eq, Int.natCast_zero, dLen_eL, sLen_eq, nOf_eq, Int.toNat_natCast, nAdd_eq, nSub_eq, dLen_nil, dLen_cons, iLt_t, iLt_f, iLe_t, iLe_f, iEq_t, iEq_f, sEq_t, sEq_f, bNot_t, bNot_f, bAnd_t, bEq_t, bEq_f, Bool.not_eq_true, Bool.not_eq_false, Bool.true_eq_false, Bool.false_eq_true] at h5
  · rw [if_neg (by omega)] at h4
    refine ifB_i (fun h6 => ?_) (fun h6 => ?_) <;> (conv => whnf) <;> simp only [nInt_eq, Int.natCast_zero, dLen_eL, sLen_eq, nOf_eq, Int.toNat_natCast, nAdd_eq, nSub_eq, dLen_nil, dLen_cons, iLt_t, iLt_f, iLe_t, iLe_f, iEq_t, iEq_f, sEq_t, sEq_f, bNot_t, bNot_f, bAnd_t, bEq_t, bEq_f, Bool.not_eq_true, Bool.not_eq_false, Bool.true_eq_false, Bool.false_eq_true, lenRE_none] at h6
    · have : out.length = 32 := by omega
      rw [this] at h4
      have h4 : steps t 32 node = none := h4
      have : wayL t node = [] := by unfold wayL; rw [if_pos h1]; rw [h4]
      rw [this]
      ((conv => whnf); simp only [St.mk.injEq, List.cons.injEq, Prod.mk.injEq, AV.c.injEq, AV.agg.injEq, AV.tup.injEq, CV.d.injEq, D.int.injEq, D.bool.injEq, D.str.injEq, D.sl.injEq, Ent.arr.injEq, Ent.box.injEq, true_and, and_true, and_self, nInt_eq, Int.natCast_zero, dLen_eL, sLen_eq, eL_nil])
    · refine ⟨by simp [eL_length, dLen_len]; omega, ?_⟩
      (conv => whnf)
      refine .inl ⟨_, _, _, impl_parent_spec t x hl, rfl, ?_⟩
      (conv => whnf)
      have hst : steps t (32 - out.length) x = (if up t x < 0 then some [] else steps t (31 - out.length) (up t x)).map (x :: ·) := by rw [show 32 - out.length = (31 - out.length) + 1 by omega, steps]
      rw [hst] at h4
      refine ⟨(up t x, out ++ [x]), by simp; omega, ⟨by simp, by simp; omega, ?_⟩, ?_⟩
      · dsimp only
        rw [h4, Option.map_map]
        simp only [List.length_append, List.length_cons, List.length_nil]
        rw [show 32 - (out.length + (0 + 1)) = 31 - out.length by omega]
        congr 1
        funext y
        simp
      · ((conv => whnf); simp only [St.mk.injEq, List.cons.injEq, Prod.mk.injEq, AV.c.injEq, AV.agg.injEq, AV.tup.injEq, CV.d.injEq, D.int.injEq, D.bool.injEq, D.str.injEq, D.sl.injEq, Ent.arr.injEq, Ent.box.injEq, true_and, and_true, and_self, nInt_eq, Int.natCast_zero, dLen_eL, sLen_eq, partOf_none])
        rw [← eL_app]
        rfl
  · rw [if_pos h5] at h4
    simp at h4
    have hway : wayL t node = out.reverse := by unfold wayL; rw [if_pos h1, h4]
    refine .inr (.inr (.inl ⟨1, ?_⟩))
    (conv => whnf)
    refine .inl ⟨_, _, slices_Reverse_spec out (by omega), ?_⟩
    (conv => whnf)
    rw [hway]

def leavesK (t : List Nd) (k : Nat) : List Int :=
  match t with
  | [] => []
  | n :: r => if n.f = -1 then (k : Int) :: leavesK r (k + 1) else leavesK r (k + 1)
theorem leavesK_lt : ∀ (t : List Nd) (k : Nat) (x : Int), x ∈ leavesK t k → (k : Int) ≤ x ∧ x < (k + t.length : Nat)
  | [], k, x, h => by simp [leavesK] at h
  | n :: r, k, x, h => by
    simp only [leavesK] at h
    simp only [List.length_cons]
    split at h
    · rcases List.mem_cons.1 h with rfl | h
      · omega
      · have := leavesK_lt r (k + 1) x h; omega
    · have := leavesK_lt r (k + 1) x h; omega
theorem leavesK_len : ∀ (t : List Nd) (k : Nat), (leavesK t k).length ≤ t.length
  | [], k => by simp [leavesK]
  | n :: r, k => by
    simp only [leavesK]
    have := leavesK_len r (k + 1)
    split <;> simp <;> omega
theorem spec_LeavesOf_spec (t : List Nd) (hl : t.length ≤ 1048576) : FnSpec PR f_spec_LeavesOf [aT t] (.c (.ref 0 0 none)) [(0, .arr t_int 1 0 true (eL cI (leavesK t 0)))] 1 := by
  refine FnSpec.intro hT p_spec_LeavesOf rfl (by kernel_rfl) n_spec_LeavesOf rfl ?_
  conv => whnf
  refine tri_loop hT [1, 3, 4] (α := Nat × List Int) (fun x => { t := [(1, .c (.ptr 0 0)), (3, .c (.ref 1 0 none)), (4, ai x.1)], h := [(0, .box t_impl_Tree (cTr t)), (1, .arr t_int 1 0 true (eL cI x.2))], n := 2, N := 25 })
    (fun x => x.1 ≤ t.length ∧ x.2.length ≤ x.1 ∧ x.2 ++ leavesK (t.drop x.1) x.1 = leavesK t 0) (fun x => t.length - x.1) (0, []) (by ((conv => whnf); simp only [St.mk.injEq, List.cons.injEq, Prod.mk.injEq, AV.c.injEq, AV.agg.injEq, AV.tup.injEq, CV.d.injEq, D.int.injEq, D.bool.injEq, D.str.injEq, D.sl.injEq, Ent.arr.injEq, Ent.box.injEq, true_and, and_true, and_self, nInt_eq, Int.natCast_zero, dLen_eL, sLen_eq, eL_nil])) ⟨Nat.zero_le _, by simp, rfl⟩ ?_
  intro ⟨k, out⟩ ⟨hk, hol, ho⟩
  dsimp only at hk hol ho
  (conv => whnf)
  refine ifB_i (fun h1 => ?_) (fun h1 => ?_) <;> (conv => whnf) <;> simp at h1
  · obtain ⟨n, hn⟩ := get_lt h1
    refine idx_at (by simp) hn ?_
    (conv => whnf)
    refine .inl ⟨_, _, _, spec_l17Inner_spec n, rfl, ?_⟩
    (conv => whnf)
    rw [drop_at hn, leavesK] at ho
    refine ifB_i (fun h2 => ?_) (fun h2 => ?_) <;> (conv => whnf) <;> simp only [nInt_eq, Int.natCast_zero, dLen_eL, sLen_eq, nOf_eq, Int.toNat_natCast, nAdd_eq, nSub_eq, dLen_nil, dLen_cons, iLt_t, iLt_f, iLe_t, iLe_f, iEq_t, iEq_f, sEq_t, sEq_f, bNot_t, bNot_f, bAnd_t, bEq_t, bEq_f, Bool.not_eq_true, Bool.not_eq_false, Bool.true_eq_false, Bool.false_eq_true] at h2
    · rw [if_pos h2] at ho
      refine ⟨by simp [eL_length, dLen_len]; omega, ?_⟩
      (conv => whnf)
      refine ⟨(k + 1, out ++ [(k : Int)]), by dsimp only; omega, ⟨h1, by simp; omega, by rw [← ho]; simp⟩, ?_⟩
      ((conv => whnf); simp only [St.mk.injEq, List.cons.injEq, Prod.mk.injEq, AV.c.injEq, AV.agg.injEq, AV.tup.injEq, CV.d.injEq, D.int.injEq, D.bool.injEq, D.str.injEq, D.sl.injEq, Ent.arr.injEq, Ent.box.injEq, true_and, and_true, and_self, nInt_eq, Int.natCast_zero, dLen_eL, sLen_eq, partOf_none, wI h1 (by omega)])
      rw [← eL_app]
      rfl
    · rw [if_neg h2] at ho
      refine ⟨(k + 1, out), by dsimp only; omega, ⟨h1, by dsimp only; omega, ho⟩, ?_⟩
      ((conv => whnf); simp only [St.mk.injEq, List.cons.injEq, Prod.mk.injEq, AV.c.injEq, AV.agg.injEq, AV.tup.injEq, CV.d.injEq, D.int.injEq, D.bool.injEq, D.str.injEq, D.sl.injEq, Ent.arr.injEq, Ent.box.injEq, true_and, and_true, and_self, nInt_eq, Int.natCast_zero, dLen_eL, sLen_eq, wI h1 (by omega)])
  · obtain rfl : k = t.length := by omega
    simp [leavesK] at ho
    rw [ho]

theorem impl_LeavesOf_spec (t : List Nd) (hl : t.length ≤ 1048576) : FnSpec PR f_impl_LeavesOf [aT t] (.c (.ref 0 0 none)) [(0, .arr t_int 1 0 true (eL cI (leavesK t 0)))] 1 := by
  refine FnSpec.intro hT p_impl_LeavesOf rfl (by kernel_rfl) n_impl_LeavesOf rfl ?_
  conv => whnf
  refine tri_loop hT [3, 8, 9, 10] (α := Nat × List Int) (fun x => { t := [(3, .c (.ref 0 0 none)), (8, aNs t), (9, ai t.length), (10, ai x.1)], h := [(0, .arr t_int 1 0 true (eL cI x.2))], n := 1, N := 23 })
    (fun x => x.1 ≤ t.length ∧ x.2.length ≤ x.1 ∧ x.2 ++ leavesK (t.drop x.1) x.1 = leavesK t 0) (fun x => t.length - x.1) (0, []) (by ((conv => whnf); simp only [St.mk.injEq, List.cons.injEq, Prod.mk.injEq, AV.c.injEq, AV.agg.injEq, AV.tup.injEq, CV.d.injEq, D.int.injEq, D.bool.injEq, D.str.injEq, D.sl.injEq, Ent.arr.injEq, Ent.box.injEq, true_and, and_true, and_self, nInt_eq, Int.natCast_zero, dLen_eL, sLen_eq, eL_nil])) ⟨Nat.zero_le _, by simp, rfl⟩ ?_
  intro ⟨k, out⟩ ⟨hk, hol, ho⟩
  dsimp only at hk hol ho
  (conv => whnf)
  refine ifB_i (fun h1 => ?_) (fun h1 => ?_) <;> (conv => whnf) <;> simp at h1
  · obtain ⟨n, hn⟩ := get_lt h1
    refine idx_at (by simp) hn ?_
    (conv => whnf)
    refine .inl ⟨_, _, _, impl_isLeaf_spec n, rfl, ?_⟩
    (conv => whnf)
    rw [drop_at hn, leavesK] at ho
    refine ifB_i (fun h2 => ?_) (fun h2 => ?_) <;> (conv => whnf) <;> simp only [nInt_eq, Int.natCast_zero, dLen_eL, sLen_eq, nOf_eq, Int.toNat_natCast, nAdd_eq, nSub_eq, dLen_nil, dLen_cons, iLt_t, iLt_f, iLe_t, iLe_f, iEq_t, iEq_f, sEq_t, sEq_f, bNot_t, bNot_f, bAnd_t, bEq_t, bEq_f, Bool.not_eq_true, Bool.not_eq_false, Bool.true_eq_false, Bool.false_eq_true] at h2
    · rw [if_pos h2] at ho
      refine ⟨by simp [eL_length, dLen_len]; omega, ?_⟩
      (conv => whnf)
      refine ⟨(k + 1, out ++ [(k : Int)]), by dsimp only; omega, ⟨h1, by simp; omega, by rw [← ho]; simp⟩, ?_⟩
      ((conv => whnf); simp only [St.mk.injEq, List.cons.injEq, Prod.mk.injEq, AV.c.injEq, AV.agg.injEq, AV.tup.injEq, CV.d.injEq, D.int.injEq, D.bool.injEq, D.str.injEq, D.sl.injEq, Ent.arr.injEq, Ent.box.injEq, true_and, and_true, and_self, nInt_eq, Int.natCast_zero, dLen_eL, sLen_eq, partOf_none, wI h1 (by omega)])
      rw [← eL_app]
      rfl
    · rw [if_neg h2] at ho
      refine ⟨(k + 1, out), by dsimp only; omega, ⟨h1, by dsimp only; omega, ho⟩, ?_⟩
      ((conv => whnf); simp only [St.mk.injEq, List.cons.injEq, Prod.mk.injEq, AV.c.injEq, AV.agg.injEq, AV.tup.injEq, CV.d.injEq, D.int.injEq, D.bool.injEq, D.str.injEq, D.sl.injEq, Ent.arr.injEq, Ent.box.injEq, true_and, and_true, and_self, nInt_eq, Int.natCast_zero, dLen_eL, sLen_eq, wI h1 (by omega)])
  · obtain rfl : k = t.length := by omega
    simp [leavesK] at ho
    rw [ho]
end Go.H.S
