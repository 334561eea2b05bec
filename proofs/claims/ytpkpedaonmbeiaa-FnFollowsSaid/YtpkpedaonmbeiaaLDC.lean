/- Library, part DC: draws: a right tree. -/
import Derived.Test.YtpkpedaonmbeiaaLDB
namespace Go.H.S
open Go Go.Proofs Go.H
attribute [local irreducible] Tri FnSpec FnSpecM FnSpecX FnSpecJ FnSpecB
set_option maxRecDepth 100000
set_option linter.unusedSimpArgs false
set_option linter.unusedVariables false


theorem leavesK_mem : ∀ {t : List Nd} {k j : Nat} {n : Nd}, t[j]? = some n → n.f = -1 → ((k + j : Nat) : Int) ∈ leavesK t k
  | [], k, j, n, h, hf => by simp at h
  | x :: r, k, 0, n, h, hf => by
    simp at h
    subst h
    simp [leavesK, hf]
  | x :: r, k, j + 1, n, h, hf => by
    have := leavesK_mem (k := k + 1) (show r[j]? = some n by simpa using h) hf
    rw [show k + 1 + j = k + (j + 1) by omega] at this
    simp only [leavesK]
    split
    · exact List.mem_cons_of_mem _ this
    · exact this
theorem shape_leaves {t : List Nd} {ft : Int} (h : shapeOk t ft = true) : 0 < (leavesK t 0).length := by
  have h0 : 0 < t.length := by
    cases t with
    | nil => simp [shapeOk, shapeL] at h
    | cons x r => simp
  obtain ⟨n, hn⟩ := get_lt (show t.length - 1 < t.length by omega)
  have hf : n.f = -1 := by
    by_cases hf : n.f = -1
    · exact hf
    · have := shape_kids h hn hf
      omega
  exact List.length_pos_of_mem (leavesK_mem (k := 0) hn hf)
theorem treeOk_one (v ft : Int) (hft : 0 ≤ ft ∧ ft ≤ 4) (hv : -1099511627776 ≤ v ∧ v ≤ 1099511627776) : treeOk [⟨-1, 0, 0, 0, v⟩] ft = true := by
  have hu : up [⟨-1, 0, 0, 0, v⟩] 0 = -1 := by simp [up, idxL, pUp]
  have hs : steps [⟨-1, 0, 0, 0, v⟩] 32 0 = some [0] := by simp [steps, hu]
  have hl : levelL [⟨-1, 0, 0, 0, v⟩] 0 = 0 := by
    simp only [levelL]
    rw [if_pos (by simp), lvl_lt _ (by rw [hu]; decide)]
  have hw : waysBad [⟨-1, 0, 0, 0, v⟩] [⟨-1, 0, 0, 0, v⟩] 0 = false := by
    simp [waysBad, nodeBad, hs, iEq, bNot, bAnd]
  simp [treeOk, hft, shapeOk, shapeL, leafBad, depthK, hl, hw]
  omega
theorem flat_nodes (xs : List Nd) : FlatR (eL cN xs) := fun c hc d hd => by
  rw [eL] at hc
  obtain ⟨x, _, rfl⟩ := List.mem_map.1 hc
  simp [cN] at hd
  rcases hd with rfl | rfl | rfl | rfl | rfl <;> rfl

set_option maxHeartbeats 4000000 in
theorem spec_l17Right_spec (code : List Int) (i h ft : Int) (hi : inCur code (i, h)) (hl : code.length ≤ 1048576) (hft : 1 ≤ ft ∧ ft ≤ 4) : FnSpecB PR f_spec_l17Right [.c (.ptr 0 0), ai ft] t_spec_l1Cur (cur code i h) (List Nd × Int × Int)
    (fun x => treeOk x.1 ft = true ∧ inCur code x.2) (fun x => .agg [.ref 1 0 none]) (fun x => cur code x.2.1 x.2.2) (fun x => [(1, .arr t_impl_Node 5 0 true (eL cN x.1))]) (fun _ => 2) := by
  refine FnSpecB.intro hT 0 p_spec_l17Right rfl (by kernel_rfl) n_spec_l17Right rfl rfl ?_
  intro v0
  (conv => whnf)
  refine .inr (.inr (.inr (.inr (.inl ⟨0, ?_⟩))))
  (conv => whnf)
  refine ⟨_, _, _, _, _, _, spec_l1Below_spec code i h _ hi hl, fun ⟨x, i1, h1'⟩ ⟨hx, hi1⟩ => ⟨rfl, ?_⟩⟩
  dsimp only at hx hi1
  (conv => whnf)
  have hx2 := hx.2.1 (by decide)
  rw [show wMul .i64 50 (wSub .i64 x 10) = 50 * (x - 10) by rw [wSub64, wMul64] <;> omega]
  refine .inl ⟨_, _, _, spec_OneLeaf_spec _, rfl, ?_⟩
  (conv => whnf)
  refine .inr (.inr (.inr (.inr (.inl ⟨0, ?_⟩))))
  (conv => whnf)
  refine ⟨_, _, _, _, _, _, spec_l1Below_spec code i1 h1' _ hi1 hl, fun ⟨n, i2, h2'⟩ ⟨hn, hi2⟩ => ⟨rfl, ?_⟩⟩
  dsimp only at hn hi2
  (conv => whnf)
  obtain ⟨m, rfl⟩ : ∃ m : Nat, n = m := ⟨n.toNat, by omega⟩
  have hm := hn.2.1 (by decide)
  refine tri_loop hT [0, 1, 4, 5, 6, 7] (α := Nat × List Nd × Int × Int) (fun x => { t := [(0, .w (.ptr 0 0) v0), (1, ai ft), (4, .c (.ptr 1 0)), (5, .c (.ptr 2 0)), (6, ai m), (7, ai x.1)], h := [(0, .box t_spec_l1Cur (cur code x.2.2.1 x.2.2.2)), (1, .box t_impl_Tree [.nl 5]), (2, .box t_impl_Tree [.ref 3 0 none]), (3, .arr t_impl_Node 5 0 true (eL cN x.2.1))], n := 4, N := 54 })
    (fun x => x.1 ≤ m ∧ treeOk x.2.1 ft = true ∧ inCur code x.2.2) (fun x => m - x.1) (0, [⟨-1, 0, 0, 0, 50 * (x - 10)⟩], i2, h2') (by ((conv => whnf); simp only [St.mk.injEq, List.cons.injEq, Prod.mk.injEq, AV.c.injEq, AV.agg.injEq, AV.tup.injEq, CV.d.injEq, D.int.injEq, D.bool.injEq, D.str.injEq, D.sl.injEq, Ent.arr.injEq, Ent.box.injEq, true_and, and_true, and_self, nInt_eq, Int.natCast_zero, dLen_eL, sLen_eq])) ⟨Nat.zero_le _, treeOk_one _ ft (by omega) (by omega), hi2⟩ ?_
  intro ⟨k, t, i3, h3⟩ ⟨hk, ht, hi3⟩
  dsimp only at hk ht hi3
  (conv => whnf)
  have htl : t.length ≤ 31 := by simp [treeOk] at ht; omega
  have hsh : shapeOk t ft = true := by simp [treeOk] at ht; exact ht.2.2.1
  refine ifB_i (fun h1 => ?_) (fun h1 => ?_) <;> (conv => whnf) <;> simp only [nInt_eq, Int.natCast_zero, dLen_eL, sLen_eq, nOf_eq, Int.toNat_natCast, nAdd_eq, nSub_eq, dLen_nil, dLen_cons, iLt_t, iLt_f, iLe_t, iLe_f, iEq_t, iEq_f, sEq_t, sEq_f, bNot_t, bNot_f, bAnd_t, bEq_t, bEq_f, Bool.not_eq_true, Bool.not_eq_false, Bool.true_eq_false, Bool.false_eq_true] at h1
  · refine .inr (.inl ⟨_, _, _, spec_LeavesOf_spec t (by omega), rfl, ⟨flat_cI _, trivial⟩, ?_⟩)
    (conv => whnf)
    have hlv := shape_leaves hsh
    have hlv2 := leavesK_len t 0
    refine .inr (.inr (.inr (.inr (.inl ⟨0, ?_⟩))))
    (conv => whnf)
    rw [show nInt (lenRE (eL cI (leavesK t 0)) none) = ((leavesK t 0).length : Int) by simp [lenRE]]
    refine ⟨_, _, _, _, _, _, spec_l1Below_spec code i3 h3 _ hi3 hl, fun ⟨q, i4, h4⟩ ⟨hq, hi4⟩ => ⟨rfl, ?_⟩⟩
    dsimp only at hq hi4
    obtain ⟨q, rfl⟩ : ∃ m : Nat, q = m := ⟨q.toNat, by omega⟩
    have hq2 := hq.2.1 (by omega)
    obtain ⟨p, hp⟩ := get_lt (show q < (leavesK t 0).length by omega)
    have hpl := leavesK_lt t 0 p (List.mem_of_getElem? hp)
    obtain ⟨p, rfl⟩ : ∃ m : Nat, p = m := ⟨p.toNat, by omega⟩
    have hpt : p < t.length := by omega
    (conv => whnf)
    refine ref_at rfl (by simp; omega) ?_
    (conv => whnf)
    refine ld_at (by simp) hp ?_
    (conv => whnf)
    refine tri_everyX hT hmix [0, 1, 4, 5, 6, 7, 10] (Y := List Nd × Int × Int) (fun y => 0 < y.1.length ∧ y.1.length ≤ t.length + 2 ∧ inCur code y.2) (fun y => { t := [(0, .w (.ptr 0 0) v0), (1, ai ft), (4, .c (.ptr 1 0)), (5, .c (.ptr 2 0)), (6, ai m), (7, ai k), (10, .c (.ptr 4 0))], h := [(0, .box t_spec_l1Cur (cur code y.2.1 y.2.2)), (1, .box t_impl_Tree [.nl 5]), (2, .box t_impl_Tree [.ref 3 0 none]), (3, .arr t_impl_Node 5 0 true (eL cN t)), (4, .box t_impl_Tree [.ref 5 0 none]), (5, .arr t_impl_Node 5 0 true (eL cN y.1))], n := 6, N := 54 }) rfl ?_ ?_
    · repeat' first
        | (refine anyV_one rfl ?_; (conv => whnf))
        | (refine anyV_two rfl ?_ ?_ <;> (conv => whnf))
        | (refine anyV_three rfl ?_ ?_ ?_ <;> (conv => whnf))
        | (refine .inr (.inr (.inr (.inr (.inl ⟨0, ?_⟩)))); (conv => whnf); refine ⟨_, _, _, _, _, _, spec_l1Below_spec code _ _ _ (by first | exact hj | exact hi4) hl, fun ⟨x, j, g⟩ ⟨hx, hj⟩ => ⟨rfl, ?_⟩⟩; dsimp only at hx hj; (conv => whnf))
        | (refine .inr (.inr (.inr (.inr (.inr (.inr ⟨_, _, _, _, _, spec_l17Grown_spec t ft hsh htl p hpt ⟨_, _, 0, 0, 0⟩ _ _, fun t' ht' => ⟨rfl, ⟨flat_nodes _, trivial⟩, ?_⟩⟩))))); (conv => whnf))
      all_goals refine anyV_end rfl ?_
      all_goals refine ⟨(t', j, g), ⟨ht'.1, ht'.2, hj⟩, ?_⟩
      all_goals (conv => whnf)
    · intro ⟨t', i5, h5⟩ ⟨hy1, hy2, hy3⟩
      dsimp only at hy1 hy2 hy3
      (conv => whnf)
      refine .inr (.inl ⟨_, _, _, spec_TreeOk_spec t' ft (by omega), rfl, trivial, ?_⟩)
      (conv => whnf)
      refine ifB_i (fun h2 => ?_) (fun h2 => ?_) <;> (conv => whnf)
      · refine ⟨(k + 1, t', i5, h5), by dsimp only; omega, ⟨by dsimp only; omega, h2, hy3⟩, ?_⟩
        ((conv => whnf); simp only [St.mk.injEq, List.cons.injEq, Prod.mk.injEq, AV.c.injEq, AV.agg.injEq, AV.tup.injEq, CV.d.injEq, D.int.injEq, D.bool.injEq, D.str.injEq, D.sl.injEq, Ent.arr.injEq, Ent.box.injEq, true_and, and_true, and_self, nInt_eq, Int.natCast_zero, dLen_eL, sLen_eq])
        exact wI (show k < m by omega) (by omega)
      · refine ⟨(k + 1, t, i5, h5), by dsimp only; omega, ⟨by dsimp only; omega, ht, hy3⟩, ?_⟩
        ((conv => whnf); simp only [St.mk.injEq, List.cons.injEq, Prod.mk.injEq, AV.c.injEq, AV.agg.injEq, AV.tup.injEq, CV.d.injEq, D.int.injEq, D.bool.injEq, D.str.injEq, D.sl.injEq, Ent.arr.injEq, Ent.box.injEq, true_and, and_true, and_self, nInt_eq, Int.natCast_zero, dLen_eL, sLen_eq])
        exact wI (show k < m by omega) (by omega)
  · refine ⟨(t, i3, h3), ⟨ht, hi3⟩, ?_⟩
    (conv => whnf)
end Go.H.S
