/- Library, part DC: draws: a right tree. -/
import Derived.Test.YtdolkacinfjhcaaLDB
import Derived.Test.YtdolkacinfjhcaaH29
import Derived.Test.YtdolkacinfjhcaaShelf
import Derived.Sort.OwnSortedInts
namespace Go.H.S
open Go Go.Proofs Go.H
attribute [local irreducible] Tri FnSpec FnSpecM FnSpecX FnSpecJ FnSpecB
set_option maxRecDepth 100000
set_option linter.unusedSimpArgs false
set_option linter.unusedVariables false


theorem leavesK_mem : ∀ {t : List Nd} {k j : Nat} {n : Nd}, t[j]? = some n → n.f = -1 → ((k + j : Nat) : Int) ∈ leavesK t k
  | [], k, j, n, h, hf => by simp at h
  | x :: r, k, 0, n, h, hf => by
    simp at h
    subst h
    simp [leavesK, hf]
  | x :: r, k, j + 1, n, h, hf => by
    have := leavesK_mem (k := k + 1) (show r[j]? = some n by simpa using h) hf
    rw [show k + 1 + j = k + (j + 1) by omega] at this
    simp only [leavesK]
    split
    · exact List.mem_cons_of_mem _ this
    · exact this
theorem shape_leaves {t : List Nd} {ft : Int} (h : shapeOk t ft = true) : 0 < (leavesK t 0).length := by
  have h0 : 0 < t.length := by
    cases t with
    | nil => simp [shapeOk, shapeL] at h
    | cons x r => simp
  obtain ⟨n, hn⟩ := get_lt (show t.length - 1 < t.length by omega)
  have hf : n.f = -1 := by
    by_cases hf : n.f = -1
    · exact hf
    · have := shape_kids h hn hf
      omega
  exact List.length_pos_of_mem (leavesK_mem (k := 0) hn hf)
theorem treeOk_one (v ft : Int) (hft : 0 ≤ ft ∧ ft ≤ 4) (hv : -1099511627776 ≤ v ∧ v ≤ 1099511627776) : treeOk [⟨-1, 0, 0, 0, v⟩] ft = true := by
  have hu : up [⟨-1, 0, 0, 0, v⟩] 0 = -1 := by simp [up, idxL, pUp]
  have hs : steps [⟨-1, 0, 0, 0, v⟩] 32 0 = some [0] := by simp [steps, hu]
  have hl : levelL [⟨-1, 0, 0, 0, v⟩] 0 = 0 := by
    simp only [levelL]
    rw [if_pos (by simp), lvl_lt _ (by rw [hu]; decide)]
  have hw : waysBad [⟨-1, 0, 0, 0, v⟩] [⟨-1, 0, 0, 0, v⟩] 0 = false := by
    simp [waysBad, nodeBad, hs, iEq, bNot, bAnd]
  simp [treeOk, hft, shapeOk, shapeL, leafBad, depthK, hl, hw]
  omega
theorem flat_nodes (xs : List Nd) : FlatR (eL cN xs) := fun c hc d hd => by
  rw [eL] at hc
  obtain ⟨x, _, rfl⟩ := List.mem_map.1 hc
  simp [cN] at hd
  rcases hd with rfl | rfl | rfl | rfl | rfl <;> rfl

set_option maxHeartbeats 4000000 in
theorem spec_l17Right_spec (code : List Int) (i h ft : Int) (hi : inCur code (i, h)) (hl : code.length ≤ 1048576) (hft : 1 ≤ ft ∧ ft ≤ 4) : FnSpecB PR f_spec_l17Right [.c (.ptr 0 0), ai ft] t_spec_l1Cur (cur code i h) (List Nd × Int × Int)
    (fun x => treeOk x.1 ft = true ∧ inCur code x.2) (fun x => .agg [.ref 1 0 none]) (fun x => cur code x.2.1 x.2.2) (fun x => [(1, .arr t_impl_Node 5 0 .own (eL cN x.1))]) (fun _ => 2) := by
  refine FnSpecB.intro hT 0 p_spec_l17Right rfl (by kernel_rfl) n_spec_l17Right rfl rfl ?_
  intro v0
  (conv => whnf)
  refine .inr (.inr (.inr (.inr (.inl ⟨0, ?_⟩))))
  (conv => whnf)
  refine ⟨_, _, _, _, _, _, spec_l1Below_spec code i h _ hi hl, fun ⟨x, i1, h1'⟩ ⟨hx, hi1⟩ => ⟨rfl, ?_⟩⟩
  dsimp only at hx hi1
  (conv => whnf)
  have hx2 := hx.2.1 (by decide)
  rw [show wMul .i64 50 (wSub .i64 x 10) = 50 * (x - 10) by rw [wSub64, wMul64] <;> omega]
  refine .inl ⟨_, _, _, spec_OneLeaf_spec _, rfl, ?_⟩
  (conv => whnf)
  refine .inr (.inr (.inr (.inr (.inl ⟨0, ?_⟩))))
  (conv => whnf)
  refine ⟨_, _, _, _, _, _, spec_l1Below_spec code i1 h1' _ hi1 hl, fun ⟨n, i2, h2'⟩ ⟨hn, hi2⟩ => ⟨rfl, ?_⟩⟩
  dsimp only at hn hi2
  (conv => whnf)
  obtain ⟨m, rfl⟩ : ∃ m : Nat, n = m := ⟨n.toNat, by omega⟩
  have hm := hn.2.1 (by decide)
  refine tri_loop hT [0, 1, 4, 5, 6, 7] (α := Nat × List Nd × Int × Int) (fun x => { t := [(0, .w (.ptr 0 0) v0), (1, ai ft), (4, .c (.ptr 1 0)), (5, .c (.ptr 2 0)), (6, ai m), (7, ai x.1)], h := [(0, .box t_spec_l1Cur (cur code x.2.2.1 x.2.2.2)), (1, .box t_impl_Tree [.nl 5]), (2, .box t_impl_Tree [.ref 3 0 none]), (3, .arr t_impl_Node 5 0 .own (eL cN x.2.1))], n := 4, N := 54 })
    (fun x => x.1 ≤ m ∧ treeOk x.2.1 ft = true ∧ inCur code x.2.2) (fun x => m - x.1) (0, [⟨-1, 0, 0, 0, 50 * (x - 10)⟩], i2, h2') (by ((conv => whnf); simp only [St.mk.injEq, List.cons.injEq, Prod.mk.injEq, AV.c.injEq, AV.agg.injEq, AV.tup.injEq, CV.d.injEq, D.int.injEq, D.bool.injEq, D.str.injEq, D.sl.injEq, Ent.arr.injEq, Ent.box.injEq, true_and, and_true, and_self, nInt_eq, Int.natCast_zero, dLen_eL, sLen_eq])) ⟨Nat.zero_le _, treeOk_one _ ft (by omega) (by omega), hi2⟩ ?_
  intro ⟨k, t, i3, h3⟩ ⟨hk, ht, hi3⟩
  dsimp only at hk ht hi3
  (conv => whnf)
  have htl : t.length ≤ 31 := by simp [treeOk] at ht; omega
  have hsh : shapeOk t ft = true := by simp [treeOk] at ht; exact ht.2.2.1
  refine ifB_i (fun h1 => ?_) (fun h1 => ?_) <;> (conv => whnf) <;> simp only [nInt_eq, Int.natCast_zero, dLen_eL, sLen_eq, nOf_eq, Int.toNat_natCast, nAdd_eq, nSub_eq, dLen_nil, dLen_cons, iLt_t, iLt_f, iLe_t, iLe_f, iEq_t, iEq_f, sEq_t, sEq_f, bNot_t, bNot_f, bAnd_t, bEq_t, bEq_f, Bool.not_eq_true, Bool.not_eq_false, Bool.true_eq_false, Bool.false_eq_true] at h1
  · refine .inr (.inl ⟨_, _, _, spec_LeavesOf_spec t (by omega), rfl, ⟨flat_cI _, trivial⟩, ?_⟩)
    (conv => whnf)
    have hlv := shape_leaves hsh
    have hlv2 := leavesK_len t 0
    refine .inr (.inr (.inr (.inr (.inl ⟨0, ?_⟩))))
    (conv => whnf)
    rw [show nInt (lenRE (eL cI (leavesK t 0)) none) = ((leavesK t 0).length : Int) by simp [lenRE]]
    refine ⟨_, _, _, _, _, _, spec_l1Below_spec code i3 h3 _ hi3 hl, fun ⟨q, i4, h4⟩ ⟨hq, hi4⟩ => ⟨rfl, ?_⟩⟩
    dsimp only at hq hi4
    obtain ⟨q, rfl⟩ : ∃ m : Nat, q = m := ⟨q.toNat, by omega⟩
    have hq2 := hq.2.1 (by omega)
    obtain ⟨p, hp⟩ := get_lt (show q < (leavesK t 0).length by omega)
    have hpl := leavesK_lt t 0 p (List.mem_of_getElem? hp)
    obtain ⟨p, rfl⟩ : ∃ m : Nat, p = m := ⟨p.toNat, by omega⟩
    have hpt : p < t.length := by omega
    (conv => whnf)
    refine ref_at rfl (by simp; omega) ?_
    (conv => whnf)
    refine ld_at (by simp) hp ?_
    (conv => whnf)
    refine tri_everyX hT hmix [0, 1, 4, 5, 6, 7, 10] (Y := List Nd × Int × Int) (fun y => 0 < y.1.length ∧ y.1.length ≤ t.length + 2 ∧ inCur code y.2) (fun y => { t := [(0, .w (.ptr 0 0) v0), (1, ai ft), (4, .c (.ptr 1 0)), (5, .c (.ptr 2 0)), (6, ai m), (7, ai k), (10, .c (.ptr 4 0))], h := [(0, .box t_spec_l1Cur (cur code y.2.1 y.2.2)), (1, .box t_impl_Tree [.nl 5]), (2, .box t_impl_Tree [.ref 3 0 none]), (3, .arr t_impl_Node 5 0 .own (eL cN t)), (4, .box t_impl_Tree [.ref 5 0 none]), (5, .arr t_impl_Node 5 0 .own (eL cN y.1))], n := 6, N := 54 }) rfl ?_ ?_
    · repeat' first
        | (refine anyV_one rfl ?_; (conv => whnf))
        | (refine anyV_two rfl ?_ ?_ <;> (conv => whnf))
        | (refine anyV_three rfl ?_ ?_ ?_ <;> (conv => whnf))
        | (refine .inr (.inr (.inr (.inr (.inl ⟨0, ?_⟩)))); (conv => whnf); refine ⟨_, _, _, _, _, _, spec_l1Below_spec code _ _ _ (by first | exact hj | exact hi4) hl, fun ⟨x, j, g⟩ ⟨hx, hj⟩ => ⟨rfl, ?_⟩⟩; dsimp only at hx hj; (conv => whnf))
        | (refine .inr (.inr (.inr (.inr (.inr (.inr ⟨_, _, _, _, _, spec_l17Grown_spec t ft hsh htl p hpt ⟨_, _, 0, 0, 0⟩ _ _, fun t' ht' => ⟨rfl, ⟨flat_nodes _, trivial⟩, ?_⟩⟩))))); (conv => whnf))
      all_goals refine anyV_end rfl ?_
      all_goals refine ⟨(t', j, g), ⟨ht'.1, ht'.2, hj⟩, ?_⟩
      all_goals (conv => whnf)
    · intro ⟨t', i5, h5⟩ ⟨hy1, hy2, hy3⟩
      dsimp only at hy1 hy2 hy3
      (conv => whnf)
      refine .inr (.inl ⟨_, _, _, spec_TreeOk_spec t' ft (by omega), rfl, trivial, ?_⟩)
      (conv => whnf)
      refine ifB_i (fun h2 => ?_) (fun h2 => ?_) <;> (conv => whnf)
      · refine ⟨(k + 1, t', i5, h5), by dsimp only; omega, ⟨by dsimp only; omega, h2, hy3⟩, ?_⟩
        ((conv => whnf); simp only [St.mk.injEq, List.cons.injEq, Prod.mk.injEq, AV.c.injEq, AV.agg.injEq, AV.tup.injEq, CV.d.injEq, D.int.injEq, D.bool.injEq, D.str.injEq, D.sl.injEq, Ent.arr.injEq, Ent.box.injEq, true_and, and_true, and_self, nInt_eq, Int.natCast_zero, dLen_eL, sLen_eq])
        exact wI (show k < m by omega) (by omega)
      · refine ⟨(k + 1, t, i5, h5), by dsimp only; omega, ⟨by dsimp only; omega, ht, hy3⟩, ?_⟩
        ((conv => whnf); simp only [St.mk.injEq, List.cons.injEq, Prod.mk.injEq, AV.c.injEq, AV.agg.injEq, AV.tup.injEq, CV.d.injEq, D.int.injEq, D.bool.injEq, D.str.injEq, D.sl.injEq, Ent.arr.injEq, Ent.box.injEq, true_and, and_true, and_self, nInt_eq, Int.natCast_zero, dLen_eL, sLen_eq])
        exact wI (show k < m by omega) (by omega)
  · refine ⟨(t, i3, h3), ⟨ht, hi3⟩, ?_⟩
    (conv => whnf)
end Go.H.S
namespace Go.H.S
open Go Go.Proofs Go.H
attribute [local irreducible] Tri FnSpec FnSpecM FnSpecX FnSpecJ FnSpecB
set_option maxRecDepth 100000
set_option linter.unusedSimpArgs false
set_option linter.unusedVariables false


theorem spec_l1PickInt_of (code : List Int) (i h : Int) (es : List (List D)) (l : List Int) (he : es = eL cI l) (hi : 0 ≤ i ∧ i ≤ code.length) (hl : code.length ≤ 1048576) (hne : 0 < l.length) (hll : l.length ≤ 1048576) : FnSpecB PR f_spec_l1PickInt [.c (.ptr 0 0), .c (.d (.sl 1 es))] t_spec_l1Cur (cur code i h) (Int × Int × Int)
    (fun x => x.1 ∈ l ∧ inCur code x.2) (fun x => ai x.1) (fun x => cur code x.2.1 x.2.2) (fun _ => []) (fun _ => 1) := he ▸ spec_l1PickInt_spec code i h l hi hl hne hll

theorem part_eL {α : Type} (f : α → List D) (xs : List α) (b : Bool) (o n : Nat) : partOf (eL f xs) (some (b, o, n)) = eL f ((xs.drop o).take n) := by
  simp only [partOf, dPart_eq, eL, List.map_drop, List.map_take]
theorem nodes_set (ns : List Nd) {k' k : Nat} (x y : Nd) {j : Nat} {ds : List D} (hk : k' = k) (h : dOver (cN x) j ds = cN y) : dSet (eL cN ns) k' (dOver (cN x) j ds) = eL cN (ns.set k y) := by
  rw [h, hk]
  exact eL_set cN ns k y
set_option maxHeartbeats 4000000 in
theorem spec_l17Bent_spec (code : List Int) (i h : Int) (hi : inCur code (i, h)) (hl : code.length ≤ 1048576) : FnSpecB PR f_spec_l17Bent [.c (.ptr 0 0)] t_spec_l1Cur (cur code i h) (List Nd × Int × Int)
    (fun x => x.1.length ≤ 32 ∧ inCur code x.2) (fun x => aT x.1) (fun x => cur code x.2.1 x.2.2) (fun _ => []) (fun _ => 1) := by
  refine FnSpecB.intro hT 0 p_spec_l17Bent rfl (by kernel_rfl) n_spec_l17Bent rfl rfl ?_
  intro v0
  (conv => whnf)
  refine .inr (.inr (.inr (.inr (.inl ⟨0, ?_⟩))))
  (conv => whnf)
  refine ⟨_, _, _, _, _, _, spec_l1Below_spec code i h _ hi hl, fun ⟨x, i1, h1⟩ ⟨hx, hi1⟩ => ⟨rfl, ?_⟩⟩
  dsimp only at hx hi1
  have hx2 := hx.2.1 (by decide)
  (conv => whnf)
  refine .inr (.inr (.inr (.inr (.inl ⟨0, ?_⟩))))
  (conv => whnf)
  rw [show wAdd .i64 1 x = 1 + x from wAdd64 (by omega) (by omega)]
  refine ⟨_, _, _, _, _, _, spec_l17Right_spec code i1 h1 (1 + x) hi1 hl (by omega), fun ⟨t, i2, h2⟩ ⟨ht, hi2⟩ => ⟨rfl, ?_⟩⟩
  dsimp only at ht hi2
  have htl : 1 ≤ t.length ∧ t.length ≤ 31 := by simp [treeOk] at ht; omega
  (conv => whnf)
  refine .inr (.inr (.inr (.inr (.inl ⟨0, ?_⟩))))
  (conv => whnf)
  rw [show nInt (lenRE (eL cN (t, i2, h2).1) none) = (t.length : Int) by simp [lenRE]]
  refine ⟨_, _, _, _, _, _, spec_l1Below_spec code i2 h2 t.length hi2 hl, fun ⟨k, i3, h3⟩ ⟨hk, hi3⟩ => ⟨rfl, ?_⟩⟩
  dsimp only at hk hi3
  obtain ⟨k, rfl⟩ : ∃ m : Nat, k = m := ⟨k.toNat, by omega⟩
  have hk2 := hk.2.1 (by omega)
  obtain ⟨n, hn⟩ := get_lt (show k < t.length by omega)
  (conv => whnf)
  refine .inr (.inr (.inr (.inr (.inl ⟨0, ?_⟩))))
  (conv => whnf)
  refine ⟨_, _, _, _, _, _, spec_l1Below_spec code i3 h3 _ hi3 hl, fun ⟨q, i4, h4⟩ ⟨hq, hi4⟩ => ⟨rfl, ?_⟩⟩
  dsimp only at hq hi4
  (conv => whnf)
  refine ifB_i (fun g0 => ?_) (fun g0 => ?_) <;> (conv => whnf)
  · refine tri_everyX hT hmix [0, 2, 3] (Y := List Nd × Int × Int) (fun y => y.1.length ≤ 32 ∧ inCur code y.2) (fun y => { t := [(0, .w (.ptr 0 0) v0), (2, .c (.ptr 1 0)), (3, .c (.ptr 2 0))], h := [(0, .box t_spec_l1Cur (cur code y.2.1 y.2.2)), (1, .box t_impl_Tree [.nl 5]), (2, .box t_impl_Tree [.ref 3 0 none]), (3, .arr t_impl_Node 5 0 .own (eL cN y.1))], n := 4, N := 85 }) rfl ?_ ?_
    · repeat' first
        | (refine anyV_one rfl ?_; (conv => whnf))
        | (refine anyV_two rfl ?_ ?_ <;> (conv => whnf))
        | (refine anyV_three rfl ?_ ?_ ?_ <;> (conv => whnf))
        | (refine .inr (.inr (.inr (.inr (.inl ⟨0, ?_⟩)))); (conv => whnf); refine ⟨_, _, _, _, _, _, spec_l1PickInt_of code _ _ _ [-1, 0, 1, 4, -2, 9223372036854775807] (by simp [eL, cI]) hi4 hl (by simp) (by simp), fun ⟨y, j, g⟩ ⟨hy, hj⟩ => ⟨rfl, ?_⟩⟩; dsimp only at hy hj; (conv => whnf))
        | (refine ref_at rfl (by simp; omega) ?_; (conv => whnf))
        | (refine st_at (k := k) (by simp) hn (by simp [cN]) ?_; (conv => whnf))
      all_goals refine anyV_end rfl ?_
      all_goals refine ⟨(t.set k ⟨y, n.c, n.l, n.r, n.v⟩, j, g), ⟨by simp; omega, hj⟩, ?_⟩
      all_goals ((conv => whnf); simp only [St.mk.injEq, List.cons.injEq, Prod.mk.injEq, AV.c.injEq, AV.agg.injEq, AV.tup.injEq, CV.d.injEq, D.int.injEq, D.bool.injEq, D.str.injEq, D.sl.injEq, Ent.arr.injEq, Ent.box.injEq, true_and, and_true, and_self, nInt_eq, Int.natCast_zero, dLen_eL, sLen_eq])
      all_goals exact nodes_set t n _ (by simp) (by simp [dOver, cN, over])
    · intro ⟨t', i5, h5⟩ ⟨hy1, hy2⟩
      dsimp only at hy1 hy2
      (conv => whnf)
      refine ⟨(t', i5, h5), ⟨hy1, hy2⟩, ?_⟩
      (conv => whnf)
      rfl
  refine ifB_i (fun g1 => ?_) (fun g1 => ?_) <;> (conv => whnf)
  · refine tri_everyX hT hmix [0, 2, 3] (Y := List Nd × Int × Int) (fun y => y.1.length ≤ 32 ∧ inCur code y.2) (fun y => { t := [(0, .w (.ptr 0 0) v0), (2, .c (.ptr 1 0)), (3, .c (.ptr 2 0))], h := [(0, .box t_spec_l1Cur (cur code y.2.1 y.2.2)), (1, .box t_impl_Tree [.nl 5]), (2, .box t_impl_Tree [.ref 3 0 none]), (3, .arr t_impl_Node 5 0 .own (eL cN y.1))], n := 4, N := 85 }) rfl ?_ ?_
    · repeat' first
        | (refine anyV_one rfl ?_; (conv => whnf))
        | (refine anyV_two rfl ?_ ?_ <;> (conv => whnf))
        | (refine anyV_three rfl ?_ ?_ ?_ <;> (conv => whnf))
        | (refine .inr (.inr (.inr (.inr (.inl ⟨0, ?_⟩)))); (conv => whnf); refine ⟨_, _, _, _, _, _, spec_l1PickInt_of code _ _ _ [0, 1, 2147483648, -2147483648, 500] (by simp [eL, cI]) hi4 hl (by simp) (by simp), fun ⟨y, j, g⟩ ⟨hy, hj⟩ => ⟨rfl, ?_⟩⟩; dsimp only at hy hj; (conv => whnf))
        | (refine ref_at rfl (by simp; omega) ?_; (conv => whnf))
        | (refine st_at (k := k) (by simp) hn (by simp [cN]) ?_; (conv => whnf))
      all_goals refine anyV_end rfl ?_
      all_goals refine ⟨(t.set k ⟨n.f, y, n.l, n.r, n.v⟩, j, g), ⟨by simp; omega, hj⟩, ?_⟩
      all_goals ((conv => whnf); simp only [St.mk.injEq, List.cons.injEq, Prod.mk.injEq, AV.c.injEq, AV.agg.injEq, AV.tup.injEq, CV.d.injEq, D.int.injEq, D.bool.injEq, D.str.injEq, D.sl.injEq, Ent.arr.injEq, Ent.box.injEq, true_and, and_true, and_self, nInt_eq, Int.natCast_zero, dLen_eL, sLen_eq])
      all_goals exact nodes_set t n _ (by simp) (by simp [dOver, cN, over])
    · intro ⟨t', i5, h5⟩ ⟨hy1, hy2⟩
      dsimp only at hy1 hy2
      (conv => whnf)
      refine ⟨(t', i5, h5), ⟨hy1, hy2⟩, ?_⟩
      (conv => whnf)
      rfl
  refine ifB_i (fun g2 => ?_) (fun g2 => ?_) <;> (conv => whnf)
  · refine tri_everyX hT hmix [0, 2, 3] (Y := List Nd × Int × Int) (fun y => y.1.length ≤ 32 ∧ inCur code y.2) (fun y => { t := [(0, .w (.ptr 0 0) v0), (2, .c (.ptr 1 0)), (3, .c (.ptr 2 0))], h := [(0, .box t_spec_l1Cur (cur code y.2.1 y.2.2)), (1, .box t_impl_Tree [.nl 5]), (2, .box t_impl_Tree [.ref 3 0 none]), (3, .arr t_impl_Node 5 0 .own (eL cN y.1))], n := 4, N := 85 }) rfl ?_ ?_
    · repeat' first
        | (refine anyV_one rfl ?_; (conv => whnf))
        | (refine anyV_two rfl ?_ ?_ <;> (conv => whnf))
        | (refine anyV_three rfl ?_ ?_ ?_ <;> (conv => whnf))
        | (refine .inr (.inr (.inr (.inr (.inl ⟨0, ?_⟩)))); (conv => whnf); refine ⟨_, _, _, _, _, _, spec_l1PickInt_of code _ _ _ [0, 1, 2, -1, 40, (k : Int)] (by simp [eL, cI]) hi4 hl (by simp) (by simp), fun ⟨y, j, g⟩ ⟨hy, hj⟩ => ⟨rfl, ?_⟩⟩; dsimp only at hy hj; (conv => whnf))
        | (refine ref_at rfl (by simp; omega) ?_; (conv => whnf))
        | (refine st_at (k := k) (by simp) hn (by simp [cN]) ?_; (conv => whnf))
      all_goals refine anyV_end rfl ?_
      all_goals refine ⟨(t.set k ⟨n.f, n.c, y, n.r, n.v⟩, j, g), ⟨by simp; omega, hj⟩, ?_⟩
      all_goals ((conv => whnf); simp only [St.mk.injEq, List.cons.injEq, Prod.mk.injEq, AV.c.injEq, AV.agg.injEq, AV.tup.injEq, CV.d.injEq, D.int.injEq, D.bool.injEq, D.str.injEq, D.sl.injEq, Ent.arr.injEq, Ent.box.injEq, true_and, and_true, and_self, nInt_eq, Int.natCast_zero, dLen_eL, sLen_eq])
      all_goals exact nodes_set t n _ (by simp) (by simp [dOver, cN, over])
    · intro ⟨t', i5, h5⟩ ⟨hy1, hy2⟩
      dsimp only at hy1 hy2
      (conv => whnf)
      refine ⟨(t', i5, h5), ⟨hy1, hy2⟩, ?_⟩
      (conv => whnf)
      rfl
  refine ifB_i (fun g3 => ?_) (fun g3 => ?_) <;> (conv => whnf)
  · refine tri_everyX hT hmix [0, 2, 3] (Y := List Nd × Int × Int) (fun y => y.1.length ≤ 32 ∧ inCur code y.2) (fun y => { t := [(0, .w (.ptr 0 0) v0), (2, .c (.ptr 1 0)), (3, .c (.ptr 2 0))], h := [(0, .box t_spec_l1Cur (cur code y.2.1 y.2.2)), (1, .box t_impl_Tree [.nl 5]), (2, .box t_impl_Tree [.ref 3 0 none]), (3, .arr t_impl_Node 5 0 .own (eL cN y.1))], n := 4, N := 85 }) rfl ?_ ?_
    · repeat' first
        | (refine anyV_one rfl ?_; (conv => whnf))
        | (refine anyV_two rfl ?_ ?_ <;> (conv => whnf))
        | (refine anyV_three rfl ?_ ?_ ?_ <;> (conv => whnf))
        | (refine .inr (.inr (.inr (.inr (.inl ⟨0, ?_⟩)))); (conv => whnf); refine ⟨_, _, _, _, _, _, spec_l1PickInt_of code _ _ _ [0, 1, 2, -1, 40, (k : Int)] (by simp [eL, cI]) hi4 hl (by simp) (by simp), fun ⟨y, j, g⟩ ⟨hy, hj⟩ => ⟨rfl, ?_⟩⟩; dsimp only at hy hj; (conv => whnf))
        | (refine ref_at rfl (by simp; omega) ?_; (conv => whnf))
        | (refine st_at (k := k) (by simp) hn (by simp [cN]) ?_; (conv => whnf))
      all_goals refine anyV_end rfl ?_
      all_goals refine ⟨(t.set k ⟨n.f, n.c, n.l, y, n.v⟩, j, g), ⟨by simp; omega, hj⟩, ?_⟩
      all_goals ((conv => whnf); simp only [St.mk.injEq, List.cons.injEq, Prod.mk.injEq, AV.c.injEq, AV.agg.injEq, AV.tup.injEq, CV.d.injEq, D.int.injEq, D.bool.injEq, D.str.injEq, D.sl.injEq, Ent.arr.injEq, Ent.box.injEq, true_and, and_true, and_self, nInt_eq, Int.natCast_zero, dLen_eL, sLen_eq])
      all_goals exact nodes_set t n _ (by simp) (by simp [dOver, cN, over])
    · intro ⟨t', i5, h5⟩ ⟨hy1, hy2⟩
      dsimp only at hy1 hy2
      (conv => whnf)
      refine ⟨(t', i5, h5), ⟨hy1, hy2⟩, ?_⟩
      (conv => whnf)
      rfl
  refine ifB_i (fun g4 => ?_) (fun g4 => ?_) <;> (conv => whnf)
  · refine tri_everyX hT hmix [0, 2, 3] (Y := List Nd × Int × Int) (fun y => y.1.length ≤ 32 ∧ inCur code y.2) (fun y => { t := [(0, .w (.ptr 0 0) v0), (2, .c (.ptr 1 0)), (3, .c (.ptr 2 0))], h := [(0, .box t_spec_l1Cur (cur code y.2.1 y.2.2)), (1, .box t_impl_Tree [.nl 5]), (2, .box t_impl_Tree [.ref 3 0 none]), (3, .arr t_impl_Node 5 0 .own (eL cN y.1))], n := 4, N := 85 }) rfl ?_ ?_
    · repeat' first
        | (refine anyV_one rfl ?_; (conv => whnf))
        | (refine anyV_two rfl ?_ ?_ <;> (conv => whnf))
        | (refine anyV_three rfl ?_ ?_ ?_ <;> (conv => whnf))
        | (refine .inr (.inr (.inr (.inr (.inl ⟨0, ?_⟩)))); (conv => whnf); refine ⟨_, _, _, _, _, _, spec_l1PickInt_of code _ _ _ [0, 1, 1099511627776, 1099511627777, -1099511627777] (by simp [eL, cI]) hi4 hl (by simp) (by simp), fun ⟨y, j, g⟩ ⟨hy, hj⟩ => ⟨rfl, ?_⟩⟩; dsimp only at hy hj; (conv => whnf))
        | (refine ref_at rfl (by simp; omega) ?_; (conv => whnf))
        | (refine st_at (k := k) (by simp) hn (by simp [cN]) ?_; (conv => whnf))
      all_goals refine anyV_end rfl ?_
      all_goals refine ⟨(t.set k ⟨n.f, n.c, n.l, n.r, y⟩, j, g), ⟨by simp; omega, hj⟩, ?_⟩
      all_goals ((conv => whnf); simp only [St.mk.injEq, List.cons.injEq, Prod.mk.injEq, AV.c.injEq, AV.agg.injEq, AV.tup.injEq, CV.d.injEq, D.int.injEq, D.bool.injEq, D.str.injEq, D.sl.injEq, Ent.arr.injEq, Ent.box.injEq, true_and, and_true, and_self, nInt_eq, Int.natCast_zero, dLen_eL, sLen_eq])
      all_goals exact nodes_set t n _ (by simp) (by simp [dOver, cN, over])
    · intro ⟨t', i5, h5⟩ ⟨hy1, hy2⟩
      dsimp only at hy1 hy2
      (conv => whnf)
      refine ⟨(t', i5, h5), ⟨hy1, hy2⟩, ?_⟩
      (conv => whnf)
      rfl
  refine ifB_i (fun g5 => ?_) (fun g5 => ?_) <;> (conv => whnf)
  · refine And.intro (by unfold Fits; simp; omega) ?_
    (conv => whnf)
    refine ⟨(t ++ [⟨-1, 0, 0, 0, 0⟩], i4, h4), ⟨by simp; omega, hi4⟩, ?_⟩
    ((conv => whnf); simp only [St.mk.injEq, List.cons.injEq, Prod.mk.injEq, AV.c.injEq, AV.agg.injEq, AV.tup.injEq, CV.d.injEq, D.int.injEq, D.bool.injEq, D.str.injEq, D.sl.injEq, Ent.arr.injEq, Ent.box.injEq, true_and, and_true, and_self, nInt_eq, Int.natCast_zero, dLen_eL, sLen_eq, aT])
    simp only [partOf_none]
    rw [← eL_join]
    simp [eL, cN]
  refine ifB_i (fun g6 => ?_) (fun g6 => ?_) <;> (conv => whnf)
  · refine And.intro (by simp [lenRE]; omega) ?_
    (conv => whnf)
    refine ⟨(t.take k, i4, h4), ⟨by simp; omega, hi4⟩, ?_⟩
    ((conv => whnf); simp only [St.mk.injEq, List.cons.injEq, Prod.mk.injEq, AV.c.injEq, AV.agg.injEq, AV.tup.injEq, CV.d.injEq, D.int.injEq, D.bool.injEq, D.str.injEq, D.sl.injEq, Ent.arr.injEq, Ent.box.injEq, true_and, and_true, and_self, nInt_eq, Int.natCast_zero, dLen_eL, sLen_eq, aT])
    rw [part_eL]
    simp
  refine ⟨(t, i4, h4), ⟨by dsimp only; omega, hi4⟩, ?_⟩
  (conv => whnf)
  rfl
end Go.H.S
namespace Go.H.S
open Go Go.Proofs Go.H
set_option linter.unusedSimpArgs false
set_option linter.unusedVariables false


theorem hplain : ∀ t ti, Tp t = some ti → plainT Tp ti = true := plain_tab (tab := ptab) (by kernel_rfl)
def i64 (x : Int) : Prop := -9223372036854775808 ≤ x ∧ x ≤ 9223372036854775807
theorem list_of_len {α : Type} {l : List α} {a : α} (h : l.length = 1) (h' : l.take 1 = [a]) : l = [a] := by
  match l, h with
  | [x], _ => simpa using h'
theorem wf_i64 {x : Int} (h : (Lit.int .i64 x).wf = true) : i64 x := by
  unfold Lit.wf at h
  simp only [Bool.and_eq_true, decide_eq_true_eq] at h
  exact ⟨h.1, h.2⟩
theorem ty_str {n : Nat} {c : List D} (h : TyD Tp n t_string c) : ∃ x, c = cS x ∧ x.size ≤ 9223372036854775807 := h.str rfl rfl
theorem ty_int {n : Nat} {c : List D} (h : TyD Tp n t_int c) : ∃ x, c = cI x ∧ i64 x := by
  obtain ⟨x, h1, h2⟩ := h.int rfl rfl
  exact ⟨x, h1, wf_i64 h2⟩
def rgN (n : Nd) : Prop := i64 n.f ∧ i64 n.c ∧ i64 n.l ∧ i64 n.r ∧ i64 n.v
theorem ty_ints {n : Nat} {c : List D} (h : TyD Tp n t_Lint c) : ∃ x, c = cIs x ∧ (x.length ≤ 9223372036854775807 ∧ ∀ y ∈ x, i64 y) := by
  obtain ⟨es, e, b, f⟩ := h.slice rfl rfl rfl
  obtain ⟨l, rfl, q, k⟩ := eL_of (f := cI) (fun c hc => (let ⟨_, hm⟩ := f c hc; ty_int hm))
  exact ⟨l, by rw [e]; rfl, by omega, k⟩
theorem ty_strs {n : Nat} {c : List D} (h : TyD Tp n t_Lstring c) : ∃ x, c = cSs x ∧ (x.length ≤ 9223372036854775807 ∧ ∀ y ∈ x, y.size ≤ 9223372036854775807) := by
  obtain ⟨es, e, b, f⟩ := h.slice rfl rfl rfl
  obtain ⟨l, rfl, q, k⟩ := eL_of (f := cS) (fun c hc => (let ⟨_, hm⟩ := f c hc; ty_str hm))
  exact ⟨l, by rw [e]; rfl, by omega, k⟩

theorem ty_bytes {n : Nat} {c : List D} (h : TyD Tp n t_Luint8 c) : ∃ x : List Int, c = [.sl 1 (eL (fun y => [D.int .u8 y]) x)] ∧ (x.length ≤ 9223372036854775807 ∧ ∀ y ∈ x, 0 ≤ y ∧ y ≤ 255) := by
  obtain ⟨es, e, b, f⟩ := h.slice rfl rfl rfl
  obtain ⟨l, rfl, q, k⟩ := eL_of (f := fun y => [D.int .u8 y]) (ok := fun y => 0 ≤ y ∧ y ≤ 255) (fun c hc => (let ⟨_, hm⟩ := f c hc; by
    obtain ⟨x, h1, h2⟩ := hm.int rfl rfl
    refine ⟨x, h1, ?_⟩
    unfold Lit.wf at h2
    simp only [Bool.and_eq_true, decide_eq_true_eq] at h2
    exact ⟨h2.1, h2.2⟩))
  exact ⟨l, by rw [e], by omega, k⟩
end Go.H.S
namespace Go.H.S
open Go Go.Proofs Go.H
attribute [local irreducible] Tri FnSpec FnSpecM
set_option maxRecDepth 100000
set_option linter.unusedSimpArgs false
set_option linter.unusedVariables false


theorem cost_len {α : Type} (f : α → Nat) (l : List α) : l.length ≤ cost f l := by rw [cost_eq]; omega
theorem cost_costL {α : Type} (f : α → Nat) (l : List α) : costL f l ≤ cost f l := by rw [cost_eq]; omega
theorem model_small {m : Mdl} (h : costModel m ≤ 1048576) : smModel m ∧ m.trees.length ≤ 1048576 ∧ costL List.length m.trees ≤ 1048576 := by
  unfold costModel at h
  have h1 := cost_len ByteArray.size m.names
  have h2 := cost_len costTree m.trees
  have h3 := cost_costL costTree m.trees
  rw [costTree_len] at h3
  refine ⟨⟨by omega, by omega, by omega, fun s hs => ?_⟩, by omega, by omega⟩
  have := costL_mem List.length hs
  omega
theorem bud_ok {c : Nat} (h : 0 ≤ bud 1048576 c) : c ≤ 1048576 := by have := (bud_pos h).1; omega
end Go.H.S
namespace Go.H.S
open Go Go.Proofs Go.H
attribute [local irreducible] Tri FnSpec FnSpecM FnSpecX FnSpecJ
set_option maxRecDepth 100000
set_option linter.unusedSimpArgs false
set_option linter.unusedVariables false


theorem flat_cN (xs : List Nd) : FlatR (eL cN xs) := fun c hc d hd => by
  rw [eL] at hc
  obtain ⟨x, _, rfl⟩ := List.mem_map.1 hc
  simp [cN] at hd
  rcases hd with rfl | rfl | rfl | rfl | rfl <;> rfl
theorem flat_cS (xs : List ByteArray) : FlatR (eL cS xs) := fun c hc d hd => by
  rw [eL] at hc
  obtain ⟨x, _, rfl⟩ := List.mem_map.1 hc
  simp [cS] at hd
  subst hd; rfl
theorem wRem_ten {n : Nat} : wRem (n : Int) 10 = ((n % 10 : Nat) : Int) := by
  unfold wRem
  rw [Int.tmod_eq_emod_of_nonneg (by omega)]
  omega
theorem wQuo_ten {n : Nat} (h : n ≤ 9223372036854775807) : wQuo .i64 (n : Int) 10 = ((n / 10 : Nat) : Int) := by
  unfold wQuo
  rw [Int.tdiv_eq_ediv_of_nonneg (by omega), wrap64 (by omega) (by omega)]
  omega
end Go.H.S
namespace Go.H.S
open Go Go.Proofs Go.H
attribute [local irreducible] Tri FnSpec FnSpecM FnSpecX FnSpecJ
set_option maxRecDepth 100000
set_option linter.unusedSimpArgs false
set_option linter.unusedVariables false


theorem eL_set2 {α : Type} (f : α → List D) (xs : List α) (i : Nat) (y : α) : (eL f xs).set i (f y) = eL f (xs.set i y) := by rw [← eL_set]; unfold dSet; rfl
theorem set_keep {α : Type} {xs : List α} {i j : Nat} {y : α} (h : j ≠ i) : (xs.set i y)[j]? = xs[j]? := by rw [List.getElem?_set, if_neg (fun q => h q.symm)]
theorem costL_take {α : Type} (f : α → Nat) : ∀ (xs : List α) (i : Nat) (x : α), xs[i]? = some x → costL f (xs.take (i + 1)) = costL f (xs.take i) + f x
  | [], i, x, h => by simp at h
  | y :: r, 0, x, h => by simp at h; subst h; simp [costL]
  | y :: r, i + 1, x, h => by
    simp only [List.getElem?_cons_succ] at h
    simp only [List.take_succ_cons, costL]
    rw [costL_take f r i x h]
    omega
theorem costL_take_le {α : Type} (f : α → Nat) : ∀ (xs : List α) (i : Nat), costL f (xs.take i) ≤ costL f xs
  | [], i => by simp
  | y :: r, 0 => by simp [costL]
  | y :: r, i + 1 => by
    simp only [List.take_succ_cons, costL]
    have := costL_take_le f r i
    omega
end Go.H.S
namespace Go.H.S
open Go Go.Proofs Go.H
attribute [local irreducible] Tri FnSpec FnSpecM FnSpecX FnSpecJ
set_option maxRecDepth 100000
set_option linter.unusedSimpArgs false
set_option linter.unusedVariables false


theorem clone_ints_spec (xs : List Int) (hx : xs.length ≤ 1000000000) : FnSpec PR f_slices_Clone_Lint_int [aIs xs] (.c (.ref 0 0 none)) [(0, .arr t_int 1 0 .own (eL cI xs))] 1 := by
  refine FnSpec.intro hT p_slices_Clone_Lint_int rfl (by kernel_rfl) n_slices_Clone_Lint_int rfl ?_
  conv => whnf
  intro b hb
  cases b
  · (conv => whnf)
    refine And.intro (by simp [eL_length, dLen_len]; omega) ?_
    (conv => whnf)
    ((conv => whnf); simp only [St.mk.injEq, List.cons.injEq, Prod.mk.injEq, AV.c.injEq, AV.agg.injEq, AV.tup.injEq, CV.d.injEq, D.int.injEq, D.bool.injEq, D.str.injEq, D.sl.injEq, Ent.arr.injEq, Ent.box.injEq, true_and, and_true, and_self, nInt_eq, Int.natCast_zero, dLen_eL, sLen_eq, dApp_nil])
    done
  · have : xs = [] := by
      have := congrArg List.length (hb rfl)
      rw [eL_length] at this
      exact List.eq_nil_of_length_eq_zero this
    subst this
    (conv => whnf)
    ((conv => whnf); simp only [St.mk.injEq, List.cons.injEq, Prod.mk.injEq, AV.c.injEq, AV.agg.injEq, AV.tup.injEq, CV.d.injEq, D.int.injEq, D.bool.injEq, D.str.injEq, D.sl.injEq, Ent.arr.injEq, Ent.box.injEq, true_and, and_true, and_self, nInt_eq, Int.natCast_zero, dLen_eL, sLen_eq, eL_nil])
    done

theorem clone_strs_spec (xs : List ByteArray) (hx : xs.length ≤ 1000000000) : FnSpec PR f_slices_Clone_Lstring_string [aSs xs] (.c (.ref 0 0 none)) [(0, .arr t_string 1 0 .own (eL cS xs))] 1 := by
  refine FnSpec.intro hT p_slices_Clone_Lstring_string rfl (by kernel_rfl) n_slices_Clone_Lstring_string rfl ?_
  conv => whnf
  intro b hb
  cases b
  · (conv => whnf)
    refine And.intro (by simp [eL_length, dLen_len]; omega) ?_
    (conv => whnf)
    ((conv => whnf); simp only [St.mk.injEq, List.cons.injEq, Prod.mk.injEq, AV.c.injEq, AV.agg.injEq, AV.tup.injEq, CV.d.injEq, D.int.injEq, D.bool.injEq, D.str.injEq, D.sl.injEq, Ent.arr.injEq, Ent.box.injEq, true_and, and_true, and_self, nInt_eq, Int.natCast_zero, dLen_eL, sLen_eq, dApp_nil])
    done
  · have : xs = [] := by
      have := congrArg List.length (hb rfl)
      rw [eL_length] at this
      exact List.eq_nil_of_length_eq_zero this
    subst this
    (conv => whnf)
    ((conv => whnf); simp only [St.mk.injEq, List.cons.injEq, Prod.mk.injEq, AV.c.injEq, AV.agg.injEq, AV.tup.injEq, CV.d.injEq, D.int.injEq, D.bool.injEq, D.str.injEq, D.sl.injEq, Ent.arr.injEq, Ent.box.injEq, true_and, and_true, and_self, nInt_eq, Int.natCast_zero, dLen_eL, sLen_eq, eL_nil])
    done

theorem clone_nodes_spec (xs : List Nd) (hx : xs.length ≤ 1000000000) : FnSpec PR f_slices_Clone_Limpl_Node_impl_Node [aNs xs] (.c (.ref 0 0 none)) [(0, .arr t_impl_Node 5 0 .own (eL cN xs))] 1 := by
  refine FnSpec.intro hT p_slices_Clone_Limpl_Node_impl_Node rfl (by kernel_rfl) n_slices_Clone_Limpl_Node_impl_Node rfl ?_
  conv => whnf
  intro b hb
  cases b
  · (conv => whnf)
    refine And.intro (by simp [eL_length, dLen_len]; omega) ?_
    (conv => whnf)
    ((conv => whnf); simp only [St.mk.injEq, List.cons.injEq, Prod.mk.injEq, AV.c.injEq, AV.agg.injEq, AV.tup.injEq, CV.d.injEq, D.int.injEq, D.bool.injEq, D.str.injEq, D.sl.injEq, Ent.arr.injEq, Ent.box.injEq, true_and, and_true, and_self, nInt_eq, Int.natCast_zero, dLen_eL, sLen_eq, dApp_nil])
    done
  · have : xs = [] := by
      have := congrArg List.length (hb rfl)
      rw [eL_length] at this
      exact List.eq_nil_of_length_eq_zero this
    subst this
    (conv => whnf)
    ((conv => whnf); simp only [St.mk.injEq, List.cons.injEq, Prod.mk.injEq, AV.c.injEq, AV.agg.injEq, AV.tup.injEq, CV.d.injEq, D.int.injEq, D.bool.injEq, D.str.injEq, D.sl.injEq, Ent.arr.injEq, Ent.box.injEq, true_and, and_true, and_self, nInt_eq, Int.natCast_zero, dLen_eL, sLen_eq, eL_nil])
    done

theorem impl_copyTree_spec (t : List Nd) (hl : t.length ≤ 1000000000) : FnSpec PR f_impl_copyTree [aT t] (.agg [.ref 0 0 none]) [(0, .arr t_impl_Node 5 0 .own (eL cN t))] 1 := by
  refine FnSpec.intro hT p_impl_copyTree rfl (by kernel_rfl) n_impl_copyTree rfl ?_
  conv => whnf
  refine .inl ⟨_, _, _, clone_nodes_spec t hl, rfl, ?_⟩
  (conv => whnf)

theorem spec_l17Copy_spec (t : List Nd) (hl : t.length ≤ 1000000000) : FnSpec PR f_spec_l17Copy [aT t] (.agg [.ref 0 0 none]) [(0, .arr t_impl_Node 5 0 .own (eL cN t))] 1 := by
  refine FnSpec.intro hT p_spec_l17Copy rfl (by kernel_rfl) n_spec_l17Copy rfl ?_
  conv => whnf
  refine And.intro (by simp [eL_length, dLen_len]; omega) ?_
  (conv => whnf)
  ((conv => whnf); simp only [St.mk.injEq, List.cons.injEq, Prod.mk.injEq, AV.c.injEq, AV.agg.injEq, AV.tup.injEq, CV.d.injEq, D.int.injEq, D.bool.injEq, D.str.injEq, D.sl.injEq, Ent.arr.injEq, Ent.box.injEq, true_and, and_true, and_self, nInt_eq, Int.natCast_zero, dLen_eL, sLen_eq, dApp_nil])
  done

theorem impl_copyTrees_spec (ts : List (List Nd)) (hl : ts.length ≤ 1000000000) (ht : ∀ t ∈ ts, t.length ≤ 1000000000) : FnSpec PR f_impl_copyTrees [aTs ts] (.c (.ref 0 0 none)) [(0, .arr t_impl_Tree 1 0 (.nest [t_impl_Node]) (eL cT ts))] 1 := by
  refine FnSpec.intro hTn p_impl_copyTrees rfl (by kernel_rfl) n_impl_copyTrees rfl ?_
  conv => whnf
  refine tri_loop hTn [3, 7, 8, 9] (α := Nat × List (List Nd)) (fun x => { t := [(3, .c (.ref 0 0 none)), (7, aTs ts), (8, ai ts.length), (9, ai x.1)], h := [(0, .arr t_impl_Tree 1 0 (.nest [t_impl_Node]) (eL cT x.2))], n := 1, N := 20 })
    (fun x => x.1 ≤ ts.length ∧ x.2 = ts.take x.1) (fun x => ts.length - x.1) (0, []) (by ((conv => whnf); simp only [St.mk.injEq, List.cons.injEq, Prod.mk.injEq, AV.c.injEq, AV.agg.injEq, AV.tup.injEq, CV.d.injEq, D.int.injEq, D.bool.injEq, D.str.injEq, D.sl.injEq, Ent.arr.injEq, Ent.box.injEq, true_and, and_true, and_self, nInt_eq, Int.natCast_zero, dLen_eL, sLen_eq, eL_nil])) ⟨Nat.zero_le _, by simp⟩ ?_
  intro ⟨k, o⟩ ⟨hk, ho⟩
  dsimp only at hk ho
  (conv => whnf)
  refine ifB_i (fun h1 => ?_) (fun h1 => ?_) <;> (conv => whnf) <;> simp at h1
  · obtain ⟨t, hx⟩ := get_lt h1
    have hol : o.length = k := by rw [ho]; simp; omega
    refine idx_at (by simp) hx ?_
    (conv => whnf)
    refine .inl ⟨_, _, _, impl_copyTree_spec t (ht t (List.mem_of_getElem? hx)), rfl, ?_⟩
    (conv => whnf)
    refine ⟨flat_cN t, ?_⟩
    (conv => whnf)
    refine And.intro (by simp [eL_length, dLen_len]; omega) ?_
    (conv => whnf)
    refine ⟨(k + 1, o ++ [t]), by dsimp only; omega, ⟨h1, by dsimp only; rw [ho, List.take_add_one, hx]; rfl⟩, ?_⟩
    ((conv => whnf); simp only [St.mk.injEq, List.cons.injEq, Prod.mk.injEq, AV.c.injEq, AV.agg.injEq, AV.tup.injEq, CV.d.injEq, D.int.injEq, D.bool.injEq, D.str.injEq, D.sl.injEq, Ent.arr.injEq, Ent.box.injEq, true_and, and_true, and_self, nInt_eq, Int.natCast_zero, dLen_eL, sLen_eq, wI h1 (by omega)])
    rw [← eL_app]
    rfl
  · obtain rfl : k = ts.length := by omega
    rw [ho, List.take_length]

theorem spec_l22Trees_spec (ts : List (List Nd)) (hl : ts.length ≤ 1000000000) (ht : ∀ t ∈ ts, t.length ≤ 1000000000) : FnSpec PR f_spec_l22Trees [aTs ts] (.c (.ref 0 0 none)) [(0, .arr t_impl_Tree 1 0 (.nest [t_impl_Node]) (eL cT ts))] 1 := by
  refine FnSpec.intro hTn p_spec_l22Trees rfl (by kernel_rfl) n_spec_l22Trees rfl ?_
  conv => whnf
  refine tri_loop hTn [0, 3, 4] (α := Nat × List (List Nd)) (fun x => { t := [(0, aTs ts), (3, .c (.ref 0 0 none)), (4, ai x.1)], h := [(0, .arr t_impl_Tree 1 0 (.nest [t_impl_Node]) (eL cT x.2))], n := 1, N := 21 })
    (fun x => x.1 ≤ ts.length ∧ x.2 = ts.take x.1) (fun x => ts.length - x.1) (0, []) (by ((conv => whnf); simp only [St.mk.injEq, List.cons.injEq, Prod.mk.injEq, AV.c.injEq, AV.agg.injEq, AV.tup.injEq, CV.d.injEq, D.int.injEq, D.bool.injEq, D.str.injEq, D.sl.injEq, Ent.arr.injEq, Ent.box.injEq, true_and, and_true, and_self, nInt_eq, Int.natCast_zero, dLen_eL, sLen_eq, eL_nil])) ⟨Nat.zero_le _, by simp⟩ ?_
  intro ⟨k, o⟩ ⟨hk, ho⟩
  dsimp only at hk ho
  (conv => whnf)
  refine ifB_i (fun h1 => ?_) (fun h1 => ?_) <;> (conv => whnf) <;> simp at h1
  · obtain ⟨t, hx⟩ := get_lt h1
    have hol : o.length = k := by rw [ho]; simp; omega
    refine idx_at (by simp) hx ?_
    (conv => whnf)
    refine .inl ⟨_, _, _, spec_l17Copy_spec t (ht t (List.mem_of_getElem? hx)), rfl, ?_⟩
    (conv => whnf)
    refine ⟨flat_cN t, ?_⟩
    (conv => whnf)
    refine And.intro (by simp [eL_length, dLen_len]; omega) ?_
    (conv => whnf)
    refine ⟨(k + 1, o ++ [t]), by dsimp only; omega, ⟨h1, by dsimp only; rw [ho, List.take_add_one, hx]; rfl⟩, ?_⟩
    ((conv => whnf); simp only [St.mk.injEq, List.cons.injEq, Prod.mk.injEq, AV.c.injEq, AV.agg.injEq, AV.tup.injEq, CV.d.injEq, D.int.injEq, D.bool.injEq, D.str.injEq, D.sl.injEq, Ent.arr.injEq, Ent.box.injEq, true_and, and_true, and_self, nInt_eq, Int.natCast_zero, dLen_eL, sLen_eq, wI h1 (by omega)])
    rw [← eL_app]
    rfl
  · obtain rfl : k = ts.length := by omega
    rw [ho, List.take_length]

def mdlH (m : Mdl) : List (Nat × Ent) := [(0, .arr t_string 1 0 .own (eL cS m.names)), (1, .arr t_int 1 0 .own (eL cI m.signs)), (2, .arr t_impl_Tree 1 0 (.nest [t_impl_Node]) (eL cT m.trees))]
abbrev mdlA (m : Mdl) : AV := .agg [.ref 0 0 none, .ref 1 0 none, .d (.int .i64 m.base), .ref 2 0 none]
structure smM (m : Mdl) : Prop where
  names : m.names.length ≤ 1000000000
  signs : m.signs.length ≤ 1000000000
  trees : m.trees.length ≤ 1000000000
  nodes : ∀ t ∈ m.trees, t.length ≤ 1000000000

theorem impl_copyModel_spec (m : Mdl) (hs : smM m) : FnSpec PR f_impl_copyModel [aM m] (mdlA m) [(0, .arr t_string 1 0 .own (eL cS m.names)), (1, .arr t_int 1 0 .own (eL cI m.signs)), (2, .arr t_impl_Tree 1 0 (.nest [t_impl_Node]) (eL cT m.trees))] 3 := by
  refine FnSpec.intro hTn p_impl_copyModel rfl (by kernel_rfl) n_impl_copyModel rfl ?_
  conv => whnf
  refine tri_rp 0 ?_
  (conv => whnf)
  refine tri_every hTn hmix [2] { t := [(2, .c (.ptr 0 0))], h := [(0, .box t_impl_Model [.ref 1 0 none, .ref 2 0 none, .d (.int .i64 m.base), .ref 3 0 none]), (1, .arr t_string 1 0 .own (eL cS m.names)), (2, .arr t_int 1 0 .own (eL cI m.signs)), (3, .arr t_impl_Tree 1 0 (.nest [t_impl_Node]) (eL cT m.trees))], n := 4, N := 15 } rfl ?_ ?_
  · repeat' first
      | (refine anyV_one rfl ?_; (conv => whnf))
      | (refine anyV_two rfl ?_ ?_ <;> (conv => whnf))
      | (refine anyV_three rfl ?_ ?_ ?_ <;> (conv => whnf))
      | (refine anyV_four rfl ?_ ?_ ?_ ?_ <;> (conv => whnf))
      | (refine .inl ⟨_, _, _, clone_strs_spec m.names hs.names, rfl, ?_⟩; (conv => whnf))
      | (refine .inl ⟨_, _, _, clone_ints_spec m.signs hs.signs, rfl, ?_⟩; (conv => whnf))
      | (refine .inl ⟨_, _, _, impl_copyTrees_spec m.trees hs.trees hs.nodes, rfl, ?_⟩; (conv => whnf))
      | (refine anyV_end rfl ?_; (conv => whnf); done)
  (conv => whnf)

theorem spec_l24Copy_spec (m : Mdl) (hs : smM m) : FnSpec PR f_spec_l24Copy [aM m] (mdlA m) [(0, .arr t_string 1 0 .own (eL cS m.names)), (1, .arr t_int 1 0 .own (eL cI m.signs)), (2, .arr t_impl_Tree 1 0 (.nest [t_impl_Node]) (eL cT m.trees))] 3 := by
  have h1 : Fits (dLen []) (dLen (eL cS m.names)) := by have := hs.names; simp [Fits, dLen_len, eL_length]; omega
  have h2 : Fits (dLen []) (dLen (eL cI m.signs)) := by have := hs.signs; simp [Fits, dLen_len, eL_length]; omega
  refine FnSpec.intro hTn p_spec_l24Copy rfl (by kernel_rfl) n_spec_l24Copy rfl ?_
  conv => whnf
  refine tri_rp 0 ?_
  (conv => whnf)
  refine tri_every hTn hmix [2] { t := [(2, .c (.ptr 0 0))], h := [(0, .box t_impl_Model [.ref 1 0 none, .ref 2 0 none, .d (.int .i64 m.base), .ref 3 0 none]), (1, .arr t_string 1 0 .own (dApp [] (eL cS m.names))), (2, .arr t_int 1 0 .own (dApp [] (eL cI m.signs))), (3, .arr t_impl_Tree 1 0 (.nest [t_impl_Node]) (eL cT m.trees))], n := 4, N := 17 } rfl ?_ ?_
  · repeat' first
      | (refine anyV_one rfl ?_; (conv => whnf))
      | (refine anyV_two rfl ?_ ?_ <;> (conv => whnf))
      | (refine anyV_three rfl ?_ ?_ ?_ <;> (conv => whnf))
      | (refine anyV_four rfl ?_ ?_ ?_ ?_ <;> (conv => whnf))
      | (refine .inl ⟨_, _, _, spec_l22Trees_spec m.trees hs.trees hs.nodes, rfl, ?_⟩; (conv => whnf))
      | (refine And.intro h1 ?_; (conv => whnf))
      | (refine And.intro h2 ?_; (conv => whnf))
      | (refine anyV_end rfl ?_; (conv => whnf); done)
  (conv => whnf)
  ((conv => whnf); simp only [St.mk.injEq, List.cons.injEq, Prod.mk.injEq, AV.c.injEq, AV.agg.injEq, AV.tup.injEq, CV.d.injEq, D.int.injEq, D.bool.injEq, D.str.injEq, D.sl.injEq, Ent.arr.injEq, Ent.box.injEq, true_and, and_true, and_self, nInt_eq, Int.natCast_zero, dLen_eL, sLen_eq, dApp_nil])
  done

theorem impl_Brought_spec (x lo hi : Int) : FnSpec PR f_impl_Brought [ai x, ai lo, ai hi] (ai (brought x lo hi)) [] 0 := by
  refine FnSpec.intro hT p_impl_Brought rfl (by kernel_rfl) n_impl_Brought rfl ?_
  conv => whnf
  refine ifB_i (fun h => ?_) (fun h => ?_) <;> (conv => whnf) <;> simp only [nInt_eq, Int.natCast_zero, dLen_eL, sLen_eq, nOf_eq, Int.toNat_natCast, nAdd_eq, nSub_eq, dLen_nil, dLen_cons, iLt_t, iLt_f, iLe_t, iLe_f, iEq_t, iEq_f, sEq_t, sEq_f, bNot_t, bNot_f, bAnd_t, bEq_t, bEq_f, Bool.not_eq_true, Bool.not_eq_false, Bool.true_eq_false, Bool.false_eq_true] at h
  · ((conv => whnf); simp only [St.mk.injEq, List.cons.injEq, Prod.mk.injEq, AV.c.injEq, AV.agg.injEq, AV.tup.injEq, CV.d.injEq, D.int.injEq, D.bool.injEq, D.str.injEq, D.sl.injEq, Ent.arr.injEq, Ent.box.injEq, true_and, and_true, and_self, nInt_eq, Int.natCast_zero, dLen_eL, sLen_eq])
    simp only [brought]
    rw [if_pos (by omega)]
  · refine ifB_i (fun h2 => ?_) (fun h2 => ?_) <;> (conv => whnf) <;> simp only [nInt_eq, Int.natCast_zero, dLen_eL, sLen_eq, nOf_eq, Int.toNat_natCast, nAdd_eq, nSub_eq, dLen_nil, dLen_cons, iLt_t, iLt_f, iLe_t, iLe_f, iEq_t, iEq_f, sEq_t, sEq_f, bNot_t, bNot_f, bAnd_t, bEq_t, bEq_f, Bool.not_eq_true, Bool.not_eq_false, Bool.true_eq_false, Bool.false_eq_true] at h2 <;> ((conv => whnf); simp only [St.mk.injEq, List.cons.injEq, Prod.mk.injEq, AV.c.injEq, AV.agg.injEq, AV.tup.injEq, CV.d.injEq, D.int.injEq, D.bool.injEq, D.str.injEq, D.sl.injEq, Ent.arr.injEq, Ent.box.injEq, true_and, and_true, and_self, nInt_eq, Int.natCast_zero, dLen_eL, sLen_eq]) <;> simp only [brought]
    · rw [if_neg (by omega), if_pos (by omega)]
    · rw [if_neg (by omega), if_neg (by omega)]

def firstK (m : Mdl) (k : Int) : Nat := (brought k 0 m.trees.length).toNat
theorem firstK_le (m : Mdl) (k : Int) : firstK m k ≤ m.trees.length ∧ brought k 0 m.trees.length = firstK m k := by
  unfold firstK brought
  split <;> (try split) <;> omega
def firstM (m : Mdl) (k : Int) : Mdl := { m with trees := m.trees.take (firstK m k) }
abbrev firstA (m : Mdl) (k : Int) : AV := .agg [.ref 0 0 none, .ref 1 0 none, .d (.int .i64 m.base), .ref 2 0 (some (true, 0, firstK m k))]

theorem impl_FirstTrees_spec (m : Mdl) (k : Int) (hs : smM m) : FnSpec PR f_impl_FirstTrees [aM m, ai k] (firstA m k) [(0, .arr t_string 1 0 .own (eL cS m.names)), (1, .arr t_int 1 0 .own (eL cI m.signs)), (2, .arr t_impl_Tree 1 0 (.nest [t_impl_Node]) (eL cT m.trees))] 3 := by
  have hk := firstK_le m k
  have eT : nInt (dLen (eL cT m.trees)) = (m.trees.length : Int) := by simp
  have hS : InS 0 (brought k 0 m.trees.length) (lenRE (eL cT m.trees) none) := by simp [InS]; omega
  refine FnSpec.intro hTn p_impl_FirstTrees rfl (by kernel_rfl) n_impl_FirstTrees rfl ?_
  conv => whnf
  refine .inl ⟨_, _, _, impl_copyModel_spec m hs, rfl, ?_⟩
  (conv => whnf)
  refine tri_every hTn hmix [4, 5] { t := [(4, .c (.ptr 0 0)), (5, .c (.ptr 1 0))], h := [(0, .box t_impl_Model [.nl 1, .nl 1, .d (.int .i64 0), .nl 1]), (1, .box t_impl_Model [.ref 2 0 none, .ref 3 0 none, .d (.int .i64 m.base), .ref 4 0 (some (true, nAdd (offR none) (nOf 0), nSub (nOf (brought k 0 m.trees.length)) (nOf 0)))]), (2, .arr t_string 1 0 .own (eL cS m.names)), (3, .arr t_int 1 0 .own (eL cI m.signs)), (4, .arr t_impl_Tree 1 0 (.nest [t_impl_Node]) (eL cT m.trees))], n := 5, N := 18 } rfl ?_ ?_
  · repeat' first
      | (refine anyV_one rfl ?_; (conv => whnf))
      | (refine anyV_two rfl ?_ ?_ <;> (conv => whnf))
      | (refine anyV_three rfl ?_ ?_ ?_ <;> (conv => whnf))
      | (refine anyV_four rfl ?_ ?_ ?_ ?_ <;> (conv => whnf))
      | (rw [eT]; refine .inl ⟨_, _, _, impl_Brought_spec k 0 m.trees.length, rfl, ?_⟩; (conv => whnf))
      | (refine And.intro hS ?_; (conv => whnf))
      | (refine anyV_end rfl ?_; (conv => whnf); done)
  (conv => whnf)
  rw [hk.2]
  ((conv => whnf); simp only [St.mk.injEq, List.cons.injEq, Prod.mk.injEq, AV.c.injEq, AV.agg.injEq, AV.tup.injEq, CV.d.injEq, D.int.injEq, D.bool.injEq, D.str.injEq, D.sl.injEq, Ent.arr.injEq, Ent.box.injEq, true_and, and_true, and_self, nInt_eq, Int.natCast_zero, dLen_eL, sLen_eq, nAdd_eq, nSub_eq, nOf_eq, Int.toNat_natCast, Nat.sub_zero, offR, Int.toNat_zero, Nat.add_zero])

theorem spec_FirstTrees_spec (m : Mdl) (k : Int) (hs : smM m) : FnSpec PR f_spec_FirstTrees [aM m, ai k] (firstA m k) [(0, .arr t_string 1 0 .own (eL cS m.names)), (1, .arr t_int 1 0 .own (eL cI m.signs)), (2, .arr t_impl_Tree 1 0 (.nest [t_impl_Node]) (eL cT m.trees))] 3 := by
  have hk := firstK_le m k
  have eT : nInt (lenRE (eL cT m.trees) none) = (m.trees.length : Int) := by simp
  have hS : InS 0 (brought k 0 m.trees.length) (lenRE (eL cT m.trees) none) := by simp [InS]; omega
  refine FnSpec.intro hTn p_spec_FirstTrees rfl (by kernel_rfl) n_spec_FirstTrees rfl ?_
  conv => whnf
  refine .inl ⟨_, _, _, spec_l24Copy_spec m hs, rfl, ?_⟩
  (conv => whnf)
  refine tri_every hTn hmix [4, 5] { t := [(4, .c (.ptr 0 0)), (5, .c (.ptr 1 0))], h := [(0, .box t_impl_Model [.nl 1, .nl 1, .d (.int .i64 0), .nl 1]), (1, .box t_impl_Model [.ref 2 0 none, .ref 3 0 none, .d (.int .i64 m.base), .ref 4 0 (some (true, nAdd (offR none) (nOf 0), nSub (nOf (brought k 0 m.trees.length)) (nOf 0)))]), (2, .arr t_string 1 0 .own (eL cS m.names)), (3, .arr t_int 1 0 .own (eL cI m.signs)), (4, .arr t_impl_Tree 1 0 (.nest [t_impl_Node]) (eL cT m.trees))], n := 5, N := 18 } rfl ?_ ?_
  · repeat' first
      | (refine anyV_one rfl ?_; (conv => whnf))
      | (refine anyV_two rfl ?_ ?_ <;> (conv => whnf))
      | (refine anyV_three rfl ?_ ?_ ?_ <;> (conv => whnf))
      | (refine anyV_four rfl ?_ ?_ ?_ ?_ <;> (conv => whnf))
      | (rw [eT]; refine .inl ⟨_, _, _, spec_Brought_spec k 0 m.trees.length, rfl, ?_⟩; (conv => whnf))
      | (refine And.intro hS ?_; (conv => whnf))
      | (refine anyV_end rfl ?_; (conv => whnf); done)
  (conv => whnf)
  rw [hk.2]
  ((conv => whnf); simp only [St.mk.injEq, List.cons.injEq, Prod.mk.injEq, AV.c.injEq, AV.agg.injEq, AV.tup.injEq, CV.d.injEq, D.int.injEq, D.bool.injEq, D.str.injEq, D.sl.injEq, Ent.arr.injEq, Ent.box.injEq, true_and, and_true, and_self, nInt_eq, Int.natCast_zero, dLen_eL, sLen_eq, nAdd_eq, nSub_eq, nOf_eq, Int.toNat_natCast, Nat.sub_zero, offR, Int.toNat_zero, Nat.add_zero])
end Go.H.S
namespace Go.H.S
open Go Go.Proofs Go.H
attribute [local irreducible] Tri FnSpec FnSpecM FnSpecX FnSpecJ FnSpecB
set_option maxRecDepth 100000
set_option linter.unusedSimpArgs false
set_option linter.unusedVariables false


theorem spec_l1Once_spec (code : List Int) (i h n : Int) (hi : inCur code (i, h)) (hl : code.length ≤ 1048576) : FnSpecB PR f_spec_l1Once [.c (.ptr 0 0), ai n] t_spec_l1Cur (cur code i h) (Bool × Int × Int)
    (fun x => inCur code x.2) (fun x => ab x.1) (fun x => cur code x.2.1 x.2.2) (fun _ => []) (fun _ => 1) := by
  refine FnSpecB.intro hT 0 p_spec_l1Once rfl (by kernel_rfl) n_spec_l1Once rfl rfl ?_
  intro v0
  (conv => whnf)
  refine .inr (.inr (.inr (.inr (.inl ⟨0, ?_⟩))))
  (conv => whnf)
  refine ⟨_, _, _, _, _, _, spec_l1Below_spec code i h n hi hl, fun ⟨x, i1, h1⟩ ⟨hx, hi1⟩ => ⟨rfl, ?_⟩⟩
  dsimp only at hx hi1
  (conv => whnf)
  refine ⟨(iEq x 0, i1, h1), hi1, ?_⟩
  (conv => whnf)

theorem spec_l1Whole_spec (code : List Int) (i h : Int) (hi : inCur code (i, h)) (hl : code.length ≤ 1048576) : FnSpecB PR f_spec_l1Whole [.c (.ptr 0 0)] t_spec_l1Cur (cur code i h) (Int × Int × Int)
    (fun x => inCur code x.2) (fun x => ai x.1) (fun x => cur code x.2.1 x.2.2) (fun _ => []) (fun _ => 1) := by
  refine FnSpecB.intro hT 0 p_spec_l1Whole rfl (by kernel_rfl) n_spec_l1Whole rfl rfl ?_
  intro v0
  (conv => whnf)
  refine .inr (.inr (.inr (.inr (.inl ⟨0, ?_⟩))))
  (conv => whnf)
  refine ⟨_, _, _, _, _, _, spec_l1Below_spec code i h _ hi hl, fun ⟨x, i1, h1⟩ ⟨hx, hi1⟩ => ⟨rfl, ?_⟩⟩
  dsimp only at hx hi1
  (conv => whnf)
  refine ifB_i (fun g0 => ?_) (fun g0 => ?_) <;> (conv => whnf)
  · refine .inr (.inr (.inr (.inr (.inl ⟨0, ?_⟩))))
    (conv => whnf)
    refine ⟨_, _, _, _, _, _, spec_l1PickInt_of code _ _ _ [0, 1, -1, 9, 10, 999, 1000, 2147483647, -2147483648, 3037000499, 3037000500, 9223372036854775807, -9223372036854775807, -9223372036854775808] (by simp [eL, cI]) hi1 hl (by simp) (by simp), fun ⟨y, j, g⟩ ⟨hy, hj⟩ => ⟨rfl, ?_⟩⟩
    dsimp only at hy hj
    (conv => whnf)
    refine ⟨(y, j, g), hj, ?_⟩
    (conv => whnf)
  refine ifB_i (fun g1 => ?_) (fun g1 => ?_) <;> (conv => whnf)
  · refine tri_loop hT [0, 3, 4] (α := Nat × Int × Int × Int) (fun x => { t := [(0, .w (.ptr 0 0) v0), (3, ai x.2.1), (4, ai x.1)], h := [(0, .box t_spec_l1Cur (cur code x.2.2.1 x.2.2.2))], n := 1, N := 32 })
      (fun x => x.1 ≤ 8 ∧ inCur code x.2.2) (fun x => 8 - x.1) (0, 0, i1, h1) (by first | ((conv => whnf); done) | ((conv => whnf); rfl)) ⟨by omega, hi1⟩ ?_
    intro ⟨k, y, i2, h2⟩ ⟨hk, hi2⟩
    dsimp only at hk hi2
    (conv => whnf)
    refine ifB_i (fun g2 => ?_) (fun g2 => ?_) <;> (conv => whnf) <;> simp only [nInt_eq, Int.natCast_zero, dLen_eL, sLen_eq, nOf_eq, Int.toNat_natCast, nAdd_eq, nSub_eq, dLen_nil, dLen_cons, iLt_t, iLt_f, iLe_t, iLe_f, iEq_t, iEq_f, sEq_t, sEq_f, bNot_t, bNot_f, bAnd_t, bEq_t, bEq_f, Bool.not_eq_true, Bool.not_eq_false, Bool.true_eq_false, Bool.false_eq_true] at g2
    · refine .inr (.inr (.inr (.inr (.inl ⟨0, ?_⟩))))
      (conv => whnf)
      refine ⟨_, _, _, _, _, _, spec_l1Byte_spec code i2 h2 hi2 hl, fun ⟨z, i3, h3⟩ ⟨hz, hi3⟩ => ⟨rfl, ?_⟩⟩
      dsimp only at hz hi3
      (conv => whnf)
      refine ⟨(k + 1, wAdd .i64 (wMul .i64 y 256) z, i3, h3), by dsimp only; omega, ⟨by dsimp only; omega, hi3⟩, ?_⟩
      ((conv => whnf); simp only [St.mk.injEq, List.cons.injEq, Prod.mk.injEq, AV.c.injEq, AV.agg.injEq, AV.tup.injEq, CV.d.injEq, D.int.injEq, D.bool.injEq, D.str.injEq, D.sl.injEq, Ent.arr.injEq, Ent.box.injEq, true_and, and_true, and_self, nInt_eq, Int.natCast_zero, dLen_eL, sLen_eq, wI (show k < 8 by omega) (by omega)])
    · refine ⟨(y, i2, h2), hi2, ?_⟩
      (conv => whnf)
  refine ifB_i (fun g2 => ?_) (fun g2 => ?_) <;> (conv => whnf)
  · refine .inr (.inr (.inr (.inr (.inl ⟨0, ?_⟩))))
    (conv => whnf)
    refine ⟨_, _, _, _, _, _, spec_l1Below_spec code i1 h1 _ hi1 hl, fun ⟨y, i2, h2⟩ ⟨hy, hi2⟩ => ⟨rfl, ?_⟩⟩
    dsimp only at hy hi2
    (conv => whnf)
    refine ⟨(wSub .i64 y 500000, i2, h2), hi2, ?_⟩
    (conv => whnf)
  · refine .inr (.inr (.inr (.inr (.inl ⟨0, ?_⟩))))
    (conv => whnf)
    refine ⟨_, _, _, _, _, _, spec_l1Below_spec code i1 h1 _ hi1 hl, fun ⟨y, i2, h2⟩ ⟨hy, hi2⟩ => ⟨rfl, ?_⟩⟩
    dsimp only at hy hi2
    (conv => whnf)
    refine ⟨(wSub .i64 y 20, i2, h2), hi2, ?_⟩
    (conv => whnf)

theorem spec_l18Row_spec (code : List Int) (i h : Int) (n : Nat) (hn : n ≤ 1000) (hi : inCur code (i, h)) (hl : code.length ≤ 1048576) : FnSpecB PR f_spec_l18Row [.c (.ptr 0 0), ai n] t_spec_l1Cur (cur code i h) (List Int × Int × Int)
    (fun x => x.1.length ≤ n ∧ inCur code x.2) (fun x => .c (.ref 1 0 none)) (fun x => cur code x.2.1 x.2.2) (fun x => [(1, .arr t_int 1 0 .own (eL cI x.1))]) (fun _ => 2) := by
  refine FnSpecB.intro hT 0 p_spec_l18Row rfl (by kernel_rfl) n_spec_l18Row rfl rfl ?_
  intro v0
  (conv => whnf)
  refine tri_loop hT [0, 1, 5, 6] (α := Nat × List Int × Int × Int) (fun x => { t := [(0, .w (.ptr 0 0) v0), (1, ai n), (5, .c (.ref 1 0 none)), (6, ai x.1)], h := [(0, .box t_spec_l1Cur (cur code x.2.2.1 x.2.2.2)), (1, .arr t_int 1 0 .own (eL cI x.2.1))], n := 2, N := 31 })
    (fun x => x.1 ≤ n ∧ x.2.1.length = x.1 ∧ inCur code x.2.2) (fun x => n - x.1) (0, [], i, h) (by (conv => whnf); rw [eL_nil]; rfl) ⟨by omega, rfl, hi⟩ ?_
  intro ⟨k, l, i1, h1⟩ ⟨hk, hk2, hi1⟩
  dsimp only at hk hk2 hi1
  (conv => whnf)
  refine ifB_i (fun g2 => ?_) (fun g2 => ?_) <;> (conv => whnf) <;> simp only [nInt_eq, Int.natCast_zero, dLen_eL, sLen_eq, nOf_eq, Int.toNat_natCast, nAdd_eq, nSub_eq, dLen_nil, dLen_cons, iLt_t, iLt_f, iLe_t, iLe_f, iEq_t, iEq_f, sEq_t, sEq_f, bNot_t, bNot_f, bAnd_t, bEq_t, bEq_f, Bool.not_eq_true, Bool.not_eq_false, Bool.true_eq_false, Bool.false_eq_true] at g2
  · refine .inr (.inr (.inr (.inr (.inl ⟨0, ?_⟩))))
    (conv => whnf)
    refine ⟨_, _, _, _, _, _, spec_l1Once_spec code i1 h1 12 hi1 hl, fun ⟨b, i2, h2⟩ hi2 => ⟨rfl, ?_⟩⟩
    dsimp only at hi2
    cases b
    · (conv => whnf)
      refine .inr (.inr (.inr (.inr (.inl ⟨0, ?_⟩))))
      (conv => whnf)
      refine ⟨_, _, _, _, _, _, spec_l1Below_spec code i2 h2 _ hi2 hl, fun ⟨y, i3, h3⟩ ⟨hy, hi3⟩ => ⟨rfl, ?_⟩⟩
      dsimp only at hy hi3
      (conv => whnf)
      refine .inr (.inr (.inr (.inr (.inl ⟨0, ?_⟩))))
      (conv => whnf)
      refine ⟨_, _, _, _, _, _, spec_l1Below_spec code i3 h3 _ hi3 hl, fun ⟨z, i4, h4⟩ ⟨hz, hi4⟩ => ⟨rfl, ?_⟩⟩
      dsimp only at hz hi4
      (conv => whnf)
      refine And.intro (by simp [eL_length, dLen_len]; omega) ?_
      (conv => whnf)
      refine ⟨(k + 1, l ++ [wAdd .i64 (wMul .i64 500 (wSub .i64 y 5)) z], i4, h4), by dsimp only; omega, ⟨by dsimp only; omega, by simp; omega, hi4⟩, ?_⟩
      ((conv => whnf); simp only [St.mk.injEq, List.cons.injEq, Prod.mk.injEq, AV.c.injEq, AV.agg.injEq, AV.tup.injEq, CV.d.injEq, D.int.injEq, D.bool.injEq, D.str.injEq, D.sl.injEq, Ent.arr.injEq, Ent.box.injEq, true_and, and_true, and_self, nInt_eq, Int.natCast_zero, dLen_eL, sLen_eq, wI (show k < n by omega) (by omega)])
      rw [← eL_app]
      rfl
    · (conv => whnf)
      refine .inr (.inr (.inr (.inr (.inl ⟨0, ?_⟩))))
      (conv => whnf)
      refine ⟨_, _, _, _, _, _, spec_l1Whole_spec code i2 h2 hi2 hl, fun ⟨y, i3, h3⟩ hi3 => ⟨rfl, ?_⟩⟩
      dsimp only at hi3
      (conv => whnf)
      refine And.intro (by simp [eL_length, dLen_len]; omega) ?_
      (conv => whnf)
      refine ⟨(k + 1, l ++ [y], i3, h3), by dsimp only; omega, ⟨by dsimp only; omega, by simp; omega, hi3⟩, ?_⟩
      ((conv => whnf); simp only [St.mk.injEq, List.cons.injEq, Prod.mk.injEq, AV.c.injEq, AV.agg.injEq, AV.tup.injEq, CV.d.injEq, D.int.injEq, D.bool.injEq, D.str.injEq, D.sl.injEq, Ent.arr.injEq, Ent.box.injEq, true_and, and_true, and_self, nInt_eq, Int.natCast_zero, dLen_eL, sLen_eq, wI (show k < n by omega) (by omega)])
      rw [← eL_app]
      rfl
  · refine ⟨(l, i1, h1), ⟨by dsimp only; omega, hi1⟩, ?_⟩
    (conv => whnf)

theorem spec_l1Pick_spec (code : List Int) (i h : Int) (l : List ByteArray) (hi : 0 ≤ i ∧ i ≤ code.length) (hl : code.length ≤ 1048576) (hne : 0 < l.length) (hll : l.length ≤ 1048576) : FnSpecB PR f_spec_l1Pick [.c (.ptr 0 0), aSs l] t_spec_l1Cur (cur code i h) (ByteArray × Int × Int)
    (fun x => x.1 ∈ l ∧ inCur code x.2) (fun x => aS x.1) (fun x => cur code x.2.1 x.2.2) (fun _ => []) (fun _ => 1) := by
  refine FnSpecB.intro hT 0 p_spec_l1Pick rfl (by kernel_rfl) n_spec_l1Pick rfl rfl ?_
  intro v0
  (conv => whnf)
  refine .inr (.inr (.inr (.inr (.inl ⟨0, ?_⟩))))
  (conv => whnf)
  rw [show nInt (dLen (eL cS l)) = (l.length : Int) by simp]
  refine ⟨_, _, _, _, _, _, spec_l1Below_spec code i h l.length hi hl, fun ⟨x, i1, h1'⟩ ⟨hx, hi1⟩ => ⟨rfl, ?_⟩⟩
  dsimp only at hx hi1
  (conv => whnf)
  obtain ⟨k, rfl⟩ : ∃ k : Nat, x = k := ⟨x.toNat, by omega⟩
  obtain ⟨y, hy⟩ := get_lt (show k < l.length by have := hx.2.1 (by omega); omega)
  refine idx_at (by simp) hy ?_
  (conv => whnf)
  refine ⟨(y, i1, h1'), ⟨List.mem_of_getElem? hy, hi1⟩, ?_⟩
  (conv => whnf)
theorem spec_l1Pick_of (code : List Int) (i h : Int) (es : List (List D)) (l : List ByteArray) (he : es = eL cS l) (hi : 0 ≤ i ∧ i ≤ code.length) (hl : code.length ≤ 1048576) (hne : 0 < l.length) (hll : l.length ≤ 1048576) : FnSpecB PR f_spec_l1Pick [.c (.ptr 0 0), .c (.d (.sl 1 es))] t_spec_l1Cur (cur code i h) (ByteArray × Int × Int)
    (fun x => x.1 ∈ l ∧ inCur code x.2) (fun x => aS x.1) (fun x => cur code x.2.1 x.2.2) (fun _ => []) (fun _ => 1) := he ▸ spec_l1Pick_spec code i h l hi hl hne hll

structure drawn (m : Mdl) : Prop where
  names : m.names.length ≤ 5
  one : 1 ≤ m.names.length
  texts : ∀ s ∈ m.names, s.size ≤ 100
  signs : m.signs.length ≤ 5
  trees : m.trees.length ≤ 12
  nodes : ∀ t ∈ m.trees, t.length ≤ 32
def abc : List ByteArray := [⟨#[97]⟩, ⟨#[98]⟩, ⟨#[99, 50]⟩]
theorem spec_l24Right_spec (code : List Int) (i h : Int) (hi : inCur code (i, h)) (hl : code.length ≤ 1048576) : FnSpecB PR f_spec_l24Right [.c (.ptr 0 0)] t_spec_l1Cur (cur code i h) (Mdl × Int × Int)
    (fun x => drawn x.1 ∧ x.1.names.length ≤ 3 ∧ x.1.signs.length ≤ 3 ∧ x.1.trees.length ≤ 3 ∧ inCur code x.2) (fun x => .agg [.ref 1 0 none, .ref 2 0 none, .d (.int .i64 x.1.base), .ref 3 0 none]) (fun x => cur code x.2.1 x.2.2)
    (fun x => [(1, .arr t_string 1 0 .own (eL cS x.1.names)), (2, .arr t_int 1 0 .own (eL cI x.1.signs)), (3, .arr t_impl_Tree 1 0 .own (eL cT x.1.trees))]) (fun _ => 4) := by
  refine FnSpecB.intro hT 0 p_spec_l24Right rfl (by kernel_rfl) n_spec_l24Right rfl rfl ?_
  intro v0
  (conv => whnf)
  refine .inr (.inr (.inr (.inr (.inl ⟨0, ?_⟩))))
  (conv => whnf)
  refine ⟨_, _, _, _, _, _, spec_l1Below_spec code i h 3 hi hl, fun ⟨x, i1, h1⟩ ⟨hx, hi1⟩ => ⟨rfl, ?_⟩⟩
  dsimp only at hx hi1
  have hx2 := hx.2.1 (by decide)
  (conv => whnf)
  rw [show wAdd .i64 1 x = 1 + x from wAdd64 (by omega) (by omega)]
  have hp : partOf [[D.str { data := #[97] }], [D.str { data := #[98] }], [D.str { data := #[99, 50] }]] (some (true, nAdd (offR none) (nOf 0), nSub (nOf (1 + x)) (nOf 0))) = eL cS (abc.take (1 + x).toNat) := by
    rw [show [[D.str { data := #[97] }], [D.str { data := #[98] }], [D.str { data := #[99, 50] }]] = eL cS abc from by simp [eL, cS, abc], part_eL]
    simp [nAdd_eq, nSub_eq, nOf_eq, offR]
  refine And.intro (by simp [InS, lenRE]; omega) ?_
  (conv => whnf)
  refine And.intro (by rw [hp]; simp [eL_length, dLen_len, abc]; omega) ?_
  (conv => whnf)
  rw [hp]
  refine .inr (.inr (.inr (.inr (.inl ⟨0, ?_⟩))))
  (conv => whnf)
  refine ⟨_, _, _, _, _, _, spec_l1Below_spec code i1 h1 _ hi1 hl, fun ⟨y, i2, h2⟩ ⟨hy, hi2⟩ => ⟨rfl, ?_⟩⟩
  dsimp only at hy hi2
  (conv => whnf)
  refine .inr (.inr (.inr (.inr (.inl ⟨0, ?_⟩))))
  (conv => whnf)
  refine ⟨_, _, _, _, _, _, spec_l1Below_spec code i2 h2 4 hi2 hl, fun ⟨k, i3, h3⟩ ⟨hk, hi3⟩ => ⟨rfl, ?_⟩⟩
  dsimp only at hk hi3
  have hk2 := hk.2.1 (by decide)
  (conv => whnf)
  have hal3 : (abc.take (1 + x).toNat).length = (1 + x).toNat := by simp [abc]; omega
  refine tri_nl 6 1 t_int 1 ?_
  (conv => whnf)
  refine tri_nl 6 3 t_impl_Tree 1 ?_
  (conv => whnf)
  refine tri_loop hT [0, 2, 3, 4, 5, 6] (α := Nat × List (List Nd) × Int × Int) (fun x' => { t := [(0, .w (.ptr 0 0) v0), (2, .c (.ptr 1 0)), (3, ai (1 + x)), (4, .c (.ptr 2 0)), (5, ai k), (6, ai x'.1)], h := [(0, .box t_spec_l1Cur (cur code x'.2.2.1 x'.2.2.2)), (1, .box t_impl_Model [.nl 1, .nl 1, .d (.int .i64 0), .nl 1]), (2, .box t_impl_Model [.ref 3 0 none, .ref 4 0 none, .d (.int .i64 (wMul .i64 50 (wSub .i64 y 10))), .ref 5 0 none]), (3, .arr t_string 1 0 .own (eL cS (abc.take (1 + x).toNat))), (4, .arr t_int 1 0 .own (eL cI ([] : List Int))), (5, .arr t_impl_Tree 1 0 .own (eL cT x'.2.1))], n := 6, N := 55 })
    (fun x' => (x'.1 : Int) ≤ k ∧ x'.2.1.length = x'.1 ∧ (∀ t ∈ x'.2.1, t.length ≤ 32) ∧ inCur code x'.2.2) (fun x' => k.toNat - x'.1) (0, [], i3, h3) (by (conv => whnf); simp only [dApp_nil, eL_nil]; rfl) ⟨by dsimp only; omega, rfl, fun t ht => absurd ht (by simp), hi3⟩ ?_
  intro ⟨a, ts, i4, h4⟩ ⟨ha, hal, hat, hi4⟩
  dsimp only at ha hal hat hi4
  (conv => whnf)
  refine ifB_i (fun g1 => ?_) (fun g1 => ?_) <;> (conv => whnf) <;> simp only [nInt_eq, Int.natCast_zero, dLen_eL, sLen_eq, nOf_eq, Int.toNat_natCast, nAdd_eq, nSub_eq, dLen_nil, dLen_cons, iLt_t, iLt_f, iLe_t, iLe_f, iEq_t, iEq_f, sEq_t, sEq_f, bNot_t, bNot_f, bAnd_t, bEq_t, bEq_f, Bool.not_eq_true, Bool.not_eq_false, Bool.true_eq_false, Bool.false_eq_true] at g1
  · refine tri_everyX hT hmix [0, 2, 3, 4, 5, 6] (Y := List Nd × Int × Int) (fun y' => y'.1.length ≤ 32 ∧ inCur code y'.2) (fun y' => { t := [(0, .w (.ptr 0 0) v0), (2, .c (.ptr 1 0)), (3, ai (1 + x)), (4, .c (.ptr 2 0)), (5, ai k), (6, ai a)], h := [(0, .box t_spec_l1Cur (cur code y'.2.1 y'.2.2)), (1, .box t_impl_Model [.nl 1, .nl 1, .d (.int .i64 0), .nl 1]), (2, .box t_impl_Model [.ref 3 0 none, .ref 4 0 none, .d (.int .i64 (wMul .i64 50 (wSub .i64 y 10))), .ref 5 0 none]), (3, .arr t_string 1 0 .own (eL cS (abc.take (1 + x).toNat))), (4, .arr t_int 1 0 .own (eL cI ([] : List Int))), (5, .arr t_impl_Tree 1 0 .own (eL cT (ts ++ [y'.1])))], n := 6, N := 55 }) rfl ?_ ?_
    · repeat' first
          | (refine anyV_one rfl ?_; (conv => whnf))
          | (refine anyV_two rfl ?_ ?_ <;> (conv => whnf))
          | (refine anyV_three rfl ?_ ?_ ?_ <;> (conv => whnf))
          | (refine .inr (.inr (.inr (.inr (.inl ⟨0, ?_⟩)))); (conv => whnf); refine ⟨_, _, _, _, _, _, spec_l17Right_spec code i4 h4 (1 + x) hi4 hl (by omega), fun ⟨t', i5, h5⟩ ⟨ht', hi5⟩ => ⟨rfl, ?_⟩⟩; dsimp only at ht' hi5; (conv => whnf))
          | (refine And.intro (by simp [partOf_none]; omega) ?_; (conv => whnf))
      all_goals
        refine anyV_end rfl ?_
        refine ⟨(t', i5, h5), ⟨by simp only [treeOk, Bool.and_eq_true, decide_eq_true_eq] at ht'; dsimp only; omega, hi5⟩, ?_⟩
        (conv => whnf)
        simp only [partOf_none]
        rw [← eL_app]
        rfl
    · intro ⟨t', i5, h5⟩ ⟨hy1, hy2⟩
      dsimp only at hy1 hy2
      (conv => whnf)
      refine ⟨(a + 1, ts ++ [t'], i5, h5), by dsimp only; omega, ⟨by dsimp only; omega, by simp; omega, fun t ht => ?_, hy2⟩, ?_⟩
      · rcases List.mem_append.1 ht with ht | ht
        · exact hat t ht
        · simp at ht; rw [ht]; exact hy1
      ((conv => whnf); simp only [St.mk.injEq, List.cons.injEq, Prod.mk.injEq, AV.c.injEq, AV.agg.injEq, AV.tup.injEq, CV.d.injEq, D.int.injEq, D.bool.injEq, D.str.injEq, D.sl.injEq, Ent.arr.injEq, Ent.box.injEq, true_and, and_true, and_self, nInt_eq, Int.natCast_zero, dLen_eL, sLen_eq, wI (show a < 3 by omega) (by omega)])
  · refine tri_loop hT [0, 2, 3, 4, 5, 7] (α := Nat × List Int × Int × Int) (fun x' => { t := [(0, .w (.ptr 0 0) v0), (2, .c (.ptr 1 0)), (3, ai (1 + x)), (4, .c (.ptr 2 0)), (5, ai k), (7, ai x'.1)], h := [(0, .box t_spec_l1Cur (cur code x'.2.2.1 x'.2.2.2)), (1, .box t_impl_Model [.nl 1, .nl 1, .d (.int .i64 0), .nl 1]), (2, .box t_impl_Model [.ref 3 0 none, .ref 4 0 none, .d (.int .i64 (wMul .i64 50 (wSub .i64 y 10))), .ref 5 0 none]), (3, .arr t_string 1 0 .own (eL cS (abc.take (1 + x).toNat))), (4, .arr t_int 1 0 .own (eL cI x'.2.1)), (5, .arr t_impl_Tree 1 0 .own (eL cT ts))], n := 6, N := 55 })
      (fun x' => (x'.1 : Int) ≤ 1 + x ∧ x'.2.1.length ≤ x'.1 ∧ inCur code x'.2.2) (fun x' => (1 + x).toNat - x'.1) (0, [], i4, h4) (by (conv => whnf); rfl) ⟨by dsimp only; omega, Nat.le_refl _, hi4⟩ ?_
    intro ⟨b, ss, i5, h5⟩ ⟨hb, hbl, hi5⟩
    dsimp only at hb hbl hi5
    (conv => whnf)
    have hend : ∀ (i6 h6 : Int), inCur code (i6, h6) → drawn (⟨abc.take (1 + x).toNat, ss, wMul .i64 50 (wSub .i64 y 10), ts⟩ : Mdl) ∧ (abc.take (1 + x).toNat).length ≤ 3 ∧ ss.length ≤ 3 ∧ ts.length ≤ 3 ∧ inCur code (i6, h6) := fun i6 h6 hc6 =>
      ⟨⟨by dsimp only; omega, by dsimp only; omega, fun s hs => by
        have : s ∈ abc := List.mem_of_mem_take hs
        simp [abc] at this
        rcases this with rfl | rfl | rfl <;> decide, by dsimp only; omega, by dsimp only; omega, hat⟩, by omega, by omega, by omega, hc6⟩
    cases g2 : iLt (b : Int) (1 + x)
    · (conv => whnf)
      refine ⟨(⟨abc.take (1 + x).toNat, ss, wMul .i64 50 (wSub .i64 y 10), ts⟩, i5, h5), hend i5 h5 hi5, ?_⟩
      (conv => whnf)
    simp at g2
    (conv => whnf)
    refine And.intro (by unfold NZ; omega) ?_
    (conv => whnf)
    cases g3 : iEq (wRem k 2) 1
    · (conv => whnf)
      refine ⟨(⟨abc.take (1 + x).toNat, ss, wMul .i64 50 (wSub .i64 y 10), ts⟩, i5, h5), hend i5 h5 hi5, ?_⟩
      (conv => whnf)
    (conv => whnf)
    refine tri_everyX hT hmix [0, 2, 3, 4, 5, 7] (Y := Int × Int × Int) (fun y' => inCur code y'.2) (fun y' => { t := [(0, .w (.ptr 0 0) v0), (2, .c (.ptr 1 0)), (3, ai (1 + x)), (4, .c (.ptr 2 0)), (5, ai k), (7, ai b)], h := [(0, .box t_spec_l1Cur (cur code y'.2.1 y'.2.2)), (1, .box t_impl_Model [.nl 1, .nl 1, .d (.int .i64 0), .nl 1]), (2, .box t_impl_Model [.ref 3 0 none, .ref 4 0 none, .d (.int .i64 (wMul .i64 50 (wSub .i64 y 10))), .ref 5 0 none]), (3, .arr t_string 1 0 .own (eL cS (abc.take (1 + x).toNat))), (4, .arr t_int 1 0 .own (eL cI (ss ++ [y'.1]))), (5, .arr t_impl_Tree 1 0 .own (eL cT ts))], n := 6, N := 55 }) rfl ?_ ?_
    · repeat' first
          | (refine anyV_one rfl ?_; (conv => whnf))
          | (refine anyV_two rfl ?_ ?_ <;> (conv => whnf))
          | (refine anyV_three rfl ?_ ?_ ?_ <;> (conv => whnf))
          | (refine .inr (.inr (.inr (.inr (.inl ⟨0, ?_⟩)))); (conv => whnf); refine ⟨_, _, _, _, _, _, spec_l1Below_spec code i5 h5 3 hi5 hl, fun ⟨z, i6, h6⟩ ⟨hz, hi6⟩ => ⟨rfl, ?_⟩⟩; dsimp only at hz hi6; (conv => whnf))
          | (refine And.intro (by simp [partOf_none]; omega) ?_; (conv => whnf))
      all_goals
        refine anyV_end rfl ?_
        refine ⟨(wSub .i64 z 1, i6, h6), hi6, ?_⟩
        (conv => whnf)
        simp only [partOf_none]
        rw [← eL_app]
        rfl
    · intro ⟨z, i6, h6⟩ hi6
      dsimp only at hi6
      (conv => whnf)
      refine ⟨(b + 1, ss ++ [z], i6, h6), by dsimp only; omega, ⟨by dsimp only; omega, by simp; omega, hi6⟩, ?_⟩
      ((conv => whnf); simp only [St.mk.injEq, List.cons.injEq, Prod.mk.injEq, AV.c.injEq, AV.agg.injEq, AV.tup.injEq, CV.d.injEq, D.int.injEq, D.bool.injEq, D.str.injEq, D.sl.injEq, Ent.arr.injEq, Ent.box.injEq, true_and, and_true, and_self, nInt_eq, Int.natCast_zero, dLen_eL, sLen_eq, wI (show b < 3 by omega) (by omega)])

theorem pick_size {y : ByteArray} (hy : y ∈ [(⟨#[]⟩ : ByteArray), ⟨#[65]⟩, ⟨#[98]⟩, ⟨#[97, 98, 99, 100, 101, 102, 103, 104, 105, 106, 107, 108, 109]⟩]) : y.size ≤ 100 := by
  simp only [List.mem_cons, List.mem_nil_iff, or_false] at hy
  rcases hy with rfl | rfl | rfl | rfl <;> decide
theorem cS_set0 (xs : List ByteArray) (x y : ByteArray) : dSet (eL cS xs) (nAdd (offR none) (nOf 0)) (dOver (cS x) 0 [.str y]) = eL cS (xs.set 0 y) := by
  rw [dOver_all (by rfl), show nAdd (offR none) (nOf 0) = 0 from by simp [nAdd_eq, nOf_eq, offR]]
  exact eL_set cS xs 0 y
theorem spec_l24Bent_spec (code : List Int) (i h : Int) (hi : inCur code (i, h)) (hl : code.length ≤ 1048576) : FnSpecB PR f_spec_l24Bent [.c (.ptr 0 0)] t_spec_l1Cur (cur code i h) (Mdl × Int × Int)
    (fun x => drawn x.1 ∧ inCur code x.2) (fun x => aM x.1) (fun x => cur code x.2.1 x.2.2) (fun _ => []) (fun _ => 1) := by
  refine FnSpecB.intro hT 0 p_spec_l24Bent rfl (by kernel_rfl) n_spec_l24Bent rfl rfl ?_
  intro v0
  (conv => whnf)
  refine .inr (.inr (.inr (.inr (.inl ⟨0, ?_⟩))))
  (conv => whnf)
  refine ⟨_, _, _, _, _, _, spec_l24Right_spec code i h hi hl, fun ⟨m, i1, h1⟩ ⟨hm, hm1, hm2, hm3, hi1⟩ => ⟨rfl, ?_⟩⟩
  dsimp only at hm hm1 hm2 hm3 hi1
  (conv => whnf)
  refine .inr (.inr (.inr (.inr (.inl ⟨0, ?_⟩))))
  (conv => whnf)
  refine ⟨_, _, _, _, _, _, spec_l1Below_spec code i1 h1 14 hi1 hl, fun ⟨x, i2, h2⟩ ⟨hx, hi2⟩ => ⟨rfl, ?_⟩⟩
  dsimp only at hx hi2
  (conv => whnf)
  refine ifB_i (fun g0 => ?_) (fun g0 => ?_) <;> (conv => whnf)
  · refine tri_everyX hT hmix [0, 2, 3] (Y := ByteArray × Int × Int) (fun y' => y'.1.size ≤ 100 ∧ inCur code y'.2) (fun y' => { t := [(0, .w (.ptr 0 0) v0), (2, .c (.ptr 1 0)), (3, .c (.ptr 2 0))], h := [(0, .box t_spec_l1Cur (cur code y'.2.1 y'.2.2)), (1, .box t_impl_Model [.nl 1, .nl 1, .d (.int .i64 0), .nl 1]), (2, .box t_impl_Model [.ref 3 0 none, .ref 4 0 none, .d (.int .i64 m.base), .ref 5 0 none]), (3, .arr t_string 1 0 .own (eL cS (m.names.set 0 y'.1))), (4, .arr t_int 1 0 .own (eL cI m.signs)), (5, .arr t_impl_Tree 1 0 .own (eL cT m.trees))], n := 6, N := 61 }) rfl ?_ ?_
    · have hone := hm.one
      obtain ⟨s0, hs0⟩ := get_lt (show 0 < m.names.length by omega)
      repeat' first
        | (refine anyV_one rfl ?_; (conv => whnf))
        | (refine anyV_two rfl ?_ ?_ <;> (conv => whnf))
        | (refine anyV_three rfl ?_ ?_ ?_ <;> (conv => whnf))
        | (refine .inr (.inr (.inr (.inr (.inl ⟨0, ?_⟩)))); (conv => whnf); refine ⟨_, _, _, _, _, _, spec_l1Pick_of code _ _ _ [⟨#[]⟩, ⟨#[65]⟩, ⟨#[98]⟩, ⟨#[97, 98, 99, 100, 101, 102, 103, 104, 105, 106, 107, 108, 109]⟩] (by simp [eL, cS]) hi2 hl (by simp) (by simp), fun ⟨y, j, g⟩ ⟨hy, hj⟩ => ⟨rfl, ?_⟩⟩; dsimp only at hy hj; (conv => whnf))
        | (refine ref_at (k := 0) rfl (by simp; omega) ?_; (conv => whnf))
        | (refine st_at (k := 0) (by simp) hs0 (by simp [cS]) ?_; (conv => whnf))
      all_goals refine anyV_end rfl ?_
      all_goals refine ⟨(y, j, g), ⟨pick_size hy, hj⟩, ?_⟩
      all_goals ((conv => whnf); simp only [St.mk.injEq, List.cons.injEq, Prod.mk.injEq, AV.c.injEq, AV.agg.injEq, AV.tup.injEq, CV.d.injEq, D.int.injEq, D.bool.injEq, D.str.injEq, D.sl.injEq, Ent.arr.injEq, Ent.box.injEq, true_and, and_true, and_self, nInt_eq, Int.natCast_zero, dLen_eL, sLen_eq])
      all_goals exact cS_set0 _ _ _
    · intro ⟨s1, i5, h5⟩ ⟨hy1, hy2⟩
      dsimp only at hy1 hy2
      (conv => whnf)
      refine ⟨(⟨m.names.set 0 s1, m.signs, m.base, m.trees⟩, i5, h5), ⟨⟨by simp; omega, by simp; exact hm.one, fun s hs => ?_, hm.signs, hm.trees, hm.nodes⟩, hy2⟩, ?_⟩
      · rcases List.mem_or_eq_of_mem_set hs with hs | rfl
        · exact hm.texts s hs
        · exact hy1
      (conv => whnf)
      simp only [partOf_none]
  refine ifB_i (fun g1 => ?_) (fun g1 => ?_) <;> (conv => whnf)
  · refine And.intro (by simp [partOf_none]; omega) ?_
    (conv => whnf)
    refine ⟨(⟨m.names, m.signs ++ [0], m.base, m.trees⟩, i2, h2), ⟨⟨hm.names, hm.one, hm.texts, by simp; omega, hm.trees, hm.nodes⟩, hi2⟩, ?_⟩
    (conv => whnf)
    simp only [partOf_none]
    rw [show dApp (eL cI m.signs) [[D.int .i64 0]] = eL cI (m.signs ++ [0]) from eL_app cI m.signs 0]
  refine ifB_i (fun g2 => ?_) (fun g2 => ?_) <;> (conv => whnf)
  · refine .inr (.inr (.inr (.inr (.inl ⟨0, ?_⟩))))
    (conv => whnf)
    refine ⟨_, _, _, _, _, _, spec_l1PickInt_of code _ _ _ [2147483647, 2147483648, -2147483648] (by simp [eL, cI]) hi2 hl (by simp) (by simp), fun ⟨y, j, g⟩ ⟨hy, hj⟩ => ⟨rfl, ?_⟩⟩
    dsimp only at hy hj
    (conv => whnf)
    refine ⟨(⟨m.names, m.signs, y, m.trees⟩, j, g), ⟨⟨hm.names, hm.one, hm.texts, hm.signs, hm.trees, hm.nodes⟩, hj⟩, ?_⟩
    (conv => whnf)
    simp only [partOf_none]
    first | done | rfl
  refine ifB_i (fun g3 => ?_) (fun g3 => ?_) <;> (conv => whnf)
  · refine tri_everyX hT hmix [0, 2, 3] (Y := List Nd × Int × Int) (fun y' => y'.1.length ≤ 32 ∧ inCur code y'.2) (fun y' => { t := [(0, .w (.ptr 0 0) v0), (2, .c (.ptr 1 0)), (3, .c (.ptr 2 0))], h := [(0, .box t_spec_l1Cur (cur code y'.2.1 y'.2.2)), (1, .box t_impl_Model [.nl 1, .nl 1, .d (.int .i64 0), .nl 1]), (2, .box t_impl_Model [.ref 3 0 none, .ref 4 0 none, .d (.int .i64 m.base), .ref 5 0 none]), (3, .arr t_string 1 0 .own (eL cS m.names)), (4, .arr t_int 1 0 .own (eL cI m.signs)), (5, .arr t_impl_Tree 1 0 .own (eL cT (m.trees ++ [y'.1])))], n := 6, N := 61 }) rfl ?_ ?_
    · repeat' first
        | (refine anyV_one rfl ?_; (conv => whnf))
        | (refine anyV_two rfl ?_ ?_ <;> (conv => whnf))
        | (refine anyV_three rfl ?_ ?_ ?_ <;> (conv => whnf))
        | (refine .inr (.inr (.inr (.inr (.inl ⟨0, ?_⟩)))); (conv => whnf); refine ⟨_, _, _, _, _, _, spec_l17Bent_spec code i2 h2 hi2 hl, fun ⟨t', i5, h5⟩ ⟨ht', hi5⟩ => ⟨rfl, ?_⟩⟩; dsimp only at ht' hi5; (conv => whnf))
        | (refine And.intro (by simp [partOf_none]; omega) ?_; (conv => whnf))
      all_goals
        refine anyV_end rfl ?_
        refine ⟨(t', i5, h5), ⟨ht', hi5⟩, ?_⟩
        (conv => whnf)
        simp only [partOf_none]
        rw [← eL_app]
        rfl
    · intro ⟨t', i5, h5⟩ ⟨hy1, hy2⟩
      dsimp only at hy1 hy2
      (conv => whnf)
      refine ⟨(⟨m.names, m.signs, m.base, m.trees ++ [t']⟩, i5, h5), ⟨⟨hm.names, hm.one, hm.texts, hm.signs, by simp; omega, fun t ht => ?_⟩, hy2⟩, ?_⟩
      · rcases List.mem_append.1 ht with ht | ht
        · exact hm.nodes t ht
        · simp at ht; rw [ht]; exact hy1
      (conv => whnf)
      simp only [partOf_none]
  refine ifB_i (fun g4 => ?_) (fun g4 => ?_) <;> (conv => whnf)
  · refine tri_loop hT [0, 2, 3] (α := List (List Nd) × Int × Int) (fun x' => { t := [(0, .w (.ptr 0 0) v0), (2, .c (.ptr 1 0)), (3, .c (.ptr 2 0))], h := [(0, .box t_spec_l1Cur (cur code x'.2.1 x'.2.2)), (1, .box t_impl_Model [.nl 1, .nl 1, .d (.int .i64 0), .nl 1]), (2, .box t_impl_Model [.ref 3 0 none, .ref 4 0 none, .d (.int .i64 m.base), .ref 5 0 none]), (3, .arr t_string 1 0 .own (eL cS m.names)), (4, .arr t_int 1 0 .own (eL cI m.signs)), (5, .arr t_impl_Tree 1 0 .own (eL cT x'.1))], n := 6, N := 61 })
      (fun x' => x'.1.length ≤ 9 ∧ (∀ t ∈ x'.1, t.length ≤ 32) ∧ inCur code x'.2) (fun x' => 9 - x'.1.length) (m.trees, i2, h2) (by (conv => whnf)) ⟨by dsimp only; omega, hm.nodes, hi2⟩ ?_
    intro ⟨ts, i4, h4⟩ ⟨hal, hat, hi4⟩
    dsimp only at hal hat hi4
    (conv => whnf)
    refine tri_everyX hT hmix [0, 2, 3, 46] (Y := Int × Int × Int) (fun y' => (0 ≤ y'.1 ∧ y'.1 < 2) ∧ inCur code y'.2) (fun y' => { t := [(0, .w (.ptr 0 0) v0), (2, .c (.ptr 1 0)), (3, .c (.ptr 2 0)), (46, ab (iLt (ts.length : Int) (8 + y'.1)))], h := [(0, .box t_spec_l1Cur (cur code y'.2.1 y'.2.2)), (1, .box t_impl_Model [.nl 1, .nl 1, .d (.int .i64 0), .nl 1]), (2, .box t_impl_Model [.ref 3 0 none, .ref 4 0 none, .d (.int .i64 m.base), .ref 5 0 none]), (3, .arr t_string 1 0 .own (eL cS m.names)), (4, .arr t_int 1 0 .own (eL cI m.signs)), (5, .arr t_impl_Tree 1 0 .own (eL cT ts))], n := 6, N := 61 }) rfl ?_ ?_
    · repeat' first
        | (refine anyV_one rfl ?_; (conv => whnf))
        | (refine anyV_two rfl ?_ ?_ <;> (conv => whnf))
        | (refine anyV_three rfl ?_ ?_ ?_ <;> (conv => whnf))
        | (refine .inr (.inr (.inr (.inr (.inl ⟨0, ?_⟩)))); (conv => whnf); refine ⟨_, _, _, _, _, _, spec_l1Below_spec code i4 h4 2 hi4 hl, fun ⟨z, i5, h5⟩ ⟨hz, hi5⟩ => ⟨rfl, ?_⟩⟩; dsimp only at hz hi5; (conv => whnf))
      all_goals refine anyV_end rfl ?_
      all_goals refine ⟨(z, i5, h5), ⟨⟨hz.1, hz.2.1 (by decide)⟩, hi5⟩, ?_⟩
      all_goals have hz2 := hz.2.1 (by decide)
      all_goals rw [show wAdd .i64 8 z = 8 + z from wAdd64 (by omega) (by omega)]
      all_goals (conv => whnf)
      all_goals rw [show nInt (lenRE (eL cT ts) none) = (ts.length : Int) by simp [lenRE]]
      all_goals first | done | rfl
    intro ⟨z, i5, h5⟩ ⟨hz, hi5⟩
    dsimp only at hz hi5
    (conv => whnf)
    refine ifB_i (fun g5 => ?_) (fun g5 => ?_) <;> (conv => whnf) <;> simp only [nInt_eq, Int.natCast_zero, dLen_eL, sLen_eq, nOf_eq, Int.toNat_natCast, nAdd_eq, nSub_eq, dLen_nil, dLen_cons, iLt_t, iLt_f, iLe_t, iLe_f, iEq_t, iEq_f, sEq_t, sEq_f, bNot_t, bNot_f, bAnd_t, bEq_t, bEq_f, Bool.not_eq_true, Bool.not_eq_false, Bool.true_eq_false, Bool.false_eq_true] at g5
    · refine tri_every hT hmix [0, 2, 3] { t := [(0, .w (.ptr 0 0) v0), (2, .c (.ptr 1 0)), (3, .c (.ptr 2 0))], h := [(0, .box t_spec_l1Cur (cur code i5 h5)), (1, .box t_impl_Model [.nl 1, .nl 1, .d (.int .i64 0), .nl 1]), (2, .box t_impl_Model [.ref 3 0 none, .ref 4 0 none, .d (.int .i64 m.base), .ref 5 0 none]), (3, .arr t_string 1 0 .own (eL cS m.names)), (4, .arr t_int 1 0 .own (eL cI m.signs)), (5, .arr t_impl_Tree 1 0 .own (eL cT (ts ++ [[⟨-1, 0, 0, 0, 1⟩]])))], n := 6, N := 61 } rfl ?_ ?_
      · repeat' first
        | (refine anyV_one rfl ?_; (conv => whnf))
        | (refine anyV_two rfl ?_ ?_ <;> (conv => whnf))
        | (refine anyV_three rfl ?_ ?_ ?_ <;> (conv => whnf))
          | (refine .inl ⟨_, _, _, spec_OneLeaf_spec 1, rfl, ?_⟩; (conv => whnf))
          | (refine And.intro (by simp [partOf_none]; omega) ?_; (conv => whnf))
        all_goals
          refine anyV_end rfl ?_
          (conv => whnf)
          simp only [partOf_none]
          rw [← eL_app]
          rfl
      (conv => whnf)
      refine ⟨(ts ++ [[⟨-1, 0, 0, 0, 1⟩]], i5, h5), by simp; omega, ⟨by simp; omega, fun t ht => ?_, hi5⟩, ?_⟩
      · rcases List.mem_append.1 ht with ht | ht
        · exact hat t ht
        · simp at ht; rw [ht]; decide
      (conv => whnf)
    · refine ⟨(⟨m.names, m.signs, m.base, ts⟩, i5, h5), ⟨⟨hm.names, hm.one, hm.texts, hm.signs, by dsimp only; omega, hat⟩, hi5⟩, ?_⟩
      (conv => whnf)
      simp only [partOf_none]
  refine ifB_i (fun g5 => ?_) (fun g5 => ?_) <;> (conv => whnf)
  · refine And.intro (by simp [partOf_none]; omega) ?_
    (conv => whnf)
    refine ⟨(⟨m.names ++ [⟨#[100]⟩, ⟨#[101]⟩], m.signs, m.base, m.trees⟩, i2, h2), ⟨⟨by simp; omega, by simp, fun s hs => ?_, hm.signs, hm.trees, hm.nodes⟩, hi2⟩, ?_⟩
    · rcases List.mem_append.1 hs with hs | hs
      · exact hm.texts s hs
      · simp at hs; rcases hs with rfl | rfl <;> decide
    (conv => whnf)
    simp only [partOf_none]
    rw [show dApp (eL cS m.names) [[D.str { data := #[100] }], [D.str { data := #[101] }]] = eL cS (m.names ++ [⟨#[100]⟩, ⟨#[101]⟩]) from by simp [dApp_eq, eL, cS]]
  · refine ⟨(m, i2, h2), ⟨hm, hi2⟩, ?_⟩
    (conv => whnf)
    simp only [partOf_none]
    first | done | rfl

abbrev tupMR (x : Mdl × List Int) : AV := .tup [(true, cM x.1), (false, [.d (.sl 1 (eL cI x.2))])]
theorem spec_DrawPredict_spec (code : List Int) (hl : code.length ≤ 1048576) : FnSpecX PR f_spec_DrawPredict [.c (.d (.sl 1 (eL cU code)))] (Mdl × List Int) (fun x => drawn x.1 ∧ x.2.length ≤ 5) tupMR (fun _ => []) (fun _ => 0) := by
  refine FnSpecX.intro hT p_spec_DrawPredict rfl (by kernel_rfl) n_spec_DrawPredict rfl ?_
  (conv => whnf)
  refine .inr ⟨_, _, _, _, _, spec_l1New_spec code hl, fun h0 _ => ⟨rfl, ?_⟩⟩
  (conv => whnf)
  refine .inr (.inr (.inr (.inr (.inl ⟨1, ?_⟩))))
  (conv => whnf)
  refine ⟨_, _, _, _, _, _, spec_l24Bent_spec code 0 h0 ⟨by omega, by omega⟩ hl, fun ⟨m, i1, h1⟩ ⟨hm, hi1⟩ => ⟨rfl, ?_⟩⟩
  dsimp only at hm hi1
  (conv => whnf)
  refine .inr (.inr (.inr (.inr (.inl ⟨1, ?_⟩))))
  (conv => whnf)
  refine ⟨_, _, _, _, _, _, spec_l1Once_spec code i1 h1 10 hi1 hl, fun ⟨b, i2, h2⟩ hi2 => ⟨rfl, ?_⟩⟩
  dsimp only at hi2
  have hn := hm.names
  cases b
  · (conv => whnf)
    rw [show nInt (dLen (eL cS m.names)) = (m.names.length : Int) by simp]
    refine tri_everyX hT hmix [2, 3] (Y := List Int) (fun y' => y'.length ≤ 5) (fun y' => { t := [(2, .c (.ptr 0 0)), (3, aIs y')], h := [(0, .box t_impl_Model (cM m))], n := 1, N := 22 }) rfl ?_ ?_
    · repeat' first
        | (refine anyV_one rfl ?_; (conv => whnf))
        | (refine anyV_two rfl ?_ ?_ <;> (conv => whnf))
        | (refine anyV_three rfl ?_ ?_ ?_ <;> (conv => whnf))
        | (refine .inr (.inr (.inr (.inr (.inl ⟨1, ?_⟩)))); (conv => whnf); refine ⟨_, _, _, _, _, _, spec_l18Row_spec code i2 h2 m.names.length (by omega) hi2 hl, fun ⟨r, i5, h5⟩ ⟨hr, hi5⟩ => ⟨rfl, ?_⟩⟩; dsimp only at hr hi5; (conv => whnf))
      all_goals
        refine anyV_end rfl ?_
        refine ⟨r, by omega, ?_⟩
        (conv => whnf)
        simp only [partOf_none]
    · intro r hr
      (conv => whnf)
      refine ⟨(m, r), ⟨hm, hr⟩, ?_⟩
      (conv => whnf)
  · (conv => whnf)
    refine .inr (.inr (.inr (.inr (.inl ⟨1, ?_⟩))))
    (conv => whnf)
    refine ⟨_, _, _, _, _, _, spec_l1Below_spec code i2 h2 4 hi2 hl, fun ⟨x, i3, h3⟩ ⟨hx, hi3⟩ => ⟨rfl, ?_⟩⟩
    dsimp only at hx hi3
    have hx2 := hx.2.1 (by decide)
    obtain ⟨x, rfl⟩ : ∃ k : Nat, x = k := ⟨x.toNat, by omega⟩
    (conv => whnf)
    refine tri_everyX hT hmix [2, 3] (Y := List Int) (fun y' => y'.length ≤ 5) (fun y' => { t := [(2, .c (.ptr 0 0)), (3, aIs y')], h := [(0, .box t_impl_Model (cM m))], n := 1, N := 22 }) rfl ?_ ?_
    · repeat' first
        | (refine anyV_one rfl ?_; (conv => whnf))
        | (refine anyV_two rfl ?_ ?_ <;> (conv => whnf))
        | (refine anyV_three rfl ?_ ?_ ?_ <;> (conv => whnf))
        | (refine .inr (.inr (.inr (.inr (.inl ⟨1, ?_⟩)))); (conv => whnf); refine ⟨_, _, _, _, _, _, spec_l18Row_spec code i3 h3 x (by omega) hi3 hl, fun ⟨r, i5, h5⟩ ⟨hr, hi5⟩ => ⟨rfl, ?_⟩⟩; dsimp only at hr hi5; (conv => whnf))
      all_goals
        refine anyV_end rfl ?_
        refine ⟨r, by omega, ?_⟩
        (conv => whnf)
        simp only [partOf_none]
    · intro r hr
      (conv => whnf)
      refine ⟨(m, r), ⟨hm, hr⟩, ?_⟩
      (conv => whnf)
end Go.H.S
namespace Go.H.S
open Go Go.Proofs Go.H
attribute [local irreducible] Tri FnSpec FnSpecM
set_option maxRecDepth 100000
set_option linter.unusedSimpArgs false
set_option linter.unusedVariables false


theorem idxL_any {α : Type} (p : α → Bool) : ∀ (l : List α) (k : Nat), (0 ≤ idxL p l k) ↔ l.any p = true
  | [], k => by simp [idxL]
  | y :: r, k => by
    simp only [idxL, List.any_cons]
    have ih := idxL_any p r (k + 1)
    cases h : p y
    · simpa using ih
    · simp


theorem slices_IndexFunc_Limpl_Tree_impl_Tree_0 (xs : List (List Nd)) (g : FuncId) (p : List Nd → Bool) (hp : ∀ x ∈ xs, FnSpec PR g [aT x] (ab (p x)) [] 0) (hl : xs.length ≤ 9223372036854775807) :
    FnSpec PR f_slices_IndexFunc_Limpl_Tree_impl_Tree [aTs xs, .c (.d (.fn g []))] (ai (idxL p xs 0)) [] 0 := by
  refine FnSpec.intro hT p_slices_IndexFunc_Limpl_Tree_impl_Tree rfl (by kernel_rfl) n_slices_IndexFunc_Limpl_Tree_impl_Tree rfl ?_
  conv => whnf
  refine tri_loop hT [0, 1, 7, 8] (α := Nat) (fun k => { t := [(0, aTs xs), (1, .c (.d (.fn g []))), (7, ai xs.length), (8, ai k)], h := [], n := 0, N := 19 })
    (fun k => k ≤ xs.length ∧ idxL p (xs.drop k) k = idxL p xs 0) (fun k => xs.length - k) 0 (by ((conv => whnf); simp only [St.mk.injEq, List.cons.injEq, Prod.mk.injEq, AV.c.injEq, AV.agg.injEq, AV.tup.injEq, CV.d.injEq, D.int.injEq, D.bool.injEq, D.str.injEq, D.sl.injEq, Ent.arr.injEq, Ent.box.injEq, true_and, and_true, and_self, nInt_eq, Int.natCast_zero, dLen_eL, sLen_eq])) ⟨Nat.zero_le _, rfl⟩ ?_
  intro k ⟨hk, hi⟩
  (conv => whnf)
  refine ifB_i (fun h1 => ?_) (fun h1 => ?_) <;> (conv => whnf) <;> simp at h1
  · obtain ⟨s, hs⟩ := get_lt h1
    rw [drop_at hs, idxL] at hi
    refine idx_at (by simp) hs ?_
    (conv => whnf)
    refine .inl ⟨_, _, _, hp s (List.mem_of_getElem? hs), rfl, ?_⟩
    (conv => whnf)
    refine ifB_i (fun h2 => ?_) (fun h2 => ?_) <;> (conv => whnf)
    · rw [if_pos h2] at hi
      ((conv => whnf); simp only [St.mk.injEq, List.cons.injEq, Prod.mk.injEq, AV.c.injEq, AV.agg.injEq, AV.tup.injEq, CV.d.injEq, D.int.injEq, D.bool.injEq, D.str.injEq, D.sl.injEq, Ent.arr.injEq, Ent.box.injEq, true_and, and_true, and_self, nInt_eq, Int.natCast_zero, dLen_eL, sLen_eq, hi])
    · rw [if_neg (by simp [h2])] at hi
      refine ⟨k + 1, by omega, ⟨h1, hi⟩, ?_⟩
      ((conv => whnf); simp only [St.mk.injEq, List.cons.injEq, Prod.mk.injEq, AV.c.injEq, AV.agg.injEq, AV.tup.injEq, CV.d.injEq, D.int.injEq, D.bool.injEq, D.str.injEq, D.sl.injEq, Ent.arr.injEq, Ent.box.injEq, true_and, and_true, and_self, nInt_eq, Int.natCast_zero, dLen_eL, sLen_eq, wI h1 hl])
  · obtain rfl : k = xs.length := by omega
    simp only [List.drop_length, idxL] at hi
    ((conv => whnf); simp only [St.mk.injEq, List.cons.injEq, Prod.mk.injEq, AV.c.injEq, AV.agg.injEq, AV.tup.injEq, CV.d.injEq, D.int.injEq, D.bool.injEq, D.str.injEq, D.sl.injEq, Ent.arr.injEq, Ent.box.injEq, true_and, and_true, and_self, nInt_eq, Int.natCast_zero, dLen_eL, sLen_eq, ← hi])


theorem slices_ContainsFunc_Limpl_Tree_impl_Tree_0 (xs : List (List Nd)) (g : FuncId) (p : List Nd → Bool) (hp : ∀ x ∈ xs, FnSpec PR g [aT x] (ab (p x)) [] 0) (hl : xs.length ≤ 9223372036854775807) :
    FnSpec PR f_slices_ContainsFunc_Limpl_Tree_impl_Tree [aTs xs, .c (.d (.fn g []))] (ab (xs.any p)) [] 0 := by
  refine FnSpec.intro hT p_slices_ContainsFunc_Limpl_Tree_impl_Tree rfl (by kernel_rfl) n_slices_ContainsFunc_Limpl_Tree_impl_Tree rfl ?_
  conv => whnf
  refine .inl ⟨_, _, _, slices_IndexFunc_Limpl_Tree_impl_Tree_0 xs g  p hp hl, rfl, ?_⟩
  (conv => whnf)
  have h := idxL_any p xs 0
  cases hb : xs.any p
  · rw [hb] at h
    ((conv => whnf); simp only [St.mk.injEq, List.cons.injEq, Prod.mk.injEq, AV.c.injEq, AV.agg.injEq, AV.tup.injEq, CV.d.injEq, D.int.injEq, D.bool.injEq, D.str.injEq, D.sl.injEq, Ent.arr.injEq, Ent.box.injEq, true_and, and_true, and_self, nInt_eq, Int.natCast_zero, dLen_eL, sLen_eq, iLe])
    simpa using h
  · rw [hb] at h
    ((conv => whnf); simp only [St.mk.injEq, List.cons.injEq, Prod.mk.injEq, AV.c.injEq, AV.agg.injEq, AV.tup.injEq, CV.d.injEq, D.int.injEq, D.bool.injEq, D.str.injEq, D.sl.injEq, Ent.arr.injEq, Ent.box.injEq, true_and, and_true, and_self, nInt_eq, Int.natCast_zero, dLen_eL, sLen_eq, iLe])
    simpa using h


theorem slices_IndexFunc_Limpl_Tree_impl_Tree_1 (xs : List (List Nd)) (g : FuncId) (d0 : D) (p : List Nd → Bool) (hp : ∀ x ∈ xs, FnSpec PR g [aT x, .c (.d d0)] (ab (p x)) [] 0) (hl : xs.length ≤ 9223372036854775807) :
    FnSpec PR f_slices_IndexFunc_Limpl_Tree_impl_Tree [aTs xs, .c (.d (.fn g [d0]))] (ai (idxL p xs 0)) [] 0 := by
  refine FnSpec.intro hT p_slices_IndexFunc_Limpl_Tree_impl_Tree rfl (by kernel_rfl) n_slices_IndexFunc_Limpl_Tree_impl_Tree rfl ?_
  conv => whnf
  refine tri_loop hT [0, 1, 7, 8] (α := Nat) (fun k => { t := [(0, aTs xs), (1, .c (.d (.fn g [d0]))), (7, ai xs.length), (8, ai k)], h := [], n := 0, N := 19 })
    (fun k => k ≤ xs.length ∧ idxL p (xs.drop k) k = idxL p xs 0) (fun k => xs.length - k) 0 (by ((conv => whnf); simp only [St.mk.injEq, List.cons.injEq, Prod.mk.injEq, AV.c.injEq, AV.agg.injEq, AV.tup.injEq, CV.d.injEq, D.int.injEq, D.bool.injEq, D.str.injEq, D.sl.injEq, Ent.arr.injEq, Ent.box.injEq, true_and, and_true, and_self, nInt_eq, Int.natCast_zero, dLen_eL, sLen_eq])) ⟨Nat.zero_le _, rfl⟩ ?_
  intro k ⟨hk, hi⟩
  (conv => whnf)
  refine ifB_i (fun h1 => ?_) (fun h1 => ?_) <;> (conv => whnf) <;> simp at h1
  · obtain ⟨s, hs⟩ := get_lt h1
    rw [drop_at hs, idxL] at hi
    refine idx_at (by simp) hs ?_
    (conv => whnf)
    refine .inl ⟨_, _, _, hp s (List.mem_of_getElem? hs), rfl, ?_⟩
    (conv => whnf)
    refine ifB_i (fun h2 => ?_) (fun h2 => ?_) <;> (conv => whnf)
    · rw [if_pos h2] at hi
      ((conv => whnf); simp only [St.mk.injEq, List.cons.injEq, Prod.mk.injEq, AV.c.injEq, AV.agg.injEq, AV.tup.injEq, CV.d.injEq, D.int.injEq, D.bool.injEq, D.str.injEq, D.sl.injEq, Ent.arr.injEq, Ent.box.injEq, true_and, and_true, and_self, nInt_eq, Int.natCast_zero, dLen_eL, sLen_eq, hi])
    · rw [if_neg (by simp [h2])] at hi
      refine ⟨k + 1, by omega, ⟨h1, hi⟩, ?_⟩
      ((conv => whnf); simp only [St.mk.injEq, List.cons.injEq, Prod.mk.injEq, AV.c.injEq, AV.agg.injEq, AV.tup.injEq, CV.d.injEq, D.int.injEq, D.bool.injEq, D.str.injEq, D.sl.injEq, Ent.arr.injEq, Ent.box.injEq, true_and, and_true, and_self, nInt_eq, Int.natCast_zero, dLen_eL, sLen_eq, wI h1 hl])
  · obtain rfl : k = xs.length := by omega
    simp only [List.drop_length, idxL] at hi
    ((conv => whnf); simp only [St.mk.injEq, List.cons.injEq, Prod.mk.injEq, AV.c.injEq, AV.agg.injEq, AV.tup.injEq, CV.d.injEq, D.int.injEq, D.bool.injEq, D.str.injEq, D.sl.injEq, Ent.arr.injEq, Ent.box.injEq, true_and, and_true, and_self, nInt_eq, Int.natCast_zero, dLen_eL, sLen_eq, ← hi])


theorem slices_ContainsFunc_Limpl_Tree_impl_Tree_1 (xs : List (List Nd)) (g : FuncId) (d0 : D) (p : List Nd → Bool) (hp : ∀ x ∈ xs, FnSpec PR g [aT x, .c (.d d0)] (ab (p x)) [] 0) (hl : xs.length ≤ 9223372036854775807) :
    FnSpec PR f_slices_ContainsFunc_Limpl_Tree_impl_Tree [aTs xs, .c (.d (.fn g [d0]))] (ab (xs.any p)) [] 0 := by
  refine FnSpec.intro hT p_slices_ContainsFunc_Limpl_Tree_impl_Tree rfl (by kernel_rfl) n_slices_ContainsFunc_Limpl_Tree_impl_Tree rfl ?_
  conv => whnf
  refine .inl ⟨_, _, _, slices_IndexFunc_Limpl_Tree_impl_Tree_1 xs g d0 p hp hl, rfl, ?_⟩
  (conv => whnf)
  have h := idxL_any p xs 0
  cases hb : xs.any p
  · rw [hb] at h
    ((conv => whnf); simp only [St.mk.injEq, List.cons.injEq, Prod.mk.injEq, AV.c.injEq, AV.agg.injEq, AV.tup.injEq, CV.d.injEq, D.int.injEq, D.bool.injEq, D.str.injEq, D.sl.injEq, Ent.arr.injEq, Ent.box.injEq, true_and, and_true, and_self, nInt_eq, Int.natCast_zero, dLen_eL, sLen_eq, iLe])
    simpa using h
  · rw [hb] at h
    ((conv => whnf); simp only [St.mk.injEq, List.cons.injEq, Prod.mk.injEq, AV.c.injEq, AV.agg.injEq, AV.tup.injEq, CV.d.injEq, D.int.injEq, D.bool.injEq, D.str.injEq, D.sl.injEq, Ent.arr.injEq, Ent.box.injEq, true_and, and_true, and_self, nInt_eq, Int.natCast_zero, dLen_eL, sLen_eq, iLe])
    simpa using h


theorem slices_IndexFunc_Limpl_Tree_impl_Tree_2 (xs : List (List Nd)) (g : FuncId) (d0 d1 : D) (p : List Nd → Bool) (hp : ∀ x ∈ xs, FnSpec PR g [aT x, .c (.d d0), .c (.d d1)] (ab (p x)) [] 0) (hl : xs.length ≤ 9223372036854775807) :
    FnSpec PR f_slices_IndexFunc_Limpl_Tree_impl_Tree [aTs xs, .c (.d (.fn g [d0, d1]))] (ai (idxL p xs 0)) [] 0 := by
  refine FnSpec.intro hT p_slices_IndexFunc_Limpl_Tree_impl_Tree rfl (by kernel_rfl) n_slices_IndexFunc_Limpl_Tree_impl_Tree rfl ?_
  conv => whnf
  refine tri_loop hT [0, 1, 7, 8] (α := Nat) (fun k => { t := [(0, aTs xs), (1, .c (.d (.fn g [d0, d1]))), (7, ai xs.length), (8, ai k)], h := [], n := 0, N := 19 })
    (fun k => k ≤ xs.length ∧ idxL p (xs.drop k) k = idxL p xs 0) (fun k => xs.length - k) 0 (by ((conv => whnf); simp only [St.mk.injEq, List.cons.injEq, Prod.mk.injEq, AV.c.injEq, AV.agg.injEq, AV.tup.injEq, CV.d.injEq, D.int.injEq, D.bool.injEq, D.str.injEq, D.sl.injEq, Ent.arr.injEq, Ent.box.injEq, true_and, and_true, and_self, nInt_eq, Int.natCast_zero, dLen_eL, sLen_eq])) ⟨Nat.zero_le _, rfl⟩ ?_
  intro k ⟨hk, hi⟩
  (conv => whnf)
  refine ifB_i (fun h1 => ?_) (fun h1 => ?_) <;> (conv => whnf) <;> simp at h1
  · obtain ⟨s, hs⟩ := get_lt h1
    rw [drop_at hs, idxL] at hi
    refine idx_at (by simp) hs ?_
    (conv => whnf)
    refine .inl ⟨_, _, _, hp s (List.mem_of_getElem? hs), rfl, ?_⟩
    (conv => whnf)
    refine ifB_i (fun h2 => ?_) (fun h2 => ?_) <;> (conv => whnf)
    · rw [if_pos h2] at hi
      ((conv => whnf); simp only [St.mk.injEq, List.cons.injEq, Prod.mk.injEq, AV.c.injEq, AV.agg.injEq, AV.tup.injEq, CV.d.injEq, D.int.injEq, D.bool.injEq, D.str.injEq, D.sl.injEq, Ent.arr.injEq, Ent.box.injEq, true_and, and_true, and_self, nInt_eq, Int.natCast_zero, dLen_eL, sLen_eq, hi])
    · rw [if_neg (by simp [h2])] at hi
      refine ⟨k + 1, by omega, ⟨h1, hi⟩, ?_⟩
      ((conv => whnf); simp only [St.mk.injEq, List.cons.injEq, Prod.mk.injEq, AV.c.injEq, AV.agg.injEq, AV.tup.injEq, CV.d.injEq, D.int.injEq, D.bool.injEq, D.str.injEq, D.sl.injEq, Ent.arr.injEq, Ent.box.injEq, true_and, and_true, and_self, nInt_eq, Int.natCast_zero, dLen_eL, sLen_eq, wI h1 hl])
  · obtain rfl : k = xs.length := by omega
    simp only [List.drop_length, idxL] at hi
    ((conv => whnf); simp only [St.mk.injEq, List.cons.injEq, Prod.mk.injEq, AV.c.injEq, AV.agg.injEq, AV.tup.injEq, CV.d.injEq, D.int.injEq, D.bool.injEq, D.str.injEq, D.sl.injEq, Ent.arr.injEq, Ent.box.injEq, true_and, and_true, and_self, nInt_eq, Int.natCast_zero, dLen_eL, sLen_eq, ← hi])


theorem slices_ContainsFunc_Limpl_Tree_impl_Tree_2 (xs : List (List Nd)) (g : FuncId) (d0 d1 : D) (p : List Nd → Bool) (hp : ∀ x ∈ xs, FnSpec PR g [aT x, .c (.d d0), .c (.d d1)] (ab (p x)) [] 0) (hl : xs.length ≤ 9223372036854775807) :
    FnSpec PR f_slices_ContainsFunc_Limpl_Tree_impl_Tree [aTs xs, .c (.d (.fn g [d0, d1]))] (ab (xs.any p)) [] 0 := by
  refine FnSpec.intro hT p_slices_ContainsFunc_Limpl_Tree_impl_Tree rfl (by kernel_rfl) n_slices_ContainsFunc_Limpl_Tree_impl_Tree rfl ?_
  conv => whnf
  refine .inl ⟨_, _, _, slices_IndexFunc_Limpl_Tree_impl_Tree_2 xs g d0 d1 p hp hl, rfl, ?_⟩
  (conv => whnf)
  have h := idxL_any p xs 0
  cases hb : xs.any p
  · rw [hb] at h
    ((conv => whnf); simp only [St.mk.injEq, List.cons.injEq, Prod.mk.injEq, AV.c.injEq, AV.agg.injEq, AV.tup.injEq, CV.d.injEq, D.int.injEq, D.bool.injEq, D.str.injEq, D.sl.injEq, Ent.arr.injEq, Ent.box.injEq, true_and, and_true, and_self, nInt_eq, Int.natCast_zero, dLen_eL, sLen_eq, iLe])
    simpa using h
  · rw [hb] at h
    ((conv => whnf); simp only [St.mk.injEq, List.cons.injEq, Prod.mk.injEq, AV.c.injEq, AV.agg.injEq, AV.tup.injEq, CV.d.injEq, D.int.injEq, D.bool.injEq, D.str.injEq, D.sl.injEq, Ent.arr.injEq, Ent.box.injEq, true_and, and_true, and_self, nInt_eq, Int.natCast_zero, dLen_eL, sLen_eq, iLe])
    simpa using h


theorem slices_IndexFunc_Lint_int_0 (xs : List (Int)) (g : FuncId) (p : Int → Bool) (hp : ∀ x ∈ xs, FnSpec PR g [ai x] (ab (p x)) [] 0) (hl : xs.length ≤ 9223372036854775807) :
    FnSpec PR f_slices_IndexFunc_Lint_int [aIs xs, .c (.d (.fn g []))] (ai (idxL p xs 0)) [] 0 := by
  refine FnSpec.intro hT p_slices_IndexFunc_Lint_int rfl (by kernel_rfl) n_slices_IndexFunc_Lint_int rfl ?_
  conv => whnf
  refine tri_loop hT [0, 1, 7, 8] (α := Nat) (fun k => { t := [(0, aIs xs), (1, .c (.d (.fn g []))), (7, ai xs.length), (8, ai k)], h := [], n := 0, N := 19 })
    (fun k => k ≤ xs.length ∧ idxL p (xs.drop k) k = idxL p xs 0) (fun k => xs.length - k) 0 (by ((conv => whnf); simp only [St.mk.injEq, List.cons.injEq, Prod.mk.injEq, AV.c.injEq, AV.agg.injEq, AV.tup.injEq, CV.d.injEq, D.int.injEq, D.bool.injEq, D.str.injEq, D.sl.injEq, Ent.arr.injEq, Ent.box.injEq, true_and, and_true, and_self, nInt_eq, Int.natCast_zero, dLen_eL, sLen_eq])) ⟨Nat.zero_le _, rfl⟩ ?_
  intro k ⟨hk, hi⟩
  (conv => whnf)
  refine ifB_i (fun h1 => ?_) (fun h1 => ?_) <;> (conv => whnf) <;> simp at h1
  · obtain ⟨s, hs⟩ := get_lt h1
    rw [drop_at hs, idxL] at hi
    refine idx_at (by simp) hs ?_
    (conv => whnf)
    refine .inl ⟨_, _, _, hp s (List.mem_of_getElem? hs), rfl, ?_⟩
    (conv => whnf)
    refine ifB_i (fun h2 => ?_) (fun h2 => ?_) <;> (conv => whnf)
    · rw [if_pos h2] at hi
      ((conv => whnf); simp only [St.mk.injEq, List.cons.injEq, Prod.mk.injEq, AV.c.injEq, AV.agg.injEq, AV.tup.injEq, CV.d.injEq, D.int.injEq, D.bool.injEq, D.str.injEq, D.sl.injEq, Ent.arr.injEq, Ent.box.injEq, true_and, and_true, and_self, nInt_eq, Int.natCast_zero, dLen_eL, sLen_eq, hi])
    · rw [if_neg (by simp [h2])] at hi
      refine ⟨k + 1, by omega, ⟨h1, hi⟩, ?_⟩
      ((conv => whnf); simp only [St.mk.injEq, List.cons.injEq, Prod.mk.injEq, AV.c.injEq, AV.agg.injEq, AV.tup.injEq, CV.d.injEq, D.int.injEq, D.bool.injEq, D.str.injEq, D.sl.injEq, Ent.arr.injEq, Ent.box.injEq, true_and, and_true, and_self, nInt_eq, Int.natCast_zero, dLen_eL, sLen_eq, wI h1 hl])
  · obtain rfl : k = xs.length := by omega
    simp only [List.drop_length, idxL] at hi
    ((conv => whnf); simp only [St.mk.injEq, List.cons.injEq, Prod.mk.injEq, AV.c.injEq, AV.agg.injEq, AV.tup.injEq, CV.d.injEq, D.int.injEq, D.bool.injEq, D.str.injEq, D.sl.injEq, Ent.arr.injEq, Ent.box.injEq, true_and, and_true, and_self, nInt_eq, Int.natCast_zero, dLen_eL, sLen_eq, ← hi])


theorem slices_ContainsFunc_Lint_int_0 (xs : List (Int)) (g : FuncId) (p : Int → Bool) (hp : ∀ x ∈ xs, FnSpec PR g [ai x] (ab (p x)) [] 0) (hl : xs.length ≤ 9223372036854775807) :
    FnSpec PR f_slices_ContainsFunc_Lint_int [aIs xs, .c (.d (.fn g []))] (ab (xs.any p)) [] 0 := by
  refine FnSpec.intro hT p_slices_ContainsFunc_Lint_int rfl (by kernel_rfl) n_slices_ContainsFunc_Lint_int rfl ?_
  conv => whnf
  refine .inl ⟨_, _, _, slices_IndexFunc_Lint_int_0 xs g  p hp hl, rfl, ?_⟩
  (conv => whnf)
  have h := idxL_any p xs 0
  cases hb : xs.any p
  · rw [hb] at h
    ((conv => whnf); simp only [St.mk.injEq, List.cons.injEq, Prod.mk.injEq, AV.c.injEq, AV.agg.injEq, AV.tup.injEq, CV.d.injEq, D.int.injEq, D.bool.injEq, D.str.injEq, D.sl.injEq, Ent.arr.injEq, Ent.box.injEq, true_and, and_true, and_self, nInt_eq, Int.natCast_zero, dLen_eL, sLen_eq, iLe])
    simpa using h
  · rw [hb] at h
    ((conv => whnf); simp only [St.mk.injEq, List.cons.injEq, Prod.mk.injEq, AV.c.injEq, AV.agg.injEq, AV.tup.injEq, CV.d.injEq, D.int.injEq, D.bool.injEq, D.str.injEq, D.sl.injEq, Ent.arr.injEq, Ent.box.injEq, true_and, and_true, and_self, nInt_eq, Int.natCast_zero, dLen_eL, sLen_eq, iLe])
    simpa using h


theorem slices_IndexFunc_Lint_int_1 (xs : List (Int)) (g : FuncId) (d0 : D) (p : Int → Bool) (hp : ∀ x ∈ xs, FnSpec PR g [ai x, .c (.d d0)] (ab (p x)) [] 0) (hl : xs.length ≤ 9223372036854775807) :
    FnSpec PR f_slices_IndexFunc_Lint_int [aIs xs, .c (.d (.fn g [d0]))] (ai (idxL p xs 0)) [] 0 := by
  refine FnSpec.intro hT p_slices_IndexFunc_Lint_int rfl (by kernel_rfl) n_slices_IndexFunc_Lint_int rfl ?_
  conv => whnf
  refine tri_loop hT [0, 1, 7, 8] (α := Nat) (fun k => { t := [(0, aIs xs), (1, .c (.d (.fn g [d0]))), (7, ai xs.length), (8, ai k)], h := [], n := 0, N := 19 })
    (fun k => k ≤ xs.length ∧ idxL p (xs.drop k) k = idxL p xs 0) (fun k => xs.length - k) 0 (by ((conv => whnf); simp only [St.mk.injEq, List.cons.injEq, Prod.mk.injEq, AV.c.injEq, AV.agg.injEq, AV.tup.injEq, CV.d.injEq, D.int.injEq, D.bool.injEq, D.str.injEq, D.sl.injEq, Ent.arr.injEq, Ent.box.injEq, true_and, and_true, and_self, nInt_eq, Int.natCast_zero, dLen_eL, sLen_eq])) ⟨Nat.zero_le _, rfl⟩ ?_
  intro k ⟨hk, hi⟩
  (conv => whnf)
  refine ifB_i (fun h1 => ?_) (fun h1 => ?_) <;> (conv => whnf) <;> simp at h1
  · obtain ⟨s, hs⟩ := get_lt h1
    rw [drop_at hs, idxL] at hi
    refine idx_at (by simp) hs ?_
    (conv => whnf)
    refine .inl ⟨_, _, _, hp s (List.mem_of_getElem? hs), rfl, ?_⟩
    (conv => whnf)
    refine ifB_i (fun h2 => ?_) (fun h2 => ?_) <;> (conv => whnf)
    · rw [if_pos h2] at hi
      ((conv => whnf); simp only [St.mk.injEq, List.cons.injEq, Prod.mk.injEq, AV.c.injEq, AV.agg.injEq, AV.tup.injEq, CV.d.injEq, D.int.injEq, D.bool.injEq, D.str.injEq, D.sl.injEq, Ent.arr.injEq, Ent.box.injEq, true_and, and_true, and_self, nInt_eq, Int.natCast_zero, dLen_eL, sLen_eq, hi])
    · rw [if_neg (by simp [h2])] at hi
      refine ⟨k + 1, by omega, ⟨h1, hi⟩, ?_⟩
      ((conv => whnf); simp only [St.mk.injEq, List.cons.injEq, Prod.mk.injEq, AV.c.injEq, AV.agg.injEq, AV.tup.injEq, CV.d.injEq, D.int.injEq, D.bool.injEq, D.str.injEq, D.sl.injEq, Ent.arr.injEq, Ent.box.injEq, true_and, and_true, and_self, nInt_eq, Int.natCast_zero, dLen_eL, sLen_eq, wI h1 hl])
  · obtain rfl : k = xs.length := by omega
    simp only [List.drop_length, idxL] at hi
    ((conv => whnf); simp only [St.mk.injEq, List.cons.injEq, Prod.mk.injEq, AV.c.injEq, AV.agg.injEq, AV.tup.injEq, CV.d.injEq, D.int.injEq, D.bool.injEq, D.str.injEq, D.sl.injEq, Ent.arr.injEq, Ent.box.injEq, true_and, and_true, and_self, nInt_eq, Int.natCast_zero, dLen_eL, sLen_eq, ← hi])


theorem slices_ContainsFunc_Lint_int_1 (xs : List (Int)) (g : FuncId) (d0 : D) (p : Int → Bool) (hp : ∀ x ∈ xs, FnSpec PR g [ai x, .c (.d d0)] (ab (p x)) [] 0) (hl : xs.length ≤ 9223372036854775807) :
    FnSpec PR f_slices_ContainsFunc_Lint_int [aIs xs, .c (.d (.fn g [d0]))] (ab (xs.any p)) [] 0 := by
  refine FnSpec.intro hT p_slices_ContainsFunc_Lint_int rfl (by kernel_rfl) n_slices_ContainsFunc_Lint_int rfl ?_
  conv => whnf
  refine .inl ⟨_, _, _, slices_IndexFunc_Lint_int_1 xs g d0 p hp hl, rfl, ?_⟩
  (conv => whnf)
  have h := idxL_any p xs 0
  cases hb : xs.any p
  · rw [hb] at h
    ((conv => whnf); simp only [St.mk.injEq, List.cons.injEq, Prod.mk.injEq, AV.c.injEq, AV.agg.injEq, AV.tup.injEq, CV.d.injEq, D.int.injEq, D.bool.injEq, D.str.injEq, D.sl.injEq, Ent.arr.injEq, Ent.box.injEq, true_and, and_true, and_self, nInt_eq, Int.natCast_zero, dLen_eL, sLen_eq, iLe])
    simpa using h
  · rw [hb] at h
    ((conv => whnf); simp only [St.mk.injEq, List.cons.injEq, Prod.mk.injEq, AV.c.injEq, AV.agg.injEq, AV.tup.injEq, CV.d.injEq, D.int.injEq, D.bool.injEq, D.str.injEq, D.sl.injEq, Ent.arr.injEq, Ent.box.injEq, true_and, and_true, and_self, nInt_eq, Int.natCast_zero, dLen_eL, sLen_eq, iLe])
    simpa using h


theorem slices_IndexFunc_Lint_int_2 (xs : List (Int)) (g : FuncId) (d0 d1 : D) (p : Int → Bool) (hp : ∀ x ∈ xs, FnSpec PR g [ai x, .c (.d d0), .c (.d d1)] (ab (p x)) [] 0) (hl : xs.length ≤ 9223372036854775807) :
    FnSpec PR f_slices_IndexFunc_Lint_int [aIs xs, .c (.d (.fn g [d0, d1]))] (ai (idxL p xs 0)) [] 0 := by
  refine FnSpec.intro hT p_slices_IndexFunc_Lint_int rfl (by kernel_rfl) n_slices_IndexFunc_Lint_int rfl ?_
  conv => whnf
  refine tri_loop hT [0, 1, 7, 8] (α := Nat) (fun k => { t := [(0, aIs xs), (1, .c (.d (.fn g [d0, d1]))), (7, ai xs.length), (8, ai k)], h := [], n := 0, N := 19 })
    (fun k => k ≤ xs.length ∧ idxL p (xs.drop k) k = idxL p xs 0) (fun k => xs.length - k) 0 (by ((conv => whnf); simp only [St.mk.injEq, List.cons.injEq, Prod.mk.injEq, AV.c.injEq, AV.agg.injEq, AV.tup.injEq, CV.d.injEq, D.int.injEq, D.bool.injEq, D.str.injEq, D.sl.injEq, Ent.arr.injEq, Ent.box.injEq, true_and, and_true, and_self, nInt_eq, Int.natCast_zero, dLen_eL, sLen_eq])) ⟨Nat.zero_le _, rfl⟩ ?_
  intro k ⟨hk, hi⟩
  (conv => whnf)
  refine ifB_i (fun h1 => ?_) (fun h1 => ?_) <;> (conv => whnf) <;> simp at h1
  · obtain ⟨s, hs⟩ := get_lt h1
    rw [drop_at hs, idxL] at hi
    refine idx_at (by simp) hs ?_
    (conv => whnf)
    refine .inl ⟨_, _, _, hp s (List.mem_of_getElem? hs), rfl, ?_⟩
    (conv => whnf)
    refine ifB_i (fun h2 => ?_) (fun h2 => ?_) <;> (conv => whnf)
    · rw [if_pos h2] at hi
      ((conv => whnf); simp only [St.mk.injEq, List.cons.injEq, Prod.mk.injEq, AV.c.injEq, AV.agg.injEq, AV.tup.injEq, CV.d.injEq, D.int.injEq, D.bool.injEq, D.str.injEq, D.sl.injEq, Ent.arr.injEq, Ent.box.injEq, true_and, and_true, and_self, nInt_eq, Int.natCast_zero, dLen_eL, sLen_eq, hi])
    · rw [if_neg (by simp [h2])] at hi
      refine ⟨k + 1, by omega, ⟨h1, hi⟩, ?_⟩
      ((conv => whnf); simp only [St.mk.injEq, List.cons.injEq, Prod.mk.injEq, AV.c.injEq, AV.agg.injEq, AV.tup.injEq, CV.d.injEq, D.int.injEq, D.bool.injEq, D.str.injEq, D.sl.injEq, Ent.arr.injEq, Ent.box.injEq, true_and, and_true, and_self, nInt_eq, Int.natCast_zero, dLen_eL, sLen_eq, wI h1 hl])
  · obtain rfl : k = xs.length := by omega
    simp only [List.drop_length, idxL] at hi
    ((conv => whnf); simp only [St.mk.injEq, List.cons.injEq, Prod.mk.injEq, AV.c.injEq, AV.agg.injEq, AV.tup.injEq, CV.d.injEq, D.int.injEq, D.bool.injEq, D.str.injEq, D.sl.injEq, Ent.arr.injEq, Ent.box.injEq, true_and, and_true, and_self, nInt_eq, Int.natCast_zero, dLen_eL, sLen_eq, ← hi])


theorem slices_ContainsFunc_Lint_int_2 (xs : List (Int)) (g : FuncId) (d0 d1 : D) (p : Int → Bool) (hp : ∀ x ∈ xs, FnSpec PR g [ai x, .c (.d d0), .c (.d d1)] (ab (p x)) [] 0) (hl : xs.length ≤ 9223372036854775807) :
    FnSpec PR f_slices_ContainsFunc_Lint_int [aIs xs, .c (.d (.fn g [d0, d1]))] (ab (xs.any p)) [] 0 := by
  refine FnSpec.intro hT p_slices_ContainsFunc_Lint_int rfl (by kernel_rfl) n_slices_ContainsFunc_Lint_int rfl ?_
  conv => whnf
  refine .inl ⟨_, _, _, slices_IndexFunc_Lint_int_2 xs g d0 d1 p hp hl, rfl, ?_⟩
  (conv => whnf)
  have h := idxL_any p xs 0
  cases hb : xs.any p
  · rw [hb] at h
    ((conv => whnf); simp only [St.mk.injEq, List.cons.injEq, Prod.mk.injEq, AV.c.injEq, AV.agg.injEq, AV.tup.injEq, CV.d.injEq, D.int.injEq, D.bool.injEq, D.str.injEq, D.sl.injEq, Ent.arr.injEq, Ent.box.injEq, true_and, and_true, and_self, nInt_eq, Int.natCast_zero, dLen_eL, sLen_eq, iLe])
    simpa using h
  · rw [hb] at h
    ((conv => whnf); simp only [St.mk.injEq, List.cons.injEq, Prod.mk.injEq, AV.c.injEq, AV.agg.injEq, AV.tup.injEq, CV.d.injEq, D.int.injEq, D.bool.injEq, D.str.injEq, D.sl.injEq, Ent.arr.injEq, Ent.box.injEq, true_and, and_true, and_self, nInt_eq, Int.natCast_zero, dLen_eL, sLen_eq, iLe])
    simpa using h


theorem slices_IndexFunc_Limpl_Node_impl_Node_0 (xs : List (Nd)) (g : FuncId) (p : Nd → Bool) (hp : ∀ x ∈ xs, FnSpec PR g [aN x] (ab (p x)) [] 0) (hl : xs.length ≤ 9223372036854775807) :
    FnSpec PR f_slices_IndexFunc_Limpl_Node_impl_Node [aNs xs, .c (.d (.fn g []))] (ai (idxL p xs 0)) [] 0 := by
  refine FnSpec.intro hT p_slices_IndexFunc_Limpl_Node_impl_Node rfl (by kernel_rfl) n_slices_IndexFunc_Limpl_Node_impl_Node rfl ?_
  conv => whnf
  refine tri_loop hT [0, 1, 7, 8] (α := Nat) (fun k => { t := [(0, aNs xs), (1, .c (.d (.fn g []))), (7, ai xs.length), (8, ai k)], h := [], n := 0, N := 19 })
    (fun k => k ≤ xs.length ∧ idxL p (xs.drop k) k = idxL p xs 0) (fun k => xs.length - k) 0 (by ((conv => whnf); simp only [St.mk.injEq, List.cons.injEq, Prod.mk.injEq, AV.c.injEq, AV.agg.injEq, AV.tup.injEq, CV.d.injEq, D.int.injEq, D.bool.injEq, D.str.injEq, D.sl.injEq, Ent.arr.injEq, Ent.box.injEq, true_and, and_true, and_self, nInt_eq, Int.natCast_zero, dLen_eL, sLen_eq])) ⟨Nat.zero_le _, rfl⟩ ?_
  intro k ⟨hk, hi⟩
  (conv => whnf)
  refine ifB_i (fun h1 => ?_) (fun h1 => ?_) <;> (conv => whnf) <;> simp at h1
  · obtain ⟨s, hs⟩ := get_lt h1
    rw [drop_at hs, idxL] at hi
    refine idx_at (by simp) hs ?_
    (conv => whnf)
    refine .inl ⟨_, _, _, hp s (List.mem_of_getElem? hs), rfl, ?_⟩
    (conv => whnf)
    refine ifB_i (fun h2 => ?_) (fun h2 => ?_) <;> (conv => whnf)
    · rw [if_pos h2] at hi
      ((conv => whnf); simp only [St.mk.injEq, List.cons.injEq, Prod.mk.injEq, AV.c.injEq, AV.agg.injEq, AV.tup.injEq, CV.d.injEq, D.int.injEq, D.bool.injEq, D.str.injEq, D.sl.injEq, Ent.arr.injEq, Ent.box.injEq, true_and, and_true, and_self, nInt_eq, Int.natCast_zero, dLen_eL, sLen_eq, hi])
    · rw [if_neg (by simp [h2])] at hi
      refine ⟨k + 1, by omega, ⟨h1, hi⟩, ?_⟩
      ((conv => whnf); simp only [St.mk.injEq, List.cons.injEq, Prod.mk.injEq, AV.c.injEq, AV.agg.injEq, AV.tup.injEq, CV.d.injEq, D.int.injEq, D.bool.injEq, D.str.injEq, D.sl.injEq, Ent.arr.injEq, Ent.box.injEq, true_and, and_true, and_self, nInt_eq, Int.natCast_zero, dLen_eL, sLen_eq, wI h1 hl])
  · obtain rfl : k = xs.length := by omega
    simp only [List.drop_length, idxL] at hi
    ((conv => whnf); simp only [St.mk.injEq, List.cons.injEq, Prod.mk.injEq, AV.c.injEq, AV.agg.injEq, AV.tup.injEq, CV.d.injEq, D.int.injEq, D.bool.injEq, D.str.injEq, D.sl.injEq, Ent.arr.injEq, Ent.box.injEq, true_and, and_true, and_self, nInt_eq, Int.natCast_zero, dLen_eL, sLen_eq, ← hi])


theorem slices_IndexFunc_Limpl_Node_impl_Node_1 (xs : List (Nd)) (g : FuncId) (d0 : D) (p : Nd → Bool) (hp : ∀ x ∈ xs, FnSpec PR g [aN x, .c (.d d0)] (ab (p x)) [] 0) (hl : xs.length ≤ 9223372036854775807) :
    FnSpec PR f_slices_IndexFunc_Limpl_Node_impl_Node [aNs xs, .c (.d (.fn g [d0]))] (ai (idxL p xs 0)) [] 0 := by
  refine FnSpec.intro hT p_slices_IndexFunc_Limpl_Node_impl_Node rfl (by kernel_rfl) n_slices_IndexFunc_Limpl_Node_impl_Node rfl ?_
  conv => whnf
  refine tri_loop hT [0, 1, 7, 8] (α := Nat) (fun k => { t := [(0, aNs xs), (1, .c (.d (.fn g [d0]))), (7, ai xs.length), (8, ai k)], h := [], n := 0, N := 19 })
    (fun k => k ≤ xs.length ∧ idxL p (xs.drop k) k = idxL p xs 0) (fun k => xs.length - k) 0 (by ((conv => whnf); simp only [St.mk.injEq, List.cons.injEq, Prod.mk.injEq, AV.c.injEq, AV.agg.injEq, AV.tup.injEq, CV.d.injEq, D.int.injEq, D.bool.injEq, D.str.injEq, D.sl.injEq, Ent.arr.injEq, Ent.box.injEq, true_and, and_true, and_self, nInt_eq, Int.natCast_zero, dLen_eL, sLen_eq])) ⟨Nat.zero_le _, rfl⟩ ?_
  intro k ⟨hk, hi⟩
  (conv => whnf)
  refine ifB_i (fun h1 => ?_) (fun h1 => ?_) <;> (conv => whnf) <;> simp at h1
  · obtain ⟨s, hs⟩ := get_lt h1
    rw [drop_at hs, idxL] at hi
    refine idx_at (by simp) hs ?_
    (conv => whnf)
    refine .inl ⟨_, _, _, hp s (List.mem_of_getElem? hs), rfl, ?_⟩
    (conv => whnf)
    refine ifB_i (fun h2 => ?_) (fun h2 => ?_) <;> (conv => whnf)
    · rw [if_pos h2] at hi
      ((conv => whnf); simp only [St.mk.injEq, List.cons.injEq, Prod.mk.injEq, AV.c.injEq, AV.agg.injEq, AV.tup.injEq, CV.d.injEq, D.int.injEq, D.bool.injEq, D.str.injEq, D.sl.injEq, Ent.arr.injEq, Ent.box.injEq, true_and, and_true, and_self, nInt_eq, Int.natCast_zero, dLen_eL, sLen_eq, hi])
    · rw [if_neg (by simp [h2])] at hi
      refine ⟨k + 1, by omega, ⟨h1, hi⟩, ?_⟩
      ((conv => whnf); simp only [St.mk.injEq, List.cons.injEq, Prod.mk.injEq, AV.c.injEq, AV.agg.injEq, AV.tup.injEq, CV.d.injEq, D.int.injEq, D.bool.injEq, D.str.injEq, D.sl.injEq, Ent.arr.injEq, Ent.box.injEq, true_and, and_true, and_self, nInt_eq, Int.natCast_zero, dLen_eL, sLen_eq, wI h1 hl])
  · obtain rfl : k = xs.length := by omega
    simp only [List.drop_length, idxL] at hi
    ((conv => whnf); simp only [St.mk.injEq, List.cons.injEq, Prod.mk.injEq, AV.c.injEq, AV.agg.injEq, AV.tup.injEq, CV.d.injEq, D.int.injEq, D.bool.injEq, D.str.injEq, D.sl.injEq, Ent.arr.injEq, Ent.box.injEq, true_and, and_true, and_self, nInt_eq, Int.natCast_zero, dLen_eL, sLen_eq, ← hi])


theorem slices_IndexFunc_Limpl_Node_impl_Node_2 (xs : List (Nd)) (g : FuncId) (d0 d1 : D) (p : Nd → Bool) (hp : ∀ x ∈ xs, FnSpec PR g [aN x, .c (.d d0), .c (.d d1)] (ab (p x)) [] 0) (hl : xs.length ≤ 9223372036854775807) :
    FnSpec PR f_slices_IndexFunc_Limpl_Node_impl_Node [aNs xs, .c (.d (.fn g [d0, d1]))] (ai (idxL p xs 0)) [] 0 := by
  refine FnSpec.intro hT p_slices_IndexFunc_Limpl_Node_impl_Node rfl (by kernel_rfl) n_slices_IndexFunc_Limpl_Node_impl_Node rfl ?_
  conv => whnf
  refine tri_loop hT [0, 1, 7, 8] (α := Nat) (fun k => { t := [(0, aNs xs), (1, .c (.d (.fn g [d0, d1]))), (7, ai xs.length), (8, ai k)], h := [], n := 0, N := 19 })
    (fun k => k ≤ xs.length ∧ idxL p (xs.drop k) k = idxL p xs 0) (fun k => xs.length - k) 0 (by ((conv => whnf); simp only [St.mk.injEq, List.cons.injEq, Prod.mk.injEq, AV.c.injEq, AV.agg.injEq, AV.tup.injEq, CV.d.injEq, D.int.injEq, D.bool.injEq, D.str.injEq, D.sl.injEq, Ent.arr.injEq, Ent.box.injEq, true_and, and_true, and_self, nInt_eq, Int.natCast_zero, dLen_eL, sLen_eq])) ⟨Nat.zero_le _, rfl⟩ ?_
  intro k ⟨hk, hi⟩
  (conv => whnf)
  refine ifB_i (fun h1 => ?_) (fun h1 => ?_) <;> (conv => whnf) <;> simp at h1
  · obtain ⟨s, hs⟩ := get_lt h1
    rw [drop_at hs, idxL] at hi
    refine idx_at (by simp) hs ?_
    (conv => whnf)
    refine .inl ⟨_, _, _, hp s (List.mem_of_getElem? hs), rfl, ?_⟩
    (conv => whnf)
    refine ifB_i (fun h2 => ?_) (fun h2 => ?_) <;> (conv => whnf)
    · rw [if_pos h2] at hi
      ((conv => whnf); simp only [St.mk.injEq, List.cons.injEq, Prod.mk.injEq, AV.c.injEq, AV.agg.injEq, AV.tup.injEq, CV.d.injEq, D.int.injEq, D.bool.injEq, D.str.injEq, D.sl.injEq, Ent.arr.injEq, Ent.box.injEq, true_and, and_true, and_self, nInt_eq, Int.natCast_zero, dLen_eL, sLen_eq, hi])
    · rw [if_neg (by simp [h2])] at hi
      refine ⟨k + 1, by omega, ⟨h1, hi⟩, ?_⟩
      ((conv => whnf); simp only [St.mk.injEq, List.cons.injEq, Prod.mk.injEq, AV.c.injEq, AV.agg.injEq, AV.tup.injEq, CV.d.injEq, D.int.injEq, D.bool.injEq, D.str.injEq, D.sl.injEq, Ent.arr.injEq, Ent.box.injEq, true_and, and_true, and_self, nInt_eq, Int.natCast_zero, dLen_eL, sLen_eq, wI h1 hl])
  · obtain rfl : k = xs.length := by omega
    simp only [List.drop_length, idxL] at hi
    ((conv => whnf); simp only [St.mk.injEq, List.cons.injEq, Prod.mk.injEq, AV.c.injEq, AV.agg.injEq, AV.tup.injEq, CV.d.injEq, D.int.injEq, D.bool.injEq, D.str.injEq, D.sl.injEq, Ent.arr.injEq, Ent.box.injEq, true_and, and_true, and_self, nInt_eq, Int.natCast_zero, dLen_eL, sLen_eq, ← hi])
end Go.H.S
namespace Go.H.S
open Go Go.Proofs Go.H
attribute [local irreducible] Tri FnSpec FnSpecM
set_option maxRecDepth 100000
set_option linter.unusedSimpArgs false
set_option linter.unusedVariables false


theorem eq_drop {α : Type} [DecidableEq α] {a b : List α} {k : Nat} {x y : α} (hx : a[k]? = some x) (hy : b[k]? = some y) : decide (a.drop k = b.drop k) = (decide (x = y) && decide (a.drop (k + 1) = b.drop (k + 1))) := by
  rw [drop_at hx, drop_at hy, Bool.eq_iff_iff]
  simp
theorem eq_len {α : Type} [DecidableEq α] {a b : List α} (h : a.length ≠ b.length) : decide (a = b) = false := by
  rw [decide_eq_false_iff_not]
  intro e; rw [e] at h; exact h rfl
theorem eqNd_b (x y : Nd) : bAnd (iEq x.f y.f) (bAnd (iEq x.c y.c) (bAnd (iEq x.l y.l) (bAnd (iEq x.r y.r) (bAnd (iEq x.v y.v) true)))) = decide (x = y) := by
  rw [Bool.eq_iff_iff]
  cases x; cases y
  simp

theorem h0_len {a b : Nat} (h : (a : Int) = b) : a = b := by omega
end Go.H.S
namespace Go.H.S
open Go Go.Proofs Go.H
attribute [local irreducible] Tri FnSpec FnSpecM
set_option maxRecDepth 100000
set_option linter.unusedSimpArgs false
set_option linter.unusedVariables false


def signsAll (t : List Nd) : List Int → Nat → Bool
  | [], _ => true
  | s :: r, k => followsL t k s && signsAll t r (k + 1)
def treesAll (ts : List (List Nd)) : List Int → Nat → Bool
  | [], _ => true
  | s :: r, k => ts.all (fun t => followsL t k s) && treesAll ts r (k + 1)
theorem follows_swap (ts : List (List Nd)) : ∀ (ss : List Int) (k : Nat), treesAll ts ss k = ts.all (fun t => signsAll t ss k)
  | [], k => by simp [treesAll, signsAll]
  | s :: r, k => by
    simp only [treesAll, signsAll, follows_swap ts r (k + 1)]
    induction ts with
    | nil => rfl
    | cons t ts ih =>
      simp only [List.all_cons]
      rw [← ih]
      cases followsL t k s <;> cases signsAll t r (k + 1) <;> simp
end Go.H.S
namespace Go.H.S
open Go Go.Proofs Go.H
attribute [local irreducible] Tri FnSpec FnSpecM
set_option maxRecDepth 100000
set_option linter.unusedSimpArgs false
set_option linter.unusedVariables false


def eqMd (a b : Mdl) : Bool := decide (a.names = b.names) && decide (a.signs = b.signs) && decide (a.base = b.base) && decide (a.trees = b.trees)

structure Dsk where
  csv : ByteArray
  config : ByteArray
  model : Mdl
  made : Bool
abbrev cD (d : Dsk) : List CV := [.d (.str d.csv), .d (.str d.config), .d (.sl 1 (eL cS d.model.names)), .d (.sl 1 (eL cI d.model.signs)), .d (.int .i64 d.model.base), .d (.sl 1 (eL cT d.model.trees)), .d (.bool d.made)]
abbrev aD (d : Dsk) : AV := .agg (cD d)
def okDesk (d : Dsk) : Prop := d.csv.size ≤ 9223372036854775807 ∧ d.config.size ≤ 9223372036854775807 ∧ okModel d.model
def costDesk (d : Dsk) : Nat := d.csv.size + d.config.size + costModel d.model
def eqDs (a b : Dsk) : Bool := decide (a.csv = b.csv) && decide (a.config = b.config) && eqMd a.model b.model && decide (a.made = b.made)
end Go.H.S
namespace Go.H.S
open Go Go.Proofs Go.H
attribute [local irreducible] Tri FnSpec FnSpecM FnSpecX
set_option maxRecDepth 100000
set_option linter.unusedSimpArgs false
set_option linter.unusedVariables false


theorem own_ints {w : World} {F : Nat → Prop} {e : TypeId} {v : Value} {xs : List Int} (h : OwnRep w F e 1 v (eL cI xs)) : w.ownsRow 0 e 1 v xs.length (xs.map (Value.int .i64)) := by
  obtain ⟨ys, h1, h2⟩ := h
  rw [eL_length] at h1
  have hl : ys.length = xs.length := by have := h1.1; omega
  have : ys = xs.map (Value.int .i64) := by
    apply List.ext_getElem?
    intro i
    rcases Nat.lt_or_ge i xs.length with q | q
    · obtain ⟨x, hx⟩ := get_lt q
      obtain ⟨_, h3⟩ := h2 i (cI x) (by rw [eL_get, hx]; rfl)
      obtain ⟨u, hu, hf⟩ := h3 0 (.int .i64 x) rfl
      cases hf
      rw [List.getElem?_map, hx]
      simpa using hu
    · rw [List.getElem?_eq_none (by omega), List.getElem?_eq_none (by simp; omega)]
  rw [← this]
  exact h1
theorem ints_own {w : World} {F : Nat → Prop} {e : TypeId} {v : Value} {xs : List Int} (h : w.ownsRow 0 e 1 v xs.length (xs.map (Value.int .i64))) : OwnRep w F e 1 v (eL cI xs) := by
  refine ⟨xs.map (Value.int .i64), by rw [eL_length]; exact h, fun i c hc => ?_⟩
  rw [eL_get] at hc
  simp only [Option.map_eq_some_iff] at hc
  obtain ⟨x, hx, rfl⟩ := hc
  refine ⟨rfl, fun j d hj => ?_⟩
  cases j with
  | zero =>
    simp [cI] at hj
    subst hj
    exact ⟨.int .i64 x, by simp [hx], .int _ _⟩
  | succ j => simp [cI] at hj
/-- The value of a row that is lent whole. -/
theorem lent_val {w : World} {F : Nat → Prop} {e sz : TypeId} {v0 v : Value} {es : List (List D)} (ho : OwnRep w F e sz v0 es) (h : AVRep w (conM F v0) [(0, .arr e sz 0 .own es)] (.c (.ref 0 0 none)) v) : v = v0 := by
  obtain ⟨_, _, _, h4⟩ := h
  obtain ⟨_, a, n, c, a', c', hv, rfl, hc, _, hh⟩ := h4 e sz .own es rfl
  obtain ⟨_, rfl, rfl⟩ := hh rfl
  obtain ⟨A, c2, hs, _⟩ := own_shape ho
  have hv0 : v0 = .slice a' n c' := hv
  rw [hv0] at hs ⊢
  simp only [Value.slice.injEq] at hs
  rw [hs.2.1]
  rfl
theorem grewX_of {L : Nat → Prop} {w w' : World} {row : Option Nat} (h : w.grownBy w' row) (hL : ∀ b, row = some b → L b) : GrewX L w w' :=
  ⟨h.os, h.tape, h.output, h.size, fun k hk hn => h.block k hk (fun e => hn (hL k e.symm))⟩
theorem partOf_eL {α : Type} (f : α → List D) (xs : List α) (b : Bool) (o n : Nat) : partOf (eL f xs) (some (b, o, n)) = eL f ((xs.drop o).take n) := by
  simp only [partOf, dPart_eq, eL, List.map_drop, List.map_take]

theorem slices_Clone_ints_spec (xs : List Int) (hx : xs.length ≤ 1000000000) : FnSpec PR f_slices_Clone_Lint_int [aIs xs] (.c (.ref 0 0 none)) [(0, .arr t_int 1 0 .own (eL cI xs))] 1 := by
  refine FnSpec.intro hT p_slices_Clone_Lint_int rfl (by kernel_rfl) n_slices_Clone_Lint_int rfl ?_
  conv => whnf
  intro b hb
  cases b <;> (conv => whnf)
  · refine ⟨by simp [eL_length, dLen_len]; omega, ?_⟩
    ((conv => whnf); simp only [St.mk.injEq, List.cons.injEq, Prod.mk.injEq, AV.c.injEq, AV.agg.injEq, AV.tup.injEq, CV.d.injEq, D.int.injEq, D.bool.injEq, D.str.injEq, D.sl.injEq, Ent.arr.injEq, Ent.box.injEq, true_and, and_true, and_self, nInt_eq, Int.natCast_zero, dLen_eL, sLen_eq, partOf_none, dApp_nil])
  · have := hb rfl
    ((conv => whnf); simp only [St.mk.injEq, List.cons.injEq, Prod.mk.injEq, AV.c.injEq, AV.agg.injEq, AV.tup.injEq, CV.d.injEq, D.int.injEq, D.bool.injEq, D.str.injEq, D.sl.injEq, Ent.arr.injEq, Ent.box.injEq, true_and, and_true, and_self, nInt_eq, Int.natCast_zero, dLen_eL, sLen_eq, this])
end Go.H.S
namespace Go.H.S
open Go Go.Proofs Go.H
attribute [local irreducible] Tri FnSpec FnSpecM FnSpecX FnSpecJ
set_option maxRecDepth 100000
set_option linter.unusedSimpArgs false
set_option linter.unusedVariables false
end Go.H.S
