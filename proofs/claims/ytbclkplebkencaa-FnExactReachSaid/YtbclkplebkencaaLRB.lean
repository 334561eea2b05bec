/- Library, part RB: the values of leaves; the reach of a model. -/
import Derived.Test.YtbclkplebkencaaLRA
import Derived.Test.YtbclkplebkencaaLG
namespace Go.H.S
open Go Go.Proofs Go.H
attribute [local irreducible] Tri FnSpec FnSpecM FnSpecX FnSpecJ
set_option maxRecDepth 100000
set_option linter.unusedSimpArgs false
set_option linter.unusedVariables false


def valsL : List Nd → List Int
  | [] => []
  | n :: r => if n.f = -1 then n.v :: valsL r else valsL r
theorem valsL_eq : ∀ (t : List Nd) (k : Nat) (all : List Nd), (∀ j n, t[j]? = some n → all[k + j]? = some n) → (leavesK t k).map (fun i => match all[i.toNat]? with | some n => n.v | none => 0) = valsL t
  | [], k, all, h => rfl
  | n :: r, k, all, h => by
    have ih := valsL_eq r (k + 1) all (fun j n hj => by rw [show k + 1 + j = k + (j + 1) by omega]; exact h (j + 1) n hj)
    have h0 := h 0 n rfl
    simp only [leavesK, valsL]
    split
    · rw [List.map_cons, ih, Int.toNat_natCast, show all[k]? = some n from h0]
    · exact ih
theorem valsL_len : ∀ t : List Nd, (valsL t).length ≤ t.length
  | [] => by simp [valsL]
  | n :: r => by
    have := valsL_len r
    simp only [valsL]
    split <;> simp <;> omega
def valuesL (t : List Nd) : List Int := distinctL (valsL t)
def vAtI (t : List Nd) (i : Int) : Int := match t[i.toNat]? with | some n => n.v | none => 0
theorem leaf_vals (t : List Nd) : (leavesK t 0).map (vAtI t) = valsL t := valsL_eq t 0 t (fun j n h => by rw [Nat.zero_add]; exact h)
theorem spec_ValuesIn_spec (t : List Nd) (hl : t.length ≤ 1048576) : FnSpec PR f_spec_ValuesIn [aT t] (.c (.ref 0 0 none)) [(0, .arr t_int 1 0 true (eL cI (valuesL t)))] 1 := by
  have hll := leavesK_len t 0
  have hlt := leavesK_lt t 0
  have hlv := leaf_vals t
  refine FnSpec.intro hT p_spec_ValuesIn rfl (by kernel_rfl) n_spec_ValuesIn rfl ?_
  conv => whnf
  refine .inl ⟨_, _, _, spec_LeavesOf_spec t hl, rfl, ?_⟩
  generalize leavesK t 0 = L at *
  (conv => whnf)
  refine tri_loop hT [1, 3, 4, 5] (α := Nat) (fun k => { t := [(1, .c (.ptr 0 0)), (3, .c (.ref 1 0 none)), (4, .c (.ref 2 0 none)), (5, ai k)], h := [(0, .box t_impl_Tree (cTr t)), (1, .arr t_int 1 0 true (eL cI ((L.take k).map (vAtI t)))), (2, .arr t_int 1 0 true (eL cI L))], n := 3, N := 29 })
    (fun k => k ≤ L.length) (fun k => L.length - k) 0 (by ((conv => whnf); simp only [St.mk.injEq, List.cons.injEq, Prod.mk.injEq, AV.c.injEq, AV.agg.injEq, AV.tup.injEq, CV.d.injEq, D.int.injEq, D.bool.injEq, D.str.injEq, D.sl.injEq, Ent.arr.injEq, Ent.box.injEq, true_and, and_true, and_self, nInt_eq, Int.natCast_zero, dLen_eL, sLen_eq, List.take_zero, List.map_nil, eL_nil])) (Nat.zero_le _) ?_
  intro k hk
  (conv => whnf)
  refine ifB_i (fun h1 => ?_) (fun h1 => ?_) <;> (conv => whnf) <;> simp at h1
  · obtain ⟨i, hi⟩ := get_lt h1
    have hib := hlt i (List.mem_of_getElem? hi)
    obtain ⟨j, rfl⟩ : ∃ j : Nat, i = j := ⟨i.toNat, by omega⟩
    obtain ⟨n, hn⟩ := get_lt (show j < t.length by omega)
    have hv : vAtI t j = n.v := by simp [vAtI, hn]
    have hnx : (L.take (k + 1)).map (vAtI t) = (L.take k).map (vAtI t) ++ [n.v] := by rw [List.take_add_one, hi]; simp [hv]
    refine tri_every hT hmix [1, 3, 4, 5] { t := [(1, .c (.ptr 0 0)), (3, .c (.ref 1 0 none)), (4, .c (.ref 2 0 none)), (5, ai k)], h := [(0, .box t_impl_Tree (cTr t)), (1, .arr t_int 1 0 true (eL cI ((L.take (k + 1)).map (vAtI t)))), (2, .arr t_int 1 0 true (eL cI L))], n := 3, N := 29 } rfl ?_ ?_
    · repeat' first
        | (refine anyV_one rfl ?_; (conv => whnf))
        | (refine anyV_two rfl ?_ ?_ <;> (conv => whnf))
        | (refine anyV_three rfl ?_ ?_ ?_ <;> (conv => whnf))
        | (refine anyV_end rfl ?_; (conv => whnf); first | done | (rw [hnx, ← eL_app, partOf_none]; rfl))
        | (refine idx_at (by simp) hn ?_; (conv => whnf))
        | (refine ref_at (k := k) (by simp) (by simp; omega) ?_; (conv => whnf))
        | (refine ld_at (by simp) hi ?_; (conv => whnf))
        | (refine And.intro (by simp [eL_length, dLen_len]; omega) ?_; (conv => whnf))
    · (conv => whnf)
      refine ⟨k + 1, by omega, h1, ?_⟩
      ((conv => whnf); simp only [St.mk.injEq, List.cons.injEq, Prod.mk.injEq, AV.c.injEq, AV.agg.injEq, AV.tup.injEq, CV.d.injEq, D.int.injEq, D.bool.injEq, D.str.injEq, D.sl.injEq, Ent.arr.injEq, Ent.box.injEq, true_and, and_true, and_self, nInt_eq, Int.natCast_zero, dLen_eL, sLen_eq, wI h1 (by omega)])
  · obtain rfl : k = L.length := by omega
    rw [List.take_length, hlv]
    refine .inr (.inl ⟨_, _, _, spec_Distinct_spec (valsL t) (by have := valsL_len t; omega), rfl, ⟨flat_cI _, trivial⟩, ?_⟩)
    (conv => whnf)
    rfl

theorem impl_ValuesIn_spec (t : List Nd) (hl : t.length ≤ 1048576) : FnSpec PR f_impl_ValuesIn [aT t] (.c (.ref 0 0 none)) [(0, .arr t_int 1 0 true (eL cI (valuesL t)))] 1 := by
  have hll := leavesK_len t 0
  have hlt := leavesK_lt t 0
  have hlv := leaf_vals t
  refine FnSpec.intro hT p_impl_ValuesIn rfl (by kernel_rfl) n_impl_ValuesIn rfl ?_
  conv => whnf
  refine .inl ⟨_, _, _, impl_LeavesOf_spec t hl, rfl, ?_⟩
  generalize leavesK t 0 = L at *
  (conv => whnf)
  refine tri_loop hT [1, 3, 8, 9, 10] (α := Nat) (fun k => { t := [(1, .c (.ptr 0 0)), (3, .c (.ref 1 0 none)), (8, .c (.ref 2 0 none)), (9, ai L.length), (10, ai k)], h := [(0, .box t_impl_Tree (cTr t)), (1, .arr t_int 1 0 true (eL cI ((L.take k).map (vAtI t)))), (2, .arr t_int 1 0 true (eL cI L))], n := 3, N := 26 })
    (fun k => k ≤ L.length) (fun k => L.length - k) 0 (by ((conv => whnf); simp only [St.mk.injEq, List.cons.injEq, Prod.mk.injEq, AV.c.injEq, AV.agg.injEq, AV.tup.injEq, CV.d.injEq, D.int.injEq, D.bool.injEq, D.str.injEq, D.sl.injEq, Ent.arr.injEq, Ent.box.injEq, true_and, and_true, and_self, nInt_eq, Int.natCast_zero, dLen_eL, sLen_eq, List.take_zero, List.map_nil, eL_nil, lenRE_none])) (Nat.zero_le _) ?_
  intro k hk
  (conv => whnf)
  refine ifB_i (fun h1 => ?_) (fun h1 => ?_) <;> (conv => whnf) <;> simp at h1
  · obtain ⟨i, hi⟩ := get_lt h1
    have hib := hlt i (List.mem_of_getElem? hi)
    obtain ⟨j, rfl⟩ : ∃ j : Nat, i = j := ⟨i.toNat, by omega⟩
    obtain ⟨n, hn⟩ := get_lt (show j < t.length by omega)
    have hv : vAtI t j = n.v := by simp [vAtI, hn]
    have hnx : (L.take (k + 1)).map (vAtI t) = (L.take k).map (vAtI t) ++ [n.v] := by rw [List.take_add_one, hi]; simp [hv]
    refine ref_at (k := k) (by simp) (by simp; omega) ?_
    (conv => whnf)
    refine ld_at (by simp) hi ?_
    (conv => whnf)
    refine idx_at (by simp) hn ?_
    (conv => whnf)
    refine And.intro (by simp [eL_length, dLen_len]; omega) ?_
    (conv => whnf)
    refine ⟨k + 1, by omega, h1, ?_⟩
    rw [hnx, ← eL_app]
    ((conv => whnf); simp only [St.mk.injEq, List.cons.injEq, Prod.mk.injEq, AV.c.injEq, AV.agg.injEq, AV.tup.injEq, CV.d.injEq, D.int.injEq, D.bool.injEq, D.str.injEq, D.sl.injEq, Ent.arr.injEq, Ent.box.injEq, true_and, and_true, and_self, nInt_eq, Int.natCast_zero, dLen_eL, sLen_eq, wI h1 (by omega), partOf_none])
    rfl
  · obtain rfl : k = L.length := by omega
    rw [List.take_length, hlv]
    refine .inr (.inl ⟨_, _, _, impl_Distinct_spec (valsL t) (by have := valsL_len t; omega), rfl, ⟨flat_cI _, trivial⟩, ?_⟩)
    (conv => whnf)
    rfl

theorem valuesL_pos {t : List Nd} {ft : Int} (h : treeOk t ft = true) : 0 < (valuesL t).length := by
  simp only [treeOk, Bool.and_eq_true, decide_eq_true_eq] at h
  obtain ⟨h1, _, h3, _⟩ := h
  obtain ⟨n, hn⟩ := get_lt (show t.length - 1 < t.length by omega)
  have hf : n.f = -1 := by
    by_cases q : n.f = -1
    · exact q
    · have := shape_kids h3 hn q; omega
  have hmem : n.v ∈ valsL t := by
    have key : ∀ l : List Nd, n ∈ l → n.v ∈ valsL l := by
      intro l
      induction l with
      | nil => intro h; cases h
      | cons x r ih =>
        intro h
        simp only [valsL]
        rcases List.mem_cons.1 h with rfl | h
        · rw [if_pos hf]; simp
        · split
          · exact List.mem_cons_of_mem _ (ih h)
          · exact ih h
    exact key t (List.mem_of_getElem? hn)
  have hpos : 0 < (sortL (valsL t)).length := by rw [sortL_len]; exact List.length_pos_of_mem hmem
  unfold valuesL distinctL Go.Lib.compact
  generalize sortL (valsL t) = s at *
  obtain ⟨m, hm⟩ : ∃ m, s.length = m + 1 := ⟨s.length - 1, by omega⟩
  rw [hm]
  have : 0 ∈ (List.range (m + 1)).filter (Go.Lib.keeps s.toArray) := by
    rw [List.mem_filter]
    exact ⟨by simp, Go.Lib.keeps_lt_one _ 0 (by omega)⟩
  simp only [Go.Lib.compactUpTo, List.length_map]
  exact List.length_pos_of_mem this
def lowV (t : List Nd) : Int := ((valuesL t)[0]?).getD 0
def highV (t : List Nd) : Int := ((valuesL t)[(valuesL t).length - 1]?).getD 0
def reachL : List (List Nd) → Int → Int → Int × Int
  | [], lo, hi => (lo, hi)
  | t :: r, lo, hi => reachL r (wAdd .i64 lo (lowV t)) (wAdd .i64 hi (highV t))
def reachM (m : Mdl) : Int × Int := if modelOk m then reachL m.trees m.base m.base else (0, 0)
theorem modelOk_trees {m : Mdl} (h : modelOk m = true) : ∀ t ∈ m.trees, treeOk t m.names.length = true := by
  simp only [modelOk, Bool.and_eq_true] at h
  have := h.2.2.2.2.2.2
  rw [List.all_eq_true] at this
  exact this
abbrev tup2 (x : Int × Int) : AV := .tup [(false, [.d (.int .i64 x.1)]), (false, [.d (.int .i64 x.2)])]

theorem spec_Reach_spec (m : Mdl) (hn : m.names.length ≤ 1048576) (hns : ∀ s ∈ m.names, s.size ≤ 9223372036854775807) (hs : m.signs.length ≤ 1048576) (hm : m.trees.length ≤ 1048576) (ht : ∀ t ∈ m.trees, t.length ≤ 1048576) : FnSpec PR f_spec_Reach [aM m] (tup2 (reachM m)) [] 0 := by
  have eT : nInt (dLen (eL cT m.trees)) = (m.trees.length : Int) := by simp
  refine FnSpec.intro hT p_spec_Reach rfl (by kernel_rfl) n_spec_Reach rfl ?_
  conv => whnf
  refine .inl ⟨_, _, _, spec_ModelOk_spec m hn hns hs hm ht, rfl, ?_⟩
  cases hmo : modelOk m <;> (conv => whnf)
  · simp [reachM, hmo]
  have htr := modelOk_trees hmo
  have hre : reachM m = reachL m.trees m.base m.base := by simp [reachM, hmo]
  rw [hre]
  refine tri_loop hT [1, 4, 5, 6] (α := Nat × Int × Int) (fun x => { t := [(1, .c (.ptr 0 0)), (4, ai x.2.1), (5, ai x.2.2), (6, ai x.1)], h := [(0, .box t_impl_Model (cM m))], n := 1, N := 43 })
    (fun x => x.1 ≤ m.trees.length ∧ reachL (m.trees.drop x.1) x.2.1 x.2.2 = reachL m.trees m.base m.base) (fun x => m.trees.length - x.1) (0, m.base, m.base) (by ((conv => whnf); simp only [St.mk.injEq, List.cons.injEq, Prod.mk.injEq, AV.c.injEq, AV.agg.injEq, AV.tup.injEq, CV.d.injEq, D.int.injEq, D.bool.injEq, D.str.injEq, D.sl.injEq, Ent.arr.injEq, Ent.box.injEq, true_and, and_true, and_self, nInt_eq, Int.natCast_zero, dLen_eL, sLen_eq])) ⟨Nat.zero_le _, rfl⟩ ?_
  intro ⟨k, lo, hi⟩ ⟨hk, hr⟩
  dsimp only at hk hr
  (conv => whnf)
  refine ifB_i (fun h1 => ?_) (fun h1 => ?_) <;> (conv => whnf) <;> simp at h1
  · obtain ⟨t, hx⟩ := get_lt h1
    have hlt := ht t (List.mem_of_getElem? hx)
    have hpos := valuesL_pos (htr t (List.mem_of_getElem? hx))
    rw [drop_at hx, reachL] at hr
    refine idx_at (by simp) hx ?_
    (conv => whnf)
    refine .inl ⟨_, _, _, spec_ValuesIn_spec t hlt, rfl, ?_⟩
    have hvl : (valuesL t).length ≤ 1048576 := by have := distinctL_len (valsL t); have := valsL_len t; unfold valuesL; omega
    obtain ⟨a, ha⟩ := get_lt hpos
    obtain ⟨b, hb⟩ := get_lt (show (valuesL t).length - 1 < (valuesL t).length by omega)
    have hla : lowV t = a := by simp [lowV, ha]
    have hhb : highV t = b := by simp [highV, hb]
    rw [hla, hhb] at hr
    generalize valuesL t = V at *
    obtain ⟨m', hm'⟩ : ∃ m', V.length = m' + 1 := ⟨V.length - 1, by omega⟩
    rw [hm'] at hb
    have e1 : wSub .i64 (nInt (lenRE (eL cI V) none)) 1 = (m' : Int) := by rw [wSub64] <;> simp <;> omega
    have e0 : nAdd (offR none) (nOf 0) = 0 := by simp
    have e2 : nAdd (offR none) (nOf (wSub .i64 (nInt (lenRE (eL cI V) none)) 1)) = m' := by rw [e1]; simp
    (conv => whnf)
    refine ref_at (k := 0) (by simp) (by simp; omega) ?_
    (conv => whnf)
    refine ld_at (by simp) ha ?_
    (conv => whnf)
    refine ref_at (k := m') e1 (by simp; omega) ?_
    (conv => whnf)
    refine ld_at (by rw [e1]; simp) hb ?_
    (conv => whnf)
    refine ⟨(k + 1, wAdd .i64 lo a, wAdd .i64 hi b), by dsimp only; omega, ⟨h1, hr⟩, ?_⟩
    ((conv => whnf); simp only [St.mk.injEq, List.cons.injEq, Prod.mk.injEq, AV.c.injEq, AV.agg.injEq, AV.tup.injEq, CV.d.injEq, D.int.injEq, D.bool.injEq, D.str.injEq, D.sl.injEq, Ent.arr.injEq, Ent.box.injEq, true_and, and_true, and_self, nInt_eq, Int.natCast_zero, dLen_eL, sLen_eq, wI h1 (by omega)])
  · obtain rfl : k = m.trees.length := by omega
    simp only [List.drop_length, reachL] at hr
    rw [← hr]

set_option maxHeartbeats 4000000 in
theorem impl_Reach_spec (m : Mdl) (hn : m.names.length ≤ 1048576) (hns : ∀ s ∈ m.names, s.size ≤ 9223372036854775807) (hs : m.signs.length ≤ 1048576) (hm : m.trees.length ≤ 1048576) (ht : ∀ t ∈ m.trees, t.length ≤ 1048576) : FnSpec PR f_impl_Reach [aM m] (tup2 (reachM m)) [] 0 := by
  have eT : nInt (dLen (eL cT m.trees)) = (m.trees.length : Int) := by simp
  refine FnSpec.intro hT p_impl_Reach rfl (by kernel_rfl) n_impl_Reach rfl ?_
  conv => whnf
  refine .inl ⟨_, _, _, impl_ModelOk_spec m hn hns hs hm ht, rfl, ?_⟩
  cases hmo : modelOk m <;> (conv => whnf)
  · simp [reachM, hmo]
  have htr := modelOk_trees hmo
  have hre : reachM m = reachL m.trees m.base m.base := by simp [reachM, hmo]
  rw [hre]
  refine tri_every hT hmix [1, 4, 5] { t := [(1, .c (.ptr 0 0)), (4, ai m.base), (5, ai m.base)], h := [(0, .box t_impl_Model (cM m))], n := 1, N := 41 } rfl ?_ ?_
  · repeat' first
      | (refine anyV_one rfl ?_; (conv => whnf))
      | (refine anyV_two rfl ?_ ?_ <;> (conv => whnf))
      | (refine anyV_end rfl ?_; (conv => whnf))
  (conv => whnf)
  refine tri_loop hT [4, 5, 17, 18, 19] (α := Nat × Int × Int) (fun x => { t := [(4, ai x.2.1), (5, ai x.2.2), (17, aTs m.trees), (18, ai m.trees.length), (19, ai x.1)], h := [], n := 0, N := 41 })
    (fun x => x.1 ≤ m.trees.length ∧ reachL (m.trees.drop x.1) x.2.1 x.2.2 = reachL m.trees m.base m.base) (fun x => m.trees.length - x.1) (0, m.base, m.base) (by ((conv => whnf); simp only [St.mk.injEq, List.cons.injEq, Prod.mk.injEq, AV.c.injEq, AV.agg.injEq, AV.tup.injEq, CV.d.injEq, D.int.injEq, D.bool.injEq, D.str.injEq, D.sl.injEq, Ent.arr.injEq, Ent.box.injEq, true_and, and_true, and_self, nInt_eq, Int.natCast_zero, dLen_eL, sLen_eq])) ⟨Nat.zero_le _, rfl⟩ ?_
  intro ⟨k, lo, hi⟩ ⟨hk, hr⟩
  dsimp only at hk hr
  (conv => whnf)
  refine ifB_i (fun h1 => ?_) (fun h1 => ?_) <;> (conv => whnf) <;> simp at h1
  · obtain ⟨t, hx⟩ := get_lt h1
    have hlt := ht t (List.mem_of_getElem? hx)
    have hpos := valuesL_pos (htr t (List.mem_of_getElem? hx))
    rw [drop_at hx, reachL] at hr
    refine idx_at (by simp) hx ?_
    (conv => whnf)
    refine .inl ⟨_, _, _, impl_ValuesIn_spec t hlt, rfl, ?_⟩
    have hvl : (valuesL t).length ≤ 1048576 := by have := distinctL_len (valsL t); have := valsL_len t; unfold valuesL; omega
    obtain ⟨a, ha⟩ := get_lt hpos
    obtain ⟨b, hb⟩ := get_lt (show (valuesL t).length - 1 < (valuesL t).length by omega)
    have hla : lowV t = a := by simp [lowV, ha]
    have hhb : highV t = b := by simp [highV, hb]
    rw [hla, hhb] at hr
    generalize valuesL t = V at *
    obtain ⟨m', hm'⟩ : ∃ m', V.length = m' + 1 := ⟨V.length - 1, by omega⟩
    rw [hm'] at hb
    have e1 : wSub .i64 (nInt (lenRE (eL cI V) none)) 1 = (m' : Int) := by rw [wSub64] <;> simp <;> omega
    have e0 : nAdd (offR none) (nOf 0) = 0 := by simp
    have e2 : nAdd (offR none) (nOf (wSub .i64 (nInt (lenRE (eL cI V) none)) 1)) = m' := by rw [e1]; simp
    (conv => whnf)
    refine tri_every hT hmix [4, 5, 17, 18, 19] { t := [(4, ai (wAdd .i64 lo a)), (5, ai (wAdd .i64 hi b)), (17, aTs m.trees), (18, ai m.trees.length), (19, ai k)], h := [], n := 0, N := 41 } rfl ?_ ?_
    · repeat' first
        | (refine anyV_one rfl ?_; (conv => whnf))
        | (refine anyV_two rfl ?_ ?_ <;> (conv => whnf))
        | (refine anyV_three rfl ?_ ?_ ?_ <;> (conv => whnf))
        | (refine anyV_end rfl ?_; (conv => whnf))
        | (refine ref_at (k := 0) rfl (by simp; omega) ?_; (conv => whnf))
        | (refine ref_at (k := m') e1 (by simp; omega) ?_; (conv => whnf))
        | (refine ld_at e0 ha ?_; (conv => whnf))
        | (refine ld_at e2 hb ?_; (conv => whnf))
    (conv => whnf)
    refine ⟨(k + 1, wAdd .i64 lo a, wAdd .i64 hi b), by dsimp only; omega, ⟨h1, hr⟩, ?_⟩
    ((conv => whnf); simp only [St.mk.injEq, List.cons.injEq, Prod.mk.injEq, AV.c.injEq, AV.agg.injEq, AV.tup.injEq, CV.d.injEq, D.int.injEq, D.bool.injEq, D.str.injEq, D.sl.injEq, Ent.arr.injEq, Ent.box.injEq, true_and, and_true, and_self, nInt_eq, Int.natCast_zero, dLen_eL, sLen_eq, wI h1 (by omega)])
  · obtain rfl : k = m.trees.length := by omega
    simp only [List.drop_length, reachL] at hr
    rw [← hr]

set_option maxHeartbeats 1000000 in
theorem law_FnExactReach (m : Mdl) (hm : okModel m ∧ rgModel m) : FnSpec PR f_laws_FnExactReach [aM m] (ab true) [] 0 := by
  refine FnSpec.intro hT p_laws_FnExactReach rfl (by kernel_rfl) n_laws_FnExactReach rfl ?_
  conv => whnf
  refine .inl ⟨_, _, _, szModel_spec m 1048576 (by omega) (by omega) hm.1, rfl, ?_⟩
  (conv => whnf)
  refine ifB_i (fun h => ?_) (fun h => ?_) <;> (conv => whnf) <;> simp only [nInt_eq, Int.natCast_zero, dLen_eL, sLen_eq, nOf_eq, Int.toNat_natCast, nAdd_eq, nSub_eq, dLen_nil, dLen_cons, iLt_t, iLt_f, iLe_t, iLe_f, iEq_t, iEq_f, sEq_t, sEq_f, bNot_t, bNot_f, bAnd_t, bEq_t, bEq_f, Bool.not_eq_true, Bool.not_eq_false, Bool.true_eq_false, Bool.false_eq_true] at h
  have hcost := bud_ok h
  obtain ⟨hsm, hl, hc⟩ := model_small hcost
  have hs : m.signs.length ≤ 1048576 := by unfold costModel at hcost; omega
  have hn : m.names.length ≤ 1048576 := by have := cost_len ByteArray.size m.names; unfold costModel at hcost; omega
  have ht : ∀ t ∈ m.trees, t.length ≤ 1048576 := fun t htm => by have := costL_mem List.length htm; omega
  have hns : ∀ s ∈ m.names, s.size ≤ 9223372036854775807 := fun s hsm => by
    have h1 := costL_mem ByteArray.size hsm
    have h2 := cost_costL ByteArray.size m.names
    unfold costModel at hcost
    omega
  refine .inl ⟨_, _, _, toModel_spec m hsm, rfl, ?_⟩
  (conv => whnf)
  refine .inl ⟨_, _, _, spec_Reach_spec m hn hns hs hl ht, rfl, ?_⟩
  (conv => whnf)
  refine .inl ⟨_, _, _, toModel_spec m hsm, rfl, ?_⟩
  (conv => whnf)
  refine .inl ⟨_, _, _, impl_Reach_spec m hn hns hs hl ht, rfl, ?_⟩
  generalize reachM m = p
  obtain ⟨a, b⟩ := p
  have ee : ∀ x : Int, iEq x x = true := fun x => decide_eq_true rfl
  (conv => whnf)
  rw [ee]
  (conv => whnf)
  rw [ee]
  (conv => whnf)
  refine tri_every hT hmix [39] { t := [(39, ab (bNot true))], h := [], n := 0, N := 40 } rfl ?_ ?_
  · repeat' first
      | (refine anyV_one rfl ?_; (conv => whnf))
      | (refine anyV_two rfl ?_ ?_ <;> (conv => whnf))
      | (refine anyV_end rfl ?_; (conv => whnf); first | done | (simp only [partOf_none]; done) | (simp only [partOf_none]; rfl))
      | (refine .inl ⟨_, _, _, toModel_spec m hsm, rfl, ?_⟩; (conv => whnf))
      | (refine .inl ⟨_, _, _, eqModel_spec m hm.1, rfl, ?_⟩; (conv => whnf))
      | (refine .inr (.inl ⟨_, _, _, eqModel_spec m hm.1, rfl, trivial, ?_⟩); (conv => whnf))
  (conv => whnf)
end Go.H.S
