/- Library, part F: spans, signs. -/
import Derived.Test.YtpkpedaonmbeiaaLE
namespace Go.H.S
open Go Go.Proofs Go.H
attribute [local irreducible] Tri FnSpec FnSpecM
set_option maxRecDepth 100000
set_option linter.unusedSimpArgs false
set_option linter.unusedVariables false


def vAt (t : List Nd) (x : Int) : Int := match t[x.toNat]? with | some n => n.v | none => 0
def spanStep (t : List Nd) (node : Int) (acc : Int × Int × Bool) (i : Int) : Int × Int × Bool :=
  if node ∈ wayL t i then (if acc.2.2 then (min acc.1 (vAt t i), max acc.2.1 (vAt t i), true) else (vAt t i, vAt t i, true)) else acc
def spanL (t : List Nd) (node : Int) : Int × Int × Bool := (leavesK t 0).foldl (spanStep t node) (0, 0, false)
def badN (t : List Nd) (f sign : Int) (n : Nd) : Bool :=
  isF f n && ((spanL t n.l).2.2 && (spanL t n.r).2.2 && ((decide (sign = 1) && decide ((spanL t n.r).1 < (spanL t n.l).2.1)) || (decide (sign = -1) && decide ((spanL t n.l).1 < (spanL t n.r).2.1))))
def followsL (t : List Nd) (f sign : Int) : Bool := t.all fun n => !badN t f sign n
abbrev tup3 (x : Int × Int × Bool) : AV := .tup [(false, [.d (.int .i64 x.1)]), (false, [.d (.int .i64 x.2.1)]), (false, [.d (.bool x.2.2)])]


theorem impl_SpanOf_spec (t : List Nd) (node : Int) (hl : t.length ≤ 1048576) : FnSpec PR f_impl_SpanOf [aT t, ai node] (tup3 (spanL t node)) [] 0 := by
  refine FnSpec.intro hT p_impl_SpanOf rfl (by kernel_rfl) n_impl_SpanOf rfl ?_
  conv => whnf
  refine .inl ⟨_, _, _, impl_LeavesOf_spec t hl, rfl, ?_⟩
  (conv => whnf)
  have hll := leavesK_len t 0
  refine tri_loop hT [1, 2, 7, 8, 9, 14, 15, 16] (α := Nat × Int × Int × Bool) (fun x => { t := [(1, ai node), (2, .c (.ptr 0 0)), (7, ai x.2.1), (8, ai x.2.2.1), (9, ab x.2.2.2), (14, .c (.ref 1 0 none)), (15, ai (leavesK t 0).length), (16, ai x.1)], h := [(0, .box t_impl_Tree (cTr t)), (1, .arr t_int 1 0 true (eL cI (leavesK t 0)))], n := 2, N := 46 })
    (fun x => x.1 ≤ (leavesK t 0).length ∧ ((leavesK t 0).drop x.1).foldl (spanStep t node) x.2 = spanL t node) (fun x => (leavesK t 0).length - x.1) (0, 0, 0, false) (by ((conv => whnf); simp only [St.mk.injEq, List.cons.injEq, Prod.mk.injEq, AV.c.injEq, AV.agg.injEq, AV.tup.injEq, CV.d.injEq, D.int.injEq, D.bool.injEq, D.str.injEq, D.sl.injEq, Ent.arr.injEq, Ent.box.injEq, true_and, and_true, and_self, nInt_eq, Int.natCast_zero, dLen_eL, sLen_eq, lenRE_none])) ⟨Nat.zero_le _, rfl⟩ ?_
  intro ⟨k, lo, hi, fd⟩ ⟨hk, hf⟩
  dsimp only at hk hf
  (conv => whnf)
  refine ifB_i (fun h1 => ?_) (fun h1 => ?_) <;> (conv => whnf) <;> simp at h1
  · obtain ⟨x, hx⟩ := get_lt h1
    refine ref_at rfl (by simpa using h1) ?_
    (conv => whnf)
    refine ld_at (k := k) (by simp) hx ?_
    (conv => whnf)
    rw [drop_at hx, List.foldl_cons] at hf
    have hxr := leavesK_lt t 0 x (List.mem_of_getElem? hx)
    refine .inl ⟨_, _, _, impl_wayTo_spec t x (by omega), rfl, ?_⟩
    (conv => whnf)
    refine .inl ⟨_, _, _, slices_Contains_spec (wayL t x) node (by have := wayL_len t x; omega), rfl, ?_⟩
    (conv => whnf)
    refine ifB_i (fun h2 => ?_) (fun h2 => ?_) <;> (conv => whnf) <;> simp only [nInt_eq, Int.natCast_zero, dLen_eL, sLen_eq, nOf_eq, Int.toNat_natCast, nAdd_eq, nSub_eq, dLen_nil, dLen_cons, iLt_t, iLt_f, iLe_t, iLe_f, iEq_t, iEq_f, sEq_t, sEq_f, bNot_t, bNot_f, bAnd_t, bEq_t, bEq_f, Bool.not_eq_true, Bool.not_eq_false, Bool.true_eq_false, Bool.false_eq_true, decide_eq_true_eq, decide_eq_false_iff_not] at h2
    · rw [spanStep, if_neg h2] at hf
      refine ⟨(k + 1, lo, hi, fd), by dsimp only; omega, ⟨h1, hf⟩, ?_⟩
      ((conv => whnf); simp only [St.mk.injEq, List.cons.injEq, Prod.mk.injEq, AV.c.injEq, AV.agg.injEq, AV.tup.injEq, CV.d.injEq, D.int.injEq, D.bool.injEq, D.str.injEq, D.sl.injEq, Ent.arr.injEq, Ent.box.injEq, true_and, and_true, and_self, nInt_eq, Int.natCast_zero, dLen_eL, sLen_eq, wI h1 (by omega)])
    · obtain ⟨n, hn⟩ : ∃ n, t[x.toNat]? = some n := ⟨_, List.getElem?_eq_getElem (by omega)⟩
      have hv : vAt t x = n.v := by simp [vAt, hn]
      rw [spanStep, if_pos (by simpa using h2), hv] at hf
      refine idx_at (k := x.toNat) (by omega) hn ?_
      (conv => whnf)
      cases fd with
      | true =>
        (conv => whnf)
        refine ⟨(k + 1, min lo n.v, max hi n.v, true), by dsimp only; omega, ⟨h1, hf⟩, ?_⟩
        ((conv => whnf); simp only [St.mk.injEq, List.cons.injEq, Prod.mk.injEq, AV.c.injEq, AV.agg.injEq, AV.tup.injEq, CV.d.injEq, D.int.injEq, D.bool.injEq, D.str.injEq, D.sl.injEq, Ent.arr.injEq, Ent.box.injEq, true_and, and_true, and_self, nInt_eq, Int.natCast_zero, dLen_eL, sLen_eq, wI h1 (by omega)])
        simp [iMin_eq, iMax_eq]
      | false =>
        (conv => whnf)
        refine ⟨(k + 1, n.v, n.v, true), by dsimp only; omega, ⟨h1, hf⟩, ?_⟩
        ((conv => whnf); simp only [St.mk.injEq, List.cons.injEq, Prod.mk.injEq, AV.c.injEq, AV.agg.injEq, AV.tup.injEq, CV.d.injEq, D.int.injEq, D.bool.injEq, D.str.injEq, D.sl.injEq, Ent.arr.injEq, Ent.box.injEq, true_and, and_true, and_self, nInt_eq, Int.natCast_zero, dLen_eL, sLen_eq, wI h1 (by omega)])
        simp [iMin_eq, iMax_eq]
  · obtain rfl : k = (leavesK t 0).length := by omega
    simp at hf
    rw [← hf]

theorem spec_SpanOf_spec (t : List Nd) (node : Int) (hl : t.length ≤ 1048576) : FnSpec PR f_spec_SpanOf [aT t, ai node] (tup3 (spanL t node)) [] 0 := by
  refine FnSpec.intro hT p_spec_SpanOf rfl (by kernel_rfl) n_spec_SpanOf rfl ?_
  conv => whnf
  refine .inl ⟨_, _, _, spec_LeavesOf_spec t hl, rfl, ?_⟩
  (conv => whnf)
  have hll := leavesK_len t 0
  refine tri_loop hT [1, 2, 7, 8, 9, 10, 11] (α := Nat × Int × Int × Bool) (fun x => { t := [(1, ai node), (2, .c (.ptr 0 0)), (7, ai x.2.1), (8, ai x.2.2.1), (9, ab x.2.2.2), (10, .c (.ref 1 0 none)), (11, ai x.1)], h := [(0, .box t_impl_Tree (cTr t)), (1, .arr t_int 1 0 true (eL cI (leavesK t 0)))], n := 2, N := 52 })
    (fun x => x.1 ≤ (leavesK t 0).length ∧ ((leavesK t 0).drop x.1).foldl (spanStep t node) x.2 = spanL t node) (fun x => (leavesK t 0).length - x.1) (0, 0, 0, false) (by ((conv => whnf); simp only [St.mk.injEq, List.cons.injEq, Prod.mk.injEq, AV.c.injEq, AV.agg.injEq, AV.tup.injEq, CV.d.injEq, D.int.injEq, D.bool.injEq, D.str.injEq, D.sl.injEq, Ent.arr.injEq, Ent.box.injEq, true_and, and_true, and_self, nInt_eq, Int.natCast_zero, dLen_eL, sLen_eq, lenRE_none])) ⟨Nat.zero_le _, rfl⟩ ?_
  intro ⟨k, lo, hi, fd⟩ ⟨hk, hf⟩
  dsimp only at hk hf
  (conv => whnf)
  refine ifB_i (fun h1 => ?_) (fun h1 => ?_) <;> (conv => whnf) <;> simp at h1
  · obtain ⟨x, hx⟩ := get_lt h1
    rw [drop_at hx, List.foldl_cons] at hf
    have hxr := leavesK_lt t 0 x (List.mem_of_getElem? hx)
    have ki : nAdd (offR none) (nOf (k : Int)) = k := by simp
    have hr1 : k < lenRE (eL cI (leavesK t 0)) none := by simpa using h1
    have c1 := spec_WayTo_spec t x (by omega)
    have c2 := spec_l27Has_spec (wayL t x) node (by have := wayL_len t x; omega)
    refine tri_each hT hmix [1, 2, 7, 8, 9, 10, 11, 29] { t := [(1, ai node), (2, .c (.ptr 0 0)), (7, ai lo), (8, ai hi), (9, ab fd), (10, .c (.ref 1 0 none)), (11, ai k), (29, ab (bNot (decide (node ∈ wayL t x))))], h := [(0, .box t_impl_Tree (cTr t)), (1, .arr t_int 1 0 true (eL cI (leavesK t 0)))], n := 2, N := 52 } rfl ?_ ?_
    · (conv => whnf)
      repeat' first
        | (refine ref_at rfl hr1 ?_; (conv => whnf))
        | (refine ld_at ki hx ?_; (conv => whnf))
        | (refine .inl ⟨_, _, _, c1, rfl, ?_⟩; (conv => whnf))
        | (refine .inl ⟨_, _, _, c2, rfl, ?_⟩; (conv => whnf))
        | (refine And.intro ?_ ?_ <;> (conv => whnf))
        | rfl
    (conv => whnf)
    refine ifB_i (fun h2 => ?_) (fun h2 => ?_) <;> (conv => whnf) <;> simp only [nInt_eq, Int.natCast_zero, dLen_eL, sLen_eq, nOf_eq, Int.toNat_natCast, nAdd_eq, nSub_eq, dLen_nil, dLen_cons, iLt_t, iLt_f, iLe_t, iLe_f, iEq_t, iEq_f, sEq_t, sEq_f, bNot_t, bNot_f, bAnd_t, bEq_t, bEq_f, Bool.not_eq_true, Bool.not_eq_false, Bool.true_eq_false, Bool.false_eq_true, decide_eq_true_eq, decide_eq_false_iff_not] at h2
    · rw [spanStep, if_neg h2] at hf
      refine ⟨(k + 1, lo, hi, fd), by dsimp only; omega, ⟨h1, hf⟩, ?_⟩
      ((conv => whnf); simp only [St.mk.injEq, List.cons.injEq, Prod.mk.injEq, AV.c.injEq, AV.agg.injEq, AV.tup.injEq, CV.d.injEq, D.int.injEq, D.bool.injEq, D.str.injEq, D.sl.injEq, Ent.arr.injEq, Ent.box.injEq, true_and, and_true, and_self, nInt_eq, Int.natCast_zero, dLen_eL, sLen_eq, wI h1 (by omega)])
    · obtain ⟨n, hn⟩ : ∃ n, t[x.toNat]? = some n := ⟨_, List.getElem?_eq_getElem (by omega)⟩
      have hv : vAt t x = n.v := by simp [vAt, hn]
      rw [spanStep, if_pos (by simpa using h2), hv] at hf
      refine tri_conf hT hmix (by kernel_rfl) ?_
      (conv => whnf)
      refine ref_at rfl hr1 ?_
      (conv => whnf)
      refine ld_at ki hx ?_
      (conv => whnf)
      refine idx_at (k := x.toNat) (by omega) hn ?_
      (conv => whnf)
      cases fd with
      | true =>
        (conv => whnf)
        refine .inl ⟨_, _, _, spec_l1Min_spec lo n.v, rfl, ?_⟩
        (conv => whnf)
        refine .inl ⟨_, _, _, spec_l1Max_spec hi n.v, rfl, ?_⟩
        (conv => whnf)
        refine ⟨(k + 1, min lo n.v, max hi n.v, true), by dsimp only; omega, ⟨h1, hf⟩, ?_⟩
        ((conv => whnf); simp only [St.mk.injEq, List.cons.injEq, Prod.mk.injEq, AV.c.injEq, AV.agg.injEq, AV.tup.injEq, CV.d.injEq, D.int.injEq, D.bool.injEq, D.str.injEq, D.sl.injEq, Ent.arr.injEq, Ent.box.injEq, true_and, and_true, and_self, nInt_eq, Int.natCast_zero, dLen_eL, sLen_eq, wI h1 (by omega)])
      | false =>
        (conv => whnf)
        refine .inl ⟨_, _, _, spec_l1Min_spec n.v n.v, rfl, ?_⟩
        (conv => whnf)
        refine .inl ⟨_, _, _, spec_l1Max_spec n.v n.v, rfl, ?_⟩
        (conv => whnf)
        refine ⟨(k + 1, n.v, n.v, true), by dsimp only; omega, ⟨h1, hf⟩, ?_⟩
        ((conv => whnf); simp only [St.mk.injEq, List.cons.injEq, Prod.mk.injEq, AV.c.injEq, AV.agg.injEq, AV.tup.injEq, CV.d.injEq, D.int.injEq, D.bool.injEq, D.str.injEq, D.sl.injEq, Ent.arr.injEq, Ent.box.injEq, true_and, and_true, and_self, nInt_eq, Int.natCast_zero, dLen_eL, sLen_eq, wI h1 (by omega)])
        simp
  · obtain rfl : k = (leavesK t 0).length := by omega
    simp at hf
    rw [← hf]

theorem spec_TreeFollows_spec (t : List Nd) (f sign : Int) (hl : t.length ≤ 1048576) : FnSpec PR f_spec_TreeFollows [aT t, ai f, ai sign] (ab (followsL t f sign)) [] 0 := by
  refine FnSpec.intro hT p_spec_TreeFollows rfl (by kernel_rfl) n_spec_TreeFollows rfl ?_
  conv => whnf
  refine tri_loop hT [1, 2, 3, 7] (α := Nat) (fun x => { t := [(1, ai f), (2, ai sign), (3, .c (.ptr 0 0)), (7, ai x)], h := [(0, .box t_impl_Tree (cTr t))], n := 1, N := 74 })
    (fun x => x ≤ t.length ∧ (t.drop x).all (fun n => !badN t f sign n) = followsL t f sign) (fun x => t.length - x) 0 (by ((conv => whnf); simp only [St.mk.injEq, List.cons.injEq, Prod.mk.injEq, AV.c.injEq, AV.agg.injEq, AV.tup.injEq, CV.d.injEq, D.int.injEq, D.bool.injEq, D.str.injEq, D.sl.injEq, Ent.arr.injEq, Ent.box.injEq, true_and, and_true, and_self, nInt_eq, Int.natCast_zero, dLen_eL, sLen_eq])) ⟨Nat.zero_le _, rfl⟩ ?_
  intro k ⟨hk, hf⟩
  (conv => whnf)
  refine ifB_i (fun h1 => ?_) (fun h1 => ?_) <;> (conv => whnf) <;> simp at h1
  · obtain ⟨n, hn⟩ := get_lt h1
    refine idx_at (by simp) hn ?_
    (conv => whnf)
    rw [drop_at hn, List.all_cons] at hf
    refine .inl ⟨_, _, _, spec_l17Inner_spec n, rfl, ?_⟩
    (conv => whnf)
    have go : badN t f sign n = false → ∀ st', canonQ [1, 2, 3, 7] st' { t := [(1, ai f), (2, ai sign), (3, .c (.ptr 0 0)), (7, ai ((k + 1 : Nat) : Int))], h := [(0, .box t_impl_Tree (cTr t))], n := 1, N := 74 } →
        ∃ x', t.length - x' < t.length - k ∧ (x' ≤ t.length ∧ (t.drop x').all (fun n => !badN t f sign n) = followsL t f sign) ∧ canonQ [1, 2, 3, 7] st' { t := [(1, ai f), (2, ai sign), (3, .c (.ptr 0 0)), (7, ai (x' : Int))], h := [(0, .box t_impl_Tree (cTr t))], n := 1, N := 74 } := fun hb st' hc =>
      ⟨k + 1, by omega, ⟨h1, by rw [← hf, hb]; rfl⟩, hc⟩
    refine ifB_i (fun h2 => ?_) (fun h2 => ?_) <;> (conv => whnf) <;> simp only [nInt_eq, Int.natCast_zero, dLen_eL, sLen_eq, nOf_eq, Int.toNat_natCast, nAdd_eq, nSub_eq, dLen_nil, dLen_cons, iLt_t, iLt_f, iLe_t, iLe_f, iEq_t, iEq_f, sEq_t, sEq_f, bNot_t, bNot_f, bAnd_t, bEq_t, bEq_f, Bool.not_eq_true, Bool.not_eq_false, Bool.true_eq_false, Bool.false_eq_true] at h2
    · refine go (by simp [badN, isF, h2]) _ ?_
      ((conv => whnf); simp only [St.mk.injEq, List.cons.injEq, Prod.mk.injEq, AV.c.injEq, AV.agg.injEq, AV.tup.injEq, CV.d.injEq, D.int.injEq, D.bool.injEq, D.str.injEq, D.sl.injEq, Ent.arr.injEq, Ent.box.injEq, true_and, and_true, and_self, nInt_eq, Int.natCast_zero, dLen_eL, sLen_eq, wI h1 (by omega)])
    refine ifB_i (fun h3 => ?_) (fun h3 => ?_) <;> (conv => whnf) <;> simp only [nInt_eq, Int.natCast_zero, dLen_eL, sLen_eq, nOf_eq, Int.toNat_natCast, nAdd_eq, nSub_eq, dLen_nil, dLen_cons, iLt_t, iLt_f, iLe_t, iLe_f, iEq_t, iEq_f, sEq_t, sEq_f, bNot_t, bNot_f, bAnd_t, bEq_t, bEq_f, Bool.not_eq_true, Bool.not_eq_false, Bool.true_eq_false, Bool.false_eq_true] at h3
    · refine go (by simp [badN, isF, h3]) _ ?_
      ((conv => whnf); simp only [St.mk.injEq, List.cons.injEq, Prod.mk.injEq, AV.c.injEq, AV.agg.injEq, AV.tup.injEq, CV.d.injEq, D.int.injEq, D.bool.injEq, D.str.injEq, D.sl.injEq, Ent.arr.injEq, Ent.box.injEq, true_and, and_true, and_self, nInt_eq, Int.natCast_zero, dLen_eL, sLen_eq, wI h1 (by omega)])
    have hF : isF f n = true := by simp [isF, h2, h3]; rw [← h3]; exact h2
    have hw1 := wI h1 (by omega)
    refine .inl ⟨_, _, _, spec_SpanOf_spec t n.l hl, rfl, ?_⟩
    (conv => whnf)
    refine .inl ⟨_, _, _, spec_SpanOf_spec t n.r hl, rfl, ?_⟩
    have hbad : badN t f sign n = ((spanL t n.l).2.2 && (spanL t n.r).2.2 && ((decide (sign = 1) && decide ((spanL t n.r).1 < (spanL t n.l).2.1)) || (decide (sign = -1) && decide ((spanL t n.l).1 < (spanL t n.r).2.1)))) := by simp [badN, hF]
    generalize spanL t n.l = sl at hbad ⊢
    generalize spanL t n.r = sr at hbad ⊢
    obtain ⟨a1, a2, a3⟩ := sl
    obtain ⟨b1, b2, b3⟩ := sr
    (conv => whnf)
    cases a3 with
    | false =>
      refine go (by rw [hbad]; rfl) _ ?_
      ((conv => whnf); simp only [St.mk.injEq, List.cons.injEq, Prod.mk.injEq, AV.c.injEq, AV.agg.injEq, AV.tup.injEq, CV.d.injEq, D.int.injEq, D.bool.injEq, D.str.injEq, D.sl.injEq, Ent.arr.injEq, Ent.box.injEq, true_and, and_true, and_self, nInt_eq, Int.natCast_zero, dLen_eL, sLen_eq, wI h1 (by omega)])
    | true =>
    (conv => whnf)
    cases b3 with
    | false =>
      refine go (by rw [hbad]; rfl) _ ?_
      ((conv => whnf); simp only [St.mk.injEq, List.cons.injEq, Prod.mk.injEq, AV.c.injEq, AV.agg.injEq, AV.tup.injEq, CV.d.injEq, D.int.injEq, D.bool.injEq, D.str.injEq, D.sl.injEq, Ent.arr.injEq, Ent.box.injEq, true_and, and_true, and_self, nInt_eq, Int.natCast_zero, dLen_eL, sLen_eq, wI h1 (by omega)])
    | true =>
    (conv => whnf)
    have hbad : badN t f sign n = ((decide (sign = 1) && decide (b1 < a2)) || (decide (sign = -1) && decide (a1 < b2))) := by rw [hbad]; simp
    clear h1 h2 h3 hF hn
    repeat' (refine ifB_i ?_ ?_ <;> intro hx <;> (conv => whnf) <;> simp only [nInt_eq, Int.natCast_zero, dLen_eL, sLen_eq, nOf_eq, Int.toNat_natCast, nAdd_eq, nSub_eq, dLen_nil, dLen_cons, iLt_t, iLt_f, iLe_t, iLe_f, iEq_t, iEq_f, sEq_t, sEq_f, bNot_t, bNot_f, bAnd_t, bEq_t, bEq_f, Bool.not_eq_true, Bool.not_eq_false, Bool.true_eq_false, Bool.false_eq_true] at hx)
    all_goals first
      | (refine go (by rw [hbad]; simp_all <;> omega) _ ?_; ((conv => whnf); simp only [St.mk.injEq, List.cons.injEq, Prod.mk.injEq, AV.c.injEq, AV.agg.injEq, AV.tup.injEq, CV.d.injEq, D.int.injEq, D.bool.injEq, D.str.injEq, D.sl.injEq, Ent.arr.injEq, Ent.box.injEq, true_and, and_true, and_self, nInt_eq, Int.natCast_zero, dLen_eL, sLen_eq, hw1]); done)
      | (have hb : badN t f sign n = true := by rw [hbad]; simp_all
         rw [← hf, hb]; rfl)
  · obtain rfl : k = t.length := by omega
    simp at hf
    ((conv => whnf); simp only [St.mk.injEq, List.cons.injEq, Prod.mk.injEq, AV.c.injEq, AV.agg.injEq, AV.tup.injEq, CV.d.injEq, D.int.injEq, D.bool.injEq, D.str.injEq, D.sl.injEq, Ent.arr.injEq, Ent.box.injEq, true_and, and_true, and_self, nInt_eq, Int.natCast_zero, dLen_eL, sLen_eq, ← hf])

theorem impl_TreeFollows_spec (t : List Nd) (f sign : Int) (hl : t.length ≤ 1048576) : FnSpec PR f_impl_TreeFollows [aT t, ai f, ai sign] (ab (followsL t f sign)) [] 0 := by
  refine FnSpec.intro hT p_impl_TreeFollows rfl (by kernel_rfl) n_impl_TreeFollows rfl ?_
  conv => whnf
  refine tri_loop hT [1, 2, 3, 16, 17, 18] (α := Nat) (fun x => { t := [(1, ai f), (2, ai sign), (3, .c (.ptr 0 0)), (16, aNs t), (17, ai t.length), (18, ai x)], h := [(0, .box t_impl_Tree (cTr t))], n := 1, N := 69 })
    (fun x => x ≤ t.length ∧ (t.drop x).all (fun n => !badN t f sign n) = followsL t f sign) (fun x => t.length - x) 0 (by ((conv => whnf); simp only [St.mk.injEq, List.cons.injEq, Prod.mk.injEq, AV.c.injEq, AV.agg.injEq, AV.tup.injEq, CV.d.injEq, D.int.injEq, D.bool.injEq, D.str.injEq, D.sl.injEq, Ent.arr.injEq, Ent.box.injEq, true_and, and_true, and_self, nInt_eq, Int.natCast_zero, dLen_eL, sLen_eq])) ⟨Nat.zero_le _, rfl⟩ ?_
  intro k ⟨hk, hf⟩
  (conv => whnf)
  refine ifB_i (fun h1 => ?_) (fun h1 => ?_) <;> (conv => whnf) <;> simp at h1
  · obtain ⟨n, hn⟩ := get_lt h1
    refine idx_at (by simp) hn ?_
    (conv => whnf)
    rw [drop_at hn, List.all_cons] at hf
    refine .inl ⟨_, _, _, impl_isLeaf_spec n, rfl, ?_⟩
    (conv => whnf)
    have go : badN t f sign n = false → ∀ st', canonQ [1, 2, 3, 16, 17, 18] st' { t := [(1, ai f), (2, ai sign), (3, .c (.ptr 0 0)), (16, aNs t), (17, ai t.length), (18, ai ((k + 1 : Nat) : Int))], h := [(0, .box t_impl_Tree (cTr t))], n := 1, N := 69 } →
        ∃ x', t.length - x' < t.length - k ∧ (x' ≤ t.length ∧ (t.drop x').all (fun n => !badN t f sign n) = followsL t f sign) ∧ canonQ [1, 2, 3, 16, 17, 18] st' { t := [(1, ai f), (2, ai sign), (3, .c (.ptr 0 0)), (16, aNs t), (17, ai t.length), (18, ai (x' : Int))], h := [(0, .box t_impl_Tree (cTr t))], n := 1, N := 69 } := fun hb st' hc =>
      ⟨k + 1, by omega, ⟨h1, by rw [← hf, hb]; rfl⟩, hc⟩
    refine ifB_i (fun h2 => ?_) (fun h2 => ?_) <;> (conv => whnf) <;> simp only [nInt_eq, Int.natCast_zero, dLen_eL, sLen_eq, nOf_eq, Int.toNat_natCast, nAdd_eq, nSub_eq, dLen_nil, dLen_cons, iLt_t, iLt_f, iLe_t, iLe_f, iEq_t, iEq_f, sEq_t, sEq_f, bNot_t, bNot_f, bAnd_t, bEq_t, bEq_f, Bool.not_eq_true, Bool.not_eq_false, Bool.true_eq_false, Bool.false_eq_true] at h2
    · refine go (by simp [badN, isF, h2]) _ ?_
      ((conv => whnf); simp only [St.mk.injEq, List.cons.injEq, Prod.mk.injEq, AV.c.injEq, AV.agg.injEq, AV.tup.injEq, CV.d.injEq, D.int.injEq, D.bool.injEq, D.str.injEq, D.sl.injEq, Ent.arr.injEq, Ent.box.injEq, true_and, and_true, and_self, nInt_eq, Int.natCast_zero, dLen_eL, sLen_eq, wI h1 (by omega)])
    refine ifB_i (fun h3 => ?_) (fun h3 => ?_) <;> (conv => whnf) <;> simp only [nInt_eq, Int.natCast_zero, dLen_eL, sLen_eq, nOf_eq, Int.toNat_natCast, nAdd_eq, nSub_eq, dLen_nil, dLen_cons, iLt_t, iLt_f, iLe_t, iLe_f, iEq_t, iEq_f, sEq_t, sEq_f, bNot_t, bNot_f, bAnd_t, bEq_t, bEq_f, Bool.not_eq_true, Bool.not_eq_false, Bool.true_eq_false, Bool.false_eq_true] at h3
    · refine go (by simp [badN, isF, h3]) _ ?_
      ((conv => whnf); simp only [St.mk.injEq, List.cons.injEq, Prod.mk.injEq, AV.c.injEq, AV.agg.injEq, AV.tup.injEq, CV.d.injEq, D.int.injEq, D.bool.injEq, D.str.injEq, D.sl.injEq, Ent.arr.injEq, Ent.box.injEq, true_and, and_true, and_self, nInt_eq, Int.natCast_zero, dLen_eL, sLen_eq, wI h1 (by omega)])
    have hF : isF f n = true := by simp [isF, h2, h3]; rw [← h3]; exact h2
    have hw1 := wI h1 (by omega)
    refine .inl ⟨_, _, _, impl_SpanOf_spec t n.l hl, rfl, ?_⟩
    (conv => whnf)
    refine .inl ⟨_, _, _, impl_SpanOf_spec t n.r hl, rfl, ?_⟩
    have hbad : badN t f sign n = ((spanL t n.l).2.2 && (spanL t n.r).2.2 && ((decide (sign = 1) && decide ((spanL t n.r).1 < (spanL t n.l).2.1)) || (decide (sign = -1) && decide ((spanL t n.l).1 < (spanL t n.r).2.1)))) := by simp [badN, hF]
    generalize spanL t n.l = sl at hbad ⊢
    generalize spanL t n.r = sr at hbad ⊢
    obtain ⟨a1, a2, a3⟩ := sl
    obtain ⟨b1, b2, b3⟩ := sr
    (conv => whnf)
    cases a3 with
    | false =>
      refine go (by rw [hbad]; rfl) _ ?_
      ((conv => whnf); simp only [St.mk.injEq, List.cons.injEq, Prod.mk.injEq, AV.c.injEq, AV.agg.injEq, AV.tup.injEq, CV.d.injEq, D.int.injEq, D.bool.injEq, D.str.injEq, D.sl.injEq, Ent.arr.injEq, Ent.box.injEq, true_and, and_true, and_self, nInt_eq, Int.natCast_zero, dLen_eL, sLen_eq, wI h1 (by omega)])
    | true =>
    (conv => whnf)
    cases b3 with
    | false =>
      refine go (by rw [hbad]; rfl) _ ?_
      ((conv => whnf); simp only [St.mk.injEq, List.cons.injEq, Prod.mk.injEq, AV.c.injEq, AV.agg.injEq, AV.tup.injEq, CV.d.injEq, D.int.injEq, D.bool.injEq, D.str.injEq, D.sl.injEq, Ent.arr.injEq, Ent.box.injEq, true_and, and_true, and_self, nInt_eq, Int.natCast_zero, dLen_eL, sLen_eq, wI h1 (by omega)])
    | true =>
    (conv => whnf)
    have hbad : badN t f sign n = ((decide (sign = 1) && decide (b1 < a2)) || (decide (sign = -1) && decide (a1 < b2))) := by rw [hbad]; simp
    clear h1 h2 h3 hF hn
    repeat' (refine ifB_i ?_ ?_ <;> intro hx <;> (conv => whnf) <;> simp only [nInt_eq, Int.natCast_zero, dLen_eL, sLen_eq, nOf_eq, Int.toNat_natCast, nAdd_eq, nSub_eq, dLen_nil, dLen_cons, iLt_t, iLt_f, iLe_t, iLe_f, iEq_t, iEq_f, sEq_t, sEq_f, bNot_t, bNot_f, bAnd_t, bEq_t, bEq_f, Bool.not_eq_true, Bool.not_eq_false, Bool.true_eq_false, Bool.false_eq_true] at hx)
    all_goals first
      | (refine go (by rw [hbad]; simp_all <;> omega) _ ?_; ((conv => whnf); simp only [St.mk.injEq, List.cons.injEq, Prod.mk.injEq, AV.c.injEq, AV.agg.injEq, AV.tup.injEq, CV.d.injEq, D.int.injEq, D.bool.injEq, D.str.injEq, D.sl.injEq, Ent.arr.injEq, Ent.box.injEq, true_and, and_true, and_self, nInt_eq, Int.natCast_zero, dLen_eL, sLen_eq, hw1]); done)
      | (have hb : badN t f sign n = true := by rw [hbad]; simp_all
         rw [← hf, hb]; rfl)
  · obtain rfl : k = t.length := by omega
    simp at hf
    ((conv => whnf); simp only [St.mk.injEq, List.cons.injEq, Prod.mk.injEq, AV.c.injEq, AV.agg.injEq, AV.tup.injEq, CV.d.injEq, D.int.injEq, D.bool.injEq, D.str.injEq, D.sl.injEq, Ent.arr.injEq, Ent.box.injEq, true_and, and_true, and_self, nInt_eq, Int.natCast_zero, dLen_eL, sLen_eq, ← hf])
end Go.H.S
namespace Go.H.S
open Go Go.Proofs Go.H
attribute [local irreducible] Tri FnSpec FnSpecM
set_option maxRecDepth 100000
set_option linter.unusedSimpArgs false
set_option linter.unusedVariables false

def brought (x lo hi : Int) : Int := if x < lo then lo else if hi < x then hi else x

theorem spec_Brought_spec (x lo hi : Int) : FnSpec PR f_spec_Brought [ai x, ai lo, ai hi] (ai (brought x lo hi)) [] 0 := by
  refine FnSpec.intro hT p_spec_Brought rfl (by kernel_rfl) n_spec_Brought rfl ?_
  conv => whnf
  refine ifB_i (fun h => ?_) (fun h => ?_) <;> (conv => whnf) <;> simp only [nInt_eq, Int.natCast_zero, dLen_eL, sLen_eq, nOf_eq, Int.toNat_natCast, nAdd_eq, nSub_eq, dLen_nil, dLen_cons, iLt_t, iLt_f, iLe_t, iLe_f, iEq_t, iEq_f, sEq_t, sEq_f, bNot_t, bNot_f, bAnd_t, bEq_t, bEq_f, Bool.not_eq_true, Bool.not_eq_false, Bool.true_eq_false, Bool.false_eq_true] at h
  · ((conv => whnf); simp only [St.mk.injEq, List.cons.injEq, Prod.mk.injEq, AV.c.injEq, AV.agg.injEq, AV.tup.injEq, CV.d.injEq, D.int.injEq, D.bool.injEq, D.str.injEq, D.sl.injEq, Ent.arr.injEq, Ent.box.injEq, true_and, and_true, and_self, nInt_eq, Int.natCast_zero, dLen_eL, sLen_eq])
    simp only [brought]
    rw [if_pos (by omega)]
  · refine ifB_i (fun h2 => ?_) (fun h2 => ?_) <;> (conv => whnf) <;> simp only [nInt_eq, Int.natCast_zero, dLen_eL, sLen_eq, nOf_eq, Int.toNat_natCast, nAdd_eq, nSub_eq, dLen_nil, dLen_cons, iLt_t, iLt_f, iLe_t, iLe_f, iEq_t, iEq_f, sEq_t, sEq_f, bNot_t, bNot_f, bAnd_t, bEq_t, bEq_f, Bool.not_eq_true, Bool.not_eq_false, Bool.true_eq_false, Bool.false_eq_true] at h2 <;> ((conv => whnf); simp only [St.mk.injEq, List.cons.injEq, Prod.mk.injEq, AV.c.injEq, AV.agg.injEq, AV.tup.injEq, CV.d.injEq, D.int.injEq, D.bool.injEq, D.str.injEq, D.sl.injEq, Ent.arr.injEq, Ent.box.injEq, true_and, and_true, and_self, nInt_eq, Int.natCast_zero, dLen_eL, sLen_eq]) <;> simp only [brought]
    · rw [if_neg (by omega), if_pos (by omega)]
    · rw [if_neg (by omega), if_neg (by omega)]

def depthK (t : List Nd) : Nat → Int
  | 0 => -1
  | k + 1 => max (depthK t k) (levelL t k)
theorem spec_DepthOf_spec (t : List Nd) (hl : t.length ≤ 1048576) : FnSpec PR f_spec_DepthOf [aT t] (ai (depthK t t.length)) [] 0 := by
  refine FnSpec.intro hT p_spec_DepthOf rfl (by kernel_rfl) n_spec_DepthOf rfl ?_
  conv => whnf
  refine tri_loop hT [1, 3, 4] (α := Nat) (fun x => { t := [(1, .c (.ptr 0 0)), (3, ai (depthK t x)), (4, ai x)], h := [(0, .box t_impl_Tree (cTr t))], n := 1, N := 18 })
    (fun x => x ≤ t.length) (fun x => t.length - x) 0 (by ((conv => whnf); simp only [St.mk.injEq, List.cons.injEq, Prod.mk.injEq, AV.c.injEq, AV.agg.injEq, AV.tup.injEq, CV.d.injEq, D.int.injEq, D.bool.injEq, D.str.injEq, D.sl.injEq, Ent.arr.injEq, Ent.box.injEq, true_and, and_true, and_self, nInt_eq, Int.natCast_zero, dLen_eL, sLen_eq, depthK])) (Nat.zero_le _) ?_
  intro k hk
  (conv => whnf)
  refine ifB_i (fun h1 => ?_) (fun h1 => ?_) <;> (conv => whnf) <;> simp at h1
  · refine .inl ⟨_, _, _, spec_LevelOf_spec t k (by omega), rfl, ?_⟩
    (conv => whnf)
    refine .inl ⟨_, _, _, spec_l1Max_spec _ _, rfl, ?_⟩
    (conv => whnf)
    refine ⟨k + 1, by omega, h1, ?_⟩
    ((conv => whnf); simp only [St.mk.injEq, List.cons.injEq, Prod.mk.injEq, AV.c.injEq, AV.agg.injEq, AV.tup.injEq, CV.d.injEq, D.int.injEq, D.bool.injEq, D.str.injEq, D.sl.injEq, Ent.arr.injEq, Ent.box.injEq, true_and, and_true, and_self, nInt_eq, Int.natCast_zero, dLen_eL, sLen_eq, wI h1 (by omega), depthK])
  · obtain rfl : k = t.length := by omega
    (conv => whnf)

theorem spec_l6Value_spec (x : Int) : FnSpec PR f_spec_l6Value [ai x] (ab (decide (-2147483647 ≤ x ∧ x ≤ 2147483647))) [] 0 := by
  refine FnSpec.intro hT p_spec_l6Value rfl (by kernel_rfl) n_spec_l6Value rfl ?_
  conv => whnf
  refine .inl ⟨_, _, _, spec_l1In_spec _ _ _, rfl, ?_⟩
  (conv => whnf)

theorem spec_l14Leaf_spec (x : Int) : FnSpec PR f_spec_l14Leaf [ai x] (ab (decide (-1099511627776 ≤ x ∧ x ≤ 1099511627776))) [] 0 := by
  refine FnSpec.intro hT p_spec_l14Leaf rfl (by kernel_rfl) n_spec_l14Leaf rfl ?_
  conv => whnf
  refine .inl ⟨_, _, _, spec_l1In_spec _ _ _, rfl, ?_⟩
  (conv => whnf)
end Go.H.S
