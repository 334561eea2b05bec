/- Library, part DE: where a row ends. -/
import Derived.Test.YtpkpedaonmbeiaaLDD
import Derived.Test.YtpkpedaonmbeiaaLU
namespace Go.H.S
open Go Go.Proofs Go.H
attribute [local irreducible] Tri FnSpec FnSpecM FnSpecX FnSpecJ FnSpecB
set_option maxRecDepth 100000
set_option linter.unusedSimpArgs false
set_option linter.unusedVariables false


def rowAt (row : List Int) (f : Int) : Int := (row[f.toNat]?).getD 0
def goL (row : List Int) (n : Nd) : Bool := iLe (rowAt row n.f) n.c
def routeL (t : List Nd) (row : List Int) : Nat → Int → Option (List Int)
  | 0, _ => none
  | m + 1, x => if 0 ≤ x then match t[x.toNat]? with
      | none => none
      | some n => if n.f = -1 then some [x] else if 0 ≤ n.f ∧ n.f ≤ (row.length : Int) - 1 then (routeL t row m (if goL row n = true then n.l else n.r)).map (x :: ·) else none
    else none

def resR : Option (List Int) → AV
  | none => .c (.nl 0)
  | some _ => .c (.ref 0 0 none)
def entsR : Option (List Int) → List (Nat × Ent)
  | none => []
  | some l => [(0, .arr t_int 1 0 true (eL cI l))]
def numR : Option (List Int) → Nat
  | none => 0
  | some _ => 1
set_option maxHeartbeats 1000000 in
theorem impl_route_spec (t : List Nd) (row : List Int) (hl : t.length ≤ 1048576) (hr : row.length ≤ 1048576) : FnSpecX PR f_impl_route [aT t, aIs row] (Option (List Int)) (fun x => x = routeL t row (t.length + 1) 0) resR entsR numR := by
  refine FnSpecX.intro hT p_impl_route rfl (by kernel_rfl) n_impl_route rfl ?_
  (conv => whnf)
  refine tri_loop hT [1, 2, 5, 6, 12, 13] (α := Nat × Int × List Int) (fun x => { t := [(1, aIs row), (2, .c (.ptr 0 0)), (5, .c (.ref 1 0 none)), (6, ai x.2.1), (12, ai (t.length + 1 : Nat)), (13, ai x.1)], h := [(0, .box t_impl_Tree (cTr t)), (1, .arr t_int 1 0 true (eL cI x.2.2))], n := 2, N := 57 })
    (fun x => x.1 ≤ t.length + 1 ∧ x.2.2.length ≤ x.1 ∧ (routeL t row (t.length + 1 - x.1) x.2.1).map (x.2.2 ++ ·) = routeL t row (t.length + 1) 0) (fun x => t.length + 1 - x.1) (0, 0, []) (by ((conv => whnf); simp only [St.mk.injEq, List.cons.injEq, Prod.mk.injEq, AV.c.injEq, AV.agg.injEq, AV.tup.injEq, CV.d.injEq, D.int.injEq, D.bool.injEq, D.str.injEq, D.sl.injEq, Ent.arr.injEq, Ent.box.injEq, true_and, and_true, and_self, nInt_eq, Int.natCast_zero, dLen_eL, sLen_eq, eL_nil]); exact wAdd64 (by omega) (by omega)) ⟨by simp, by simp, by simp⟩ ?_
  intro ⟨k, x, o⟩ ⟨hk, ho, he⟩
  dsimp only at hk ho he
  (conv => whnf)
  refine ifB_i (fun h1 => ?_) (fun h1 => ?_) <;> (conv => whnf) <;> simp only [nInt_eq, Int.natCast_zero, dLen_eL, sLen_eq, nOf_eq, Int.toNat_natCast, nAdd_eq, nSub_eq, dLen_nil, dLen_cons, iLt_t, iLt_f, iLe_t, iLe_f, iEq_t, iEq_f, sEq_t, sEq_f, bNot_t, bNot_f, bAnd_t, bEq_t, bEq_f, Bool.not_eq_true, Bool.not_eq_false, Bool.true_eq_false, Bool.false_eq_true] at h1
  · obtain ⟨m, hm⟩ : ∃ m, t.length + 1 - k = m + 1 := ⟨t.length - k, by omega⟩
    rw [hm, routeL] at he
    rw [show nInt (dLen (eL cN t)) = (t.length : Int) by simp]
    rw [show wSub .i64 (t.length : Int) 1 = (t.length : Int) - 1 from wSub64 (by omega) (by omega)]
    refine .inl ⟨_, _, _, impl_within_spec _ _ _, rfl, ?_⟩
    (conv => whnf)
    refine ifB_i (fun h2 => ?_) (fun h2 => ?_) <;> (conv => whnf)
    · simp at h2
      refine ⟨none, ?_, ?_⟩
      · rw [← he]
        split
        · rename_i h3
          have : t[x.toNat]? = none := List.getElem?_eq_none (by have := h2 h3; omega)
          simp [this]
        · rfl
      · (conv => whnf)
        rfl
    · simp at h2
      obtain ⟨j, rfl⟩ : ∃ j : Nat, x = j := ⟨x.toNat, by omega⟩
      obtain ⟨n, hn⟩ := get_lt (show j < t.length by omega)
      rw [if_pos h2.1, show (j : Int).toNat = j by simp, hn] at he
      dsimp only at he
      refine idx_at (by simp) hn ?_
      (conv => whnf)
      refine And.intro (by unfold Fits; simp; omega) ?_
      (conv => whnf)
      refine .inl ⟨_, _, _, impl_isLeaf_spec n, rfl, ?_⟩
      (conv => whnf)
      refine ifB_i (fun h3 => ?_) (fun h3 => ?_) <;> (conv => whnf) <;> simp only [nInt_eq, Int.natCast_zero, dLen_eL, sLen_eq, nOf_eq, Int.toNat_natCast, nAdd_eq, nSub_eq, dLen_nil, dLen_cons, iLt_t, iLt_f, iLe_t, iLe_f, iEq_t, iEq_f, sEq_t, sEq_f, bNot_t, bNot_f, bAnd_t, bEq_t, bEq_f, Bool.not_eq_true, Bool.not_eq_false, Bool.true_eq_false, Bool.false_eq_true] at h3
      · rw [if_pos h3] at he
        refine ⟨some (o ++ [(j : Int)]), he, ?_⟩
        ((conv => whnf); simp only [St.mk.injEq, List.cons.injEq, Prod.mk.injEq, AV.c.injEq, AV.agg.injEq, AV.tup.injEq, CV.d.injEq, D.int.injEq, D.bool.injEq, D.str.injEq, D.sl.injEq, Ent.arr.injEq, Ent.box.injEq, true_and, and_true, and_self, nInt_eq, Int.natCast_zero, dLen_eL, sLen_eq])
        refine ⟨rfl, ?_, rfl⟩
        rw [entsR, ← eL_app]
        rfl
      · rw [if_neg h3] at he
        refine .inl ⟨_, _, _, impl_within_spec _ _ _, rfl, ?_⟩
        (conv => whnf)
        have er : wSub .i64 (nInt (dLen (eL cI row))) 1 = (row.length : Int) - 1 := by rw [show nInt (dLen (eL cI row)) = (row.length : Int) by simp]; exact wSub64 (by omega) (by omega)
        refine ifB_i (fun h4 => ?_) (fun h4 => ?_) <;> (conv => whnf)
        · rw [er] at h4
          simp at h4
          refine ⟨none, ?_, ?_⟩
          · rw [if_neg (by omega)] at he
            exact he
          · (conv => whnf)
            rfl
        · rw [er] at h4
          simp at h4
          rw [if_pos (by omega)] at he
          obtain ⟨q, hq⟩ : ∃ q : Nat, n.f = q := ⟨n.f.toNat, by omega⟩
          obtain ⟨v, hv⟩ := get_lt (show q < row.length by omega)
          have hg : goL row n = iLe v n.c := by simp [goL, rowAt, hq, hv]
          refine tri_conf hT hmix (by kernel_rfl) ?_
          (conv => whnf)
          repeat' (first | (refine And.intro (fun q => ?_) (fun q => ?_) <;> cases q <;> (conv => whnf)) | fail)
          rw [hq]
          refine idx_at (by simp) hv ?_
          (conv => whnf)
          repeat' (first | (refine And.intro (fun q => ?_) (fun q => ?_) <;> cases q <;> (conv => whnf)) | fail)
          have hm2 : t.length + 1 - (k + 1) = m := by omega
          rw [hg] at he
          refine ifB_i (fun h5 => ?_) (fun h5 => ?_) <;> (conv => whnf)
          · refine ⟨(k + 1, n.l, o ++ [(j : Int)]), by dsimp only; omega, ⟨by dsimp only; omega, by simp; omega, ?_⟩, ?_⟩
            · dsimp only
              rw [hm2, ← he, if_pos h5]
              cases routeL t row m n.l <;> simp
            · ((conv => whnf); simp only [St.mk.injEq, List.cons.injEq, Prod.mk.injEq, AV.c.injEq, AV.agg.injEq, AV.tup.injEq, CV.d.injEq, D.int.injEq, D.bool.injEq, D.str.injEq, D.sl.injEq, Ent.arr.injEq, Ent.box.injEq, true_and, and_true, and_self, nInt_eq, Int.natCast_zero, dLen_eL, sLen_eq])
              refine ⟨wI (show k < t.length + 1 by omega) (by omega), ?_⟩
              rw [← eL_app]
              rfl
          · refine ⟨(k + 1, n.r, o ++ [(j : Int)]), by dsimp only; omega, ⟨by dsimp only; omega, by simp; omega, ?_⟩, ?_⟩
            · dsimp only
              rw [hm2, ← he, if_neg (by simp [h5])]
              cases routeL t row m n.r <;> simp
            · ((conv => whnf); simp only [St.mk.injEq, List.cons.injEq, Prod.mk.injEq, AV.c.injEq, AV.agg.injEq, AV.tup.injEq, CV.d.injEq, D.int.injEq, D.bool.injEq, D.str.injEq, D.sl.injEq, Ent.arr.injEq, Ent.box.injEq, true_and, and_true, and_self, nInt_eq, Int.natCast_zero, dLen_eL, sLen_eq])
              refine ⟨wI (show k < t.length + 1 by omega) (by omega), ?_⟩
              rw [← eL_app]
              rfl
  · have : t.length + 1 - k = 0 := by omega
    rw [this] at he
    refine ⟨none, he, ?_⟩
    (conv => whnf)
    rfl

def endL (t : List Nd) (row : List Int) : Int := match routeL t row (t.length + 1) 0 with
  | some l => l.getLast?.getD (-1)
  | none => -1
def evalL (t : List Nd) (row : List Int) : Int := if endL t row < 0 then 0 else match t[(endL t row).toNat]? with | some n => n.v | none => 0
theorem routeL_ends {t : List Nd} {row : List Int} : ∀ {m : Nat} {x : Int} {l : List Int}, routeL t row m x = some l → ∃ (k : Nat) (n : Nd), l.getLast? = some (k : Int) ∧ t[k]? = some n ∧ n.f = -1 ∧ Ends t (goL row) x k ∧ 0 < l.length ∧ l.length ≤ m
  | 0, x, l, h => by simp [routeL] at h
  | m + 1, x, l, h => by
    simp only [routeL] at h
    split at h
    · rename_i h0
      split at h
      · cases h
      · rename_i n hn
        obtain ⟨j, rfl⟩ : ∃ j : Nat, x = j := ⟨x.toNat, by omega⟩
        rw [show (j : Int).toNat = j by simp] at hn
        split at h
        · rename_i hf
          cases h
          exact ⟨j, n, by simp, hn, hf, .leaf hn hf, by simp, by simp⟩
        · rename_i hf
          split at h
          · simp only [Option.map_eq_some_iff] at h
            obtain ⟨r, hr, rfl⟩ := h
            obtain ⟨k, n', h1, h2, h3, h4, h5, h6⟩ := routeL_ends hr
            refine ⟨k, n', ?_, h2, h3, ?_, by simp, by simp; omega⟩
            · cases r with
              | nil => simp at h5
              | cons a b => simpa [List.getLast?_cons_cons] using h1
            · cases hg : goL row n with
              | true => rw [hg] at h4; exact .left hn hf hg h4
              | false => rw [hg] at h4; exact .right hn hf hg h4
          · cases h
    · cases h

theorem impl_RouteTo_spec (t : List Nd) (row : List Int) (hl : t.length ≤ 1048576) (hr : row.length ≤ 1048576) : FnSpec PR f_impl_RouteTo [aT t, aIs row] (ai (endL t row)) [] 0 := by
  refine FnSpec.intro hT p_impl_RouteTo rfl (by kernel_rfl) n_impl_RouteTo rfl ?_
  conv => whnf
  refine .inr ⟨_, _, _, _, _, impl_route_spec t row hl hr, fun x hx => ⟨by cases x <;> rfl, ?_⟩⟩
  cases x with
  | none =>
    (conv => whnf)
    rw [endL, ← hx]
  | some l =>
    (conv => whnf)
    obtain ⟨k, n, h1, h2, h3, h4, h5, h6⟩ := routeL_ends hx.symm
    have he : endL t row = (k : Int) := by rw [endL, ← hx]; simp [h1]
    rw [he]
    rw [show nInt (lenRE (eL cI l) none) = (l.length : Int) by simp [lenRE]]
    refine ifB_i (fun h7 => ?_) (fun h7 => ?_) <;> (conv => whnf) <;> simp only [nInt_eq, Int.natCast_zero, dLen_eL, sLen_eq, nOf_eq, Int.toNat_natCast, nAdd_eq, nSub_eq, dLen_nil, dLen_cons, iLt_t, iLt_f, iLe_t, iLe_f, iEq_t, iEq_f, sEq_t, sEq_f, bNot_t, bNot_f, bAnd_t, bEq_t, bEq_f, Bool.not_eq_true, Bool.not_eq_false, Bool.true_eq_false, Bool.false_eq_true] at h7
    · omega
    · rw [show nInt (lenRE (eL cI l) none) = (l.length : Int) by simp [lenRE]]
      rw [show wSub .i64 (l.length : Int) 1 = ((l.length - 1 : Nat) : Int) by rw [wSub64] <;> omega]
      refine ref_at rfl (by simp; omega) ?_
      (conv => whnf)
      refine ld_at (k := l.length - 1) (by simp) (by rw [← List.getLast?_eq_getElem?]; exact h1) ?_
      (conv => whnf)

theorem impl_EvalTree_spec (t : List Nd) (row : List Int) (hl : t.length ≤ 1048576) (hr : row.length ≤ 1048576) : FnSpec PR f_impl_EvalTree [aT t, aIs row] (ai (evalL t row)) [] 0 := by
  refine FnSpec.intro hT p_impl_EvalTree rfl (by kernel_rfl) n_impl_EvalTree rfl ?_
  conv => whnf
  refine .inl ⟨_, _, _, impl_RouteTo_spec t row hl hr, rfl, ?_⟩
  (conv => whnf)
  refine ifB_i (fun h1 => ?_) (fun h1 => ?_) <;> (conv => whnf) <;> simp only [nInt_eq, Int.natCast_zero, dLen_eL, sLen_eq, nOf_eq, Int.toNat_natCast, nAdd_eq, nSub_eq, dLen_nil, dLen_cons, iLt_t, iLt_f, iLe_t, iLe_f, iEq_t, iEq_f, sEq_t, sEq_f, bNot_t, bNot_f, bAnd_t, bEq_t, bEq_f, Bool.not_eq_true, Bool.not_eq_false, Bool.true_eq_false, Bool.false_eq_true] at h1
  · rw [evalL, if_pos h1]
  · have hz : ∃ (k : Nat) (n : Nd), endL t row = k ∧ t[k]? = some n := by
      unfold endL at h1 ⊢
      cases hx : routeL t row (t.length + 1) 0 with
      | none => rw [hx] at h1; simp at h1
      | some l =>
        obtain ⟨k, n, h2, h3, _⟩ := routeL_ends hx
        exact ⟨k, n, by simp [h2], h3⟩
    obtain ⟨k, n, hk, hn⟩ := hz
    rw [hk]
    refine idx_at (by simp) hn ?_
    (conv => whnf)
    rw [evalL, hk, if_neg (by omega), show (k : Int).toNat = k by simp, hn]
end Go.H.S
namespace Go.H.S
open Go Go.Proofs Go.H
attribute [local irreducible] Tri FnSpec FnSpecM FnSpecX FnSpecJ FnSpecB
set_option maxRecDepth 100000
set_option linter.unusedSimpArgs false
set_option linter.unusedVariables false


theorem laws_big_spec (code : List Int) : FnSpec PR f_laws_big [.c (.d (.sl 1 (eL cU code)))] (ab (iLt 1048576 code.length)) [] 0 := by
  refine FnSpec.intro hT p_laws_big rfl (by kernel_rfl) n_laws_big rfl ?_
  conv => whnf
  rw [show nInt (dLen (eL cU code)) = (code.length : Int) by simp]

theorem laws_at0_spec (code : List Int) (i : Nat) (hl : code.length ≤ 1048576) (hi : i ≤ 100) (hb : ∀ x ∈ code, 0 ≤ x ∧ x ≤ 255) : FnSpecX PR f_laws_at0 [.c (.d (.sl 1 (eL cU code))), ai i] Int (fun x => 0 ≤ x ∧ x ≤ 255) (fun x => ai x) (fun _ => []) (fun _ => 0) := by
  refine FnSpecX.intro hT p_laws_at0 rfl (by kernel_rfl) n_laws_at0 rfl ?_
  (conv => whnf)
  refine ifB_i (fun h1 => ?_) (fun h1 => ?_) <;> (conv => whnf) <;> simp only [nInt_eq, Int.natCast_zero, dLen_eL, sLen_eq, nOf_eq, Int.toNat_natCast, nAdd_eq, nSub_eq, dLen_nil, dLen_cons, iLt_t, iLt_f, iLe_t, iLe_f, iEq_t, iEq_f, sEq_t, sEq_f, bNot_t, bNot_f, bAnd_t, bEq_t, bEq_f, Bool.not_eq_true, Bool.not_eq_false, Bool.true_eq_false, Bool.false_eq_true] at h1
  · obtain ⟨y, hy⟩ := get_lt (show i < code.length by omega)
    refine idx_at (by simp) hy ?_
    (conv => whnf)
    have hy2 := hb y (List.mem_of_getElem? hy)
    have e : wConv .i64 y = y := by
      unfold wConv
      rw [wrap64] <;> omega
    refine ⟨y, hy2, ?_⟩
    ((conv => whnf); simp only [St.mk.injEq, List.cons.injEq, Prod.mk.injEq, AV.c.injEq, AV.agg.injEq, AV.tup.injEq, CV.d.injEq, D.int.injEq, D.bool.injEq, D.str.injEq, D.sl.injEq, Ent.arr.injEq, Ent.box.injEq, true_and, and_true, and_self, nInt_eq, Int.natCast_zero, dLen_eL, sLen_eq])
    exact e
  · refine And.intro (by simp [NZ]) ?_
    (conv => whnf)
    rw [show nInt (dLen (eL cU code)) = (code.length : Int) by simp]
    have e1 : wMul .i64 (i : Int) 7 = (i : Int) * 7 := wMul64 (by omega) (by omega)
    have e2 : wAdd .i64 ((i : Int) * 7) code.length = (i : Int) * 7 + code.length := wAdd64 (by omega) (by omega)
    rw [e1, e2]
    have hm := wRem_mod (x := (i : Int) * 7 + code.length) (n := 256) (by omega) (by decide)
    refine ⟨wRem ((i : Int) * 7 + code.length) 256, by omega, ?_⟩
    (conv => whnf)

abbrev tupT1 (x : List Nd × Int) : AV := .tup [(true, [.d (.sl 5 (eL cN x.1))]), (false, [.d (.int .i64 x.2)])]
abbrev tupT2 (x : List Nd × Int × Int) : AV := .tup [(true, [.d (.sl 5 (eL cN x.1))]), (false, [.d (.int .i64 x.2.1)]), (false, [.d (.int .i64 x.2.2)])]

theorem spec_DrawLevelOf_spec (code : List Int) (hl : code.length ≤ 1048576) : FnSpecX PR f_spec_DrawLevelOf [.c (.d (.sl 1 (eL cU code)))] (List Nd × Int) (fun x => x.1.length ≤ 32 ∧ -1 ≤ x.2 ∧ x.2 ≤ 9223372036854775807) tupT1 (fun _ => []) (fun _ => 0) := by
  refine FnSpecX.intro hT p_spec_DrawLevelOf rfl (by kernel_rfl) n_spec_DrawLevelOf rfl ?_
  (conv => whnf)
  refine .inr ⟨_, _, _, _, _, spec_l1New_spec code hl, fun h0 _ => ⟨rfl, ?_⟩⟩
  (conv => whnf)
  refine .inr (.inr (.inr (.inr (.inl ⟨1, ?_⟩))))
  (conv => whnf)
  refine ⟨_, _, _, _, _, _, spec_l17Bent_spec code 0 h0 ⟨by omega, by omega⟩ hl, fun ⟨t, i1, h1⟩ ⟨ht, hi1⟩ => ⟨rfl, ?_⟩⟩
  dsimp only at ht hi1
  (conv => whnf)
  refine tri_everyX hT hmix [2, 3] (Y := Int) (fun y => -1 ≤ y ∧ y ≤ 9223372036854775807) (fun y => { t := [(2, .c (.ptr 0 0)), (3, ai y)], h := [(0, .box t_impl_Tree (cTr t))], n := 1, N := 20 }) rfl ?_ ?_
  · repeat' first
      | (refine anyV_one rfl ?_; (conv => whnf))
      | (refine anyV_two rfl ?_ ?_ <;> (conv => whnf))
      | (refine anyV_three rfl ?_ ?_ ?_ <;> (conv => whnf))
      | (refine .inr (.inr (.inr (.inr (.inl ⟨1, ?_⟩)))); (conv => whnf); rw [show wAdd .i64 (nInt (dLen (eL cN (t, i1, h1).1))) 1 = (t.length : Int) + 1 by rw [show nInt (dLen (eL cN (t, i1, h1).1)) = (t.length : Int) by simp]; exact wAdd64 (by omega) (by omega)]; refine ⟨_, _, _, _, _, _, spec_l1Below_spec code _ _ _ hi1 hl, fun ⟨x, j, g⟩ ⟨hx, hj⟩ => ⟨rfl, ?_⟩⟩; dsimp only at hx hj; (conv => whnf))
      | (refine .inr (.inr (.inr (.inr (.inl ⟨1, ?_⟩)))); (conv => whnf); refine ⟨_, _, _, _, _, _, spec_l1PickInt_of code _ _ _ [0, 1, 2, x, -1, 9223372036854775807] (by simp [eL, cI]) hj hl (by simp) (by simp), fun ⟨y, j2, g2⟩ ⟨hy, hj2⟩ => ⟨rfl, ?_⟩⟩; dsimp only at hy hj2; (conv => whnf))
    all_goals refine anyV_end rfl ?_
    all_goals refine ⟨y, by have := hx.2.1 (by omega); simp at hy; omega, ?_⟩
    all_goals (conv => whnf)
  · intro y hy
    (conv => whnf)
    refine ⟨(t, y), ⟨ht, hy⟩, ?_⟩
    (conv => whnf)

theorem spec_DrawSpanOf_spec (code : List Int) (hl : code.length ≤ 1048576) : FnSpecX PR f_spec_DrawSpanOf [.c (.d (.sl 1 (eL cU code)))] (List Nd × Int) (fun x => x.1.length ≤ 32 ∧ -1 ≤ x.2 ∧ x.2 ≤ 9223372036854775807) tupT1 (fun _ => []) (fun _ => 0) := by
  refine FnSpecX.intro hT p_spec_DrawSpanOf rfl (by kernel_rfl) n_spec_DrawSpanOf rfl ?_
  (conv => whnf)
  refine .inr ⟨_, _, _, _, _, spec_DrawLevelOf_spec code hl, fun ⟨t, y⟩ hy => ⟨rfl, ?_⟩⟩
  (conv => whnf)
  refine ⟨(t, y), hy, ?_⟩
  (conv => whnf)

theorem spec_DrawTreeFollows_spec (code : List Int) (hl : code.length ≤ 1048576) : FnSpecX PR f_spec_DrawTreeFollows [.c (.d (.sl 1 (eL cU code)))] (List Nd × Int × Int) (fun x => x.1.length ≤ 32 ∧ (-1 ≤ x.2.1 ∧ x.2.1 ≤ 3) ∧ -1 ≤ x.2.2 ∧ x.2.2 ≤ 2) tupT2 (fun _ => []) (fun _ => 0) := by
  refine FnSpecX.intro hT p_spec_DrawTreeFollows rfl (by kernel_rfl) n_spec_DrawTreeFollows rfl ?_
  (conv => whnf)
  refine .inr ⟨_, _, _, _, _, spec_l1New_spec code hl, fun h0 _ => ⟨rfl, ?_⟩⟩
  (conv => whnf)
  refine .inr (.inr (.inr (.inr (.inl ⟨1, ?_⟩))))
  (conv => whnf)
  refine ⟨_, _, _, _, _, _, spec_l17Bent_spec code 0 h0 ⟨by omega, by omega⟩ hl, fun ⟨t, i1, h1⟩ ⟨ht, hi1⟩ => ⟨rfl, ?_⟩⟩
  dsimp only at ht hi1
  (conv => whnf)
  refine .inr (.inr (.inr (.inr (.inl ⟨1, ?_⟩))))
  (conv => whnf)
  refine ⟨_, _, _, _, _, _, spec_l1Below_spec code i1 h1 _ hi1 hl, fun ⟨x, i2, h2⟩ ⟨hx, hi2⟩ => ⟨rfl, ?_⟩⟩
  dsimp only at hx hi2
  have hx2 := hx.2.1 (by decide)
  (conv => whnf)
  rw [show wSub .i64 x 1 = x - 1 from wSub64 (by omega) (by omega)]
  refine .inr (.inr (.inr (.inr (.inl ⟨1, ?_⟩))))
  (conv => whnf)
  refine ⟨_, _, _, _, _, _, spec_l1PickInt_of code i2 h2 _ [1, -1, 0, 2] (by simp [eL, cI]) hi2 hl (by simp) (by simp), fun ⟨y, i3, h3⟩ ⟨hy, hi3⟩ => ⟨rfl, ?_⟩⟩
  dsimp only at hy hi3
  (conv => whnf)
  refine ⟨(t, x - 1, y), ⟨ht, by dsimp only; omega, ?_⟩, ?_⟩
  · simp at hy ⊢
    omega
  (conv => whnf)
end Go.H.S
