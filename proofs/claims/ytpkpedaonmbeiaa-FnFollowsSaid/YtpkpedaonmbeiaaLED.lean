/- Library, part EC: a tree that follows a sign is monotone; the law FnFollows. -/
import Derived.Test.YtpkpedaonmbeiaaLEB
import Derived.Test.YtpkpedaonmbeiaaLU
import Derived.Test.YtpkpedaonmbeiaaLT
namespace Go.H.S
open Go Go.Proofs Go.H
attribute [local irreducible] Tri FnSpec FnSpecM FnSpecX FnSpecJ FnSpecB
set_option maxRecDepth 100000
set_option linter.unusedSimpArgs false
set_option linter.unusedVariables false


theorem ends_congr {t : List Nd} {g g' : Nd → Bool} (hg : ∀ n ∈ t, n.f ≠ -1 → g n = g' n) {x : Int} {k : Nat} (h : Ends t g x k) : Ends t g' x k := by
  induction h with
  | leaf hj hf => exact .leaf hj hf
  | left hj hf hgn _ ih => exact .left hj hf (by rw [← hg _ (List.mem_of_getElem? hj) hf]; exact hgn) ih
  | right hj hf hgn _ ih => exact .right hj hf (by rw [← hg _ (List.mem_of_getElem? hj) hf]; exact hgn) ih
theorem route_total {t : List Nd} {ft : Int} (h : shapeOk t ft = true) {row : List Int} (hr : ft ≤ row.length) : ∀ (m j : Nat), j < t.length → t.length - j ≤ m → ∃ l, routeL t row m j = some l
  | 0, j, h1, h2 => by omega
  | m + 1, j, h1, h2 => by
    obtain ⟨n, hn⟩ := get_lt h1
    simp only [routeL]
    rw [if_pos (by omega), show (j : Int).toNat = j by simp, hn]
    dsimp only
    split
    · exact ⟨_, rfl⟩
    · rename_i hf
      have hk := shape_kids h hn hf
      rw [if_pos (by omega)]
      obtain ⟨c, hc⟩ : ∃ c : Nat, (if goL row n = true then n.l else n.r) = c := ⟨(if goL row n = true then n.l else n.r).toNat, by split <;> omega⟩
      have hc2 : j < c ∧ c < t.length := by split at hc <;> omega
      obtain ⟨l, hl⟩ := route_total h hr m c (by omega) (by omega)
      rw [hc, hl]
      exact ⟨_, rfl⟩
theorem eval_ends {t : List Nd} {ft : Int} (h : shapeOk t ft = true) {row : List Int} (hr : ft ≤ row.length) (h0 : 0 < t.length) : ∃ k, Ends t (goL row) 0 k ∧ evalL t row = vAt t k := by
  obtain ⟨l, hl⟩ := route_total h hr (t.length + 1) 0 h0 (by omega)
  obtain ⟨k, n, h1, h2, h3, h4, h5, h6⟩ := routeL_ends hl
  refine ⟨k, h4, ?_⟩
  have he : endL t row = (k : Int) := by
    have : ((0 : Nat) : Int) = 0 := rfl
    rw [this] at hl
    rw [endL, hl]; simp [h1]
  rw [evalL, he, if_neg (by omega), show (k : Int).toNat = k by simp, h2]
  simp [vAt, h2]

def goN (row : List Int) (n : Nd) : Bool := if n.f < 0 then false else goL row n
theorem span_ok {t : List Nd} {ft : Int} (h : shapeOk t ft = true) (hl : t.length ≤ 31) {x : Int} (hx : 0 ≤ x ∧ x < t.length) : (spanL t x).2.2 = true := by
  cases hb : (spanL t x).2.2 with
  | true => rfl
  | false =>
    obtain ⟨v, hv⟩ := under_some h (t.length - x.toNat) x.toNat (by omega) (Nat.le_refl _)
    rw [show ((x.toNat : Nat) : Int) = x by omega] at hv
    exact absurd hv ((span_under h hl x).2 hb v)
theorem follows_law {t : List Nd} {ft : Int} (h : shapeOk t ft = true) (hl : t.length ≤ 31) (h0 : 0 < t.length) {row : List Int} (hr : ft ≤ row.length) {f : Nat} {x y : Int} (hx : row[f]? = some x) (hxy : x ≤ y) :
    (followsL t f 1 = true → evalL t row ≤ evalL t (row.set f y)) ∧ (followsL t f (-1) = true → evalL t (row.set f y) ≤ evalL t row) := by
  have hfl := (List.getElem?_eq_some_iff.1 hx).1
  obtain ⟨k, he, hv⟩ := eval_ends h hr h0
  obtain ⟨k', he', hv'⟩ := eval_ends h (row := row.set f y) (by rw [List.length_set]; exact hr) h0
  have hpos : ∀ n ∈ t, n.f ≠ -1 → 0 ≤ n.f := fun n hn hf => by
    obtain ⟨j, hj⟩ := List.mem_iff_getElem?.1 hn
    exact (shape_kids h hj hf).1
  have hgo : ∀ row : List Int, ∀ n ∈ t, n.f ≠ -1 → goL row n = goN row n := fun row n hn hf => by
    have := hpos n hn hf
    rw [goN, if_neg (by omega)]
  have he2 := ends_congr (hgo row) he
  have he2' := ends_congr (hgo (row.set f y)) he'
  have hg : ∀ n : Nd, n.f ≠ (f : Int) → goN row n = goN (row.set f y) n := fun n hn => by
    unfold goN
    split
    · rfl
    · unfold goL rowAt
      rw [List.getElem?_set_ne (by omega)]
  have hg2 : ∀ n : Nd, n.f = (f : Int) → goN (row.set f y) n = true → goN row n = true := fun n hn => by
    unfold goN
    rw [if_neg (by omega), if_neg (by omega)]
    unfold goL rowAt
    rw [hn]
    simp only [Int.toNat_natCast, List.getElem?_set_self hfl, hx, Option.getD_some, iLe, decide_eq_true_eq]
    omega
  rw [hv, hv']
  constructor
  · intro hf
    refine ends_rise h hl hg hg2 (fun j n hj hf1 hf2 => ?_) he2 he2'
    have hk := shape_kids h hj hf1
    have h1 := span_ok h hl (x := n.l) (by omega)
    have h2 := span_ok h hl (x := n.r) (by omega)
    simp only [followsL, List.all_eq_true] at hf
    have := hf n (List.mem_of_getElem? hj)
    simp [badN, isF, hf1, hf2, h1, h2] at this
    omega
  · intro hf
    refine ends_fall h hl hg hg2 (fun j n hj hf1 hf2 => ?_) he2 he2'
    have hk := shape_kids h hj hf1
    have h1 := span_ok h hl (x := n.l) (by omega)
    have h2 := span_ok h hl (x := n.r) (by omega)
    simp only [followsL, List.all_eq_true] at hf
    have := hf n (List.mem_of_getElem? hj)
    simp [badN, isF, hf1, hf2, h1, h2] at this
    omega
end Go.H.S
namespace Go.H.S
open Go Go.Proofs Go.H
attribute [local irreducible] Tri FnSpec FnSpecM FnSpecX FnSpecJ FnSpecB
set_option maxRecDepth 100000
set_option linter.unusedSimpArgs false
set_option linter.unusedVariables false


set_option maxHeartbeats 4000000 in
theorem law_FnFollows (code : List Int) (hm : code.length ≤ 9223372036854775807 ∧ ∀ y ∈ code, 0 ≤ y ∧ y ≤ 255) : FnSpec PR f_laws_FnFollows [.c (.d (.sl 1 (eL cU code)))] (ab true) [] 0 := by
  refine FnSpec.intro hT p_laws_FnFollows rfl (by kernel_rfl) n_laws_FnFollows rfl ?_
  conv => whnf
  refine .inl ⟨_, _, _, laws_big_spec code, rfl, ?_⟩
  (conv => whnf)
  refine ifB_i (fun h => ?_) (fun h => ?_) <;> (conv => whnf) <;> simp only [nInt_eq, Int.natCast_zero, dLen_eL, sLen_eq, nOf_eq, Int.toNat_natCast, nAdd_eq, nSub_eq, dLen_nil, dLen_cons, iLt_t, iLt_f, iLe_t, iLe_f, iEq_t, iEq_f, sEq_t, sEq_f, bNot_t, bNot_f, bAnd_t, bEq_t, bEq_f, Bool.not_eq_true, Bool.not_eq_false, Bool.true_eq_false, Bool.false_eq_true] at h
  have hl : code.length ≤ 1048576 := by omega
  refine .inr ⟨_, _, _, _, _, spec_DrawTreeFollows_spec code hl, fun ⟨t, f, sg⟩ ⟨ht, hf, hsg⟩ => ⟨rfl, ?_⟩⟩
  dsimp only at ht hf hsg
  (conv => whnf)
  refine .inl ⟨_, _, _, impl_TreeFollows_spec t f sg (by omega), rfl, ?_⟩
  (conv => whnf)
  refine .inl ⟨_, _, _, spec_TreeFollows_spec t f sg (by omega), rfl, ?_⟩
  (conv => whnf)
  cases hfo : followsL t f sg with
  | false => (conv => whnf)
  | true =>
    (conv => whnf)
    refine .inl ⟨_, _, _, spec_TreeOk_spec t 3 (by omega), rfl, ?_⟩
    (conv => whnf)
    cases hok : treeOk t 3 with
    | false => (conv => whnf)
    | true =>
      (conv => whnf)
      refine ifB_i (fun h1 => ?_) (fun h1 => ?_) <;> (conv => whnf)
      refine ifB_i (fun h2 => ?_) (fun h2 => ?_) <;> (conv => whnf)
      simp only [iLt, decide_eq_false_iff_not] at h1 h2
      obtain ⟨f, rfl⟩ : ∃ m : Nat, f = m := ⟨f.toNat, by omega⟩
      have hf3 : f < 3 := by omega
      refine tri_loop hT [0, 3, 4, 5, 7, 8] (α := List Int) (fun x => { t := [(0, .c (.d (.sl 1 (eL cU code)))), (3, .c (.ptr 0 0)), (4, ai f), (5, ai sg), (7, .c (.ref 1 0 none)), (8, ai x.length)], h := [(0, .box t_impl_Tree (cTr t)), (1, .arr t_int 1 0 true (eL cI x))], n := 2, N := 99 })
        (fun x => x.length ≤ 3 ∧ ∀ y ∈ x, -3000 ≤ y ∧ y ≤ 3000) (fun x => 3 - x.length) [] (by ((conv => whnf); simp only [St.mk.injEq, List.cons.injEq, Prod.mk.injEq, AV.c.injEq, AV.agg.injEq, AV.tup.injEq, CV.d.injEq, D.int.injEq, D.bool.injEq, D.str.injEq, D.sl.injEq, Ent.arr.injEq, Ent.box.injEq, true_and, and_true, and_self, nInt_eq, Int.natCast_zero, dLen_eL, sLen_eq, eL_nil]); rfl) (by simp) ?_
      intro r ⟨hr1, hr2⟩
      (conv => whnf)
      refine ifB_i (fun h3 => ?_) (fun h3 => ?_) <;> (conv => whnf) <;> simp only [nInt_eq, Int.natCast_zero, dLen_eL, sLen_eq, nOf_eq, Int.toNat_natCast, nAdd_eq, nSub_eq, dLen_nil, dLen_cons, iLt_t, iLt_f, iLe_t, iLe_f, iEq_t, iEq_f, sEq_t, sEq_f, bNot_t, bNot_f, bAnd_t, bEq_t, bEq_f, Bool.not_eq_true, Bool.not_eq_false, Bool.true_eq_false, Bool.false_eq_true] at h3
      · refine .inr ⟨_, _, _, _, _, laws_at0_spec code r.length hl (by omega) hm.2, fun x hx => ⟨rfl, ?_⟩⟩
        (conv => whnf)
        refine And.intro (by simp [NZ]) ?_
        (conv => whnf)
        have hm13 := wRem_mod (x := x) (n := 13) (by omega) (by decide)
        have e1 : wSub .i64 (wRem x 13) 6 = wRem x 13 - 6 := wSub64 (by omega) (by omega)
        have e2 : wMul .i64 500 (wRem x 13 - 6) = 500 * (wRem x 13 - 6) := wMul64 (by omega) (by omega)
        rw [e1, e2]
        refine And.intro (by unfold Fits; simp; omega) ?_
        (conv => whnf)
        refine ⟨r ++ [500 * (wRem x 13 - 6)], by simp; omega, ⟨by simp; omega, fun y hy => ?_⟩, ?_⟩
        · rcases List.mem_append.1 hy with hy | hy
          · exact hr2 y hy
          · simp at hy; omega
        · ((conv => whnf); simp only [St.mk.injEq, List.cons.injEq, Prod.mk.injEq, AV.c.injEq, AV.agg.injEq, AV.tup.injEq, CV.d.injEq, D.int.injEq, D.bool.injEq, D.str.injEq, D.sl.injEq, Ent.arr.injEq, Ent.box.injEq, true_and, and_true, and_self, nInt_eq, Int.natCast_zero, dLen_eL, sLen_eq])
          refine ⟨?_, ?_⟩
          · rw [wAdd64 (by omega) (by omega)]; simp
          · rw [← eL_app]; rfl
      · have hr3 : r.length = 3 := by omega
        refine .inr (.inl ⟨_, _, _, impl_EvalTree_spec t r (by omega) (by omega), rfl, trivial, ?_⟩)
        (conv => whnf)
        obtain ⟨x, hx⟩ := get_lt (show f < r.length by omega)
        have hx2 := hr2 x (List.mem_of_getElem? hx)
        refine tri_everyX hT hmix [3, 5, 7, 9] (Y := Int) (fun y => x ≤ y) (fun y => { t := [(3, .c (.ptr 0 0)), (5, ai sg), (7, .c (.ref 1 0 none)), (9, ai (evalL t r))], h := [(0, .box t_impl_Tree (cTr t)), (1, .arr t_int 1 0 true (eL cI (r.set f y)))], n := 2, N := 99 }) rfl ?_ ?_
        · repeat' first
            | (refine anyV_one rfl ?_; (conv => whnf))
            | (refine anyV_two rfl ?_ ?_ <;> (conv => whnf))
            | (refine anyV_three rfl ?_ ?_ ?_ <;> (conv => whnf))
            | (refine .inr ⟨_, _, _, _, _, laws_at0_spec code 4 hl (by omega) hm.2, fun z hz => ⟨rfl, ?_⟩⟩; (conv => whnf))
            | (refine ref_at (k := f) rfl (by simp; omega) ?_; (conv => whnf))
            | (refine ld_at (by simp) hx ?_; (conv => whnf))
            | (refine st_at (k := f) (by simp) hx (by simp [cI]) ?_; (conv => whnf))
          all_goals refine anyV_end rfl ?_
          all_goals refine ⟨x + 250 * z, by omega, ?_⟩
          all_goals rw [show wMul .i64 250 z = 250 * z from wMul64 (by omega) (by omega), show wAdd .i64 x (250 * z) = x + 250 * z from wAdd64 (by omega) (by omega)]
          all_goals ((conv => whnf); simp only [St.mk.injEq, List.cons.injEq, Prod.mk.injEq, AV.c.injEq, AV.agg.injEq, AV.tup.injEq, CV.d.injEq, D.int.injEq, D.bool.injEq, D.str.injEq, D.sl.injEq, Ent.arr.injEq, Ent.box.injEq, true_and, and_true, and_self, nInt_eq, Int.natCast_zero, dLen_eL, sLen_eq])
          all_goals rw [show nAdd (offR none) (nOf (f : Int)) = f by simp]
          all_goals exact cI_set r f x _
        · intro y hy
          (conv => whnf)
          refine .inr (.inl ⟨_, _, _, impl_EvalTree_spec t (r.set f y) (by omega) (by simp; omega), rfl, trivial, ?_⟩)
          (conv => whnf)
          have hsh := treeOk_shape hok
          have hlaw := follows_law hsh.1 hsh.2.2 (by omega) (row := r) (by omega) hx hy
          have k1 : sg = 1 → evalL t r ≤ evalL t (r.set f y) := fun q => hlaw.1 (by rw [← q]; exact hfo)
          have k2 : sg = -1 → evalL t (r.set f y) ≤ evalL t r := fun q => hlaw.2 (by rw [← q]; exact hfo)
          generalize evalL t r = a at *
          generalize evalL t (r.set f y) = b at *
          clear hlaw
          repeat' (refine ifB_i (fun g => ?_) (fun g => ?_) <;> (conv => whnf))
          all_goals clear hfo hok hsh hx hy hr2 hsg ht hm h hl
          all_goals first
            | (exfalso; simp [iEq, iLe] at *; omega)
            | (rw [show iLe b a = true by simp [iEq, iLe] at *; omega]; done)
end Go.H.S
