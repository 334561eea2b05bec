/- Library, part EB: the law FnSpan. -/
import Derived.Test.YtpkpedaonmbeiaaLEA
import Derived.Test.YtpkpedaonmbeiaaLU
import Derived.Test.YtpkpedaonmbeiaaLT
namespace Go.H.S
open Go Go.Proofs Go.H
attribute [local irreducible] Tri FnSpec FnSpecM FnSpecX FnSpecJ FnSpecB
set_option maxRecDepth 100000
set_option linter.unusedSimpArgs false
set_option linter.unusedVariables false


theorem anc_in {t : List Nd} {z x : Int} (h : Anc t z x) : 0 ≤ x ∧ x < t.length → 0 ≤ z ∧ z < t.length := by
  induction h with
  | refl => exact id
  | up h0 _ ih => exact fun _ => ih ⟨h0, (up_lt t _).2⟩
theorem treeOk_shape {t : List Nd} {ft : Int} (h : treeOk t ft = true) : shapeOk t ft = true ∧ 1 ≤ t.length ∧ t.length ≤ 31 := by
  simp only [treeOk, Bool.and_eq_true, decide_eq_true_eq] at h
  exact ⟨h.2.2.1, by omega, by omega⟩
theorem span_in {t : List Nd} {ft : Int} (h : shapeOk t ft = true) (hl : t.length ≤ 31) {x : Int} (hb : (spanL t x).2.2 = true) : 0 ≤ x ∧ x < t.length := by
  obtain ⟨j, n, h1, _, h3, _⟩ := ((span_under h hl x).1 hb).1
  exact anc_in h3 ⟨by omega, by have := (List.getElem?_eq_some_iff.1 h1).1; omega⟩

set_option maxHeartbeats 4000000 in
theorem law_FnSpan (code : List Int) (hm : code.length ≤ 9223372036854775807 ∧ ∀ y ∈ code, 0 ≤ y ∧ y ≤ 255) : FnSpec PR f_laws_FnSpan [.c (.d (.sl 1 (eL cU code)))] (ab true) [] 0 := by
  refine FnSpec.intro hT p_laws_FnSpan rfl (by kernel_rfl) n_laws_FnSpan rfl ?_
  conv => whnf
  refine .inl ⟨_, _, _, laws_big_spec code, rfl, ?_⟩
  (conv => whnf)
  refine ifB_i (fun h => ?_) (fun h => ?_) <;> (conv => whnf) <;> simp only [nInt_eq, Int.natCast_zero, dLen_eL, sLen_eq, nOf_eq, Int.toNat_natCast, nAdd_eq, nSub_eq, dLen_nil, dLen_cons, iLt_t, iLt_f, iLe_t, iLe_f, iEq_t, iEq_f, sEq_t, sEq_f, bNot_t, bNot_f, bAnd_t, bEq_t, bEq_f, Bool.not_eq_true, Bool.not_eq_false, Bool.true_eq_false, Bool.false_eq_true] at h
  have hl : code.length ≤ 1048576 := by omega
  refine .inr ⟨_, _, _, _, _, spec_DrawSpanOf_spec code hl, fun ⟨t, f⟩ ⟨ht, hf⟩ => ⟨rfl, ?_⟩⟩
  dsimp only at ht hf
  (conv => whnf)
  refine .inl ⟨_, _, _, impl_SpanOf_spec t f (by omega), rfl, ?_⟩
  (conv => whnf)
  refine .inl ⟨_, _, _, spec_SpanOf_spec t f (by omega), rfl, ?_⟩
  (conv => whnf)
  have hsi : treeOk t 3 = true → (spanL t f).2.2 = true → 0 ≤ f ∧ f < t.length := fun h1 h2 => by
    have hsh := (treeOk_shape h1).1
    have htl := (treeOk_shape h1).2.2
    exact span_in hsh htl h2
  have hlaw : treeOk t 3 = true → ∀ (j : Nat) (n : Nd), f = j → t[j]? = some n → n.f ≠ -1 → (spanL t f).1 = min (spanL t n.l).1 (spanL t n.r).1 ∧ (spanL t f).2.1 = max (spanL t n.l).2.1 (spanL t n.r).2.1 := fun h1 j n e hj hf => by
    have hsh := (treeOk_shape h1).1
    have htl := (treeOk_shape h1).2.2
    rw [e]
    exact span_law hsh htl hj hf
  have hleaf : treeOk t 3 = true → ∀ (j : Nat) (n : Nd), f = j → t[j]? = some n → n.f = -1 → spanL t f = (n.v, n.v, true) := fun h1 j n e hj hf => by
    have hsh := (treeOk_shape h1).1
    have htl := (treeOk_shape h1).2.2
    rw [e]
    exact span_leaf hsh htl hj hf
  have hfl : treeOk t 3 = true → ∀ (j : Nat) (n : Nd), t[j]? = some n → n.f ≠ -1 → 0 ≤ n.f := fun h1 j n hj hf => by
    have hsh := (treeOk_shape h1).1
    exact (shape_kids hsh hj hf).1
  rcases hsp : spanL t f with ⟨lo, hi, b⟩
  rw [hsp] at hsi hlaw hleaf
  dsimp only at hsi hlaw hleaf
  refine ifB_i (fun h1 => ?_) (fun h1 => ?_) <;> (conv => whnf)
  · simp at h1
  refine ifB_i (fun h2 => ?_) (fun h2 => ?_) <;> (conv => whnf)
  · simp at h2
  refine ifB_i (fun h3 => ?_) (fun h3 => ?_) <;> (conv => whnf)
  · simp at h3
  cases b with
  | false => (conv => whnf)
  | true =>
    (conv => whnf)
    refine .inl ⟨_, _, _, spec_TreeOk_spec t 3 (by omega), rfl, ?_⟩
    (conv => whnf)
    cases hok : treeOk t 3 with
    | false => (conv => whnf)
    | true =>
      (conv => whnf)
      have hfr := hsi hok rfl
      obtain ⟨f, rfl⟩ : ∃ m : Nat, f = m := ⟨f.toNat, by omega⟩
      obtain ⟨n, hn⟩ := get_lt (show f < t.length by omega)
      refine idx_at (by simp) hn ?_
      (conv => whnf)
      refine ifB_i (fun h4 => ?_) (fun h4 => ?_) <;> (conv => whnf) <;> simp only [nInt_eq, Int.natCast_zero, dLen_eL, sLen_eq, nOf_eq, Int.toNat_natCast, nAdd_eq, nSub_eq, dLen_nil, dLen_cons, iLt_t, iLt_f, iLe_t, iLe_f, iEq_t, iEq_f, sEq_t, sEq_f, bNot_t, bNot_f, bAnd_t, bEq_t, bEq_f, Bool.not_eq_true, Bool.not_eq_false, Bool.true_eq_false, Bool.false_eq_true] at h4
      · have hnf : n.f = -1 := by
          by_cases q : n.f = -1
          · exact q
          · have := hfl hok f n hn q; omega
        have e := hleaf hok f n rfl hn hnf
        simp only [Prod.mk.injEq, and_true] at e
        obtain ⟨rfl, rfl⟩ := e
        refine idx_at (by simp) hn ?_
        (conv => whnf)
        rw [show iEq (n.v, n.v, true).1 n.v = true by simp [iEq]]
        (conv => whnf)
        rw [show iEq (n.v, n.v, true).2.1 (n.v, n.v, true).1 = true by simp [iEq]]
      · have hnf : n.f ≠ -1 := fun q => by omega
        have e := hlaw hok f n rfl hn hnf
        have hsl := impl_SpanOf_spec t n.l (by omega)
        have hsr := impl_SpanOf_spec t n.r (by omega)
        rcases hl2 : spanL t n.l with ⟨p, q, b1⟩
        rcases hr2 : spanL t n.r with ⟨r, s, b2⟩
        rw [hl2] at hsl
        rw [hr2] at hsr
        rw [hl2, hr2] at e
        dsimp only at e
        refine tri_every hT hmix [3, 4, 5, 6, 11, 12] { t := [(3, .c (.ptr 0 0)), (4, ai f), (5, ai lo), (6, ai hi), (11, ai p), (12, ai q)], h := [(0, .box t_impl_Tree (cTr t))], n := 1, N := 148 } rfl ?_ ?_
        · repeat' first
            | (refine anyV_one rfl ?_; (conv => whnf))
            | (refine anyV_two rfl ?_ ?_ <;> (conv => whnf))
            | (refine anyV_three rfl ?_ ?_ ?_ <;> (conv => whnf))
            | (refine idx_at (by simp) hn ?_; (conv => whnf))
            | (refine .inl ⟨_, _, _, hsl, rfl, ?_⟩; (conv => whnf))
          all_goals refine anyV_end rfl ?_
          all_goals (conv => whnf)
        (conv => whnf)
        refine tri_every hT hmix [5, 6, 11, 12, 14, 15] { t := [(5, ai lo), (6, ai hi), (11, ai p), (12, ai q), (14, ai r), (15, ai s)], h := [], n := 0, N := 148 } rfl ?_ ?_
        · repeat' first
            | (refine anyV_one rfl ?_; (conv => whnf))
            | (refine anyV_two rfl ?_ ?_ <;> (conv => whnf))
            | (refine anyV_three rfl ?_ ?_ ?_ <;> (conv => whnf))
            | (refine idx_at (by simp) hn ?_; (conv => whnf))
            | (refine .inl ⟨_, _, _, hsr, rfl, ?_⟩; (conv => whnf))
          all_goals refine anyV_end rfl ?_
          all_goals (conv => whnf)
        (conv => whnf)
        refine .inl ⟨_, _, _, spec_Brought_spec _ _ _, rfl, ?_⟩
        have hb : brought p lo r = lo := by unfold brought; split <;> (try split) <;> omega
        (conv => whnf)
        clear hsl hsr hlaw hleaf hsi hfl
        rw [show iEq lo (brought p lo r) = true by rw [hb]; simp [iEq]]
        (conv => whnf)
        clear hb
        repeat' (refine ifB_i (fun g => ?_) (fun g => ?_) <;> (conv => whnf))
        all_goals first
          | (rw [show iLe s hi = true by simp [iLe]; omega]; done)
          | (exfalso; simp only [iEq, iLe, decide_eq_true_eq, decide_eq_false_iff_not] at *; omega)
end Go.H.S
