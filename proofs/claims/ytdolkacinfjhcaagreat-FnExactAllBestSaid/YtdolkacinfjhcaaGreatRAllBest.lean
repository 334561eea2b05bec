/- The row of FnExactAllBest: the law returns true for all arguments; each argument reads as before. No condition. -/
import Derived.Test.YtdolkacinfjhcaaGreatLPO
import Derived.Test.YtdolkacinfjhcaaGreatRows
import Derived.WalkKit
import Derived.ProofKit
import Derived.OpenShut
import Derived.ShutString
import Derived.ChangeOld
import Derived.Below
import Derived.SizedLaws
namespace Go.Proofs.YtdolkacinfjhcaaGreat.fnExactAllBest
open Go Go.Proofs Go.H
open Go.ChangeShapes Go.WideShapes Go.ChangeAt Go.RowKit
open Go.ChangeMaps (open_string shut_string)
set_option linter.unusedVariables false
set_option linter.unusedSimpArgs false
theorem own : ownKnob Tryz.prog.godebug = none := by kernel_rfl
theorem laidOut : laidOutB Tryz.prog = true := by kernel_rfl
set_option maxRecDepth 100000 in
theorem lifted (os : Os) (started : os.Started) (H : Type) (enc : TypeId × Value → H) :
    ReturnsInHanded {} Tryz.checked os 4 .any (Rows.fnExactAllBestSpec.pre6 enc Tryz.prog Tryz.f4 Rows.fnExactAllBestRow.domain false) (Rows.fnExactAllBestSpec.post enc Tryz.prog Tryz.f4 false true false false) := by
  refine returnsInHanded_of_change_sized (C := Tryz.checked) own started (by kernel_rfl) Tryz.func4
    (ChangeSpec.witness6 (enc := enc) (C := Tryz.checked) false ⟨#[], #[.agg #[.slice none 0 0, .slice none 0 0], .slice none 0 0, .agg #[.int .i64 0, .int .i64 0, .int .i64 0, .int .i64 0, .int .i64 0, .int .i64 0, .int .i64 0, .slice none 0 0], .agg #[.slice none 0 0]], []⟩ 8 (by kernel_rfl) (by kernel_rfl) (by kernel_rfl) (by kernel_rfl)) ?_
  intro W base args ds gs before hval0 hW hcnd hsz0 _
  have hval : ∀ (j : Nat) t v, Tryz.f4.params[j]? = some t → args[j]? = some v → Value.okWide Tryz.prog W .any base t v := hval0
  have hW' := hW
  obtain ⟨p, q, hA0, hV, rfl, hfz, hnd⟩ := hW
  have hA : DataW.TrodAll enc Tryz.prog W 0 (fun _ => true) true Tryz.f4.params.toList args.toList ds p := hA0
  rw [Tryz.params4] at hA hval
  obtain ⟨v0, vs0, d0, ds0, p0, q0, hargs, rfl, rfl, h0, r0⟩ := trodAll_cons hA
  obtain ⟨v1, vs1, d1, ds1, p1, q1, hvs1, rfl, rfl, h1, r1⟩ := trodAll_cons r0
  obtain ⟨v2, vs2, d2, ds2, p2, q2, hvs2, rfl, rfl, h2, r2⟩ := trodAll_cons r1
  obtain ⟨v3, vs3, d3, ds3, p3, q3, hvs3, rfl, rfl, h3, r3⟩ := trodAll_cons r2
  obtain ⟨rfl, rfl, rfl⟩ := trodAll_nil r3
  subst hvs3
  subst hvs2
  subst hvs1
  obtain rfl : args = #[v0, v1, v2, v3] := by cases args; simp_all
  obtain ⟨rfl, rfl⟩ := trodVars_none hV
  have k0 := h0
  have k1 := h1
  have k2 := h2
  have k3 := h3
  have lt0 : ∀ x ∈ p0, x.block < W.heap.size := by obtain ⟨m, hm⟩ := k0; exact DataW.trod_lt m _ _ _ hm
  have lt1 : ∀ x ∈ p1, x.block < W.heap.size := by obtain ⟨m, hm⟩ := k1; exact DataW.trod_lt m _ _ _ hm
  have lt2 : ∀ x ∈ p2, x.block < W.heap.size := by obtain ⟨m, hm⟩ := k2; exact DataW.trod_lt m _ _ _ hm
  have lt3 : ∀ x ∈ p3, x.block < W.heap.size := by obtain ⟨m, hm⟩ := k3; exact DataW.trod_lt m _ _ _ hm
  obtain ⟨cs0, rfl, _⟩ := okWide_struct Tryz.underlying24 (hval 0 24 v0 rfl rfl)
  obtain ⟨fuel0, hf0⟩ := h0
  obtain ⟨es0, t0, l0, c0, z0⟩ := Go.H.trod_fz Go.H.S.hTp Go.H.S.hplain fuel0 24 _ _ _ rfl hf0
  obtain ⟨x0, g0, rfl⟩ := Go.H.S.ty_grid t0
  obtain ⟨b1, n1, c1', rfl⟩ := okWide_slice Tryz.underlying25 (hval 1 25 v1 rfl rfl)
  obtain ⟨fuel1, hf1⟩ := h1
  obtain ⟨es1, t1, l1, c1, z1⟩ := Go.H.trod_fz Go.H.S.hTp Go.H.S.hplain fuel1 25 _ _ _ rfl hf1
  obtain ⟨x1, rfl, g1⟩ := Go.H.S.ty_ints t1
  obtain ⟨cs2, rfl, _⟩ := okWide_struct Tryz.underlying27 (hval 2 27 v2 rfl rfl)
  obtain ⟨fuel2, hf2⟩ := h2
  obtain ⟨es2, t2, l2, c2, z2⟩ := Go.H.trod_fz Go.H.S.hTp Go.H.S.hplain fuel2 27 _ _ _ rfl hf2
  obtain ⟨x2, g2, rfl⟩ := Go.H.S.ty_config t2
  obtain ⟨cs3, rfl, _⟩ := okWide_struct Tryz.underlying30 (hval 3 30 v3 rfl rfl)
  obtain ⟨fuel3, hf3⟩ := h3
  obtain ⟨es3, t3, l3, c3, z3⟩ := Go.H.trod_fz Go.H.S.hTp Go.H.S.hplain fuel3 30 _ _ _ rfl hf3
  obtain ⟨x3, rfl, g3⟩ := Go.H.S.ty_tree t3
  have hlaw := Go.H.S.law_FnExactAllBest x0 x1 x2 x3 g0 g1 g2 g3
  unfold Go.H.S.PR at hlaw
  have hspec := hlaw.2 (· < W.heap.size) W [.agg cs0, .slice b1 n1 c1', .agg cs2, .agg cs3] (fun b hb => hb) ⟨rfl, fun j av v hj hv => by
    match j, hj, hv with
    | 0, hj, hv =>
      simp at hj hv
      subst hj; subst hv
      refine ⟨cs0.toList, by simp, ?_, fun j c u hc hu => ?_⟩
      · simpa [Value.cells] using c0
      · match j, hc with
        | 0, hc => simp at hc; subst hc; exact z0 0 _ u rfl hu
        | 1, hc => simp at hc; subst hc; exact z0 1 _ u rfl hu
        | j + 2, hc => simp at hc
    | 1, hj, hv =>
      simp at hj hv
      subst hj; subst hv
      exact z1 0 _ _ rfl rfl
    | 2, hj, hv =>
      simp at hj hv
      subst hj; subst hv
      refine ⟨cs2.toList, by simp, ?_, fun j c u hc hu => ?_⟩
      · simpa [Value.cells] using c2
      · match j, hc with
        | 0, hc => simp at hc; subst hc; exact z2 0 _ u rfl hu
        | 1, hc => simp at hc; subst hc; exact z2 1 _ u rfl hu
        | 2, hc => simp at hc; subst hc; exact z2 2 _ u rfl hu
        | 3, hc => simp at hc; subst hc; exact z2 3 _ u rfl hu
        | 4, hc => simp at hc; subst hc; exact z2 4 _ u rfl hu
        | 5, hc => simp at hc; subst hc; exact z2 5 _ u rfl hu
        | 6, hc => simp at hc; subst hc; exact z2 6 _ u rfl hu
        | 7, hc => simp at hc; subst hc; exact z2 7 _ u rfl hu
        | j + 8, hc => simp at hc
    | 3, hj, hv =>
      simp at hj hv
      subst hj; subst hv
      refine ⟨cs3.toList, by simp, ?_, fun j c u hc hu => ?_⟩
      · simpa [Value.cells] using c3
      · match j, hc with
        | 0, hc => simp at hc; subst hc; exact z3 0 _ u rfl hu
        | j + 1, hc => simp at hc
    | j + 4, hj, hv => simp at hj⟩
  clear hA0 hval0 hsz0 hlaw
  refine hspec.mono fun e W' ⟨v, κ', st', a', he, _, _, hk, hav⟩ => ?_
  have bel := hk.below.below
  subst he
  obtain rfl : v = .bool true := by cases hav; rfl
  exact ⟨_, rfl, _, _, _, [], _, [], hW', trodAll_mk1 (shut_bool Tryz.underlying4 _), (trodAll_cons_mk (Below.trod laidOut (by kernel_rfl) (of_decide_eq_true (by kernel_rfl)) k0 bel lt0) (trodAll_cons_mk (Below.trod laidOut (by kernel_rfl) (of_decide_eq_true (by kernel_rfl)) k1 bel lt1) (trodAll_cons_mk (Below.trod laidOut (by kernel_rfl) (of_decide_eq_true (by kernel_rfl)) k2 bel lt2) (trodAll_cons_mk (Below.trod laidOut (by kernel_rfl) (of_decide_eq_true (by kernel_rfl)) k3 bel lt3) trodAll_mk0)))), rfl, bel.frame _, fun h => by cases h⟩
set_option maxHeartbeats 40000000 in
theorem closed : joinedFacts Tryz.pinned.checked.prog 4 Tryz.f4 Rows.fnExactAllBestSpec Rows.fnExactAllBestRow = true := by
  simp only [joinedFacts, Bool.and_eq_true]
  repeat' apply And.intro
  all_goals (as_aux_lemma => kernel_rfl)
theorem over : Rows.fnExactAllBestRow.holds Tryz.pinned (OpenSpec.ofChange Rows.fnExactAllBestSpec) :=
  OpenClaim.holds_of_wide 4 Tryz.f4 rfl rfl rfl rfl rfl rfl rfl ⟨rfl, rfl, rfl, rfl, rfl⟩ rfl rfl rfl rfl rfl (by kernel_rfl) Tryz.func4 closed
    (of_decide_eq_true (by kernel_rfl)) (by unfold Func.isWrapper; first | (rw [if_pos (by decide +kernel)]; kernel_rfl) | (rw [if_neg (by decide +kernel)]; exact ⟨rfl, rfl⟩))
    (fun os started H enc _ => lifted os started H enc)
theorem proved : Rows.FnExactAllBestSaid := over
#print axioms proved
end Go.Proofs.YtdolkacinfjhcaaGreat.fnExactAllBest
