/- The row of FnExactFoldLoss: the law returns true for all arguments; each argument reads as before. No condition. -/
import Derived.Test.YtdolkacinfjhcaaGreatLSV
import Derived.Test.YtdolkacinfjhcaaGreatRows
import Derived.WalkKit
import Derived.ProofKit
import Derived.OpenShut
import Derived.ShutString
import Derived.ChangeOld
import Derived.Below
import Derived.SizedLaws
namespace Go.Proofs.YtdolkacinfjhcaaGreat.fnExactFoldLoss
open Go Go.Proofs Go.H
open Go.ChangeShapes Go.WideShapes Go.ChangeAt Go.RowKit
open Go.ChangeMaps (open_string shut_string)
set_option linter.unusedVariables false
set_option linter.unusedSimpArgs false
theorem own : ownKnob Tryz.prog.godebug = none := by kernel_rfl
theorem laidOut : laidOutB Tryz.prog = true := by kernel_rfl
set_option maxRecDepth 100000 in
theorem lifted (os : Os) (started : os.Started) (H : Type) (enc : TypeId × Value → H) :
    ReturnsInHanded {} Tryz.checked os 10 .any (Rows.fnExactFoldLossSpec.pre6 enc Tryz.prog Tryz.f10 Rows.fnExactFoldLossRow.domain false) (Rows.fnExactFoldLossSpec.post enc Tryz.prog Tryz.f10 false true false false) := by
  refine returnsInHanded_of_change_sized (C := Tryz.checked) own started (by kernel_rfl) Tryz.func10
    (ChangeSpec.witness6 (enc := enc) (C := Tryz.checked) false ⟨#[], #[.agg #[.slice none 0 0, .string ⟨#[]⟩, .slice none 0 0, .slice none 0 0], .agg #[.int .i64 0, .int .i64 0, .int .i64 0, .int .i64 0, .int .i64 0, .int .i64 0, .int .i64 0, .slice none 0 0], .int .i64 0], []⟩ 8 (by kernel_rfl) (by kernel_rfl) (by kernel_rfl) (by kernel_rfl)) ?_
  intro W base args ds gs before hval0 hW hcnd hsz0 _
  have hval : ∀ (j : Nat) t v, Tryz.f10.params[j]? = some t → args[j]? = some v → Value.okWide Tryz.prog W .any base t v := hval0
  have hW' := hW
  obtain ⟨p, q, hA0, hV, rfl, hfz, hnd⟩ := hW
  have hA : DataW.TrodAll enc Tryz.prog W 0 (fun _ => true) true Tryz.f10.params.toList args.toList ds p := hA0
  rw [Tryz.params10] at hA hval
  obtain ⟨v0, vs0, d0, ds0, p0, q0, hargs, rfl, rfl, h0, r0⟩ := trodAll_cons hA
  obtain ⟨v1, vs1, d1, ds1, p1, q1, hvs1, rfl, rfl, h1, r1⟩ := trodAll_cons r0
  obtain ⟨v2, vs2, d2, ds2, p2, q2, hvs2, rfl, rfl, h2, r2⟩ := trodAll_cons r1
  obtain ⟨rfl, rfl, rfl⟩ := trodAll_nil r2
  subst hvs2
  subst hvs1
  obtain rfl : args = #[v0, v1, v2] := by cases args; simp_all
  obtain ⟨rfl, rfl⟩ := trodVars_none hV
  have k0 := h0
  have k1 := h1
  have k2 := h2
  have lt0 : ∀ x ∈ p0, x.block < W.heap.size := by obtain ⟨m, hm⟩ := k0; exact DataW.trod_lt m _ _ _ hm
  have lt1 : ∀ x ∈ p1, x.block < W.heap.size := by obtain ⟨m, hm⟩ := k1; exact DataW.trod_lt m _ _ _ hm
  have lt2 : ∀ x ∈ p2, x.block < W.heap.size := by obtain ⟨m, hm⟩ := k2; exact DataW.trod_lt m _ _ _ hm
  obtain ⟨cs0, rfl, _⟩ := okWide_struct Tryz.underlying75 (hval 0 75 v0 rfl rfl)
  obtain ⟨fuel0, hf0⟩ := h0
  obtain ⟨es0, t0, l0, c0, z0⟩ := Go.H.trod_fz Go.H.S.hTp Go.H.S.hplain fuel0 75 _ _ _ rfl hf0
  obtain ⟨x0, g0, rfl⟩ := Go.H.S.ty_table t0
  obtain ⟨cs1, rfl, _⟩ := okWide_struct Tryz.underlying27 (hval 1 27 v1 rfl rfl)
  obtain ⟨fuel1, hf1⟩ := h1
  obtain ⟨es1, t1, l1, c1, z1⟩ := Go.H.trod_fz Go.H.S.hTp Go.H.S.hplain fuel1 27 _ _ _ rfl hf1
  obtain ⟨x1, g1, rfl⟩ := Go.H.S.ty_config t1
  obtain ⟨u2, rfl⟩ := okWide_int Tryz.underlying3 (hval 2 3 v2 rfl rfl)
  obtain ⟨fuel2, hf2⟩ := h2
  obtain ⟨es2, t2, l2, c2, z2⟩ := Go.H.trod_fz Go.H.S.hTp Go.H.S.hplain fuel2 3 _ _ _ rfl hf2
  obtain ⟨x2, rfl, g2⟩ := Go.H.S.ty_int t2
  have hlaw := Go.H.S.law_FnExactFoldLoss x0 x1 x2 g0 g1 g2
  unfold Go.H.S.PR at hlaw
  have hspec := hlaw.2 (· < W.heap.size) W [.agg cs0, .agg cs1, .int .i64 u2] (fun b hb => hb) ⟨rfl, fun j av v hj hv => by
    match j, hj, hv with
    | 0, hj, hv =>
      simp at hj hv
      subst hj; subst hv
      refine ⟨cs0.toList, by simp, ?_, fun j c u hc hu => ?_⟩
      · simpa [Value.cells] using c0
      · match j, hc with
        | 0, hc => simp at hc; subst hc; exact z0 0 _ u rfl hu
        | 1, hc => simp at hc; subst hc; exact z0 1 _ u rfl hu
        | 2, hc => simp at hc; subst hc; exact z0 2 _ u rfl hu
        | 3, hc => simp at hc; subst hc; exact z0 3 _ u rfl hu
        | j + 4, hc => simp at hc
    | 1, hj, hv =>
      simp at hj hv
      subst hj; subst hv
      refine ⟨cs1.toList, by simp, ?_, fun j c u hc hu => ?_⟩
      · simpa [Value.cells] using c1
      · match j, hc with
        | 0, hc => simp at hc; subst hc; exact z1 0 _ u rfl hu
        | 1, hc => simp at hc; subst hc; exact z1 1 _ u rfl hu
        | 2, hc => simp at hc; subst hc; exact z1 2 _ u rfl hu
        | 3, hc => simp at hc; subst hc; exact z1 3 _ u rfl hu
        | 4, hc => simp at hc; subst hc; exact z1 4 _ u rfl hu
        | 5, hc => simp at hc; subst hc; exact z1 5 _ u rfl hu
        | 6, hc => simp at hc; subst hc; exact z1 6 _ u rfl hu
        | 7, hc => simp at hc; subst hc; exact z1 7 _ u rfl hu
        | j + 8, hc => simp at hc
    | 2, hj, hv =>
      simp at hj hv
      subst hj; subst hv
      exact z2 0 _ _ rfl rfl
    | j + 3, hj, hv => simp at hj⟩
  clear hA0 hval0 hsz0 hlaw
  refine hspec.mono fun e W' ⟨v, κ', st', a', he, _, _, hk, hav⟩ => ?_
  have bel := hk.below.below
  subst he
  obtain rfl : v = .bool true := by cases hav; rfl
  exact ⟨_, rfl, _, _, _, [], _, [], hW', trodAll_mk1 (shut_bool Tryz.underlying4 _), (trodAll_cons_mk (Below.trod laidOut (by kernel_rfl) (of_decide_eq_true (by kernel_rfl)) k0 bel lt0) (trodAll_cons_mk (Below.trod laidOut (by kernel_rfl) (of_decide_eq_true (by kernel_rfl)) k1 bel lt1) (trodAll_cons_mk (Below.trod laidOut (by kernel_rfl) (of_decide_eq_true (by kernel_rfl)) k2 bel lt2) trodAll_mk0))), rfl, bel.frame _, fun h => by cases h⟩
set_option maxHeartbeats 40000000 in
theorem closed : joinedFacts Tryz.pinned.checked.prog 10 Tryz.f10 Rows.fnExactFoldLossSpec Rows.fnExactFoldLossRow = true := by
  simp only [joinedFacts, Bool.and_eq_true]
  repeat' apply And.intro
  all_goals (as_aux_lemma => kernel_rfl)
theorem over : Rows.fnExactFoldLossRow.holds Tryz.pinned (OpenSpec.ofChange Rows.fnExactFoldLossSpec) :=
  OpenClaim.holds_of_wide 10 Tryz.f10 rfl rfl rfl rfl rfl rfl rfl ⟨rfl, rfl, rfl, rfl, rfl⟩ rfl rfl rfl rfl rfl (by kernel_rfl) Tryz.func10 closed
    (of_decide_eq_true (by kernel_rfl)) (by unfold Func.isWrapper; first | (rw [if_pos (by decide +kernel)]; kernel_rfl) | (rw [if_neg (by decide +kernel)]; exact ⟨rfl, rfl⟩))
    (fun os started H enc _ => lifted os started H enc)
theorem proved : Rows.FnExactFoldLossSaid := over
#print axioms proved
end Go.Proofs.YtdolkacinfjhcaaGreat.fnExactFoldLoss
