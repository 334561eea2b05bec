/- The row of FnExactStages: the law returns true for all arguments; each argument reads as before. No condition. -/
import Derived.Test.YtbclkplebkencaaLNF
import Derived.Test.YtbclkplebkencaaRows
import Derived.WalkKit
import Derived.ProofKit
import Derived.OpenShut
import Derived.ShutString
import Derived.ChangeOld
import Derived.Below
import Derived.SizedLaws
namespace Go.Proofs.Ytbclkplebkencaa.fnExactStages
open Go Go.Proofs Go.H
open Go.ChangeShapes Go.WideShapes Go.ChangeAt Go.RowKit
open Go.ChangeMaps (open_string shut_string)
set_option linter.unusedVariables false
set_option linter.unusedSimpArgs false
theorem own : ownKnob Try.prog.godebug = none := by kernel_rfl
theorem laidOut : laidOutB Try.prog = true := by kernel_rfl
set_option maxRecDepth 100000 in
theorem lifted (os : Os) (started : os.Started) (H : Type) (enc : TypeId × Value → H) :
    ReturnsInHanded {} Try.checked os 7 .any (Rows.fnExactStagesSpec.pre6 enc Try.prog Try.f7 Rows.fnExactStagesRow.domain false) (Rows.fnExactStagesSpec.post enc Try.prog Try.f7 false true false false) := by
  refine returnsInHanded_of_change_sized (C := Try.checked) own started (by kernel_rfl) Try.func7
    (ChangeSpec.witness6 (enc := enc) (C := Try.checked) false ⟨#[], #[.agg #[.slice none 0 0, .slice none 0 0, .int .i64 0, .slice none 0 0], .slice none 0 0], []⟩ 8 (by kernel_rfl) (by kernel_rfl) (by kernel_rfl) (by kernel_rfl)) ?_
  intro W base args ds gs before hval0 hW hcnd hsz0 _
  have hval : ∀ (j : Nat) t v, Try.f7.params[j]? = some t → args[j]? = some v → Value.okWide Try.prog W .any base t v := hval0
  have hW' := hW
  obtain ⟨p, q, hA0, hV, rfl, hfz, hnd⟩ := hW
  have hA : DataW.TrodAll enc Try.prog W 0 (fun _ => true) true Try.f7.params.toList args.toList ds p := hA0
  rw [Try.params7] at hA hval
  obtain ⟨v0, vs0, d0, ds0, p0, q0, hargs, rfl, rfl, h0, r0⟩ := trodAll_cons hA
  obtain ⟨v1, vs1, d1, ds1, p1, q1, hvs1, rfl, rfl, h1, r1⟩ := trodAll_cons r0
  obtain ⟨rfl, rfl, rfl⟩ := trodAll_nil r1
  subst hvs1
  obtain rfl : args = #[v0, v1] := by cases args; simp_all
  obtain ⟨rfl, rfl⟩ := trodVars_none hV
  have k0 := h0
  have k1 := h1
  have lt0 : ∀ x ∈ p0, x.block < W.heap.size := by obtain ⟨m, hm⟩ := k0; exact DataW.trod_lt m _ _ _ hm
  have lt1 : ∀ x ∈ p1, x.block < W.heap.size := by obtain ⟨m, hm⟩ := k1; exact DataW.trod_lt m _ _ _ hm
  obtain ⟨cs0, rfl, _⟩ := okWide_struct Try.underlying40 (hval 0 40 v0 rfl rfl)
  obtain ⟨fuel0, hf0⟩ := h0
  obtain ⟨es0, t0, l0, c0, z0⟩ := Go.H.trod_fz Go.H.S.hTp Go.H.S.hplain fuel0 40 _ _ _ rfl hf0
  obtain ⟨x0, g0, rfl⟩ := Go.H.S.ty_model t0
  obtain ⟨b1, n1, c1', rfl⟩ := okWide_slice Try.underlying26 (hval 1 26 v1 rfl rfl)
  obtain ⟨fuel1, hf1⟩ := h1
  obtain ⟨es1, t1, l1, c1, z1⟩ := Go.H.trod_fz Go.H.S.hTp Go.H.S.hplain fuel1 26 _ _ _ rfl hf1
  obtain ⟨x1, rfl, g1⟩ := Go.H.S.ty_ints t1
  have hlaw := Go.H.S.law_FnExactStages x0 x1 g0 g1
  unfold Go.H.S.PR at hlaw
  have hspec := hlaw.2 (· < W.heap.size) W [.agg cs0, .slice b1 n1 c1'] (fun b hb => hb) ⟨rfl, fun j av v hj hv => by
    match j, hj, hv with
    | 0, hj, hv =>
      simp at hj hv
      subst hj; subst hv
      refine ⟨cs0.toList, by simp, ?_, fun j c u hc hu => ?_⟩
      · simpa [Value.cells] using c0
      · match j, hc with
        | 0, hc => simp at hc; subst hc; exact z0 0 _ u rfl hu
        | 1, hc => simp at hc; subst hc; exact z0 1 _ u rfl hu
        | 2, hc => simp at hc; subst hc; exact z0 2 _ u rfl hu
        | 3, hc => simp at hc; subst hc; exact z0 3 _ u rfl hu
        | j + 4, hc => simp at hc
    | 1, hj, hv =>
      simp at hj hv
      subst hj; subst hv
      exact z1 0 _ _ rfl rfl
    | j + 2, hj, hv => simp at hj⟩
  clear hA0 hval0 hsz0 hlaw
  refine hspec.mono fun e W' ⟨v, κ', st', a', he, _, _, hk, hav⟩ => ?_
  have bel := hk.below.below
  subst he
  obtain rfl : v = .bool true := by cases hav; rfl
  exact ⟨_, rfl, _, _, _, [], _, [], hW', trodAll_mk1 (shut_bool Try.underlying4 _), (trodAll_cons_mk (Below.trod laidOut (by kernel_rfl) (of_decide_eq_true (by kernel_rfl)) k0 bel lt0) (trodAll_cons_mk (Below.trod laidOut (by kernel_rfl) (of_decide_eq_true (by kernel_rfl)) k1 bel lt1) trodAll_mk0)), rfl, bel.frame _, fun h => by cases h⟩
theorem over : Rows.fnExactStagesRow.holds Try.pinned (OpenSpec.ofChange Rows.fnExactStagesSpec) :=
  OpenClaim.holds_of_wide 7 Try.f7 rfl rfl rfl rfl rfl rfl rfl ⟨rfl, rfl, rfl, rfl, rfl⟩ rfl rfl rfl rfl rfl (by kernel_rfl) Try.func7 (by kernel_rfl)
    (of_decide_eq_true (by kernel_rfl)) (by unfold Func.isWrapper; first | (rw [if_pos (by decide +kernel)]; kernel_rfl) | (rw [if_neg (by decide +kernel)]; exact ⟨rfl, rfl⟩))
    (fun os started H enc _ => lifted os started H enc)
theorem proved : Rows.FnExactStagesSaid := over
#print axioms proved
end Go.Proofs.Ytbclkplebkencaa.fnExactStages
