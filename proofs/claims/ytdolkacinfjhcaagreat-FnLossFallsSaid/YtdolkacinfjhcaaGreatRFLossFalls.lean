/- The row of FnLossFalls: the law returns true for all arguments; each argument reads as before. No condition. -/
import Derived.Test.YtdolkacinfjhcaaGreatLSQ
import Derived.Test.YtdolkacinfjhcaaGreatRows
import Derived.WalkKit
import Derived.ProofKit
import Derived.OpenShut
import Derived.ShutString
import Derived.ChangeOld
import Derived.Below
import Derived.SizedLaws
namespace Go.Proofs.YtdolkacinfjhcaaGreat.fnLossFalls
open Go Go.Proofs Go.H
open Go.ChangeShapes Go.WideShapes Go.ChangeAt Go.RowKit
open Go.ChangeMaps (open_string shut_string)
set_option linter.unusedVariables false
set_option linter.unusedSimpArgs false
theorem own : ownKnob Tryz.prog.godebug = none := by kernel_rfl
theorem laidOut : laidOutB Tryz.prog = true := by kernel_rfl
set_option maxRecDepth 100000 in
theorem lifted (os : Os) (started : os.Started) (H : Type) (enc : TypeId × Value → H) :
    ReturnsInHanded {} Tryz.checked os 11 .any (Rows.fnLossFallsSpec.pre6 enc Tryz.prog Tryz.f11 Rows.fnLossFallsRow.domain false) (Rows.fnLossFallsSpec.post enc Tryz.prog Tryz.f11 false true false false) := by
  refine returnsInHanded_of_change_sized (C := Tryz.checked) own started (by kernel_rfl) Tryz.func11
    (ChangeSpec.witness6 (enc := enc) (C := Tryz.checked) false ⟨#[], #[.slice none 0 0], []⟩ 8 (by kernel_rfl) (by kernel_rfl) (by kernel_rfl) (by kernel_rfl)) ?_
  intro W base args ds gs before hval0 hW hcnd hsz0 _
  have hval : ∀ (j : Nat) t v, Tryz.f11.params[j]? = some t → args[j]? = some v → Value.okWide Tryz.prog W .any base t v := hval0
  have hW' := hW
  obtain ⟨p, q, hA0, hV, rfl, hfz, hnd⟩ := hW
  have hA : DataW.TrodAll enc Tryz.prog W 0 (fun _ => true) true Tryz.f11.params.toList args.toList ds p := hA0
  rw [Tryz.params11] at hA hval
  obtain ⟨v0, vs0, d0, ds0, p0, q0, hargs, rfl, rfl, h0, r0⟩ := trodAll_cons hA
  obtain ⟨rfl, rfl, rfl⟩ := trodAll_nil r0
  obtain rfl : args = #[v0] := by cases args; simp_all
  obtain ⟨rfl, rfl⟩ := trodVars_none hV
  have k0 := h0
  have lt0 : ∀ x ∈ p0, x.block < W.heap.size := by obtain ⟨m, hm⟩ := k0; exact DataW.trod_lt m _ _ _ hm
  obtain ⟨b0, n0, c0', rfl⟩ := okWide_slice Tryz.underlying51 (hval 0 51 v0 rfl rfl)
  obtain ⟨fuel0, hf0⟩ := h0
  obtain ⟨es0, t0, l0, c0, z0⟩ := Go.H.trod_fz Go.H.S.hTp Go.H.S.hplain fuel0 51 _ _ _ rfl hf0
  obtain ⟨x0, rfl, g0⟩ := Go.H.S.ty_bytes t0
  have hlaw := Go.H.S.law_FnLossFalls x0 g0
  unfold Go.H.S.PR at hlaw
  have hspec := hlaw.2 (· < W.heap.size) W [.slice b0 n0 c0'] (fun b hb => hb) ⟨rfl, fun j av v hj hv => by
    match j, hj, hv with
    | 0, hj, hv =>
      simp at hj hv
      subst hj; subst hv
      exact z0 0 _ _ rfl rfl
    | j + 1, hj, hv => simp at hj⟩
  clear hA0 hval0 hsz0 hlaw
  refine hspec.mono fun e W' ⟨v, κ', st', a', he, _, _, hk, hav⟩ => ?_
  have bel := hk.below.below
  subst he
  obtain rfl : v = .bool true := by cases hav; rfl
  exact ⟨_, rfl, _, _, _, [], _, [], hW', trodAll_mk1 (shut_bool Tryz.underlying4 _), (trodAll_cons_mk (Below.trod laidOut (by kernel_rfl) (of_decide_eq_true (by kernel_rfl)) k0 bel lt0) trodAll_mk0), rfl, bel.frame _, fun h => by cases h⟩
set_option maxHeartbeats 40000000 in
theorem closed : joinedFacts Tryz.pinned.checked.prog 11 Tryz.f11 Rows.fnLossFallsSpec Rows.fnLossFallsRow = true := by
  simp only [joinedFacts, Bool.and_eq_true]
  repeat' apply And.intro
  all_goals (as_aux_lemma => kernel_rfl)
theorem over : Rows.fnLossFallsRow.holds Tryz.pinned (OpenSpec.ofChange Rows.fnLossFallsSpec) :=
  OpenClaim.holds_of_wide 11 Tryz.f11 rfl rfl rfl rfl rfl rfl rfl ⟨rfl, rfl, rfl, rfl, rfl⟩ rfl rfl rfl rfl rfl (by kernel_rfl) Tryz.func11 closed
    (of_decide_eq_true (by kernel_rfl)) (by unfold Func.isWrapper; first | (rw [if_pos (by decide +kernel)]; kernel_rfl) | (rw [if_neg (by decide +kernel)]; exact ⟨rfl, rfl⟩))
    (fun os started H enc _ => lifted os started H enc)
theorem proved : Rows.FnLossFallsSaid := over
#print axioms proved
end Go.Proofs.YtdolkacinfjhcaaGreat.fnLossFalls
