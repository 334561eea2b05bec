/- Seat 1, part 9: the row of the law NodesIn. -/
import Derived.Test.YtjjlpjdaffdceaaS8
import Derived.Test.YtjjlpjdaffdceaaRows
import Derived.WalkKit
import Derived.ProofKit
import Derived.OpenShut
import Derived.ShutString
import Derived.ChangeOld
import Derived.Below
import Derived.SizedLaws
namespace Go.H.S1
open Go Go.Proofs Go.H

theorem hplain : ∀ t ti, T t = some ti → plainT T ti = true := plain_tab (tab := tab) (by kernel_rfl)

theorem list_of_len {α : Type} {l : List α} {a : α} (h : l.length = 1) (h' : l.take 1 = [a]) : l = [a] := by
  match l, h with
  | [x], _ => simpa using h'

theorem ty_node {n : Nat} {c : List D} (h : TyD T n 72 c) : ∃ x, c = cN x ∧ True := by
  obtain ⟨hl, hf⟩ := h.struct (ti := _) rfl rfl
  obtain ⟨_, g0⟩ := hf (0, 3) (by simp) _ rfl
  obtain ⟨_, g1⟩ := hf (1, 3) (by simp) _ rfl
  obtain ⟨_, g2⟩ := hf (2, 3) (by simp) _ rfl
  obtain ⟨_, g3⟩ := hf (3, 3) (by simp) _ rfl
  obtain ⟨_, g4⟩ := hf (4, 3) (by simp) _ rfl
  obtain ⟨x0, e0, _⟩ := g0.int rfl rfl
  obtain ⟨x1, e1, _⟩ := g1.int rfl rfl
  obtain ⟨x2, e2, _⟩ := g2.int rfl rfl
  obtain ⟨x3, e3, _⟩ := g3.int rfl rfl
  obtain ⟨x4, e4, _⟩ := g4.int rfl rfl
  refine ⟨⟨x0, x1, x2, x3, x4⟩, ?_, trivial⟩
  match c, hl with
  | [c0, c1, c2, c3, c4], _ =>
    simp at e0 e1 e2 e3 e4
    simp [cN, e0, e1, e2, e3, e4]

theorem ty_str {n : Nat} {c : List D} (h : TyD T n 9 c) : ∃ x, c = cS x ∧ x.size ≤ 9223372036854775807 := h.str rfl rfl
theorem ty_int {n : Nat} {c : List D} (h : TyD T n 3 c) : ∃ x, c = cI x ∧ True := by
  obtain ⟨x, h1, _⟩ := h.int rfl rfl
  exact ⟨x, h1, trivial⟩

theorem ty_tree {n : Nat} {c : List D} (h : TyD T n 39 c) : ∃ x, c = cT x ∧ x.length ≤ 9223372036854775807 := by
  obtain ⟨hl, hf⟩ := h.struct (ti := _) rfl rfl
  obtain ⟨_, g0⟩ := hf (0, 37) (by simp) _ rfl
  obtain ⟨es, e0, e1, e2⟩ := g0.slice rfl rfl rfl
  obtain ⟨l, rfl, l1, _⟩ := eL_of (f := cN) (ok := fun _ => True) (fun c hc => (let ⟨_, hm⟩ := e2 c hc; ty_node hm))
  exact ⟨l, list_of_len hl (by simpa using e0), by omega⟩

theorem ty_model {n : Nat} {c : List D} (h : TyD T n 26 c) : ∃ m : M, m.ok ∧ c = [.sl 1 (eL cS m.names), .sl 1 (eL cI m.signs), .int .i64 m.base, .sl 1 (eL cT m.trees)] := by
  obtain ⟨hl, hf⟩ := h.struct (ti := _) rfl rfl
  obtain ⟨_, g0⟩ := hf (0, 22) (by simp) _ rfl
  obtain ⟨_, g1⟩ := hf (1, 23) (by simp) _ rfl
  obtain ⟨_, g2⟩ := hf (2, 3) (by simp) _ rfl
  obtain ⟨_, g3⟩ := hf (3, 24) (by simp) _ rfl
  obtain ⟨es0, e0, b0, f0⟩ := g0.slice rfl rfl rfl
  obtain ⟨es1, e1, b1, f1⟩ := g1.slice rfl rfl rfl
  obtain ⟨x2, e2, _⟩ := g2.int rfl rfl
  obtain ⟨es3, e3, b3, f3⟩ := g3.slice rfl rfl rfl
  obtain ⟨l0, rfl, q0, k0⟩ := eL_of (f := cS) (fun c hc => (let ⟨_, hm⟩ := f0 c hc; ty_str hm))
  obtain ⟨l1, rfl, q1, _⟩ := eL_of (f := cI) (fun c hc => (let ⟨_, hm⟩ := f1 c hc; ty_int hm))
  obtain ⟨l3, rfl, q3, k3⟩ := eL_of (f := cT) (fun c hc => (let ⟨_, hm⟩ := f3 c hc; ty_tree hm))
  refine ⟨⟨l0, l1, x2, l3⟩, ⟨by dsimp only; omega, k0, by dsimp only; omega, by dsimp only; omega, k3⟩, ?_⟩
  match c, hl with
  | [c0, c1, c2, c3], _ =>
    simp at e0 e1 e2 e3
    simp [e0, e1, e2, e3]

end Go.H.S1

namespace Go.Proofs.Ytjjlpjdaffdceaa.fnExactNodesIn
open Go.ChangeShapes Go.WideShapes Go.ChangeAt Go.RowKit
open Go.ChangeMaps (open_string shut_string)
set_option linter.unusedVariables false
theorem own : ownKnob Try.prog.godebug = none := by kernel_rfl
theorem laidOut : laidOutB Try.prog = true := by kernel_rfl
set_option maxRecDepth 100000 in
theorem lifted (os : Os) (started : os.Started) (H : Type) (enc : TypeId × Value → H) :
    ReturnsInHanded {} Try.checked os 3 .any (Rows.fnExactNodesInSpec.pre6 enc Try.prog Try.f3 Rows.fnExactNodesInRow.domain false) (Rows.fnExactNodesInSpec.post enc Try.prog Try.f3 false true false false) := by
  refine returnsInHanded_of_change_sized (C := Try.checked) own started (by kernel_rfl) Try.func3
    (ChangeSpec.witness6 (enc := enc) (C := Try.checked) false ⟨#[], #[.agg #[.slice none 0 0, .slice none 0 0, .int .i64 0, .slice none 0 0]], []⟩ 8 (by kernel_rfl) (by kernel_rfl) (by kernel_rfl) (by kernel_rfl)) ?_
  intro W base args ds gs before hval0 hW hcnd hsz0 _
  have hval : ∀ (j : Nat) t v, Try.f3.params[j]? = some t → args[j]? = some v → Value.okWide Try.prog W .any base t v := hval0
  have hW' := hW
  obtain ⟨p, q, hA0, hV, rfl, hfz, hnd⟩ := hW
  have hA : DataW.TrodAll enc Try.prog W 0 (fun _ => true) true Try.f3.params.toList args.toList ds p := hA0
  rw [Try.params3] at hA hval
  obtain ⟨v0, vs0, d0, ds0, p0, q0, hargs, rfl, rfl, h0, r0⟩ := trodAll_cons hA
  obtain ⟨rfl, rfl, rfl⟩ := trodAll_nil r0
  obtain rfl : args = #[v0] := by cases args; simp_all
  obtain ⟨rfl, rfl⟩ := trodVars_none hV
  have k0 := h0
  have lt0 : ∀ x ∈ p0, x.block < W.heap.size := by obtain ⟨m, hm⟩ := k0; exact DataW.trod_lt m _ _ _ hm
  obtain ⟨cs0, rfl, _⟩ := okWide_struct Try.underlying25 (hval 0 26 v0 rfl rfl)
  obtain ⟨fuel, hf⟩ := h0
  obtain ⟨ds0, t0, l0, c0, z0⟩ := Go.H.trod_fz Go.H.S1.hT Go.H.S1.hplain fuel 26 _ _ _ rfl hf
  obtain ⟨m, hm, rfl⟩ := Go.H.S1.ty_model t0
  have hspec := (Go.H.S1.law_spec m hm).2 (· < W.heap.size) W [.agg cs0] (fun b hb => hb) ⟨rfl, fun j av v hj hv => by
    cases j with
    | zero =>
      simp at hj hv
      subst hj; subst hv
      refine ⟨cs0.toList, by simp, ?_, fun j c u hc hu => ?_⟩
      · simpa [Value.cells] using c0
      · match j, hc with
        | 0, hc => simp at hc; subst hc; exact z0 0 _ u rfl hu
        | 1, hc => simp at hc; subst hc; exact z0 1 _ u rfl hu
        | 2, hc => simp at hc; subst hc; exact z0 2 _ u rfl hu
        | 3, hc => simp at hc; subst hc; exact z0 3 _ u rfl hu
        | j + 4, hc => simp at hc
    | succ j => simp at hj⟩
  clear hA0 hval0 hsz0
  refine hspec.mono fun e W' ⟨v, κ', st', a', he, _, _, hk, hav⟩ => ?_
  have bel := hk.below
  subst he
  obtain rfl : v = .bool true := by cases hav; rfl
  exact ⟨_, rfl, _, _, _, [], _, [], hW', trodAll_mk1 (shut_bool Try.underlying4 _), (trodAll_cons_mk (Below.trod laidOut (by kernel_rfl) (of_decide_eq_true (by kernel_rfl)) k0 bel lt0) trodAll_mk0), rfl, bel.frame _, fun h => by cases h⟩
theorem over : Rows.fnExactNodesInRow.holds Try.pinned (OpenSpec.ofChange Rows.fnExactNodesInSpec) :=
  OpenClaim.holds_of_wide 3 Try.f3 rfl rfl rfl rfl rfl rfl rfl ⟨rfl, rfl, rfl, rfl, rfl⟩ rfl rfl rfl rfl rfl (by kernel_rfl) Try.func3 (by kernel_rfl)
    (of_decide_eq_true (by kernel_rfl)) (by unfold Func.isWrapper; first | (rw [if_pos (by decide +kernel)]; kernel_rfl) | (rw [if_neg (by decide +kernel)]; exact ⟨rfl, rfl⟩))
    (fun os started H enc _ => lifted os started H enc)
theorem proved : Rows.FnExactNodesInSaid := over
#print axioms proved
end Go.Proofs.Ytjjlpjdaffdceaa.fnExactNodesIn
