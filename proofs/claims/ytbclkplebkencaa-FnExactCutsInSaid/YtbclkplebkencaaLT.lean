/- Library, part T: what an argument of each type reads as. -/
import Derived.Test.YtbclkplebkencaaLC
namespace Go.H.S
open Go Go.Proofs Go.H
set_option linter.unusedSimpArgs false
set_option linter.unusedVariables false


theorem hplain : ∀ t ti, Tp t = some ti → plainT Tp ti = true := plain_tab (tab := ptab) (by kernel_rfl)
def i64 (x : Int) : Prop := -9223372036854775808 ≤ x ∧ x ≤ 9223372036854775807
theorem list_of_len {α : Type} {l : List α} {a : α} (h : l.length = 1) (h' : l.take 1 = [a]) : l = [a] := by
  match l, h with
  | [x], _ => simpa using h'
theorem wf_i64 {x : Int} (h : (Lit.int .i64 x).wf = true) : i64 x := by
  unfold Lit.wf at h
  simp only [Bool.and_eq_true, decide_eq_true_eq] at h
  exact ⟨h.1, h.2⟩
theorem ty_str {n : Nat} {c : List D} (h : TyD Tp n t_string c) : ∃ x, c = cS x ∧ x.size ≤ 9223372036854775807 := h.str rfl rfl
theorem ty_int {n : Nat} {c : List D} (h : TyD Tp n t_int c) : ∃ x, c = cI x ∧ i64 x := by
  obtain ⟨x, h1, h2⟩ := h.int rfl rfl
  exact ⟨x, h1, wf_i64 h2⟩
def rgN (n : Nd) : Prop := i64 n.f ∧ i64 n.c ∧ i64 n.l ∧ i64 n.r ∧ i64 n.v
theorem ty_ints {n : Nat} {c : List D} (h : TyD Tp n t_Lint c) : ∃ x, c = cIs x ∧ (x.length ≤ 9223372036854775807 ∧ ∀ y ∈ x, i64 y) := by
  obtain ⟨es, e, b, f⟩ := h.slice rfl rfl rfl
  obtain ⟨l, rfl, q, k⟩ := eL_of (f := cI) (fun c hc => (let ⟨_, hm⟩ := f c hc; ty_int hm))
  exact ⟨l, by rw [e]; rfl, by omega, k⟩
theorem ty_strs {n : Nat} {c : List D} (h : TyD Tp n t_Lstring c) : ∃ x, c = cSs x ∧ (x.length ≤ 9223372036854775807 ∧ ∀ y ∈ x, y.size ≤ 9223372036854775807) := by
  obtain ⟨es, e, b, f⟩ := h.slice rfl rfl rfl
  obtain ⟨l, rfl, q, k⟩ := eL_of (f := cS) (fun c hc => (let ⟨_, hm⟩ := f c hc; ty_str hm))
  exact ⟨l, by rw [e]; rfl, by omega, k⟩

theorem ty_bytes {n : Nat} {c : List D} (h : TyD Tp n t_Luint8 c) : ∃ x : List Int, c = [.sl 1 (eL (fun y => [D.int .u8 y]) x)] ∧ (x.length ≤ 9223372036854775807 ∧ ∀ y ∈ x, 0 ≤ y ∧ y ≤ 255) := by
  obtain ⟨es, e, b, f⟩ := h.slice rfl rfl rfl
  obtain ⟨l, rfl, q, k⟩ := eL_of (f := fun y => [D.int .u8 y]) (ok := fun y => 0 ≤ y ∧ y ≤ 255) (fun c hc => (let ⟨_, hm⟩ := f c hc; by
    obtain ⟨x, h1, h2⟩ := hm.int rfl rfl
    refine ⟨x, h1, ?_⟩
    unfold Lit.wf at h2
    simp only [Bool.and_eq_true, decide_eq_true_eq] at h2
    exact ⟨h2.1, h2.2⟩))
  exact ⟨l, by rw [e], by omega, k⟩

theorem ty_node {n : Nat} {c : List D} (h : TyD Tp n t_laws_Node c) : ∃ x, c = cN x ∧ rgN x := by
  obtain ⟨hl, hf⟩ := h.struct (ti := _) rfl rfl
  obtain ⟨_, g0⟩ := hf (0, t_int) (by simp) _ rfl
  obtain ⟨_, g1⟩ := hf (1, t_int) (by simp) _ rfl
  obtain ⟨_, g2⟩ := hf (2, t_int) (by simp) _ rfl
  obtain ⟨_, g3⟩ := hf (3, t_int) (by simp) _ rfl
  obtain ⟨_, g4⟩ := hf (4, t_int) (by simp) _ rfl
  obtain ⟨x0, e0, r0⟩ := ty_int g0
  obtain ⟨x1, e1, r1⟩ := ty_int g1
  obtain ⟨x2, e2, r2⟩ := ty_int g2
  obtain ⟨x3, e3, r3⟩ := ty_int g3
  obtain ⟨x4, e4, r4⟩ := ty_int g4
  refine ⟨⟨x0, x1, x2, x3, x4⟩, ?_, r0, r1, r2, r3, r4⟩
  match c, hl with
  | [c0, c1, c2, c3, c4], _ =>
    simp [cI] at e0 e1 e2 e3 e4
    simp [cN, e0, e1, e2, e3, e4]
theorem ty_tree {n : Nat} {c : List D} (h : TyD Tp n t_laws_Tree c) : ∃ x, c = cT x ∧ (x.length ≤ 9223372036854775807 ∧ ∀ n ∈ x, rgN n) := by
  obtain ⟨hl, hf⟩ := h.struct (ti := _) rfl rfl
  obtain ⟨_, g0⟩ := hf (0, t_Llaws_Node) (by simp) _ rfl
  obtain ⟨es, e0, e1, e2⟩ := g0.slice rfl rfl rfl
  obtain ⟨l, rfl, l1, k⟩ := eL_of (f := cN) (fun c hc => (let ⟨_, hm⟩ := e2 c hc; ty_node hm))
  exact ⟨l, list_of_len hl (by simpa using e0), by omega, k⟩

def rgModel (m : Mdl) : Prop := (∀ x ∈ m.signs, i64 x) ∧ i64 m.base ∧ ∀ t ∈ m.trees, ∀ n ∈ t, rgN n
theorem ty_model {n : Nat} {c : List D} (h : TyD Tp n t_laws_Model c) : ∃ m : Mdl, (okModel m ∧ rgModel m) ∧ c = [.sl 1 (eL cS m.names), .sl 1 (eL cI m.signs), .int .i64 m.base, .sl 1 (eL cT m.trees)] := by
  obtain ⟨hl, hf⟩ := h.struct (ti := _) rfl rfl
  obtain ⟨_, g0⟩ := hf (0, t_Lstring) (by simp) _ rfl
  obtain ⟨_, g1⟩ := hf (1, t_Lint) (by simp) _ rfl
  obtain ⟨_, g2⟩ := hf (2, t_int) (by simp) _ rfl
  obtain ⟨_, g3⟩ := hf (3, t_Llaws_Tree) (by simp) _ rfl
  obtain ⟨l0, e0, q0, k0⟩ := ty_strs g0
  obtain ⟨l1, e1, q1, k1⟩ := ty_ints g1
  obtain ⟨x2, e2, r2⟩ := ty_int g2
  obtain ⟨es3, e3, b3, f3⟩ := g3.slice rfl rfl rfl
  obtain ⟨l3, rfl, q3, k3⟩ := eL_of (f := cT) (fun c hc => (let ⟨_, hm⟩ := f3 c hc; ty_tree hm))
  refine ⟨⟨l0, l1, x2, l3⟩, ⟨⟨⟨q0, k0⟩, q1, by dsimp only; omega, fun t ht => (k3 t ht).1⟩, k1, r2, fun t ht => (k3 t ht).2⟩, ?_⟩
  match c, hl with
  | [c0, c1, c2, c3], _ =>
    simp [cSs, cIs, cI] at e0 e1 e2 e3
    simp [e0, e1, e2, e3]
end Go.H.S
