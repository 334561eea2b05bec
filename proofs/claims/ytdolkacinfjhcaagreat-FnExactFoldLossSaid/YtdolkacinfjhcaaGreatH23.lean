/- Framework H, part 23: regions that draw their order, with calls that bring no memory. -/
import Derived.Test.YtdolkacinfjhcaaGreatH22
set_option linter.unusedSimpArgs false
set_option linter.unusedVariables false
set_option linter.constructorNameAsVariable false
namespace Go.H
open Go.RowKit
def Oper.does (P : Program) (o : Oper) (ρ : Operand → Value) (w : World) (R : Value → World → Prop) : Prop :=
 match (execOp ρ o).run P w with
 | .ok (.value v) w' => R v w'
 | .ok (.enter f args) w' => Calls P f args w' fun e w'' => ∃ v, e = .returned v ∧ R v w''
 | _ => False
def St.slot (st : St) (dst : Option Tmp) (r : AV) : St := match dst with | none => st | some d => { st with t := tput st.t d r }
section
variable {P : Program} {T : TypeId → Option TI} {F0 L : Nat → Prop} {w0 w w' : World} {st : St} {a : Act} {κ κ' : Con} {hh : List (Nat × Ent)}
theorem does_wp {o : Oper} {R : Value → World → Prop} {next : Act → World → Prop} {Q : Exit → Act → World → Prop} (h : Oper.does P o a.eval w R) (hn : ∀ v w', R v w' → next (a.put o.dst v) w') : o.wp P a w next Q := by
 unfold Oper.does at h
 unfold Oper.wp
 generalize (execOp a.eval o).run P w = r at *
 cases r with
 | ok n w' =>
  cases n <;> simp only at h <;> simp only [Oper.upon]
  case value v => exact hn _ _ h
  case enter f args => exact h.mono fun e w'' ⟨v, he, hR⟩ => by subst he; exact hn _ _ hR
 | halt x w' => simp only at h
def Yl (P : Program) (ops : Array Oper) (o : Oper) (st : St) (r : AV) : Prop :=
 ∀ F0 L w0 a w κ, RepK F0 L w0 st a w κ → (∃ v, AVRep w κ st.h r v) ∧
  ((Region.wanted o (yielded ops a.tmps) = true ∧ Oper.does P o a.eval w fun v w' => Grew w w' ∧ AVRep w' κ st.h r v) ∨ (Region.wanted o (yielded ops a.tmps) = false ∧ AVRep w κ st.h r undef))
inductive Chain (P : Program) (ops : Array Oper) : List Oper → St → List AV → St → Prop
 | nil (st : St) : Chain P ops [] st [] st
 | cons {o : Oper} {l : List Oper} {st st' : St} {r : AV} {rs : List AV} (hy : Yl P ops o st r) (hd : ∀ d, o.dst = some d → d < st.N) (h : Chain P ops l (st.slot o.dst r) rs st') : Chain P ops (o :: l) st (r :: rs) st'
def stAt (st : St) : List Oper → List AV → Nat → St
 | o :: l, r :: rs, i + 1 => stAt (st.slot o.dst r) l rs i
 | _, _, _ => st
theorem slot_h (st : St) (dst : Option Tmp) (r : AV) : (st.slot dst r).h = st.h ∧ (st.slot dst r).n = st.n ∧ (st.slot dst r).N = st.N := by cases dst <;> exact ⟨rfl, rfl, rfl⟩
theorem stAt_h : ∀ (l : List Oper) (rs : List AV) (st : St) (i : Nat), (stAt st l rs i).h = st.h ∧ (stAt st l rs i).n = st.n ∧ (stAt st l rs i).N = st.N
 | [], _, _, _ => ⟨rfl, rfl, rfl⟩
 | _ :: _, [], _, _ => ⟨rfl, rfl, rfl⟩
 | _ :: _, _ :: _, _, 0 => ⟨rfl, rfl, rfl⟩
 | o :: l, r :: rs, st, i + 1 => by
  obtain ⟨h1, h2, h3⟩ := stAt_h l rs (st.slot o.dst r) i
  obtain ⟨g1, g2, g3⟩ := slot_h st o.dst r
  simp only [stAt]
  exact ⟨h1.trans g1, h2.trans g2, h3.trans g3⟩
theorem chain_spec {ops : Array Oper} : ∀ {l : List Oper} {st st' : St} {rs : List AV}, Chain P ops l st rs st' → rs.length = l.length ∧ st' = stAt st l rs l.length ∧
  ∀ (i : Nat) (o : Oper), l[i]? = some o → ∃ r, rs[i]? = some r ∧ Yl P ops o (stAt st l rs i) r ∧ ∀ d, o.dst = some d → d < st.N
 | _, _, _, _, .nil st => ⟨rfl, rfl, fun i o h => by simp at h⟩
 | _, _, _, _, .cons (o := o) (l := l) (st := st) (r := r) hy hd h => by
  obtain ⟨h1, h2, h3⟩ := chain_spec h
  refine ⟨by simp [h1], by simp only [List.length_cons, stAt]; exact h2, fun i o' hi => ?_⟩
  cases i with
  | zero => simp at hi; subst hi; exact ⟨r, rfl, hy, hd⟩
  | succ i =>
   obtain ⟨r', q1, q2, q3⟩ := h3 i o' (by simpa using hi)
   exact ⟨r', by simpa using q1, q2, fun d hd' => by rw [← (slot_h st o.dst r).2.2]; exact q3 d hd'⟩
def distB : List Oper → Bool
 | [] => true
 | o :: r => (match o.dst with | some d => r.all fun o' => o'.dst != some d | none => true) && distB r
theorem look_stAt : ∀ (l : List Oper) (rs : List AV) (st : St) (_ : distB l = true) (_ : rs.length = l.length) (i t : Nat) (av : AV), look (stAt st l rs i).t t = some av →
  (∃ j o, j < i ∧ l[j]? = some o ∧ o.dst = some t ∧ rs[j]? = some av) ∨ ((∀ j o, j < i → l[j]? = some o → o.dst ≠ some t) ∧ look st.t t = some av)
 | [], rs, st, _, _, i, t, av, h => .inr ⟨fun j o _ hj => by simp at hj, by cases i <;> exact h⟩
 | o :: l, [], st, _, hl, i, t, av, h => by simp at hl
 | o :: l, r :: rs, st, hd, hl, 0, t, av, h => .inr ⟨fun j o hj => by omega, h⟩
 | o :: l, r :: rs, st, hd, hl, i + 1, t, av, h => by
  simp only [distB, Bool.and_eq_true] at hd
  simp only [stAt] at h
  rcases look_stAt l rs (st.slot o.dst r) hd.2 (by simpa using hl) i t av h with ⟨j, o', h1, h2, h3, h4⟩ | ⟨h1, h2⟩
  ·exact .inl ⟨j + 1, o', by omega, by simpa using h2, h3, by simpa using h4⟩
  ·cases hdst : o.dst with
   | none =>
    rw [hdst] at h2
    refine .inr ⟨fun j o' hj hj' => ?_, h2⟩
    cases j with
    | zero => simp at hj'; subst hj'; rw [hdst]; simp
    | succ j => exact h1 j o' (by omega) (by simpa using hj')
   | some d =>
    rw [hdst] at h2
    simp only [St.slot, look_tput] at h2
    by_cases hdt : d = t
    ·rw [if_pos hdt] at h2
     exact .inl ⟨0, o, by omega, rfl, by rw [hdst, hdt], by simpa using h2⟩
    ·rw [if_neg hdt] at h2
     refine .inr ⟨fun j o' hj hj' => ?_, h2⟩
     cases j with
     | zero => simp at hj'; subst hj'; rw [hdst]; simpa using hdt
     | succ j => exact h1 j o' (by omega) (by simpa using hj')
theorem distB_spec : ∀ {l : List Oper}, distB l = true → ∀ (i j : Nat) (o o' : Oper) (d : Tmp), l[i]? = some o → l[j]? = some o' → o.dst = some d → o'.dst = some d → i = j
 | [], _, i, j, o, o', d, hi, _, _, _ => by simp at hi
 | x :: l, h, i, j, o, o', d, hi, hj, hd, hd' => by
  simp only [distB, Bool.and_eq_true] at h
  cases i with
  | zero =>
   cases j with
   | zero => rfl
   | succ j =>
    simp at hi; subst hi
    rw [hd] at h
    have := List.all_eq_true.1 h.1 o' (List.mem_of_getElem? (by simpa using hj))
    simp [hd'] at this
  | succ i =>
   cases j with
   | zero =>
    simp at hj; subst hj
    rw [hd'] at h
    have := List.all_eq_true.1 h.1 o (List.mem_of_getElem? (by simpa using hi))
    simp [hd] at this
   | succ j => rw [distB_spec h.2 i j o o' d (by simpa using hi) (by simpa using hj) hd hd']
def waitB (ops : Array Oper) (i : Nat) (o : Oper) : Bool :=
 (o.looksAt ops).all (fun t => (List.range ops.size).all fun j => match ops[j]? with
  | some o' => o'.dst != some t || o.after.any fun e => Region.binds .any e && e.on == j
  | none => true) && o.after.all (fun e => decide (e.on < i)) && (match o.op with | .select .. => false | _ => true)
def confB (ops : Array Oper) : Bool := distB ops.toList && (List.range ops.size).all fun i => match ops[i]? with | some o => waitB ops i o | none => true
theorem waitB_spec {ops : Array Oper} (h : confB ops = true) {i : Nat} {o : Oper} (hi : ops[i]? = some o) :
  (∀ t ∈ o.looksAt ops, ∀ j o', ops[j]? = some o' → o'.dst = some t → ∃ e ∈ o.after, Region.binds .any e = true ∧ e.on = j) ∧ (∀ e ∈ o.after, e.on < i) ∧ ∀ cs b, o.op ≠ .select cs b := by
 simp only [confB, Bool.and_eq_true, List.all_eq_true] at h
 have h2 := h.2 i (List.mem_range.2 (Array.getElem?_eq_some_iff.1 hi).1)
 simp only [hi, waitB, Bool.and_eq_true, List.all_eq_true] at h2
 obtain ⟨⟨h2, h3⟩, h4⟩ := h2
 refine ⟨fun t ht j o' hj hd => ?_, fun e he => ?_, fun cs b hs => by rw [hs] at h4; simp at h4⟩
 ·have := h2 t ht j (List.mem_range.2 (Array.getElem?_eq_some_iff.1 hj).1)
  simp only [hj, hd, bne_self_eq_false, Bool.false_or, Array.any_eq_true', Bool.and_eq_true, beq_iff_eq] at this
  exact this
 ·rw [Array.all_eq_true_iff_forall_mem] at h3
  simpa using h3 e he
theorem RepK.ofSlots {st0 : St} {a0 : Act} {w1 : World} (h : RepK F0 L w0 st0 a0 w1 κ) (g : Grew w1 w') {st1 : St} (hh : st1.h = st0.h ∧ st1.n = st0.n ∧ st1.N = st0.N) {a1 : Act} (hs : a1.tmps.size = st0.N) (hd : a1.defers = [])
  (ht : ∀ t av, look st1.t t = some av → ∃ v, a1.tmps[t]? = some v ∧ AVRep w' κ st0.h av v) : RepK F0 L w0 st1 a1 w' κ := by
 have hg := h.grew g
 obtain ⟨t1, h1, n1, N1⟩ := st1
 obtain ⟨t0, h0, n0, N0⟩ := st0
 simp only at hh
 obtain ⟨rfl, rfl, rfl⟩ := hh
 exact { below := hg.below, f0 := hg.f0, f1 := hg.f1, f2 := hg.f2, ents := hg.ents, new := hg.new, excl := hg.excl, inj := hg.inj, tmps := ht, size := hs, dfs := hd, kn := hg.kn, kv := hg.kv }
def unl (n : Nat) (listed : Array Bool) : Nat := (List.range n).countP fun i => !listed.getD i true
theorem countP_lt {p q : Nat → Bool} : ∀ {l : List Nat} (_ : ∀ x ∈ l, p x = true → q x = true) {i : Nat} (_ : i ∈ l) (_ : q i = true) (_ : p i = false), l.countP p < l.countP q
 | [], _, i, hi, _, _ => by cases hi
 | x :: l, h, i, hi, hq, hp => by
  have hle : l.countP p ≤ l.countP q := by
   refine List.countP_mono_left fun y hy hpy => ?_
   exact h y (by simp [hy]) hpy
  rcases List.mem_cons.1 hi with rfl | hm
  ·simp only [List.countP_cons, hq, hp]
   simp
   omega
  ·have := countP_lt (fun y hy => h y (by simp [hy])) hm hq hp
   simp only [List.countP_cons]
   have hx := h x (by simp)
   cases hpx : p x with
   | false => simp; split <;> omega
   | true => rw [hx hpx]; simp; omega
theorem unl_lt {n : Nat} {listed : Array Bool} {i : Nat} (hi : i < n) (h : listed.getD i true = false) : unl n (listed.setIfInBounds i true) < unl n listed := by
 refine countP_lt (fun x _ hx => ?_) (List.mem_range.2 hi) (by simp [h]) ?_
 ·simp only [Bool.not_eq_true'] at hx ⊢
  by_cases hxi : i = x
  ·subst hxi; exact h
  ·rwa [getD_set_ne true hxi] at hx
 ·have hlt : i < listed.size := by
   rcases Nat.lt_or_ge i listed.size with h1 | h1
   ·exact h1
   ·simp [Array.getElem?_eq_none h1] at h
  simp [hlt]
end
end Go.H
