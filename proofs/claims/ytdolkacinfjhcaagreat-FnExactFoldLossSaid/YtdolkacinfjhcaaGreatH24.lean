/- Framework H, part 24: one walk serves every order, calls let in. -/
import Derived.Test.YtdolkacinfjhcaaGreatH23
set_option linter.unusedSimpArgs false
set_option linter.unusedVariables false
set_option linter.constructorNameAsVariable false
namespace Go.H
open Go.RowKit
section
variable {P : Program} {T : TypeId → Option TI} {F0 L : Nat → Prop} {w0 w w' w1 : World} {st st0 st' : St} {a a0 : Act} {κ κ' : Con} {hh : List (Nat × Ent)} {ops : Array Oper} {rs : List AV}
theorem chain_reps : ∀ {l : List Oper} {st st' : St} {rs : List AV} {a : Act}, Chain P ops l st rs st' → RepK F0 L w0 st a w κ → ∀ i, ∃ a', RepK F0 L w0 (stAt st l rs i) a' w κ
 | _, _, _, _, a, .nil st, h, i => ⟨a, by cases i <;> exact h⟩
 | _, _, _, _, a, .cons (o := o) (l := l) (st := st) (r := r) (rs := rs) hy hd hc, h, i => by
  cases i with
  | zero => exact ⟨a, h⟩
  | succ i =>
   obtain ⟨⟨v, hv⟩, _⟩ := hy F0 L w0 a w κ h
   have h' : RepK F0 L w0 (st.slot o.dst r) (a.put o.dst v) w κ := by
    cases hdst : o.dst with
    | none => exact h
    | some d => exact h.put hv (hd d hdst)
   exact chain_reps hc h' i
structure CInv (ops : Array Oper) (rs : List AV) (κ : Con) (h : List (Nat × Ent)) (N : Nat) (a0 : Act) (w1 : World) (listed : Array Bool) (a : Act) (w' : World) : Prop where
 grew : Grew w1 w'
 size : a.tmps.size = N
 dfs : a.defers = []
 lsize : listed.size = ops.size
 other : ∀ t, (∀ (j : Nat) (o : Oper), ops[j]? = some o → o.dst ≠ some t) → a.tmps[t]? = a0.tmps[t]?
 done : ∀ (j : Nat) (o : Oper) (d : Tmp) (r : AV), ops[j]? = some o → listed.getD j true = true → o.dst = some d → rs[j]? = some r → ∃ v, a.tmps[d]? = some v ∧ AVRep w' κ h r v
theorem Grew.trans {a b c : World} (h : Grew a b) (k : Grew b c) : Grew a c :=
 ⟨k.os.trans h.os, k.tape.trans h.tape, k.output.trans h.output, Nat.le_trans h.size k.size, fun i hi => (k.block i (Nat.lt_of_lt_of_le hi h.size)).trans (h.block i hi)⟩
theorem conf_end (h : RepK F0 L w0 st0 a0 w1 κ) (hB : confB ops = true) (hlen : rs.length = ops.toList.length) {listed : Array Bool} (hI : CInv ops rs κ st0.h st0.N a0 w1 listed a w') (hall : ∀ i, i < ops.size → listed.getD i true = true) :
  RepK F0 L w0 (stAt st0 ops.toList rs ops.toList.length) a w' κ := by
 simp only [confB, Bool.and_eq_true] at hB
 refine h.ofSlots hI.grew (stAt_h _ _ _ _) hI.size hI.dfs fun t av hl => ?_
 rcases look_stAt ops.toList rs st0 hB.1 hlen _ t av hl with ⟨j, o, h1, h2, h3, h4⟩ | ⟨h1, h2⟩
 ·exact hI.done j o t av (by rw [← Array.getElem?_toList]; exact h2) (hall j (by simpa using h1)) h3 h4
 ·obtain ⟨v, hv, hr⟩ := h.tmps t av h2
  refine ⟨v, ?_, hr.keep (fun b hb => hI.grew.block b (h.f2 b hb))⟩
  rw [hI.other t (fun j o ho => h1 j o (by have := (Array.getElem?_eq_some_iff.1 ho).1; simpa using this) (by rw [Array.getElem?_toList]; exact ho))]
  exact hv
theorem conf_step (h : RepK F0 L w0 st0 a0 w1 κ) (hB : confB ops = true) (hc : Chain P ops ops.toList st0 rs st') {listed : Array Bool} (hI : CInv ops rs κ st0.h st0.N a0 w1 listed a w') {i : Nat} {o : Oper} (hi : ops[i]? = some o)
  (hu : listed.getD i true = false) (hrd : ∀ e ∈ o.after, Region.binds .any e = true → listed.getD e.on false = true) {K : Act → World → Prop} {Q : Exit → Act → World → Prop}
  (hK : ∀ a'' w'', CInv ops rs κ st0.h st0.N a0 w1 (listed.setIfInBounds i true) a'' w'' → K a'' w'') : wpOp P ops Q i K a w' := by
 obtain ⟨c1, c2, c3⟩ := chain_spec hc
 obtain ⟨r, r1, r2, r3⟩ := c3 i o (by rw [Array.getElem?_toList]; exact hi)
 obtain ⟨s1, s2, s3⟩ := waitB_spec hB hi
 have hB' := hB
 simp only [confB, Bool.and_eq_true] at hB'
 have hdist := hB'.1
 have hkeep : ∀ {av : AV} {v : Value}, AVRep w1 κ st0.h av v → AVRep w' κ st0.h av v := fun hr => hr.keep (fun b hb => hI.grew.block b (h.f2 b hb))
 have hex : ∀ t, ∃ v, (∀ av, look (stAt st0 ops.toList rs i).t t = some av → AVRep w' κ st0.h av v) ∧ (t ∈ o.looksAt ops → t < st0.N → a.tmps[t]? = some v) := by
  intro t
  by_cases hex : ∃ (j : Nat) (o' : Oper), ops[j]? = some o' ∧ o'.dst = some t
  ·obtain ⟨j, o', hj, hd⟩ := hex
   have hj' : ops.toList[j]? = some o' := by rw [Array.getElem?_toList]; exact hj
   by_cases ht : t ∈ o.looksAt ops
   ·obtain ⟨e, he1, he2, he3⟩ := s1 t ht j o' hj hd
    have hji : j < i := by rw [← he3]; exact s2 e he1
    have hlj : listed.getD j true = true := by
     have := hrd e he1 he2
     rw [he3] at this
     rcases Nat.lt_or_ge j listed.size with h1 | h1
     ·simp [h1] at this ⊢; exact this
     ·simp [Array.getElem?_eq_none h1] at this
    obtain ⟨rj, q1, _, _⟩ := c3 j o' hj'
    obtain ⟨v, hv, hr⟩ := hI.done j o' t rj hj hlj hd q1
    refine ⟨v, fun av hl => ?_, fun _ _ => hv⟩
    rcases look_stAt ops.toList rs st0 hdist c1 i t av hl with ⟨j2, o2, h1, h2, h3, h4⟩ | ⟨h1, h2⟩
    ·obtain rfl := distB_spec hdist j2 j o2 o' t h2 hj' h3 hd
     rw [q1] at h4
     cases h4
     exact hr
    ·exact absurd hd (h1 j o' hji hj')
   ·cases hl : look (stAt st0 ops.toList rs i).t t with
    | none => exact ⟨undef, fun av h => (by cases h), fun h => absurd h ht⟩
    | some av =>
     rcases look_stAt ops.toList rs st0 hdist c1 i t av hl with ⟨j2, o2, h1, h2, h3, h4⟩ | ⟨h1, h2⟩
     ·obtain ⟨rj, q1, q2, _⟩ := c3 j2 o2 h2
      rw [q1] at h4
      cases h4
      obtain ⟨aj, hj⟩ := chain_reps hc h j2
      obtain ⟨⟨v, hv⟩, _⟩ := q2 F0 L w0 aj w1 κ hj
      rw [(stAt_h _ _ _ _).1] at hv
      exact ⟨v, fun av' h => (by cases h; exact hkeep hv), fun h => absurd h ht⟩
     ·obtain ⟨v, hv, hr⟩ := h.tmps t av h2
      exact ⟨v, fun av' h => (by cases h; exact hkeep hr), fun h => absurd h ht⟩
  ·have hno : ∀ (j : Nat) (o' : Oper), ops[j]? = some o' → o'.dst ≠ some t := fun j o' hj hd => hex ⟨j, o', hj, hd⟩
   refine ⟨a.tmps.getD t undef, fun av hl => ?_, fun _ hlt => ?_⟩
   ·rcases look_stAt ops.toList rs st0 hdist c1 i t av hl with ⟨j2, o2, h1, h2, h3, h4⟩ | ⟨h1, h2⟩
    ·exact absurd h3 (hno j2 o2 (by rw [← Array.getElem?_toList]; exact h2))
    ·obtain ⟨v, hv, hr⟩ := h.tmps t av h2
     have := hI.other t hno
     rw [hv] at this
     simp only [Array.getD_eq_getD_getElem?, this, Option.getD_some]
     exact hkeep hr
   ·have : t < a.tmps.size := by rw [hI.size]; exact hlt
    simp [this]
 let g : Nat → Value := fun t => Classical.choose (hex t)
 have hg : ∀ t, (∀ av, look (stAt st0 ops.toList rs i).t t = some av → AVRep w' κ st0.h av (g t)) ∧ (t ∈ o.looksAt ops → t < st0.N → a.tmps[t]? = some (g t)) := fun t => Classical.choose_spec (hex t)
 let a' : Act := { tmps := Array.ofFn (n := st0.N) fun t => g t.1, defers := [] }
 obtain ⟨ai, hai⟩ := chain_reps hc h i
 have hsz : (stAt st0 ops.toList rs i).N = st0.N := (stAt_h _ _ _ _).2.2
 have hr' : RepK F0 L w0 (stAt st0 ops.toList rs i) a' w' κ := h.ofSlots hI.grew (stAt_h _ _ _ _) (by simp [a']) rfl fun t av hl => by
  have hlt : t < st0.N := by
   obtain ⟨v, hv, _⟩ := hai.tmps t av hl
   have := (Array.getElem?_eq_some_iff.1 hv).1
   rw [hai.size, hsz] at this
   exact this
  exact ⟨g t, by simp [a', hlt], (hg t).1 av hl⟩
 have hsame : ∀ t ∈ o.looksAt ops, a'.tmps[t]? = a.tmps[t]? := fun t ht => by
  rcases Nat.lt_or_ge t st0.N with hlt | hge
  ·rw [(hg t).2 ht hlt]
   simp [a', hlt]
  ·rw [Array.getElem?_eq_none (by simp [a']; exact hge), Array.getElem?_eq_none (by rw [hI.size]; exact hge)]
 have heval : execOp a.eval o = execOp a'.eval o := execOp_congr o s3 fun x hx => by
  cases x with
  | tmp t =>
   have := hsame t (List.mem_append_left _ (List.mem_filterMap.2 ⟨.tmp t, by simpa using hx, rfl⟩))
   simp only [Act.eval, Array.getD_eq_getD_getElem?, this]
  | const v => rfl
  | global g => rfl
  | func f => rfl
 have hwant : Region.wanted o (yielded ops a.tmps) = Region.wanted o (yielded ops a'.tmps) := by
  unfold Region.wanted
  cases hgd : o.guard with
  | none => rfl
  | some gw =>
   obtain ⟨gi, want⟩ := gw
   simp only [yielded]
   cases hdst : (ops[gi]?).bind (·.dst) with
   | none => rfl
   | some d =>
    have := hsame d (List.mem_append_right _ (by simp [hgd, hdst]))
    simp only [Option.bind_some, this]
 have hfin : ∀ v w'', Grew w' w'' → AVRep w'' κ st0.h r v → K (a.put o.dst v) w'' := fun v w'' hgw hav => by
  refine hK _ _ { grew := hI.grew.trans hgw, size := ?_, dfs := ?_, lsize := by simp [hI.lsize], other := fun t ht => ?_, done := fun j o' d rj hj hlj hd hrj => ?_ }
  ·cases hdst : o.dst <;> simp [Act.put, hI.size]
  ·cases hdst : o.dst <;> simp [Act.put, hI.dfs]
  ·rw [← hI.other t ht]
   cases hdst : o.dst with
   | none => rfl
   | some d =>
    have := ht i o hi
    rw [hdst] at this
    simp only [Act.put]
    exact Array.getElem?_setIfInBounds_ne (by simpa using this)
  ·by_cases hji : j = i
   ·subst hji
    rw [hi] at hj
    cases hj
    rw [r1] at hrj
    cases hrj
    refine ⟨v, ?_, hav⟩
    rw [hd]
    simp [Act.put, hI.size, r3 d hd]
   ·rw [getD_set_ne true (fun e => hji e.symm)] at hlj
    obtain ⟨u, hu, hru⟩ := hI.done j o' d rj hj hlj hd hrj
    refine ⟨u, ?_, hru.keep (fun b hb => hgw.block b (Nat.lt_of_lt_of_le (h.f2 b hb) hI.grew.size))⟩
    cases hdst : o.dst with
    | none => exact hu
    | some d' =>
     have hne : d' ≠ d := fun e => hji (distB_spec hdist j i o' o d (by rw [Array.getElem?_toList]; exact hj) (by rw [Array.getElem?_toList]; exact hi) hd (by rw [hdst, e]))
     simp only [Act.put]
     rw [Array.getElem?_setIfInBounds_ne hne]
     exact hu
 unfold wpOp
 simp only [hi]
 obtain ⟨_, hy⟩ := r2 F0 L w0 a' w' κ hr'
 rw [(stAt_h _ _ _ _).1] at hy
 rcases hy with ⟨hw, hdo⟩ | ⟨hw, hav⟩
 ·rw [if_pos (by rw [hwant]; exact hw)]
  refine .inl (does_wp (R := fun v w'' => Grew w' w'' ∧ AVRep w'' κ st0.h r v) ?_ fun v w'' hR => hfin v w'' hR.1 hR.2)
  unfold Oper.does at hdo ⊢
  rw [heval]
  exact hdo
 ·rw [if_neg (by rw [hwant, hw]; simp)]
  exact hfin undef w' (Grew.refl w') hav
theorem conf_any (h : RepK F0 L w0 st0 a0 w1 κ) (hB : confB ops = true) (hc : Chain P ops ops.toList st0 rs st') {Q : Exit → Act → World → Prop} (hQ : ∀ a' w', RepK F0 L w0 st' a' w' κ → Q .normal a' w') :
  ∀ (fuel : Nat) (listed : Array Bool) (a : Act) (w' : World), unl ops.size listed ≤ fuel → CInv ops rs κ st0.h st0.N a0 w1 listed a w' → wpAny P .any ops Q fuel listed a w' := by
 obtain ⟨c1, c2, _⟩ := chain_spec hc
 have hend : ∀ {listed : Array Bool} {a : Act} {w' : World}, CInv ops rs κ st0.h st0.N a0 w1 listed a w' → (∀ i, i < ops.size → listed.getD i true = true) → Q .normal a w' := fun hI hall => hQ _ _ (by rw [c2]; exact conf_end h hB c1 hI hall)
 intro fuel
 induction fuel with
 | zero =>
  intro listed a w' hf hI
  have hall : ∀ i, i < ops.size → listed.getD i true = true := fun i hi => by
   have h0 : unl ops.size listed = 0 := by omega
   unfold unl at h0
   rw [List.countP_eq_zero] at h0
   have := h0 i (List.mem_range.2 hi)
   simpa using this
  refine ⟨?_, hend hI hall⟩
  cases hr : Region.ready .any ops listed with
  | nil => rfl
  | cons i r =>
   obtain ⟨h1, o, h2, _⟩ := mem_ready.1 (show i ∈ Region.ready .any ops listed by rw [hr]; simp)
   rw [hall i (Array.getElem?_eq_some_iff.1 h2).1] at h1
   cases h1
 | succ fuel ih =>
  intro listed a w' hf hI
  refine ⟨fun h0 => hend hI fun i => ?_, fun i hi => ?_⟩
  ·induction i using Nat.strongRecOn with
   | _ i ihi =>
    intro hi
    cases hl : listed.getD i true with
    | true => rfl
    | false =>
     have ho : ops[i]? = some ops[i] := Array.getElem?_eq_getElem hi
     have : i ∈ Region.ready .any ops listed := mem_ready.2 ⟨hl, _, ho, fun e he hb => by
      have hlt := (waitB_spec hB ho).2.1 e he
      have := ihi e.on hlt (by omega)
      have hs : e.on < listed.size := by rw [hI.lsize]; omega
      simp [hs] at this ⊢
      exact this⟩
     rw [h0] at this
     cases this
  ·obtain ⟨h1, o, h2, h3⟩ := mem_ready.1 hi
   exact conf_step h hB hc hI h2 h1 h3 fun a'' w'' hI' => ih _ a'' w'' (by have := unl_lt (Array.getElem?_eq_some_iff.1 h2).1 h1; omega) hI'
end
end Go.H
