/- Framework H, part 25: the rule for regions that draw their order. -/
import Derived.Test.YtdolkacinfjhcaaGreatH24
set_option linter.unusedSimpArgs false
set_option linter.unusedVariables false
set_option linter.constructorNameAsVariable false
namespace Go.H
open Go.RowKit
def AV.shapeB : AV → Bool
 | .tup xs => xs.all fun x => x.1 || Nat.beq x.2.length 1
 | _ => true
def callC (P : Program) (st : St) (f : AV) (args : List AV) (K : AV → Prop) : Prop :=
 match calleeOf f with
 | some (g, caps) => match roAs st.h (args ++ caps) with
  | some args' => ∃ res n', FnSpec P g args' res [] n' ∧ (res.flat && res.shapeB) = true ∧ K res
  | none => False
 | none => False
def opC (P : Program) (T : TypeId → Option TI) (st : St) (o : Oper) (K : AV → Prop) : Prop :=
 match o.op with
 | .call { callee := .value f, args, argTypes := _ } => callC P st (evO st f) (args.toList.map (evO st)) K
 | op => qqE T st op K
def rgC (P : Program) (T : TypeId → Option TI) (ops : List Oper) (K : St → Prop) : List Oper → St → Prop
 | [], st => K st
 | o :: r, st => match o.guard with
  | none => opC P T st o fun av => setT st o.dst av (rgC P T ops K r)
  | some (j, want) => match guardOf ops st j with
   | some (some b) => (b = want → opC P T st o fun av => setT st o.dst av (rgC P T ops K r)) ∧ (b = (!want) → setT st o.dst (.tup []) (rgC P T ops K r))
   | some none => setT st o.dst (.tup []) (rgC P T ops K r)
   | none => False
section
variable {P : Program} {T : TypeId → Option TI} {F0 L : Nat → Prop} {w0 w w' w1 : World} {st st0 st' : St} {a a0 : Act} {κ κ' : Con} {hh : List (Nat × Ent)} {ops : Array Oper} {rs : List AV}
theorem flat_cv {x : CV} (h : x.flat = true) : ∃ v, ∀ (w : World) (κ : Con) (hh : List (Nat × Ent)), CVRep w κ hh x v := by
 cases x with
 | d x =>
  cases x with
  | int k n => exact ⟨_, fun _ _ _ => .int k n⟩
  | bool b => exact ⟨_, fun _ _ _ => .bool b⟩
  | str s => exact ⟨_, fun _ _ _ => .str s⟩
  | any => exact ⟨.bool true, fun _ _ _ => .any _ rfl rfl⟩
  | _ => simp [CV.flat, D.flat] at h
 | _ => simp [CV.flat] at h
theorem flat_cvs : ∀ {cs : List CV}, cs.all CV.flat = true → ∃ vs : List Value, ∀ (w : World) (κ : Con) (hh : List (Nat × Ent)), CVs w κ hh cs vs
 | [], _ => ⟨[], fun _ _ _ => ⟨rfl, fun j c u h => by simp at h⟩⟩
 | x :: cs, h => by
  simp only [List.all_cons, Bool.and_eq_true] at h
  obtain ⟨v, hv⟩ := flat_cv h.1
  obtain ⟨vs, hvs⟩ := flat_cvs h.2
  refine ⟨v :: vs, fun w κ hh => ⟨by simp [(hvs w κ hh).1], fun j c u hc hu => ?_⟩⟩
  cases j with
  | zero => simp at hc hu; subst hc; subst hu; exact hv w κ hh
  | succ j => exact (hvs w κ hh).2 j c u (by simpa using hc) (by simpa using hu)
theorem flat_tv {x : Bool × List CV} (h : x.2.all CV.flat = true) (h1 : x.1 = false → x.2.length = 1) : ∃ v, ∀ (w : World) (κ : Con) (hh : List (Nat × Ent)), TVRep w κ hh x v := by
 obtain ⟨vs, hvs⟩ := flat_cvs h
 obtain ⟨b, cs⟩ := x
 cases b with
 | true => exact ⟨.agg vs.toArray, fun w κ hh => ⟨vs, rfl, hvs w κ hh⟩⟩
 | false =>
  have hl := (hvs default (con0 fun _ => False) []).1
  rw [h1 rfl] at hl
  match vs, hl with
  | [v], _ => exact ⟨v, hvs⟩
theorem flat_tvs : ∀ {xs : List (Bool × List CV)}, (xs.all fun x => x.2.all CV.flat) = true → (xs.all fun x => x.1 || Nat.beq x.2.length 1) = true → ∃ vs : List Value, vs.length = xs.length ∧ ∀ (w : World) (κ : Con) (hh : List (Nat × Ent)) (j : Nat) (x : Bool × List CV) (u : Value), xs[j]? = some x → vs[j]? = some u → TVRep w κ hh x u
 | [], _, _ => ⟨[], rfl, fun _ _ _ j x u h => by simp at h⟩
 | x :: xs, h, h' => by
  simp only [List.all_cons, Bool.and_eq_true, Bool.or_eq_true] at h h'
  obtain ⟨v, hv⟩ := flat_tv h.1 (fun hb => by
   rcases h'.1 with h1 | h1
   ·rw [hb] at h1; cases h1
   ·exact Nat.eq_of_beq_eq_true h1)
  obtain ⟨vs, hl, hvs⟩ := flat_tvs h.2 h'.2
  refine ⟨v :: vs, by simp [hl], fun w κ hh j y u hj hu => ?_⟩
  cases j with
  | zero => simp at hj hu; subst hj; subst hu; exact hv w κ hh
  | succ j => exact hvs w κ hh j y u (by simpa using hj) (by simpa using hu)
theorem flat_av {x : AV} (h : x.flat = true) (h' : x.shapeB = true) : ∃ v, ∀ (w : World) (κ : Con) (hh : List (Nat × Ent)), AVRep w κ hh x v := by
 cases x with
 | c x => exact flat_cv h
 | agg cs => obtain ⟨vs, hvs⟩ := flat_cvs h; exact ⟨.agg vs.toArray, fun w κ hh => ⟨vs, rfl, hvs w κ hh⟩⟩
 | tup xs => obtain ⟨vs, hl, hvs⟩ := flat_tvs h h'; exact ⟨.tuple vs.toArray, fun w κ hh => ⟨vs, rfl, hl, hvs w κ hh⟩⟩
 | w => simp [AV.flat] at h
 | u => exact ⟨undef, fun _ _ _ => trivial⟩
theorem opC_sound (hT : TOk P T) {o : Oper} {K : AV → Prop} (h : opC P T st o K) (hrep : ∃ F0 L w0 a w κ, RepK F0 L w0 st a w κ) :
  ∃ r, K r ∧ ∀ F0 L w0 a w κ, RepK F0 L w0 st a w κ → (∃ v, AVRep w κ st.h r v) ∧ Oper.does P o a.eval w fun v w' => Grew w w' ∧ AVRep w' κ st.h r v := by
 unfold opC at h
 split at h
 ·rename_i f args tys ho
  unfold callC at h
  split at h
  ·rename_i g caps hc
   split at h
   ·rename_i args' hro
    obtain ⟨res, n', ⟨hent, hspec⟩, hfs, hK⟩ := h
    simp only [Bool.and_eq_true] at hfs
    obtain ⟨hflat, hshape⟩ := hfs
    refine ⟨res, hK, fun F0 L w0 a w κ hr => ⟨(let ⟨v, hv⟩ := flat_av hflat hshape; ⟨v, hv _ _ _⟩), ?_⟩⟩
    obtain ⟨us, hf, hl, hus⟩ := calleeOf_sound hc (evO_rep hr f)
    have hvl : (args.toList.map a.eval ++ us).length = (args.toList.map (evO st) ++ caps).length := by simp [hl]
    have hvs : ∀ (j : Nat) (x : AV) (v : Value), (args.toList.map (evO st) ++ caps)[j]? = some x → (args.toList.map a.eval ++ us)[j]? = some v → AVRep w κ st.h x v := fun j x v hj hv => by
     rw [List.getElem?_append] at hj hv
     simp only [List.length_map] at hj hv
     split at hj
     ·rename_i hlt
      rw [if_pos hlt] at hv
      simp only [List.getElem?_map, Option.map_eq_some_iff] at hj hv
      obtain ⟨p, hp, rfl⟩ := hj
      obtain ⟨p', hp', rfl⟩ := hv
      rw [hp] at hp'; cases hp'
      exact evO_rep hr p
     ·rename_i hlt
      rw [if_neg hlt] at hv
      exact hus _ x v hj hv
    have hrun : (execOp a.eval o).run P w = .ok (.enter g (args.toList.map a.eval ++ us).toArray) w := by
     have : execOp a.eval o = callFunc g (#[] ++ args.map a.eval ++ us.toArray) := by
      simp only [execOp, ho, resolve, hf, Deferred.ofValue]
      rfl
     rw [this, hent.run]
     congr 2
     apply Array.toList_inj.1
     simp
    unfold Oper.does
    rw [hrun]
    refine (hspec (κ.seen st.h) w _ (seen_lt hr) (roAs_sound hr hro _ hvl hvs)).mono fun e w' ⟨v, κ', st', a', he, hh', hn', hk', hav⟩ => ?_
    exact ⟨v, he, ⟨hk'.below.os, hk'.below.tape, hk'.below.output, hk'.below.size, fun k hk => hk'.below.block k hk (fun f => f)⟩, hav.flat hflat⟩
   ·exact h.elim
  ·exact h.elim
 ·obtain ⟨r, hK, hq⟩ := qq_sound hT (by rw [qqE_eq]; exact h) hrep
  refine ⟨r, hK, fun F0 L w0 a w κ hr => ?_⟩
  obtain ⟨v, h1, h2⟩ := hq F0 L w0 a w κ o rfl hr
  refine ⟨⟨v, h2⟩, ?_⟩
  unfold Oper.does
  rw [h1]
  exact ⟨Grew.refl w, h2⟩
theorem setT_slot {dst : Option Tmp} {av : AV} {K : St → Prop} (h : setT st dst av K) : K (st.slot dst av) ∧ ∀ d, dst = some d → d < st.N := by
 rw [setT_eq] at h
 split at h
 ·exact ⟨h, fun d hd => by cases hd⟩
 ·split at h
  ·rename_i hd
   exact ⟨h, fun d' he => by cases he; simpa using hd⟩
  ·exact h.elim
theorem rgC_chain (hT : TOk P T) {K : St → Prop} : ∀ {l : List Oper} {st : St} {a : Act}, rgC P T ops.toList K l st → RepK F0 L w0 st a w κ → (∀ o ∈ l, True) → ∃ rs st', Chain P ops l st rs st' ∧ K st'
 | [], st, a, h, hr, _ => ⟨[], st, .nil st, h⟩
 | o :: l, st, a, h, hr, hsh => by
  have fin : ∀ {r : AV}, setT st o.dst r (rgC P T ops.toList K l) → Yl P ops o st r → ∃ rs st', Chain P ops (o :: l) st rs st' ∧ K st' := fun {r} hs hy => by
   obtain ⟨h1, h2⟩ := setT_slot hs
   obtain ⟨⟨v, hv⟩, _⟩ := hy F0 L w0 a w κ hr
   have h' : RepK F0 L w0 (st.slot o.dst r) (a.put o.dst v) w κ := by
    cases hdst : o.dst with
    | none => exact hr
    | some d => exact hr.put hv (h2 d hdst)
   obtain ⟨rs, st', hc, hK⟩ := rgC_chain hT h1 h' (fun _ _ => trivial)
   exact ⟨r :: rs, st', .cons hy h2 hc, hK⟩
  have hskip : setT st o.dst (.tup []) (rgC P T ops.toList K l) → (∀ F0 L w0 a w κ, RepK F0 L w0 st a w κ → Region.wanted o (yielded ops a.tmps) = false) → ∃ rs st', Chain P ops (o :: l) st rs st' ∧ K st' := fun hs hw => by
   have hu : ∀ (w : World) (κ : Con) (hh : List (Nat × Ent)), AVRep w κ hh (.tup []) undef := fun w κ hh => ⟨[], rfl, rfl, fun j x u hj => by simp at hj⟩
   exact fin hs fun F0 L w0 a w κ hr => ⟨⟨undef, hu _ _ _⟩, .inr ⟨hw F0 L w0 a w κ hr, hu _ _ _⟩⟩
  have hop : (opC P T st o fun av => setT st o.dst av (rgC P T ops.toList K l)) → (∀ F0 L w0 a w κ, RepK F0 L w0 st a w κ → Region.wanted o (yielded ops a.tmps) = true) → ∃ rs st', Chain P ops (o :: l) st rs st' ∧ K st' := fun ho hw => by
   obtain ⟨r, hs, hq⟩ := opC_sound hT ho ⟨F0, L, w0, a, w, κ, hr⟩
   exact fin hs fun F0 L w0 a w κ hr => ⟨(hq F0 L w0 a w κ hr).1, .inl ⟨hw F0 L w0 a w κ hr, (hq F0 L w0 a w κ hr).2⟩⟩
  unfold rgC at h
  split at h
  ·rename_i hg
   exact hop h fun F0 L w0 a w κ hr => by simp [Region.wanted, hg]
  ·rename_i j want hg
   split at h
   ·rename_i b hgd
    by_cases hb : b = want
    ·subst hb
     exact hop (h.1 rfl) fun F0 L w0 a w κ hr => by simp [Region.wanted, hg, guard_sound hr hgd]
    ·have hb' : b = !want := by revert hb; cases b <;> cases want <;> simp
     exact hskip (h.2 hb') fun F0 L w0 a w κ hr => by
      simp only [Region.wanted, hg, guard_sound hr hgd]
      rw [hb']; cases want <;> rfl
   ·rename_i hgd
    exact hskip h fun F0 L w0 a w κ hr => by simp [Region.wanted, hg, guard_sound hr hgd]
   ·exact h.elim
theorem tri_conf (hT : TOk P T) (hm : P.follows .mixedOrders = true) {id : Nat} {ops : Array Oper} {Q : Exit → St → Prop} (hB : confB ops = true) (h : rgC P T ops.toList (Q .normal) ops.toList st) : Tri P (.region id ops true) st Q := by
 intro F0 L w0 a w ⟨κ, hr⟩
 refine wp_region_any hm ?_
 have hr1 := hr.grew (Grew.drew w)
 obtain ⟨rs, st', hc, hK⟩ := rgC_chain hT h hr1 (fun _ _ => trivial)
 refine conf_any hr1 hB hc (fun a' w' hr' => ⟨st', hK, κ, hr'⟩) _ _ _ _ ?_ { grew := Grew.refl _, size := hr1.size, dfs := hr1.dfs, lsize := by simp, other := fun _ _ => rfl, done := fun j o d r hj hl => ?_ }
 ·unfold unl
  exact Nat.le_trans List.countP_le_length (by simp)
 ·have hlt := (Array.getElem?_eq_some_iff.1 hj).1
  simp [hlt] at hl
end
end Go.H
