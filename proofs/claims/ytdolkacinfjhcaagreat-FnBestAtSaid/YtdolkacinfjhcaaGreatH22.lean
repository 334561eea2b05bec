/- Framework H, part 22: regions that draw their order. -/
import Derived.Test.YtdolkacinfjhcaaGreatH21
import Derived.Deep.Quiet
set_option linter.unusedSimpArgs false
set_option linter.unusedVariables false
set_option linter.constructorNameAsVariable false
namespace Go.H
open Go.RowKit
def rgQ (T : TypeId → Option TI) (ops : List Oper) (K : St → Prop) : List Oper → St → Prop
 | [], st => K st
 | o :: r, st => match o.guard with
  | none => qqE T st o.op fun av => setT st o.dst av (rgQ T ops K r)
  | some (j, want) => match guardOf ops st j with
   | some (some b) => (b = want → qqE T st o.op fun av => setT st o.dst av (rgQ T ops K r)) ∧ (b = (!want) → setT st o.dst (.tup []) (rgQ T ops K r))
   | some none => setT st o.dst (.tup []) (rgQ T ops K r)
   | none => False
section
variable {P : Program} {T : TypeId → Option TI} {F0 L : Nat → Prop} {w0 w w' : World} {st : St} {a : Act} {κ κ' : Con} {hh : List (Nat × Ent)}
theorem rgQ_sound (hT : TOk P T) {ops : Array Oper} {K : St → Prop} {Q : Act → Prop} (hQ : ∀ st' a', K st' → Rep F0 L w0 st' a' w → Q a') :
  ∀ (l : List Oper) (st : St) (a : Act), rgQ T ops.toList K l st → Rep F0 L w0 st a w → wpQuiet P ops (· = w) Q l a
 | [], st, a, h, hr => hQ st a h hr
 | o :: l, st, a, h, hr => by
  have ih := fun st a => rgQ_sound (ops := ops) hT hQ l st a
  have hop : (qqE T st o.op fun av => setT st o.dst av (rgQ T ops.toList K l)) → o.quiet P a (· = w) (wpQuiet P ops (· = w) Q l) := fun h => by
   obtain ⟨κ, hr⟩ := hr
   obtain ⟨r, hs, hq⟩ := qq_sound hT (by rw [qqE_eq]; exact h) ⟨F0, L, w0, a, w, κ, hr⟩
   obtain ⟨v, hv, hav⟩ := hq F0 L w0 a w κ o rfl hr
   obtain ⟨st', hK, hr'⟩ := setT_sound hs hr hav
   refine ⟨v, fun w' hw' => ?_, ih st' _ hK ⟨κ, hr'⟩⟩
   subst hw'
   unfold Oper.quietAt
   rw [hv]
   exact ⟨rfl, rfl⟩
  have hskip : setT st o.dst (.tup []) (rgQ T ops.toList K l) → wpQuiet P ops (· = w) Q l (a.put o.dst undef) := fun h => by
   obtain ⟨κ, hr⟩ := hr
   obtain ⟨st', hK, hr'⟩ := put_skip hr h
   exact ih st' _ hK ⟨κ, hr'⟩
  simp only [wpQuiet]
  unfold rgQ at h
  split at h
  ·rename_i hg
   simp only [Region.wanted, hg, if_true]
   exact hop h
  ·rename_i j want hg
   split at h
   ·rename_i b hgd
    obtain ⟨κ, hr'⟩ := hr
    have hy := guard_sound hr' hgd
    simp only [Region.wanted, hg, hy]
    by_cases hb : b = want
    ·subst hb; simp only [beq_self_eq_true, if_true]; exact hop (h.1 rfl)
    ·have : b = !want := by revert hb; cases b <;> cases want <;> simp
     have h2 := hskip (h.2 this)
     have hne : (some b == some want) = false := by rw [this]; cases want <;> rfl
     simp only [hne, Bool.false_eq_true, if_false]
     exact h2
   ·rename_i hgd
    obtain ⟨κ, hr'⟩ := hr
    have hy := guard_sound hr' hgd
    have hne : ((none : Option Bool) == some want) = false := rfl
    simp only [Region.wanted, hg, hy, hne, Bool.false_eq_true, if_false]
    exact hskip h
   ·exact h.elim
theorem Rep.drew (h : Rep F0 L w0 st a w) : Rep F0 L w0 st a { w with drawn := w.drawn + 1 } := let ⟨κ, h⟩ := h; ⟨κ, h.grew (Grew.drew w)⟩
theorem tri_draw (hT : TOk P T) (hm : P.follows .mixedOrders = true) {id : Nat} {ops : Array Oper} {Q : Exit → St → Prop} (hB : Region.lexB .any ops = true) (h : rgQ T ops.toList (Q .normal) ops.toList st) : Tri P (.region id ops true) st Q := by
 intro F0 L w0 a w hr
 refine wp_region_quiet (C := (· = { w with drawn := w.drawn + 1 })) hm hB rfl ?_
 refine rgQ_sound hT (K := Q .normal) (fun st' a' hK hr' w' hw' => ?_) ops.toList st a h hr.drew
 subst hw'
 exact ⟨st', hK, hr'⟩
def anyWp (P : Program) (T : TypeId → Option TI) (ops : Array Oper) (K : St → Prop) : Nat → Array Bool → St → Prop
 | 0, listed, st => Region.ready .any ops listed = [] ∧ K st
 | fuel + 1, listed, st => match Region.ready .any ops listed with
  | [] => K st
  | l => l.foldr (fun i acc => (match ops[i]? with
    | some o => match o.guard with
     | none => opWp P T st o (anyWp P T ops K fuel (listed.setIfInBounds i true))
     | some _ => False
    | none => False) ∧ acc) True
theorem any_sound (hT : TOk P T) {ops : Array Oper} {K : St → Prop} {Q : Exit → Act → World → Prop} (hQ : ∀ st' a' w', K st' → Rep F0 L w0 st' a' w' → Q .normal a' w') :
  ∀ (fuel : Nat) (listed : Array Bool) (st : St) (a : Act) (w : World), anyWp P T ops K fuel listed st → Rep F0 L w0 st a w → wpAny P .any ops Q fuel listed a w
 | 0, listed, st, a, w, h, hr => ⟨h.1, hQ st a w h.2 hr⟩
 | fuel + 1, listed, st, a, w, h, hr => by
  unfold anyWp at h
  split at h
  ·rename_i h0
   exact ⟨fun _ => hQ st a w h hr, fun i hi => by rw [h0] at hi; cases hi⟩
  ·rename_i l hl0
   refine ⟨fun h0 => (hl0 h0).elim, fun i hi => ?_⟩
   have hall : ∀ (l : List Nat), i ∈ l → l.foldr (fun i acc => (match ops[i]? with
    | some o => match o.guard with
     | none => opWp P T st o (anyWp P T ops K fuel (listed.setIfInBounds i true))
     | some _ => False
    | none => False) ∧ acc) True → (match ops[i]? with
    | some o => match o.guard with
     | none => opWp P T st o (anyWp P T ops K fuel (listed.setIfInBounds i true))
     | some _ => False
    | none => False) := by
    intro l hil hf
    induction l with
    | nil => cases hil
    | cons j r ih =>
     simp only [List.foldr_cons] at hf
     rcases List.mem_cons.1 hil with rfl | hm
     ·exact hf.1
     ·exact ih hm hf.2
   have hi' := hall _ hi h
   unfold wpOp
   split at hi'
   ·rename_i o ho
    simp only [ho]
    split at hi'
    ·rename_i hg
     simp only [Region.wanted, hg, if_true]
     exact .inl (op_sound hT hi' F0 L w0 a w hr _ _ (fun st' a' w' hK hr' => any_sound hT hQ fuel _ st' a' w' hK hr'))
    ·exact hi'.elim
   ·exact hi'.elim
theorem tri_any (hT : TOk P T) (hm : P.follows .mixedOrders = true) {id : Nat} {ops : Array Oper} {Q : Exit → St → Prop} (keep : List Nat) {stM : St}
  (h : anyWp P T ops (fun st' => st'.canon keep = some stM) ops.size (Array.replicate ops.size false) st) (hQ : Q .normal stM) : Tri P (.region id ops true) st Q := by
 intro F0 L w0 a w hr
 refine wp_region_any hm ?_
 exact any_sound hT (fun st' a' w' hK hr' => ⟨stM, hQ, hr'.canon hK⟩) _ _ st a _ h hr.drew
end
end Go.H
