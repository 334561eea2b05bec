/- Framework H, part 17: operations of every kind, regions, code. -/
import Derived.Test.YtbclkplebkencaaH16c
namespace Go.H
set_option linter.unusedSimpArgs false
set_option linter.unusedVariables false
open Go.RowKit

def opWp (P : Program) (T : TypeId → Option TI) (st : St) (o : Oper) (K : St → Prop) : Prop :=
  match o.op with
  | .box ty x => match avCells (evO st x) with | some cs => boxE st ty cs o.dst K | none => False
  | .alloc ty => match T ty with | some ti => boxE st ty ti.zero o.dst K | none => False
  | .store t x y => match o.dst with | none => storeE T st t (evO st x) (evO st y) K | some _ => False
  | .makeSlice t x y => makeE T st t (evO st x) (evO st y) o.dst K
  | .buildSlice t len parts => litE T st t len parts.toList o.dst K
  | .call { callee := .value f, args, argTypes := _ } => callE P st (evO st f) (args.toList.map (evO st)) o.dst K
  | .call { callee := .builtin .append, args := ⟨[x, y]⟩, argTypes := ⟨[t, t']⟩ } => match Nat.beq t t' with | true => appE T st t (evO st x) (evO st y) o.dst K | false => False
  | .binOp op t x y ty => match nilTest op (evO st y) with
    | some q => nilWp T st t q (evO st x) o.dst K
    | none => qqE T st (.binOp op t x y ty) fun av => setT st o.dst av K
  | op => qqE T st op fun av => setT st o.dst av K

/-- What the operation that guards has answered: none: not known. -/
def guardOf (ops : List Oper) (st : St) (j : Nat) : Option (Option Bool) :=
  match ops[j]? with
  | some o => match o.dst with
    | some t => match look st.t t with
      | some (.c (.d (.bool b))) => some (some b)
      | some (.tup _) => some none
      | _ => none
    | none => none
  | none => none

/-- What the guard has answered is known from here on. -/
def litB (ops : List Oper) (st : St) (j : Nat) (v : Bool) (K : St → Prop) : Prop :=
  match ops[j]? with
  | some o => match o.dst with
    | some d => match st with | ⟨t, h, n, N⟩ => K ⟨(d, .c (.d (.bool v))) :: t, h, n, N⟩
    | none => K st
  | none => K st

def rgWp (P : Program) (T : TypeId → Option TI) (ops : List Oper) (K : St → Prop) : List Oper → St → Prop
  | [], st => K st
  | o :: r, st => match o.guard with
    | none => opWp P T st o (rgWp P T ops K r)
    | some (j, want) => match guardOf ops st j with
      | some (some b) => match want with
        | true => ifB b (litB ops st j true fun st => opWp P T st o (rgWp P T ops K r)) (litB ops st j false fun st => setT st o.dst (.tup []) (rgWp P T ops K r))
        | false => ifB b (litB ops st j true fun st => setT st o.dst (.tup []) (rgWp P T ops K r)) (litB ops st j false fun st => opWp P T st o (rgWp P T ops K r))
      | some none => setT st o.dst (.tup []) (rgWp P T ops K r)
      | none => False

def wpH (P : Program) (T : TypeId → Option TI) : Code → St → (Exit → St → Prop) → Prop
  | .skip, st, Q => Q .normal st
  | .region _ ops false, st, Q => rgWp P T ops.toList (Q .normal) ops.toList st
  | .region id ops true, st, Q => Tri P (.region id ops true) st Q
  | .seq x y, st, Q => wpH P T x st fun e st' => match e with | .normal => wpH P T y st' Q | e => Q e st'
  | .cond c x y, st, Q => match evO st c with
    | .c (.d (.bool b)) => ifB b (wpH P T x st Q) (wpH P T y st Q)
    | _ => False
  | .block id c, st, Q => wpH P T c st fun e st' => match e with
    | .exit id' => match Nat.beq id' id with | true => Q .normal st' | false => Q (.exit id') st'
    | e => Q e st'
  | .loop c, st, Q => Tri P (.loop c) st Q
  | .exit id, st, Q => Q (.exit id) st
  | .label _, st, Q => Q .normal st
  | .ret, st, Q => Q .ret st
  | _, _, _ => False

section
variable {P : Program} {T : TypeId → Option TI} {F0 L : Nat → Prop} {w0 w w' : World} {st : St} {a : Act} {κ κ' : Con} {hh : List (Nat × Ent)}

theorem op_sound (hT : TOk P T) {o : Oper} {K : St → Prop} (h : opWp P T st o K) : OpTri P o st K := by
  unfold opWp at h
  split at h
  · rename_i ty x ho; exact box_tri ho (by simp only [boxE_eq]; exact h)
  · rename_i ty ho; exact alloc_tri hT ho (by simp only [boxE_eq]; exact h)
  · rename_i t x y ho
    split at h
    · rename_i hd; exact store_tri hT ho hd (by rw [storeE_eq]; exact h)
    · exact h.elim
  · rename_i t x y ho; exact make_tri hT ho (by rw [makeE_eq]; exact h)
  · rename_i t len parts ho; exact lit_tri hT ho (by rw [litE_eq]; exact h)
  · rename_i f args tys ho; exact call_tri ho (by rw [callE_eq]; exact h)
  · rename_i x y t t' ho
    split at h
    · rename_i hb
      obtain rfl := Nat.eq_of_beq_eq_true hb
      exact append_tri hT ho (by rw [appE_eq]; exact h)
    · exact h.elim
  · rename_i op t x y ty ho
    split at h
    · rename_i q hq; exact nil_tri hT ho hq h
    · exact quiet_tri hT (by rw [qqE_eq, ho]; exact h)
  · exact quiet_tri hT (by rw [qqE_eq]; exact h)

theorem put_skip (h : RepK F0 L w0 st a w κ) {dst : Option Tmp} {K : St → Prop} (hK : setT st dst (.tup []) K) : ∃ st', K st' ∧ RepK F0 L w0 st' (a.put dst undef) w κ :=
  setT_sound hK h ⟨[], rfl, rfl, fun j x u hj => by simp at hj⟩

theorem guard_sound (h : RepK F0 L w0 st a w κ) {ops : Array Oper} {j : Nat} {r : Option Bool} (hg : guardOf ops.toList st j = some r) : yielded ops a.tmps j = r := by
  unfold guardOf at hg
  split at hg
  · rename_i o ho
    split at hg
    · rename_i t ht
      have ho' : ops[j]? = some o := by rw [← Array.getElem?_toList]; exact ho
      split at hg
      · rename_i b hl
        cases hg
        obtain ⟨v, hv, hr⟩ := h.tmps _ _ hl
        cases hr
        simp [yielded, ho', ht, hv]
      · rename_i xs hl
        cases hg
        obtain ⟨v, hv, vs, rfl, _⟩ := h.tmps _ _ hl
        simp [yielded, ho', ht, hv]
      · cases hg
    · cases hg
  · cases hg

theorem litB_sound (h : RepK F0 L w0 st a w κ) {ops : List Oper} {j : Nat} {b : Bool} (hg : guardOf ops st j = some (some b)) {K : St → Prop} (hK : litB ops st j b K) : ∃ st', K st' ∧ RepK F0 L w0 st' a w κ := by
  unfold guardOf at hg
  unfold litB at hK
  split at hg
  · rename_i o ho
    simp only [ho] at hK
    split at hg
    · rename_i t ht
      simp only [ht] at hK
      split at hg
      · rename_i b' hl
        cases hg
        cases st
        exact ⟨_, hK, h.reslot hl (fun _ h => h)⟩
      · cases hg
      · cases hg
    · cases hg
  · cases hg

theorem rg_sound (hT : TOk P T) {ops : Array Oper} {K : St → Prop} {Q : Exit → Act → World → Prop} (hQ : ∀ st' a' w', K st' → Rep F0 L w0 st' a' w' → Q .normal a' w') :
    ∀ (l : List Oper) (k : Nat) (st : St) (a : Act) (w : World), (∀ j, l[j]? = ops[k + j]?) → rgWp P T ops.toList K l st → Rep F0 L w0 st a w → wpOps P ops Q (List.range' k l.length) a w
  | [], k, st, a, w, _, h, hr => hQ st a w h hr
  | o :: l, k, st, a, w, hl, h, hr => by
    have h0 : ops[k]? = some o := by
      have := hl 0
      rw [List.getElem?_cons_zero] at this
      exact this.symm
    have hl' : ∀ j, l[j]? = ops[k + 1 + j]? := fun j => by
      have := hl (j + 1)
      rw [List.getElem?_cons_succ] at this
      rw [this, show k + (j + 1) = k + 1 + j by omega]
    have ih := fun st a w => rg_sound hT hQ l (k + 1) st a w hl'
    simp only [List.length_cons, List.range'_succ, wpOps, h0]
    have hop : ∀ st, opWp P T st o (rgWp P T ops.toList K l) → Rep F0 L w0 st a w → o.wp P a w (wpOps P ops Q (List.range' (k + 1) l.length)) Q := fun st h hr => op_sound hT h F0 L w0 a w hr _ _ (fun st' a' w' hK hr' => ih st' a' w' hK hr')
    have hskip : ∀ st, setT st o.dst (.tup []) (rgWp P T ops.toList K l) → Rep F0 L w0 st a w → wpOps P ops Q (List.range' (k + 1) l.length) (a.put o.dst undef) w := fun st h hr => by
      obtain ⟨κ, hr⟩ := hr
      obtain ⟨st', hK, hr'⟩ := put_skip hr h
      exact ih st' _ w hK ⟨κ, hr'⟩
    unfold rgWp at h
    split at h
    · rename_i hg
      simp only [Region.wanted, hg, if_true]
      exact .inl (hop st h hr)
    · rename_i j want hg
      split at h
      · rename_i b hgd
        obtain ⟨κ, hr'⟩ := hr
        have hy := guard_sound hr' hgd
        simp only [Region.wanted, hg, hy]
        cases want with
        | true =>
          simp only at h
          cases b with
          | true =>
            obtain ⟨st', h1, h2⟩ := litB_sound hr' hgd (by simpa only [ifB] using h)
            simp only [beq_self_eq_true, if_true]
            exact .inl (hop st' h1 ⟨κ, h2⟩)
          | false =>
            obtain ⟨st', h1, h2⟩ := litB_sound hr' hgd (by simpa only [ifB] using h)
            have hne : (some false == some true) = false := rfl
            simp only [hne, Bool.false_eq_true, if_false]
            exact hskip st' h1 ⟨κ, h2⟩
        | false =>
          simp only at h
          cases b with
          | true =>
            obtain ⟨st', h1, h2⟩ := litB_sound hr' hgd (by simpa only [ifB] using h)
            have hne : (some true == some false) = false := rfl
            simp only [hne, Bool.false_eq_true, if_false]
            exact hskip st' h1 ⟨κ, h2⟩
          | false =>
            obtain ⟨st', h1, h2⟩ := litB_sound hr' hgd (by simpa only [ifB] using h)
            simp only [beq_self_eq_true, if_true]
            exact .inl (hop st' h1 ⟨κ, h2⟩)
      · rename_i hgd
        obtain ⟨κ, hr'⟩ := hr
        have hy := guard_sound hr' hgd
        have hne : ((none : Option Bool) == some want) = false := rfl
        simp only [Region.wanted, hg, hy, hne, Bool.false_eq_true, if_false]
        exact hskip st h ⟨κ, hr'⟩
      · exact h.elim

theorem Tri.mono {c : Code} {Q Q' : Exit → St → Prop} (h : Tri P c st Q) (hq : ∀ e st', Q e st' → Q' e st') : Tri P c st Q' := fun F0 L w0 a w hr => wp_mono (h F0 L w0 a w hr) fun _ _ _ ⟨st', h1, h2⟩ => ⟨st', hq _ _ h1, h2⟩

theorem wpH_sound (hT : TOk P T) : ∀ (c : Code) (st : St) (Q : Exit → St → Prop), wpH P T c st Q → Tri P c st Q
  | .skip, st, Q, h => fun F0 L w0 a w hr => wp_skip ⟨st, h, hr⟩
  | .label _, st, Q, h => fun F0 L w0 a w hr => wp_label ⟨st, h, hr⟩
  | .ret, st, Q, h => fun F0 L w0 a w hr => wp_ret ⟨st, h, hr⟩
  | .exit id, st, Q, h => fun F0 L w0 a w hr => wp_exit ⟨st, h, hr⟩
  | .region id ops false, st, Q, h => fun F0 L w0 a w hr => wp_region (by
      rw [List.range_eq_range']
      have := rg_sound (F0 := F0) (L := L) (w0 := w0) hT (ops := ops) (K := Q .normal) (Q := fun ex a' w' => ∃ st', Q ex st' ∧ Rep F0 L w0 st' a' w') (fun st' a' w' hK hr' => ⟨st', hK, hr'⟩) ops.toList 0 st a w (fun j => by rw [Nat.zero_add, Array.getElem?_toList]) h hr
      rw [Array.length_toList] at this
      exact this)
  | .region id ops true, st, Q, h => h
  | .loop c, st, Q, h => h
  | .seq x y, st, Q, h => fun F0 L w0 a w hr => wp_seq (wp_mono (wpH_sound hT x st _ h F0 L w0 a w hr) fun e a' w' ⟨st', h1, h2⟩ => by
      cases e with
      | normal => exact wpH_sound hT y st' Q h1 F0 L w0 a' w' h2
      | exit => exact ⟨st', h1, h2⟩
      | goto => exact ⟨st', h1, h2⟩
      | ret => exact ⟨st', h1, h2⟩
      | panic => exact ⟨st', h1, h2⟩
      | outgrown => exact ⟨st', h1, h2⟩)
  | .cond c x y, st, Q, h => fun F0 L w0 a w hr => by
      simp only [wpH] at h
      split at h
      · rename_i b hc
        obtain ⟨κ, hr'⟩ := hr
        have hv := evO_rep hr' c
        rw [hc] at hv
        have hb : a.eval c = .bool b := by
          generalize a.eval c = v at hv
          cases hv; rfl
        exact wp_cond_split hb (fun ht => wpH_sound hT x st Q (ifB_t h ht) F0 L w0 a w ⟨κ, hr'⟩) (fun hf => wpH_sound hT y st Q (ifB_f h hf) F0 L w0 a w ⟨κ, hr'⟩)
      · exact h.elim
  | .block id c, st, Q, h => fun F0 L w0 a w hr => wp_block (wp_mono (wpH_sound hT c st _ h F0 L w0 a w hr) fun e a' w' ⟨st', h1, h2⟩ => by
      cases e with
      | normal => exact ⟨st', h1, h2⟩
      | exit id' =>
        simp only [Exit.inBlock]
        cases hb : Nat.beq id' id with
        | true =>
          simp only [hb] at h1
          rw [if_pos (Nat.eq_of_beq_eq_true hb)]
          exact ⟨st', h1, h2⟩
        | false =>
          simp only [hb] at h1
          rw [if_neg (fun e => by rw [e] at hb; simp at hb)]
          exact ⟨st', h1, h2⟩
      | goto => exact ⟨st', h1, h2⟩
      | ret => exact ⟨st', h1, h2⟩
      | panic => exact ⟨st', h1, h2⟩
      | outgrown => exact ⟨st', h1, h2⟩)
  | .rangeFunc .., st, Q, h => h.elim
  | .scope _, st, Q, h => h.elim
  | .goto _, st, Q, h => h.elim
  | .refuse _, st, Q, h => h.elim

end
end Go.H
