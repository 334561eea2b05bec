/- Framework H, part 8: what is kept for good; boxes and slice literals as operations. -/
import Derived.Test.YtbclkplebkencaaH7
namespace Go.H
set_option linter.unusedSimpArgs false
set_option linter.unusedVariables false
open Go.RowKit

section
variable {P : Program} {T : TypeId → Option TI} {F0 L : Nat → Prop} {w0 w : World} {st : St} {a : Act} {κ : Con} {hh : List (Nat × Ent)}

def Con.frz (κ : Con) (id : Nat) : Con := { κ with F := fun b => κ.F b ∨ (κ.val id).ownBlock = some b }

/-- The same rows, but for who owns them. -/
def SameRows (h h' : List (Nat × Ent)) : Prop := ∀ id e sz ver own es, look h' id = some (.arr e sz ver own es) → ∃ own', look h id = some (.arr e sz ver own' es)

theorem CVRep.frz {h' : List (Nat × Ent)} (hs : SameRows hh h') (id : Nat) {x : CV} {v : Value} (h : CVRep w κ hh x v) : CVRep w (κ.frz id) h' x v := by
  cases x with
  | d x => exact Fz.keep (fun _ _ => rfl) (fun b h => .inl h) h
  | nl _ => exact h
  | u => exact h
  | ptr => exact h
  | fn => exact h
  | ref i ver s =>
    obtain ⟨h1, h2, h3, h4⟩ := h
    refine ⟨h1, h2, h3, fun e sz own es hl => ?_⟩
    obtain ⟨own', hl'⟩ := hs _ _ _ _ _ _ hl
    exact h4 e sz own' es hl'
  | ep i ver k j =>
    obtain ⟨h1, h2, h3, h4⟩ := h
    refine ⟨h1, h2, h3, fun e sz own es hl => ?_⟩
    obtain ⟨own', hl'⟩ := hs _ _ _ _ _ _ hl
    exact h4 e sz own' es hl'

theorem CVs.frz {h' : List (Nat × Ent)} (hs : SameRows hh h') (id : Nat) {cs : List CV} {vs : List Value} (h : CVs w κ hh cs vs) : CVs w (κ.frz id) h' cs vs :=
  ⟨h.1, fun j c u hc hu => (h.2 j c u hc hu).frz hs id⟩

theorem AVRep.frz {h' : List (Nat × Ent)} (hs : SameRows hh h') (id : Nat) {x : AV} {v : Value} (h : AVRep w κ hh x v) : AVRep w (κ.frz id) h' x v := by
  cases x with
  | c x => exact CVRep.frz hs id h
  | agg cs => obtain ⟨vs, q, hv⟩ := h; exact ⟨vs, q, hv.frz hs id⟩
  | tup xs =>
    obtain ⟨vs, q, hl, hv⟩ := h
    refine ⟨vs, q, hl, fun j x v hx hu => ?_⟩
    have := hv j x v hx hu
    unfold TVRep at *
    split at this
    · obtain ⟨us, q, hus⟩ := this; exact ⟨us, q, hus.frz hs id⟩
    · exact this.frz hs id
  | w x u => exact ⟨h.1, CVRep.frz hs id h.2⟩
  | u => trivial

theorem OwnRep.mono {e sz : Nat} {v : Value} {es : List (List D)} {F F' : Nat → Prop} (h : OwnRep w F e sz v es) (hF : ∀ b, F b → F' b) : OwnRep w F' e sz v es := by
  obtain ⟨xs, ho, hx⟩ := h
  refine ⟨xs, ho, fun i c hc => ⟨(hx i c hc).1, fun j d hd => ?_⟩⟩
  obtain ⟨u, hu, hf⟩ := (hx i c hc).2 j d hd
  exact ⟨u, hu, Fz.keep (fun _ _ => rfl) hF hf⟩

/-- Row id is kept as it is from now on. -/
theorem RepK.frz (h : RepK F0 L w0 st a w κ) {id e sz ver : Nat} {own : Bool} {es : List (List D)} (hl : look st.h id = some (.arr e sz ver own es)) :
    RepK F0 L w0 { st with h := lput st.h id (.arr e sz ver false es) } a w (κ.frz id) ∧ SameRows st.h (lput st.h id (.arr e sz ver false es)) := by
  have hs : SameRows st.h (lput st.h id (.arr e sz ver false es)) := by
    intro i e' sz' ver' own' es' hl'
    rw [look_lput] at hl'
    split at hl'
    · rename_i he; subst he; cases hl'; exact ⟨own, hl⟩
    · exact ⟨own', hl'⟩
  have hent := h.ents id _ hl
  refine ⟨{ below := h.below, size := h.size, dfs := h.dfs, kn := h.kn, kv := ?_, f0 := fun b hb => .inl (h.f0 b hb), f1 := ?_, f2 := ?_, ents := ?_, new := ?_, excl := ?_, inj := ?_, tmps := ?_ }, hs⟩
  · intro b hb
    rcases hb with hb | hb
    · exact h.f1 b hb
    · exact .inr (h.excl id _ b hl hb).1
  · intro b hb
    rcases hb with hb | hb
    · exact h.f2 b hb
    · exact hent.lt hb
  · intro i x hi
    simp only [look_lput] at hi
    split at hi
    · rename_i he
      subst he
      cases hi
      exact OwnRep.mono (e := e) hent (fun b hb => .inl hb)
    · have := h.ents i x hi
      cases x with
      | box ty cs => obtain ⟨vals, h1, h2⟩ := this; exact ⟨vals, h1, h2.frz hs id⟩
      | arr e' sz' ver' own' es' => exact OwnRep.mono this (fun b hb => .inl hb)
  · intro i x hi
    simp only [look_lput] at hi
    split at hi
    · rename_i he; subst he; exact h.new id _ hl
    · exact h.new i x hi
  · intro i x b hi hb
    simp only [look_lput] at hi
    split at hi
    · rename_i he
      subst he
      cases hi
      have hb' : (κ.val id).ownBlock = some b := hb
      exact ⟨(h.excl id _ b hl hb').1, fun hf => by simp [Ent.own] at hf, fun _ => .inr hb'⟩
    · rename_i hne
      have hb' : x.blk κ i = some b := by cases x <;> exact hb
      obtain ⟨h1, h2, h3⟩ := h.excl i x b hi hb'
      refine ⟨h1, fun ho hF => ?_, fun ho => .inl (h3 ho)⟩
      rcases hF with hF | hF
      · exact h2 ho hF
      · exact hne (h.inj id i _ _ b hl hi hF hb')
  · intro i i' x x' b hi hi' hb hb'
    have hx : ∀ {i x}, look (lput st.h id (.arr e sz ver false es)) i = some x → x.blk (κ.frz id) i = some b → ∃ y, look st.h i = some y ∧ y.blk κ i = some b := by
      intro i x hi hb
      rw [look_lput] at hi
      split at hi
      · rename_i he; subst he; cases hi; exact ⟨_, hl, hb⟩
      · exact ⟨x, hi, by cases x <;> exact hb⟩
    obtain ⟨y, h1, h2⟩ := hx hi hb
    obtain ⟨y', h1', h2'⟩ := hx hi' hb'
    exact h.inj i i' y y' b h1 h1' h2 h2'
  · intro t av ht
    obtain ⟨v, hv, hr⟩ := h.tmps t av ht
    exact ⟨v, hv, hr.frz hs id⟩
  · intro i e' sz' ver' own' es' hi
    obtain ⟨o, ho⟩ := hs _ _ _ _ _ _ hi
    exact h.kv _ _ _ _ _ _ ho

@[irreducible] def dPart (es : List (List D)) (o n : Nat) : List (List D) := (es.drop o).take n
theorem dPart_eq (es : List (List D)) (o n : Nat) : dPart es o n = (es.drop o).take n := by unfold dPart; rfl
/-- A part of a row. -/
def partOf (es : List (List D)) (s : Option (Bool × Nat × Nat)) : List (List D) := match s with | none => es | some (_, o, n) => dPart es o n

/-- A cell as data that is only read from now on. -/
def frzC (h : List (Nat × Ent)) : CV → Option (D × List (Nat × Ent))
  | .d x => some (x, h)
  | .nl sz => some (.sl sz [], h)
  | .ref id ver s => match look h id with
    | some (.arr e sz v _ es) => match Nat.beq v ver with
      | true => some (.sl sz (partOf es s), lput h id (.arr e sz v false es))
      | false => none
    | _ => none
  | _ => none

def frzL (h : List (Nat × Ent)) : List CV → Option (List D × List (Nat × Ent))
  | [] => some ([], h)
  | x :: r => match frzC h x with
    | some (d, h1) => match frzL h1 r with
      | some (ds, h2) => some (d :: ds, h2)
      | none => none
    | none => none

theorem partR (es : List (List D)) (s : Option (Bool × Nat × Nat)) : partOf es s = (es.drop (offR s)).take (lenR es s) := by
  cases s with
  | none => simp [partOf, offR, lenR]
  | some x => exact dPart_eq _ _ _

theorem frzC_sound (h : RepK F0 L w0 st a w κ) {x : CV} {d : D} {h' : List (Nat × Ent)} (hf : frzC st.h x = some (d, h')) :
    ∃ κ', RepK F0 L w0 { st with h := h' } a w κ' ∧ SameRows st.h h' ∧ κ'.bl = κ.bl ∧ κ'.val = κ.val ∧ (∀ b, κ.F b → κ'.F b) ∧ (∀ v, CVRep w κ st.h x v → Fz w κ'.F v d) ∧ ∀ y u, CVRep w κ st.h y u → CVRep w κ' h' y u := by
  cases x with
  | d x =>
    simp only [frzC, Option.some.injEq, Prod.mk.injEq] at hf
    obtain ⟨rfl, rfl⟩ := hf
    exact ⟨κ, h, fun _ _ _ _ own _ hl => ⟨own, hl⟩, rfl, rfl, fun _ h => h, fun v hv => hv, fun _ _ h => h⟩
  | nl sz =>
    simp only [frzC, Option.some.injEq, Prod.mk.injEq] at hf
    obtain ⟨rfl, rfl⟩ := hf
    refine ⟨κ, h, fun _ _ _ _ own _ hl => ⟨own, hl⟩, rfl, rfl, fun _ h => h, fun v hv => ?_, fun _ _ h => h⟩
    cases hv
    exact .sl none 0 0 sz [] (fun _ _ => undef) rfl (Nat.le_refl _) (fun i c hi => by simp at hi) (fun hne => absurd rfl hne) (fun A i c j d hA => by simp at hA) (fun i c j d hi => by simp at hi)
  | ref id ver s =>
    simp only [frzC] at hf
    split at hf
    · rename_i e sz v own es hl
      split at hf
      · rename_i hb
        obtain rfl := beq_iff hb
        simp only [Option.some.injEq, Prod.mk.injEq] at hf
        obtain ⟨rfl, rfl⟩ := hf
        obtain ⟨hk, hs⟩ := h.frz hl
        refine ⟨κ.frz id, hk, hs, rfl, rfl, fun b hb => .inl hb, fun u hu => ?_, fun y u hu => hu.frz hs id⟩
        obtain ⟨_, _, _, hu⟩ := hu
        obtain ⟨hle, ba, bn, bc, a', c', hv, rfl, hc', ha', _⟩ := hu _ _ _ _ hl
        rw [partR es s]
        obtain ⟨xs, ho, hx⟩ := h.ents id _ hl
        refine .sl a' (lenR es s) c' sz _ (fun i j => xs.getD ((offR s + i) * sz + j) undef) (by simp; omega) hc' (fun i c hi => ?_) (fun hne => ?_) (fun A i c j d hA hi hj => ?_) (fun i c j d hi hj => ?_)
        · rw [List.getElem?_take, List.getElem?_drop] at hi
          split at hi
          · exact (hx _ c hi).1
          · simp at hi
        · have hlen : lenR es s ≠ 0 := by intro h0; rw [h0] at hne; simp at hne
          rcases ho.2 with ⟨h1, h2⟩ | ⟨g, cap, cur, h1, _⟩
          · omega
          · rw [hv] at h1
            obtain ⟨rfl, rfl, rfl⟩ : ba = some ⟨g, 0, none⟩ ∧ bn = es.length ∧ bc = cap := by simpa using h1
            obtain rfl := ha' hlen
            exact ⟨_, rfl, by rw [add_block]; exact .inr (by rw [hv]; rfl), add_spot rfl _⟩
        · rw [List.getElem?_take, List.getElem?_drop] at hi
          split at hi
          · obtain ⟨u, hu1, hu2⟩ := (hx _ c hi).2 j d hj
            rcases ho.2 with ⟨h1, h2⟩ | ⟨g, cap, cur, h1, _⟩
            · have := (List.getElem?_eq_some_iff.1 hi).1; omega
            · rw [hv] at h1
              obtain ⟨rfl, rfl, rfl⟩ : ba = some ⟨g, 0, none⟩ ∧ bn = es.length ∧ bc = cap := by simpa using h1
              have hlen : lenR es s ≠ 0 := by omega
              have ha2 := ha' hlen
              rw [hA] at ha2
              simp only [Option.map_some, Option.some.injEq] at ha2
              subst ha2
              rw [add_add]
              have hcell := ho.cells (g := g) (by rw [hv]; rfl) _ u hu1
              have e1 : offR s * sz + (i * sz + j) = (offR s + i) * sz + j := by rw [Nat.add_mul, Nat.add_assoc]
              rw [e1, hcell]
              simp [List.getD, hu1]
          · simp at hi
        · rw [List.getElem?_take, List.getElem?_drop] at hi
          split at hi
          · obtain ⟨u, hu1, hu2⟩ := (hx _ c hi).2 j d hj
            have : xs.getD ((offR s + i) * sz + j) undef = u := by simp [List.getD, hu1]
            rw [this]
            exact Fz.keep (fun _ _ => rfl) (fun b hb => .inl hb) hu2
          · simp at hi
      · simp at hf
    · simp at hf
  | _ => simp [frzC] at hf

theorem SameRows.refl (h : List (Nat × Ent)) : SameRows h h := fun _ _ _ _ own _ hl => ⟨own, hl⟩
theorem SameRows.trans {h1 h2 h3 : List (Nat × Ent)} (a : SameRows h1 h2) (b : SameRows h2 h3) : SameRows h1 h3 := fun i e sz v own es hl =>
  let ⟨o, ho⟩ := b i e sz v own es hl; a i e sz v o es ho

theorem frzL_sound : ∀ {xs : List CV} {st : St} {κ : Con} {ds : List D} {h' : List (Nat × Ent)} (_ : RepK F0 L w0 st a w κ) (_ : frzL st.h xs = some (ds, h')),
    ∃ κ', RepK F0 L w0 { st with h := h' } a w κ' ∧ SameRows st.h h' ∧ κ'.bl = κ.bl ∧ κ'.val = κ.val ∧ (∀ b, κ.F b → κ'.F b) ∧ ds.length = xs.length ∧ (∀ vs, CVs w κ st.h xs vs → ∀ (j : Nat) (d : D) (u : Value), ds[j]? = some d → vs[j]? = some u → Fz w κ'.F u d) ∧
      ∀ y u, CVRep w κ st.h y u → CVRep w κ' h' y u
  | [], st, κ, ds, h', h, hf => by
    simp only [frzL, Option.some.injEq, Prod.mk.injEq] at hf
    obtain ⟨rfl, rfl⟩ := hf
    exact ⟨κ, h, SameRows.refl _, rfl, rfl, fun _ h => h, rfl, fun vs _ j d u hd => by simp at hd, fun _ _ h => h⟩
  | x :: xs, st, κ, ds, h', h, hf => by
    simp only [frzL] at hf
    split at hf
    · rename_i d h1 hx
      split at hf
      · rename_i ds' h2 hr
        simp only [Option.some.injEq, Prod.mk.injEq] at hf
        obtain ⟨rfl, rfl⟩ := hf
        obtain ⟨κ1, k1, s1, b1, v1, f1, q1, m1⟩ := frzC_sound h hx
        obtain ⟨κ2, k2, s2, b2, v2, f2, l2, q2, m2⟩ := frzL_sound (st := { st with h := h1 }) k1 hr
        refine ⟨κ2, k2, s1.trans s2, b2.trans b1, v2.trans v1, fun b hb => f2 b (f1 b hb), by simp [l2], fun vs hvs j d' u hd hu => ?_, fun y u hy => m2 y u (m1 y u hy)⟩
        match vs, hvs with
        | v :: vs, hvs =>
          cases j with
          | zero =>
            simp at hd hu
            subst hd; subst hu
            exact Fz.keep (fun _ _ => rfl) f2 (q1 _ (hvs.2 0 x v rfl rfl))
          | succ j =>
            refine q2 vs ⟨by have := hvs.1; simpa using this, fun k c w' hc hw => ?_⟩ j d' u (by simpa using hd) (by simpa using hu)
            exact m1 c w' (hvs.2 (k + 1) c w' (by simpa using hc) (by simpa using hw))
        | [], hvs => simp at hu
      · simp at hf
    · simp at hf

end
end Go.H
