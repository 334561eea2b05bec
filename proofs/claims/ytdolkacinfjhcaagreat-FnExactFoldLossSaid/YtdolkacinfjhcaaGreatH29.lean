/- Framework H, part 29: a nil slice in a box as an empty row of the frame's own. -/
import Derived.Test.YtdolkacinfjhcaaGreatH28
set_option linter.unusedSimpArgs false
set_option linter.unusedVariables false
set_option linter.constructorNameAsVariable false
namespace Go.H
open Go.RowKit
section
variable {P : Program} {T : TypeId → Option TI} {F0 L : Nat → Prop} {w0 w w' : World} {st : St} {a : Act} {κ κ' : Con} {hh : List (Nat × Ent)}
theorem RepK.recell (h : RepK F0 L w0 st a w κ) {id : Nat} {ty : TypeId} {cs cs' : List CV} (hl : look st.h id = some (.box ty cs)) (hc : ∀ vals : List Value, w.heap[κ.bl id]? = some (.cells vals.toArray ty (0, 0)) → CVs w κ st.h cs vals → CVs w κ st.h cs' vals) :
  RepK F0 L w0 { st with h := lput st.h id (.box ty cs') } a w κ := by
 have harr : ∀ m e sz ver own es, look (lput st.h id (.box ty cs')) m = some (.arr e sz ver own es) → look st.h m = some (.arr e sz ver own es) := fun m e sz ver own es hm => by
  rw [look_lput] at hm
  split at hm
  ·cases hm
  ·exact hm
 have hcv : ∀ x v, CVRep w κ st.h x v → CVRep w κ (lput st.h id (.box ty cs')) x v := fun x v hx => by
  cases x with
  | ref i ver s => obtain ⟨h1, h2, h3, h4⟩ := hx; exact ⟨h1, h2, h3, fun e sz own es hm => h4 e sz own es (harr _ _ _ _ _ _ hm)⟩
  | ep i ver k j => obtain ⟨h1, h2, h3, h4⟩ := hx; exact ⟨h1, h2, h3, fun e sz own es hm => h4 e sz own es (harr _ _ _ _ _ _ hm)⟩
  | _ => exact hx
 have hcvs : ∀ cs vs, CVs w κ st.h cs vs → CVs w κ (lput st.h id (.box ty cs')) cs vs := fun cs vs hv => ⟨hv.1, fun j c u hj hu => hcv _ _ (hv.2 j c u hj hu)⟩
 have hlk : ∀ m e, look (lput st.h id (.box ty cs')) m = some e → (m = id ∧ e = .box ty cs') ∨ (m ≠ id ∧ look st.h m = some e) := fun m e hm => by
  rw [look_lput] at hm
  split at hm
  ·rename_i q; cases hm; exact .inl ⟨q.symm, rfl⟩
  ·rename_i q; exact .inr ⟨fun q' => q q'.symm, hm⟩
 have hold : ∀ m e, look (lput st.h id (.box ty cs')) m = some e → ∃ y, look st.h m = some y ∧ (∀ b, e.has κ m b ↔ y.has κ m b) ∧ e.own = y.own := fun m e hm => by
  rcases hlk m e hm with ⟨rfl, rfl⟩ | ⟨_, h1⟩
  ·exact ⟨_, hl, fun b => Iff.rfl, rfl⟩
  ·exact ⟨_, h1, fun b => Iff.rfl, rfl⟩
 refine { below := h.below, f0 := h.f0, f1 := h.f1, f2 := h.f2, size := h.size, dfs := h.dfs, kn := h.kn, kv := fun m e sz ver own es hm => h.kv m e sz ver own es (harr _ _ _ _ _ _ hm), ents := fun m e hm => ?_, new := fun m e hm => ?_, excl := fun m e b hm hb => ?_, inj := fun m m' e e' b hm hm' hb hb' => ?_, tmps := fun t av ht => ?_ }
 ·rcases hlk m e hm with ⟨rfl, rfl⟩ | ⟨hne, h1⟩
  ·obtain ⟨vs, g1, g2⟩ := h.ents m _ hl
   exact ⟨vs, g1, hcvs _ _ (hc vs g1 g2)⟩
  ·have hy := h.ents m e h1
   cases e with
   | box ty2 cs2 => obtain ⟨vs, g1, g2⟩ := hy; exact ⟨vs, g1, hcvs _ _ g2⟩
   | arr e0 sz ver own es => cases own <;> exact hy
 ·obtain ⟨y, h1, _⟩ := hold m e hm
  exact h.new m y h1
 ·obtain ⟨y, h1, h2, h3⟩ := hold m e hm
  rw [h3]
  exact h.excl m y b h1 ((h2 b).1 hb)
 ·obtain ⟨y, h1, h2, _⟩ := hold m e hm
  obtain ⟨y', h1', h2', _⟩ := hold m' e' hm'
  exact h.inj m m' y y' b h1 h1' ((h2 b).1 hb) ((h2' b).1 hb')
 ·obtain ⟨v, hv, hr⟩ := h.tmps t av ht
  refine ⟨v, hv, ?_⟩
  cases av with
  | c x => exact hcv _ _ hr
  | agg cs2 => obtain ⟨vs, q, hvs⟩ := hr; exact ⟨vs, q, hcvs _ _ hvs⟩
  | tup xs =>
   obtain ⟨vs, q, hl2, hvs⟩ := hr
   refine ⟨vs, q, hl2, fun j x v hj hu => ?_⟩
   have := hvs j x v hj hu
   unfold TVRep at *
   split at this
   ·rename_i hb
    simp only [hb]
    obtain ⟨us, q, hus⟩ := this; exact ⟨us, q, hcvs _ _ hus⟩
   ·rename_i hb
    simp only [hb]
    exact hcvs _ _ this
  | w x u => exact ⟨hr.1, hcv _ _ hr.2⟩
  | u => trivial
end
def St.nlb (st : St) (id j e sz : Nat) : Option St :=
 match look st.h id with
 | some (.box ty cs) => match cs[j]? with
  | some (.nl _) => some { st with h := lput (st.h ++ [(st.n, .arr e sz 0 .own [])]) id (.box ty (cs.set j (.ref st.n 0 none))), n := st.n + 1 }
  | _ => none
 | _ => none
section
variable {P : Program} {T : TypeId → Option TI} {F0 L : Nat → Prop} {w0 w w' : World} {st : St} {a : Act} {κ κ' : Con} {hh : List (Nat × Ent)}
theorem Rep.nlb (h : Rep F0 L w0 st a w) {id j e sz : Nat} {st' : St} (hs : st.nlb id j e sz = some st') : Rep F0 L w0 st' a w := by
 obtain ⟨κ, hr⟩ := h
 unfold St.nlb at hs
 split at hs
 ·rename_i ty cs hl
  split at hs
  ·rename_i sz' hj
   cases hs
   have hk := hr.kn
   have hok : CVOk st.h κ.n := fun id e he => hk ▸ hr.new id e he
   have hp := hr.push (.arr e sz 0 .own []) 0 (.slice none 0 0) (by
    show OwnRep _ _ _ _ _ _
    simp only [Con.push, hk, if_true]
    exact ownRep_nil w e sz) (fun _ _ _ _ _ h => by cases h; rfl) (fun b hb => by rw [has_own] at hb; simp [Con.push, hk, Value.ownBlock] at hb)
   have hl2 : look (st.push (.arr e sz 0 .own [])).h id = some (.box ty cs) := by
    show look (st.h ++ [(st.n, .arr e sz 0 .own [])]) id = _
    rw [look_push _ _ _ _ (hk ▸ hok)]
    have := hr.new id _ hl
    rw [if_neg (by omega), hl]
   refine ⟨_, hp.recell hl2 fun vals _ hv => ⟨by simp [hv.1], fun k c u hc hu => ?_⟩⟩
   rw [List.getElem?_set] at hc
   split at hc
   ·rename_i q
    subst q
    split at hc
    ·cases hc
     have h0 := hv.2 j (.nl sz') u hj hu
     cases h0
     exact ref_whole (w' := w) (κ := κ) (st := st) (e := e) (sz := sz) (own := .own) (es := []) hk (hk ▸ hok) (v := .slice none 0 0) (A := none) (n := 0) (c := 0) rfl rfl (Nat.le_refl _)
    ·cases hc
   ·exact hv.2 k c u hc hu
  ·cases hs
 ·cases hs
def nlK (st : St) (id j e sz : Nat) (K : St → Prop) : Prop := match st.nlb id j e sz with | some st' => fS st' K | none => False
theorem tri_nl {c : Code} {Q : Exit → St → Prop} (id j e sz : Nat) (h : nlK st id j e sz fun st' => Tri P c st' Q) : Tri P c st Q := by
 unfold nlK at h
 split at h
 ·rename_i st' hs
  rw [fS_eq] at h
  unfold Tri at h ⊢
  intro F0 L w0 a w hr
  exact h F0 L w0 a w (hr.nlb hs)
 ·exact h.elim
end
section
variable {P : Program} {T : TypeId → Option TI} {F0 L : Nat → Prop} {w0 w w' : World} {st : St} {a : Act} {κ κ' : Con} {hh : List (Nat × Ent)}
end
section
variable {P : Program} {T : TypeId → Option TI} {ops : List Oper} {E : List Bool} {K : St → Prop} {fuel : Nat} {done : List Nat} {st : St}
theorem anyV_five {i j k l m : Nat} {o p q r s : Oper} (h : nextF E ops st done = some [(i, o), (j, p), (k, q), (l, r), (m, s)]) (h1 : gStep P T ops st o (anyV P T ops E K fuel (i :: done))) (h2 : gStep P T ops st p (anyV P T ops E K fuel (j :: done)))
  (h3 : gStep P T ops st q (anyV P T ops E K fuel (k :: done))) (h4 : gStep P T ops st r (anyV P T ops E K fuel (l :: done))) (h5 : gStep P T ops st s (anyV P T ops E K fuel (m :: done))) : anyV P T ops E K (fuel + 1) done st :=
 anyV_next h fun x hx => by
  simp at hx
  rcases hx with rfl | rfl | rfl | rfl | rfl
  ·exact h1
  ·exact h2
  ·exact h3
  ·exact h4
  ·exact h5
theorem anyV_six {i j k l m n : Nat} {o p q r s t : Oper} (h : nextF E ops st done = some [(i, o), (j, p), (k, q), (l, r), (m, s), (n, t)]) (h1 : gStep P T ops st o (anyV P T ops E K fuel (i :: done))) (h2 : gStep P T ops st p (anyV P T ops E K fuel (j :: done)))
  (h3 : gStep P T ops st q (anyV P T ops E K fuel (k :: done))) (h4 : gStep P T ops st r (anyV P T ops E K fuel (l :: done))) (h5 : gStep P T ops st s (anyV P T ops E K fuel (m :: done))) (h6 : gStep P T ops st t (anyV P T ops E K fuel (n :: done))) : anyV P T ops E K (fuel + 1) done st :=
 anyV_next h fun x hx => by
  simp at hx
  rcases hx with rfl | rfl | rfl | rfl | rfl | rfl
  ·exact h1
  ·exact h2
  ·exact h3
  ·exact h4
  ·exact h5
  ·exact h6
end
end Go.H
