/- Framework H, part 30: a nil cell as an empty nested row. -/
import Derived.Test.YtdolkacinfjhcaaGreatH29
set_option linter.unusedSimpArgs false
set_option linter.unusedVariables false
set_option linter.constructorNameAsVariable false
namespace Go.H
open Go.RowKit
def St.nlbN (st : St) (id j e sz : Nat) (tys : List TypeId) : Option St :=
 match look st.h id with
 | some (.box ty cs) => match cs[j]? with
  | some (.nl _) => some { st with h := lput (st.h ++ [(st.n, .arr e sz 0 (.nest tys) [])]) id (.box ty (cs.set j (.ref st.n 0 none))), n := st.n + 1 }
  | _ => none
 | _ => none
section
variable {P : Program} {T : TypeId → Option TI} {F0 L : Nat → Prop} {w0 w w' : World} {st : St} {a : Act} {κ κ' : Con} {hh : List (Nat × Ent)}
theorem Rep.nlbN (h : Rep F0 L w0 st a w) {id j e sz : Nat} {tys : List TypeId} {st' : St} (hs : st.nlbN id j e sz tys = some st') : Rep F0 L w0 st' a w := by
 obtain ⟨κ, hr⟩ := h
 unfold St.nlbN at hs
 split at hs
 ·rename_i ty cs hl
  split at hs
  ·rename_i sz' hj
   cases hs
   have hk := hr.kn
   have hok : CVOk st.h κ.n := fun id e he => hk ▸ hr.new id e he
   have hp := hr.push (.arr e sz 0 (.nest tys) []) 0 (.slice none 0 0) (by
    show NestRep _ _ _ _ _ _ _
    simp only [Con.push, hk, if_true]
    exact ⟨⟨[], World.ownsRow_nil w 0 e sz, fun i c hi => by simp at hi⟩, fun p q b h1 _ => by simp [fpOf] at h1, fun p b h1 => by simp [fpOf] at h1⟩) (fun _ _ _ _ _ h => by cases h; rfl) (fun b hb => by rw [has_nest] at hb; simp [Con.push, hk, Value.ownBlock, Con.fp, fpOf] at hb)
   have hl2 : look (st.push (.arr e sz 0 (.nest tys) [])).h id = some (.box ty cs) := by
    show look (st.h ++ [(st.n, .arr e sz 0 (.nest tys) [])]) id = _
    rw [look_push _ _ _ _ (hk ▸ hok)]
    have := hr.new id _ hl
    rw [if_neg (by omega), hl]
   refine ⟨_, hp.recell hl2 fun vals _ hv => ⟨by simp [hv.1], fun k c u hc hu => ?_⟩⟩
   rw [List.getElem?_set] at hc
   split at hc
   ·rename_i q
    subst q
    split at hc
    ·cases hc
     have h0 := hv.2 j (.nl sz') u hj hu
     cases h0
     exact ref_whole (w' := w) (κ := κ) (st := st) (e := e) (sz := sz) (own := .nest tys) (es := []) hk (hk ▸ hok) (v := .slice none 0 0) (A := none) (n := 0) (c := 0) rfl rfl (Nat.le_refl _)
    ·cases hc
   ·exact hv.2 k c u hc hu
  ·cases hs
 ·cases hs
def nlKN (st : St) (id j e sz : Nat) (tys : List TypeId) (K : St → Prop) : Prop := match st.nlbN id j e sz tys with | some st' => fS st' K | none => False
theorem tri_nn {c : Code} {Q : Exit → St → Prop} (id j e sz : Nat) (tys : List TypeId) (h : nlKN st id j e sz tys fun st' => Tri P c st' Q) : Tri P c st Q := by
 unfold nlKN at h
 split at h
 ·rename_i st' hs
  rw [fS_eq] at h
  unfold Tri at h ⊢
  intro F0 L w0 a w hr
  exact h F0 L w0 a w (hr.nlbN hs)
 ·exact h.elim
end
end Go.H
namespace Go.H
open Go.RowKit
section
variable {P : Program} {T : TypeId → Option TI} {F0 L : Nat → Prop} {w0 w w' : World} {st : St} {a : Act} {κ κ' : Con} {hh : List (Nat × Ent)}
def Con.more (κ : Con) (F : Nat → Prop) : Con := { κ with F := fun b => κ.F b ∨ F b }
theorem CVRep.more {F : Nat → Prop} {h' : List (Nat × Ent)} (hs : SameRows hh h') {x : CV} {v : Value} (h : CVRep w κ hh x v) : CVRep w (κ.more F) h' x v := by
 cases x with
 | d x => exact Fz.keep (fun _ _ => rfl) (fun b h => .inl h) h
 | ref i ver s =>
  obtain ⟨h1, h2, h3, h4⟩ := h
  refine ⟨h1, h2, h3, fun e sz own es hl => ?_⟩
  obtain ⟨own', hl'⟩ := hs _ _ _ _ _ _ hl
  exact h4 e sz own' es hl'
 | ep i ver k j =>
  obtain ⟨h1, h2, h3, h4⟩ := h
  refine ⟨h1, h2, h3, fun e sz own es hl => ?_⟩
  obtain ⟨own', hl'⟩ := hs _ _ _ _ _ _ hl
  exact h4 e sz own' es hl'
 | _ => exact h
theorem RepK.un (hr : RepK F0 L w0 st a w κ) {id e sz v : Nat} {tys : List TypeId} {es : List (List D)} (hl : look st.h id = some (.arr e sz v (.nest tys) es)) :
  RepK F0 L w0 { st with h := lput st.h id (.arr e sz v .own es) } a w (κ.more fun b => ∃ p, fpOf (κ.nv id) p = some b) := by
 have hn : NestRep w (κ.val id) (κ.nv id) e sz tys es := hr.ents id _ hl
 have hfp : ∀ p b, fpOf (κ.nv id) p = some b → (Ent.arr e sz v (.nest tys) es).has κ id b := fun p b hb => has_nest.2 (.inr ⟨p, hb⟩)
 have hlk : ∀ m x, look (lput st.h id (.arr e sz v .own es)) m = some x → (m = id ∧ x = .arr e sz v .own es) ∨ (m ≠ id ∧ look st.h m = some x) := fun m x hm => by
  rw [look_lput] at hm
  split at hm
  ·rename_i q; cases hm; exact .inl ⟨q.symm, rfl⟩
  ·rename_i q; exact .inr ⟨fun q' => q q'.symm, hm⟩
 have hs : SameRows st.h (lput st.h id (.arr e sz v .own es)) := fun m e0 sz0 v0 own0 es0 hm => by
  rcases hlk m _ hm with ⟨rfl, q⟩ | ⟨_, q⟩
  ·cases q; exact ⟨_, hl⟩
  ·exact ⟨_, q⟩
 have hcv : ∀ x v', CVRep w κ st.h x v' → CVRep w (κ.more fun b => ∃ p, fpOf (κ.nv id) p = some b) (lput st.h id (.arr e sz v .own es)) x v' := fun x v' h => h.more hs
 have hold : ∀ m x b, look (lput st.h id (.arr e sz v .own es)) m = some x → x.has κ m b → ∃ y, look st.h m = some y ∧ y.has κ m b ∧ y.own = x.own := fun m x b hm hb => by
  rcases hlk m x hm with ⟨rfl, rfl⟩ | ⟨_, q⟩
  ·exact ⟨_, hl, has_row (has_own.1 hb), rfl⟩
  ·exact ⟨x, q, hb, rfl⟩
 refine { below := hr.below, f0 := fun b hb => .inl (hr.f0 b hb), f1 := fun b hb => ?_, f2 := fun b hb => ?_, size := hr.size, dfs := hr.dfs, kn := hr.kn, ents := fun m x hm => ?_, new := fun m x hm => ?_, excl := fun m x b hm hb => ?_, inj := fun m m' x x' b hm hm' hb hb' => ?_, tmps := fun t av ht => ?_, kv := fun m e0 sz0 v0 own0 es0 hm => ?_ }
 ·rcases hb with hb | ⟨p, hb⟩
  ·exact hr.f1 b hb
  ·exact .inr ((hr.excl id _ b hl (hfp p b hb)).1 rfl)
 ·rcases hb with hb | ⟨p, hb⟩
  ·exact hr.f2 b hb
  ·exact (hn.inside p b hb).2.2
 ·rcases hlk m x hm with ⟨rfl, rfl⟩ | ⟨_, q⟩
  ·exact hn.reads fun p b hb => .inr ⟨p, hb⟩
  ·have hx := hr.ents m x q
   cases x with
   | box ty cs => obtain ⟨vals, h1, h2⟩ := hx; exact ⟨vals, h1, h2.1, fun j c u hc hu => hcv _ _ (h2.2 j c u hc hu)⟩
   | arr e0 sz0 v0 own es0 =>
    have mono : ∀ {F : Nat → Prop}, OwnRep w κ.F e0 sz0 (κ.val m) es0 → OwnRep w (fun b => κ.F b ∨ F b) e0 sz0 (κ.val m) es0 := fun ⟨xs, ho, hx⟩ => ⟨xs, ho, fun i c hc => ⟨(hx i c hc).1, fun j d hd => by
     obtain ⟨u, hu, hf⟩ := (hx i c hc).2 j d hd
     exact ⟨u, hu, Fz.keep (fun _ _ => rfl) (fun b h => .inl h) hf⟩⟩⟩
    cases own with
    | nest => exact hx
    | own => exact mono hx
    | frz => exact mono hx
 ·rcases hlk m x hm with ⟨rfl, rfl⟩ | ⟨_, q⟩
  ·exact hr.new _ _ hl
  ·exact hr.new m x q
 ·have hb0 : x.has κ m b := hb
  obtain ⟨y, h1, h2, h3⟩ := hold m x b hm hb0
  have hx := hr.excl m y b h1 h2
  rw [h3] at hx
  refine ⟨hx.1, fun ho hf => ?_, fun ho => .inl (hx.2.2 ho)⟩
  rcases hf with hf | ⟨p, hf⟩
  ·exact hx.2.1 ho hf
  ·have := hr.inj m id y _ b h1 hl h2 (hfp p b hf)
   subst this
   rcases hlk m x hm with ⟨_, rfl⟩ | ⟨q, _⟩
   ·exact (hn.inside p b hf).2.1 (has_own.1 hb0)
   ·exact q rfl
 ·obtain ⟨y, h1, h2, _⟩ := hold m x b hm hb
  obtain ⟨y', h1', h2', _⟩ := hold m' x' b hm' hb'
  exact hr.inj m m' y y' b h1 h1' h2 h2'
 ·obtain ⟨u, hu, hx⟩ := hr.tmps t av ht
  refine ⟨u, hu, ?_⟩
  cases av with
  | c x => exact hcv _ _ hx
  | agg cs2 => obtain ⟨vs, q, hvs⟩ := hx; exact ⟨vs, q, hvs.1, fun j c u hc hu => hcv _ _ (hvs.2 j c u hc hu)⟩
  | tup xs =>
   obtain ⟨vs, q, hl2, hvs⟩ := hx
   refine ⟨vs, q, hl2, fun j x v hj hu => ?_⟩
   have := hvs j x v hj hu
   unfold TVRep at *
   split at this
   ·rename_i hb
    simp only [hb]
    obtain ⟨us, q, hus⟩ := this; exact ⟨us, q, hus.1, fun j c u hc hu => hcv _ _ (hus.2 j c u hc hu)⟩
   ·rename_i hb
    simp only [hb]
    exact ⟨this.1, fun j c u hc hu => hcv _ _ (this.2 j c u hc hu)⟩
  | w x u => exact ⟨hx.1, hcv _ _ hx.2⟩
  | u => trivial
 ·obtain ⟨own', hl'⟩ := hs m e0 sz0 v0 own0 es0 hm
  exact hr.kv m _ _ _ _ _ hl'
def unK (st : St) (id : Nat) (K : St → Prop) : Prop := match look st.h id with
 | some (.arr e sz v (.nest _) es) => putE st st.h id (.arr e sz v .own es) K
 | _ => False
theorem tri_un {c : Code} {Q : Exit → St → Prop} (id : Nat) (h : unK st id fun st' => Tri P c st' Q) : Tri P c st Q := by
 unfold unK at h
 split at h
 ·rename_i e sz v tys es hl
  rw [putE_eq] at h
  unfold Tri at h ⊢
  intro F0 L w0 a w ⟨κ, hr⟩
  exact h F0 L w0 a w ⟨_, hr.un hl⟩
 ·exact h.elim
end
end Go.H
