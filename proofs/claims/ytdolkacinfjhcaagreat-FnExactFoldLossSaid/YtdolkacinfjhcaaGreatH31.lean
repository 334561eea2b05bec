/- Framework H, part 30: a nil cell as an empty nested row. -/
import Derived.Test.YtdolkacinfjhcaaGreatH29
set_option linter.unusedSimpArgs false
set_option linter.unusedVariables false
set_option linter.constructorNameAsVariable false
namespace Go.H
open Go.RowKit
def St.nlbN (st : St) (id j e sz : Nat) (tys : List TypeId) : Option St :=
 match look st.h id with
 | some (.box ty cs) => match cs[j]? with
  | some (.nl _) => some { st with h := lput (st.h ++ [(st.n, .arr e sz 0 (.nest tys) [])]) id (.box ty (cs.set j (.ref st.n 0 none))), n := st.n + 1 }
  | _ => none
 | _ => none
section
variable {P : Program} {T : TypeId → Option TI} {F0 L : Nat → Prop} {w0 w w' : World} {st : St} {a : Act} {κ κ' : Con} {hh : List (Nat × Ent)}
theorem Rep.nlbN (h : Rep F0 L w0 st a w) {id j e sz : Nat} {tys : List TypeId} {st' : St} (hs : st.nlbN id j e sz tys = some st') : Rep F0 L w0 st' a w := by
 obtain ⟨κ, hr⟩ := h
 unfold St.nlbN at hs
 split at hs
 ·rename_i ty cs hl
  split at hs
  ·rename_i sz' hj
   cases hs
   have hk := hr.kn
   have hok : CVOk st.h κ.n := fun id e he => hk ▸ hr.new id e he
   have hp := hr.push (.arr e sz 0 (.nest tys) []) 0 (.slice none 0 0) (by
    show NestRep _ _ _ _ _ _ _
    simp only [Con.push, hk, if_true]
    exact ⟨⟨[], World.ownsRow_nil w 0 e sz, fun i c hi => by simp at hi⟩, fun p q b h1 _ => by simp [fpOf] at h1, fun p b h1 => by simp [fpOf] at h1⟩) (fun _ _ _ _ _ h => by cases h; rfl) (fun b hb => by rw [has_nest] at hb; simp [Con.push, hk, Value.ownBlock, Con.fp, fpOf] at hb)
   have hl2 : look (st.push (.arr e sz 0 (.nest tys) [])).h id = some (.box ty cs) := by
    show look (st.h ++ [(st.n, .arr e sz 0 (.nest tys) [])]) id = _
    rw [look_push _ _ _ _ (hk ▸ hok)]
    have := hr.new id _ hl
    rw [if_neg (by omega), hl]
   refine ⟨_, hp.recell hl2 fun vals _ hv => ⟨by simp [hv.1], fun k c u hc hu => ?_⟩⟩
   rw [List.getElem?_set] at hc
   split at hc
   ·rename_i q
    subst q
    split at hc
    ·cases hc
     have h0 := hv.2 j (.nl sz') u hj hu
     cases h0
     exact ref_whole (w' := w) (κ := κ) (st := st) (e := e) (sz := sz) (own := .nest tys) (es := []) hk (hk ▸ hok) (v := .slice none 0 0) (A := none) (n := 0) (c := 0) rfl rfl (Nat.le_refl _)
    ·cases hc
   ·exact hv.2 k c u hc hu
  ·cases hs
 ·cases hs
def nlKN (st : St) (id j e sz : Nat) (tys : List TypeId) (K : St → Prop) : Prop := match st.nlbN id j e sz tys with | some st' => fS st' K | none => False
theorem tri_nn {c : Code} {Q : Exit → St → Prop} (id j e sz : Nat) (tys : List TypeId) (h : nlKN st id j e sz tys fun st' => Tri P c st' Q) : Tri P c st Q := by
 unfold nlKN at h
 split at h
 ·rename_i st' hs
  rw [fS_eq] at h
  unfold Tri at h ⊢
  intro F0 L w0 a w hr
  exact h F0 L w0 a w (hr.nlbN hs)
 ·exact h.elim
end
end Go.H
namespace Go.H
open Go.RowKit
section
variable {P : Program} {T : TypeId → Option TI} {F0 L : Nat → Prop} {w0 w w' : World} {st : St} {a : Act} {κ κ' : Con} {hh : List (Nat × Ent)}
end
end Go.H
