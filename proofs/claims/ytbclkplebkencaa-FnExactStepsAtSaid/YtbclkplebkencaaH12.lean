/- Framework H, part 12: made slices; regions; code. -/
import Derived.Test.YtbclkplebkencaaH11
namespace Go.H
set_option linter.unusedSimpArgs false
set_option linter.unusedVariables false
open Go.RowKit

section
variable {P : Program} {T : TypeId → Option TI} {F0 L : Nat → Prop} {w0 w w' : World} {st : St} {a : Act} {κ κ' : Con} {hh : List (Nat × Ent)}

/-- Constant cells as data. -/
def zD : List CV → Option (List D)
  | [] => some []
  | x :: r => match x, zD r with
    | .d d, some l => some (d :: l)
    | .nl sz, some l => some (.sl sz [] :: l)
    | _, _ => none

theorem zD_sound : ∀ {xs : List CV} {ds : List D}, zD xs = some ds → ds.length = xs.length ∧ ∀ (w : World) (κ : Con) (hh : List (Nat × Ent)) (vs : List Value), CVs w κ hh xs vs → ∀ (j : Nat) (d : D) (u : Value), ds[j]? = some d → vs[j]? = some u → Fz w κ.F u d
  | [], ds, h => by
    simp only [zD, Option.some.injEq] at h
    subst h
    exact ⟨rfl, fun w κ hh vs _ j d u hd => by simp at hd⟩
  | x :: r, ds, h => by
    have key : ∀ (d0 : D) (l : List D), zD r = some l → ds = d0 :: l → (∀ (w : World) (κ : Con) (hh : List (Nat × Ent)) v, CVRep w κ hh x v → Fz w κ.F v d0) → ds.length = (x :: r).length ∧ ∀ (w : World) (κ : Con) (hh : List (Nat × Ent)) (vs : List Value), CVs w κ hh (x :: r) vs → ∀ (j : Nat) (d : D) (u : Value), ds[j]? = some d → vs[j]? = some u → Fz w κ.F u d := by
      intro d0 l hl hds hx
      obtain ⟨h1, h2⟩ := zD_sound hl
      subst hds
      refine ⟨by simp [h1], fun w κ hh vs hvs j d u hd hu => ?_⟩
      match vs, hvs with
      | v :: vs, hvs =>
        cases j with
        | zero => simp at hd hu; subst hd; subst hu; exact hx w κ hh _ (hvs.2 0 x v rfl rfl)
        | succ j => exact h2 w κ hh vs ⟨by have := hvs.1; simpa using this, fun k c w' hc hw => hvs.2 (k + 1) c w' (by simpa using hc) (by simpa using hw)⟩ j d u (by simpa using hd) (by simpa using hu)
      | [], hvs => simp at hu
    simp only [zD] at h
    split at h
    · rename_i d l hl
      cases h
      exact key d l hl rfl fun w κ hh v hv => hv
    · rename_i sz l hl
      cases h
      refine key _ l hl rfl fun w κ hh v hv => ?_
      cases hv
      exact .sl none 0 0 sz [] (fun _ _ => undef) rfl (Nat.le_refl _) (fun i c hi => by simp at hi) (fun hne => absurd rfl hne) (fun A i c j d hA => by simp at hA) (fun i c j d hi => by simp at hi)
    · cases h

def makeWp (T : TypeId → Option TI) (st : St) (t : TypeId) (l c : AV) (dst : Option Tmp) (K : St → Prop) : Prop :=
  match T t, l, c with
  | some ti, .c (.d (.int _ l)), .c (.d (.int _ c)) => match ti.k with
    | .slice e => match T e with
      | some te => match Nat.beq te.size 0, Nat.ble te.bytes 32768, zD te.zero with
        | false, true, some ds => (0 ≤ l ∧ l ≤ c ∧ c ≤ 4000000000) ∧ setT (st.push (.arr e te.size 0 true (List.replicate l.toNat ds))) dst (.c (.ref st.n 0 none)) K
        | _, _, _ => False
      | none => False
    | _ => False
  | _, _, _ => False

theorem make_tri (hT : TOk P T) {o : Oper} {t : TypeId} {x y : Operand} (ho : o.op = .makeSlice t x y) {K : St → Prop} (h : makeWp T st t (evO st x) (evO st y) o.dst K) : OpTri P o st K := by
  unfold makeWp at h
  split at h
  · rename_i ti kl l kc c hti hx hy
    have hk := (hT _ _ hti).k
    split at h
    · rename_i e hke
      rw [hke] at hk
      split at h
      · rename_i te hte
        have hf := hT _ _ hte
        obtain ⟨info, z, i1, i2, i3, i4, i5, i6, i7⟩ := hf.info
        split at h
        · rename_i ds hb1 hb2 hds
          have h0 : te.size ≠ 0 := fun e => by rw [e] at hb1; simp at hb1
          have hby := Nat.le_of_ble_eq_true hb2
          obtain ⟨⟨hl0, hlc, hcm⟩, h⟩ := h
          obtain ⟨z', z1, z2⟩ := zeros_sound hf (c.toNat * te.size) h0
          have hzz : z' = z := by
            have := z1 default
            simp [zeroValue, typeInfo, i1, i4] at this
            exact this.symm
          subst hzz
          obtain ⟨d1, d2⟩ := zD_sound hds
          refine opTri_value fun F0 L w0 a w κ hr => ?_
          have hx' := evO_rep hr x
          rw [hx] at hx'
          have hy' := evO_rep hr y
          rw [hy] at hy'
          have ex : a.eval x = .int kl l := by generalize a.eval x = q at hx'; cases hx'; rfl
          have ey : a.eval y = .int kc c := by generalize a.eval y = q at hy'; cases hy'; rfl
          have hbytes : (info.bytes : Int) * c ≤ 281474976710656 := by
            rw [i3]
            have h1 : (te.bytes : Int) ≤ 32768 := by omega
            have h2 : (te.bytes : Int) * c ≤ 32768 * 4000000000 := Int.mul_le_mul h1 hcm (by omega) (by omega)
            omega
          have hrun := run_make (P := P) w t e info z' hk i1 i4 kl kc l c hl0 hlc hbytes (by omega)
          have g := Grew.alloc w (.cells (madeCells z'.cells (c.toNat * info.size)) e)
          have hcells : madeCells z'.cells (c.toNat * info.size) = ((List.range (c.toNat * te.size)).map fun i => z'.cells[i % z'.cells.size]!).toArray := by
            apply Array.toList_inj.1
            simp [madeCells, i2]
          obtain ⟨st', κ', k1, k2⟩ := arr_put hr g (e := e) (sz := te.size) (es := List.replicate l.toNat ds) (n := l.toNat) (c := c.toNat) (A := some ⟨w.heap.size, 0, none⟩)
            (ownRep_new (cells := (List.range (c.toNat * te.size)).map fun i => z'.cells[i % z'.cells.size]!) (by omega) (by simp only [maxLen]; omega) (by simp) (by rw [hcells]; simp) (by simp) (fun i cc hi => by
              rw [List.getElem?_replicate] at hi
              split at hi
              · rename_i hil
                cases hi
                refine ⟨by rw [d1, i6], fun j d hj => ?_⟩
                have hjl : j < te.size := by rw [← i6, ← d1]; exact (List.getElem?_eq_some_iff.1 hj).1
                have hlt : i * te.size + j < c.toNat * te.size := by
                  have : (i + 1) * te.size ≤ c.toNat * te.size := Nat.mul_le_mul_right _ (by omega)
                  rw [Nat.add_mul, Nat.one_mul] at this; omega
                refine ⟨z'.cells[j]!, ?_, ?_⟩
                · simp only [List.getElem?_map, List.getElem?_range hlt, Option.map_some]
                  rw [i5, Nat.mul_comm, Nat.mul_add_mod, Nat.mod_eq_of_lt hjl]
                · obtain ⟨q, q1, q2, q3⟩ := zero_sound hf
                  have hq : q = z' := by
                    have := q1 default
                    simp [zeroValue, typeInfo, i1, i4] at this
                    exact this.symm
                  subst hq
                  have hcv := q3 (w.alloc (.cells (madeCells q.cells (c.toNat * info.size)) e)) κ st.h
                  have hget : q.cells.toList[j]? = some q.cells[j]! := by
                    have : j < q.cells.size := by omega
                    simp [this]
                  exact d2 _ _ _ _ hcv j d _ hj hget
              · cases hi)) (fun b hb => by cases hb; exact Nat.le_refl _) (by simp) (by omega) h
          refine ⟨_, _, by simp only [execOp, ho, Sem.run_bind, ex, ey, hrun, Result.andThen_ok, Sem.run_pure]; rfl, st', κ', k1, k2⟩
        · exact h.elim
      · exact h.elim
    · exact h.elim
  · exact h.elim

end
end Go.H
