/- Framework H, part 9: the operations that make or write memory. -/
import Derived.Test.YtbclkplebkencaaH8
namespace Go.H
set_option linter.unusedSimpArgs false
set_option linter.unusedVariables false
open Go.RowKit

/-- One operation, from an abstract state on. -/
def OpTri (P : Program) (o : Oper) (st : St) (K : St → Prop) : Prop :=
  ∀ F0 L w0 a w, Rep F0 L w0 st a w → ∀ (next : Act → World → Prop) (Q : Exit → Act → World → Prop), (∀ st' a' w', K st' → Rep F0 L w0 st' a' w' → next a' w') → o.wp P a w next Q

section
variable {P : Program} {T : TypeId → Option TI} {F0 L : Nat → Prop} {w0 w : World} {st : St} {a : Act} {κ : Con} {hh : List (Nat × Ent)}

theorem opTri_value {o : Oper} {st : St} {K : St → Prop} (h : ∀ F0 L w0 a w κ, RepK F0 L w0 st a w κ → ∃ v w', (execOp a.eval o).run P w = .ok (.value v) w' ∧ ∃ st' κ', K st' ∧ RepK F0 L w0 st' (a.put o.dst v) w' κ') : OpTri P o st K := by
  intro F0 L w0 a w ⟨κ, hr⟩ next Q hn
  obtain ⟨v, w', h1, st', κ', h2, h3⟩ := h F0 L w0 a w κ hr
  unfold Oper.wp
  rw [h1]
  exact hn st' _ w' h2 ⟨κ', h3⟩

theorem opTri_skip {o : Oper} {st : St} {K : St → Prop} (h : ∀ F0 L w0 a w κ, RepK F0 L w0 st a w κ → ∃ w', (execOp a.eval o).run P w = .ok .skip w' ∧ ∃ st' κ', K st' ∧ RepK F0 L w0 st' (a.put o.dst undef) w' κ') : OpTri P o st K := by
  intro F0 L w0 a w ⟨κ, hr⟩ next Q hn
  obtain ⟨w', h1, st', κ', h2, h3⟩ := h F0 L w0 a w κ hr
  unfold Oper.wp
  rw [h1]
  exact hn st' _ w' h2 ⟨κ', h3⟩

theorem quiet_tri (hT : TOk P T) {o : Oper} {K : St → Prop} (h : qqWp T st o.op fun av => setT st o.dst av K) : OpTri P o st K := by
  intro F0 L w0 a w hrep next Q hn
  obtain ⟨κ, hr⟩ := hrep
  obtain ⟨r, hs, hq⟩ := qq_sound hT h ⟨F0, L, w0, a, w, κ, hr⟩
  obtain ⟨v, hv, hav⟩ := hq F0 L w0 a w κ o rfl hr
  obtain ⟨st', hK, hr'⟩ := setT_sound hs hr hav
  unfold Oper.wp
  rw [hv]
  exact hn st' _ w hK ⟨κ, hr'⟩

/-! ### boxes -/
def boxWp (st : St) (ty : TypeId) (cs : List CV) (dst : Option Tmp) (K : St → Prop) : Prop := setT (st.push (.box ty cs)) dst (.c (.ptr st.n 0)) K

theorem box_put (h : RepK F0 L w0 st a w κ) {ty : TypeId} {cs : List CV} {vals : List Value} (hv : CVs w κ st.h cs vals) {dst : Option Tmp} {K : St → Prop} (hK : boxWp st ty cs dst K) :
    ∃ st' κ', K st' ∧ RepK F0 L w0 st' (a.put dst (.pointer (some ⟨w.heap.size, 0, none⟩))) { w with heap := w.heap.push (.cells vals.toArray ty (0, 0)) } κ' := by
  have h' := h.newBox (ty := ty) hv
  obtain ⟨st', h1, h2⟩ := setT_sound hK h' (v := .pointer (some ⟨w.heap.size, 0, none⟩)) ⟨by simp only [Con.push]; rw [h.kn]; omega, by simp only [Con.push, h.kn, if_true]⟩
  exact ⟨st', _, h1, h2⟩

theorem box_tri {o : Oper} {ty : TypeId} {x : Operand} (ho : o.op = .box ty x) {K : St → Prop} (h : match avCells (evO st x) with | some cs => boxWp st ty cs o.dst K | none => False) : OpTri P o st K := by
  split at h
  · rename_i cs hcs
    refine opTri_value fun F0 L w0 a w κ hr => ?_
    have hv := avCells_sound hcs (evO_rep hr x)
    obtain ⟨st', κ', h1, h2⟩ := box_put hr hv h
    refine ⟨_, _, ?_, st', κ', h1, h2⟩
    simp only [execOp, ho, Instr.box, newVar, newRow, Sem.run_bind, run_newObj, Result.andThen_ok, Sem.run_pure]
  · exact h.elim

theorem alloc_tri (hT : TOk P T) {o : Oper} {ty : TypeId} (ho : o.op = .alloc ty) {K : St → Prop} (h : match T ty with | some ti => boxWp st ty ti.zero o.dst K | none => False) : OpTri P o st K := by
  split at h
  · rename_i ti hti
    obtain ⟨z, h1, h2, h3⟩ := zero_sound (hT _ _ hti)
    refine opTri_value fun F0 L w0 a w κ hr => ?_
    obtain ⟨st', κ', h4, h5⟩ := box_put hr (h3 w κ st.h) h
    refine ⟨_, _, ?_, st', κ', h4, h5⟩
    simp only [execOp, ho, Instr.alloc, newVar, newRow, Sem.run_bind, h1, run_newObj, Result.andThen_ok, Sem.run_pure]
  · exact h.elim

/-! ### slice literals -/
def chunk {α : Type} (sz : Nat) : Nat → List α → List (List α)
  | 0, _ => []
  | n + 1, l => l.take sz :: chunk sz n (l.drop sz)

theorem chunk_length {α : Type} (sz : Nat) : ∀ (n : Nat) (l : List α), (chunk sz n l).length = n
  | 0, _ => rfl
  | n + 1, l => by simp [chunk, chunk_length sz n]

theorem chunk_get {α : Type} (sz : Nat) : ∀ (n : Nat) (l : List α) (_ : l.length = n * sz) (i : Nat) (c : List α), (chunk sz n l)[i]? = some c → c.length = sz ∧ ∀ (j : Nat) (d : α), c[j]? = some d → l[i * sz + j]? = some d
  | 0, _, _, i, c, h => by simp [chunk] at h
  | n + 1, l, hl, 0, c, h => by
    simp only [chunk, List.getElem?_cons_zero, Option.some.injEq] at h
    subst h
    refine ⟨by simp [hl, Nat.add_mul], fun j d hd => ?_⟩
    rw [List.getElem?_take] at hd
    split at hd
    · simpa using hd
    · simp at hd
  | n + 1, l, hl, i + 1, c, h => by
    simp only [chunk, List.getElem?_cons_succ] at h
    obtain ⟨h1, h2⟩ := chunk_get sz n (l.drop sz) (by simp [hl, Nat.add_mul]) i c h
    refine ⟨h1, fun j d hd => ?_⟩
    have := h2 j d hd
    rw [List.getElem?_drop] at this
    rw [Nat.add_mul, Nat.one_mul]
    have e : sz + (i * sz + j) = i * sz + sz + j := by omega
    rwa [e] at this

/-- A new row of flat cells. -/
theorem ownRep_new {w' : World} {F : Nat → Prop} {e sz n cap : Nat} {cells : List Value} (hn : n ≤ cap) (hm : cap ≤ maxLen) (hs : cells.length = cap * sz) (g : w'.heap[w.heap.size]? = some (.cells cells.toArray e (0, 0)))
    {es : List (List D)} (hes : es.length = n) (hc : ∀ (i : Nat) (c : List D), es[i]? = some c → c.length = sz ∧ ∀ (j : Nat) (d : D), c[j]? = some d → ∃ u, cells[i * sz + j]? = some u ∧ Fz w' F u d) :
    OwnRep w' F e sz (.slice (some ⟨w.heap.size, 0, none⟩) n cap) es := by
  refine ⟨cells.take (n * sz), ⟨?_, .inr ⟨w.heap.size, cap, cells.toArray, by rw [hes], Nat.zero_le _, g, by omega, hm, by simp [hs], by simp [hes]⟩⟩, fun i c hi => ?_⟩
  · rw [List.length_take, hs, hes]
    exact Nat.min_eq_left (Nat.mul_le_mul_right _ hn)
  · obtain ⟨h1, h2⟩ := hc i c hi
    refine ⟨h1, fun j d hj => ?_⟩
    obtain ⟨u, hu, hf⟩ := h2 j d hj
    refine ⟨u, ?_, hf⟩
    have hi' : i < n := by rw [← hes]; exact (List.getElem?_eq_some_iff.1 hi).1
    have hj' : j < sz := by rw [← h1]; exact (List.getElem?_eq_some_iff.1 hj).1
    have hlt : i * sz + j < n * sz := by
      have h3 : (i + 1) * sz ≤ n * sz := Nat.mul_le_mul_right _ hi'
      rw [Nat.add_mul, Nat.one_mul] at h3
      omega
    rw [List.getElem?_take, if_pos hlt]
    exact hu

def litWp (T : TypeId → Option TI) (st : St) (t : TypeId) (len : Nat) (parts : List (Nat × Operand)) (dst : Option Tmp) (K : St → Prop) : Prop :=
  match T t with
  | some ti => match ti.k with
    | .slice e => match T e with
      | some te => match len with
        | 0 => match parts with | _ :: _ => False | [] => setT (st.push (.arr e te.size 0 true [])) dst (.c (.ref st.n 0 none)) K
        | len + 1 => match Nat.beq te.size 0, Nat.ble ((len + 1) * te.size) 16777216, partsC st parts with
          | false, true, some l => match fillC (fun i => some (i * te.size, te.size)) ((List.range ((len + 1) * te.size)).map fun i => te.zero.getD (i % te.size) .u) l with
            | some cs => match frzL st.h cs with
              | some (ds, h') => setT (St.push { st with h := h' } (.arr e te.size 0 true (chunk te.size (len + 1) ds))) dst (.c (.ref st.n 0 none)) K
              | none => False
            | none => False
          | _, _, _ => False
      | none => False
    | _ => False
  | none => False

theorem ref_whole {w' : World} {st : St} {e sz : Nat} {own : Bool} {es : List (List D)} {v : Value} (hn : κ.n = st.n) (hok : CVOk st.h st.n) {A : Option Addr} {n c : Nat} (hvs : v = .slice A n c) (hlen : n = es.length) (hc : n ≤ c) :
    CVRep w' (κ.push 0 v) (st.h ++ [(st.n, Ent.arr e sz 0 own es)]) (.ref st.n 0 none) v := by
  subst hvs
  refine ⟨⟨by simp only [Con.push]; omega, Nat.zero_le _⟩, rfl, rfl, fun e' sz' own' es' hl => ?_⟩
  rw [look_push _ _ _ _ hok, if_pos rfl] at hl
  cases hl
  refine ⟨by simp [offR, lenR], A, n, c, A, c, by simp only [Con.push, hn, if_true], by simp [lenR, hlen], by simp only [lenR]; omega, fun _ => ?_, fun _ => ⟨rfl, rfl, rfl⟩⟩
  cases A with
  | none => rfl
  | some A => simp [offR, Addr.add]

theorem RepK.ok (h : RepK F0 L w0 st a w κ) : CVOk st.h st.n := fun id e he => h.new id e he

theorem zeros_sound {te : TI} {e : TypeId} (hf : te.fits P e) (m : Nat) (hm : te.size ≠ 0) : ∃ z, (∀ w : World, (zeroValue e).run P w = .ok z w) ∧ ∀ (w : World) (κ : Con) (hh : List (Nat × Ent)),
    CVs w κ hh ((List.range m).map fun i => te.zero.getD (i % te.size) .u) ((List.range m).map fun i => z.cells[i % z.cells.size]!) := by
  obtain ⟨z, h1, h2, h3⟩ := zero_sound hf
  refine ⟨z, h1, fun w κ hh => ⟨by simp, fun j c u hc hu => ?_⟩⟩
  obtain ⟨hl, hz⟩ := h3 w κ hh
  simp only [List.getElem?_map, Option.map_eq_some_iff] at hc hu
  obtain ⟨k, hk, rfl⟩ := hc
  obtain ⟨k', hk', rfl⟩ := hu
  rw [hk] at hk'
  cases hk'
  have hlt : k % te.size < te.size := Nat.mod_lt _ (Nat.pos_of_ne_zero hm)
  have hl2 : te.zero.length = te.size := by rw [← hl]; simpa using h2
  refine hz (k % te.size) _ _ ?_ ?_
  · simp [List.getD, List.getElem?_eq_getElem (show k % te.size < te.zero.length by omega)]
  · rw [h2]
    have : k % te.size < z.cells.size := by omega
    simp [this]

theorem arr_put (h : RepK F0 L w0 st a w κ) {w' : World} (g : Grew w w') {e sz : Nat} {es : List (List D)} {n c : Nat} {A : Option Addr} (ho : OwnRep w' κ.F e sz (.slice A n c) es) (hb : ∀ b, (Value.slice A n c).ownBlock = some b → w.heap.size ≤ b)
    (hlen : n = es.length) (hc : n ≤ c) {dst : Option Tmp} {K : St → Prop} (hK : setT (st.push (.arr e sz 0 true es)) dst (.c (.ref st.n 0 none)) K) :
    ∃ st' κ', K st' ∧ RepK F0 L w0 st' (a.put dst (.slice A n c)) w' κ' := by
  have h' := h.newArr g ho hb
  obtain ⟨st', h1, h2⟩ := setT_sound hK h' (v := .slice A n c) (ref_whole (w' := w') h.kn h.ok rfl hlen hc)
  exact ⟨st', _, h1, h2⟩

theorem fillC_length {place : Nat → Option (Nat × Nat)} : ∀ {l : List (Nat × List CV)} {cs res : List CV}, fillC place cs l = some res → res.length = cs.length
  | [], cs, res, h => by simp only [fillC, Option.some.injEq] at h; rw [h]
  | (i, v) :: r, cs, res, h => by
    simp only [fillC] at h
    split at h
    · simp at h
    · split at h
      · rw [fillC_length h, setL_length]
      · simp at h

theorem lit_tri (hT : TOk P T) {o : Oper} {t : TypeId} {len : Nat} {parts : Array (Nat × Operand)} (ho : o.op = .buildSlice t len parts) {K : St → Prop} (h : litWp T st t len parts.toList o.dst K) : OpTri P o st K := by
  unfold litWp at h
  split at h
  · rename_i ti hti
    have hk := (hT _ _ hti).k
    split at h
    · rename_i e hke
      rw [hke] at hk
      have hk' : P.underlying t = some (.slice e) := hk
      split at h
      · rename_i te hte
        have hfe := hT _ _ hte
        obtain ⟨info, z, i1, i2, i3, i4, i5, i6, i7⟩ := hfe.info
        split at h
        · -- no element
          split at h
          · exact h.elim
          rename_i hp
          have hpp : parts = #[] := by apply Array.toList_inj.1; simpa using hp
          subst hpp
          refine opTri_value fun F0 L w0 a w κ hr => ?_
          have g := Grew.alloc w (.cells (#[] : Array Value) e (0, 0))
          obtain ⟨st', κ', h1, h2⟩ := arr_put hr g (e := e) (sz := te.size) (es := []) (n := 0) (c := 0) (A := some ⟨w.heap.size, 0, none⟩)
            (ownRep_new (cells := []) (Nat.le_refl _) (by simp [maxLen]) (by simp) (by simp) rfl (fun i c hi => by simp at hi)) (fun b hb => by cases hb; exact Nat.le_refl _) rfl (Nat.le_refl _) h
          refine ⟨_, _, ?_, st', κ', h1, h2⟩
          simp [execOp, ho, Instr.buildSlice, run_underlying hk', run_size hfe, Instr.fill, newRow]
          congr 2
          apply Array.eq_empty_of_size_eq_zero
          simp
        · rename_i len'
          split at h
          · rename_i l hb1 hb2 hl
            split at h
            · rename_i cs hcs
              split at h
              · rename_i ds h' hds
                have hsz : te.size ≠ 0 := fun e => by rw [e] at hb1; simp at hb1
                have hle := Nat.le_of_ble_eq_true hb2
                refine opTri_value fun F0 L w0 a w κ hr => ?_
                obtain ⟨z', z1, z2⟩ := zeros_sound hfe ((len' + 1) * te.size) hsz
                have hzz : z' = z := by
                  have := z1 default
                  simp [zeroValue, typeInfo, i1, i4] at this
                  exact this.symm
                subst hzz
                obtain ⟨us, u1, u2⟩ := fill_sound hr hl hcs (z2 w κ st.h)
                obtain ⟨κ1, k1, s1, b1, v1, f1, l1, q1, m1⟩ := frzL_sound hr hds
                have g := Grew.alloc w (.cells us.toArray e (0, 0))
                have hlen : us.length = (len' + 1) * te.size := by
                  rw [u2.1, fillC_length hcs]
                  simp
                have hdl : ds.length = (len' + 1) * te.size := by rw [l1, ← u2.1, hlen]
                obtain ⟨st', κ', h1, h2⟩ := arr_put k1 g (e := e) (sz := te.size) (es := chunk te.size (len' + 1) ds) (n := len' + 1) (c := len' + 1) (A := some ⟨w.heap.size, 0, none⟩)
                  (ownRep_new (cells := us) (Nat.le_refl _) (by simp only [maxLen]; have := Nat.le_mul_of_pos_right (len' + 1) (Nat.pos_of_ne_zero hsz); omega) hlen (by simp) (chunk_length _ _ _) (fun i c hi => by
                    obtain ⟨c1, c2⟩ := chunk_get te.size (len' + 1) ds hdl i c hi
                    refine ⟨c1, fun j d hj => ?_⟩
                    have hd := c2 j d hj
                    have hlt : i * te.size + j < us.length := by rw [hlen, ← hdl]; exact (List.getElem?_eq_some_iff.1 hd).1
                    refine ⟨us[i * te.size + j], List.getElem?_eq_getElem hlt, ?_⟩
                    exact Fz.keep (fun b hb => g.block b (k1.f2 b hb)) (fun _ h => h) (q1 us u2 _ d _ hd (List.getElem?_eq_getElem hlt)))) (fun b hb => by cases hb; exact Nat.le_refl _) (chunk_length _ _ _).symm (Nat.le_refl _) h
                refine ⟨_, _, ?_, st', κ', h1, h2⟩
                have hrun := run_buildSlice (P := P) w t e (len' + 1) (parts.map fun (i, x) => (i, a.eval x)) us.toArray info z' hk' i1 i4 (by rw [i2]; omega) (by rw [i2]; exact Nat.mul_ne_zero (by omega) hsz) (by
                  rw [i2]
                  have e1 : ((Array.range ((len' + 1) * te.size)).map (z'.cells[· % z'.cells.size]!)) = ((List.range ((len' + 1) * te.size)).map fun i => z'.cells[i % z'.cells.size]!).toArray := by
                    apply Array.toList_inj.1; simp
                  rw [e1]
                  simpa using u1)
                simp only [execOp, ho, Sem.run_bind, hrun, Result.andThen_ok, Sem.run_pure]
                rfl
              · exact h.elim
            · exact h.elim
          · exact h.elim
      · exact h.elim
    · exact h.elim
  · exact h.elim

end
end Go.H
