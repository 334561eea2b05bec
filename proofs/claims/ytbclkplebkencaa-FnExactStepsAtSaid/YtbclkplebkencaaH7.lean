/- Framework H, part 7: struct values and slice literals: filling cells. -/
import Derived.Test.YtbclkplebkencaaH6
import Derived.Laws.Tables
import Derived.Great.BuildSlice
namespace Go.H
set_option linter.unusedSimpArgs false
set_option linter.unusedVariables false
open Go.RowKit

def setL {α : Type} : List α → Nat → List α → List α
  | cs, _, [] => cs
  | cs, off, x :: xs => setL (cs.set off x) (off + 1) xs

def fillC (place : Nat → Option (Nat × Nat)) : List CV → List (Nat × List CV) → Option (List CV)
  | cs, [] => some cs
  | cs, (i, v) :: rest => match place i with
    | none => none
    | some (off, size) => match Nat.beq v.length size, Nat.ble (off + v.length) cs.length with
      | true, true => fillC place (setL cs off v) rest
      | _, _ => none

theorem setL_length {α : Type} : ∀ (l cs : List α) (off : Nat), (setL cs off l).length = cs.length
  | [], _, _ => rfl
  | x :: xs, cs, off => by simp [setL, setL_length xs]

theorem foldl_set (off : Nat) : ∀ (l : List Value) (k : Nat) (A : Array Value), (l.zipIdx k).foldl (fun cs (p : Value × Nat) => cs.setIfInBounds (off + p.2) p.1) A = (setL A.toList (off + k) l).toArray
  | [], k, A => by simp [setL]
  | x :: xs, k, A => by
    simp only [List.zipIdx_cons, List.foldl_cons, foldl_set off xs, setL]
    simp [Nat.add_assoc]

section
variable {P : Program} {T : TypeId → Option TI} {F0 L : Nat → Prop} {w0 w : World} {st : St} {a : Act} {κ : Con} {hh : List (Nat × Ent)}

theorem CVs.set {cs : List CV} {vs : List Value} (h : CVs w κ hh cs vs) {x : CV} {v : Value} (hx : CVRep w κ hh x v) (off : Nat) : CVs w κ hh (cs.set off x) (vs.set off v) := by
  refine ⟨by simp [h.1], fun j c u hc hu => ?_⟩
  rw [List.getElem?_set] at hc hu
  split at hc
  · rename_i he
    subst he
    rw [if_pos rfl] at hu
    split at hc
    · split at hu
      · simp at hc hu; subst hc; subst hu; exact hx
      · simp at hu
    · simp at hc
  · rename_i hne
    rw [if_neg hne] at hu
    exact h.2 j c u hc hu

theorem CVs.setL : ∀ {xs : List CV} {us : List Value} {cs : List CV} {vs : List Value} (_ : CVs w κ hh xs us) (_ : CVs w κ hh cs vs) (off : Nat), CVs w κ hh (setL cs off xs) (setL vs off us)
  | [], [], _, _, _, h, _ => h
  | [], _ :: _, _, _, hx, _, _ => by have := hx.1; simp at this
  | _ :: _, [], _, _, hx, _, _ => by have := hx.1; simp at this
  | x :: xs, u :: us, cs, vs, hx, h, off => by
    simp only [Go.H.setL]
    refine CVs.setL ⟨by have := hx.1; simpa using this, fun j c v hc hv => hx.2 (j + 1) c v (by simpa using hc) (by simpa using hv)⟩ (h.set (hx.2 0 x u rfl rfl) off) (off + 1)

/-- A value's cells. -/
def avCells : AV → Option (List CV)
  | .c x => some [x]
  | .agg cs => some cs
  | _ => none

theorem avCells_sound {x : AV} {cs : List CV} (h : avCells x = some cs) {v : Value} (hv : AVRep w κ hh x v) : CVs w κ hh cs v.cells.toList := by
  cases x with
  | c x =>
    simp only [avCells, Option.some.injEq] at h
    subst h
    rw [(CVRep.one hv).2]
    refine ⟨rfl, fun j c u hc hu => ?_⟩
    cases j with
    | zero => simp at hc hu; subst hc; subst hu; exact hv
    | succ j => simp at hc
  | agg cs' =>
    simp only [avCells, Option.some.injEq] at h
    subst h
    obtain ⟨vs, rfl, hvs⟩ := hv
    simpa [Value.cells] using hvs
  | tup => simp [avCells] at h
  | w => simp [avCells] at h
  | u => simp [avCells] at h

/-- The parts of a literal, as cells. -/
def partsC (st : St) : List (Nat × Operand) → Option (List (Nat × List CV))
  | [] => some []
  | (i, x) :: r => match avCells (evO st x), partsC st r with
    | some cs, some l => some ((i, cs) :: l)
    | _, _ => none

theorem fill_sound (hr : RepK F0 L w0 st a w κ) {place : Nat → Option (Nat × Nat)} : ∀ {parts : List (Nat × Operand)} {l : List (Nat × List CV)} {cs res : List CV} {vs : List Value},
    partsC st parts = some l → fillC place cs l = some res → CVs w κ st.h cs vs → ∃ us : List Value, Instr.fill place vs.toArray (parts.map fun p => (p.1, a.eval p.2)) = some us.toArray ∧ CVs w κ st.h res us
  | [], l, cs, res, vs, hp, hf, hv => by
    simp only [partsC, Option.some.injEq] at hp
    subst hp
    simp only [fillC, Option.some.injEq] at hf
    subst hf
    exact ⟨vs, rfl, hv⟩
  | (i, x) :: r, l, cs, res, vs, hp, hf, hv => by
    simp only [partsC] at hp
    split at hp
    · rename_i xc l' hx hl
      simp only [Option.some.injEq] at hp
      subst hp
      simp only [fillC] at hf
      split at hf
      · simp at hf
      · rename_i off size hpl
        split at hf
        · rename_i hb1 hb2
          have hs := beq_iff hb1
          have hle := Nat.le_of_ble_eq_true hb2
          have hxs := avCells_sound hx (evO_rep hr x)
          obtain ⟨us, h1, h2⟩ := fill_sound hr hl hf (CVs.setL hxs hv off)
          refine ⟨us, ?_, h2⟩
          have hsz : (a.eval x).cells.size = size := by have := hxs.1; rw [← hs]; simpa using this
          have hvl : vs.length = cs.length := hv.1
          simp only [List.map_cons, Instr.fill, hpl, hsz, ne_eq, not_true_eq_false, decide_false, Bool.false_or, List.size_toArray]
          rw [if_neg (by simp; omega)]
          rw [← h1]
          congr 1
          have := foldl_set off (a.eval x).cells.toList 0 vs.toArray
          simp only [Nat.add_zero] at this
          rw [← this]
          rw [← Array.foldl_toList]
          simp
        · simp at hf
    · simp at hp

theorem zero_sound {t : TypeId} {ti : TI} (hf : ti.fits P t) : ∃ z, (∀ w : World, (zeroValue t).run P w = .ok z w) ∧ z.cells.size = ti.size ∧ ∀ (w : World) (κ : Con) (hh : List (Nat × Ent)), CVs w κ hh ti.zero z.cells.toList := by
  obtain ⟨info, z, h1, h2, h3, h4, h5, h6, h7⟩ := hf.info
  refine ⟨z, fun w => by simp [zeroValue, typeInfo, h1, h4], h5, fun w κ hh => ⟨by rw [h6, ← h5]; simp, fun j c u hc hu => ?_⟩⟩
  obtain ⟨q, hq, hz⟩ := h7 j c hc
  have : q = u := by simpa [hz] using hu
  subst this
  unfold cvVal at hq
  split at hq <;> simp at hq <;> subst hq
  · exact .int _ _
  · exact .bool _
  · exact .str _
  · rfl

def placesC (T : TypeId → Option TI) : List (Nat × TypeId) → Option (List (Nat × Nat))
  | [] => some []
  | (off, ft) :: r => match T ft, placesC T r with
    | some tf, some l => some ((off, tf.size) :: l)
    | _, _ => none

/-- A struct literal. -/
def buildWp (T : TypeId → Option TI) (st : St) (t : TypeId) (parts : List (Nat × Operand)) (K : AV → Prop) : Prop :=
  match T t with
  | some ti => match ti.k, partsC st parts with
    | .struct fs, some l => match placesC T fs with
      | some places => match fillC (fun i => places[i]?) ti.zero l with
        | some cs => K (.agg cs)
        | none => False
      | none => False
    | .arr _ e, some l => match T e with
      | some te => match fillC (fun i => some (i * te.size, te.size)) ti.zero l with
        | some cs => K (.agg cs)
        | none => False
      | none => False
    | _, _ => False
  | none => False

theorem places_sound (hT : TOk P T) : ∀ (fields : List Field) (places : List (Nat × Nat)), placesC T (fields.map fun f => (f.offset, f.type)) = some places →
    fields.mapM (fun f => (P.info? f.type).map fun i => (f.offset, i.size)) = some places
  | [], places, h => by simp [placesC] at h; subst h; rfl
  | f :: r, places, h => by
    simp only [List.map_cons, placesC] at h
    split at h
    · rename_i tf l htf hl
      simp only [Option.some.injEq] at h
      subst h
      obtain ⟨info, z, h1, h2, _⟩ := (hT _ _ htf).info
      simp [List.mapM_cons, h1, h2, places_sound hT r l hl]
    · simp at h

theorem build_sound (hT : TOk P T) {t : TypeId} {parts : Array (Nat × Operand)} {K : AV → Prop} (h : buildWp T st t parts.toList K) :
    ∃ r, K r ∧ ∀ (F0 L : Nat → Prop) (w0 : World) (a : Act) (w : World) (κ : Con), RepK F0 L w0 st a w κ → ∃ v, (Instr.build t (parts.map fun (i, x) => (i, a.eval x))).run P w = .ok v w ∧ AVRep w κ st.h r v := by
  unfold buildWp at h
  split at h
  · rename_i ti hti
    have hf := hT _ _ hti
    have hk := hf.k
    obtain ⟨info, z, h1, h2, h3, h4, h5, h6, h7⟩ := hf.info
    obtain ⟨z', hz1, hz2, hz3⟩ := zero_sound hf
    have hzz : z' = z := by
      have := hz1 default
      simp [zeroValue, typeInfo, h1, h4] at this
      exact this.symm
    subst hzz
    split at h
    · rename_i fs l hke hl
      rw [hke] at hk
      obtain ⟨fields, hu, rfl, _⟩ := hk
      split at h
      · rename_i places hpl
        split at h
        · rename_i cs hcs
          refine ⟨_, h, fun F0 L w0 a w κ hr => ?_⟩
          obtain ⟨us, hu1, hu2⟩ := fill_sound hr hl hcs (hz3 w κ st.h)
          refine ⟨.agg us.toArray, run_build w t _ _ ?_, us, rfl, hu2⟩
          simp only [Program.built, h1, hu, h4, places_sound hT _ _ hpl]
          simpa using hu1
        · exact h.elim
      · exact h.elim
    · rename_i m e l hke hl
      rw [hke] at hk
      split at h
      · rename_i te hte
        obtain ⟨ie, ze, e1, e2, _⟩ := (hT _ _ hte).info
        split at h
        · rename_i cs hcs
          refine ⟨_, h, fun F0 L w0 a w κ hr => ?_⟩
          obtain ⟨us, hu1, hu2⟩ := fill_sound hr hl hcs (hz3 w κ st.h)
          refine ⟨.agg us.toArray, run_build w t _ _ ?_, us, rfl, hu2⟩
          have hk' : P.underlying t = some (.array m e) := hk
          simp only [Program.built, h1, hk', h4, e1, e2]
          simpa using hu1
        · exact h.elim
      · exact h.elim
    · exact h.elim
  · exact h.elim

/-- The quiet operations, with struct literals. -/
def qqWp (T : TypeId → Option TI) (st : St) (o : Op) (K : AV → Prop) : Prop :=
  match o with
  | .build t parts => buildWp T st t parts.toList K
  | o => qWp T st o K

theorem qq_sound (hT : TOk P T) {o : Op} {K : AV → Prop} (h : qqWp T st o K) (hrep : ∃ F0 L w0 a w κ, RepK F0 L w0 st a w κ) : ∃ r, K r ∧ QY P st o r := by
  unfold qqWp at h
  split at h
  · rename_i t parts
    obtain ⟨r, hr, hs⟩ := build_sound hT h
    refine ⟨r, hr, fun F0 L w0 a w κ o ho hk => ?_⟩
    obtain ⟨v, h1, h2⟩ := hs F0 L w0 a w κ hk
    exact ⟨v, by simp only [execOp, ho, Sem.run_bind, h1, Result.andThen_ok, Sem.run_pure], h2⟩
  · exact q_sound hT h hrep

end
end Go.H
