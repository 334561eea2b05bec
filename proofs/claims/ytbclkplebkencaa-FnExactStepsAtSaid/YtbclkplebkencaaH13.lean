/- Framework H, part 13: a state seen anew: what is not needed is dropped, rows and boxes get new numbers. -/
import Derived.Test.YtbclkplebkencaaH12
namespace Go.H
set_option linter.unusedSimpArgs false
set_option linter.unusedVariables false
open Go.RowKit

section
variable {P : Program} {T : TypeId → Option TI} {F0 L : Nat → Prop} {w0 w w' : World} {st : St} {a : Act} {κ κ' : Con} {hh : List (Nat × Ent)}

def renCaps (m : List (Nat × Nat)) : List (Nat × Nat) → Option (List (Nat × Nat))
  | [] => some []
  | (id, off) :: r => match look m id, renCaps m r with
    | some id', some l => some ((id', off) :: l)
    | _, _ => none

/-- 'm': old number, new number. -/
def CV.ren (h : List (Nat × Ent)) (m : List (Nat × Nat)) : CV → CV
  | .d x => .d x
  | .nl sz => .nl sz
  | .ref id ver s => match look h id, look m id with
    | some (.arr _ _ v _ _), some id' => match Nat.beq v ver with | true => .ref id' 0 s | false => .u
    | _, _ => .u
  | .ptr id off => match look m id with | some id' => .ptr id' off | none => .u
  | .ep .. => .u
  | .fn f caps => match renCaps m caps with | some l => .fn f l | none => .u
  | .u => .u

def AV.ren (h : List (Nat × Ent)) (m : List (Nat × Nat)) : AV → AV
  | .c x => .c (x.ren h m)
  | .agg cs => .agg (cs.map (CV.ren h m))
  | .tup xs => .tup (xs.map fun x => (x.1, x.2.map (CV.ren h m)))
  | .w x v => .w (x.ren h m) v
  | .u => .u

def Ent.ren (h : List (Nat × Ent)) (m : List (Nat × Nat)) : Ent → Ent
  | .box ty cs => .box ty (cs.map (CV.ren h m))
  | .arr e sz _ own es => .arr e sz 0 own es

def renH (h : List (Nat × Ent)) (m0 : List (Nat × Nat)) : List (Nat × Nat) → Option (List (Nat × Ent))
  | [] => some []
  | (o, n) :: r => match look h o, renH h m0 r with
    | some e, some l => some ((n, e.ren h m0) :: l)
    | _, _ => none

def renT (h : List (Nat × Ent)) (m : List (Nat × Nat)) (t : List (Nat × AV)) : List Nat → List (Nat × AV)
  | [] => []
  | k :: r => match look t k with
    | some av => (k, av.ren h m) :: renT h m t r
    | none => renT h m t r

/-- The new numbers are below n, each once; the old ones are there, each once. -/
def okM (n : Nat) : List (Nat × Nat) → Bool
  | [] => true
  | (o, k) :: r => Nat.blt k n && r.all (fun p => !(Nat.beq p.1 o) && !(Nat.beq p.2 k)) && okM n r

def St.norm (st : St) (keep : List Nat) (m : List (Nat × Nat)) (n : Nat) : Option St :=
  match okM n m, renH st.h m m with
  | true, some h => some { st with t := renT st.h m st.t keep, h := h, n := n }
  | _, _ => none

/-- The old number of a new one. -/
def inv (m : List (Nat × Nat)) (k : Nat) : Nat := match m with | [] => 0 | (o, k') :: r => if k' = k then o else inv r k

theorem okM_spec {n : Nat} : ∀ {m : List (Nat × Nat)}, okM n m = true → (∀ o k, look m o = some k → k < n ∧ inv m k = o) ∧ (∀ o k, (o, k) ∈ m → look m o = some k)
  | [], _ => ⟨fun o k h => by simp [look] at h, fun o k h => by cases h⟩
  | (o, k) :: r, h => by
    simp only [okM, Bool.and_eq_true, List.all_eq_true] at h
    obtain ⟨⟨h1, h2⟩, h3⟩ := h
    obtain ⟨i1, i2⟩ := okM_spec h3
    refine ⟨fun o' k' hl => ?_, fun o' k' hm => ?_⟩
    · simp only [look] at hl
      split at hl
      · rename_i hb
        obtain rfl := beq_iff hb
        cases hl
        exact ⟨by simpa using h1, by simp [inv]⟩
      · obtain ⟨j1, j2⟩ := i1 o' k' hl
        refine ⟨j1, ?_⟩
        have hmem : ∃ p ∈ r, p.2 = k' := by
          clear i1 i2 h3 h2 j2
          induction r with
          | nil => simp [look] at hl
          | cons p r ih =>
            obtain ⟨a, b⟩ := p
            simp only [look] at hl
            split at hl
            · cases hl; exact ⟨_, List.mem_cons_self, rfl⟩
            · obtain ⟨q, hq, e⟩ := ih hl
              exact ⟨q, by simp [hq], e⟩
        obtain ⟨p, hp, hpk⟩ := hmem
        have := (h2 p hp).2
        simp only [inv]
        rw [if_neg (by intro e; rw [← hpk] at e; simp [e] at this)]
        exact j2
    · rcases List.mem_cons.1 hm with hm | hm
      · cases hm; simp [look]
      · have := (h2 _ hm).1
        simp only [look]
        rw [if_neg (by intro hb; have := beq_iff hb; simp_all)]
        exact i2 o' k' hm

theorem renH_spec {h : List (Nat × Ent)} {m0 : List (Nat × Nat)} : ∀ {m : List (Nat × Nat)} {h' : List (Nat × Ent)}, renH h m0 m = some h' → ∀ k e', look h' k = some e' → ∃ o e, (o, k) ∈ m ∧ look h o = some e ∧ e' = e.ren h m0
  | [], h', hr, k, e', hl => by simp only [renH, Option.some.injEq] at hr; subst hr; simp [look] at hl
  | (o, n) :: r, h', hr, k, e', hl => by
    simp only [renH] at hr
    split at hr
    · rename_i e l he hl'
      cases hr
      simp only [look] at hl
      split at hl
      · rename_i hb
        obtain rfl := beq_iff hb
        cases hl
        exact ⟨o, e, by simp, he, rfl⟩
      · obtain ⟨o', e0, h1, h2, h3⟩ := renH_spec hl' k e' hl
        exact ⟨o', e0, by simp [h1], h2, h3⟩
    · cases hr

def Con.ren (κ : Con) (m : List (Nat × Nat)) (n : Nat) : Con := { F := κ.F, bl := fun k => κ.bl (inv m k), val := fun k => κ.val (inv m k), n := n, vr := fun _ => 0 }

theorem renCaps_sound {m : List (Nat × Nat)} {n : Nat} (hm : okM n m = true) : ∀ {caps l : List (Nat × Nat)}, renCaps m caps = some l → (∀ p ∈ l, p.1 < n) ∧ (l.map fun p => Value.pointer (some ⟨κ.bl (inv m p.1), p.2, none⟩)) = caps.map fun p => Value.pointer (some ⟨κ.bl p.1, p.2, none⟩)
  | [], l, h => by simp only [renCaps, Option.some.injEq] at h; subst h; exact ⟨fun p hp => (by cases hp), rfl⟩
  | (id, off) :: r, l, h => by
    simp only [renCaps] at h
    split at h
    · rename_i id' l' h1 h2
      cases h
      obtain ⟨i1, i2⟩ := renCaps_sound hm h2
      obtain ⟨j1, j2⟩ := (okM_spec hm).1 _ _ h1
      refine ⟨fun p hp => ?_, ?_⟩
      · rcases List.mem_cons.1 hp with rfl | hp
        · exact j1
        · exact i1 p hp
      · simp only [List.map_cons, i2, j2]
    · cases h

theorem CVRep.ren {m : List (Nat × Nat)} {n : Nat} {h' : List (Nat × Ent)} (hm : okM n m = true) (hr : renH hh m m = some h') {x : CV} {v : Value} (h : CVRep w κ hh x v) : CVRep w (κ.ren m n) h' (x.ren hh m) v := by
  have hone := CVRep.one h
  cases x with
  | d x => exact h
  | nl _ => exact h
  | u => exact h
  | ep => exact hone
  | ptr id off =>
    simp only [CV.ren]
    split
    · rename_i id' hl
      obtain ⟨j1, j2⟩ := (okM_spec hm).1 _ _ hl
      obtain ⟨h1, h2⟩ := h
      exact ⟨j1, by simp only [Con.ren, j2]; exact h2⟩
    · exact hone
  | fn f caps =>
    simp only [CV.ren]
    split
    · rename_i l hl
      obtain ⟨i1, i2⟩ := renCaps_sound (κ := κ) hm hl
      obtain ⟨h1, h2⟩ := h
      exact ⟨i1, by simp only [Con.ren]; rw [i2]; exact h2⟩
    · exact hone
  | ref id ver s =>
    simp only [CV.ren]
    split
    · rename_i e sz vv own es id' hl hl'
      split
      · rename_i hb
        obtain rfl := beq_iff hb
        obtain ⟨j1, j2⟩ := (okM_spec hm).1 _ _ hl'
        obtain ⟨⟨h1, h1'⟩, h2, h3, h4⟩ := h
        refine ⟨⟨j1, Nat.zero_le _⟩, h2, h3, fun e' sz' own' es' hk => ?_⟩
        obtain ⟨o, e0, q1, q2, q3⟩ := renH_spec hr _ _ hk
        have hlo := (okM_spec hm).2 _ _ q1
        have : o = id := by
          have := ((okM_spec hm).1 _ _ hlo).2
          rw [j2] at this; exact this.symm
        subst this
        rw [hl] at q2
        cases q2
        simp only [Ent.ren, Ent.arr.injEq] at q3
        obtain ⟨rfl, rfl, _, rfl, rfl⟩ := q3
        simp only [Con.ren, j2]
        exact h4 _ _ _ _ hl
      · exact hone
    · exact hone

theorem CVs.ren {m : List (Nat × Nat)} {n : Nat} {h' : List (Nat × Ent)} (hm : okM n m = true) (hr : renH hh m m = some h') {cs : List CV} {vs : List Value} (h : CVs w κ hh cs vs) : CVs w (κ.ren m n) h' (cs.map (CV.ren hh m)) vs := by
  refine ⟨by simp [h.1], fun j c u hc hu => ?_⟩
  simp only [List.getElem?_map, Option.map_eq_some_iff] at hc
  obtain ⟨c0, h0, rfl⟩ := hc
  exact (h.2 j c0 u h0 hu).ren hm hr

theorem AVRep.ren {m : List (Nat × Nat)} {n : Nat} {h' : List (Nat × Ent)} (hm : okM n m = true) (hr : renH hh m m = some h') {x : AV} {v : Value} (h : AVRep w κ hh x v) : AVRep w (κ.ren m n) h' (x.ren hh m) v := by
  cases x with
  | c x => exact CVRep.ren hm hr h
  | agg cs => obtain ⟨vs, q, hv⟩ := h; exact ⟨vs, q, hv.ren hm hr⟩
  | tup xs =>
    obtain ⟨vs, q, hl, hv⟩ := h
    refine ⟨vs, q, by simp [hl], fun j x v hx hu => ?_⟩
    simp only [List.getElem?_map, Option.map_eq_some_iff] at hx
    obtain ⟨x0, h0, rfl⟩ := hx
    have := hv j x0 v h0 hu
    unfold TVRep at *
    split at this
    · rename_i hb
      simp only [hb]
      obtain ⟨us, q, hus⟩ := this; exact ⟨us, q, hus.ren hm hr⟩
    · rename_i hb
      simp only [hb]
      exact this.ren hm hr
  | w x u => exact ⟨h.1, CVRep.ren hm hr h.2⟩
  | u => trivial

theorem renT_spec {h : List (Nat × Ent)} {m : List (Nat × Nat)} {t : List (Nat × AV)} : ∀ {keep : List Nat} {k : Nat} {av : AV}, look (renT h m t keep) k = some av → ∃ av0, look t k = some av0 ∧ av = av0.ren h m
  | [], k, av, hl => by simp [renT, look] at hl
  | j :: r, k, av, hl => by
    simp only [renT] at hl
    split at hl
    · rename_i av0 h0
      simp only [look] at hl
      split at hl
      · rename_i hb
        obtain rfl := beq_iff hb
        cases hl
        exact ⟨av0, h0, rfl⟩
      · exact renT_spec hl
    · exact renT_spec hl

theorem RepK.norm (h : RepK F0 L w0 st a w κ) {keep : List Nat} {m : List (Nat × Nat)} {n : Nat} {st' : St} (hn : st.norm keep m n = some st') : RepK F0 L w0 st' a w (κ.ren m n) := by
  unfold St.norm at hn
  split at hn
  · rename_i h' hm hr
    cases hn
    have hs := okM_spec hm
    have hold : ∀ k e', look h' k = some e' → ∃ e, look m (inv m k) = some k ∧ look st.h (inv m k) = some e ∧ e' = e.ren st.h m := fun k e' hl => by
      obtain ⟨o, e, q1, q2, q3⟩ := renH_spec hr k e' hl
      have h1 := hs.2 _ _ q1
      have h2 := (hs.1 _ _ h1).2
      rw [h2]
      exact ⟨e, h1, q2, q3⟩
    have hblk : ∀ (e : Ent) (k : Nat), (e.ren st.h m).blk (κ.ren m n) k = e.blk κ (inv m k) := fun e k => by cases e <;> rfl
    have hown : ∀ (e : Ent), (e.ren st.h m).own = e.own := fun e => by cases e <;> rfl
    refine { below := h.below, f0 := h.f0, f1 := h.f1, f2 := h.f2, size := h.size, dfs := h.dfs, kn := rfl, ents := ?_, new := ?_, excl := ?_, inj := ?_, tmps := ?_, kv := ?_ }
    · intro k e' hl
      obtain ⟨e, q1, q2, rfl⟩ := hold k e' hl
      have := h.ents _ _ q2
      cases e with
      | box ty cs =>
        obtain ⟨vals, v1, v2⟩ := this
        exact ⟨vals, v1, v2.ren hm hr⟩
      | arr e sz ver own es => exact this
    · intro k e' hl
      obtain ⟨e, q1, _⟩ := hold k e' hl
      exact (hs.1 _ _ q1).1
    · intro k e' b hl hb
      obtain ⟨e, q1, q2, rfl⟩ := hold k e' hl
      rw [hblk] at hb
      rw [hown]
      exact h.excl _ _ b q2 hb
    · intro k k' e1 e2 b hl hl' hb hb'
      obtain ⟨e, q1, q2, rfl⟩ := hold k e1 hl
      obtain ⟨e', q1', q2', rfl⟩ := hold k' e2 hl'
      rw [hblk] at hb hb'
      have := h.inj _ _ _ _ b q2 q2' hb hb'
      rw [this] at q1
      rw [q1] at q1'
      exact Option.some.inj q1'
    · intro t av hl
      obtain ⟨av0, q1, rfl⟩ := renT_spec hl
      obtain ⟨v, hv, hr'⟩ := h.tmps t av0 q1
      exact ⟨v, hv, hr'.ren hm hr⟩
    · intro k e sz ver own es hl
      obtain ⟨e0, q1, q2, q3⟩ := hold k _ hl
      cases e0 with
      | box => simp [Ent.ren] at q3
      | arr e1 sz1 v1 o1 es1 =>
        simp only [Ent.ren, Ent.arr.injEq] at q3
        exact q3.2.2.1.symm
  · cases hn

end
end Go.H
