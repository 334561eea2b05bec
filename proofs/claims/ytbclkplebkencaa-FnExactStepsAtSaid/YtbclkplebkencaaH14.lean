/- Framework H, part 14: contracts, and what a call brings back. -/
import Derived.Test.YtbclkplebkencaaH13
namespace Go.H
set_option linter.unusedSimpArgs false
set_option linter.unusedVariables false
open Go.RowKit

def con0 (F : Nat → Prop) : Con := { F := F, bl := fun _ => 0, val := fun _ => undef, n := 0, vr := fun _ => 0 }

def ArgsRep (w : World) (F : Nat → Prop) (args : List AV) (vals : List Value) : Prop :=
  vals.length = args.length ∧ ∀ (j : Nat) (av : AV) (v : Value), args[j]? = some av → vals[j]? = some v → AVRep w (con0 F) [] av v

/-- A function of the program with a body of its own. -/
def Enters (P : Program) (f : FuncId) : Prop := ∃ fn, P.funcs[f]? = some fn ∧ fn.body.isNone = false ∧ (fn.name == "runtime.NumGoroutine") = false

/-- Called with these (data alone), function f returns res, with new rows h'. -/
def FnSpec (P : Program) (f : FuncId) (args : List AV) (res : AV) (h' : List (Nat × Ent)) (n' : Nat) : Prop :=
  Enters P f ∧ ∀ (F : Nat → Prop) (w : World) (vals : List Value), (∀ b, F b → b < w.heap.size) → ArgsRep w F args vals →
    Calls P f vals.toArray w (fun e w' => ∃ v κ' st' a', e = .returned v ∧ st'.h = h' ∧ st'.n = n' ∧ RepK F (fun _ => False) w st' a' w' κ' ∧ AVRep w' κ' h' res v)

/-! ### shifting numbers -/
def CV.shift (k : Nat) : CV → CV
  | .ref id ver s => .ref (k + id) ver s
  | .ptr id off => .ptr (k + id) off
  | .ep id ver i j => .ep (k + id) ver i j
  | .fn f caps => .fn f (caps.map fun p => (k + p.1, p.2))
  | x => x
def AV.shift (k : Nat) : AV → AV
  | .c x => .c (x.shift k)
  | .agg cs => .agg (cs.map (CV.shift k))
  | .tup xs => .tup (xs.map fun x => (x.1, x.2.map (CV.shift k)))
  | .w x v => .w (x.shift k) v
  | .u => .u
def Ent.shift (k : Nat) : Ent → Ent
  | .box ty cs => .box ty (cs.map (CV.shift k))
  | e => e
def shiftH (k : Nat) (h : List (Nat × Ent)) : List (Nat × Ent) := h.map fun p => (k + p.1, p.2.shift k)

/-- The data in it meets ok. -/
def CV.okD (ok : D → Prop) : CV → Prop
  | .d x => ok x
  | _ => True
def AV.okD (ok : D → Prop) : AV → Prop
  | .c x => x.okD ok
  | .agg cs => ∀ c ∈ cs, c.okD ok
  | .tup xs => ∀ x ∈ xs, ∀ c ∈ x.2, CV.okD ok c
  | .w x _ => x.okD ok
  | .u => True
def Ent.okD (ok : D → Prop) : Ent → Prop
  | .box _ cs => ∀ c ∈ cs, c.okD ok
  | .arr _ _ _ _ es => ∀ c ∈ es, ∀ d ∈ c, ok d

theorem look_shift (k : Nat) : ∀ (h : List (Nat × Ent)) (i : Nat), look (shiftH k h) (k + i) = (look h i).map (Ent.shift k)
  | [], i => rfl
  | (j, e) :: r, i => by
    have ih := look_shift k r i
    simp only [shiftH] at ih
    simp only [shiftH, List.map_cons, look]
    by_cases hj : j = i
    · subst hj; simp
    · have h1 : ¬ (k + j = k + i) := by omega
      simp only [Nat.beq_eq, h1, hj, if_false]
      exact ih

theorem look_shift_lt (k : Nat) : ∀ (h : List (Nat × Ent)) (m : Nat), m < k → look (shiftH k h) m = none
  | [], m, _ => rfl
  | (j, e) :: r, m, hm => by
    have ih := look_shift_lt k r m hm
    simp only [shiftH] at ih
    simp only [shiftH, List.map_cons, look]
    have h1 : ¬ (k + j = m) := by omega
    simp only [Nat.beq_eq, h1, if_false]
    exact ih

theorem look_append (l1 l2 : List (Nat × Ent)) (m : Nat) : look (l1 ++ l2) m = match look l1 m with | some e => some e | none => look l2 m := by
  induction l1 with
  | nil => simp [look]
  | cons p r ih =>
    obtain ⟨k, x⟩ := p
    simp only [List.cons_append, look]
    split
    · rfl
    · exact ih

section
variable {P : Program} {T : TypeId → Option TI} {F0 L Fc Lc : Nat → Prop} {w0 w w' : World} {st stc : St} {a ac : Act} {κ κ' : Con} {ok : D → Prop}

/-- Both together. -/
def Con.join (κ κ' : Con) (w : World) : Con :=
  { F := fun b => κ.F b ∨ (κ'.F b ∧ w.heap.size ≤ b), bl := fun i => if i < κ.n then κ.bl i else κ'.bl (i - κ.n), val := fun i => if i < κ.n then κ.val i else κ'.val (i - κ.n), n := κ.n + κ'.n,
    vr := fun i => if i < κ.n then κ.vr i else κ'.vr (i - κ.n) }

theorem join_look (hok : CVOk st.h κ.n) (h' : List (Nat × Ent)) (m : Nat) (e : Ent) : look (st.h ++ shiftH κ.n h') m = some e → (m < κ.n ∧ look st.h m = some e) ∨ (κ.n ≤ m ∧ ∃ e', look h' (m - κ.n) = some e' ∧ e = e'.shift κ.n) := by
  intro hl
  rw [look_append] at hl
  cases hs : look st.h m with
  | some e0 =>
    simp only [hs] at hl
    exact .inl ⟨hok m e0 hs, hl⟩
  | none =>
    simp only [hs] at hl
    rcases Nat.lt_or_ge m κ.n with h | h
    · rw [look_shift_lt _ _ _ h] at hl; cases hl
    · refine .inr ⟨h, ?_⟩
      obtain ⟨i, rfl⟩ : ∃ i, m = κ.n + i := ⟨m - κ.n, by omega⟩
      rw [look_shift] at hl
      simp only [Option.map_eq_some_iff] at hl
      obtain ⟨e', h1, h2⟩ := hl
      exact ⟨e', by rw [Nat.add_sub_cancel_left]; exact h1, h2.symm⟩

theorem CVRep.left (hok : CVOk st.h κ.n) (h' : List (Nat × Ent)) {x : CV} {v : Value} (h : CVRep w' κ st.h x v) : CVRep w' (κ.join κ' w) (st.h ++ shiftH κ.n h') x v := by
  cases x with
  | d x => exact Fz.keep (fun _ _ => rfl) (fun b hb => .inl hb) h
  | nl _ => exact h
  | u => exact h
  | ptr id off =>
    obtain ⟨h1, h2⟩ := h
    exact ⟨by simp only [Con.join]; omega, by simp only [Con.join, if_pos h1]; exact h2⟩
  | fn f caps =>
    obtain ⟨h1, h2⟩ := h
    refine ⟨fun p hp => by have := h1 p hp; simp only [Con.join]; omega, ?_⟩
    rw [h2]
    congr 2
    apply List.map_congr_left
    intro p hp
    simp only [Con.join, if_pos (h1 p hp)]
  | ref id ver s =>
    obtain ⟨⟨h1, h1'⟩, h2, h3, h4⟩ := h
    refine ⟨⟨by simp only [Con.join]; omega, by simp only [Con.join, if_pos h1]; exact h1'⟩, h2, h3, fun e sz own es hl => ?_⟩
    rcases join_look hok h' _ _ hl with ⟨_, hl'⟩ | ⟨hge, _⟩
    · simp only [Con.join, if_pos h1]
      exact h4 _ _ _ _ hl'
    · omega
  | ep id ver i j =>
    obtain ⟨⟨h1, h1'⟩, h2, h3, h4⟩ := h
    refine ⟨⟨by simp only [Con.join]; omega, by simp only [Con.join, if_pos h1]; exact h1'⟩, h2, h3, fun e sz own es hl => ?_⟩
    rcases join_look hok h' _ _ hl with ⟨_, hl'⟩ | ⟨hge, _⟩
    · simp only [Con.join, if_pos h1]
      exact h4 _ _ _ _ hl'
    · omega

theorem CVRep.right (hok : CVOk st.h κ.n) {h' : List (Nat × Ent)} (hD : ∀ v d, ok d → Fz w' κ'.F v d → Fz w' (κ.join κ' w).F v d) {x : CV} {v : Value} (hx : x.okD ok) (h : CVRep w' κ' h' x v) :
    CVRep w' (κ.join κ' w) (st.h ++ shiftH κ.n h') (x.shift κ.n) v := by
  have hn : ∀ i, ¬ (κ.n + i < κ.n) := fun i => by omega
  cases x with
  | d x => exact hD v x hx h
  | nl _ => exact h
  | u => exact h
  | ptr id off =>
    obtain ⟨h1, h2⟩ := h
    exact ⟨by simp only [Con.join]; omega, by simp only [Con.join, if_neg (hn id), Nat.add_sub_cancel_left]; exact h2⟩
  | fn f caps =>
    obtain ⟨h1, h2⟩ := h
    refine ⟨fun p hp => ?_, ?_⟩
    · obtain ⟨q, hq, rfl⟩ := List.mem_map.1 hp
      have := h1 q hq
      simp only [Con.join]; omega
    · rw [h2, List.map_map]
      congr 2
      apply List.map_congr_left
      intro p hp
      simp only [Function.comp, Con.join, if_neg (hn p.1), Nat.add_sub_cancel_left]
  | ref id ver s =>
    obtain ⟨⟨h1, h1'⟩, h2, h3, h4⟩ := h
    refine ⟨⟨by simp only [Con.join]; omega, by simp only [Con.join, if_neg (hn id), Nat.add_sub_cancel_left]; exact h1'⟩, h2, h3, fun e sz own es hl => ?_⟩
    rcases join_look hok h' _ _ hl with ⟨hlt, _⟩ | ⟨_, e', he', hee⟩
    · omega
    · rw [Nat.add_sub_cancel_left] at he'
      cases e' with
      | box => simp [Ent.shift] at hee
      | arr e1 sz1 v1 o1 es1 =>
        simp only [Ent.shift] at hee
        cases hee
        simp only [Con.join, if_neg (hn id), Nat.add_sub_cancel_left]
        exact h4 _ _ _ _ he'
  | ep id ver i j =>
    obtain ⟨⟨h1, h1'⟩, h2, h3, h4⟩ := h
    refine ⟨⟨by simp only [Con.join]; omega, by simp only [Con.join, if_neg (hn id), Nat.add_sub_cancel_left]; exact h1'⟩, h2, h3, fun e sz own es hl => ?_⟩
    rcases join_look hok h' _ _ hl with ⟨hlt, _⟩ | ⟨_, e', he', hee⟩
    · omega
    · rw [Nat.add_sub_cancel_left] at he'
      cases e' with
      | box => simp [Ent.shift] at hee
      | arr e1 sz1 v1 o1 es1 =>
        simp only [Ent.shift] at hee
        cases hee
        simp only [Con.join, if_neg (hn id), Nat.add_sub_cancel_left]
        exact h4 _ _ _ _ he'

theorem CVs.right (hok : CVOk st.h κ.n) {h' : List (Nat × Ent)} (hD : ∀ v d, ok d → Fz w' κ'.F v d → Fz w' (κ.join κ' w).F v d) {cs : List CV} {vs : List Value} (hx : ∀ c ∈ cs, c.okD ok) (h : CVs w' κ' h' cs vs) :
    CVs w' (κ.join κ' w) (st.h ++ shiftH κ.n h') (cs.map (CV.shift κ.n)) vs := by
  refine ⟨by simp [h.1], fun j c u hc hu => ?_⟩
  simp only [List.getElem?_map, Option.map_eq_some_iff] at hc
  obtain ⟨c0, h0, rfl⟩ := hc
  exact (h.2 j c0 u h0 hu).right hok hD (hx c0 (List.mem_of_getElem? h0))

theorem AVRep.right (hok : CVOk st.h κ.n) {h' : List (Nat × Ent)} (hD : ∀ v d, ok d → Fz w' κ'.F v d → Fz w' (κ.join κ' w).F v d) {x : AV} {v : Value} (hx : x.okD ok) (h : AVRep w' κ' h' x v) :
    AVRep w' (κ.join κ' w) (st.h ++ shiftH κ.n h') (x.shift κ.n) v := by
  cases x with
  | c x => exact CVRep.right hok hD hx h
  | agg cs => obtain ⟨vs, q, hv⟩ := h; exact ⟨vs, q, hv.right hok hD hx⟩
  | tup xs =>
    obtain ⟨vs, q, hl, hv⟩ := h
    refine ⟨vs, q, by simp [hl], fun j x v hj hu => ?_⟩
    simp only [List.getElem?_map, Option.map_eq_some_iff] at hj
    obtain ⟨x0, h0, rfl⟩ := hj
    have := hv j x0 v h0 hu
    have hx0 := hx x0 (List.mem_of_getElem? h0)
    unfold TVRep at *
    split at this
    · rename_i hb
      simp only [hb]
      obtain ⟨us, q, hus⟩ := this; exact ⟨us, q, hus.right hok hD hx0⟩
    · rename_i hb
      simp only [hb]
      exact this.right hok hD hx0
  | w x u => exact ⟨h.1, CVRep.right hok hD hx h.2⟩
  | u => trivial

/-- Behind a call: the frame's state with what the call brought. -/
theorem RepK.join (h : RepK F0 L w0 st a w κ) (hc : RepK Fc (fun _ => False) w stc ac w' κ') (hsub : ∀ b, Fc b → b < w.heap.size) (hD : ∀ v d, ok d → Fz w' κ'.F v d → Fz w' (κ.join κ' w).F v d)
    (hokh : ∀ i e, look stc.h i = some e → e.okD ok ∧ e.own = true) :
    RepK F0 L w0 { st with h := st.h ++ shiftH st.n stc.h, n := st.n + stc.n } a w' (κ.join κ' w) := by
  have hk := h.kn
  have hck := hc.kn
  have hok : CVOk st.h κ.n := fun id e he => hk ▸ h.new id e he
  have g : Grew w w' := ⟨hc.below.os, hc.below.tape, hc.below.output, hc.below.size, fun k hk => hc.below.block k hk (fun f => f)⟩
  have hg := h.grew g
  have hlook := fun m e => join_look hok stc.h m e
  rw [hk] at hlook
  have hn : ∀ i, ¬ (κ.n + i < κ.n) := fun i => by omega
  have hblkL : ∀ (m : Nat) (e : Ent), m < st.n → e.blk (κ.join κ' w) m = e.blk κ m := fun m e hm => by
    cases e <;> simp only [Ent.blk, Con.join, if_pos (show m < κ.n by omega)]
  have hblkR : ∀ (m : Nat) (e : Ent), st.n ≤ m → (e.shift st.n).blk (κ.join κ' w) m = e.blk κ' (m - st.n) := fun m e hm => by
    cases e <;> simp only [Ent.blk, Ent.shift, Con.join, hk, if_neg (show ¬ m < st.n by omega)]
  refine { below := hg.below, f0 := fun b hb => .inl (h.f0 b hb), f1 := ?_, f2 := ?_, size := h.size, dfs := h.dfs, kn := by simp only [Con.join]; omega, ents := ?_, new := ?_, excl := ?_, inj := ?_, tmps := ?_, kv := ?_ }
  · intro b hb
    rcases hb with hb | ⟨_, hb⟩
    · exact h.f1 b hb
    · exact .inr (.inl (Nat.le_trans h.below.size hb))
  · intro b hb
    rcases hb with hb | ⟨hb, _⟩
    · exact hg.f2 b hb
    · exact hc.f2 b hb
  · intro m e hl
    rcases hlook m e hl with ⟨hlt, hl'⟩ | ⟨hge, e', he', rfl⟩
    · have hx := hg.ents m e hl'
      cases e with
      | box ty cs =>
        obtain ⟨vals, v1, v2⟩ := hx
        refine ⟨vals, by simp only [Con.join, if_pos (show m < κ.n by omega)]; exact v1, ?_⟩
        have := v2.map (fun x v hx => CVRep.left (κ' := κ') (w := w) hok stc.h hx)
        rwa [hk] at this
      | arr e0 sz ver own es =>
        show OwnRep _ _ _ _ _ _
        simp only [Con.join, if_pos (show m < κ.n by omega)]
        exact OwnRep.mono hx (fun b hb => .inl hb)
    · have hx := hc.ents _ _ he'
      obtain ⟨ho1, ho2⟩ := hokh _ _ he'
      cases e' with
      | box ty cs =>
        obtain ⟨vals, v1, v2⟩ := hx
        refine ⟨vals, by simp only [Con.join, hk, if_neg (show ¬ m < st.n by omega)]; exact v1, ?_⟩
        have := v2.right hok hD ho1
        rwa [hk] at this
      | arr e0 sz ver own es =>
        show OwnRep _ _ _ _ _ _
        simp only [Con.join, hk, if_neg (show ¬ m < st.n by omega)]
        obtain ⟨xs, x1, x2⟩ := hx
        refine ⟨xs, x1, fun i c hi => ⟨(x2 i c hi).1, fun j d hj => ?_⟩⟩
        obtain ⟨u, hu, hf⟩ := (x2 i c hi).2 j d hj
        have hf2 := hD u d (ho1 c (List.mem_of_getElem? hi) d (List.mem_of_getElem? hj)) hf
        simp only [Con.join, hk] at hf2
        exact ⟨u, hu, hf2⟩
  · intro m e hl
    rcases hlook m e hl with ⟨hlt, hl'⟩ | ⟨hge, e', he', rfl⟩
    · simp only; omega
    · have := hc.new _ _ he'
      simp only; omega
  · intro m e b hl hb
    rcases hlook m e hl with ⟨hlt, hl'⟩ | ⟨hge, e', he', rfl⟩
    · rw [hblkL m e hlt] at hb
      obtain ⟨q1, q2, q3⟩ := h.excl m e b hl' hb
      have hbl := (h.ents m e hl').lt hb
      refine ⟨q1, fun ho hF => ?_, fun ho => .inl (q3 ho)⟩
      rcases hF with hF | ⟨_, hF⟩
      · exact q2 ho hF
      · omega
    · rw [hblkR m e' hge] at hb
      obtain ⟨q1, q2, q3⟩ := hc.excl _ _ b he' hb
      obtain ⟨ho1, ho2⟩ := hokh _ _ he'
      have hown : (e'.shift st.n).own = true := by cases e' <;> exact ho2
      have q1 := q1.elim id False.elim
      refine ⟨.inl (Nat.le_trans h.below.size q1), fun ho hF => ?_, fun hf => by rw [hown] at hf; cases hf⟩
      rcases hF with hF | ⟨hF, _⟩
      · have := h.f2 b hF; omega
      · exact q2 ho2 hF
  · intro m m' e1 e2 b hl hl' hb hb'
    rcases hlook m e1 hl with ⟨hlt, hl1⟩ | ⟨hge, e', he', rfl⟩ <;> rcases hlook m' e2 hl' with ⟨hlt', hl1'⟩ | ⟨hge', e'', he'', rfl⟩
    · rw [hblkL m e1 hlt] at hb
      rw [hblkL m' e2 hlt'] at hb'
      exact h.inj _ _ _ _ b hl1 hl1' hb hb'
    · rw [hblkL m e1 hlt] at hb
      rw [hblkR m' e'' hge'] at hb'
      have h1 := (h.ents m e1 hl1).lt hb
      have h2 := (hc.excl _ _ b he'' hb').1.elim id False.elim
      omega
    · rw [hblkR m e' hge] at hb
      rw [hblkL m' e2 hlt'] at hb'
      have h1 := (h.ents m' e2 hl1').lt hb'
      have h2 := (hc.excl _ _ b he' hb).1.elim id False.elim
      omega
    · rw [hblkR m e' hge] at hb
      rw [hblkR m' e'' hge'] at hb'
      have := hc.inj _ _ _ _ b he' he'' hb hb'
      omega
  · intro t av hl
    obtain ⟨v, hv, hr⟩ := hg.tmps t av hl
    refine ⟨v, hv, ?_⟩
    have := hr.map (fun x v hx => CVRep.left (κ' := κ') (w := w) hok stc.h hx)
    rwa [hk] at this
  · intro m e sz ver own es hl
    rcases hlook m _ hl with ⟨hlt, hl'⟩ | ⟨hge, e', he', hee⟩
    · simp only [Con.join, if_pos (show m < κ.n by omega)]
      exact h.kv _ _ _ _ _ _ hl'
    · cases e' with
      | box => simp [Ent.shift] at hee
      | arr e1 sz1 v1 o1 es1 =>
        simp only [Ent.shift] at hee
        cases hee
        simp only [Con.join, hk, if_neg (show ¬ m < st.n by omega)]
        exact hc.kv _ _ _ _ _ _ he'

end
end Go.H
