/- Framework H, part 27: regions that draw their order: moves come first. -/
import Derived.Test.YtdolkacinfjhcaaGreatH26
set_option linter.unusedSimpArgs false
set_option linter.unusedVariables false
set_option linter.constructorNameAsVariable false
namespace Go.H
open Go.RowKit
def memN : List Nat → Nat → Bool
 | [], _ => false
 | k :: r, i => match Nat.beq k i with | true => true | false => memN r i
def allE (p : Edge → Bool) : List Edge → Bool
 | [] => true
 | e :: r => match p e with | true => allE p r | false => false
def anyEdge (p : Edge → Bool) : List Edge → Bool
 | [] => false
 | e :: r => match p e with | true => true | false => anyEdge p r
def bindsB (e : Edge) : Bool := match e.ground with | .textOnly _ => false | .gcOnly _ => false | _ => true
def rdy (done : List Nat) : List Oper → Nat → List Nat
 | [], _ => []
 | o :: r, i => match memN done i with
  | true => rdy done r (i + 1)
  | false => match allE (fun e => match bindsB e with | true => memN done e.on | false => true) o.after.toList with
   | true => i :: rdy done r (i + 1)
   | false => rdy done r (i + 1)
def opsL : Op → Option (List Operand)
 | .alloc _ => some []
 | .move x | .assign x | .box _ x | .load _ x | .nilCheck x | .unOp _ _ x | .convert _ _ x | .fieldAddr _ x _ | .field _ x _ | .extract x _ => some [x]
 | .pick c a b => some [c, a, b]
 | .slice _ x lo hi mx => some (x :: (lo.toList ++ (hi.toList ++ mx.toList)))
 | .buildSlice _ _ ps => some (ps.toList.map (·.2))
 | .build _ ps => some (ps.toList.map (·.2))
 | .store _ a v | .binOp _ _ a v _ | .makeSlice _ a v | .indexAddr _ a v | .index _ a v => some [a, v]
 | .call { callee := .value f, args, argTypes := _ } => some (f :: args.toList)
 | .call { callee := .builtin _, args, argTypes := _ } => some args.toList
 | _ => none
def hasT (d : Tmp) : List Operand → Bool
 | [] => false
 | .tmp t :: r => match Nat.beq t d with | true => true | false => hasT d r
 | _ :: r => hasT d r
def trB (ops : List Oper) : Nat → Nat → Nat → Bool
 | 0, _, _ => false
 | f + 1, j, i => match ops[j]? with
  | some o => anyEdge (fun e => match bindsB e with | true => (match Nat.beq e.on i with | true => true | false => trB ops f e.on i) | false => false) o.after.toList
  | none => false
def pureL : Op → Option (List Operand)
 | .move x => some [x]
 | .assign x => some [x]
 | .binOp .add _ x y _ | .binOp .sub _ x y _ | .binOp .mul _ x y _ => some [x, y]
 | .build _ ps => some (ps.toList.map (·.2))
 | .fieldAddr _ x _ => some [x]
 | .load _ x => some [x]
 | .indexAddr _ x i => some [x, i]
 | _ => none
def nowB (st : St) (o : Oper) : Bool :=
 match o.op with
 | .load _ x => (match evO st x with | .c (.d (.rp _)) => true | _ => false)
 | .indexAddr _ x _ => (match evO st x with | .c (.d (.sl _ _)) => true | .c (.ref _ _ _) => true | .c (.ptr _ _) => true | _ => false)
 | _ => true
def withG (ops : List Oper) (o' : Oper) : Option (List Operand) :=
 match opsL o'.op with
 | some xs => (match o'.guard with
  | none => some xs
  | some (g, _) => (match ops[g]? with
   | some og => (match og.dst with | some t => some (.tmp t :: xs) | none => some xs)
   | none => some xs))
 | none => none
def mindB (ops : List Oper) (i d : Nat) (x : List Operand) (ai : List Edge) (j : Nat) (o' : Oper) : Bool :=
 match withG ops o' with
 | some xs =>
  (match o'.dst with
   | some s => (match Nat.beq s d with | true => false | false => (match hasT s x with | false => true | true => (match anyEdge (fun e => match bindsB e with | true => Nat.beq e.on j | false => false) ai with | true => true | false => trB ops 16 j i)))
   | none => true) &&
  (match hasT d xs with | false => true | true => anyEdge (fun e => match bindsB e with | true => Nat.beq e.on i | false => false) o'.after.toList)
 | none => false
def mindL (ops : List Oper) (i d : Nat) (x : List Operand) (ai : List Edge) : List Oper → Nat → Bool
 | [], _ => true
 | o' :: r, j => match Nat.beq i j with
  | true => mindL ops i d x ai r (j + 1)
  | false => match mindB ops i d x ai j o' with | true => mindL ops i d x ai r (j + 1) | false => false
def earlyB (ops : List Oper) (i : Nat) : Bool :=
 match ops[i]? with
 | some o => (match o.guard, pureL o.op with
  | none, none => false
  | _, _ => (match withG ops o, o.dst with
   | some xs, some d => mindL ops i d xs o.after.toList ops 0
   | _, _ => false))
 | none => false
theorem allE_iff {p : Edge → Bool} {l : List Edge} : allE p l = true ↔ ∀ e ∈ l, p e = true := by
 induction l with
 | nil => simp [allE]
 | cons e r ih => cases h : p e <;> simp [allE, h, ih]
theorem anyEdge_iff {p : Edge → Bool} {l : List Edge} : anyEdge p l = true ↔ ∃ e ∈ l, p e = true := by
 induction l with
 | nil => simp [anyEdge]
 | cons e r ih => cases h : p e <;> simp [anyEdge, h, ih]
theorem bindsB_eq (e : Edge) : Region.binds .any e = bindsB e := by
 unfold Region.binds bindsB
 split <;> simp_all <;> rfl
theorem hasT_iff {d : Tmp} {l : List Operand} : hasT d l = true ↔ Operand.tmp d ∈ l := by
 induction l with
 | nil => simp [hasT]
 | cons x r ih =>
  cases x with
  | tmp t =>
   simp only [hasT]
   cases hb : Nat.beq t d with
   | true => simp [beq_iff hb]
   | false =>
    have : d ≠ t := fun e => by rw [e] at hb; simp at hb
    simp [this, ih]
  | _ => simp [hasT, ih]
theorem mem_rdy {done : List Nat} {j : Nat} : ∀ {l : List Oper} {k : Nat}, j ∈ rdy done l k ↔ memN done j = false ∧ ∃ o, k ≤ j ∧ l[j - k]? = some o ∧ ∀ e ∈ o.after, bindsB e = true → memN done e.on = true
 | [], k => by simp [rdy]
 | o :: r, k => by
  have ih := @mem_rdy done j r (k + 1)
  have hall : (allE (fun e => match bindsB e with | true => memN done e.on | false => true) o.after.toList = true) ↔ ∀ e ∈ o.after, bindsB e = true → memN done e.on = true := by
   rw [allE_iff]
   constructor
   ·intro h e he hb
    have := h e (by simpa using he)
    simpa [hb] using this
   ·intro h e he
    cases hb : bindsB e with
    | false => rfl
    | true => exact h e (by simpa using he) hb
  have hstep : (∃ o', k ≤ j ∧ (o :: r)[j - k]? = some o' ∧ ∀ e ∈ o'.after, bindsB e = true → memN done e.on = true) ↔ (j = k ∧ ∀ e ∈ o.after, bindsB e = true → memN done e.on = true) ∨ (∃ o', k + 1 ≤ j ∧ r[j - (k + 1)]? = some o' ∧ ∀ e ∈ o'.after, bindsB e = true → memN done e.on = true) := by
   constructor
   ·rintro ⟨o', h1, h2, h3⟩
    by_cases hjk : j = k
    ·subst hjk; simp at h2; subst h2; exact .inl ⟨rfl, h3⟩
    ·rw [show j - k = (j - (k + 1)) + 1 by omega, List.getElem?_cons_succ] at h2
     exact .inr ⟨o', by omega, h2, h3⟩
   ·rintro (⟨rfl, h⟩ | ⟨o', h1, h2, h3⟩)
    ·exact ⟨o, Nat.le_refl _, by simp, h⟩
    ·exact ⟨o', by omega, by rw [show j - k = (j - (k + 1)) + 1 by omega, List.getElem?_cons_succ]; exact h2, h3⟩
  rw [hstep]
  simp only [rdy]
  cases hm : memN done k with
  | true =>
   simp only [ih]
   constructor
   ·rintro ⟨h1, h2⟩; exact ⟨h1, .inr h2⟩
   ·rintro ⟨h1, (⟨rfl, _⟩ | h2)⟩
    ·rw [hm] at h1; cases h1
    ·exact ⟨h1, h2⟩
  | false =>
   cases ha : allE (fun e => match bindsB e with | true => memN done e.on | false => true) o.after.toList with
   | true =>
    simp only [List.mem_cons, ih]
    constructor
    ·rintro (rfl | ⟨h1, h2⟩)
     ·exact ⟨hm, .inl ⟨rfl, hall.1 ha⟩⟩
     ·exact ⟨h1, .inr h2⟩
    ·rintro ⟨h1, (⟨rfl, _⟩ | h2)⟩
     ·exact .inl rfl
     ·exact .inr ⟨h1, h2⟩
   | false =>
    simp only [ih]
    constructor
    ·rintro ⟨h1, h2⟩; exact ⟨h1, .inr h2⟩
    ·rintro ⟨h1, (⟨rfl, h3⟩ | h2)⟩
     ·rw [hall.2 h3] at ha; cases ha
     ·exact ⟨h1, h2⟩
theorem opsL_spec {op : Op} {xs : List Operand} (h : opsL op = some xs) : (∀ x, x ∈ op.operands ↔ x ∈ xs) ∧ ∀ cs b, op ≠ .select cs b := by
 unfold opsL at h
 split at h <;> first | (cases h; done) | (cases h; exact ⟨fun x => by simp [Op.operands, Call.operands], fun cs b hh => by cases hh⟩)
section
variable {P : Program} {T : TypeId → Option TI} {F0 L : Nat → Prop} {w0 w w' : World} {st : St} {a a1 : Act} {κ κ' : Con} {hh : List (Nat × Ent)} {ops : Array Oper} {Q : Exit → Act → World → Prop}
theorem upon_transfer {o : Oper} {K K' : Act → World → Prop} (hQ : ∀ e a w, Q e a w → e = .normal) (hds : a1.defers = a.defers)
  (hK : ∀ ds u w'', K (Act.put { a1 with defers := ds } o.dst u) w'' → K' (Act.put { a with defers := ds } o.dst u) w'') {r : Result Next} (h : o.upon P a1 K Q r) : o.upon P a K' Q r := by
 obtain ⟨t1, d1⟩ := a1
 obtain ⟨t, d⟩ := a
 simp only at hds hK
 subst hds
 cases r with
 | ok n w' =>
  cases n with
  | value v => exact hK _ _ _ h
  | skip => exact hK _ _ _ h
  | enter f args =>
   refine Calls.mono (show Calls P f args w' _ from h) fun e w'' he => ?_
   cases e with
   | returned v => exact hK _ _ _ he
   | panicked c => exact nomatch hQ _ _ _ he
   | outgrown => obtain ⟨_, _, he⟩ := he; exact nomatch hQ _ _ _ he
  | defer d => exact hK _ _ _ h
  | row r args => exact Rows.mono (show Rows P r args w' _ from h) fun v w'' he => hK _ _ _ he
  | _ => exact h
 | halt x w' =>
  cases x with
  | panic v => exact nomatch hQ _ _ _ (show Q _ _ _ from h)
  | _ => exact h
theorem mem_ready {listed : Array Bool} {j : Nat} : j ∈ Region.ready .any ops listed ↔ listed.getD j true = false ∧ ∃ o, ops[j]? = some o ∧ ∀ e ∈ o.after, Region.binds .any e = true → listed.getD e.on false = true := by
 simp only [Region.ready, List.mem_filter, List.mem_range, Bool.and_eq_true, Bool.not_eq_true']
 constructor
 ·rintro ⟨h1, h2, h3⟩
  refine ⟨h2, ops[j], by simp [h1], fun e he hb => ?_⟩
  simp only [Array.getElem?_eq_getElem h1, Option.map_some, Option.getD_some] at h3
  obtain ⟨k, hk, rfl⟩ := Array.getElem_of_mem he
  have := Array.all_eq_true.1 h3 k hk
  simpa [hb] using this
 ·rintro ⟨h1, o, h2, h3⟩
  refine ⟨(Array.getElem?_eq_some_iff.1 h2).1, h1, ?_⟩
  simp only [h2, Option.map_some, Option.getD_some]
  refine Array.all_eq_true.2 fun k hk => ?_
  cases hb : Region.binds .any o.after[k] with
  | false => rfl
  | true => simpa using h3 _ (Array.getElem_mem hk) hb
theorem getD_set {listed : Array Bool} {i j : Nat} {b : Bool} (h : i ≠ j) : (listed.setIfInBounds i true).getD j b = listed.getD j b := by
 simp [Array.getD_eq_getD_getElem?, Array.getElem?_setIfInBounds_ne h]
theorem getD_mono {listed : Array Bool} {i j : Nat} (h : listed.getD j false = true) : (listed.setIfInBounds i true).getD j false = true := by
 by_cases hij : i = j
 ·subst hij
  rw [Array.getD_eq_getD_getElem?] at h ⊢
  rw [Array.getElem?_setIfInBounds]
  have hlt : i < listed.size := by
   rcases Nat.lt_or_ge i listed.size with h1 | h1
   ·exact h1
   ·rw [Array.getElem?_eq_none h1] at h; cases h
  simp [hlt]
 ·rw [getD_set hij]; exact h
def Shut (ops : Array Oper) (listed : Array Bool) : Prop := ∀ (j : Nat) (o : Oper), ops[j]? = some o → listed.getD j true = true → ∀ e ∈ o.after, Region.binds .any e = true → listed.getD e.on false = true
theorem trB_spec {listed : Array Bool} (hs : Shut ops listed) {i : Nat} (hi : i < listed.size) : ∀ (f j : Nat), trB ops.toList f j i = true → (∀ o, ops[j]? = some o → ∀ e ∈ o.after, Region.binds .any e = true → listed.getD e.on false = true) → listed.getD i false = true
 | 0, j, h, hj => by simp [trB] at h
 | f + 1, j, h, hj => by
  simp only [trB, Array.getElem?_toList] at h
  split at h
  ·rename_i o ho
   obtain ⟨e, he, hb⟩ := anyEdge_iff.1 h
   have he' : e ∈ o.after := by simpa using he
   cases hbb : bindsB e with
   | false => simp [hbb] at hb
   | true =>
    simp only [hbb] at hb
    have hl := hj o ho e he' (by rw [bindsB_eq, hbb])
    cases hq : Nat.beq e.on i with
    | true => rw [← beq_iff hq]; exact hl
    | false =>
     simp only [hq] at hb
     refine trB_spec hs hi f e.on hb (fun o2 ho2 e2 he2 hb2 => hs e.on o2 ho2 ?_ e2 he2 hb2)
     rw [Array.getD_eq_getD_getElem?] at hl ⊢
     cases hk : listed[e.on]? with
     | none => rfl
     | some b => rw [hk] at hl; simpa using hl
  ·cases h
theorem Shut.set {listed : Array Bool} (hs : Shut ops listed) {i : Nat} {o : Oper} (hi : ops[i]? = some o) (hr : ∀ e ∈ o.after, Region.binds .any e = true → listed.getD e.on false = true) : Shut ops (listed.setIfInBounds i true) := by
 intro j o' hj hl e he hb
 by_cases hij : i = j
 ·subst hij
  rw [hi] at hj; cases hj
  exact getD_mono (hr e he hb)
 ·rw [getD_set hij] at hl
  exact getD_mono (hs j o' hj hl e he hb)
def stepI (F : Nat → Prop) (w w' : World) : Prop := ∀ b, F b → w'.heap[b]? = w.heap[b]?
def wpAnyI (P : Program) (ops : Array Oper) (Q : Exit → Act → World → Prop) (F : Nat → Prop) : Nat → Array Bool → Act → World → Prop
 | 0, listed, a, w => Region.ready .any ops listed = [] ∧ Q .normal a w
 | fuel + 1, listed, a, w =>
  (Region.ready .any ops listed = [] → Q .normal a w) ∧
  ∀ i ∈ Region.ready .any ops listed, wpOp P ops Q i (fun a' w' => stepI F w w' ∧ wpAnyI P ops Q F fuel (listed.setIfInBounds i true) a' w') a w
theorem wpAnyI_any {F : Nat → Prop} : ∀ {n : Nat} {listed : Array Bool} {a : Act} {w : World}, wpAnyI P ops Q F n listed a w → wpAny P .any ops Q n listed a w
 | 0, _, _, _, h => h
 | n + 1, _, _, _, h => ⟨h.1, fun i hi => wpOp_mono (fun a' w' h' => wpAnyI_any h'.2) (h.2 i hi)⟩
theorem wpAnyI_mono {F F' : Nat → Prop} (hF : ∀ b, F b → F' b) : ∀ {n : Nat} {listed : Array Bool} {a : Act} {w : World}, wpAnyI P ops Q F' n listed a w → wpAnyI P ops Q F n listed a w
 | 0, _, _, _, h => h
 | n + 1, _, _, _, h => ⟨h.1, fun i hi => wpOp_mono (fun a' w' h' => ⟨fun b hb => h'.1 b (hF b hb), wpAnyI_mono hF h'.2⟩) (h.2 i hi)⟩
theorem early {i : Nat} {o : Oper} {d : Tmp} (hi : ops[i]? = some o) (hsel : ∀ cs b, o.op ≠ .select cs b) (hd : o.dst = some d)
  (hB : ∀ j o', j ≠ i → ops[j]? = some o' → o'.dst ≠ some d ∧ (d ∈ o'.looksAt ops → ∃ e ∈ o'.after, Region.binds .any e = true ∧ e.on = i) ∧ (∀ s, o'.dst = some s → s ∈ o.looksAt ops → (∃ e ∈ o.after, Region.binds .any e = true ∧ e.on = j) ∨ trB ops.toList 16 j i = true) ∧ ∀ cs b, o'.op ≠ .select cs b)
  (hQ : ∀ e a w, Q e a w → e = .normal) (F : Nat → Prop) : ∀ (n : Nat) (listed : Array Bool) (a : Act) (w : World) (v : Value), ((Region.wanted o (yielded ops a.tmps) = true ∧ ∀ w2, stepI F w w2 → (execOp a.eval o).run P w2 = .ok (.value v) w2) ∨ (Region.wanted o (yielded ops a.tmps) = false ∧ v = undef)) → Shut ops listed → listed.getD i true = false → (∀ e ∈ o.after, Region.binds .any e = true → listed.getD e.on false = true) →
  wpAnyI P ops Q F n (listed.setIfInBounds i true) (a.put (some d) v) w → wpAnyI P ops Q F (n + 1) listed a w := by
 intro n
 induction n with
 | zero =>
  intro listed a w v hp hsh hu hr h
  refine ⟨fun h0 => ?_, fun j hj => ?_⟩
  ·have : i ∈ Region.ready .any ops listed := mem_ready.2 ⟨hu, o, hi, hr⟩
   rw [h0] at this; cases this
  ·by_cases hji : j = i
   ·subst hji
    simp only [wpOp, hi]
    rcases hp with ⟨hw, hp⟩ | ⟨hw, rfl⟩
    ·rw [if_pos hw]
     refine .inl ?_
     unfold Oper.wp
     rw [hp w (fun _ _ => rfl), Oper.upon_value, hd]
     exact ⟨fun _ _ => rfl, h⟩
    ·rw [if_neg (by rw [hw]; decide), hd]
     exact ⟨fun _ _ => rfl, h⟩
   ·obtain ⟨h1, o', h2, h3⟩ := mem_ready.1 hj
    have : j ∈ Region.ready .any ops (listed.setIfInBounds i true) := mem_ready.2 ⟨by rw [getD_set (Ne.symm hji)]; exact h1, o', h2, fun e he hb => getD_mono (h3 e he hb)⟩
    rw [h.1] at this; cases this
 | succ m ih =>
  intro listed a w v hp hsh hu hr h
  refine ⟨fun h0 => ?_, fun j hj => ?_⟩
  ·have : i ∈ Region.ready .any ops listed := mem_ready.2 ⟨hu, o, hi, hr⟩
   rw [h0] at this; cases this
  ·by_cases hji : j = i
   ·subst hji
    simp only [wpOp, hi]
    rcases hp with ⟨hw, hp⟩ | ⟨hw, rfl⟩
    ·rw [if_pos hw]
     refine .inl ?_
     unfold Oper.wp
     rw [hp w (fun _ _ => rfl), Oper.upon_value, hd]
     exact ⟨fun _ _ => rfl, h⟩
    ·rw [if_neg (by rw [hw]; decide), hd]
     exact ⟨fun _ _ => rfl, h⟩
   ·obtain ⟨h1, o', h2, h3⟩ := mem_ready.1 hj
    obtain ⟨b1, b2, b3, b4⟩ := hB j o' hji h2
    have hmem : j ∈ Region.ready .any ops (listed.setIfInBounds i true) := mem_ready.2 ⟨by rw [getD_set (Ne.symm hji)]; exact h1, o', h2, fun e he hb => getD_mono (h3 e he hb)⟩
    have hj1 := h.2 j hmem
    have hfal : ∀ {k : Nat}, listed.getD k true = false → listed.getD k false = true → False := fun {k} p q => by
     rw [Array.getD_eq_getD_getElem?] at p q
     cases hk : listed[k]? with
     | none => rw [hk] at q; cases q
     | some b => rw [hk] at p q; simp at p q; rw [p] at q; cases q
    have hnd : d ∉ o'.looksAt ops := fun hin => by
     obtain ⟨e, he, hb, he2⟩ := b2 hin
     have := h3 e he hb
     rw [he2] at this
     exact hfal hu this
    have hev : execOp (a.put (some d) v).eval o' = execOp a.eval o' := execOp_congr o' b4 fun y hy => by
     cases y with
     | tmp t =>
      have ht : t ∈ o'.looksAt ops := List.mem_append_left _ (List.mem_filterMap.2 ⟨.tmp t, by simpa using hy, rfl⟩)
      have hne : d ≠ t := fun e => hnd (e ▸ ht)
      simp only [Act.eval, Act.put, Array.getD_eq_getD_getElem?, Array.getElem?_setIfInBounds_ne hne]
     | const v => rfl
     | global g => rfl
     | func f => rfl
    have hwant : Region.wanted o' (yielded ops (a.put (some d) v).tmps) = Region.wanted o' (yielded ops a.tmps) := by
     unfold Region.wanted
     cases hgd : o'.guard with
     | none => rfl
     | some gw =>
      obtain ⟨gi, want⟩ := gw
      simp only [yielded]
      cases hdst : (ops[gi]?).bind (·.dst) with
      | none => rfl
      | some t =>
       have hne : d ≠ t := fun e => hnd (List.mem_append_right _ (by simp [hgd, hdst, e]))
       simp only [Option.bind_some, Act.put, Array.getElem?_setIfInBounds_ne hne]
    have hcomm : (listed.setIfInBounds i true).setIfInBounds j true = (listed.setIfInBounds j true).setIfInBounds i true := by
     apply Array.ext_getElem?
     intro k
     simp only [Array.getElem?_setIfInBounds, Array.size_setIfInBounds]
     by_cases hk1 : j = k <;> by_cases hk2 : i = k <;> simp [hk1, hk2]
    have hK : ∀ ds u w'', (stepI F w w'' ∧ wpAnyI P ops Q F m ((listed.setIfInBounds i true).setIfInBounds j true) (Act.put { a.put (some d) v with defers := ds } o'.dst u) w'') → stepI F w w'' ∧ wpAnyI P ops Q F (m + 1) (listed.setIfInBounds j true) (Act.put { a with defers := ds } o'.dst u) w'' := fun ds u w'' hk => by
     obtain ⟨hst, hk⟩ := hk
     refine ⟨hst, ?_⟩
     have hsafe : ∀ t s, o'.dst = some s → t ∈ o.looksAt ops → s ≠ t := fun t s ho ht e => by
      rcases b3 s ho (by rw [e]; exact ht) with ⟨e', he', hb', hon⟩ | htr
      ·have := hr e' he' hb'
       rw [hon] at this
       exact hfal h1 this
      ·have hisz : i < listed.size := by
        rcases Nat.lt_or_ge i listed.size with q | q
        ·exact q
        ·rw [Array.getD_eq_getD_getElem?, Array.getElem?_eq_none q] at hu; cases hu
       exact hfal hu (trB_spec hsh hisz 16 j htr (fun o2 ho2 => by rw [h2] at ho2; cases ho2; exact h3))
     have hwo : Region.wanted o (yielded ops (Act.put { a with defers := ds } o'.dst u).tmps) = Region.wanted o (yielded ops a.tmps) := by
      cases ho : o'.dst with
      | none => rfl
      | some s =>
       unfold Region.wanted
       cases hgd : o.guard with
       | none => rfl
       | some gw =>
        obtain ⟨gi, want⟩ := gw
        simp only [yielded]
        cases hdst : (ops[gi]?).bind (·.dst) with
        | none => rfl
        | some t =>
         have hne : s ≠ t := hsafe t s ho (List.mem_append_right _ (by simp [hgd, hdst]))
         simp only [Option.bind_some, Act.put, Array.getElem?_setIfInBounds_ne hne]
     have hp2 : (Region.wanted o (yielded ops (Act.put { a with defers := ds } o'.dst u).tmps) = true ∧ ∀ w2, stepI F w'' w2 → (execOp (Act.put { a with defers := ds } o'.dst u).eval o).run P w2 = .ok (.value v) w2) ∨ (Region.wanted o (yielded ops (Act.put { a with defers := ds } o'.dst u).tmps) = false ∧ v = undef) := by
      rw [hwo]
      refine hp.imp_left fun ⟨hw, hp⟩ => ⟨hw, fun w2 hs2 => ?_⟩
      rw [← hp w2 (fun b hb => (hs2 b hb).trans (hst b hb))]
      congr 1
      refine execOp_congr o hsel fun y hy => ?_
      cases y with
      | tmp t =>
       cases ho : o'.dst with
       | none => rfl
       | some s =>
        have hne : s ≠ t := hsafe t s ho (List.mem_append_left _ (List.mem_filterMap.2 ⟨.tmp t, by simpa using hy, rfl⟩))
        simp only [Act.eval, Act.put, Array.getD_eq_getD_getElem?, Array.getElem?_setIfInBounds_ne hne]
      | const v => rfl
      | global g => rfl
      | func f => rfl
     refine ih _ _ _ v hp2 (hsh.set h2 h3) (by rw [getD_set hji]; exact hu) (fun e he hb => getD_mono (hr e he hb)) ?_
     rw [← hcomm]
     have he : Act.put (Act.put { a with defers := ds } o'.dst u) (some d) v = Act.put { a.put (some d) v with defers := ds } o'.dst u := by
      cases ho : o'.dst with
      | none => rfl
      | some s =>
       have hne : s ≠ d := fun e => b1 (by rw [ho, e])
       simp only [Act.put]
       congr 1
       apply Array.ext_getElem?
       intro k
       simp only [Array.getElem?_setIfInBounds, Array.size_setIfInBounds]
       by_cases hk1 : s = k
       ·subst hk1; simp [Ne.symm hne]
       ·by_cases hk2 : d = k <;> simp [hk1, hk2]
     rw [he]
     exact hk
    unfold wpOp at hj1 ⊢
    simp only [h2, hwant] at hj1 ⊢
    split
    ·rename_i hw
     simp only [hw, if_true] at hj1
     rcases hj1 with hj1 | ⟨_, hj1⟩
     ·refine .inl ?_
      unfold Oper.wp at hj1 ⊢
      rw [hev] at hj1
      exact upon_transfer (a1 := a.put (some d) v) (a := a) hQ rfl hK hj1
     ·obtain ⟨_, _, hq⟩ := hj1
      exact nomatch hQ _ _ _ hq
    ·rename_i hw
     simp only [hw] at hj1
     have := hK a.defers undef w (by simpa [Act.put] using hj1)
     exact this
theorem mindL_spec {all : List Oper} {i d : Nat} {x : List Operand} {ai : List Edge} : ∀ {l : List Oper} {k j : Nat} {o' : Oper}, mindL all i d x ai l k = true → l[j]? = some o' → k + j ≠ i → mindB all i d x ai (k + j) o' = true
 | [], k, j, o', h, hj, hne => by simp at hj
 | o :: r, k, j, o', h, hj, hne => by
  simp only [mindL] at h
  cases j with
  | zero =>
   simp at hj
   subst hj
   have hb : Nat.beq i k = false := by cases hb : Nat.beq i k with | true => exact absurd (beq_iff hb).symm hne | false => rfl
   simp only [hb] at h
   cases hm : mindB all i d x ai k o with
   | true => simp [hm]
   | false => simp [hm] at h
  | succ j =>
   rw [List.getElem?_cons_succ] at hj
   have hr : mindL all i d x ai r (k + 1) = true := by
    split at h
    ·exact h
    ·split at h
     ·exact h
     ·cases h
   have := mindL_spec hr hj (by omega)
   rwa [show k + 1 + j = k + (j + 1) by omega] at this
theorem build_all (hT : TOk P T) {t : TypeId} {parts : Array (Nat × Operand)} {K : AV → Prop} (h : buildWp T st t parts.toList K) :
  ∃ r, K r ∧ ∀ (F0 L : Nat → Prop) (w0 : World) (a : Act) (w : World) (κ : Con), RepK F0 L w0 st a w κ → ∃ v, (∀ w2, (Instr.build t (parts.map fun (i, x) => (i, a.eval x))).run P w2 = .ok v w2) ∧ AVRep w κ st.h r v := by
 unfold buildWp at h
 split at h
 ·rename_i ti hti
  have hf := hT _ _ hti
  have hk := hf.k
  obtain ⟨info, z, h1, h2, h3, h4, h5, h6, h7⟩ := hf.info
  obtain ⟨z', hz1, hz2, hz3⟩ := zero_sound hf
  have hzz : z' = z := by
   have := hz1 default
   simp [zeroValue, typeInfo, h1, h4] at this
   exact this.symm
  subst hzz
  split at h
  ·rename_i fs l hke hl
   rw [hke] at hk
   obtain ⟨fields, hu, rfl, _⟩ := hk
   split at h
   ·rename_i places hpl
    split at h
    ·rename_i cs hcs
     refine ⟨_, h, fun F0 L w0 a w κ hr => ?_⟩
     obtain ⟨us, hu1, hu2⟩ := fill_sound hr hl hcs (hz3 w κ st.h)
     refine ⟨.agg us.toArray, fun w2 => run_build w2 t _ _ ?_, us, rfl, hu2⟩
     simp only [Program.built, h1, hu, h4, places_sound hT _ _ hpl]
     simpa using hu1
    ·exact h.elim
   ·exact h.elim
  ·rename_i m e l hke hl
   rw [hke] at hk
   split at h
   ·rename_i te hte
    obtain ⟨ie, ze, e1, e2, _⟩ := (hT _ _ hte).info
    split at h
    ·rename_i cs hcs
     refine ⟨_, h, fun F0 L w0 a w κ hr => ?_⟩
     obtain ⟨us, hu1, hu2⟩ := fill_sound hr hl hcs (hz3 w κ st.h)
     refine ⟨.agg us.toArray, fun w2 => run_build w2 t _ _ ?_, us, rfl, hu2⟩
     have hk' : P.underlying t = some (.array m e) := hk
     simp only [Program.built, h1, hk', h4, e1, e2]
     simpa using hu1
    ·exact h.elim
   ·exact h.elim
  ·exact h.elim
 ·exact h.elim
theorem pureL_spec {op : Op} {xs : List Operand} (h : pureL op = some xs) : (∀ y, y ∈ op.operands → y ∈ xs) ∧ (∀ cs b, op ≠ .select cs b) ∧ ((∃ x, op = .move x ∨ op = .assign x) ∨ (∃ b t x y ty, op = .binOp b t x y ty ∧ (b = .add ∨ b = .sub ∨ b = .mul)) ∨ (∃ t ps, op = .build t ps) ∨ (∃ s x f, op = .fieldAddr s x f) ∨ (∃ t x, op = .load t x) ∨ ∃ t x i, op = .indexAddr t x i) := by
 unfold pureL at h
 split at h
 ·cases h; exact ⟨fun y hy => by simpa [Op.operands] using hy, (fun cs b hh => by cases hh), .inl ⟨_, .inl rfl⟩⟩
 ·cases h; exact ⟨fun y hy => by simpa [Op.operands] using hy, (fun cs b hh => by cases hh), .inl ⟨_, .inr rfl⟩⟩
 ·cases h; exact ⟨fun y hy => by simpa [Op.operands] using hy, (fun cs b hh => by cases hh), .inr (.inl ⟨_, _, _, _, _, rfl, .inl rfl⟩)⟩
 ·cases h; exact ⟨fun y hy => by simpa [Op.operands] using hy, (fun cs b hh => by cases hh), .inr (.inl ⟨_, _, _, _, _, rfl, .inr (.inl rfl)⟩)⟩
 ·cases h; exact ⟨fun y hy => by simpa [Op.operands] using hy, (fun cs b hh => by cases hh), .inr (.inl ⟨_, _, _, _, _, rfl, .inr (.inr rfl)⟩)⟩
 ·cases h; exact ⟨fun y hy => by simpa [Op.operands] using hy, (fun cs b hh => by cases hh), .inr (.inr (.inl ⟨_, _, rfl⟩))⟩
 ·cases h; exact ⟨fun y hy => by simpa [Op.operands] using hy, (fun cs b hh => by cases hh), .inr (.inr (.inr (.inl ⟨_, _, _, rfl⟩)))⟩
 ·cases h; exact ⟨fun y hy => by simpa [Op.operands] using hy, (fun cs b hh => by cases hh), .inr (.inr (.inr (.inr (.inl ⟨_, _, rfl⟩))))⟩
 ·cases h; exact ⟨fun y hy => by simpa [Op.operands] using hy, (fun cs b hh => by cases hh), .inr (.inr (.inr (.inr (.inr ⟨_, _, _, rfl⟩))))⟩
 ·cases h
theorem run_index_arr {t e : TypeId} {m : Nat} {te : TI} (hk : P.underlying t = some (.array m e)) (hte : te.fits P e) {A : Addr} {k : IntKind} {n : Int} (h0 : 0 ≤ n) (hl : n < m) (w : World) :
  (Instr.indexAt t (.pointer (some A)) (.int k n)).run P w = .ok (.pointer (some (A.add (n.toNat * te.size)))) w := by
 have hz := run_size (w := w) hte
 simp only [Instr.indexAt, asIntOf, Sem.run_bind, Sem.run_pure, Result.andThen_ok, run_underlying (h := hk), Instr.sureAddr, h0, hl, and_self, if_true, hz]
theorem pure_run (hT : TOk P T) {o : Oper} {xs : List Operand} (hp : pureL o.op = some xs) (hnow : nowB st o = true) {K : St → Prop} (h : opWp P T st o K) (hr : RepK F0 L w0 st a w κ) : ∃ v, ∀ w2, stepI κ.F w w2 → (execOp a.eval o).run P w2 = .ok (.value v) w2 := by
 rcases (pureL_spec hp).2.2 with ⟨x, hx | hx⟩ | ⟨b, t, x, y, ty, hx, hb⟩ | ⟨t, ps, hx⟩ | ⟨s, x, f, hx⟩ | ⟨t, x, hx⟩ | ⟨t, x, y, hx⟩
 ·exact ⟨a.eval x, fun w2 _ => by simp [execOp, hx]⟩
 ·exact ⟨a.eval x, fun w2 _ => by simp [execOp, hx]⟩
 ·have hb2 : b ≠ .eql ∧ b ≠ .neq ∧ b ≠ .shl ∧ b ≠ .shr := by rcases hb with rfl | rfl | rfl <;> simp
  have hnt : nilTest b (evO st y) = none := by rcases hb with rfl | rfl | rfl <;> rfl
  unfold opWp at h
  rw [hx] at h
  simp only [hnt] at h
  rw [← qqE_eq] at h
  have hbw : binWp T b t (evO st x) (evO st y) fun d => setT st o.dst (.c (.d d)) K := h
  have hvx := evO_rep hr x
  have hvy := evO_rep hr y
  unfold binWp at hbw
  split at hbw
  ·rename_i k m k' n h1 h2
   rw [h1] at hvx; rw [h2] at hvy
   generalize hx1 : a.eval x = vx at hvx
   generalize hy1 : a.eval y = vy at hvy
   cases hvx; cases hvy
   rcases hb with rfl | rfl | rfl <;> simp only at hbw <;> (split at hbw) <;> try exact hbw.elim
   all_goals (rename_i hk; obtain rfl := kindEq_iff hk)
   ·exact ⟨.int k (k.wrap (m + n)), fun w2 _ => by simp [execOp, hx, hx1, hy1, eqGuard, binOp, Op.intArith]⟩
   ·exact ⟨.int k (k.wrap (m - n)), fun w2 _ => by simp [execOp, hx, hx1, hy1, eqGuard, binOp, Op.intArith]⟩
   ·exact ⟨.int k (k.wrap (m * n)), fun w2 _ => by simp [execOp, hx, hx1, hy1, eqGuard, binOp, Op.intArith]⟩
  ·rename_i s1 s2 h1 h2
   rw [h1] at hvx; rw [h2] at hvy
   generalize hx1 : a.eval x = vx at hvx
   generalize hy1 : a.eval y = vy at hvy
   cases hvx; cases hvy
   rcases hb with rfl | rfl | rfl <;> simp only [strWp] at hbw
   have h3 : ¬ (((s1.size + s2.size : Nat) : Int) > IntKind.i64.max) := by
    have := hbw.1
    have h4 : IntKind.i64.max = 9223372036854775807 := by decide
    rw [h4]; omega
   refine ⟨.string (s1 ++ s2), fun w2 _ => ?_⟩
   have hb0 : (binOp .add t (.string s1) (.string s2)).run P w2 = .ok (.string (s1 ++ s2)) w2 := by simp only [binOp, Op.stringOp, if_neg h3, Sem.run_pure]
   simp [execOp, hx, hx1, hy1, eqGuard, hb0]
  ·split at hbw
   ·split at hbw <;> first | exact hbw.elim | (rcases hb with h | h | h <;> simp_all)
   ·exact hbw.elim
  ·split at hbw
   ·split at hbw <;> first | exact hbw.elim | (rcases hb with h | h | h <;> simp_all)
   ·exact hbw.elim
  ·exact hbw.elim
 ·unfold opWp at h
  rw [hx] at h
  simp only at h
  rw [← qqE_eq] at h
  have hbw : buildWp T st t ps.toList fun d => setT st o.dst d K := h
  obtain ⟨r, _, hall⟩ := build_all hT hbw
  obtain ⟨v, hv, _⟩ := hall F0 L w0 a w κ hr
  exact ⟨v, fun w2 _ => by simp [execOp, hx, hv]⟩
 ·unfold opWp at h
  rw [hx] at h
  simp only at h
  rw [← qqE_eq] at h
  have hbw : (match T s with
   | some ti => match offOf ti f with
    | some (off, ft) => match T ft with
     | some tf => match Nat.beq tf.size 0 with | false => ptrAdd st (evO st x) off (fun av => setT st o.dst av K) | true => False
     | none => False
    | none => False
   | none => False) := h
  split at hbw
  ·rename_i ti hti
   split at hbw
   ·rename_i off ft ho
    split at hbw
    ·rename_i tf htf
     split at hbw
     ·rename_i h0
      obtain ⟨fields, hu, fd, hfd, hoff, hty⟩ := off_fits (hT _ _ hti) ho
      have hne : tf.size ≠ 0 := fun h => by rw [h] at h0; simp at h0
      have hrun : ∀ (w : World) (A : Addr), (Instr.fieldAt s (.pointer (some A)) f).run P w = .ok (.pointer (some (A.add off))) w := by
       intro w A
       have hs : (sizeOf fd.type).run P w = .ok tf.size w := by rw [hty]; exact run_size (hT _ _ htf)
       simp only [Instr.fieldAt, Sem.run_bind, run_underlying hu, Result.andThen_ok, hfd, Instr.sureAddr, Sem.run_pure, fieldPlace, hs, if_neg hne, hoff]
      have hA : ∃ A, a.eval x = .pointer (some A) := by
       have hv := evO_rep hr x
       unfold ptrAdd at hbw
       split at hbw
       ·rename_i h1
        rw [h1] at hv
        generalize a.eval x = u at hv
        cases hv with
        | rp A => exact ⟨A, rfl⟩
       ·rename_i h1
        rw [h1] at hv
        exact ⟨_, hv.2⟩
       ·rename_i id ver i j h1
        rw [h1] at hv
        obtain ⟨_, _, _, hv⟩ := hv
        split at hbw
        ·rename_i e sz vr own es hl
         cases hb : Nat.beq vr ver with
         | false => simp only [hb] at hbw
         | true =>
          obtain rfl := beq_iff hb
          obtain ⟨_, B, n, c, _, hv⟩ := hv e sz own es hl
          exact ⟨_, hv⟩
        ·exact hbw.elim
       ·exact hbw.elim
      obtain ⟨A, hA⟩ := hA
      exact ⟨.pointer (some (A.add off)), fun w2 _ => by simp [execOp, hx, hA, hrun]⟩
     ·exact hbw.elim
    ·exact hbw.elim
   ·exact hbw.elim
  ·exact hbw.elim
 ·have hnp : isNep (evO st x) = false := by
   unfold nowB at hnow
   rw [hx] at hnow
   simp only at hnow
   split at hnow
   ·rename_i cs hcs; rw [hcs]; rfl
   ·cases hnow
  unfold opWp at h
  rw [hx] at h
  simp only [hnp] at h
  rw [← qqE_eq] at h
  have hbw : (match T t with | some ti => loadWp st ti (evO st x) (fun av => setT st o.dst av K) | none => False) := h
  unfold nowB at hnow
  rw [hx] at hnow
  simp only at hnow
  split at hnow
  ·rename_i cs hcs
   rw [hcs] at hbw
   split at hbw
   ·rename_i ti hti
    have hf := hT _ _ hti
    have hv := evO_rep hr x
    rw [hcs] at hv
    simp only [loadWp] at hbw
    generalize hu : a.eval x = u at hv
    have hv' : Fz w κ.F u (.rp cs) := hv
    cases hv' with
    | rp A cs val hF hc hs =>
     have hsz : ti.size ≤ cs.length := by
      unfold cellsC at hbw
      split at hbw
      ·split at hbw
       ·rename_i hb; have := Nat.le_of_ble_eq_true hb; simpa using this
       ·exact hbw.elim
      ·split at hbw
       ·rename_i y r heq
        split at hbw
        ·rename_i hb
         have h1 := beq_iff hb
         have := congrArg List.length heq
         simp at this; omega
        ·exact hbw.elim
       ·exact hbw.elim
     refine ⟨if ti.agg then .agg ((List.range ti.size).map val).toArray else ((List.range ti.size).map val).headD undef, fun w2 hw2 => ?_⟩
     have hrun := run_loadVar (P := P) (w := w2) hf A ((List.range ti.size).map val) (by simp) (fun j v hj => by
      simp only [List.getElem?_map, Option.map_eq_some_iff] at hj
      obtain ⟨k, hk, rfl⟩ := hj
      obtain ⟨hlt, rfl⟩ := List.getElem?_eq_some_iff.1 hk
      simp only [List.length_range] at hlt
      simp only [List.getElem_range]
      have hne : cs ≠ [] := by intro e; subst e; simp at hsz; omega
      rw [World.cell?_of_block (w := w) (by rw [add_block]; exact hw2 _ (hF hne).1)]
      exact hc j _ (List.getElem?_eq_getElem (by omega))) (fun hg => hf.one hg)
     simp [execOp, hx, hu, Instr.loadAt, Instr.sureAddr, hrun]
   ·exact hbw.elim
  ·cases hnow
 ·have hisn : (evO st x).isN = false := by
   unfold nowB at hnow
   rw [hx] at hnow
   simp only at hnow
   split at hnow
   ·rename_i q; rw [q]; rfl
   ·rename_i q; rw [q]; rfl
   ·rename_i q; rw [q]; rfl
   ·cases hnow
  unfold opWp at h
  rw [hx] at h
  simp only [hisn] at h
  rw [← qqE_eq] at h
  have hbw : indexWp T st t (evO st x) (evO st y) (fun av => setT st o.dst av K) := h
  unfold nowB at hnow
  rw [hx] at hnow
  simp only at hnow
  have hvx := evO_rep hr x
  have hvy := evO_rep hr y
  unfold indexWp at hbw
  split at hbw
  ·rename_i ti kn n hti hyn
   rw [hyn] at hvy
   generalize hyv : a.eval y = vy at hvy
   have hvy' : Fz w κ.F vy (.int kn n) := hvy
   cases hvy'
   have hk := (hT _ _ hti).k
   split at hbw
   ·rename_i e sz es hke hxs
    rw [hke] at hk
    rw [hxs] at hvx
    split at hbw
    ·rename_i te hte
     split at hbw
     ·obtain ⟨⟨h0, hlt⟩, _⟩ := hbw
      generalize hxv : a.eval x = vx at hvx
      have hvx' : Fz w κ.F vx (.sl sz es) := hvx
      cases hvx' with
      | sl A len cap _ _ val hl hc he ha hrd hs =>
       have hne : es ≠ [] := by intro q; subst q; simp at hlt; omega
       obtain ⟨A', rfl, _, _⟩ := ha hne
       have hlt2 : n < (len : Int) := by rw [hl]; exact hlt
       exact ⟨.pointer (some (A'.add (n.toNat * te.size))), fun w2 _ => by simp only [execOp, hx, hxv, hyv, Sem.run_bind, run_index_slice (cap := cap) (k := kn) hk (hT _ _ hte) h0 hlt2 w2, Result.andThen_ok, Sem.run_pure]⟩
     ·exact hbw.elim
    ·exact hbw.elim
   ·rename_i e id ver s hke hxs
    rw [hke] at hk
    rw [hxs] at hvx
    split at hbw
    ·rename_i te e0 sz v0 ow es hte hl
     split at hbw
     ·rename_i hb1 hb2
      obtain rfl := beq_iff hb2
      obtain ⟨⟨h0, hlt⟩, _⟩ := hbw
      obtain ⟨_, _, _, hv4⟩ := hvx
      obtain ⟨hle, ba, bn, bc, a', c', hv, hxv, hc', ha', _⟩ := hv4 _ _ _ _ hl
      have hlen0 : lenR es s ≠ 0 := by omega
      obtain ⟨xs, ho⟩ := (hr.ents id _ hl).row
      rcases ho.2 with ⟨h1, h2⟩ | ⟨g, cap, cur, h1, _⟩
      ·omega
      ·rw [hv] at h1
       obtain ⟨rfl, rfl, rfl⟩ : ba = some ⟨g, 0, none⟩ ∧ bn = es.length ∧ bc = cap := by simpa using h1
       obtain rfl := ha' hlen0
       exact ⟨.pointer (some (((⟨g, 0, none⟩ : Addr).add (offR s * sz)).add (n.toNat * te.size))), fun w2 _ => by simp only [execOp, hx, hxv, hyv, Option.map_some, Sem.run_bind, run_index_slice (cap := c') (k := kn) hk (hT _ _ hte) h0 hlt w2, Result.andThen_ok, Sem.run_pure]⟩
     ·exact hbw.elim
    ·exact hbw.elim
   ·rename_i m e id o hke hxs
    rw [hke] at hk
    rw [hxs] at hvx
    split at hbw
    ·rename_i te hte
     obtain ⟨⟨h0, hlt⟩, _⟩ := hbw
     obtain ⟨_, hxv⟩ := hvx
     exact ⟨.pointer (some ((⟨κ.bl id, o, none⟩ : Addr).add (n.toNat * te.size))), fun w2 _ => by simp only [execOp, hx, hxv, hyv, Sem.run_bind, run_index_arr (k := kn) hk (hT _ _ hte) h0 hlt w2, Result.andThen_ok, Sem.run_pure]⟩
    ·exact hbw.elim
   ·rename_i hxs; rw [hxs] at hnow; cases hnow
   ·exact hbw.elim
  ·exact hbw.elim
theorem withG_spec {o' : Oper} {xs : List Operand} (h : withG ops.toList o' = some xs) : (∀ cs b, o'.op ≠ .select cs b) ∧ ∀ t, t ∈ o'.looksAt ops → Operand.tmp t ∈ xs := by
 unfold withG at h
 split at h
 ·rename_i ys hy
  obtain ⟨s1, s2⟩ := opsL_spec hy
  refine ⟨s2, fun t ht => ?_⟩
  unfold Oper.looksAt at ht
  rw [List.mem_append] at ht
  have base : t ∈ (o'.op.operands.toList.filterMap fun | .tmp t => some t | _ => none) → Operand.tmp t ∈ ys := fun ht => by
   simp only [List.mem_filterMap] at ht
   obtain ⟨y, hy, he⟩ := ht
   cases y with
   | tmp t' => simp at he; subst he; exact (s1 _).1 (by simpa using hy)
   | _ => simp at he
  split at h
  ·rename_i hg
   cases h
   rw [hg] at ht
   rcases ht with ht | ht
   ·exact base ht
   ·cases ht
  ·rename_i g want hg
   rw [hg] at ht
   simp only [Array.getElem?_toList] at h
   cases hog : ops[g]? with
   | none =>
    simp only [hog] at h ht
    cases h
    rcases ht with ht | ht
    ·exact base ht
    ·simp at ht
   | some og =>
    simp only [hog] at h ht
    cases hod : og.dst with
    | none =>
     simp only [hod] at h
     cases h
     rcases ht with ht | ht
     ·exact base ht
     ·simp [hod] at ht
    | some d =>
     simp only [hod] at h
     cases h
     rcases ht with ht | ht
     ·exact List.mem_cons_of_mem _ (base ht)
     ·simp [hod] at ht
      subst ht
      exact List.mem_cons_self
 ·cases h
theorem earlyB_spec {i : Nat} (h : earlyB ops.toList i = true) : ∃ o d, ops[i]? = some o ∧ (∀ cs b, o.op ≠ .select cs b) ∧ o.dst = some d ∧
  ∀ j o', j ≠ i → ops[j]? = some o' → o'.dst ≠ some d ∧ (d ∈ o'.looksAt ops → ∃ e ∈ o'.after, Region.binds .any e = true ∧ e.on = i) ∧ (∀ s, o'.dst = some s → s ∈ o.looksAt ops → (∃ e ∈ o.after, Region.binds .any e = true ∧ e.on = j) ∨ trB ops.toList 16 j i = true) ∧ ∀ cs b, o'.op ≠ .select cs b := by
 unfold earlyB at h
 split at h
 ·rename_i o ho
  split at h
  ·cases h
  split at h
  ·rename_i x d h1 h2
   obtain ⟨hse, lookO⟩ := withG_spec h1
   refine ⟨o, d, by rw [← Array.getElem?_toList]; exact ho, hse, h2, fun j o' hji hj => ?_⟩
   have hj' : ops.toList[j]? = some o' := by rw [Array.getElem?_toList]; exact hj
   have hb := mindL_spec h hj' (by omega)
   rw [Nat.zero_add] at hb
   unfold mindB at hb
   split at hb
   ·rename_i xs hx
    simp only [Bool.and_eq_true] at hb
    obtain ⟨c1, c2⟩ := hb
    have anyE' : ∀ {af : List Edge} {k : Nat}, anyEdge (fun e => match bindsB e with | true => Nat.beq e.on k | false => false) af = true → ∃ e ∈ af, Region.binds .any e = true ∧ e.on = k := fun {af k} ha => by
     obtain ⟨e, he, hb⟩ := anyEdge_iff.1 ha
     cases hbb : bindsB e with
     | false => simp [hbb] at hb
     | true => exact ⟨e, he, by rw [bindsB_eq, hbb], beq_iff (by simpa [hbb] using hb)⟩
    obtain ⟨s2, look'⟩ := withG_spec hx
    refine ⟨fun hd => ?_, fun hin => ?_, fun s hs hin => ?_, s2⟩
    ·simp only [hd] at c1
     have : Nat.beq d d = true := by simp
     simp [this] at c1
    ·have := hasT_iff.2 (look' d hin)
     simp only [this] at c2
     obtain ⟨e, he, q⟩ := anyE' c2
     exact ⟨e, by simpa using he, q⟩
    ·have hx := lookO s hin
     simp only [hs] at c1
     cases hbs : Nat.beq s d with
     | true => simp [hbs] at c1
     | false =>
      have ht : hasT s x = true := hasT_iff.2 hx
      simp only [hbs, ht] at c1
      split at c1
      ·rename_i hae
       obtain ⟨e, he, q⟩ := anyE' hae
       exact .inl ⟨e, by simpa using he, q⟩
      ·exact .inr c1
   ·cases hb
  ·cases h
 ·cases h
def firstB (p : Nat → Bool) : List Nat → Option Nat
 | [] => none
 | i :: r => match p i with | true => some i | false => firstB p r
theorem firstB_spec {p : Nat → Bool} : ∀ {l : List Nat} {i : Nat}, firstB p l = some i → p i = true ∧ i ∈ l
 | k :: r, i, h => by
  simp only [firstB] at h
  split at h
  ·cases h; exact ⟨‹_›, by simp⟩
  ·have := firstB_spec h; exact ⟨this.1, by simp [this.2]⟩
def eachP (f : Nat → Prop) : List Nat → Prop
 | [] => True
 | [i] => f i
 | i :: r => f i ∧ eachP f r
theorem eachP_spec {f : Nat → Prop} : ∀ {l : List Nat}, eachP f l → ∀ i ∈ l, f i
 | [k], h, i, hi => by simp at hi; subst hi; exact h
 | k :: k' :: r, h, i, hi => by
  rcases List.mem_cons.1 hi with rfl | hi
  ·exact h.1
  ·exact eachP_spec h.2 i hi
def nowP (st : St) (o : Oper) : Bool := match pureL o.op with | some _ => nowB st o | none => false
def nowG (ops : List Oper) (st : St) (o : Oper) : Bool :=
 match o.guard with
 | none => nowP st o
 | some (j, want) => match guardOf ops st j with
  | some (some b) => (match b with
   | true => (match want with | true => nowP st o | false => true)
   | false => (match want with | true => true | false => nowP st o))
  | some none => true
  | none => false
def earlyNow (ops : List Oper) (st : St) (i : Nat) : Bool :=
 match earlyB ops i with
 | true => (match ops[i]? with | some o => nowG ops st o | none => false)
 | false => false
def gStep (P : Program) (T : TypeId → Option TI) (ops : List Oper) (st : St) (o : Oper) (K : St → Prop) : Prop :=
 match o.guard with
 | none => opWp P T st o K
 | some (j, want) => match guardOf ops st j with
  | some (some b) => (match b with
   | true => (match want with | true => opWp P T st o K | false => setT st o.dst (.tup []) K)
   | false => (match want with | true => setT st o.dst (.tup []) K | false => opWp P T st o K))
  | some none => setT st o.dst (.tup []) K
  | none => False
def anyE (P : Program) (T : TypeId → Option TI) (ops : List Oper) (K : St → Prop) : Nat → List Nat → St → Prop
 | 0, done, st => match rdy done ops 0 with | [] => K st | _ => False
 | fuel + 1, done, st => match rdy done ops 0 with
  | [] => K st
  | l => match firstB (earlyNow ops st) l with
   | some i => (match ops[i]? with
    | some o => gStep P T ops st o (anyE P T ops K fuel (i :: done))
    | none => False)
   | none => eachP (fun i => match ops[i]? with
    | some o => gStep P T ops st o (anyE P T ops K fuel (i :: done))
    | none => False) l
def Listed (ops : Array Oper) (done : List Nat) (listed : Array Bool) : Prop := listed.size = ops.size ∧ ∀ i, i < ops.size → listed[i]? = some (memN done i)
theorem Listed.set {done : List Nat} {listed : Array Bool} (h : Listed ops done listed) (i : Nat) : Listed ops (i :: done) (listed.setIfInBounds i true) := by
 refine ⟨by simp [h.1], fun k hk => ?_⟩
 simp only [Array.getElem?_setIfInBounds, memN]
 by_cases hik : i = k
 ·subst hik
  have : i < listed.size := by rw [h.1]; exact hk
  have hb : Nat.beq i i = true := by simp
  simp [this, hb]
 ·have hb : Nat.beq i k = false := by cases hb : Nat.beq i k with | true => exact absurd (beq_iff hb) hik | false => rfl
  simp only [hik, if_false, hb]
  exact h.2 k hk
theorem Listed.ready {done : List Nat} {listed : Array Bool} (h : Listed ops done listed) (hon : ∀ (j : Nat) (o : Oper), ops[j]? = some o → ∀ e ∈ o.after, e.on < ops.size) (j : Nat) : j ∈ Region.ready .any ops listed ↔ j ∈ rdy done ops.toList 0 := by
 rw [mem_ready, mem_rdy]
 simp only [Nat.zero_le, Nat.sub_zero, true_and, Array.getElem?_toList]
 have hg : ∀ k, k < ops.size → ∀ b, listed.getD k b = memN done k := fun k hk b => by simp [Array.getD_eq_getD_getElem?, h.2 k hk]
 constructor
 ·rintro ⟨h1, o, h2, h3⟩
  have hj := (Array.getElem?_eq_some_iff.1 h2).1
  refine ⟨by rw [← hg j hj]; exact h1, o, h2, fun e he hb => ?_⟩
  rw [← hg e.on (hon j o h2 e he)]
  exact h3 e he (by rw [bindsB_eq, hb])
 ·rintro ⟨h1, o, h2, h3⟩
  have hj := (Array.getElem?_eq_some_iff.1 h2).1
  refine ⟨by rw [hg j hj]; exact h1, o, h2, fun e he hb => ?_⟩
  rw [hg e.on (hon j o h2 e he)]
  exact h3 e he (by rw [← bindsB_eq, hb])
def ownB (κ : Con) (h : List (Nat × Ent)) (b : Nat) : Prop := ∃ id e, look h id = some e ∧ e.own = true ∧ e.has κ id b
theorem RepK.rebase (h : RepK F0 L w0 st a w κ) : RepK κ.F (ownB κ st.h) w st a w κ where
 below := Bel.refl _ _
 f0 := fun _ h => h
 f1 := fun _ h => .inl h
 f2 := h.f2
 ents := h.ents
 new := h.new
 excl := fun id e b hl hb => ⟨fun ho => .inr ⟨id, e, hl, ho, hb⟩, (h.excl id e b hl hb).2⟩
 inj := h.inj
 tmps := h.tmps
 size := h.size
 dfs := h.dfs
 kn := h.kn
 kv := h.kv
theorem RepK.back {st' : St} {a' : Act} (h : RepK F0 L w0 st a w κ) (h' : RepK κ.F (ownB κ st.h) w st' a' w' κ') : RepK F0 L w0 st' a' w' κ' where
 below := h.below.step h'.below.os h'.below.tape h'.below.output h'.below.size fun k hk hL => h'.below.block k (Nat.lt_of_lt_of_le hk h.below.size) fun ⟨id, e, q1, q2, q3⟩ => by
  rcases (h.excl id e k q1 q3).1 q2 with q | q
  ·omega
  ·exact hL q
 f0 := fun b hb => h'.f0 b (h.f0 b hb)
 f1 := fun b hb => by
  rcases h'.f1 b hb with q | q | ⟨id, e, q1, q2, q3⟩
  ·exact h.f1 b q
  ·exact .inr (.inl (Nat.le_trans h.below.size q))
  ·exact .inr ((h.excl id e b q1 q3).1 q2)
 f2 := h'.f2
 ents := h'.ents
 new := h'.new
 excl := fun id e b hl hb => ⟨fun ho => by
  rcases (h'.excl id e b hl hb).1 ho with q | ⟨id', e', q1, q2, q3⟩
  ·exact .inl (Nat.le_trans h.below.size q)
  ·exact (h.excl id' e' b q1 q3).1 q2, (h'.excl id e b hl hb).2⟩
 inj := h'.inj
 tmps := h'.tmps
 size := h'.size
 dfs := h'.dfs
 kn := h'.kn
 kv := h'.kv
theorem OpTri.keep {o : Oper} {K : St → Prop} (h : OpTri P o st K) (hr : RepK F0 L w0 st a w κ) {next : Act → World → Prop} {Q : Exit → Act → World → Prop}
  (hn : ∀ st' a' w' κ', K st' → RepK F0 L w0 st' a' w' κ' → (∀ b, κ.F b → κ'.F b) → stepI κ.F w w' → next a' w') : o.wp P a w next Q :=
 h κ.F (ownB κ st.h) w a w ⟨κ, hr.rebase⟩ next Q fun st' a' w' hK ⟨κ', hr'⟩ => hn st' a' w' κ' hK (hr.back hr') hr'.f0 fun b hb => hr'.below.block b (hr.f2 b hb) fun ⟨id, e, q1, q2, q3⟩ => (hr.excl id e b q1 q3).2.1 q2 hb
theorem earlyNow_spec {st : St} {i : Nat} (h : earlyNow ops.toList st i = true) : earlyB ops.toList i = true ∧ ∀ o, ops[i]? = some o → nowG ops.toList st o = true := by
 unfold earlyNow at h
 split at h
 ·rename_i hb
  refine ⟨hb, fun o ho => ?_⟩
  have ho' : ops.toList[i]? = some o := by rw [Array.getElem?_toList]; exact ho
  simp only [ho'] at h
  exact h
 ·cases h
theorem gStep_sound (hT : TOk P T) {o : Oper} {K : St → Prop} (h : gStep P T ops.toList st o K) (hr : RepK F0 L w0 st a w κ) {next : Act → World → Prop} {Q : Exit → Act → World → Prop}
  (hn : ∀ st' a' w' κ', K st' → RepK F0 L w0 st' a' w' κ' → (∀ b, κ.F b → κ'.F b) → stepI κ.F w w' → next a' w') :
  if Region.wanted o (yielded ops a.tmps) then o.wp P a w next Q ∨ (o.asks P a w ∧ LetsOut Q) else next (a.put o.dst undef) w := by
 have hskip : setT st o.dst (.tup []) K → next (a.put o.dst undef) w := fun h => by
  obtain ⟨st', hK, hr'⟩ := put_skip hr h
  exact hn st' _ w κ hK hr' (fun _ hb => hb) (fun _ _ => rfl)
 have hop : opWp P T st o K → o.wp P a w next Q := fun h => (op_sound hT h).keep hr hn
 unfold gStep at h
 split at h
 ·rename_i hg
  simp only [Region.wanted, hg, if_true]
  exact .inl (hop h)
 ·rename_i j want hg
  split at h
  ·rename_i b hgd
   have hy := guard_sound hr hgd
   simp only [Region.wanted, hg, hy]
   cases b with
   | true =>
    cases want with
    | true =>
     simp only [beq_self_eq_true, if_true]
     exact .inl (hop h)
    | false =>
     have hne : (some true == some false) = false := rfl
     simp only [hne, Bool.false_eq_true, if_false]
     exact hskip h
   | false =>
    cases want with
    | true =>
     have hne : (some false == some true) = false := rfl
     simp only [hne, Bool.false_eq_true, if_false]
     exact hskip h
    | false =>
     simp only [beq_self_eq_true, if_true]
     exact .inl (hop h)
  ·rename_i hgd
   have hy := guard_sound hr hgd
   have hne : ((none : Option Bool) == some want) = false := rfl
   simp only [Region.wanted, hg, hy, hne, Bool.false_eq_true, if_false]
   exact hskip h
  ·exact h.elim
theorem nowG_spec {o : Oper} {K : St → Prop} (h : gStep P T ops.toList st o K) (hr : RepK F0 L w0 st a w κ) (hn : nowG ops.toList st o = true) :
  (Region.wanted o (yielded ops a.tmps) = true ∧ nowP st o = true ∧ opWp P T st o K) ∨ (Region.wanted o (yielded ops a.tmps) = false ∧ setT st o.dst (.tup []) K) := by
 unfold gStep at h
 unfold nowG at hn
 cases hg : o.guard with
 | none =>
  simp only [hg] at h hn
  exact .inl ⟨by simp only [Region.wanted, hg], hn, h⟩
 | some gw =>
  obtain ⟨j, want⟩ := gw
  simp only [hg] at h hn
  cases hgd : guardOf ops.toList st j with
  | none => simp only [hgd] at h
  | some r =>
   have hy := guard_sound hr hgd
   simp only [Region.wanted, hg, hy]
   cases r with
   | none =>
    simp only [hgd] at h
    exact .inr ⟨rfl, h⟩
   | some b =>
    simp only [hgd] at h hn
    cases b <;> cases want <;> simp only at h hn
    ·exact .inl ⟨rfl, hn, h⟩
    ·exact .inr ⟨rfl, h⟩
    ·exact .inr ⟨rfl, h⟩
    ·exact .inl ⟨rfl, hn, h⟩
theorem anyE_sound (hT : TOk P T) {K : St → Prop} (hon : ∀ (j : Nat) (o : Oper), ops[j]? = some o → ∀ e ∈ o.after, e.on < ops.size) (hQn : ∀ e a w, Q e a w → e = .normal) (hQ : ∀ st' a' w', K st' → Rep F0 L w0 st' a' w' → Q .normal a' w') :
  ∀ (fuel : Nat) (done : List Nat) (listed : Array Bool) (st : St) (a : Act) (w : World) (κ : Con) (F : Nat → Prop), Shut ops listed → Listed ops done listed → anyE P T ops.toList K fuel done st → RepK F0 L w0 st a w κ → (∀ b, F b → κ.F b) → wpAnyI P ops Q F fuel listed a w
 | 0, done, listed, st, a, w, κ, F, hsh, hl, h, hr, hF => by
  unfold anyE at h
  split at h
  ·rename_i h0
   refine ⟨?_, hQ st a w h ⟨κ, hr⟩⟩
   apply List.eq_nil_iff_forall_not_mem.2
   intro j hj
   have := (hl.ready hon j).1 hj
   rw [h0] at this; cases this
  ·exact h.elim
 | fuel + 1, done, listed, st, a, w, κ, F, hsh, hl, h, hr, hF => by
  unfold anyE at h
  split at h
  ·rename_i h0
   refine ⟨fun _ => hQ st a w h ⟨κ, hr⟩, fun i hi => ?_⟩
   have := (hl.ready hon i).1 hi
   rw [h0] at this; cases this
  ·rename_i l hl0
   split at h
   ·rename_i i hf
    obtain ⟨hb0, him⟩ := firstB_spec hf
    obtain ⟨hb, hnow⟩ := earlyNow_spec hb0
    obtain ⟨o, d, hi, h1, h2, h4⟩ := earlyB_spec hb
    have hi' : ops.toList[i]? = some o := by rw [Array.getElem?_toList]; exact hi
    simp only [hi'] at h
    obtain ⟨r1, o2, r2, r3⟩ := mem_ready.1 ((hl.ready hon i).2 him)
    rw [hi] at r2; cases r2
    rcases nowG_spec h hr (hnow o hi) with ⟨hwn, hnp, h⟩ | ⟨hwn, h⟩
    ·obtain ⟨x, hpx⟩ : ∃ x, pureL o.op = some x := by
      unfold nowP at hnp
      split at hnp
      ·rename_i x hx; exact ⟨x, hx⟩
      ·cases hnp
     have hnb : nowB st o = true := by unfold nowP at hnp; rw [hpx] at hnp; exact hnp
     obtain ⟨v, hp⟩ := pure_run hT hpx hnb h hr
     refine wpAnyI_mono hF (early hi h1 h2 h4 hQn κ.F fuel listed a w v (.inl ⟨hwn, hp⟩) hsh r1 r3 ?_)
     have hw := (op_sound hT h).keep hr (Q := Q) (next := fun a' w' => wpAnyI P ops Q κ.F fuel (listed.setIfInBounds i true) a' w') (fun st' a' w' κ' hK hr' hF' _ => anyE_sound hT hon hQn hQ fuel _ _ st' a' w' κ' κ.F (hsh.set hi r3) (hl.set i) hK hr' hF')
     unfold Oper.wp at hw
     rw [hp w (fun _ _ => rfl), Oper.upon_value, h2] at hw
     exact hw
    ·obtain ⟨st', hK, hr'⟩ := put_skip hr h
     refine wpAnyI_mono hF (early hi h1 h2 h4 hQn κ.F fuel listed a w undef (.inr ⟨hwn, rfl⟩) hsh r1 r3 ?_)
     rw [← h2]
     exact anyE_sound hT hon hQn hQ fuel _ _ st' _ w κ κ.F (hsh.set hi r3) (hl.set i) hK hr' (fun _ hb => hb)
   ·refine ⟨fun h0 => ?_, fun i hi => ?_⟩
    ·exfalso
     cases hrd : rdy done ops.toList 0 with
     | nil => exact hl0 hrd
     | cons k r =>
      have : k ∈ Region.ready .any ops listed := (hl.ready hon k).2 (by rw [hrd]; simp)
      rw [h0] at this; cases this
    ·have hi2 := (hl.ready hon i).1 hi
     have hi' := eachP_spec h i hi2
     unfold wpOp
     split at hi'
     ·rename_i o ho
      rw [Array.getElem?_toList] at ho
      simp only [ho]
      obtain ⟨_, o3, g2, g3⟩ := mem_ready.1 hi
      rw [ho] at g2; cases g2
      exact gStep_sound hT hi' hr (fun st' a' w' κ' hK hr' hF' hst => ⟨fun b hb => hst b (hF b hb), anyE_sound hT hon hQn hQ fuel _ _ st' a' w' κ' F (hsh.set ho g3) (hl.set i) hK hr' (fun b hb => hF' b (hF b hb))⟩)
     ·exact hi'.elim
def onB (n : Nat) : List Oper → Bool
 | [] => true
 | o :: r => allE (fun e => Nat.blt e.on n) o.after.toList && onB n r
theorem tri_each (hT : TOk P T) (hm : P.follows .mixedOrders = true) {id : Nat} {Q : Exit → St → Prop} (keep : List Nat) (stM : St) (hB : onB ops.toList.length ops.toList = true)
  (h : anyE P T ops.toList (fun st' => canonQ keep st' stM) ops.toList.length [] st) (hQ : Q .normal stM) : Tri P (.region id ops true) st Q := by
 intro F0 L w0 a w ⟨κ, hr⟩
 refine wp_mono (wp_region_any (Q := fun ex a' w' => ex = .normal ∧ Rep F0 L w0 stM a' w') hm ?_) fun ex a' w' ⟨he, hr'⟩ => ⟨stM, by subst he; exact hQ, hr'⟩
 have hon : ∀ (j : Nat) (o : Oper), ops[j]? = some o → ∀ e ∈ o.after, e.on < ops.size := fun j o hj e he => by
  have key : ∀ (l : List Oper), onB ops.size l = true → o ∈ l → e.on < ops.size := fun l => by
   induction l with
   | nil => intro _ h; cases h
   | cons o' r ih =>
    intro hb hm
    simp only [onB, Bool.and_eq_true] at hb
    rcases List.mem_cons.1 hm with rfl | hm
    ·simpa using allE_iff.1 hb.1 e (by simpa using he)
    ·exact ih hb.2 hm
  rw [Array.length_toList] at hB
  exact key _ hB (List.mem_of_getElem? (by rw [Array.getElem?_toList]; exact hj))
 rw [Array.length_toList] at h
 exact wpAnyI_any (anyE_sound hT hon (fun e a w h => h.1) (fun st' a' w' hK hr' => ⟨rfl, canonQ_spec hK hr'⟩) _ _ _ st a _ κ (fun _ => False) (fun j o hj hl => by have hlt := (Array.getElem?_eq_some_iff.1 hj).1; simp [Array.getD_eq_getD_getElem?, hlt] at hl) ⟨by simp, fun i hi => by simp [memN, hi]⟩ h (hr.grew (Grew.drew w)) (fun _ f => f.elim))
end
end Go.H
