/- Framework H, part 17: operations of every kind, regions, code. -/
import Derived.Test.YtdolkacinfjhcaaGreatH16h
set_option linter.unusedSimpArgs false
set_option linter.unusedVariables false
set_option linter.constructorNameAsVariable false
namespace Go.H
open Go.RowKit
def opWp (P : Program) (T : TypeId → Option TI) (st : St) (o : Oper) (K : St → Prop) : Prop :=
 match o.op with
 | .box ty x => match avCells (evO st x) with | some cs => boxE st ty cs o.dst K | none => False
 | .alloc ty => match T ty with | some ti => boxE st ty ti.zero o.dst K | none => False
 | .store t x y => match o.dst with
  | none => match isNep (evO st x) with
   | true => storeNep T st t (evO st x) (evO st y) K
   | false => match nAddr st (evO st x) with
    | true => storeN T st t (evO st x) (evO st y) K
    | false => storeE T st t (evO st x) (evO st y) K
  | some _ => False
 | .makeSlice t x y => match nstOf T t with
  | some tys => makeN T st t tys (evO st x) (evO st y) o.dst K
  | none => makeE T st t (evO st x) (evO st y) o.dst K
 | .buildSlice t len parts => match nstOf T t with
  | some tys => litN T st t tys len parts.toList o.dst K
  | none => litE T st t len parts.toList o.dst K
 | .call { callee := .value f, args, argTypes := _ } => match anyN (args.toList.map (evO st)) with
  | true => callN P st (evO st f) (args.toList.map (evO st)) o.dst K
  | false => callE P st (evO st f) (args.toList.map (evO st)) o.dst K
 | .call { callee := .builtin .append, args := ⟨[x, y]⟩, argTypes := ⟨[t, t']⟩ } => match Nat.beq t t' with
  | true => match nstOf T t with
   | some tys => appN T st t tys (evO st x) (evO st y) o.dst K
   | none => match (evO st x).isN with
    | true => appNO T st t x y o.dst K
    | false => match (evO st y).isN with
     | true => appYN T st t (evO st x) (evO st y) o.dst K
     | false => appE T st t (evO st x) (evO st y) o.dst K
  | false => False
 | .load t x => match isNep (evO st x) with
  | true => ldNep T st t (evO st x) o.dst K
  | false => qqE T st (.load t x) fun av => setT st o.dst av K
 | .indexAddr t x i => match (evO st x).isN with
  | true => idxNst T st t (evO st x) (evO st i) o.dst K
  | false => qqE T st (.indexAddr t x i) fun av => setT st o.dst av K
 | .binOp op t x y ty => match nilTest op (evO st y) with
  | some q => nilWp T st t q (evO st x) o.dst K
  | none => qqE T st (.binOp op t x y ty) fun av => setT st o.dst av K
 | op => qqE T st op fun av => setT st o.dst av K
def guardOf (ops : List Oper) (st : St) (j : Nat) : Option (Option Bool) :=
 match ops[j]? with
 | some o => match o.dst with
  | some t => match look st.t t with
   | some (.c (.d (.bool b))) => some (some b)
   | some (.tup _) => some none
   | _ => none
  | none => none
 | none => none
def litB (ops : List Oper) (st : St) (j : Nat) (v : Bool) (K : St → Prop) : Prop :=
 match ops[j]? with
 | some o => match o.dst with
  | some d => match st with | ⟨t, h, n, N⟩ => K ⟨(d, .c (.d (.bool v))) :: t, h, n, N⟩
  | none => K st
 | none => K st
def rgWp (P : Program) (T : TypeId → Option TI) (ops : List Oper) (K : St → Prop) : List Oper → St → Prop
 | [], st => K st
 | o :: r, st => match o.guard with
  | none => opWp P T st o (rgWp P T ops K r)
  | some (j, want) => match guardOf ops st j with
   | some (some b) => match want with
    | true => ifB b (litB ops st j true fun st => opWp P T st o (rgWp P T ops K r)) (litB ops st j false fun st => setT st o.dst (.tup []) (rgWp P T ops K r))
    | false => ifB b (litB ops st j true fun st => setT st o.dst (.tup []) (rgWp P T ops K r)) (litB ops st j false fun st => opWp P T st o (rgWp P T ops K r))
   | some none => setT st o.dst (.tup []) (rgWp P T ops K r)
   | none => False
def wpH (P : Program) (T : TypeId → Option TI) : Code → St → (Exit → St → Prop) → Prop
 | .skip, st, Q => Q .normal st
 | .region _ ops false, st, Q => rgWp P T ops.toList (Q .normal) ops.toList st
 | .region id ops true, st, Q => Tri P (.region id ops true) st Q
 | .seq x y, st, Q => wpH P T x st fun e st' => match e with | .normal => wpH P T y st' Q | e => Q e st'
 | .cond c x y, st, Q => match evO st c with
  | .c (.d (.bool b)) => ifB b (wpH P T x st Q) (wpH P T y st Q)
  | _ => False
 | .block id c, st, Q => wpH P T c st fun e st' => match e with
  | .exit id' => match Nat.beq id' id with | true => Q .normal st' | false => Q (.exit id') st'
  | e => Q e st'
 | .loop c, st, Q => Tri P (.loop c) st Q
 | .exit id, st, Q => Q (.exit id) st
 | .label _, st, Q => Q .normal st
 | .ret, st, Q => Q .ret st
 | _, _, _ => False
section
variable {P : Program} {T : TypeId → Option TI} {F0 L : Nat → Prop} {w0 w w' : World} {st : St} {a : Act} {κ κ' : Con} {hh : List (Nat × Ent)}
theorem op_sound (hT : TOk P T) {o : Oper} {K : St → Prop} (h : opWp P T st o K) : OpTri P o st K := by
 unfold opWp at h
 split at h
 ·rename_i ty x ho; exact box_tri ho (by simp only [boxE_eq]; exact h)
 ·rename_i ty ho; exact alloc_tri hT ho (by simp only [boxE_eq]; exact h)
 ·rename_i t x y ho
  split at h
  ·rename_i hd
   split at h
   ·exact storeNep_tri hT ho hd h
   ·split at h
    ·exact storeN_tri hT ho hd h
    ·exact store_tri hT ho hd (by rw [storeE_eq]; exact h)
  ·exact h.elim
 ·rename_i t x y ho
  split at h
  ·exact makeN_tri hT ho h
  ·exact make_tri hT ho (by rw [makeE_eq]; exact h)
 ·rename_i t len parts ho
  split at h
  ·exact litN_tri hT ho h
  ·exact lit_tri hT ho (by rw [litE_eq]; exact h)
 ·rename_i f args tys ho
  split at h
  ·exact callN_tri ho h
  ·exact call_tri ho (by rw [callE_eq]; exact h)
 ·rename_i x y t t' ho
  split at h
  ·rename_i hb
   obtain rfl := Nat.eq_of_beq_eq_true hb
   split at h
   ·exact appN_tri hT ho h
   ·split at h
    ·exact appNO_tri hT ho h
    ·split at h
     ·exact appYN_tri hT ho h
     ·exact append_tri hT ho (by rw [appE_eq]; exact h)
  ·exact h.elim
 ·rename_i t x ho
  split at h
  ·exact ldNep_tri hT ho h
  ·exact quiet_tri hT (by rw [qqE_eq, ho]; exact h)
 ·rename_i t x i ho
  split at h
  ·exact idxNst_tri hT ho h
  ·exact quiet_tri hT (by rw [qqE_eq, ho]; exact h)
 ·rename_i op t x y ty ho
  split at h
  ·rename_i q hq; exact nil_tri hT ho hq h
  ·exact quiet_tri hT (by rw [qqE_eq, ho]; exact h)
 ·exact quiet_tri hT (by rw [qqE_eq]; exact h)
theorem put_skip (h : RepK F0 L w0 st a w κ) {dst : Option Tmp} {K : St → Prop} (hK : setT st dst (.tup []) K) : ∃ st', K st' ∧ RepK F0 L w0 st' (a.put dst undef) w κ :=
 setT_sound hK h ⟨[], rfl, rfl, fun j x u hj => by simp at hj⟩
theorem guard_sound (h : RepK F0 L w0 st a w κ) {ops : Array Oper} {j : Nat} {r : Option Bool} (hg : guardOf ops.toList st j = some r) : yielded ops a.tmps j = r := by
 unfold guardOf at hg
 split at hg
 ·rename_i o ho
  split at hg
  ·rename_i t ht
   have ho' : ops[j]? = some o := by rw [← Array.getElem?_toList]; exact ho
   split at hg
   ·rename_i b hl
    cases hg
    obtain ⟨v, hv, hr⟩ := h.tmps _ _ hl
    cases hr
    simp [yielded, ho', ht, hv]
   ·rename_i xs hl
    cases hg
    obtain ⟨v, hv, vs, rfl, _⟩ := h.tmps _ _ hl
    simp [yielded, ho', ht, hv]
   ·cases hg
  ·cases hg
 ·cases hg
theorem litB_sound (h : RepK F0 L w0 st a w κ) {ops : List Oper} {j : Nat} {b : Bool} (hg : guardOf ops st j = some (some b)) {K : St → Prop} (hK : litB ops st j b K) : ∃ st', K st' ∧ RepK F0 L w0 st' a w κ := by
 unfold guardOf at hg
 unfold litB at hK
 split at hg
 ·rename_i o ho
  simp only [ho] at hK
  split at hg
  ·rename_i t ht
   simp only [ht] at hK
   split at hg
   ·rename_i b' hl
    cases hg
    cases st
    exact ⟨_, hK, h.reslot hl (fun _ h => h)⟩
   ·cases hg
   ·cases hg
  ·cases hg
 ·cases hg
theorem rg_sound (hT : TOk P T) {ops : Array Oper} {K : St → Prop} {Q : Exit → Act → World → Prop} (hQ : ∀ st' a' w', K st' → Rep F0 L w0 st' a' w' → Q .normal a' w') :
  ∀ (l : List Oper) (k : Nat) (st : St) (a : Act) (w : World), (∀ j, l[j]? = ops[k + j]?) → rgWp P T ops.toList K l st → Rep F0 L w0 st a w → wpOps P ops Q (List.range' k l.length) a w
 | [], k, st, a, w, _, h, hr => hQ st a w h hr
 | o :: l, k, st, a, w, hl, h, hr => by
  have h0 : ops[k]? = some o := by
   have := hl 0
   rw [List.getElem?_cons_zero] at this
   exact this.symm
  have hl' : ∀ j, l[j]? = ops[k + 1 + j]? := fun j => by
   have := hl (j + 1)
   rw [List.getElem?_cons_succ] at this
   rw [this, show k + (j + 1) = k + 1 + j by omega]
  have ih := fun st a w => rg_sound hT hQ l (k + 1) st a w hl'
  simp only [List.length_cons, List.range'_succ, wpOps, h0]
  have hop : ∀ st, opWp P T st o (rgWp P T ops.toList K l) → Rep F0 L w0 st a w → o.wp P a w (wpOps P ops Q (List.range' (k + 1) l.length)) Q := fun st h hr => op_sound hT h F0 L w0 a w hr _ _ (fun st' a' w' hK hr' => ih st' a' w' hK hr')
  have hskip : ∀ st, setT st o.dst (.tup []) (rgWp P T ops.toList K l) → Rep F0 L w0 st a w → wpOps P ops Q (List.range' (k + 1) l.length) (a.put o.dst undef) w := fun st h hr => by
   obtain ⟨κ, hr⟩ := hr
   obtain ⟨st', hK, hr'⟩ := put_skip hr h
   exact ih st' _ w hK ⟨κ, hr'⟩
  unfold rgWp at h
  split at h
  ·rename_i hg
   simp only [Region.wanted, hg, if_true]
   exact .inl (hop st h hr)
  ·rename_i j want hg
   split at h
   ·rename_i b hgd
    obtain ⟨κ, hr'⟩ := hr
    have hy := guard_sound hr' hgd
    simp only [Region.wanted, hg, hy]
    cases want with
    | true =>
     simp only at h
     cases b with
     | true =>
      obtain ⟨st', h1, h2⟩ := litB_sound hr' hgd (by simpa only [ifB] using h)
      simp only [beq_self_eq_true, if_true]
      exact .inl (hop st' h1 ⟨κ, h2⟩)
     | false =>
      obtain ⟨st', h1, h2⟩ := litB_sound hr' hgd (by simpa only [ifB] using h)
      have hne : (some false == some true) = false := rfl
      simp only [hne, Bool.false_eq_true, if_false]
      exact hskip st' h1 ⟨κ, h2⟩
    | false =>
     simp only at h
     cases b with
     | true =>
      obtain ⟨st', h1, h2⟩ := litB_sound hr' hgd (by simpa only [ifB] using h)
      have hne : (some true == some false) = false := rfl
      simp only [hne, Bool.false_eq_true, if_false]
      exact hskip st' h1 ⟨κ, h2⟩
     | false =>
      obtain ⟨st', h1, h2⟩ := litB_sound hr' hgd (by simpa only [ifB] using h)
      simp only [beq_self_eq_true, if_true]
      exact .inl (hop st' h1 ⟨κ, h2⟩)
   ·rename_i hgd
    obtain ⟨κ, hr'⟩ := hr
    have hy := guard_sound hr' hgd
    have hne : ((none : Option Bool) == some want) = false := rfl
    simp only [Region.wanted, hg, hy, hne, Bool.false_eq_true, if_false]
    exact hskip st h ⟨κ, hr'⟩
   ·exact h.elim
theorem Tri.mono {c : Code} {Q Q' : Exit → St → Prop} (h : Tri P c st Q) (hq : ∀ e st', Q e st' → Q' e st') : Tri P c st Q' := fun F0 L w0 a w hr => wp_mono (h F0 L w0 a w hr) fun _ _ _ ⟨st', h1, h2⟩ => ⟨st', hq _ _ h1, h2⟩
theorem wpH_sound (hT : TOk P T) : ∀ (c : Code) (st : St) (Q : Exit → St → Prop), wpH P T c st Q → Tri P c st Q
 | .skip, st, Q, h => fun F0 L w0 a w hr => wp_skip ⟨st, h, hr⟩
 | .label _, st, Q, h => fun F0 L w0 a w hr => wp_label ⟨st, h, hr⟩
 | .ret, st, Q, h => fun F0 L w0 a w hr => wp_ret ⟨st, h, hr⟩
 | .exit id, st, Q, h => fun F0 L w0 a w hr => wp_exit ⟨st, h, hr⟩
 | .region id ops false, st, Q, h => fun F0 L w0 a w hr => wp_region (by
   rw [List.range_eq_range']
   have := rg_sound (F0 := F0) (L := L) (w0 := w0) hT (ops := ops) (K := Q .normal) (Q := fun ex a' w' => ∃ st', Q ex st' ∧ Rep F0 L w0 st' a' w') (fun st' a' w' hK hr' => ⟨st', hK, hr'⟩) ops.toList 0 st a w (fun j => by rw [Nat.zero_add, Array.getElem?_toList]) h hr
   rw [Array.length_toList] at this
   exact this)
 | .region id ops true, st, Q, h => h
 | .loop c, st, Q, h => h
 | .seq x y, st, Q, h => fun F0 L w0 a w hr => wp_seq (wp_mono (wpH_sound hT x st _ h F0 L w0 a w hr) fun e a' w' ⟨st', h1, h2⟩ => by
   cases e with
   | normal => exact wpH_sound hT y st' Q h1 F0 L w0 a' w' h2
   | exit => exact ⟨st', h1, h2⟩
   | goto => exact ⟨st', h1, h2⟩
   | ret => exact ⟨st', h1, h2⟩
   | panic => exact ⟨st', h1, h2⟩
   | outgrown => exact ⟨st', h1, h2⟩)
 | .cond c x y, st, Q, h => fun F0 L w0 a w hr => by
   simp only [wpH] at h
   split at h
   ·rename_i b hc
    obtain ⟨κ, hr'⟩ := hr
    have hv := evO_rep hr' c
    rw [hc] at hv
    have hb : a.eval c = .bool b := by
     generalize a.eval c = v at hv
     cases hv; rfl
    exact wp_cond_split hb (fun ht => wpH_sound hT x st Q (ifB_t h ht) F0 L w0 a w ⟨κ, hr'⟩) (fun hf => wpH_sound hT y st Q (ifB_f h hf) F0 L w0 a w ⟨κ, hr'⟩)
   ·exact h.elim
 | .block id c, st, Q, h => fun F0 L w0 a w hr => wp_block (wp_mono (wpH_sound hT c st _ h F0 L w0 a w hr) fun e a' w' ⟨st', h1, h2⟩ => by
   cases e with
   | normal => exact ⟨st', h1, h2⟩
   | exit id' =>
    simp only [Exit.inBlock]
    cases hb : Nat.beq id' id with
    | true =>
     simp only [hb] at h1
     rw [if_pos (Nat.eq_of_beq_eq_true hb)]
     exact ⟨st', h1, h2⟩
    | false =>
     simp only [hb] at h1
     rw [if_neg (fun e => by rw [e] at hb; simp at hb)]
     exact ⟨st', h1, h2⟩
   | goto => exact ⟨st', h1, h2⟩
   | ret => exact ⟨st', h1, h2⟩
   | panic => exact ⟨st', h1, h2⟩
   | outgrown => exact ⟨st', h1, h2⟩)
 | .rangeFunc .., st, Q, h => h.elim
 | .scope _, st, Q, h => h.elim
 | .goto _, st, Q, h => h.elim
 | .refuse _, st, Q, h => h.elim
end
end Go.H
namespace Go.H
open Go.RowKit
def CV.settle (h : List (Nat × Ent)) : CV → CV
 | .ref id ver s => match look h id with
  | some (.arr _ sz v .frz es) => match Nat.beq v ver with | true => .d (.sl sz (partOf es s)) | false => .u
  | _ => .ref id ver s
 | x => x
def AV.settle (h : List (Nat × Ent)) : AV → AV
 | .c x => .c (x.settle h)
 | .agg cs => .agg (cs.map (CV.settle h))
 | .tup xs => .tup (xs.map fun x => (x.1, x.2.map (CV.settle h)))
 | .w x v => .w (x.settle h) v
 | .u => .u
def Ent.settle (h : List (Nat × Ent)) : Ent → Ent
 | .box ty cs => .box ty (cs.map (CV.settle h))
 | e => e
def St.settle (st : St) : St := { st with t := st.t.map fun p => (p.1, p.2.settle st.h), h := st.h.map fun p => (p.1, p.2.settle st.h) }
def addId (m : List (Nat × Nat)) (id : Nat) : List (Nat × Nat) := match look m id with | some _ => m | none => m ++ [(id, m.length)]
def reachC (h : List (Nat × Ent)) : Nat → List (Nat × Nat) → CV → List (Nat × Nat)
 | 0, m, _ => m
 | k + 1, m, x => match x with
  | .ref id ver _ => match look h id with
   | some (.arr _ _ v _ _) => match Nat.beq v ver with | true => addId m id | false => m
   | _ => m
  | .ptr id _ => match look m id with
   | some _ => m
   | none => match look h id with
    | some (.box _ cs) => cs.foldl (reachC h k) (addId m id)
    | _ => m
  | .fn _ caps => (caps.map fun p => CV.ptr p.1 p.2).foldl (reachC h k) m
  | _ => m
def AV.cvs : AV → List CV
 | .c x => [x]
 | .agg cs => cs
 | .tup xs => xs.flatMap (·.2)
 | .w x _ => [x]
 | .u => []
def reachT (h : List (Nat × Ent)) (t : List (Nat × AV)) : List Nat → List (Nat × Nat) → List (Nat × Nat)
 | [], m => m
 | k :: r, m => match look t k with
  | some av => reachT h t r (av.cvs.foldl (reachC h 12) m)
  | none => reachT h t r m
section
variable {P : Program} {T : TypeId → Option TI} {F0 L : Nat → Prop} {w0 w w' : World} {st : St} {a : Act} {κ κ' : Con} {hh : List (Nat × Ent)}
theorem CVRep.settle (h : RepK F0 L w0 st a w κ) {x : CV} {v : Value} (hv : CVRep w κ st.h x v) : CVRep w κ (st.h.map fun p => (p.1, p.2.settle st.h)) (x.settle st.h) v := by
 have hone := CVRep.one hv
 have hrow : ∀ id e sz ver own es, look (st.h.map fun p => (p.1, p.2.settle st.h)) id = some (.arr e sz ver own es) → look st.h id = some (.arr e sz ver own es) := fun id e sz ver own es hl => by
  rw [look_map (Ent.settle st.h)] at hl
  simp only [Option.map_eq_some_iff] at hl
  obtain ⟨y, h1, h2⟩ := hl
  cases y with
  | box => simp [Ent.settle] at h2
  | arr => simp only [Ent.settle] at h2; rw [h1, h2]
 cases x with
 | ref id ver s =>
  have hkeep : CVRep w κ (st.h.map fun p => (p.1, p.2.settle st.h)) (.ref id ver s) v := by
   obtain ⟨h1, h2, h3, h4⟩ := hv
   exact ⟨h1, h2, h3, fun e sz own es hl => h4 e sz own es (hrow _ _ _ _ _ _ hl)⟩
  simp only [CV.settle]
  split
  ·rename_i e sz vv es hl
   split
   ·rename_i hb
    obtain rfl := beq_iff hb
    refine Fz.keep (fun _ _ => rfl) (fun b hb => ?_) (ref_fz h hl hv)
    rcases hb with hb | hb
    ·exact hb
    ·exact (h.excl id _ b hl hb).2.2 rfl
   ·exact hone
  ·exact hkeep
 | ep id ver i j =>
  obtain ⟨h1, h2, h3, h4⟩ := hv
  exact ⟨h1, h2, h3, fun e sz own es hl => h4 e sz own es (hrow _ _ _ _ _ _ hl)⟩
 | _ => exact hv
theorem CVs.settle (h : RepK F0 L w0 st a w κ) {cs : List CV} {vs : List Value} (hv : CVs w κ st.h cs vs) : CVs w κ (st.h.map fun p => (p.1, p.2.settle st.h)) (cs.map (CV.settle st.h)) vs := by
 refine ⟨by simp [hv.1], fun j c u hc hu => ?_⟩
 simp only [List.getElem?_map, Option.map_eq_some_iff] at hc
 obtain ⟨c0, h0, rfl⟩ := hc
 exact (hv.2 j c0 u h0 hu).settle h
theorem AVRep.settle (h : RepK F0 L w0 st a w κ) {x : AV} {v : Value} (hv : AVRep w κ st.h x v) : AVRep w κ (st.h.map fun p => (p.1, p.2.settle st.h)) (x.settle st.h) v := by
 cases x with
 | c x => exact CVRep.settle h hv
 | agg cs => obtain ⟨vs, q, hv⟩ := hv; exact ⟨vs, q, hv.settle h⟩
 | tup xs =>
  obtain ⟨vs, q, hl, hv⟩ := hv
  refine ⟨vs, q, by simp [hl], fun j x v hj hu => ?_⟩
  simp only [List.getElem?_map, Option.map_eq_some_iff] at hj
  obtain ⟨x0, h0, rfl⟩ := hj
  have := hv j x0 v h0 hu
  unfold TVRep at *
  split at this
  ·rename_i hb
   simp only [hb]
   obtain ⟨us, q, hus⟩ := this; exact ⟨us, q, hus.settle h⟩
  ·rename_i hb
   simp only [hb]
   exact this.settle h
 | w x u => exact ⟨hv.1, CVRep.settle h hv.2⟩
 | u => trivial
theorem RepK.settle (h : RepK F0 L w0 st a w κ) : RepK F0 L w0 st.settle a w κ := by
 have hold : ∀ id e, look st.settle.h id = some e → ∃ y, look st.h id = some y ∧ e = y.settle st.h := fun id e hl => by
  simp only [St.settle] at hl
  rw [look_map (Ent.settle st.h)] at hl
  simp only [Option.map_eq_some_iff] at hl
  obtain ⟨y, h1, h2⟩ := hl
  exact ⟨y, h1, h2.symm⟩
 have hblk : ∀ (e : Ent) (k b : Nat), (e.settle st.h).has κ k b = e.has κ k b := fun e k b => by cases e <;> rfl
 have hown : ∀ (e : Ent), (e.settle st.h).own = e.own := fun e => by cases e <;> rfl
 refine { below := h.below, f0 := h.f0, f1 := h.f1, f2 := h.f2, size := h.size, dfs := h.dfs, kn := h.kn, ents := ?_, new := ?_, excl := ?_, inj := ?_, tmps := ?_, kv := ?_ }
 ·intro id e hl
  obtain ⟨y, h1, rfl⟩ := hold id e hl
  have := h.ents id y h1
  cases y with
  | box ty cs => obtain ⟨vals, v1, v2⟩ := this; exact ⟨vals, v1, v2.settle h⟩
  | arr => exact this
 ·intro id e hl
  obtain ⟨y, h1, rfl⟩ := hold id e hl
  exact h.new id y h1
 ·intro id e b hl hb
  obtain ⟨y, h1, rfl⟩ := hold id e hl
  rw [hblk] at hb
  rw [hown]
  exact h.excl id y b h1 hb
 ·intro id id' e e' b hl hl' hb hb'
  obtain ⟨y, h1, rfl⟩ := hold id e hl
  obtain ⟨y', h1', rfl⟩ := hold id' e' hl'
  rw [hblk] at hb hb'
  exact h.inj id id' y y' b h1 h1' hb hb'
 ·intro t av hl
  simp only [St.settle] at hl
  rw [look_map (AV.settle st.h)] at hl
  simp only [Option.map_eq_some_iff] at hl
  obtain ⟨y, h1, rfl⟩ := hl
  obtain ⟨v, hv, hr⟩ := h.tmps t y h1
  exact ⟨v, hv, hr.settle h⟩
 ·intro id e sz ver own es hl
  obtain ⟨y, h1, h2⟩ := hold id _ hl
  cases y with
  | box => simp [Ent.settle] at h2
  | arr => simp only [Ent.settle] at h2; rw [← h2] at h1; exact h.kv id _ _ _ _ _ h1
def fS (s : St) (K : St → Prop) : Prop := match s with | ⟨t, h, n, N⟩ => fT t fun t => fH h fun h => fN n fun n => K ⟨t, h, n, N⟩
theorem fS_eq (s : St) (K : St → Prop) : fS s K = K s := by cases s; simp only [fS, fT_eq, fH_eq, fN_eq]
def coC (hh : List (Nat × Ent)) (tc x : CV) (h : List (Nat × Ent)) (n : Nat) : CV × List (Nat × Ent) × Nat :=
 match tc with
 | .d _ => match x with
  | .d d => (.d d, h, n)
  | x => match frzC h x with | some (d, h') => (.d d, h', n) | none => (x, h, n)
 | .ref id _ _ => match x with
  | .nl sz => match look hh id with
   | some (.arr e sz _ ow _) => match ow with
    | .nest tys => (.ref n 0 none, h ++ [(n, .arr e sz 0 (.nest tys) [])], n + 1)
    | _ => (.ref n 0 none, h ++ [(n, .arr e sz 0 .own [])], n + 1)
   | _ => (.nl sz, h, n)
  | x => (x, h, n)
 | _ => (x, h, n)
def coL (hh : List (Nat × Ent)) : List CV → List CV → List (Nat × Ent) → Nat → List CV × List (Nat × Ent) × Nat
 | tc :: tr, x :: r, h, n => match coC hh tc x h n with
  | (x', h1, n1) => match coL hh tr r h1 n1 with
   | (r', h2, n2) => (x' :: r', h2, n2)
 | _, xs, h, n => (xs, h, n)
def coX (hh : List (Nat × Ent)) : List (Bool × List CV) → List (Bool × List CV) → List (Nat × Ent) → Nat → List (Bool × List CV) × List (Nat × Ent) × Nat
 | (_, tc) :: tr, (b, x) :: r, h, n => match coL hh tc x h n with
  | (x', h1, n1) => match coX hh tr r h1 n1 with
   | (r', h2, n2) => ((b, x') :: r', h2, n2)
 | _, xs, h, n => (xs, h, n)
def coA (hh : List (Nat × Ent)) (ta x : AV) (h : List (Nat × Ent)) (n : Nat) : AV × List (Nat × Ent) × Nat :=
 match ta, x with
 | .c tc, .c x => match coC hh tc x h n with | (x', h', n') => (.c x', h', n')
 | .agg tc, .agg x => match coL hh tc x h n with | (x', h', n') => (.agg x', h', n')
 | .tup tc, .tup x => match coX hh tc x h n with | (x', h', n') => (.tup x', h', n')
 | _, x => (x, h, n)
def towards (tgt : St) : List Nat → St → St
 | [], st => st
 | k :: r, ⟨t, h, n, N⟩ => match look tgt.t k, look t k with
  | some ta, some x => match coA tgt.h ta x h n with
   | (x', h', n') => towards tgt r ⟨tput t k x', h', n', N⟩
  | _, _ => towards tgt r ⟨t, h, n, N⟩
theorem coC_sound {hh : List (Nat × Ent)} {tc x x' : CV} {h' : List (Nat × Ent)} {n' : Nat} (hr : RepK F0 L w0 st a w κ) (hc : coC hh tc x st.h st.n = (x', h', n')) :
  ∃ κ', RepK F0 L w0 { st with h := h', n := n' } a w κ' ∧ (∀ v, CVRep w κ st.h x v → CVRep w κ' h' x' v) ∧ ∀ y u, CVRep w κ st.h y u → CVRep w κ' h' y u := by
 have triv : ∀ {x' h' n'}, (x, st.h, st.n) = (x', h', n') → ∃ κ', RepK F0 L w0 { st with h := h', n := n' } a w κ' ∧ (∀ v, CVRep w κ st.h x v → CVRep w κ' h' x' v) ∧ ∀ y u, CVRep w κ st.h y u → CVRep w κ' h' y u := fun {x' h' n'} e => by
  simp only [Prod.mk.injEq] at e
  obtain ⟨rfl, rfl, rfl⟩ := e
  exact ⟨κ, hr, fun _ h => h, fun _ _ h => h⟩
 unfold coC at hc
 split at hc
 ·split at hc
  ·exact triv hc
  ·split at hc
   ·rename_i d h1 hf
    simp only [Prod.mk.injEq] at hc
    obtain ⟨rfl, rfl, rfl⟩ := hc
    obtain ⟨κ', k1, _, _, _, _, k2, k3⟩ := frzC_sound hr hf
    exact ⟨κ', k1, k2, k3⟩
   ·exact triv hc
 ·split at hc
  ·split at hc
   ·rename_i e sz _ ow _ _
    split at hc
    ·rename_i tys hlk
     simp only [Prod.mk.injEq] at hc
     obtain ⟨rfl, rfl, rfl⟩ := hc
     have hk := hr.kn
     have hok : CVOk st.h κ.n := fun id e he => hk ▸ hr.new id e he
     have hp := hr.push (.arr e sz 0 (.nest tys) []) 0 (.slice none 0 0) (by
      show NestRep _ _ _ _ _ _ _
      simp only [Con.push, hk, if_true]
      exact ⟨⟨[], World.ownsRow_nil w 0 e sz, fun i c hi => by simp at hi⟩, fun p q b hb => by simp [fpOf] at hb, fun p b hb => by simp [fpOf] at hb⟩) (fun _ _ _ _ _ h => by cases h; rfl) (fun b hb => by rw [has_nest] at hb; simp [Con.fp, fpOf, Con.push, hk, Value.ownBlock] at hb)
     refine ⟨_, hp, fun v hv => ?_, fun y u hy => ?_⟩
     ·cases hv
      have := ref_whole (w' := w) (κ := κ) (st := st) (e := e) (sz := sz) (own := .nest tys) (es := []) hk (hk ▸ hok) (v := .slice none 0 0) (A := none) (n := 0) (c := 0) rfl rfl (Nat.le_refl _)
      exact this
     ·have := hy.push hok (.arr e sz 0 (.nest tys) []) 0 (.slice none 0 0)
      rwa [hk] at this
    ·simp only [Prod.mk.injEq] at hc
     obtain ⟨rfl, rfl, rfl⟩ := hc
     have hk := hr.kn
     have hok : CVOk st.h κ.n := fun id e he => hk ▸ hr.new id e he
     have hp := hr.push (.arr e sz 0 .own []) 0 (.slice none 0 0) (by
      show OwnRep _ _ _ _ _ _
      simp only [Con.push, hk, if_true]
      exact ownRep_nil w e sz) (fun _ _ _ _ _ h => by cases h; rfl) (fun b hb => by rw [has_own] at hb; simp [Con.push, hk, Value.ownBlock] at hb)
     refine ⟨_, hp, fun v hv => ?_, fun y u hy => ?_⟩
     ·cases hv
      have := ref_whole (w' := w) (κ := κ) (st := st) (e := e) (sz := sz) (own := .own) (es := []) hk (hk ▸ hok) (v := .slice none 0 0) (A := none) (n := 0) (c := 0) rfl rfl (Nat.le_refl _)
      exact this
     ·have := hy.push hok (.arr e sz 0 .own []) 0 (.slice none 0 0)
      rwa [hk] at this
   ·exact triv hc
  ·exact triv hc
 ·exact triv hc
theorem coL_sound {hh : List (Nat × Ent)} : ∀ {tc x x' : List CV} {st : St} {κ : Con} {h' : List (Nat × Ent)} {n' : Nat} (_ : RepK F0 L w0 st a w κ) (_ : coL hh tc x st.h st.n = (x', h', n')),
  ∃ κ', RepK F0 L w0 { st with h := h', n := n' } a w κ' ∧ (∀ vs, CVs w κ st.h x vs → CVs w κ' h' x' vs) ∧ ∀ y u, CVRep w κ st.h y u → CVRep w κ' h' y u
 | [], x, x', st, κ, h', n', hr, hc => by
  simp only [coL, Prod.mk.injEq] at hc
  obtain ⟨rfl, rfl, rfl⟩ := hc
  exact ⟨κ, hr, fun _ h => h, fun _ _ h => h⟩
 | tc :: tr, [], x', st, κ, h', n', hr, hc => by
  simp only [coL, Prod.mk.injEq] at hc
  obtain ⟨rfl, rfl, rfl⟩ := hc
  exact ⟨κ, hr, fun _ h => h, fun _ _ h => h⟩
 | tc :: tr, y :: r, x', st, κ, h', n', hr, hc => by
  simp only [coL] at hc
  generalize h1 : coC hh tc y st.h st.n = p1 at hc
  obtain ⟨y', h1', n1⟩ := p1
  simp only at hc
  generalize h2 : coL hh tr r h1' n1 = p2 at hc
  obtain ⟨r', h2', n2⟩ := p2
  simp only [Prod.mk.injEq] at hc
  obtain ⟨rfl, rfl, rfl⟩ := hc
  obtain ⟨κ1, q1, q2, q3⟩ := coC_sound hr h1
  obtain ⟨κ2, r1, r2, r3⟩ := coL_sound (st := { st with h := h1', n := n1 }) q1 h2
  refine ⟨κ2, r1, fun vs hv => ?_, fun z u hz => r3 z u (q3 z u hz)⟩
  match vs, hv with
  | [], hv => simp [CVs] at hv
  | v :: vs, hv =>
   have hv' : CVs w κ1 h1' r vs := ⟨by simpa using hv.1, fun j c u hc hu => q3 c u (hv.2 (j + 1) c u (by simpa using hc) (by simpa using hu))⟩
   have hr' := r2 vs hv'
   refine ⟨by simp [hr'.1], fun j c u hc hu => ?_⟩
   cases j with
   | zero =>
    simp at hc hu
    subst hc; subst hu
    exact r3 _ _ (q2 _ (hv.2 0 y v rfl rfl))
   | succ j => exact hr'.2 j c u (by simpa using hc) (by simpa using hu)
theorem coX_sound {hh : List (Nat × Ent)} : ∀ {tc x x' : List (Bool × List CV)} {st : St} {κ : Con} {h' : List (Nat × Ent)} {n' : Nat} (_ : RepK F0 L w0 st a w κ) (_ : coX hh tc x st.h st.n = (x', h', n')),
  ∃ κ', RepK F0 L w0 { st with h := h', n := n' } a w κ' ∧ (∀ vs : List Value, vs.length = x.length → (∀ (j : Nat) (y : Bool × List CV) (u : Value), x[j]? = some y → vs[j]? = some u → TVRep w κ st.h y u) → vs.length = x'.length ∧ ∀ (j : Nat) (y : Bool × List CV) (u : Value), x'[j]? = some y → vs[j]? = some u → TVRep w κ' h' y u) ∧ ∀ y u, CVRep w κ st.h y u → CVRep w κ' h' y u
 | [], x, x', st, κ, h', n', hr, hc => by
  simp only [coX, Prod.mk.injEq] at hc
  obtain ⟨rfl, rfl, rfl⟩ := hc
  exact ⟨κ, hr, fun _ h1 h2 => ⟨h1, h2⟩, fun _ _ h => h⟩
 | tc :: tr, [], x', st, κ, h', n', hr, hc => by
  simp only [coX, Prod.mk.injEq] at hc
  obtain ⟨rfl, rfl, rfl⟩ := hc
  exact ⟨κ, hr, fun _ h1 h2 => ⟨h1, h2⟩, fun _ _ h => h⟩
 | (tb, tc) :: tr, (b, y) :: r, x', st, κ, h', n', hr, hc => by
  simp only [coX] at hc
  generalize h1 : coL hh tc y st.h st.n = p1 at hc
  obtain ⟨y', h1', n1⟩ := p1
  simp only at hc
  generalize h2 : coX hh tr r h1' n1 = p2 at hc
  obtain ⟨r', h2', n2⟩ := p2
  simp only [Prod.mk.injEq] at hc
  obtain ⟨rfl, rfl, rfl⟩ := hc
  obtain ⟨κ1, q1, q2, q3⟩ := coL_sound hr h1
  obtain ⟨κ2, r1, r2, r3⟩ := coX_sound (st := { st with h := h1', n := n1 }) q1 h2
  refine ⟨κ2, r1, fun vs hl hv => ?_, fun z u hz => r3 z u (q3 z u hz)⟩
  match vs, hl, hv with
  | v :: vs, hl, hv =>
   have hmapT : ∀ (y : Bool × List CV) (u : Value), TVRep w κ st.h y u → TVRep w κ1 h1' y u := fun y u h => by
    unfold TVRep at *
    split at h
    ·obtain ⟨us, e, hus⟩ := h; exact ⟨us, e, hus.map q3⟩
    ·exact h.map q3
   obtain ⟨s1, s2⟩ := r2 vs (by simpa using hl) (fun j y u hj hu => hmapT y u (hv (j + 1) y u (by simpa using hj) (by simpa using hu)))
   refine ⟨by simp [s1], fun j z u hj hu => ?_⟩
   cases j with
   | zero =>
    simp at hj hu
    subst hj; subst hu
    have h0 := hv 0 (b, y) v rfl rfl
    unfold TVRep at *
    simp only at h0 ⊢
    split at h0
    ·obtain ⟨us, e, hus⟩ := h0; exact ⟨us, e, (q2 us hus).map r3⟩
    ·exact (q2 _ h0).map r3
   | succ j => exact s2 j z u (by simpa using hj) (by simpa using hu)
theorem coA_sound {hh : List (Nat × Ent)} {ta x x' : AV} {h' : List (Nat × Ent)} {n' : Nat} (hr : RepK F0 L w0 st a w κ) (hc : coA hh ta x st.h st.n = (x', h', n')) :
  ∃ κ', RepK F0 L w0 { st with h := h', n := n' } a w κ' ∧ (∀ v, AVRep w κ st.h x v → AVRep w κ' h' x' v) ∧ ∀ y u, CVRep w κ st.h y u → CVRep w κ' h' y u := by
 unfold coA at hc
 split at hc
 ·rename_i tc x
  generalize h1 : coC hh tc x st.h st.n = p1 at hc
  obtain ⟨y', h1', n1⟩ := p1
  simp only [Prod.mk.injEq] at hc
  obtain ⟨rfl, rfl, rfl⟩ := hc
  exact coC_sound hr h1
 ·rename_i tc x
  generalize h1 : coL hh tc x st.h st.n = p1 at hc
  obtain ⟨y', h1', n1⟩ := p1
  simp only [Prod.mk.injEq] at hc
  obtain ⟨rfl, rfl, rfl⟩ := hc
  obtain ⟨κ', q1, q2, q3⟩ := coL_sound hr h1
  exact ⟨κ', q1, fun v ⟨vs, e, hv⟩ => ⟨vs, e, q2 vs hv⟩, q3⟩
 ·rename_i tc x
  generalize h1 : coX hh tc x st.h st.n = p1 at hc
  obtain ⟨y', h1', n1⟩ := p1
  simp only [Prod.mk.injEq] at hc
  obtain ⟨rfl, rfl, rfl⟩ := hc
  obtain ⟨κ', q1, q2, q3⟩ := coX_sound hr h1
  exact ⟨κ', q1, fun v ⟨vs, e, hl, hv⟩ => by
   obtain ⟨s1, s2⟩ := q2 vs hl hv
   exact ⟨vs, e, s1, s2⟩, q3⟩
 ·simp only [Prod.mk.injEq] at hc
  obtain ⟨rfl, rfl, rfl⟩ := hc
  exact ⟨κ, hr, fun _ h => h, fun _ _ h => h⟩
theorem towards_sound {tgt : St} : ∀ {keep : List Nat} {st : St}, Rep F0 L w0 st a w → Rep F0 L w0 (towards tgt keep st) a w
 | [], st, h => h
 | k :: r, ⟨t, hh, n, N⟩, h => by
  simp only [towards]
  split
  ·rename_i ta x h1 h2
   obtain ⟨κ, hr⟩ := h
   generalize hp : coA tgt.h ta x hh n = p
   obtain ⟨x', h', n'⟩ := p
   simp only
   obtain ⟨κ', q1, q2, q3⟩ := coA_sound (st := ⟨t, hh, n, N⟩) hr hp
   refine towards_sound ⟨κ', ?_⟩
   obtain ⟨v0, hv0, hr0⟩ := hr.tmps k x h2
   refine { below := q1.below, f0 := q1.f0, f1 := q1.f1, f2 := q1.f2, size := q1.size, dfs := q1.dfs, kn := q1.kn, ents := q1.ents, new := q1.new, excl := q1.excl, inj := q1.inj, kv := q1.kv, tmps := fun t' av ht => ?_ }
   simp only [look_tput] at ht
   split at ht
   ·rename_i he
    subst he
    cases ht
    exact ⟨v0, hv0, q2 v0 hr0⟩
   ·exact q1.tmps t' av ht
  ·exact towards_sound h
def keepT (t : List (Nat × AV)) : List Nat → List (Nat × AV)
 | [] => []
 | k :: r => match look t k with
  | some av => (k, av) :: keepT t r
  | none => keepT t r
theorem keepT_spec {t : List (Nat × AV)} : ∀ {keep : List Nat} {k : Nat} {av : AV}, look (keepT t keep) k = some av → look t k = some av
 | [], k, av, h => by simp [keepT, look] at h
 | j :: r, k, av, h => by
  simp only [keepT] at h
  split at h
  ·rename_i x hx
   simp only [look] at h
   split at h
   ·rename_i hb; obtain rfl := beq_iff hb; cases h; exact hx
   ·exact keepT_spec h
  ·exact keepT_spec h
def fM : List (Nat × Nat) → (List (Nat × Nat) → Prop) → Prop
 | [], K => K []
 | (a, b) :: r, K => fN a fun a => fN b fun b => fM r fun r => K ((a, b) :: r)
theorem fM_eq : ∀ (l : List (Nat × Nat)) (K : List (Nat × Nat) → Prop), fM l K = K l
 | [], K => rfl
 | (a, b) :: r, K => by simp only [fM, fN_eq, fM_eq r]
def twK (tgt : St) : List Nat → St → (St → Prop) → Prop
 | [], st, K => K st
 | k :: r, ⟨t, h, n, N⟩, K => match look tgt.t k, look t k with
  | some ta, some x => match coA tgt.h ta x h n with
   | (x', h', n') => fT (tput t k x') fun t => fH h' fun h => fN n' fun n => twK tgt r ⟨t, h, n, N⟩ K
  | _, _ => twK tgt r ⟨t, h, n, N⟩ K
theorem twK_eq (tgt : St) : ∀ (keep : List Nat) (st : St) (K : St → Prop), twK tgt keep st K = K (towards tgt keep st)
 | [], st, K => rfl
 | k :: r, ⟨t, h, n, N⟩, K => by
  simp only [twK, towards]
  split
  ·simp only [fT_eq, fH_eq, fN_eq]
   exact twK_eq tgt r _ K
  ·exact twK_eq tgt r _ K
def reachL (g : CV → List (Nat × Nat) → (List (Nat × Nat) → Prop) → Prop) : List CV → List (Nat × Nat) → (List (Nat × Nat) → Prop) → Prop
 | [], m, K => K m
 | x :: r, m, K => g x m fun m => reachL g r m K
def reachK (h : List (Nat × Ent)) : Nat → CV → List (Nat × Nat) → (List (Nat × Nat) → Prop) → Prop
 | 0, _, m, K => K m
 | k + 1, x, m, K => match x with
  | .ref id ver _ => match look h id with
   | some (.arr _ _ v _ _) => match Nat.beq v ver with | true => fM (addId m id) K | false => K m
   | _ => K m
  | .ptr id _ => match look m id with
   | some _ => K m
   | none => match look h id with
    | some (.box _ cs) => fM (addId m id) fun m => reachL (reachK h k) cs m K
    | _ => K m
  | .fn _ caps => reachL (reachK h k) (caps.map fun p => CV.ptr p.1 p.2) m K
  | _ => K m
theorem reachL_eq {g : CV → List (Nat × Nat) → (List (Nat × Nat) → Prop) → Prop} {f : List (Nat × Nat) → CV → List (Nat × Nat)} (hg : ∀ x m K, g x m K = K (f m x)) : ∀ (l : List CV) (m : List (Nat × Nat)) (K : List (Nat × Nat) → Prop), reachL g l m K = K (l.foldl f m)
 | [], m, K => rfl
 | x :: r, m, K => by simp only [reachL, hg, List.foldl_cons]; exact reachL_eq hg r _ K
theorem reachK_eq (h : List (Nat × Ent)) : ∀ (k : Nat) (x : CV) (m : List (Nat × Nat)) (K : List (Nat × Nat) → Prop), reachK h k x m K = K (reachC h k m x)
 | 0, x, m, K => rfl
 | k + 1, x, m, K => by
  have ih : ∀ (l : List CV) (m : List (Nat × Nat)) (K : List (Nat × Nat) → Prop), reachL (reachK h k) l m K = K (l.foldl (reachC h k) m) := reachL_eq (reachK_eq h k)
  cases x with
  | ref id ver s =>
   simp only [reachK, reachC]
   split
   ·split <;> simp only [fM_eq]
   ·rfl
  | ptr id off =>
   simp only [reachK, reachC]
   split
   ·rfl
   ·split
    ·simp only [fM_eq, ih]
    ·rfl
  | fn f caps => simp only [reachK, reachC, ih]
  | _ => rfl
def reachTK (h : List (Nat × Ent)) (t : List (Nat × AV)) : List Nat → List (Nat × Nat) → (List (Nat × Nat) → Prop) → Prop
 | [], m, K => K m
 | k :: r, m, K => match look t k with
  | some av => reachL (reachK h 12) av.cvs m fun m => reachTK h t r m K
  | none => reachTK h t r m K
theorem reachTK_eq (h : List (Nat × Ent)) (t : List (Nat × AV)) : ∀ (ks : List Nat) (m : List (Nat × Nat)) (K : List (Nat × Nat) → Prop), reachTK h t ks m K = K (reachT h t ks m)
 | [], m, K => rfl
 | k :: r, m, K => by
  simp only [reachTK, reachT]
  split
  ·rw [reachL_eq (reachK_eq h 12)]; exact reachTK_eq h t r _ K
  ·exact reachTK_eq h t r m K
def canonQ (keep : List Nat) (st : St) (tgt : St) : Prop :=
 match st with
 | ⟨t, h, n, N⟩ => fT (keepT t keep) fun t => fH h fun h => fN n fun n => twK tgt keep ⟨t, h, n, N⟩ fun st => match st with
  | ⟨t, h, n, N⟩ => fS (St.settle ⟨t, h, n, N⟩) fun s => reachTK s.h s.t keep [] fun m => match s.norm keep m m.length with
   | some s => match s with | ⟨t, h, n, _⟩ => fT t fun t => fH h fun h => fN n fun n => (⟨t, h, n, N⟩ : St) = tgt
   | none => False
theorem norm_N {keep : List Nat} {m : List (Nat × Nat)} {n : Nat} {st s : St} (h : st.norm keep m n = some s) : s.N = st.N := by
 simp only [St.norm] at h
 split at h
 ·cases h; rfl
 ·cases h
theorem canonQ_spec {keep : List Nat} {st tgt : St} (h : canonQ keep st tgt) (hr : Rep F0 L w0 st a w) : Rep F0 L w0 tgt a w := by
 obtain ⟨t, hh, n, N⟩ := st
 simp only [canonQ, fT_eq, fH_eq, fN_eq, twK_eq, fS_eq, reachTK_eq] at h
 obtain ⟨κ, hr⟩ := hr
 have hr2 : RepK F0 L w0 ⟨keepT t keep, hh, n, N⟩ a w κ := { below := hr.below, f0 := hr.f0, f1 := hr.f1, f2 := hr.f2, ents := hr.ents, new := hr.new, excl := hr.excl, inj := hr.inj, size := hr.size, dfs := hr.dfs, kn := hr.kn, kv := hr.kv, tmps := fun t' av ht => hr.tmps t' av (keepT_spec ht) }
 have hr' := towards_sound (tgt := tgt) (keep := keep) ⟨κ, hr2⟩
 generalize towards tgt keep ⟨keepT t keep, hh, n, N⟩ = st1 at h hr'
 obtain ⟨t, hh, n, N⟩ := st1
 obtain ⟨κ, hr'⟩ := hr'
 have hr3 := hr'.settle
 split at h
 ·rename_i s hs
  have hN := norm_N hs
  have := hr3.norm hs
  cases s
  simp only at hN
  rw [← h]
  have hN2 : (St.settle ⟨t, hh, n, N⟩).N = N := rfl
  rw [hN2] at hN
  rw [← hN]
  exact ⟨_, this⟩
 ·exact h.elim
theorem wp_loop_ghost {α : Type} {c : Code} {Q : Exit → Act → World → Prop} (I : α → Act → World → Prop) (μ : α → Nat)
  (round : ∀ x a w, I x a w → c.wp P (Exit.then (fun a' w' => ∃ x', μ x' < μ x ∧ I x' a' w') Q) a w) {x : α} (h₀ : I x a w) : (Code.loop c).wp P Q a w := by
 intro b k cs
 have key : ∀ n x a w, μ x = n → I x a w →
   ∃ e a' w', Q e a' w' ∧ Arrives P (lone (b.at a (.code c :: .inLoop c :: k)) cs w) b k cs e a' w' := by
  intro n
  induction n using Nat.strongRecOn with
  | _ n ih =>
   intro x a w hn hI
   obtain ⟨e, a₁, w₁, hq, harr⟩ := round x a w hI b (.inLoop c :: k) cs
   cases e with
   | normal =>
    obtain ⟨x', hlt, hI₁⟩ := hq
    obtain ⟨e₂, a₂, w₂, hq₂, harr₂⟩ := ih (μ x') (hn ▸ hlt) x' a₁ w₁ rfl hI₁
    exact ⟨e₂, a₂, w₂, hq₂, .of_steps (Steps.trans harr (.one step_inLoop)) harr₂⟩
   | exit id => exact ⟨_, a₁, w₁, hq, .pass (x := .inLoop c) rfl (fun _ _ => .inl (by simp)) harr⟩
   | goto l => exact ⟨_, a₁, w₁, hq, .pass (x := .inLoop c) rfl (fun _ _ => .inl (by simp)) harr⟩
   | ret => exact ⟨_, a₁, w₁, hq, .pass (x := .inLoop c) rfl (fun _ _ => .inl (by simp)) harr⟩
   | panic ch => exact ⟨_, a₁, w₁, hq, .pass (x := .inLoop c) rfl (fun _ _ => .inl (by simp)) harr⟩
   | outgrown => exact ⟨_, a₁, w₁, hq, .pass (x := .inLoop c) rfl (fun _ _ => .inl (by simp)) harr⟩
 obtain ⟨e, a', w', hq, harr⟩ := key _ x a w rfl h₀
 exact ⟨e, a', w', hq, .of_steps (.one step_loop) harr⟩
def St.upd (st : St) (ts : List (Nat × AV)) (hs : List (Nat × Ent)) : St :=
 { st with t := ts.foldl (fun l p => lput l p.1 p.2) st.t, h := hs.foldl (fun l p => lput l p.1 p.2) st.h }
theorem tri_loop (hT : TOk P T) {c : Code} {Q : Exit → St → Prop} (keep : List Nat) {α : Type} (I : α → St) (Inv : α → Prop) (μ : α → Nat) (x0 : α) (h0 : canonQ keep st (I x0)) (hI : Inv x0)
  (round : ∀ x, Inv x → wpH P T c (I x) fun e st' => match e with | .normal => ∃ x', μ x' < μ x ∧ Inv x' ∧ canonQ keep st' (I x') | e => Q e st') : Tri P (.loop c) st Q := by
 intro F0 L w0 a w hr
 refine wp_loop_ghost (I := fun x a w => Inv x ∧ Rep F0 L w0 (I x) a w) μ (fun x a w ⟨hx, hr⟩ => ?_) (x := x0) ⟨hI, canonQ_spec h0 hr⟩
 refine wp_mono (wpH_sound hT c _ _ (round x hx) F0 L w0 a w hr) fun e a' w' ⟨st', h1, h2⟩ => ?_
 cases e with
 | normal =>
  obtain ⟨x', hlt, hx', hc⟩ := h1
  exact ⟨x', hlt, hx', canonQ_spec hc h2⟩
 | exit => exact ⟨st', h1, h2⟩
 | goto => exact ⟨st', h1, h2⟩
 | ret => exact ⟨st', h1, h2⟩
 | panic => exact ⟨st', h1, h2⟩
 | outgrown => exact ⟨st', h1, h2⟩
def St.start (args : List AV) (n : Nat) : St := { t := numbered 0 args, h := [], n := 0, N := n }
def cellsF (ti : TI) (cs : List CV) : Option AV :=
 match ti.agg with
 | true => match Nat.ble ti.size cs.length with | true => some (.agg (cs.take ti.size)) | false => none
 | false => match cs with | x :: _ => (match Nat.beq ti.size 1 with | true => some (.c x) | false => none) | [] => none
theorem cellsF_C {ti : TI} {cs : List CV} {r : AV} (h : cellsF ti cs = some r) : cellsC ti cs (· = r) := by
 unfold cellsF at h
 unfold cellsC
 split at h
 ·rename_i hg
  simp only [hg]
  split at h
  ·rename_i hb; simp only [hb]; exact Option.some.inj h
  ·cases h
 ·rename_i hg
  simp only [hg]
  split at h
  ·rename_i hb
   split at h
   ·rename_i hb; simp only [hb]; exact Option.some.inj h
   ·cases h
  ·cases h
def resL (T : TypeId → Option TI) (st : St) : List ResultVar → Option (List AV)
 | [] => some []
 | .tmp t :: r => match look st.t t, resL T st r with
  | some av, some l => some (av :: l)
  | _, _ => none
 | .cell a t :: r => match look st.t a, T t, resL T st r with
  | some (.c (.ptr id off)), some ti, some l => match look st.h id with
   | some (.box _ cs) => match cellsF ti (cs.drop off) with
    | some av => some (av :: l)
    | none => none
   | _ => none
  | _, _, _ => none
def tvOf : AV → Option (Bool × List CV)
 | .c x => some (false, [x])
 | .agg cs => some (true, cs)
 | _ => none
def tvs : List AV → Option (List (Bool × List CV))
 | [] => some []
 | x :: r => match tvOf x, tvs r with
  | some y, some l => some (y :: l)
  | _, _ => none
def resOf (T : TypeId → Option TI) (st : St) (rs : List ResultVar) : Option AV :=
 match resL T st rs with
 | some [x] => some x
 | some l => match tvs l with | some xs => some (.tup xs) | none => none
 | none => none
def postOf (T : TypeId → Option TI) (rs : List ResultVar) (tgt : St) (e : Exit) (st' : St) : Prop :=
 match e with
 | .normal | .ret => match resOf T st' rs with | some r => (match st' with | ⟨_, h, n, _⟩ => canonQ [0] ⟨[(0, r)], h, n, 1⟩ tgt) | none => False
 | _ => False
def rv (tmps : Array Value) : ResultVar → Sem Value
 | .tmp t => pure (tmps.getD t undef)
 | .cell a t => do loadVar t (← asAddr (tmps.getD a undef))
theorem results_eq (fn : Func) (tmps : Array Value) : results fn tmps = (do let vs ← fn.results.mapM (rv tmps); pure (if h : vs.size = 1 then vs[0] else .tuple vs)) := rfl
theorem resL_sound (hT : TOk P T) (h : RepK F0 L w0 st a w κ) : ∀ {rs : List ResultVar} {l : List AV}, resL T st rs = some l → ∃ vs : List Value, (rs.mapM (rv a.tmps)).run P w = .ok vs w ∧
  vs.length = l.length ∧ ∀ (j : Nat) (x : AV) (u : Value), l[j]? = some x → vs[j]? = some u → AVRep w κ st.h x u
 | [], l, hl => by
  simp only [resL, Option.some.injEq] at hl
  subst hl
  exact ⟨[], by simp, rfl, fun j x u hj => by simp at hj⟩
 | .tmp t :: r, l, hl => by
  simp only [resL] at hl
  split at hl
  ·rename_i av l' h1 h2
   cases hl
   obtain ⟨vs, q1, q2, q3⟩ := resL_sound hT h h2
   obtain ⟨v, hv, hr⟩ := h.tmps _ _ h1
   refine ⟨v :: vs, ?_, by simp [q2], fun j x u hj hu => ?_⟩
   ·have e : a.tmps.getD t undef = v := by simp [Array.getD_eq_getD_getElem?, hv]
    rw [List.mapM_cons]
    simp only [rv, Sem.run_bind, Sem.run_pure, Result.andThen_ok, e]
    rw [q1]
    rfl
   ·cases j with
    | zero => simp at hj hu; subst hj; subst hu; exact hr
    | succ j => exact q3 j x u (by simpa using hj) (by simpa using hu)
  ·cases hl
 | .cell t ty :: r, l, hl => by
  simp only [resL] at hl
  split at hl
  ·rename_i id off ti l' h1 hti h2
   split at hl
   ·rename_i bt cs hb
    split at hl
    ·rename_i av hav
     cases hl
     obtain ⟨vs, q1, q2, q3⟩ := resL_sound hT h h2
     obtain ⟨u, hu, hr⟩ := h.tmps _ _ h1
     obtain ⟨_, rfl⟩ := hr
     obtain ⟨r', hr', hsd⟩ := cells_sound (hT _ _ hti) (cellsF_C hav)
     subst hr'
     obtain ⟨v, hv, hrep⟩ := hsd w κ st.h ⟨κ.bl id, off, none⟩ (fun j c hc _ => by
      rw [List.getElem?_drop] at hc
      obtain ⟨x, hx, hxr⟩ := box_cell h hb hc
      exact ⟨x, by rw [addr0]; exact hx, hxr⟩)
     refine ⟨v :: vs, ?_, by simp [q2], fun j x u hj hu => ?_⟩
     ·have e : a.tmps.getD t undef = .pointer (some ⟨κ.bl id, off, none⟩) := by simp [Array.getD_eq_getD_getElem?, hu]
      rw [List.mapM_cons]
      have e2 : (asAddr (.pointer (some ⟨κ.bl id, off, none⟩))).run P w = .ok ⟨κ.bl id, off, none⟩ w := by simp [asAddr]
      simp only [rv, Sem.run_bind, Sem.run_pure, e]
      rw [e2, Result.andThen_ok, hv, Result.andThen_ok, q1]
      rfl
     ·cases j with
      | zero => simp at hj hu; subst hj; subst hu; exact hrep
      | succ j => exact q3 j x u (by simpa using hj) (by simpa using hu)
    ·cases hl
   ·cases hl
  ·cases hl
theorem tvs_sound : ∀ {l : List AV} {xs : List (Bool × List CV)}, tvs l = some xs → ∀ {vs : List Value}, vs.length = l.length → (∀ (j : Nat) (x : AV) (u : Value), l[j]? = some x → vs[j]? = some u → AVRep w κ hh x u) →
  vs.length = xs.length ∧ ∀ (j : Nat) (x : Bool × List CV) (u : Value), xs[j]? = some x → vs[j]? = some u → TVRep w κ hh x u
 | [], xs, h, vs, hl, hv => by
  simp only [tvs, Option.some.injEq] at h
  subst h
  exact ⟨hl, fun j x u hj => by simp at hj⟩
 | x :: r, xs, h, vs, hl, hv => by
  simp only [tvs] at h
  split at h
  ·rename_i y l h1 h2
   cases h
   match vs, hl, hv with
   | v :: vs, hl, hv =>
    obtain ⟨q1, q2⟩ := tvs_sound h2 (vs := vs) (by simpa using hl) (fun j x u hj hu => hv (j + 1) x u (by simpa using hj) (by simpa using hu))
    refine ⟨by simp [q1], fun j z u hj hu => ?_⟩
    cases j with
    | zero =>
     simp at hj hu
     subst hj; subst hu
     have := hv 0 x v rfl rfl
     cases x with
     | c x =>
      simp only [tvOf, Option.some.injEq] at h1
      subst h1
      refine ⟨rfl, fun j c u hc hu => ?_⟩
      cases j with
      | zero => simp at hc hu; subst hc; subst hu; exact this
      | succ j => simp at hc
     | agg cs =>
      simp only [tvOf, Option.some.injEq] at h1
      subst h1
      exact this
     | _ => simp [tvOf] at h1
    | succ j => exact q2 j z u (by simpa using hj) (by simpa using hu)
  ·cases h
theorem resOf_sound (hT : TOk P T) (h : RepK F0 L w0 st a w κ) {fn : Func} {r : AV} (hr : resOf T st fn.results.toList = some r) : ∃ v, (results fn a.tmps).run P w = .ok v w ∧ AVRep w κ st.h r v := by
 unfold resOf at hr
 split at hr
 ·rename_i x hx
  cases hr
  obtain ⟨vs, q1, q2, q3⟩ := resL_sound hT h hx
  match vs, q2 with
  | [v], _ =>
   refine ⟨v, ?_, q3 0 _ v rfl rfl⟩
   rw [results_eq, Sem.run_bind, Array.mapM_eq_mapM_toList]
   simp only [Sem.run_map, q1]
   rfl
 ·rename_i l hx hl
  split at hr
  ·rename_i xs hxs
   cases hr
   obtain ⟨vs, q1, q2, q3⟩ := resL_sound hT h hl
   obtain ⟨t1, t2⟩ := tvs_sound hxs q2 q3
   have hne : ¬ vs.length = 1 := fun e => by
    rw [e] at q2
    match l, q2, hx with
    | [x], _, hx => exact hx x rfl
   refine ⟨.tuple vs.toArray, ?_, vs, rfl, t1, t2⟩
   rw [results_eq, Sem.run_bind, Array.mapM_eq_mapM_toList]
   simp only [Sem.run_map, q1]
   simp [hne]
  ·cases hr
 ·cases hr
theorem FnSpec.introT (hT : TOk P T) {f : FuncId} {fn : Func} {c : Code} {args : List AV} {res : AV} {h' : List (Nat × Ent)} {n' : Nat} (hf : P.funcs[f]? = some fn) (hb : fn.body = some c) (hn : (fn.name == "runtime.NumGoroutine") = false)
  {N : Nat} (hN : fn.ntmps = N) (hlen : Nat.ble args.length N = true)
  (h : Tri P c (St.start args N) (postOf T fn.results.toList { t := [(0, res)], h := h', n := n', N := 1 })) : FnSpec P f args res h' n' := by
 subst hN
 refine ⟨⟨fn, hf, by rw [hb]; rfl, hn⟩, fun F w vals hF hargs => ?_⟩
 obtain ⟨hl, hv⟩ := hargs
 have hle : vals.length ≤ fn.ntmps := by rw [hl]; exact Nat.le_of_ble_eq_true hlen
 refine calls_of_wp hf hb ?_
 have hrep : RepK F (fun _ => False) w (St.start args fn.ntmps) { tmps := vals.toArray ++ Array.replicate (fn.ntmps - vals.toArray.size) undef, defers := [] } w (con0 F) := {
  below := Bel.refl _ _
  f0 := fun _ h => h
  f1 := fun _ h => .inl h
  f2 := hF
  ents := fun id e hl => by simp [St.start, look] at hl
  new := fun id e hl => by simp [St.start, look] at hl
  excl := fun id e b hl => by simp [St.start, look] at hl
  inj := fun id id' e e' b hl => by simp [St.start, look] at hl
  tmps := fun t av ht => by
   obtain ⟨_, h2⟩ := look_numbered 0 args t av ht
   have hlt : t < vals.length := by rw [hl]; exact (List.getElem?_eq_some_iff.1 h2).1
   refine ⟨vals[t], ?_, hv t av _ h2 (List.getElem?_eq_getElem hlt)⟩
   rw [Array.getElem?_append]
   simp [hlt]
  size := by simp [St.start]; omega
  dfs := rfl
  kn := rfl
  kv := fun id e sz ver own es hl => by simp [St.start, look] at hl }
 refine wp_mono (h F (fun _ => False) w _ w ⟨_, hrep⟩) fun e a' w' ⟨st', hq, κ, hr⟩ => ?_
 have hmain : (match resOf T st' fn.results.toList with | some r => (match st' with | ⟨_, h, n, _⟩ => canonQ [0] ⟨[(0, r)], h, n, 1⟩ { t := [(0, res)], h := h', n := n', N := 1 }) | none => False) → a'.defers = [] ∧ ∃ v, (results fn a'.tmps).run P w' = .ok v w' ∧ ∃ v' κ' st' a', Ending.returned v = .returned v' ∧ st'.h = h' ∧ st'.n = n' ∧ RepK F (fun _ => False) w st' a' w' κ' ∧ AVRep w' κ' h' res v' := fun hq => by
  refine ⟨hr.dfs, ?_⟩
  split at hq
  ·rename_i r hres
   obtain ⟨v, h1, h2⟩ := resOf_sound hT hr hres
   refine ⟨v, h1, v, ?_⟩
   have hr2 : RepK F (fun _ => False) w { st' with t := [(0, r)], N := 1 } { tmps := #[v], defers := [] } w' κ := {
    below := hr.below, f0 := hr.f0, f1 := hr.f1, f2 := hr.f2, ents := hr.ents, new := hr.new, excl := hr.excl, inj := hr.inj, dfs := rfl, kn := hr.kn, kv := hr.kv, size := rfl
    tmps := fun t av ht => by
     simp only [look] at ht
     split at ht
     ·rename_i hb
      obtain rfl := beq_iff hb
      cases ht
      exact ⟨v, rfl, h2⟩
     ·cases ht }
   cases st'
   simp only at hq
   obtain ⟨κ2, hr3⟩ := canonQ_spec hq ⟨κ, hr2⟩
   obtain ⟨v', hv', hav⟩ := hr3.tmps 0 res rfl
   obtain rfl : v = v' := by simpa using hv'
   exact ⟨κ2, _, _, rfl, rfl, rfl, hr3, hav⟩
  ·exact hq.elim
 simp only [postOf] at hq
 cases e with
 | normal => exact hmain hq
 | ret => exact hmain hq
 | _ => exact hq.elim
theorem FnSpec.intro (hT : TOk P T) {f : FuncId} {fn : Func} {c : Code} {args : List AV} {res : AV} {h' : List (Nat × Ent)} {n' : Nat} (hf : P.funcs[f]? = some fn) (hb : fn.body = some c) (hn : (fn.name == "runtime.NumGoroutine") = false)
  {N : Nat} (hN : fn.ntmps = N) (hlen : Nat.ble args.length N = true)
  (h : wpH P T c (St.start args N) (postOf T fn.results.toList { t := [(0, res)], h := h', n := n', N := 1 })) : FnSpec P f args res h' n' :=
 FnSpec.introT hT hf hb hn hN hlen (wpH_sound hT c _ _ h)
theorem FnSpecX.ext {f : FuncId} {args : List AV} {X : Type} {R : X → Prop} {res : X → AV} {h' : X → List (Nat × Ent)} {n' : X → Nat} (h : ExtX P f args X R res h' n') : FnSpecX P f args X R res h' n' := .inr h
theorem FnSpecX.introT (hT : TOk P T) {f : FuncId} {fn : Func} {c : Code} {args : List AV} {X : Type} {R : X → Prop} {res : X → AV} {h' : X → List (Nat × Ent)} {n' : X → Nat} (hf : P.funcs[f]? = some fn) (hb : fn.body = some c) (hn : (fn.name == "runtime.NumGoroutine") = false)
  {N : Nat} (hN : fn.ntmps = N) (hlen : Nat.ble args.length N = true)
  (h : Tri P c (St.start args N) (fun e st' => ∃ x, R x ∧ postOf T fn.results.toList { t := [(0, res x)], h := h' x, n := n' x, N := 1 } e st')) : FnSpecX P f args X R res h' n' := by
 subst hN
 refine .inl ⟨⟨fn, hf, by rw [hb]; rfl, hn⟩, fun F w vals hF hargs => ?_⟩
 obtain ⟨hl, hv⟩ := hargs
 have hle : vals.length ≤ fn.ntmps := by rw [hl]; exact Nat.le_of_ble_eq_true hlen
 refine calls_of_wp hf hb ?_
 have hrep : RepK F (fun _ => False) w (St.start args fn.ntmps) { tmps := vals.toArray ++ Array.replicate (fn.ntmps - vals.toArray.size) undef, defers := [] } w (con0 F) := {
  below := Bel.refl _ _
  f0 := fun _ h => h
  f1 := fun _ h => .inl h
  f2 := hF
  ents := fun id e hl => by simp [St.start, look] at hl
  new := fun id e hl => by simp [St.start, look] at hl
  excl := fun id e b hl => by simp [St.start, look] at hl
  inj := fun id id' e e' b hl => by simp [St.start, look] at hl
  tmps := fun t av ht => by
   obtain ⟨_, h2⟩ := look_numbered 0 args t av ht
   have hlt : t < vals.length := by rw [hl]; exact (List.getElem?_eq_some_iff.1 h2).1
   refine ⟨vals[t], ?_, hv t av _ h2 (List.getElem?_eq_getElem hlt)⟩
   rw [Array.getElem?_append]
   simp [hlt]
  size := by simp [St.start]; omega
  dfs := rfl
  kn := rfl
  kv := fun id e sz ver own es hl => by simp [St.start, look] at hl }
 refine wp_mono (h F (fun _ => False) w _ w ⟨_, hrep⟩) fun e a' w' ⟨st', ⟨x, hRx, hq⟩, κ, hr⟩ => ?_
 have hmain : (match resOf T st' fn.results.toList with | some r => (match st' with | ⟨_, h, n, _⟩ => canonQ [0] ⟨[(0, r)], h, n, 1⟩ { t := [(0, res x)], h := h' x, n := n' x, N := 1 }) | none => False) → a'.defers = [] ∧ ∃ v, (results fn a'.tmps).run P w' = .ok v w' ∧ ∃ x, R x ∧ ∃ v' κ' st' a', Ending.returned v = .returned v' ∧ st'.h = h' x ∧ st'.n = n' x ∧ RepK F (fun _ => False) w st' a' w' κ' ∧ AVRep w' κ' (h' x) (res x) v' := fun hq => by
  refine ⟨hr.dfs, ?_⟩
  split at hq
  ·rename_i r hres
   obtain ⟨v, h1, h2⟩ := resOf_sound hT hr hres
   refine ⟨v, h1, x, hRx, v, ?_⟩
   have hr2 : RepK F (fun _ => False) w { st' with t := [(0, r)], N := 1 } { tmps := #[v], defers := [] } w' κ := {
    below := hr.below, f0 := hr.f0, f1 := hr.f1, f2 := hr.f2, ents := hr.ents, new := hr.new, excl := hr.excl, inj := hr.inj, dfs := rfl, kn := hr.kn, kv := hr.kv, size := rfl
    tmps := fun t av ht => by
     simp only [look] at ht
     split at ht
     ·rename_i hb
      obtain rfl := beq_iff hb
      cases ht
      exact ⟨v, rfl, h2⟩
     ·cases ht }
   cases st'
   simp only at hq
   obtain ⟨κ2, hr3⟩ := canonQ_spec hq ⟨κ, hr2⟩
   obtain ⟨v', hv', hav⟩ := hr3.tmps 0 (res x) rfl
   obtain rfl : v = v' := by simpa using hv'
   exact ⟨κ2, _, _, rfl, rfl, rfl, hr3, hav⟩
  ·exact hq.elim
 simp only [postOf] at hq
 cases e with
 | normal => exact hmain hq
 | ret => exact hmain hq
 | _ => exact hq.elim
theorem FnSpecX.intro (hT : TOk P T) {f : FuncId} {fn : Func} {c : Code} {args : List AV} {X : Type} {R : X → Prop} {res : X → AV} {h' : X → List (Nat × Ent)} {n' : X → Nat} (hf : P.funcs[f]? = some fn) (hb : fn.body = some c) (hn : (fn.name == "runtime.NumGoroutine") = false)
  {N : Nat} (hN : fn.ntmps = N) (hlen : Nat.ble args.length N = true)
  (h : wpH P T c (St.start args N) (fun e st' => ∃ x, R x ∧ postOf T fn.results.toList { t := [(0, res x)], h := h' x, n := n' x, N := 1 } e st')) : FnSpecX P f args X R res h' n' :=
 FnSpecX.introT hT hf hb hn hN hlen (wpH_sound hT c _ _ h)
theorem FnSpecJ.intro (hT : TOk P T) {f : FuncId} {fn : Func} {c : Code} {args : List AV} {hs : List (Nat × Ent)} {n : Nat} {res : AV} (hf : P.funcs[f]? = some fn) (hb : fn.body = some c) (hn : (fn.name == "runtime.NumGoroutine") = false)
  {N : Nat} (hN : fn.ntmps = N) (hlen : Nat.ble args.length N = true) (hfl : res.flat = true) (hown : ownAll hs = true)
  (h : wpH P T c ⟨numbered 0 args, hs, n, N⟩ (postOf T fn.results.toList { t := [(0, res)], h := [], n := 0, N := 1 })) : FnSpecJ P f args hs n res := by
 subst hN
 refine ⟨⟨fn, hf, by rw [hb]; rfl, hn⟩, hfl, fun F0 L w0 w κ vals hr => ?_⟩
 have hsz : vals.length = args.length := by have := hr.size; simpa using this
 have hle : vals.length ≤ fn.ntmps := by rw [hsz]; exact Nat.le_of_ble_eq_true hlen
 refine calls_of_wp hf hb ?_
 have hrep : RepK κ.F (lentB κ hs) w ⟨numbered 0 args, hs, n, fn.ntmps⟩ { tmps := vals.toArray ++ Array.replicate (fn.ntmps - vals.toArray.size) undef, defers := [] } w κ := {
  below := Bel.refl _ _
  f0 := fun _ h => h
  f1 := fun _ h => .inl h
  f2 := hr.f2
  ents := hr.ents
  new := hr.new
  excl := fun id e b hl hb => ⟨fun _ => .inr ⟨id, e, hl, hb⟩, (hr.excl id e b hl hb).2⟩
  inj := hr.inj
  tmps := fun t av ht => by
   obtain ⟨v, hv, hx⟩ := hr.tmps t av ht
   have hlt : t < vals.length := by have := (Array.getElem?_eq_some_iff.1 hv).1; simpa using this
   refine ⟨v, ?_, hx⟩
   rw [Array.getElem?_append, if_pos (by simpa using hlt)]
   exact hv
  size := by simp; omega
  dfs := rfl
  kn := hr.kn
  kv := hr.kv }
 refine wp_mono (wpH_sound hT c _ _ h κ.F (lentB κ hs) w _ w ⟨_, hrep⟩) fun e a' w' ⟨st', hq, κ2, hr'⟩ => ?_
 have hmain : (match resOf T st' fn.results.toList with | some r => (match st' with | ⟨_, h, n, _⟩ => canonQ [0] ⟨[(0, r)], h, n, 1⟩ { t := [(0, res)], h := [], n := 0, N := 1 }) | none => False) → a'.defers = [] ∧ ∃ v, (results fn a'.tmps).run P w' = .ok v w' ∧ ∃ v', Ending.returned v = .returned v' ∧ AVRep w' (con0 fun _ => False) [] res v' ∧ GrewX (lentB κ hs) w w' := fun hq => by
  refine ⟨hr'.dfs, ?_⟩
  split at hq
  ·rename_i r hres
   obtain ⟨v, h1, h2⟩ := resOf_sound hT hr' hres
   refine ⟨v, h1, v, rfl, ?_, ⟨hr'.below.os, hr'.below.tape, hr'.below.output, hr'.below.size, fun k hk hne => hr'.below.block k hk hne⟩⟩
   have hr2 : RepK κ.F (lentB κ hs) w { st' with t := [(0, r)], N := 1 } { tmps := #[v], defers := [] } w' κ2 := {
    below := hr'.below, f0 := hr'.f0, f1 := hr'.f1, f2 := hr'.f2, ents := hr'.ents, new := hr'.new, excl := hr'.excl, inj := hr'.inj, dfs := rfl, kn := hr'.kn, kv := hr'.kv, size := rfl
    tmps := fun t av ht => by
     simp only [look] at ht
     split at ht
     ·rename_i hb
      obtain rfl := beq_iff hb
      cases ht
      exact ⟨v, rfl, h2⟩
     ·cases ht }
   cases st'
   simp only at hq
   obtain ⟨κ3, hr3⟩ := canonQ_spec hq ⟨κ2, hr2⟩
   obtain ⟨v', hv', hav⟩ := hr3.tmps 0 res rfl
   obtain rfl : v = v' := by simpa using hv'
   exact hav.flat hfl
  ·exact hq.elim
 simp only [postOf] at hq
 cases e with
 | normal => exact hmain hq
 | ret => exact hmain hq
 | _ => exact hq.elim
def lentArgs (v0 : Value) (p : Nat) (args : List AV) : List AV := args.set p (.w (.ref 0 0 none) v0)
def postM (T : TypeId → Option TI) (rs : List ResultVar) (p : Nat) (tgt : St) (e : Exit) (st' : St) : Prop :=
 match e with
 | .normal | .ret => match resOf T st' rs, look st'.t p with | some r, some x => (match st' with | ⟨_, h, n, _⟩ => canonQ [0, 1] ⟨[(0, r), (1, x)], h, n, 2⟩ tgt) | _, _ => False
 | _ => False
theorem FnSpecM.intro (hT : TOk P T) {f : FuncId} {fn : Func} {c : Code} {args : List AV} {e sz : Nat} {es es' : List (List D)} {res : AV} (p : Nat) (hf : P.funcs[f]? = some fn) (hb : fn.body = some c) (hn : (fn.name == "runtime.NumGoroutine") = false) {N : Nat} (hN : fn.ntmps = N) (hlen : Nat.ble args.length N = true)
  (hp : args[p]? = some (.c (.ref 0 0 none))) (hes : es'.length = es.length) (hfl : res.flat = true) (hfr : FlatR es')
  (h : ∀ v0, wpH P T c ⟨numbered 0 (lentArgs v0 p args), [(0, .arr e sz 0 .own es)], 1, N⟩ (postM T fn.results.toList p { t := [(0, res), (1, .w (.ref 0 0 none) v0)], h := [(0, .arr e sz 0 .own es')], n := 1, N := 2 })) : FnSpecM P f args e sz es res es' := by
 subst hN
 refine ⟨⟨fn, hf, by rw [hb]; rfl, hn⟩, hes, hfl, hfr, fun F w v0 vals hF ho hl hv => ?_⟩
 have hle : vals.length ≤ fn.ntmps := by rw [hl]; exact Nat.le_of_ble_eq_true hlen
 refine calls_of_wp hf hb ?_
 obtain ⟨A, c0, hA, hc0⟩ := own_shape ho
 have hpv : vals[p]? = some v0 := by
  have hlt : p < vals.length := by rw [hl]; exact (List.getElem?_eq_some_iff.1 hp).1
  have := hv p _ _ hp (List.getElem?_eq_getElem hlt)
  obtain ⟨_, _, _, h4⟩ := this
  obtain ⟨_, a1, n1, c1, a2, c2, h5, h6, _, _, h7⟩ := h4 e sz .own es rfl
  obtain ⟨_, rfl, rfl⟩ := h7 rfl
  simp only [conM] at h5
  rw [hA] at h5
  rw [List.getElem?_eq_getElem hlt, h6, hA]
  simp only [Value.slice.injEq] at h5
  obtain ⟨rfl, _, rfl⟩ := h5
  rfl
 have hrep : RepK F (fun b => v0.ownBlock = some b) w ⟨numbered 0 (lentArgs v0 p args), [(0, .arr e sz 0 .own es)], 1, fn.ntmps⟩ { tmps := vals.toArray ++ Array.replicate (fn.ntmps - vals.toArray.size) undef, defers := [] } w (conM F v0) := {
  below := Bel.refl _ _
  f0 := fun _ h => h
  f1 := fun _ h => .inl h
  f2 := fun b hb => (hF b hb).1
  ents := fun id x hl => by
   simp only [look] at hl
   split at hl
   ·cases hl; exact ho
   ·cases hl
  new := fun id x hl => by
   simp only [look] at hl
   split at hl
   ·rename_i hb; rw [← beq_iff hb]; exact Nat.zero_lt_one
   ·cases hl
  excl := fun id x b hl hb => by
   simp only [look] at hl
   split at hl
   ·cases hl
    rw [has_own] at hb
    exact ⟨fun _ => .inr hb, fun _ hFb => (hF b hFb).2 hb, fun hf => by cases hf⟩
   ·cases hl
  inj := fun id id' x x' b hl hl' hb hb' => by
   simp only [look] at hl hl'
   split at hl <;> split at hl'
   ·rename_i h1 h2; rw [← beq_iff h1, ← beq_iff h2]
   ·cases hl'
   ·cases hl
   ·cases hl
  tmps := fun t av ht => by
   obtain ⟨_, h2⟩ := look_numbered 0 _ t av ht
   rw [Nat.sub_zero] at h2
   simp only [lentArgs, List.getElem?_set] at h2
   have hlt : t < vals.length := by
    rw [hl]
    split at h2
    ·rename_i he; rw [← he]; exact (List.getElem?_eq_some_iff.1 hp).1
    ·exact (List.getElem?_eq_some_iff.1 h2).1
   refine ⟨vals[t], ?_, ?_⟩
   ·rw [Array.getElem?_append]
    simp [hlt]
   ·split at h2
    ·rename_i he
     subst he
     split at h2
     ·cases h2
      have e1 : vals[p] = v0 := by rw [List.getElem?_eq_getElem hlt] at hpv; exact Option.some.inj hpv
      refine ⟨e1, ?_⟩
      exact hv p _ _ hp (List.getElem?_eq_getElem hlt)
     ·cases h2
    ·exact hv t av _ h2 (List.getElem?_eq_getElem hlt)
  size := by simp; omega
  dfs := rfl
  kn := rfl
  kv := fun id e sz ver own es hl => by
   simp only [look] at hl
   split at hl
   ·cases hl; rfl
   ·cases hl }
 refine wp_mono (wpH_sound hT c _ _ (h v0) F _ w _ w ⟨_, hrep⟩) fun ex a' w' ⟨st', hq, κ, hr⟩ => ?_
 have hmain : (match resOf T st' fn.results.toList, look st'.t p with | some r, some x => (match st' with | ⟨_, h, n, _⟩ => canonQ [0, 1] ⟨[(0, r), (1, x)], h, n, 2⟩ { t := [(0, res), (1, .w (.ref 0 0 none) v0)], h := [(0, .arr e sz 0 .own es')], n := 1, N := 2 }) | _, _ => False) →
   a'.defers = [] ∧ ∃ v, (results fn a'.tmps).run P w' = .ok v w' ∧ ∃ v', Ending.returned v = .returned v' ∧ AVRep w' (con0 F) [] res v' ∧ GrewX (fun b => v0.ownBlock = some b) w w' ∧ OwnRep w' (fun _ => False) e sz v0 es' := fun hq => by
  refine ⟨hr.dfs, ?_⟩
  split at hq
  ·rename_i r x hres hx
   obtain ⟨v, h1, h2⟩ := resOf_sound hT hr hres
   obtain ⟨vx, hvx, hxr⟩ := hr.tmps p x hx
   refine ⟨v, h1, v, rfl, ?_⟩
   have hr2 : RepK F (fun b => v0.ownBlock = some b) w { st' with t := [(0, r), (1, x)], N := 2 } { tmps := #[v, vx], defers := [] } w' κ := {
    below := hr.below, f0 := hr.f0, f1 := hr.f1, f2 := hr.f2, ents := hr.ents, new := hr.new, excl := hr.excl, inj := hr.inj, dfs := rfl, kn := hr.kn, kv := hr.kv, size := rfl
    tmps := fun t av ht => by
     simp only [look] at ht
     split at ht
     ·rename_i hb
      obtain rfl := beq_iff hb
      cases ht
      exact ⟨v, rfl, h2⟩
     ·split at ht
      ·rename_i hb
       obtain rfl := beq_iff hb
       cases ht
       exact ⟨vx, rfl, hxr⟩
      ·cases ht }
   cases st'
   simp only at hq
   obtain ⟨κ2, hr3⟩ := canonQ_spec hq ⟨κ, hr2⟩
   obtain ⟨v', hv', hav⟩ := hr3.tmps 0 res rfl
   obtain rfl : v = v' := by simpa using hv'
   obtain ⟨v1, hv1, hav1⟩ := hr3.tmps 1 _ rfl
   obtain ⟨rfl, hcv⟩ := hav1
   obtain ⟨_, _, _, h4⟩ := hcv
   have h4 := h4 e sz .own es' rfl
   obtain ⟨_, a1, n1, c1, a2, c2, h5, h6, _, _, h7⟩ := h4
   obtain ⟨_, rfl, rfl⟩ := h7 rfl
   have hent : OwnRep w' κ2.F e sz (κ2.val 0) es' := hr3.ents 0 _ rfl
   obtain ⟨A', c', hA', _⟩ := own_shape hent
   have hveq : κ2.val 0 = v1 := by
    rw [h6, hA']
    rw [hA'] at h5
    simp only [Value.slice.injEq] at h5
    obtain ⟨rfl, _, rfl⟩ := h5
    rfl
   rw [hveq] at hent
   exact ⟨hav.flat hfl, ⟨hr.below.os, hr.below.tape, hr.below.output, hr.below.size, fun k hk hne => hr.below.block k hk hne⟩, hent.flat hfr⟩
  ·exact hq.elim
 simp only [postM] at hq
 cases ex with
 | normal => exact hmain hq
 | ret => exact hmain hq
 | _ => exact hq.elim
def lentArgsB (v0 : Value) (p : Nat) (args : List AV) : List AV := args.set p (.w (.ptr 0 0) v0)
def postB (T : TypeId → Option TI) (rs : List ResultVar) (p : Nat) (tgt : St) (e : Exit) (st' : St) : Prop :=
 match e with
 | .normal | .ret => match resOf T st' rs, look st'.t p with | some r, some x => (match st' with | ⟨_, h, n, _⟩ => canonQ [1, 0] ⟨[(0, r), (1, x)], h, n, 2⟩ tgt) | _, _ => False
 | _ => False
theorem FnSpecB.introT (hT : TOk P T) {f : FuncId} {fn : Func} {c : Code} {args : List AV} {ty : TypeId} {cs : List CV} {X : Type} {R : X → Prop} {res : X → AV} {cs' : X → List CV} {h' : X → List (Nat × Ent)} {n' : X → Nat} (p : Nat) (hf : P.funcs[f]? = some fn) (hb : fn.body = some c) (hn : (fn.name == "runtime.NumGoroutine") = false)
  {N : Nat} (hN : fn.ntmps = N) (hlen : Nat.ble args.length N = true) (hp : args[p]? = some (.c (.ptr 0 0)))
  (h : ∀ v0, Tri P c ⟨numbered 0 (lentArgsB v0 p args), [(0, .box ty cs)], 1, N⟩ (fun e st' => ∃ x, R x ∧ postB T fn.results.toList p { t := [(1, .w (.ptr 0 0) v0), (0, res x)], h := (0, .box ty (cs' x)) :: h' x, n := n' x, N := 2 } e st')) : FnSpecB P f args ty cs X R res cs' h' n' := by
 subst hN
 refine ⟨⟨fn, hf, by rw [hb]; rfl, hn⟩, fun F w b vals hF hbox hl hv => ?_⟩
 have hle : vals.length ≤ fn.ntmps := by rw [hl]; exact Nat.le_of_ble_eq_true hlen
 refine calls_of_wp hf hb ?_
 obtain ⟨us, hg, hus⟩ := hbox
 have hlt0 : p < vals.length := by rw [hl]; exact (List.getElem?_eq_some_iff.1 hp).1
 have hpv : vals[p] = .pointer (some ⟨b, 0, none⟩) := (hv p _ _ hp (List.getElem?_eq_getElem hlt0)).2
 have hal : ∀ m e sz ver own es, look [(0, Ent.box ty cs)] m = some (.arr e sz ver own es) → look ([] : List (Nat × Ent)) m = some (.arr e sz ver own es) := fun m e sz ver own es he => by
  simp only [look] at he
  split at he
  ·cases he
  ·cases he
 have hrep : RepK F (fun c => c = b) w ⟨numbered 0 (lentArgsB vals[p] p args), [(0, .box ty cs)], 1, fn.ntmps⟩ { tmps := vals.toArray ++ Array.replicate (fn.ntmps - vals.toArray.size) undef, defers := [] } w (conB F b) := {
  below := Bel.refl _ _
  f0 := fun _ h => h
  f1 := fun _ h => .inl h
  f2 := fun c hc => (hF c hc).1
  ents := fun id x hl => by
   simp only [look] at hl
   split at hl
   ·cases hl
    exact ⟨us, hg, hus.map fun x v hx => hx.alike hal⟩
   ·cases hl
  new := fun id x hl => by
   simp only [look] at hl
   split at hl
   ·rename_i hb; rw [← beq_iff hb]; exact Nat.zero_lt_one
   ·cases hl
  excl := fun id x c hl hc => by
   simp only [look] at hl
   split at hl
   ·cases hl
    simp only [Ent.has, conB] at hc
    exact ⟨fun _ => .inr hc.symm, fun _ hFb => (hF c hFb).2 hc.symm, fun hf => by cases hf⟩
   ·cases hl
  inj := fun id id' x x' b hl hl' hb hb' => by
   simp only [look] at hl hl'
   split at hl <;> split at hl'
   ·rename_i h1 h2; rw [← beq_iff h1, ← beq_iff h2]
   ·cases hl'
   ·cases hl
   ·cases hl
  tmps := fun t av ht => by
   obtain ⟨_, h2⟩ := look_numbered 0 _ t av ht
   rw [Nat.sub_zero] at h2
   simp only [lentArgsB, List.getElem?_set] at h2
   have hlt : t < vals.length := by
    rw [hl]
    split at h2
    ·rename_i he; rw [← he]; exact (List.getElem?_eq_some_iff.1 hp).1
    ·exact (List.getElem?_eq_some_iff.1 h2).1
   refine ⟨vals[t], ?_, ?_⟩
   ·rw [Array.getElem?_append]
    simp [hlt]
   ·split at h2
    ·rename_i he
     subst he
     split at h2
     ·cases h2
      exact ⟨rfl, Nat.zero_lt_one, hpv⟩
     ·cases h2
    ·exact (hv t av _ h2 (List.getElem?_eq_getElem hlt)).map fun x v hx => hx.alike hal
  size := by simp; omega
  dfs := rfl
  kn := rfl
  kv := fun id e sz ver own es hl => by
   simp only [look] at hl
   split at hl
   ·cases hl
   ·cases hl }
 refine wp_mono ((h vals[p]) F _ w _ w ⟨_, hrep⟩) fun ex a' w' ⟨st', ⟨x, hRx, hq⟩, κ, hr⟩ => ?_
 have hmain : (match resOf T st' fn.results.toList, look st'.t p with | some r, some xx => (match st' with | ⟨_, h, n, _⟩ => canonQ [1, 0] ⟨[(0, r), (1, xx)], h, n, 2⟩ { t := [(1, .w (.ptr 0 0) vals[p]), (0, res x)], h := (0, .box ty (cs' x)) :: h' x, n := n' x, N := 2 }) | _, _ => False) →
   a'.defers = [] ∧ ∃ v, (results fn a'.tmps).run P w' = .ok v w' ∧ ∃ x, R x ∧ ∃ v' κ' st' a', Ending.returned v = .returned v' ∧ st'.h = (0, .box ty (cs' x)) :: h' x ∧ st'.n = n' x ∧ RepK F (fun c => c = b) w st' a' w' κ' ∧ κ'.bl 0 = b ∧ AVRep w' κ' st'.h (res x) v' := fun hq => by
  refine ⟨hr.dfs, ?_⟩
  split at hq
  ·rename_i r xx hres hx
   obtain ⟨v, h1, h2⟩ := resOf_sound hT hr hres
   obtain ⟨vx, hvx, hxr⟩ := hr.tmps p xx hx
   refine ⟨v, h1, x, hRx, v, ?_⟩
   have hr2 : RepK F (fun c => c = b) w { st' with t := [(0, r), (1, xx)], N := 2 } { tmps := #[v, vx], defers := [] } w' κ := {
    below := hr.below, f0 := hr.f0, f1 := hr.f1, f2 := hr.f2, ents := hr.ents, new := hr.new, excl := hr.excl, inj := hr.inj, dfs := rfl, kn := hr.kn, kv := hr.kv, size := rfl
    tmps := fun t av ht => by
     simp only [look] at ht
     split at ht
     ·rename_i hb
      obtain rfl := beq_iff hb
      cases ht
      exact ⟨v, rfl, h2⟩
     ·split at ht
      ·rename_i hb
       obtain rfl := beq_iff hb
       cases ht
       exact ⟨vx, rfl, hxr⟩
      ·cases ht }
   cases st'
   simp only at hq
   obtain ⟨κ2, hr3⟩ := canonQ_spec hq ⟨κ, hr2⟩
   obtain ⟨v', hv', hav⟩ := hr3.tmps 0 (res x) rfl
   obtain rfl : v = v' := by simpa using hv'
   obtain ⟨v1, hv1, hav1⟩ := hr3.tmps 1 _ rfl
   obtain ⟨rfl, hcv⟩ := hav1
   have hbl : κ2.bl 0 = b := by
    have h5 := hcv.2
    rw [hpv] at h5
    simp only [Value.pointer.injEq, Option.some.injEq, Addr.mk.injEq] at h5
    exact h5.1.symm
   exact ⟨κ2, _, _, rfl, rfl, rfl, hr3, hbl, hav⟩
  ·exact hq.elim
 simp only [postB] at hq
 cases ex with
 | normal => exact hmain hq
 | ret => exact hmain hq
 | _ => exact hq.elim
theorem FnSpecB.intro (hT : TOk P T) {f : FuncId} {fn : Func} {c : Code} {args : List AV} {ty : TypeId} {cs : List CV} {X : Type} {R : X → Prop} {res : X → AV} {cs' : X → List CV} {h' : X → List (Nat × Ent)} {n' : X → Nat} (p : Nat) (hf : P.funcs[f]? = some fn) (hb : fn.body = some c) (hn : (fn.name == "runtime.NumGoroutine") = false)
  {N : Nat} (hN : fn.ntmps = N) (hlen : Nat.ble args.length N = true) (hp : args[p]? = some (.c (.ptr 0 0)))
  (h : ∀ v0, wpH P T c ⟨numbered 0 (lentArgsB v0 p args), [(0, .box ty cs)], 1, N⟩ (fun e st' => ∃ x, R x ∧ postB T fn.results.toList p { t := [(1, .w (.ptr 0 0) v0), (0, res x)], h := (0, .box ty (cs' x)) :: h' x, n := n' x, N := 2 } e st')) : FnSpecB P f args ty cs X R res cs' h' n' :=
 FnSpecB.introT hT p hf hb hn hN hlen hp fun v0 => wpH_sound hT c _ _ (h v0)
end
end Go.H
