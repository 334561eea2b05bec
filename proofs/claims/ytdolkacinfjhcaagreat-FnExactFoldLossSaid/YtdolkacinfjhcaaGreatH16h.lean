/- Framework H, part 16c: is a slice nil. -/
import Derived.Test.YtdolkacinfjhcaaGreatH16b
set_option linter.unusedSimpArgs false
set_option linter.unusedVariables false
set_option linter.constructorNameAsVariable false
namespace Go.H
open Go.RowKit
section
variable {P : Program} {T : TypeId → Option TI} {F0 L : Nat → Prop} {w0 w w' : World} {st : St} {a : Act} {κ κ' : Con} {hh : List (Nat × Ent)}
def nilTest (op : BinOp) (y : AV) : Option Bool :=
 match op, y with
 | .eql, .c (.nl _) => some true
 | .neq, .c (.nl _) => some false
 | _, _ => none
def nilB (q b : Bool) : Bool := match q with | true => b | false => match b with | true => false | false => true
def nilOp (q : Bool) : BinOp := match q with | true => .eql | false => .neq
def nilWp (T : TypeId → Option TI) (st : St) (t : TypeId) (q : Bool) (x : AV) (dst : Option Tmp) (K : St → Prop) : Prop :=
 match T t with
 | some ti => match ti.k with
  | .slice _ => match x with
   | .c (.d (.sl _ es)) => ∀ b : Bool, (b = true → es = []) → setT st dst (.c (.d (.bool (nilB q b)))) K
   | .c (.nl _) => setT st dst (.c (.d (.bool (nilB q true)))) K
   | _ => False
  | _ => False
 | none => False
theorem run_nil_eq (w : World) (t e : TypeId) (b : Option Addr) (n c : Nat) (h : P.underlying t = some (.slice e)) (q : Bool) :
  (binOp (nilOp q) t (.slice b n c) (.slice none 0 0)).run P w = .ok (.bool (nilB q b.isNone)) w := by
 have h1 : ∀ d : Nat, (Op.equalIn (d + 1) t (.slice b n c) (.slice none 0 0)).run P w = .ok b.isNone w := fun d => by cases b <;> simp [Op.equalIn, run_underlying h]
 cases q
 ·simp only [binOp, nilOp]
  simp [Op.equal, Op.maxDepth, h1 9999, nilB]
  cases b <;> rfl
 ·simp only [binOp, nilOp]
  simp [Op.equal, Op.maxDepth, h1 9999, nilB]
theorem nil_tri (hT : TOk P T) {o : Oper} {op : BinOp} {t : TypeId} {x y : Operand} {ty : TypeId} (ho : o.op = .binOp op t x y ty) {q : Bool} (hq : nilTest op (evO st y) = some q) {K : St → Prop} (h : nilWp T st t q (evO st x) o.dst K) : OpTri P o st K := by
 have hop : op = nilOp q ∧ ∃ z, evO st y = .c (.nl z) := by
  generalize evO st y = yy at hq
  unfold nilTest at hq
  split at hq
  ·cases hq; exact ⟨rfl, _, rfl⟩
  ·cases hq; exact ⟨rfl, _, rfl⟩
  ·cases hq
 obtain ⟨rfl, z, hy⟩ := hop
 unfold nilWp at h
 split at h
 ·rename_i ti hti
  have hk := (hT _ _ hti).k
  split at h
  ·rename_i e hke
   rw [hke] at hk
   have hk' : P.underlying t = some (.slice e) := hk
   have hexec : ∀ (a : Act) (w : World) (b : Option Addr) (n c : Nat), a.eval x = .slice b n c → a.eval y = .slice none 0 0 → (execOp a.eval o).run P w = .ok (.value (.bool (nilB q b.isNone))) w := fun a w b n c hx hy => by
    have := run_nil_eq (P := P) w t e b n c hk' q
    cases q <;> simp_all [execOp, eqGuard, nilOp]
   split at h
   ·rename_i sz es hx
    refine opTri_value fun F0 L w0 a w κ hr => ?_
    have hx' := evO_rep hr x
    rw [hx] at hx'
    have hy' := evO_rep hr y
    rw [hy] at hy'
    have hy2 : a.eval y = .slice none 0 0 := hy'
    generalize hv : a.eval x = v at hx'
    cases hx' with
    | sl A len cap sz es val hl hc he ha hrd hs =>
     have hb : A.isNone = true → es = [] := fun hn => by
      rcases Decidable.em (es = []) with g | g
      ·exact g
      ·obtain ⟨B, hB, _⟩ := ha g
       rw [hB] at hn; cases hn
     obtain ⟨st', k1, k2⟩ := setT_sound (h _ hb) hr (v := .bool (nilB q A.isNone)) (.bool _)
     exact ⟨_, w, hexec a w A len cap hv hy2, st', κ, k1, k2⟩
   ·rename_i z' hx
    refine opTri_value fun F0 L w0 a w κ hr => ?_
    have hx' := evO_rep hr x
    rw [hx] at hx'
    have hx2 : a.eval x = .slice none 0 0 := hx'
    have hy' := evO_rep hr y
    rw [hy] at hy'
    have hy2 : a.eval y = .slice none 0 0 := hy'
    obtain ⟨st', k1, k2⟩ := setT_sound h hr (v := .bool (nilB q true)) (.bool _)
    exact ⟨_, w, hexec a w none 0 0 hx2 hy2, st', κ, k1, k2⟩
   ·exact h.elim
  ·exact h.elim
 ·exact h.elim
end
end Go.H
namespace Go.H
open Go.RowKit
section
variable {P : Program} {T : TypeId → Option TI} {F0 L : Nat → Prop} {w0 w w' : World} {st : St} {a : Act} {κ κ' : Con} {hh : List (Nat × Ent)}
def CV.noN : CV → Bool
 | .nst .. => false
 | .nep .. => false
 | _ => true
def AV.noN : AV → Bool
 | .c x => x.noN
 | .agg cs => cs.all CV.noN
 | .tup xs => xs.all fun x => x.2.all CV.noN
 | .w x _ => x.noN
 | .u => true
def Ent.noN : Ent → Bool
 | .box _ cs => cs.all CV.noN
 | .arr .. => true
def noNT : List (Nat × AV) → Bool
 | [] => true
 | (_, x) :: r => x.noN && noNT r
def noNH : List (Nat × Ent) → Bool
 | [] => true
 | (_, x) :: r => x.noN && noNH r
def St.noN (st : St) : Bool := noNT st.t && noNH st.h
theorem noNT_look : ∀ {l : List (Nat × AV)}, noNT l = true → ∀ k x, look l k = some x → x.noN = true
 | [], _, k, x, h => by simp [look] at h
 | (j, y) :: r, hn, k, x, h => by
  simp only [noNT, Bool.and_eq_true] at hn
  simp only [look] at h
  split at h
  ·cases h; exact hn.1
  ·exact noNT_look hn.2 k x h
theorem noNH_look : ∀ {l : List (Nat × Ent)}, noNH l = true → ∀ k x, look l k = some x → x.noN = true
 | [], _, k, x, h => by simp [look] at h
 | (j, y) :: r, hn, k, x, h => by
  simp only [noNH, Bool.and_eq_true] at hn
  simp only [look] at h
  split at h
  ·cases h; exact hn.1
  ·exact noNH_look hn.2 k x h
theorem CVs.mapN {nn : Bool} {h' : List (Nat × Ent)} (hcv : ∀ x v, (nn = true → x.noN = true) → CVRep w κ hh x v → CVRep w' κ' h' x v) {cs : List CV} {vs : List Value} (hn : nn = true → cs.all CV.noN = true) (h : CVs w κ hh cs vs) : CVs w' κ' h' cs vs :=
 ⟨h.1, fun j c u hc hu => hcv _ _ (fun q => List.all_eq_true.1 (hn q) c (List.mem_of_getElem? hc)) (h.2 j c u hc hu)⟩
theorem AVRep.mapN {nn : Bool} {h' : List (Nat × Ent)} (hcv : ∀ x v, (nn = true → x.noN = true) → CVRep w κ hh x v → CVRep w' κ' h' x v) {x : AV} {v : Value} (hn : nn = true → x.noN = true) (h : AVRep w κ hh x v) : AVRep w' κ' h' x v := by
 cases x with
 | c x => exact hcv _ _ hn h
 | agg cs => obtain ⟨vs, q, hv⟩ := h; exact ⟨vs, q, hv.mapN hcv hn⟩
 | tup xs =>
  obtain ⟨vs, q, hl, hv⟩ := h
  refine ⟨vs, q, hl, fun j x v hx hu => ?_⟩
  have := hv j x v hx hu
  have hx' : nn = true → x.2.all CV.noN = true := fun q => List.all_eq_true.1 (hn q) x (List.mem_of_getElem? hx)
  unfold TVRep at *
  split at this
  ·obtain ⟨us, q, hus⟩ := this; exact ⟨us, q, hus.mapN hcv hx'⟩
  ·exact this.mapN hcv hx'
 | w x u => exact ⟨h.1, hcv _ _ hn h.2⟩
 | u => trivial
def Turns (st : St) (κ : Con) (h' : List (Nat × Ent)) (id b : Nat) : Prop := ∃ i x, look st.h i = some x ∧ x.own = true ∧ x.has κ i b ∧ (i = id ∨ look h' i = none)
theorem RepK.turn (h : RepK F0 L w0 st a w κ) {id : Nat} {e' : Ent} {h' : List (Nat × Ent)} (hid : id < st.n) (hown' : e'.own = true)
  (hsub : ∀ m x, m ≠ id → look h' m = some x → look st.h m = some x)
  (hF : κ'.F = κ.F) (hbl : κ'.bl = κ.bl) (hn : κ'.n = κ.n) (hother : ∀ i, i ≠ id → κ'.val i = κ.val i ∧ κ'.vr i = κ.vr i ∧ κ'.nv i = κ.nv i)
  (g1 : w'.os = w.os) (g2 : w'.tape = w.tape) (g3 : w'.output = w.output) (g4 : w.heap.size ≤ w'.heap.size) (g5 : ∀ k, k < w.heap.size → ¬ Turns st κ h' id k → w'.heap[k]? = w.heap[k]?)
  (he' : EntRep w' κ' (lput h' id e') id e') (hb' : ∀ b, e'.has κ' id b → Turns st κ h' id b ∨ w.heap.size ≤ b)
  (nn : Bool) (hnn : nn = true → st.noN = true)
  (hcv : ∀ x v, (nn = true → x.noN = true) → CVRep w κ st.h x v → CVRep w κ' (lput h' id e') x v) (hv' : ∀ e0 sz ver own es, e' = .arr e0 sz ver own es → κ'.vr id = ver) :
  RepK F0 L w0 { st with h := lput h' id e' } a w' κ' := by
 have hFk : ∀ b, κ'.F b → w'.heap[b]? = w.heap[b]? := fun b hb => by
  rw [hF] at hb
  refine g5 b (h.f2 b hb) (fun ⟨i, x, q1, q2, q3, _⟩ => ?_)
  exact (h.excl i x b q1 q3).2.1 q2 hb
 have hcv' : ∀ x v, (nn = true → x.noN = true) → CVRep w κ st.h x v → CVRep w' κ' (lput h' id e') x v := fun x v hnx hx => (hcv x v hnx hx).keep hFk
 have hblk : ∀ (i : Nat) (x : Ent) (b : Nat), i ≠ id → x.has κ' i b = x.has κ i b := fun i x b hi => by
  cases x <;> simp only [Ent.has, Con.fp, hbl, (hother i hi).1, (hother i hi).2.2]
 have hlook : ∀ (i : Nat) (x : Ent), look (lput h' id e') i = some x → (i = id ∧ x = e') ∨ (i ≠ id ∧ look h' i = some x ∧ look st.h i = some x) := fun i x hi => by
  rw [look_lput] at hi
  split at hi
  ·rename_i he; cases hi; exact .inl ⟨he.symm, rfl⟩
  ·rename_i hne; exact .inr ⟨fun h => hne h.symm, hi, hsub i x (fun h => hne h.symm) hi⟩
 have hnot : ∀ (i : Nat) (x : Ent) (b : Nat), i ≠ id → look h' i = some x → look st.h i = some x → x.has κ i b → ¬ Turns st κ h' id b := fun i x b hne hi1 hi2 hb ⟨i2, x2, q1, q2, q3, q4⟩ => by
  obtain rfl := h.inj i i2 x x2 b hi2 q1 hb q3
  rcases q4 with q4 | q4
  ·exact hne q4
  ·rw [q4] at hi1; cases hi1
 have hnh : nn = true → noNH st.h = true := fun q => by have := hnn q; simp only [St.noN, Bool.and_eq_true] at this; exact this.2
 have hnt : nn = true → noNT st.t = true := fun q => by have := hnn q; simp only [St.noN, Bool.and_eq_true] at this; exact this.1
 refine { below := ?_, f0 := fun b hb => by rw [hF]; exact h.f0 b hb, f1 := fun b hb => h.f1 b (hF ▸ hb), f2 := fun b hb => Nat.lt_of_lt_of_le (h.f2 b (hF ▸ hb)) g4, ents := ?_, new := ?_, excl := ?_, inj := ?_, tmps := ?_, size := h.size, dfs := h.dfs, kn := hn.trans h.kn, kv := ?_ }
 ·refine h.below.step g1 g2 g3 g4 fun k hk hL => g5 k (Nat.lt_of_lt_of_le hk h.below.size) (fun ⟨i, x, q1, q2, q3, _⟩ => ?_)
  rcases (h.excl i x k q1 q3).1 q2 with q | q
  ·omega
  ·exact hL q
 ·intro i x hi
  rcases hlook i x hi with ⟨rfl, rfl⟩ | ⟨hne, hi1, hi'⟩
  ·exact he'
  ·have hx := h.ents i x hi'
   have hkeep : ∀ b, x.has κ i b → w'.heap[b]? = w.heap[b]? := fun b hb => g5 b (hx.lt hb) (hnot i x b hne hi1 hi' hb)
   cases x with
   | box ty cs =>
    obtain ⟨vals, h1, h2⟩ := hx
    exact ⟨vals, by rw [hbl, hkeep _ rfl]; exact h1, h2.mapN hcv' (fun q => noNH_look (hnh q) i _ hi')⟩
   | arr e0 sz ver own es =>
    cases own with
    | nest tys =>
     show NestRep _ _ _ _ _ _ _
     rw [(hother i hne).1, (hother i hne).2.2]
     exact NestRep.keep hx (fun b hb => hkeep b (has_nest.2 hb))
    | _ =>
     show OwnRep _ _ _ _ _ _
     rw [(hother i hne).1]
     have hx2 : OwnRep w κ'.F e0 sz (κ.val i) es := by rw [hF]; exact hx
     exact OwnRep.keep hx2 hFk (fun b hb => hkeep b (has_row hb))
 ·intro i x hi
  rcases hlook i x hi with ⟨rfl, rfl⟩ | ⟨_, _, hi'⟩
  ·exact hid
  ·exact h.new i x hi'
 ·intro i x b hi hb
  rcases hlook i x hi with ⟨rfl, rfl⟩ | ⟨hne, _, hi'⟩
  ·rcases hb' b hb with ⟨i2, x2, q1, q2, q3, _⟩ | hb1
   ·have := h.excl i2 x2 b q1 q3
    exact ⟨fun _ => this.1 q2, fun _ => hF ▸ this.2.1 q2, fun hf => by rw [hown'] at hf; cases hf⟩
   ·refine ⟨fun _ => .inl (Nat.le_trans h.below.size hb1), fun _ hf => ?_, fun hf => by rw [hown'] at hf; cases hf⟩
    exact absurd (h.f2 b (hF ▸ hf)) (by omega)
  ·rw [hblk i x b hne] at hb
   rw [hF]
   exact h.excl i x b hi' hb
 ·intro i i' x x' b hi hi' hb1 hb2
  rcases hlook i x hi with ⟨rfl, rfl⟩ | ⟨hne, hj1, hj⟩ <;> rcases hlook i' x' hi' with ⟨rfl, rfl⟩ | ⟨hne', hj1', hj'⟩
  ·rfl
  ·rw [hblk i' x' b hne'] at hb2
   rcases hb' b hb1 with hb3 | hb3
   ·exact absurd hb3 (hnot i' x' b hne' hj1' hj' hb2)
   ·have := (h.ents i' x' hj').lt hb2; omega
  ·rw [hblk i x b hne] at hb1
   rcases hb' b hb2 with hb3 | hb3
   ·exact absurd hb3 (hnot i x b hne hj1 hj hb1)
   ·have := (h.ents i x hj).lt hb1; omega
  ·rw [hblk i x b hne] at hb1
   rw [hblk i' x' b hne'] at hb2
   exact h.inj i i' x x' b hj hj' hb1 hb2
 ·intro t av ht
  obtain ⟨v, hv, hr⟩ := h.tmps t av ht
  exact ⟨v, hv, hr.mapN hcv' (fun q => noNT_look (hnt q) t _ ht)⟩
 ·intro i e0 sz ver own es hi
  rcases hlook i _ hi with ⟨rfl, he⟩ | ⟨hne, _, hi'⟩
  ·exact hv' _ _ _ _ _ he.symm
  ·rw [(hother i hne).2.1]
   exact h.kv _ _ _ _ _ _ hi'
def consC (h : List (Nat × Ent)) (ty : Option TypeId) (x : CV) (K : D → List (Nat × Ent) → Prop) : Prop :=
 match x with
 | .d d => match d with
  | .int k n => K (.int k n) h
  | .bool b => K (.bool b) h
  | .str s => K (.str s) h
  | _ => False
 | .nl sz => match ty with | some _ => fN sz fun sz => K (.sl sz []) h | none => False
 | .ref id ver none => match look h id, ty with
  | some (.arr e sz v .own es), some t => match Nat.beq v ver, Nat.beq e t with
   | true, true => FlatR es ∧ fN sz fun sz => fH (hdel h id) fun h => K (.sl sz es) h
   | _, _ => False
  | _, _ => False
 | _ => False
def consL (h : List (Nat × Ent)) (ty : Nat → Option TypeId) : List CV → (List D → List (Nat × Ent) → Prop) → Prop
 | [], K => K [] h
 | x :: r, K => consC h (ty 0) x fun d h => consL h (fun k => ty (k + 1)) r fun ds h => K (d :: ds) h
theorem consC_sound (hr : RepK F0 L w0 st a w κ) {h1 : List (Nat × Ent)} (hsub : ∀ m x, look h1 m = some x → look st.h m = some x) {ty : Option TypeId} {x : CV} {K : D → List (Nat × Ent) → Prop} (h : consC h1 ty x K) {u : Value} (hu : CVRep w κ st.h x u) :
  ∃ d h2, K d h2 ∧ (∀ m y, look h2 m = some y → look h1 m = some y) ∧ ∃ ov : Option Value, NCell w ty ov d u ∧ ∀ b, ov.bind Value.ownBlock = some b → ∃ i y, look h1 i = some y ∧ (∃ e sz v es, y = .arr e sz v .own es) ∧ y.has κ i b ∧ look h2 i = none := by
 unfold consC at h
 split at h
 ·rename_i d
  split at h
  ·exact ⟨_, _, h, fun _ _ h => h, none, ⟨rfl, rfl, by cases hu; exact .int _ _⟩, fun b hb => by simp at hb⟩
  ·exact ⟨_, _, h, fun _ _ h => h, none, ⟨rfl, rfl, by cases hu; exact .bool _⟩, fun b hb => by simp at hb⟩
  ·exact ⟨_, _, h, fun _ _ h => h, none, ⟨rfl, rfl, by cases hu; exact .str _⟩, fun b hb => by simp at hb⟩
  ·exact h.elim
 ·rename_i sz
  split at h
  ·rename_i t
   simp only [fN_eq] at h
   cases hu
   refine ⟨_, _, h, fun _ _ h => h, some (.slice none 0 0), ⟨fun c hc => by simp at hc, rfl, t, rfl, ownRep_nil w t sz⟩, fun b hb => by simp [Value.ownBlock] at hb⟩
  ·exact h.elim
 ·rename_i id ver
  split at h
  ·rename_i e sz v es t hl
   split at h
   ·rename_i hb1 hb2
    obtain rfl := beq_iff hb1
    obtain rfl := beq_iff hb2
    simp only [fN_eq, fH_eq] at h
    obtain ⟨hfl, h⟩ := h
    have hl' := hsub _ _ hl
    obtain ⟨_, _, _, h4⟩ := hu
    obtain ⟨_, a1, n1, c1, a2, c2, h5, h6, _, _, h7⟩ := h4 _ _ _ _ hl'
    obtain ⟨_, rfl, rfl⟩ := h7 rfl
    have hent : OwnRep w κ.F e sz (κ.val id) es := hr.ents id _ hl'
    obtain ⟨A', c', hA', _⟩ := own_shape hent
    have hveq : κ.val id = u := by
     rw [h6, hA']
     rw [hA'] at h5
     simp only [Value.slice.injEq] at h5
     obtain ⟨rfl, _, rfl⟩ := h5
     rfl
    rw [hveq] at hent
    refine ⟨_, _, h, fun m y hm => by rw [look_hdel] at hm; split at hm; cases hm; exact hm, some u, ⟨hfl, rfl, e, rfl, hent.flat hfl⟩, fun b hb => ⟨id, _, hl, ⟨_, _, _, _, rfl⟩, has_row (by rw [hveq]; exact hb), by rw [look_hdel]; simp⟩⟩
   ·exact h.elim
  ·exact h.elim
 ·exact h.elim
theorem consL_sound (hr : RepK F0 L w0 st a w κ) : ∀ {cs : List CV} {h1 : List (Nat × Ent)} (_ : ∀ m x, look h1 m = some x → look st.h m = some x) {ty : Nat → Option TypeId} {K : List D → List (Nat × Ent) → Prop} (_ : consL h1 ty cs K) {us : List Value} (_ : CVs w κ st.h cs us),
  ∃ ds h2, K ds h2 ∧ ds.length = cs.length ∧ (∀ m y, look h2 m = some y → look h1 m = some y) ∧ ∃ ov : Nat → Option Value, (∀ (k : Nat) (d : D) (u : Value), ds[k]? = some d → us[k]? = some u → NCell w (ty k) (ov k) d u) ∧
   (∀ k b, (ov k).bind Value.ownBlock = some b → k < cs.length ∧ ∃ i y, look h1 i = some y ∧ (∃ e sz v es, y = .arr e sz v .own es) ∧ y.has κ i b ∧ look h2 i = none) ∧ (∀ k k' b, (ov k).bind Value.ownBlock = some b → (ov k').bind Value.ownBlock = some b → k = k')
 | [], h1, hsub, ty, K, h, us, hu => ⟨[], h1, h, rfl, fun _ _ h => h, fun _ => none, fun k d u hd => by simp at hd, fun k b hb => by simp at hb, fun k k' b hb => by simp at hb⟩
 | x :: r, h1, hsub, ty, K, h, us, hu => by
  match us, hu with
  | [], hu => simp [CVs] at hu
  | u :: us, hu =>
   simp only [consL] at h
   obtain ⟨d, h2, hK, s2, ov0, c1, c2⟩ := consC_sound hr hsub h (hu.2 0 x u rfl rfl)
   obtain ⟨ds, h3, hK3, l3, s3, ov, d1, d2, d3⟩ := consL_sound hr (fun m y hm => hsub m y (s2 m y hm)) hK (us := us) ⟨by simpa using hu.1, fun j c v hc hv => hu.2 (j + 1) c v (by simpa using hc) (by simpa using hv)⟩
   refine ⟨d :: ds, h3, hK3, by simp [l3], fun m y hm => s2 m y (s3 m y hm), fun k => match k with | 0 => ov0 | k + 1 => ov k, fun k d' u' hd hu' => ?_, fun k b hb => ?_, fun k k' b hb hb' => ?_⟩
   ·cases k with
    | zero => simp at hd hu'; subst hd; subst hu'; exact c1
    | succ k => exact d1 k d' u' (by simpa using hd) (by simpa using hu')
   ·cases k with
    | zero =>
     obtain ⟨i, y, q1, q2, q3, q4⟩ := c2 b hb
     refine ⟨by simp, i, y, q1, q2, q3, ?_⟩
     cases hq : look h3 i with
     | none => rfl
     | some y' => rw [s3 i y' hq] at q4; cases q4
    | succ k =>
     obtain ⟨q0, i, y, q1, q2, q3, q4⟩ := d2 k b hb
     exact ⟨by simpa using q0, i, y, s2 i y q1, q2, q3, q4⟩
   ·have cross : ∀ k b, ov0.bind Value.ownBlock = some b → (ov k).bind Value.ownBlock = some b → False := fun k b g1 g2 => by
     obtain ⟨i, y, q1, q2, q3, q4⟩ := c2 b g1
     obtain ⟨_, i', y', p1, p2, p3, p4⟩ := d2 k b g2
     obtain rfl := hr.inj i i' y y' b (hsub _ _ q1) (hsub _ _ (s2 _ _ p1)) q3 p3
     rw [q4] at p1; cases p1
    cases k with
    | zero =>
     cases k' with
     | zero => rfl
     | succ k' => exact (cross k' b hb hb').elim
    | succ k =>
     cases k' with
     | zero => exact (cross k b hb' hb).elim
     | succ k' => rw [d3 k k' b hb hb']
end
end Go.H
namespace Go.H
open Go.RowKit
section
variable {P : Program} {T : TypeId → Option TI} {F0 L : Nat → Prop} {w0 w w' : World} {st : St} {a : Act} {κ κ' : Con} {hh : List (Nat × Ent)}
def Con.setN (κ : Con) (id : Nat) (v : Value) (ver : Nat) (nv : Nat → Option Value) : Con :=
 { κ with val := fun i => if i = id then v else κ.val i, vr := fun i => if i = id then ver else κ.vr i, nv := fun i => if i = id then nv else κ.nv i }
theorem setN_other {κ : Con} {id : Nat} {v : Value} {ver : Nat} {nv : Nat → Option Value} (i : Nat) (hi : i ≠ id) : (κ.setN id v ver nv).val i = κ.val i ∧ (κ.setN id v ver nv).vr i = κ.vr i ∧ (κ.setN id v ver nv).nv i = κ.nv i := by
 simp only [Con.setN, if_neg hi]; exact ⟨trivial, trivial, trivial⟩
theorem cv_turn {id : Nat} {h' : List (Nat × Ent)} {e' : Ent} (hF : κ'.F = κ.F) (hbl : κ'.bl = κ.bl) (hn : κ'.n = κ.n) (hother : ∀ i, i ≠ id → κ'.val i = κ.val i ∧ κ'.vr i = κ.vr i ∧ κ'.nv i = κ.nv i)
  (hvr : κ.vr id < κ'.vr id) (hsub : ∀ m x, m ≠ id → look h' m = some x → look hh m = some x) (he : ∀ e sz ver ow es, e' = .arr e sz ver ow es → ver = κ'.vr id) {x : CV} {v : Value} (h : CVRep w κ hh x v) : CVRep w κ' (lput h' id e') x v := by
 have hl : ∀ i e, look (lput h' id e') i = some e → (i = id ∧ e = e') ∨ (i ≠ id ∧ look hh i = some e) := fun i e hi => by
  rw [look_lput] at hi
  split at hi
  ·rename_i q; cases hi; exact .inl ⟨q.symm, rfl⟩
  ·rename_i q; exact .inr ⟨fun h => q h.symm, hsub i e (fun h => q h.symm) hi⟩
 cases x with
 | d x => show Fz w κ'.F v x; rw [hF]; exact h
 | nl _ => exact h
 | u => exact h
 | ptr i off => show i < κ'.n ∧ _; rw [hn, hbl]; exact h
 | fn f caps => show (∀ p ∈ caps, p.1 < κ'.n) ∧ _; rw [hn, hbl]; exact h
 | nst i ver p =>
  obtain ⟨⟨h1, h1'⟩, h2, h3, h4⟩ := h
  by_cases hi : i = id
  ·subst hi
   exact ⟨⟨by rw [hn]; exact h1, by omega⟩, h2, h3, fun q => by omega⟩
  ·obtain ⟨q1, q2, q3⟩ := hother i hi
   exact ⟨⟨by rw [hn]; exact h1, by rw [q2]; exact h1'⟩, h2, h3, by rw [q2, q3]; exact h4⟩
 | nep i ver p q' =>
  obtain ⟨⟨h1, h1'⟩, h2, h3, h4⟩ := h
  by_cases hi : i = id
  ·subst hi
   exact ⟨⟨by rw [hn]; exact h1, by omega⟩, h2, h3, fun q => by omega⟩
  ·obtain ⟨q1, q2, q3⟩ := hother i hi
   exact ⟨⟨by rw [hn]; exact h1, by rw [q2]; exact h1'⟩, h2, h3, by rw [q2, q3]; exact h4⟩
 | ref i ver s =>
  obtain ⟨⟨h1, h1'⟩, h2, h3, h4⟩ := h
  by_cases hi : i = id
  ·subst hi
   refine ⟨⟨by rw [hn]; exact h1, by omega⟩, h2, h3, fun e sz own es hk => ?_⟩
   rcases hl _ _ hk with ⟨_, q⟩ | ⟨q, _⟩
   ·have := he _ _ _ _ _ q.symm; omega
   ·exact absurd rfl q
  ·obtain ⟨q1, q2, q3⟩ := hother i hi
   refine ⟨⟨by rw [hn]; exact h1, by rw [q2]; exact h1'⟩, h2, h3, fun e sz own es hk => ?_⟩
   rcases hl _ _ hk with ⟨q, _⟩ | ⟨_, q⟩
   ·exact absurd q hi
   ·rw [q1]; exact h4 _ _ _ _ q
 | ep i ver k j =>
  obtain ⟨⟨h1, h1'⟩, h2, h3, h4⟩ := h
  by_cases hi : i = id
  ·subst hi
   refine ⟨⟨by rw [hn]; exact h1, by omega⟩, h2, h3, fun e sz own es hk => ?_⟩
   rcases hl _ _ hk with ⟨_, q⟩ | ⟨q, _⟩
   ·have := he _ _ _ _ _ q.symm; omega
   ·exact absurd rfl q
  ·obtain ⟨q1, q2, q3⟩ := hother i hi
   refine ⟨⟨by rw [hn]; exact h1, by rw [q2]; exact h1'⟩, h2, h3, fun e sz own es hk => ?_⟩
   rcases hl _ _ hk with ⟨q, _⟩ | ⟨_, q⟩
   ·exact absurd q hi
   ·rw [q1]; exact h4 _ _ _ _ q
theorem lput_absent {α : Type} : ∀ (l : List (Nat × α)) (n : Nat) (x : α), look l n = none → lput l n x = l ++ [(n, x)]
 | [], n, x, _ => rfl
 | (k, y) :: r, n, x, h => by
  simp only [look] at h
  simp only [lput]
  cases hb : Nat.beq k n with
  | true => simp [hb] at h
  | false =>
   simp [hb] at h ⊢
   exact lput_absent r n x h
theorem nest_base (hr : RepK F0 L w0 st a w κ) (g : Grew w w') {h' : List (Nat × Ent)} (hsub : ∀ m y, look h' m = some y → look st.h m = some y) {e sz : Nat} {tys : List TypeId} {es : List (List D)} {A : Option Addr} {n c : Nat} {nv : Nat → Option Value}
  (ho : NestRep w' (.slice A n c) nv e sz tys es) (hnew : ∀ b, (Value.slice A n c).ownBlock = some b → w.heap.size ≤ b)
  (hnv : ∀ p b, fpOf nv p = some b → ∃ i y, look st.h i = some y ∧ y.own = true ∧ y.has κ i b ∧ look h' i = none) (hlen : n = es.length) (hc : n ≤ c) :
  ∃ κ', RepK F0 L w0 (St.push { st with h := h' } (.arr e sz 1 (.nest tys) es)) a w' κ' ∧ CVRep w' κ' (St.push { st with h := h' } (.arr e sz 1 (.nest tys) es)).h (.ref st.n 1 none) (.slice A n c) ∧ st.n < κ'.n ∧ κ'.vr st.n = 1 ∧ κ'.nv st.n = nv := by
 have hk := hr.kn
 have hok := hr.ok
 have hp := hr.push (.arr e sz 0 .own []) 0 (.slice none 0 0) (by
  show OwnRep _ _ _ _ _ _
  simp only [Con.push, hk, if_true]
  exact ownRep_nil w e sz) (fun _ _ _ _ _ h => by cases h; rfl) (fun b hb => by rw [has_own] at hb; simp [Con.push, hk, Value.ownBlock] at hb)
 have hlk : ∀ m, look (st.push (.arr e sz 0 .own [])).h m = if st.n = m then some (.arr e sz 0 .own []) else look st.h m := fun m => by
  simp only [St.push]; exact look_push _ _ _ _ hok
 have hno : look h' st.n = none := by
  cases hq : look h' st.n with
  | none => rfl
  | some y => have := hr.new _ _ (hsub _ _ hq); omega
 have ht := hp.turn (w' := w') (id := st.n) (e' := .arr e sz 1 (.nest tys) es) (h' := h') (κ' := (κ.push 0 (.slice none 0 0)).setN st.n (.slice A n c) 1 nv) (by simp [St.push]) rfl
  (fun m x hm hx => by rw [hlk, if_neg (fun q => hm q.symm)]; exact hsub m x hx) rfl rfl rfl setN_other g.os g.tape g.output g.size (fun k hk _ => g.block k hk)
  (by show NestRep _ _ _ _ _ _ _; simp only [Con.setN, if_true]; exact ho)
  (fun b hb => by
   rw [has_nest] at hb
   simp only [Con.setN, Con.fp, if_true] at hb
   rcases hb with hb | ⟨p, hb⟩
   ·exact .inr (hnew b hb)
   ·obtain ⟨i, y, q1, q2, q3, q4⟩ := hnv p b hb
    have hi := hr.new i y q1
    refine .inl ⟨i, y, by rw [hlk, if_neg (by omega)]; exact q1, q2, by rw [Ent.has_push (hk ▸ hi)]; exact q3, .inr q4⟩)
  false (fun q => by cases q) (fun x v _ hx => cv_turn (κ := κ.push 0 (.slice none 0 0)) (κ' := (κ.push 0 (.slice none 0 0)).setN st.n (.slice A n c) 1 nv) (id := st.n) rfl rfl rfl setN_other (by simp [Con.setN, Con.push, hk]) (fun m x hm hx => by rw [hlk, if_neg (fun q => hm q.symm)]; exact hsub m x hx) (fun _ _ _ _ _ q => by cases q; simp [Con.setN]) hx)
  (fun _ _ _ _ _ q => by cases q; simp [Con.setN])
 rw [lput_absent _ _ _ hno] at ht
 refine ⟨_, ht, ?_, by simp [Con.setN, Con.push, hk], by simp [Con.setN], by simp [Con.setN]⟩
 ·refine ⟨⟨by simp [Con.setN, Con.push, hk], by simp [Con.setN]⟩, rfl, rfl, fun e' sz' own' es' hl => ?_⟩
  simp only [St.push] at hl
  have hl2 : look (h' ++ [(st.n, Ent.arr e sz 1 (.nest tys) es)]) st.n = some (.arr e sz 1 (.nest tys) es) := by
   rw [look_append, hno]; simp [look]
  rw [hl2] at hl
  cases hl
  refine ⟨by simp [offR, lenR], A, n, c, A, c, by simp [Con.setN], by simp [lenR, hlen], by simp only [lenR]; omega, fun _ => ?_, fun _ => ⟨rfl, rfl, rfl⟩⟩
  cases A with
  | none => rfl
  | some A => simp [offR, Addr.add]
theorem nest_new (hr : RepK F0 L w0 st a w κ) (g : Grew w w') {h' : List (Nat × Ent)} (hsub : ∀ m y, look h' m = some y → look st.h m = some y) {e sz : Nat} {tys : List TypeId} {es : List (List D)} {A : Option Addr} {n c : Nat} {nv : Nat → Option Value}
  (ho : NestRep w' (.slice A n c) nv e sz tys es) (hnew : ∀ b, (Value.slice A n c).ownBlock = some b → w.heap.size ≤ b)
  (hnv : ∀ p b, fpOf nv p = some b → ∃ i y, look st.h i = some y ∧ y.own = true ∧ y.has κ i b ∧ look h' i = none) (hlen : n = es.length) (hc : n ≤ c) {dst : Option Tmp} {K : St → Prop}
  (hK : setT (St.push { st with h := h' } (.arr e sz 1 (.nest tys) es)) dst (.c (.ref st.n 1 none)) K) : ∃ st' κ', K st' ∧ RepK F0 L w0 st' (a.put dst (.slice A n c)) w' κ' := by
 obtain ⟨κ', ht, hv, _⟩ := nest_base hr g hsub ho hnew hnv hlen hc
 obtain ⟨st', h1, h2⟩ := setT_sound hK ht (v := .slice A n c) hv
 exact ⟨st', _, h1, h2⟩
theorem look_map {α β : Type} (f : α → β) : ∀ (l : List (Nat × α)) (i : Nat), look (l.map fun p => (p.1, f p.2)) i = (look l i).map f
 | [], i => rfl
 | (k, x) :: r, i => by
  simp only [List.map_cons, look]
  split
  ·rfl
  ·exact look_map f r i
theorem RepK.reslots (h : RepK F0 L w0 st a w κ) (g : AV → AV) (hg : ∀ t av v, look st.t t = some av → a.tmps[t]? = some v → AVRep w κ st.h av v → AVRep w κ st.h (g av) v) : RepK F0 L w0 { st with t := st.t.map fun p => (p.1, g p.2) } a w κ := by
 refine { below := h.below, f0 := h.f0, f1 := h.f1, f2 := h.f2, size := h.size, dfs := h.dfs, kn := h.kn, ents := h.ents, new := h.new, excl := h.excl, inj := h.inj, kv := h.kv, tmps := fun t av ht => ?_ }
 rw [look_map g] at ht
 simp only [Option.map_eq_some_iff] at ht
 obtain ⟨y, h1, rfl⟩ := ht
 obtain ⟨v, hv, hr⟩ := h.tmps t y h1
 exact ⟨v, hv, hg t y v h1 hv hr⟩
theorem nest_newS (g' : AV → AV) (hr : RepK F0 L w0 st a w κ) (g : Grew w w') {h' : List (Nat × Ent)} (hsub : ∀ m y, look h' m = some y → look st.h m = some y) {e sz : Nat} {tys : List TypeId} {es : List (List D)} {A : Option Addr} {n c : Nat} {nv : Nat → Option Value}
  (ho : NestRep w' (.slice A n c) nv e sz tys es) (hnew : ∀ b, (Value.slice A n c).ownBlock = some b → w.heap.size ≤ b)
  (hnv : ∀ p b, fpOf nv p = some b → ∃ i y, look st.h i = some y ∧ y.own = true ∧ y.has κ i b ∧ look h' i = none) (hlen : n = es.length) (hc : n ≤ c) {dst : Option Tmp} {K : St → Prop}
  (hg : ∀ t av v, look st.t t = some av → a.tmps[t]? = some v → g' av = av ∨ ∃ p, g' av = .c (.nst st.n 1 p) ∧ nv p = some v ∧ v.oneCell' = true ∧ v.cells = #[v])
  (hK : setT (St.push { st with h := h', t := st.t.map fun p => (p.1, g' p.2) } (.arr e sz 1 (.nest tys) es)) dst (.c (.ref st.n 1 none)) K) : ∃ st' κ', K st' ∧ RepK F0 L w0 st' (a.put dst (.slice A n c)) w' κ' := by
 obtain ⟨κ', ht, hv, v1, v2, v3⟩ := nest_base hr g hsub ho hnew hnv hlen hc
 have ht2 := ht.reslots g' fun t av v h1 h2 h3 => by
  rcases hg t av v h1 h2 with q | ⟨p, q, q1, q2, q3⟩
  ·rw [q]; exact h3
  ·rw [q]
   exact ⟨⟨v1, Nat.le_of_eq v2.symm⟩, q2, q3, fun _ => by rw [v3]; exact q1⟩
 obtain ⟨st', h1, h2⟩ := setT_sound hK ht2 (v := .slice A n c) hv
 exact ⟨st', _, h1, h2⟩
def zN : (Nat → Option TypeId) → List CV → Option (List D)
 | _, [] => some []
 | ty, x :: r => match x, zN (fun k => ty (k + 1)) r with
  | .d (.int k n), some l => some (.int k n :: l)
  | .d (.bool b), some l => some (.bool b :: l)
  | .d (.str s), some l => some (.str s :: l)
  | .nl sz, some l => match ty 0 with | some _ => some (.sl sz [] :: l) | none => none
  | _, _ => none
def zv (d : D) : Option Value := match d with | .sl _ _ => some (.slice none 0 0) | _ => none
theorem zN_sound : ∀ {xs : List CV} {ty : Nat → Option TypeId} {ds : List D}, zN ty xs = some ds → ds.length = xs.length ∧ ∀ (w : World) (κ : Con) (hh : List (Nat × Ent)) (vs : List Value), CVs w κ hh xs vs → ∀ (j : Nat) (d : D) (u : Value), ds[j]? = some d → vs[j]? = some u → NCell w (ty j) (zv d) d u
 | [], ty, ds, h => by
  simp only [zN, Option.some.injEq] at h
  subst h
  exact ⟨rfl, fun w κ hh vs _ j d u hd => by simp at hd⟩
 | x :: r, ty, ds, h => by
  have key : ∀ (d0 : D) (l : List D), zN (fun k => ty (k + 1)) r = some l → ds = d0 :: l → (∀ (w : World) (κ : Con) (hh : List (Nat × Ent)) v, CVRep w κ hh x v → NCell w (ty 0) (zv d0) d0 v) → ds.length = (x :: r).length ∧ ∀ (w : World) (κ : Con) (hh : List (Nat × Ent)) (vs : List Value), CVs w κ hh (x :: r) vs → ∀ (j : Nat) (d : D) (u : Value), ds[j]? = some d → vs[j]? = some u → NCell w (ty j) (zv d) d u := by
   intro d0 l hl hds hx
   obtain ⟨h1, h2⟩ := zN_sound hl
   subst hds
   refine ⟨by simp [h1], fun w κ hh vs hvs j d u hd hu => ?_⟩
   match vs, hvs with
   | v :: vs, hvs =>
    cases j with
    | zero => simp at hd hu; subst hd; subst hu; exact hx w κ hh _ (hvs.2 0 x v rfl rfl)
    | succ j => exact h2 w κ hh vs ⟨by have := hvs.1; simpa using this, fun k c w' hc hw => hvs.2 (k + 1) c w' (by simpa using hc) (by simpa using hw)⟩ j d u (by simpa using hd) (by simpa using hu)
   | [], hvs => simp at hu
  simp only [zN] at h
  split at h
  ·rename_i l hl; cases h; exact key _ l hl rfl fun w κ hh v hv => ⟨rfl, rfl, by cases hv; exact .int _ _⟩
  ·rename_i l hl; cases h; exact key _ l hl rfl fun w κ hh v hv => ⟨rfl, rfl, by cases hv; exact .bool _⟩
  ·rename_i l hl; cases h; exact key _ l hl rfl fun w κ hh v hv => ⟨rfl, rfl, by cases hv; exact .str _⟩
  ·rename_i sz l hl
   split at h
   ·rename_i t ht
    cases h
    refine key _ l hl rfl fun w κ hh v hv => ?_
    cases hv
    exact ⟨fun c hc => by simp at hc, rfl, t, ht, ownRep_nil w t sz⟩
   ·cases h
  ·cases h
def makeN (T : TypeId → Option TI) (st : St) (t : TypeId) (tys : List TypeId) (l c : AV) (dst : Option Tmp) (K : St → Prop) : Prop :=
 match T t, l, c with
 | some ti, .c (.d (.int _ l)), .c (.d (.int _ c)) => match ti.k with
  | .slice e => match T e with
   | some te => match Nat.beq te.size 0, Nat.ble te.bytes 32768, zN (fun j => tys[j]?) te.zero with
    | false, true, some ds => FitsM l c ∧ fDs ds fun ds => pushE st st.h (.arr e te.size 1 (.nest tys) (dRep l ds)) fun st' id => setT st' dst (.c (.ref id 1 none)) K
    | _, _, _ => False
   | none => False
  | _ => False
 | _, _, _ => False
theorem makeN_tri (hT : TOk P T) {o : Oper} {t : TypeId} {tys : List TypeId} {x y : Operand} (ho : o.op = .makeSlice t x y) {K : St → Prop} (h : makeN T st t tys (evO st x) (evO st y) o.dst K) : OpTri P o st K := by
 unfold makeN at h
 split at h
 ·rename_i ti kl l kc c hti hx hy
  have hk := (hT _ _ hti).k
  split at h
  ·rename_i e hke
   rw [hke] at hk
   split at h
   ·rename_i te hte
    have hf := hT _ _ hte
    obtain ⟨info, z, i1, i2, i3, i4, i5, i6, i7⟩ := hf.info
    split at h
    ·rename_i ds hb1 hb2 hds
     simp only [fDs_eq, pushE_eq] at h
     have h0 : te.size ≠ 0 := fun e => by rw [e] at hb1; simp at hb1
     have hby := Nat.le_of_ble_eq_true hb2
     obtain ⟨hfits, h⟩ := h
     unfold FitsM at hfits
     obtain ⟨hl0, hlc, hcm⟩ := hfits
     obtain ⟨d1, d2⟩ := zN_sound hds
     obtain ⟨q, q1, q2, q3⟩ := zero_sound hf
     have hq : q = z := by
      have := q1 default
      simp [zeroValue, typeInfo, i1, i4] at this
      exact this.symm
     subst hq
     refine opTri_value fun F0 L w0 a w κ hr => ?_
     have hx' := evO_rep hr x
     rw [hx] at hx'
     have hy' := evO_rep hr y
     rw [hy] at hy'
     have ex : a.eval x = .int kl l := by generalize a.eval x = q at hx'; cases hx'; rfl
     have ey : a.eval y = .int kc c := by generalize a.eval y = q at hy'; cases hy'; rfl
     have hbytes : (info.bytes : Int) * c ≤ 281474976710656 := by
      rw [i3]
      have h1 : (te.bytes : Int) ≤ 32768 := by omega
      have h2 : (te.bytes : Int) * c ≤ 32768 * 4000000000 := Int.mul_le_mul h1 hcm (by omega) (by omega)
      omega
     have hrun := run_make (P := P) w t e info q hk i1 i4 kl kc l c hl0 hlc hbytes (by omega)
     have g := Grew.alloc w (.cells (madeCells q.cells (c.toNat * info.size)) e)
     have hcells : madeCells q.cells (c.toNat * info.size) = ((List.range (c.toNat * te.size)).map fun i => q.cells[i % q.cells.size]!).toArray := by
      apply Array.toList_inj.1
      simp [madeCells, i2]
     have hrep : ∀ i : Nat, (dRep l ds)[i]? = if i < l.toNat then some ds else none := fun i => by simp only [dRep, List.getElem?_replicate]
     have hlen : (dRep l ds).length = l.toNat := by simp [dRep]
     have hnest : NestRep (w.alloc (.cells (madeCells q.cells (c.toNat * info.size)) e)) (.slice (some ⟨w.heap.size, 0, none⟩) l.toNat c.toNat) (fun p => if p < l.toNat * te.size then (ds[p % te.size]?).bind zv else none) e te.size tys (dRep l ds) := by
      have hfp : ∀ p, fpOf (fun p => if p < l.toNat * te.size then (ds[p % te.size]?).bind zv else none) p = none := fun p => by
       simp only [fpOf]
       split
       ·cases hd : ds[p % te.size]? with
        | none => rfl
        | some d => cases d <;> rfl
       ·rfl
      refine ⟨?_, fun p p' b hb => (by rw [hfp] at hb; cases hb), fun p b hb => (by rw [hfp] at hb; cases hb)⟩
      refine ⟨((List.range (c.toNat * te.size)).map fun i => q.cells[i % q.cells.size]!).take (l.toNat * te.size), ⟨?_, .inr ⟨w.heap.size, c.toNat, ((List.range (c.toNat * te.size)).map fun i => q.cells[i % q.cells.size]!).toArray, by rw [hlen], Nat.zero_le _, ?_, by rw [hlen]; omega, by simp only [maxLen]; omega, ?_, ?_⟩⟩, fun i cc hi => ?_⟩
      ·rw [List.length_take, hlen, List.length_map, List.length_range]
       exact Nat.min_eq_left (Nat.mul_le_mul_right _ (by omega))
      ·rw [hcells]; show (w.heap.push _)[w.heap.size]? = _; rw [Array.getElem?_push, if_pos rfl]
      ·simp
      ·rw [hlen]
      ·rw [hrep] at hi
       split at hi
       ·rename_i hil
        cases hi
        refine ⟨by rw [d1, i6], fun j d hj => ?_⟩
        have hjl : j < te.size := by rw [← i6, ← d1]; exact (List.getElem?_eq_some_iff.1 hj).1
        have hlt : i * te.size + j < l.toNat * te.size := by
         have : (i + 1) * te.size ≤ l.toNat * te.size := Nat.mul_le_mul_right _ (by omega)
         rw [Nat.add_mul, Nat.one_mul] at this; omega
        have hlt2 : i * te.size + j < c.toNat * te.size := by
         have : l.toNat * te.size ≤ c.toNat * te.size := Nat.mul_le_mul_right _ (by omega)
         omega
        have hmod : (i * te.size + j) % te.size = j := by rw [Nat.mul_comm, Nat.mul_add_mod, Nat.mod_eq_of_lt hjl]
        refine ⟨q.cells[j]!, ?_, ?_⟩
        ·rw [List.getElem?_take, if_pos hlt]
         simp only [List.getElem?_map, List.getElem?_range hlt2, Option.map_some]
         rw [i5, hmod]
        ·simp only [if_pos hlt, hmod, hj, Option.bind_some]
         have hcv := q3 (w.alloc (.cells (madeCells q.cells (c.toNat * info.size)) e)) κ st.h
         have hget : q.cells.toList[j]? = some q.cells[j]! := by
          have : j < q.cells.size := by omega
          simp [this]
         exact d2 _ _ _ _ hcv j d _ hj hget
       ·cases hi
     obtain ⟨st', κ', k1, k2⟩ := nest_new hr g (h' := st.h) (fun _ _ h => h) hnest (fun b hb => by cases hb; exact Nat.le_refl _) (fun p b hb => by
      simp only [fpOf] at hb
      split at hb
      ·cases hd : ds[p % te.size]? with
       | none => simp [hd] at hb
       | some d => cases d <;> simp [hd, zv, Value.ownBlock] at hb
      ·simp at hb) hlen.symm (by omega) h
     exact ⟨_, _, by simp only [execOp, ho, Sem.run_bind, ex, ey, hrun, Result.andThen_ok, Sem.run_pure]; rfl, st', κ', k1, k2⟩
    ·exact h.elim
   ·exact h.elim
  ·exact h.elim
 ·exact h.elim
end
end Go.H
namespace Go.H
open Go.RowKit
section
variable {P : Program} {T : TypeId → Option TI} {F0 L : Nat → Prop} {w0 w w' : World} {st : St} {a : Act} {κ κ' : Con} {hh : List (Nat × Ent)}
def storeN (T : TypeId → Option TI) (st : St) (t : TypeId) (addr val : AV) (K : St → Prop) : Prop :=
 match T t, avCells val with
 | some ti, some new => match Nat.beq new.length ti.size with
  | false => False
  | true => match addr with
   | .c (.ep id ver i j) => match look st.h id with
    | some (.arr e sz v (.nest tys) es) => match Nat.beq v ver, st.noN with
     | true, true => consL st.h (fun k => tys[j + k]?) new fun ds h' => fDs ds fun ds => ∀ c, AtD es i c → dRoom j ds.length c ∧ putE st h' id (.arr e sz v (.nest tys) (dSet es i (dOver c j ds))) K
     | _, _ => False
    | _ => False
   | _ => False
 | _, _ => False
theorem storeN_tri (hT : TOk P T) {o : Oper} {t : TypeId} {x y : Operand} (ho : o.op = .store t x y) (hd : o.dst = none) {K : St → Prop} (h : storeN T st t (evO st x) (evO st y) K) : OpTri P o st K := by
 unfold storeN at h
 split at h
 ·rename_i ti new hti hnew
  have hf := hT _ _ hti
  split at h
  ·exact h.elim
  ·rename_i hb
   have hsz := beq_iff hb
   split at h
   ·rename_i id ver i j hx
    split at h
    ·rename_i e sz vr tys es hl
     split at h
     ·rename_i hb2 hno
      obtain rfl := beq_iff hb2
      refine opTri_skip fun F0 L w0 a w κ hr => ?_
      have hv := avCells_sound hnew (evO_rep hr y)
      obtain ⟨ds, h', hK, l1, hsub, ov, n1, n2, n3⟩ := consL_sound hr (fun _ _ h => h) h hv
      simp only [fDs_eq, putE_eq] at hK
      have hp := evO_rep hr x
      rw [hx] at hp
      obtain ⟨hn, _, _, hp⟩ := hp
      obtain ⟨hlt, A, n, c, hA, hp⟩ := hp _ _ _ _ hl
      have hK := hK es[i] (by unfold AtD; exact List.getElem?_eq_getElem hlt)
      simp only [dRoom, dSet, dOver] at hK
      obtain ⟨hjl, hK⟩ := hK
      obtain ⟨⟨xs, hown, hes⟩, hap, hin⟩ := hr.ents id _ hl
      rcases hown.2 with ⟨h1, h2⟩ | ⟨g, cap, cur, h1, h2, h3, h4, h5, h6, h7⟩
      ·omega
      ·rw [hA] at h1
       obtain ⟨rfl, rfl, rfl⟩ : A = ⟨g, 0, none⟩ ∧ n = es.length ∧ c = cap := by simpa using h1
       have hblk : (κ.val id).ownBlock = some g := by rw [hA]; rfl
       have hg0 : (Ent.arr e sz vr (.nest tys) es).has κ id g := has_row hblk
       have hci : es[i].length = sz := (hes i _ (List.getElem?_eq_getElem hlt)).1
       have hxl : xs.length = es.length * sz := hown.1
       have hrow : (i + 1) * sz ≤ es.length * sz := Nat.mul_le_mul_right _ hlt
       rw [Nat.add_mul, Nat.one_mul] at hrow
       have hcur : es.length * sz ≤ cur.size := by rw [h6]; exact Nat.mul_le_mul_right _ h4
       have hvs : (a.eval y).cells.size = ds.length := by have := hv.1; rw [l1]; simpa using this
       have hg' : w.heap[g]? = some (.cells cur.toList.toArray e (0, 0)) := by simpa using h3
       have hrun := run_storeVar_at (P := P) hf (by rw [hvs, l1, hsz]) hg' (o := i * sz + j) (by rw [hvs]; simp; omega) hv.ones
       rw [addr0] at hp
       simp only [Nat.zero_add] at hp
       let nv : Nat → Option Value := fun p => if i * sz + j ≤ p ∧ p < i * sz + j + ds.length then ov (p - (i * sz + j)) else κ.nv id p
       have hnew : ∀ p b, fpOf nv p = some b → (i * sz + j ≤ p ∧ p < i * sz + j + ds.length ∧ (ov (p - (i * sz + j))).bind Value.ownBlock = some b ∧ ∃ i2 y, i2 ≠ id ∧ look st.h i2 = some y ∧ y.own = true ∧ y.has κ i2 b ∧ look h' i2 = none) ∨ (¬ (i * sz + j ≤ p ∧ p < i * sz + j + ds.length) ∧ fpOf (κ.nv id) p = some b) := fun p b hb => by
        simp only [fpOf, nv] at hb
        split at hb
        ·rename_i hin'
         obtain ⟨_, i2, y, q1, ⟨e2, z2, v2, s2, rfl⟩, q3, q4⟩ := n2 _ b hb
         refine .inl ⟨hin'.1, hin'.2, hb, i2, _, fun he => ?_, q1, rfl, q3, q4⟩
         rw [he, hl] at q1; cases q1
        ·rename_i hin'
         exact .inr ⟨hin', hb⟩
       have hfpid : ∀ p b, fpOf (κ.nv id) p = some b → (Ent.arr e sz vr (.nest tys) es).has κ id b := fun p b hb => has_nest.2 (.inr ⟨p, hb⟩)
       have hneg : ∀ i2 y b, i2 ≠ id → look st.h i2 = some y → y.has κ i2 b → b ≠ g := fun i2 y b hne hy hb he => hne (hr.inj i2 id y _ b hy hl hb (he ▸ hg0))
       let w1 : World := w.setRow g (over cur.toList (i * sz + j) (a.eval y).cells.toList).toArray
       have hoth : ∀ b, b ≠ g → w1.heap[b]? = w.heap[b]? := fun b hb => setRow_other _ _ _ _ hb
       have hov : (over cur.toList (i * sz + j) (a.eval y).cells.toList).length = cur.size := by
        rw [over_length]
        ·simp
        ·simp only [Array.length_toList, hvs]; omega
       have hnv1 : nv = (κ.setN id (κ.val id) (κ.vr id) nv).nv id := by simp [Con.setN]
       have hval1 : (κ.setN id (κ.val id) (κ.vr id) nv).val = κ.val := by
        funext k; simp only [Con.setN]; split
        ·rename_i q; rw [q]
        ·rfl
       have hvr1 : (κ.setN id (κ.val id) (κ.vr id) nv).vr = κ.vr := by
        funext k; simp only [Con.setN]; split
        ·rename_i q; rw [q]
        ·rfl
       have hlen' : (es.set i (over es[i] j ds)).length = es.length := by simp
       have hent : NestRep w1 (κ.val id) nv e sz tys (es.set i (over es[i] j ds)) := by
        refine ⟨⟨over xs (i * sz + j) (a.eval y).cells.toList, ⟨?_, .inr ⟨g, c, (over cur.toList (i * sz + j) (a.eval y).cells.toList).toArray, ?_, h2, setRow_heap w _ _ _ _ _ hg', by simpa using h4, h5, ?_, ?_⟩⟩, ?_⟩, ?_, ?_⟩
        ·rw [over_length]
         ·simpa using hxl
         ·simp only [Array.length_toList, hvs]; omega
        ·simp [hA]
        ·simp only [List.size_toArray, hov, h6]
        ·rw [← h7]
         simp only [List.length_set]
         apply List.ext_getElem?
         intro k
         have hle1 : i * sz + j + (a.eval y).cells.toList.length ≤ cur.toList.length := by simp only [Array.length_toList, hvs]; omega
         have hle2 : i * sz + j + (a.eval y).cells.toList.length ≤ (cur.toList.take (es.length * sz)).length := by simp only [List.length_take, Array.length_toList, hvs]; omega
         rw [List.getElem?_take, over_get _ _ _ hle1, over_get _ _ _ hle2, List.getElem?_take]
         split
         ·rfl
         ·rename_i hk
          rw [if_neg]
          simp only [Array.length_toList, hvs]; omega
        ·intro i' c' hi'
         have hlex : i * sz + j + (a.eval y).cells.toList.length ≤ xs.length := by simp only [Array.length_toList, hvs]; omega
         rw [List.getElem?_set] at hi'
         split at hi'
         ·rename_i he
          subst he
          simp only [Option.some.injEq] at hi'
          subst hi'
          refine ⟨by rw [over_length _ _ _ hjl, hci], fun k d hk => ?_⟩
          have hk1 : k < sz := by rw [← hci, ← over_length _ _ _ hjl]; exact (List.getElem?_eq_some_iff.1 hk).1
          rw [over_get _ _ _ hjl] at hk
          split at hk
          ·rename_i hr'
           have hlt2 : k - j < (a.eval y).cells.toList.length := by simp only [Array.length_toList, hvs]; omega
           refine ⟨(a.eval y).cells.toList[k - j], ?_, ?_⟩
           ·rw [over_get _ _ _ hlex, if_pos (by simp only [Array.length_toList, hvs]; omega)]
            have e1 : i * sz + k - (i * sz + j) = k - j := by omega
            rw [e1]
            exact List.getElem?_eq_getElem hlt2
           ·have hc := n1 (k - j) d _ hk (List.getElem?_eq_getElem hlt2)
            have e2 : nv (i * sz + k) = ov (k - j) := by
             simp only [nv]
             rw [if_pos (by omega), show i * sz + k - (i * sz + j) = k - j by omega]
            rw [e2]
            have e3 : j + (k - j) = k := by omega
            rw [e3] at hc
            refine hc.keep fun b hb => hoth b ?_
            obtain ⟨_, i2, y, q1, ⟨e2, z2, v2, s2, rfl⟩, q3, q4⟩ := n2 _ b hb
            exact hneg i2 _ b (fun he => by rw [he, hl] at q1; cases q1) q1 q3
          ·rename_i hr'
           obtain ⟨u, hu, hfz⟩ := (hes i _ (List.getElem?_eq_getElem hlt)).2 k d hk
           have e2 : nv (i * sz + k) = κ.nv id (i * sz + k) := by
            simp only [nv]
            rw [if_neg (by omega)]
           refine ⟨u, ?_, ?_⟩
           ·rw [over_get _ _ _ hlex, if_neg (by simp only [Array.length_toList, hvs]; omega)]
            exact hu
           ·rw [e2]
            exact hfz.keep fun b hb => hoth b fun he => (hin _ b hb).2.1 (he ▸ hblk)
         ·rename_i hne
          obtain ⟨q2, q3⟩ := hes i' c' hi'
          refine ⟨q2, fun k d hk => ?_⟩
          obtain ⟨u, hu, hfz⟩ := q3 k d hk
          have hk2 : k < sz := by rw [← q2]; exact (List.getElem?_eq_some_iff.1 hk).1
          have hnot : ¬ (i * sz + j ≤ i' * sz + k ∧ i' * sz + k < i * sz + j + ds.length) := by
           rintro ⟨g1, g2⟩
           rcases Nat.lt_or_gt_of_ne hne with hlt' | hgt
           ·have : (i + 1) * sz ≤ i' * sz := Nat.mul_le_mul_right _ hlt'
            rw [Nat.add_mul, Nat.one_mul] at this
            omega
           ·have : (i' + 1) * sz ≤ i * sz := Nat.mul_le_mul_right _ hgt
            rw [Nat.add_mul, Nat.one_mul] at this
            omega
          have e2 : nv (i' * sz + k) = κ.nv id (i' * sz + k) := by
           simp only [nv]
           rw [if_neg hnot]
          refine ⟨u, ?_, ?_⟩
          ·rw [over_get _ _ _ hlex, if_neg (by simp only [Array.length_toList, hvs]; exact hnot)]
           exact hu
          ·rw [e2]
           exact hfz.keep fun b hb => hoth b fun he => (hin _ b hb).2.1 (he ▸ hblk)
        ·intro p p' b hb hb'
         rcases hnew p b hb with ⟨a1, a2, a3, i2, y2, a4, a5, a6, a7, a8⟩ | ⟨a1, a2⟩ <;> rcases hnew p' b hb' with ⟨b1, b2, b3, i3, y3, b4, b5, b6, b7, b8⟩ | ⟨b1, b2⟩
         ·have := n3 _ _ b a3 b3; omega
         ·exact absurd (hr.inj i2 id y2 _ b a5 hl a7 (hfpid p' b b2)) a4
         ·exact absurd (hr.inj i3 id y3 _ b b5 hl b7 (hfpid p b a2)) b4
         ·exact hap p p' b a2 b2
        ·intro p b hb
         rw [hlen']
         rcases hnew p b hb with ⟨a1, a2, a3, i2, y2, a4, a5, a6, a7, a8⟩ | ⟨a1, a2⟩
         ·have hjd : j + ds.length ≤ sz := by rw [← hci]; exact hjl
          refine ⟨by omega, fun he => hneg i2 y2 b a4 a5 a7 (by rw [hblk] at he; exact (Option.some.inj he).symm), ?_⟩
          have := (hr.ents i2 y2 a5).lt a7
          simpa [w1] using this
         ·obtain ⟨c1, c2, c3⟩ := hin p b a2
          exact ⟨c1, c2, by simpa [w1] using c3⟩
       have hfin := hr.turn (w' := w1) (id := id) (e' := .arr e sz vr (.nest tys) (es.set i (over es[i] j ds))) (h' := h') (κ' := κ.setN id (κ.val id) (κ.vr id) nv) (hr.new _ _ hl) rfl
        (fun m x _ hx => hsub m x hx) rfl rfl rfl setN_other rfl rfl rfl (by simp [w1]) (fun k _ hnt => hoth k fun he => hnt ⟨id, _, hl, rfl, he ▸ hg0, .inl rfl⟩)
        (by
         show NestRep _ _ _ _ _ _ _
         rw [← hnv1, hval1]
         exact hent)
        (fun b hb => by
         rw [has_nest, hval1] at hb
         simp only [Con.fp] at hb
         rw [← hnv1] at hb
         rcases hb with hb | ⟨p, hb⟩
         ·exact .inl ⟨id, _, hl, rfl, has_row hb, .inl rfl⟩
         ·rcases hnew p b hb with ⟨a1, a2, a3, i2, y2, a4, a5, a6, a7, a8⟩ | ⟨a1, a2⟩
          ·exact .inl ⟨i2, y2, a5, a6, a7, .inr a8⟩
          ·exact .inl ⟨id, _, hl, rfl, hfpid p b a2, .inl rfl⟩)
        true (fun _ => hno) (fun x v hx hv => by
         have hlk : ∀ m e0 sz0 ver0 own0 es0, look (lput h' id (.arr e sz vr (.nest tys) (es.set i (over es[i] j ds)))) m = some (.arr e0 sz0 ver0 own0 es0) → ∃ own' es1, look st.h m = some (.arr e0 sz0 ver0 own' es1) ∧ es1.length = es0.length := fun m e0 sz0 ver0 own0 es0 hm => by
          rw [look_lput] at hm
          split at hm
          ·rename_i q; subst q; cases hm; exact ⟨_, es, hl, by simp⟩
          ·exact ⟨own0, es0, hsub _ _ hm, rfl⟩
         have hx0 := hx rfl
         cases x with
         | nst => cases hx0
         | nep => cases hx0
         | d x => exact hv
         | nl _ => exact hv
         | u => exact hv
         | ptr => exact hv
         | fn => exact hv
         | ref i2 v2 s2 =>
          obtain ⟨z1, z2, z3, z4⟩ := hv
          refine ⟨by rw [hvr1]; exact z1, z2, z3, fun e0 sz0 own0 es0 hm => ?_⟩
          obtain ⟨own', es1, q1, q2⟩ := hlk _ _ _ _ _ _ hm
          have := z4 _ _ _ _ q1
          rw [hval1]
          have e1 : lenR es1 s2 = lenR es0 s2 := by cases s2 <;> simp [lenR, q2]
          rw [← q2, ← e1]
          exact this
         | ep i2 v2 k2 j2 =>
          obtain ⟨z1, z2, z3, z4⟩ := hv
          refine ⟨by rw [hvr1]; exact z1, z2, z3, fun e0 sz0 own0 es0 hm => ?_⟩
          obtain ⟨own', es1, q1, q2⟩ := hlk _ _ _ _ _ _ hm
          have := z4 _ _ _ _ q1
          rw [hval1, ← q2]
          exact this) (fun _ _ _ _ _ q => by cases q; rw [hvr1]; exact hr.kv _ _ _ _ _ _ hl)
       refine ⟨_, by simp only [execOp, ho, Sem.run_bind, Instr.storeAt, hp, Instr.sureAddr, Sem.run_pure, Result.andThen_ok, hrun]; rfl, _, κ.setN id (κ.val id) (κ.vr id) nv, hK, ?_⟩
       rw [hd]
       exact hfin
     ·exact h.elim
    ·exact h.elim
   ·exact h.elim
 ·exact h.elim
def AV.isN : AV → Bool
 | .c (.nst ..) => true
 | _ => false
def nArgs (id ver p : Nat) : List AV → Option (List AV)
 | [] => some []
 | x :: r => match nArgs id ver p r with
  | none => none
  | some r => match x with
   | .c (.nst _ _ _) => some (.c (.ref 0 0 none) :: r)
   | x => match x.flat with | true => some (x :: r) | false => none
def nFirst : List AV → Option (Nat × Nat × Nat)
 | [] => none
 | .c (.nst id ver p) :: r => match r.any AV.isN with | true => none | false => some (id, ver, p)
 | _ :: r => nFirst r
def callNE (P : Program) (st : St) (g : FuncId) (args : List AV) (dst : Option Tmp) (K : St → Prop) : Prop :=
 match nFirst args with
 | some (id, ver, p) => match look st.h id, nArgs id ver p args with
  | some (.arr e sz v (.nest tys) es), some args' => match Nat.beq v ver with
   | true => callFE.fAs args' fun args' => ∃ i j c sz' es' ty, p = i * sz + j ∧ j < sz ∧ es[i]? = some c ∧ c[j]? = some (.sl sz' es') ∧ tys[j]? = some ty ∧
     ∃ res es'', FnSpecM P g args' ty sz' es' res es'' ∧ putE st st.h id (.arr e sz v (.nest tys) (es.set i (c.set j (.sl sz' es'')))) fun st' => setT st' dst res K
   | false => False
  | _, _ => False
 | none => False
theorem nFirst_spec : ∀ {l : List AV} {id ver p : Nat}, nFirst l = some (id, ver, p) → ∃ k : Nat, l[k]? = some (AV.c (.nst id ver p)) ∧ ∀ (k' : Nat) (x : AV), k' ≠ k → l[k']? = some x → x.isN = false
 | [], id, ver, p, h => by simp [nFirst] at h
 | x :: r, id, ver, p, h => by
  unfold nFirst at h
  split at h
  ·rename_i he; simp at he
  ·rename_i i1 v1 p1 r' he
   simp only [List.cons.injEq] at he
   obtain ⟨rfl, rfl⟩ := he
   split at h
   ·cases h
   ·rename_i hn
    cases h
    refine ⟨0, rfl, fun k' y hk hy => ?_⟩
    cases k' with
    | zero => exact absurd rfl hk
    | succ k' =>
     simp only [List.getElem?_cons_succ] at hy
     cases hq : y.isN with
     | false => rfl
     | true => rw [List.any_eq_true.2 ⟨y, List.mem_of_getElem? hy, hq⟩] at hn; cases hn
  ·rename_i y r' hne he
   simp only [List.cons.injEq] at he
   obtain ⟨rfl, rfl⟩ := he
   obtain ⟨k, h1, h2⟩ := nFirst_spec h
   refine ⟨k + 1, by simpa using h1, fun k' y hk hy => ?_⟩
   cases k' with
   | zero =>
    simp only [List.getElem?_cons_zero, Option.some.injEq] at hy
    subst hy
    unfold AV.isN
    split
    ·exact absurd rfl (hne _ _ _)
    ·rfl
   | succ k' => exact h2 k' y (by omega) (by simpa using hy)
theorem nArgs_spec {id ver p : Nat} : ∀ {l l' : List AV}, nArgs id ver p l = some l' → l'.length = l.length ∧ ∀ (k : Nat) (x x' : AV), l[k]? = some x → l'[k]? = some x' → (∃ i v q, x = .c (.nst i v q) ∧ x' = .c (.ref 0 0 none)) ∨ (x' = x ∧ x.flat = true)
 | [], l', h => by simp only [nArgs, Option.some.injEq] at h; subst h; exact ⟨rfl, fun k x x' hk => by simp at hk⟩
 | y :: r, l', h => by
  unfold nArgs at h
  split at h
  ·cases h
  ·rename_i r' hr
   obtain ⟨q1, q2⟩ := nArgs_spec hr
   split at h
   ·cases h
    refine ⟨by simp [q1], fun k x x' hk hk' => ?_⟩
    cases k with
    | zero => simp at hk hk'; exact .inl ⟨_, _, _, hk.symm, hk'.symm⟩
    | succ k => exact q2 k x x' (by simpa using hk) (by simpa using hk')
   ·split at h
    ·rename_i hfl
     cases h
     refine ⟨by simp [q1], fun k x x' hk hk' => ?_⟩
     cases k with
     | zero => simp at hk hk'; subst hk; exact .inr ⟨hk'.symm, hfl⟩
     | succ k => exact q2 k x x' (by simpa using hk) (by simpa using hk')
    ·cases h
theorem inner_at (hr : RepK F0 L w0 st a w κ) {id e sz vr : Nat} {tys : List TypeId} {es : List (List D)} (hid : look st.h id = some (.arr e sz vr (.nest tys) es)) {i j : Nat} {c : List D} {sz' : Nat} {es' : List (List D)} (hic : es[i]? = some c) (hcj : c[j]? = some (.sl sz' es')) :
  ∃ u ty, κ.nv id (i * sz + j) = some u ∧ tys[j]? = some ty ∧ FlatR es' ∧ OwnRep w (fun _ => False) ty sz' u es' := by
 obtain ⟨⟨xs, hown, hes⟩, hap, hin⟩ := hr.ents id _ hid
 obtain ⟨hcl, hcc⟩ := hes i c hic
 obtain ⟨u, hu, hfl, hnv, e1, he1, hou⟩ := hcc j _ hcj
 exact ⟨u, e1, hnv, he1, hfl, hou⟩
theorem inner_up (hr : RepK F0 L w0 st a w κ) {id e sz vr : Nat} {tys : List TypeId} {es : List (List D)} (hid : look st.h id = some (.arr e sz vr (.nest tys) es)) {i j : Nat} {c : List D} {sz' : Nat} {es' es'' : List (List D)} {ty : TypeId} (hj : j < sz) (hic : es[i]? = some c) (hcj : c[j]? = some (.sl sz' es')) (hty : tys[j]? = some ty)
  {u : Value} (hnv : κ.nv id (i * sz + j) = some u) (hg : GrewX (fun b => u.ownBlock = some b) w w') (ho : OwnRep w' (fun _ => False) ty sz' u es'') (hfr : FlatR es'') :
  RepK F0 L w0 { st with h := lput st.h id (.arr e sz vr (.nest tys) (es.set i (c.set j (.sl sz' es'')))) } a w' κ := by
 obtain ⟨⟨xs, hown, hes⟩, hap, hin⟩ := hr.ents id _ hid
 obtain ⟨hcl, hcc⟩ := hes i c hic
 obtain ⟨u0, hu, hnc⟩ := hcc j _ hcj
 have hnc' := hnc
 obtain ⟨_, hnv2, _⟩ := hnc'
 rw [hnv] at hnv2
 simp only [Option.some.injEq] at hnv2
 subst hnv2
 have hub : ∀ b, u.ownBlock = some b → fpOf (κ.nv id) (i * sz + j) = some b := fun b hb => by simp only [fpOf, hnv, Option.bind_some]; exact hb
 have hil : i < es.length := (List.getElem?_eq_some_iff.1 hic).1
 have hsame : ∀ b, b < w.heap.size → u.ownBlock ≠ some b → w'.heap[b]? = w.heap[b]? := fun b hb hne => hg.block b hb hne
 refine hr.upd hid rfl rfl rfl rfl rfl (fun _ _ => ⟨rfl, rfl, rfl⟩) hg.os hg.tape hg.output hg.size (fun k hk hne => hsame k hk fun h => hne (has_nest.2 (.inr ⟨_, hub k h⟩))) ?_ (fun b hb => .inl hb) (fun x v hx => ?_) (fun e0 sz0 ver0 own0 es0 he0 => ?_)
 ·show NestRep _ _ _ _ _ _ _
  refine ⟨⟨xs, ?_, fun i2 c2 hi2 => ?_⟩, hap, fun p2 b hb => ?_⟩
  ·rw [List.length_set]
   exact ownsRow_keep hown fun b hb => hsame b (hown.lt b hb).2 fun he => (hin _ b (hub b he)).2.1 hb
  ·rw [List.getElem?_set] at hi2
   split at hi2
   ·rename_i q
    subst q
    simp only [hil, if_true, Option.some.injEq] at hi2
    subst hi2
    refine ⟨by simp [hcl], fun j2 d hj2 => ?_⟩
    rw [List.getElem?_set] at hj2
    split at hj2
    ·rename_i q
     subst q
     split at hj2
     ·cases hj2
      exact ⟨u, hu, hfr, hnv, ty, hty, ho⟩
     ·cases hj2
    ·rename_i q
     obtain ⟨u2, hu2, hn2⟩ := hcc j2 d hj2
     refine ⟨u2, hu2, hn2.keep fun b hb => hsame b ?_ fun he => ?_⟩
     ·exact (hin _ b hb).2.2
     ·have := hap _ _ b (hub b he) hb
      omega
   ·rename_i q
    obtain ⟨p1, p2⟩ := hes i2 c2 hi2
    refine ⟨p1, fun j2 d hj2 => ?_⟩
    obtain ⟨u2, hu2, hn2⟩ := p2 j2 d hj2
    have hj2l : j2 < sz := by rw [← p1]; exact (List.getElem?_eq_some_iff.1 hj2).1
    refine ⟨u2, hu2, hn2.keep fun b hb => hsame b (hin _ b hb).2.2 fun he => ?_⟩
    have := hap _ _ b (hub b he) hb
    rcases Nat.lt_or_gt_of_ne q with hlt' | hgt
    ·have h9 : (i + 1) * sz ≤ i2 * sz := Nat.mul_le_mul_right _ hlt'
     rw [Nat.add_mul, Nat.one_mul] at h9
     omega
    ·have h9 : (i2 + 1) * sz ≤ i * sz := Nat.mul_le_mul_right _ hgt
     rw [Nat.add_mul, Nat.one_mul] at h9
     omega
  ·obtain ⟨a1, a2, a3⟩ := hin p2 b hb
   exact ⟨by simpa using a1, a2, Nat.lt_of_lt_of_le a3 hg.size⟩
 ·refine cv_same rfl rfl rfl rfl rfl rfl (fun i0 e0 sz0 ver0 own0 es0 hi => ?_) hx
  rw [look_lput] at hi
  split at hi
  ·rename_i hh; subst hh; cases hi; exact ⟨_, es, hid, by simp⟩
  ·exact ⟨own0, es0, hi, rfl⟩
 ·cases he0
  exact hr.kv id _ _ _ _ _ hid
theorem callN_sound {g : FuncId} {args : List AV} {dst : Option Tmp} {K : St → Prop} (h : callNE P st g args dst K) (hr : RepK F0 L w0 st a w κ) {vs : List Value} (hl : vs.length = args.length)
  (hv : ∀ (j : Nat) (x : AV) (v : Value), args[j]? = some x → vs[j]? = some v → AVRep w κ st.h x v) :
  Enters P g ∧ Calls P g vs.toArray w fun e w' => ∃ v, e = .returned v ∧ ∃ st' κ', K st' ∧ RepK F0 L w0 st' (a.put dst v) w' κ' := by
 unfold callNE at h
 split at h
 ·rename_i id ver p hf
  split at h
  ·rename_i e sz vr tys es args' hid hna
   split at h
   ·rename_i hb
    obtain rfl := beq_iff hb
    simp only [fAs_eq] at h
    obtain ⟨i, j, c, sz', es', ty, hp, hj, hic, hcj, hty, res, es'', ⟨hent, hlen, hflat, hfr, hspec⟩, hK⟩ := h
    simp only [putE_eq] at hK
    obtain ⟨k, hk1, hk2⟩ := nFirst_spec hf
    obtain ⟨na1, na2⟩ := nArgs_spec hna
    obtain ⟨⟨xs, hown, hes⟩, hap, hin⟩ := hr.ents id _ hid
    have hkl : k < vs.length := by rw [hl]; exact (List.getElem?_eq_some_iff.1 hk1).1
    obtain ⟨_, _, _, hnv⟩ := hv k _ vs[k] hk1 (List.getElem?_eq_getElem hkl)
    have hnv := hnv (hr.kv _ _ _ _ _ _ hid)
    rw [hp] at hnv
    obtain ⟨hcl, hcc⟩ := hes i c hic
    obtain ⟨u, hu, hnc⟩ := hcc j _ hcj
    obtain ⟨hfl, hnv2, e1, he1, hou⟩ := hnc
    rw [hnv] at hnv2
    simp only [Option.some.injEq] at hnv2
    rw [hty] at he1
    cases he1
    have hub : ∀ b, u.ownBlock = some b → fpOf (κ.nv id) (i * sz + j) = some b := fun b hb => by simp only [fpOf, hnv, Option.bind_some, hnv2]; exact hb
    obtain ⟨A, cc, hA, hcap⟩ := own_shape hou
    have hargs : vs.length = args'.length ∧ ∀ (j : Nat) (av : AV) (v : Value), args'[j]? = some av → vs[j]? = some v → AVRep w (conM (fun _ => False) u) [(0, .arr ty sz' 0 .own es')] av v := by
     refine ⟨by rw [hl, na1], fun j2 av v hj2 hv2 => ?_⟩
     have hlt : j2 < args.length := by rw [← na1]; exact (List.getElem?_eq_some_iff.1 hj2).1
     rcases na2 j2 _ av (List.getElem?_eq_getElem hlt) hj2 with ⟨i1, v1, q1, hx, rfl⟩ | ⟨rfl, hxf⟩
     ·have hjk : j2 = k := by
       rcases Decidable.em (j2 = k) with q | q
       ·exact q
       ·have := hk2 j2 _ q (List.getElem?_eq_getElem hlt); rw [hx] at this; cases this
      subst hjk
      have hvu : v = u := by rw [← hnv2]; rw [List.getElem?_eq_getElem hkl] at hv2; exact (Option.some.inj hv2).symm
      subst hvu
      refine ⟨⟨Nat.zero_lt_one, Nat.le_refl _⟩, by rw [hA]; rfl, by rw [hA]; rfl, fun e2 sz2 own2 es2 hl2 => ?_⟩
      obtain ⟨rfl, rfl, _, rfl, rfl⟩ : ty = e2 ∧ sz' = sz2 ∧ (0 : Nat) = 0 ∧ Ow.own = own2 ∧ es' = es2 := by simpa [look] using hl2
      refine ⟨by simp [offR, lenR], A, es'.length, cc, A, cc, hA, hA, hcap, fun _ => ?_, fun _ => ⟨rfl, rfl, rfl⟩⟩
      cases A with
      | none => rfl
      | some A => simp [offR, Addr.add]
     ·exact (hv j2 _ v (List.getElem?_eq_getElem hlt) hv2).flat hxf
    refine ⟨hent, (hspec (fun _ => False) w u vs (fun b hb => hb.elim) hou hargs.1 hargs.2).mono fun en w' ⟨v, he, hav, hg, ho⟩ => ⟨v, he, ?_⟩⟩
    have hup := inner_up hr hid hj hic hcj hty (by rw [hnv, hnv2]) hg ho hfr
    obtain ⟨st2, hK2, hr2⟩ := setT_sound hK hup (hav.flat hflat)
    exact ⟨st2, _, hK2, hr2⟩
   ·exact h.elim
  ·exact h.elim
 ·exact h.elim
end
end Go.H
namespace Go.H
open Go.RowKit
section
variable {P : Program} {T : TypeId → Option TI} {F0 L : Nat → Prop} {w0 w w' : World} {st : St} {a : Act} {κ κ' : Con} {hh : List (Nat × Ent)}
def mvA (i v id : Nat) : AV → AV
 | .c (.ref i' v' none) => match Nat.beq i' i, Nat.beq v' v with | true, true => .c (.nst id 1 0) | _, _ => .c (.ref i' v' none)
 | x => x
def mvL (i v id : Nat) : List (Nat × AV) → List (Nat × AV)
 | [] => []
 | (k, x) :: r => (k, mvA i v id x) :: mvL i v id r
theorem mvL_eq (i v id : Nat) : ∀ l, mvL i v id l = l.map fun p => (p.1, mvA i v id p.2)
 | [] => rfl
 | (k, x) :: r => by simp only [mvL, mvL_eq i v id r, List.map_cons]
def mvE (cs : List CV) (st : St) (K : St → Prop) : Prop :=
 match cs with
 | [.ref i v none] => (match st with | ⟨t, h, n, N⟩ => fT (mvL i v n t) fun t => K ⟨t, h, n, N⟩)
 | _ => K st
theorem mvE_eq (cs : List CV) (st : St) (K : St → Prop) : mvE cs st K = K (match cs with | [.ref i v none] => ⟨mvL i v st.n st.t, st.h, st.n, st.N⟩ | _ => st) := by
 unfold mvE
 split
 ·cases st; simp only [fT_eq]
 ·rfl
def mwA (i v id ver q : Nat) : AV → AV
 | .c (.nst i' v' p) => match Nat.beq i' i, Nat.beq v' v with | true, true => .c (.nst id ver (q + p)) | _, _ => .c (.nst i' v' p)
 | x => x
def mwL (i v id ver q : Nat) : List (Nat × AV) → List (Nat × AV)
 | [] => []
 | (k, x) :: r => (k, mwA i v id ver q x) :: mwL i v id ver q r
theorem mwL_eq (i v id ver q : Nat) : ∀ l, mwL i v id ver q l = l.map fun p => (p.1, mwA i v id ver q p.2)
 | [] => rfl
 | (k, x) :: r => by simp only [mwL, mwL_eq i v id ver q r, List.map_cons]
def mwE (i v id ver q : Nat) (st : St) (K : St → Prop) : Prop := match st with | ⟨t, h, n, N⟩ => fT (mwL i v id ver q t) fun t => K ⟨t, h, n, N⟩
theorem mwE_eq (i v id ver q : Nat) (st : St) (K : St → Prop) : mwE i v id ver q st K = K ⟨mwL i v id ver q st.t, st.h, st.n, st.N⟩ := by unfold mwE; cases st; simp only [fT_eq]
def litN (T : TypeId → Option TI) (st : St) (t : TypeId) (tys : List TypeId) (len : Nat) (parts : List (Nat × Operand)) (dst : Option Tmp) (K : St → Prop) : Prop :=
 match T t with
 | some ti => match ti.k with
  | .slice e => match T e with
   | some te => match len with
    | 0 => match parts with | _ :: _ => False | [] => pushE st st.h (.arr e te.size 1 (.nest tys) []) fun st' id => setT st' dst (.c (.ref id 1 none)) K
    | len + 1 => match Nat.beq te.size 0, Nat.ble ((len + 1) * te.size) 16777216, partsC st parts with
     | false, true, some l => match fillC (fun i => some (i * te.size, te.size)) ((List.range ((len + 1) * te.size)).map fun i => te.zero.getD (i % te.size) .u) l with
      | some cs => consL st.h (fun k => tys[k % te.size]?) cs fun ds h' => fDDs (chunk te.size (len + 1) ds) fun es => mvE cs st fun st => pushE st h' (.arr e te.size 1 (.nest tys) es) fun st' id => setT st' dst (.c (.ref id 1 none)) K
      | none => False
     | _, _, _ => False
   | none => False
  | _ => False
 | none => False
theorem whole_val (hr : RepK F0 L w0 st a w κ) {id e sz ver : Nat} {ow : Ow} {es : List (List D)} (hl : look st.h id = some (.arr e sz ver ow es)) {u : Value} (hu : CVRep w κ st.h (.ref id ver none) u) : u = κ.val id := by
 obtain ⟨_, _, _, h4⟩ := hu
 obtain ⟨_, a1, n1, c1, a2, c2, h5, h6, _, _, h7⟩ := h4 _ _ _ _ hl
 obtain ⟨_, rfl, rfl⟩ := h7 rfl
 obtain ⟨xs, hrow⟩ := (hr.ents id _ hl).row
 rcases hrow.2 with ⟨q1, q2⟩ | ⟨g, cap, cur, q1, _⟩
 ·rw [h6, q1]
  rw [q1] at h5
  simp only [Value.slice.injEq] at h5
  obtain ⟨rfl, rfl, rfl⟩ := h5
  simp only [lenR]; rw [q2]
 ·rw [h6, q1]
  rw [q1] at h5
  simp only [Value.slice.injEq] at h5
  obtain ⟨rfl, rfl, rfl⟩ := h5
  rfl
theorem consL_one {h : List (Nat × Ent)} {ty : Nat → Option TypeId} {cs : List CV} {K : List D → List (Nat × Ent) → Prop} (hh : consL h ty cs K) :
  consL h ty cs fun ds h' => K ds h' ∧ ∀ i v, cs = [.ref i v none] → ∃ e sz ow es, look h i = some (.arr e sz v ow es) ∧ ds = [.sl sz es] := by
 by_cases hc : ∃ i v, cs = [.ref i v none]
 ·obtain ⟨i, v, rfl⟩ := hc
  simp only [consL, consC] at hh ⊢
  split at hh
  ·rename_i e sz v' es t hl hty
   split at hh
   ·rename_i hb1 hb2
    obtain rfl := beq_iff hb1
    simp only [fN_eq, fH_eq] at hh ⊢
    refine ⟨hh.1, hh.2, fun i' v'' q => ?_⟩
    cases q
    exact ⟨_, _, _, _, hl, rfl⟩
   ·exact hh.elim
  ·exact hh.elim
 ·have : (fun (ds : List D) (h' : List (Nat × Ent)) => K ds h' ∧ ∀ i v, cs = [.ref i v none] → ∃ e sz ow es, look h i = some (.arr e sz v ow es) ∧ ds = [.sl sz es]) = K := by
   funext ds h'
   exact propext ⟨fun q => q.1, fun q => ⟨q, fun i v e => (hc ⟨i, v, e⟩).elim⟩⟩
  rw [this]
  exact hh
theorem litN_tri (hT : TOk P T) {o : Oper} {t : TypeId} {tys : List TypeId} {len : Nat} {parts : Array (Nat × Operand)} (ho : o.op = .buildSlice t len parts) {K : St → Prop} (h : litN T st t tys len parts.toList o.dst K) : OpTri P o st K := by
 unfold litN at h
 split at h
 ·rename_i ti hti
  have hk := (hT _ _ hti).k
  split at h
  ·rename_i e hke
   rw [hke] at hk
   have hk' : P.underlying t = some (.slice e) := hk
   split at h
   ·rename_i te hte
    have hfe := hT _ _ hte
    obtain ⟨info, z, i1, i2, i3, i4, i5, i6, i7⟩ := hfe.info
    split at h
    ·
     split at h
     ·exact h.elim
     rename_i hp
     have hpp : parts = #[] := by apply Array.toList_inj.1; simpa using hp
     subst hpp
     simp only [pushE_eq] at h
     refine opTri_value fun F0 L w0 a w κ hr => ?_
     have g := Grew.alloc w (.cells (#[] : Array Value) e (0, 0))
     have hnest : NestRep { w with heap := w.heap.push (.cells (#[] : Array Value) e (0, 0)) } (.slice (some ⟨w.heap.size, 0, none⟩) 0 0) (fun _ => none) e te.size tys [] :=
      ⟨⟨[], ⟨by simp, .inr ⟨w.heap.size, 0, #[], rfl, Nat.zero_le _, by simp, Nat.le_refl _, Nat.zero_le _, by simp, by simp⟩⟩, fun i c hi => by simp at hi⟩, fun p q b hb => by simp [fpOf] at hb, fun p b hb => by simp [fpOf] at hb⟩
     obtain ⟨st', κ', h1, h2⟩ := nest_new hr g (h' := st.h) (fun _ _ h => h) hnest (fun b hb => by cases hb; exact Nat.le_refl _) (fun p b hb => by simp [fpOf] at hb) rfl (Nat.le_refl _) h
     refine ⟨_, _, ?_, st', κ', h1, h2⟩
     simp [execOp, ho, Instr.buildSlice, run_underlying hk', run_size hfe, Instr.fill, newRow]
     congr 2
     apply Array.eq_empty_of_size_eq_zero
     simp
    ·rename_i len'
     split at h
     ·rename_i l hb1 hb2 hl
      split at h
      ·rename_i cs hcs
       have hsz : te.size ≠ 0 := fun e => by rw [e] at hb1; simp at hb1
       have hle := Nat.le_of_ble_eq_true hb2
       refine opTri_value fun F0 L w0 a w κ hr => ?_
       obtain ⟨z', z1, z2⟩ := zeros_sound hfe ((len' + 1) * te.size) hsz
       have hzz : z' = z := by
        have := z1 default
        simp [zeroValue, typeInfo, i1, i4] at this
        exact this.symm
       subst hzz
       obtain ⟨us, u1, u2⟩ := fill_sound hr hl hcs (z2 w κ st.h)
       obtain ⟨ds, h', ⟨hK, hone⟩, l1, hsub, ov, n1, n2, n3⟩ := consL_sound hr (fun _ _ h => h) (consL_one h) u2
       simp only [fDDs_eq, pushE_eq, mvE_eq] at hK
       have g := Grew.alloc w (.cells us.toArray e (0, 0))
       have hcl : cs.length = (len' + 1) * te.size := by rw [fillC_length hcs]; simp
       have hlen : us.length = (len' + 1) * te.size := by rw [u2.1, hcl]
       have hdl : ds.length = (len' + 1) * te.size := by rw [l1, hcl]
       have hmax : len' + 1 ≤ maxLen := by simp only [maxLen]; have := Nat.le_mul_of_pos_right (len' + 1) (Nat.pos_of_ne_zero hsz); omega
       have hlt : ∀ k b, (ov k).bind Value.ownBlock = some b → b < w.heap.size := fun k b hb => by
        obtain ⟨_, i, y, q1, _, q3, _⟩ := n2 k b hb
        exact (hr.ents i y q1).lt q3
       have hnest : NestRep { w with heap := w.heap.push (.cells us.toArray e (0, 0)) } (.slice (some ⟨w.heap.size, 0, none⟩) (len' + 1) (len' + 1)) ov e te.size tys (chunk te.size (len' + 1) ds) := by
        refine ⟨⟨us, ⟨by rw [hlen, chunk_length], .inr ⟨w.heap.size, len' + 1, us.toArray, by rw [chunk_length], Nat.zero_le _, by simp, by rw [chunk_length]; exact Nat.le_refl _, hmax, by simp [hlen], ?_⟩⟩, fun i c hi => ?_⟩, fun p q b hb hb' => n3 p q b hb hb', fun p b hb => ?_⟩
        ·rw [chunk_length, ← hlen]; simp
        ·obtain ⟨c1, c2⟩ := chunk_get te.size (len' + 1) ds hdl i c hi
         refine ⟨c1, fun j d hj => ?_⟩
         have hd := c2 j d hj
         have hlt' : i * te.size + j < us.length := by rw [hlen, ← hdl]; exact (List.getElem?_eq_some_iff.1 hd).1
         have hjl : j < te.size := by rw [← c1]; exact (List.getElem?_eq_some_iff.1 hj).1
         refine ⟨us[i * te.size + j], List.getElem?_eq_getElem hlt', ?_⟩
         have hc := n1 _ d _ hd (List.getElem?_eq_getElem hlt')
         have hmod : (i * te.size + j) % te.size = j := by rw [Nat.mul_comm, Nat.mul_add_mod, Nat.mod_eq_of_lt hjl]
         simp only [hmod] at hc
         exact hc.keep fun b hb => g.block b (hlt _ b hb)
        ·obtain ⟨q0, _⟩ := n2 p b hb
         have := hlt p b hb
         refine ⟨by rw [chunk_length, ← hcl]; exact q0, fun he => ?_, by simp; omega⟩
         simp only [Value.ownBlock, Option.map_some, Option.some.injEq] at he
         omega
       have hold : ∀ p b, (ov p).bind Value.ownBlock = some b → ∃ i y, look st.h i = some y ∧ y.own = true ∧ y.has κ i b ∧ look h' i = none := fun p b hb => by
        obtain ⟨_, i, y, q1, ⟨e2, z2, v2, s2, rfl⟩, q3, q4⟩ := n2 p b hb
        exact ⟨i, _, q1, rfl, q3, q4⟩
       have hfin : ∃ st' κ', K st' ∧ RepK F0 L w0 st' (a.put o.dst (.slice (some ⟨w.heap.size, 0, none⟩) (len' + 1) (len' + 1))) { w with heap := w.heap.push (.cells us.toArray e (0, 0)) } κ' := by
        split at hK
        ·rename_i i v
         obtain ⟨e3, z3, ow3, es3, q1, rfl⟩ := hone i v rfl
         obtain ⟨u0, hu0⟩ : ∃ u0, us[0]? = some u0 := ⟨us[0]'(by rw [u2.1]; exact Nat.zero_lt_one), List.getElem?_eq_getElem _⟩
         have hv0 := whole_val hr q1 (u2.2 0 _ u0 rfl hu0)
         have hn0 := n1 0 _ u0 rfl hu0
         refine nest_newS (mvA i v st.n) hr g (h' := h') hsub hnest (fun b hb => by cases hb; exact Nat.le_refl _) hold (chunk_length _ _ _).symm (Nat.le_refl _) (fun t av x h1 h2 => ?_) (by rw [mvL_eq] at hK; exact hK)
         unfold mvA
         split
         ·rename_i i' v'
          split
          ·rename_i hb3 hb4
           obtain rfl := beq_iff hb3
           obtain rfl := beq_iff hb4
           obtain ⟨x', hx', hr'⟩ := hr.tmps _ _ h1
           rw [h2] at hx'
           cases hx'
           have hxv := whole_val hr q1 hr'
           refine .inr ⟨0, rfl, ?_, CVRep.one (w := w) (κ := κ) (h := st.h) (x := .ref i' v' none) hr'⟩
           rw [hxv, ← hv0]
           exact hn0.2.1
          ·exact .inl rfl
         ·exact .inl rfl
        ·exact nest_new hr g (h' := h') hsub hnest (fun b hb => by cases hb; exact Nat.le_refl _) hold (chunk_length _ _ _).symm (Nat.le_refl _) hK
       obtain ⟨st', κ', h1, h2⟩ := hfin
       refine ⟨_, _, ?_, st', κ', h1, h2⟩
       have hrun := run_buildSlice (P := P) w t e (len' + 1) (parts.map fun (i, x) => (i, a.eval x)) us.toArray info z' hk' i1 i4 (by rw [i2]; omega) (by rw [i2]; exact Nat.mul_ne_zero (by omega) hsz) (by
        rw [i2]
        have e1 : ((Array.range ((len' + 1) * te.size)).map (z'.cells[· % z'.cells.size]!)) = ((List.range ((len' + 1) * te.size)).map fun i => z'.cells[i % z'.cells.size]!).toArray := by
         apply Array.toList_inj.1; simp
        rw [e1]
        simpa using u1)
       simp only [execOp, ho, Sem.run_bind, hrun, Result.andThen_ok, Sem.run_pure]
       rfl
      ·exact h.elim
     ·exact h.elim
   ·exact h.elim
  ·exact h.elim
 ·exact h.elim
theorem NCell.one {ty : Option TypeId} {ov : Option Value} {d : D} {u : Value} (h : NCell w ty ov d u) : u.oneCell' = true := (h.fz (F := fun _ => True) fun _ _ => trivial).one
theorem append_runV {t e : TypeId} {te : TI} (hk : P.underlying t = some (.slice e)) (hf : te.fits P e) (h0 : te.size ≠ 0) (hb : te.bytes ≤ 32768) {v y : Value} {n m : Nat} {xs ys : List Value} (hown : w.ownsRow 0 e te.size v n xs)
  (hy : w.ownsRow 0 e te.size y m ys) (h1 : ∀ u ∈ ys, u.oneCell' = true) (hlen : n + m ≤ 4000000000) (ty : TypeId) :
  ∃ v' w', (Builtin.append_ #[t, t] ty #[v, y]).run P w = .ok v' w' ∧ w.grownBy w' v.ownBlock ∧ w'.ownsRow 0 e te.size v' (n + m) (xs ++ ys) ∧ ∀ b, v'.ownBlock = some b → v.ownBlock = some b ∨ w.heap.size ≤ b := by
 obtain ⟨info, z, i1, i2, i3, i4, i5, i6, i7⟩ := hf.info
 rcases hy.2 with ⟨rfl, rfl⟩ | ⟨g, cap, cur, rfl, q2, q3, q4, q5, q6, q7⟩
 ·have hys : ys = [] := by
   have := hy.1; simp at this; exact this
  subst hys
  exact ⟨v, w, run_append_none hk i1 (by rw [i2]; exact hown) 0, ⟨rfl, rfl, rfl, Nat.le_refl _, fun _ _ _ => rfl⟩, by simpa using hown, fun b hb => .inl hb⟩
 ·have hcell := hy.cells (g := g) rfl
  have hb1 : (n + m) * te.bytes ≤ 140737488355328 := Nat.le_trans (Nat.mul_le_mul hlen hb) (by decide)
  have hm : n + m ≤ maxLen := by simp only [maxLen]; omega
  obtain ⟨v', w', hr, ho', hg, _⟩ := run_append_own (P := P) w 0 t ty e info z te.size te.bytes hk i1 i4 i2 i3 i5 (Nat.pos_of_ne_zero h0) v n xs hown ⟨g, 0, none⟩ m cap ys hy.1 hcell h1 hm hb1 (Nat.zero_le _)
  have hblk := app_blk (P := P) hk i1 i4 (by rw [i2]; exact hown) (by rw [i2]; exact hy.1) hcell h1 hm (by rw [i3]; exact hb1) hr
  exact ⟨v', w', hr, hg, ho', hblk⟩
def natsEq : List Nat → List Nat → Bool
 | [], [] => true
 | a :: r, b :: s => match Nat.beq a b with | true => natsEq r s | false => false
 | _, _ => false
theorem natsEq_iff : ∀ {l m : List Nat}, natsEq l m = true → l = m
 | [], [], _ => rfl
 | a :: r, b :: s, h => by
  simp only [natsEq] at h
  split at h
  ·rename_i hb; rw [beq_iff hb, natsEq_iff h]
  ·cases h
 | [], _ :: _, h => by simp [natsEq] at h
 | _ :: _, [], h => by simp [natsEq] at h
def appN (T : TypeId → Option TI) (st : St) (t : TypeId) (tys : List TypeId) (x y : AV) (dst : Option Tmp) (K : St → Prop) : Prop :=
 match T t with
 | some ti => match ti.k with
  | .slice e => match T e with
   | some te => match y with
    | .c (.ref idy vy none) => match look st.h idy with
     | some (.arr ey szy v2 (.nest ty2) new) => match Nat.beq te.size 0, Nat.ble te.bytes 32768, Nat.beq ey e, Nat.beq szy te.size, Nat.beq v2 vy, natsEq ty2 tys with
      | false, true, true, true, true, true => match x with
       | .c (.nl _) => Fits 0 (dLen new) ∧ pushE st (hdel st.h idy) (.arr e szy 1 (.nest tys) new) fun st' id => setT st' dst (.c (.ref id 1 none)) K
       | .c (.ref id ver none) => match look (hdel st.h idy) id with
        | some (.arr e' sz v (.nest ty1) es) => match Nat.beq e' e, Nat.beq sz te.size, Nat.beq v ver, natsEq ty1 tys with
         | true, true, true, true => Fits (dLen es) (dLen new) ∧ putE st (hdel st.h idy) id (.arr e sz (ver + 1) (.nest tys) (dApp es new)) fun st' => mwE idy vy id (ver + 1) (dLen es * sz) st' fun st' => setT st' dst (.c (.ref id (ver + 1) none)) K
         | _, _, _, _ => False
        | _ => False
       | _ => False
      | _, _, _, _, _, _ => False
     | _ => False
    | _ => False
   | none => False
  | _ => False
 | none => False
theorem appN_tri (hT : TOk P T) {o : Oper} {x y : Operand} {t : TypeId} {tys : List TypeId} (ho : o.op = .call { callee := .builtin .append, args := #[x, y], argTypes := #[t, t] }) {K : St → Prop}
  (h : appN T st t tys (evO st x) (evO st y) o.dst K) : OpTri P o st K := by
 unfold appN at h
 split at h
 ·rename_i ti hti
  have hk := (hT _ _ hti).k
  split at h
  ·rename_i e hke
   rw [hke] at hk
   have hk' : P.underlying t = some (.slice e) := hk
   split at h
   ·rename_i te hte
    have hf := hT _ _ hte
    split at h
    ·rename_i idy vy hy
     split at h
     ·rename_i ey szy v2 ty2 new hly
      split at h
      ·rename_i hb1 hb2 hb3 hb4 hb5 hb6
       obtain rfl := beq_iff hb3
       obtain rfl := beq_iff hb4
       obtain rfl := beq_iff hb5
       obtain rfl := natsEq_iff hb6
       have h0 : te.size ≠ 0 := fun e => by rw [e] at hb1; simp at hb1
       have hby := Nat.le_of_ble_eq_true hb2
       have hexec : ∀ (a : Act) (w : World) (v : Value) (w' : World), (Builtin.append_ #[t, t] o.type #[a.eval x, a.eval y]).run P w = .ok v w' → (execOp a.eval o).run P w = .ok (.value v) w' := fun a w v w' hr => by
        simp [execOp, ho, resolve, invoke, builtin, hr]
       have hsub : ∀ m z, look (hdel st.h idy) m = some z → look st.h m = some z := fun m z hm => by
        rw [look_hdel] at hm; split at hm; cases hm; exact hm
       have hgone : look (hdel st.h idy) idy = none := by rw [look_hdel]; simp
       split at h
       ·
        rename_i z hx
        simp only [pushE_eq] at h
        obtain ⟨hfit, h⟩ := h
        simp only [Fits, dLen] at hfit
        refine opTri_value fun F0 L w0 a w κ hr => ?_
        have hx' := evO_rep hr x
        rw [hx] at hx'
        have hx2 : a.eval x = .slice none 0 0 := hx'
        have hy' := evO_rep hr y
        rw [hy] at hy'
        have hy2 := whole_val hr hly hy'
        obtain ⟨⟨ys, hyo, hyc⟩, yap, yin⟩ := hr.ents idy _ hly
        have hone : ∀ u ∈ ys, u.oneCell' = true := fun u hu => by
         obtain ⟨k, hk⟩ := List.getElem?_of_mem hu
         have hklt : k < new.length * te.size := by rw [← hyo.1]; exact (List.getElem?_eq_some_iff.1 hk).1
         have hq : k / te.size < new.length := Nat.div_lt_of_lt_mul (by rw [Nat.mul_comm]; exact hklt)
         have hr' := Nat.mod_lt k (Nat.pos_of_ne_zero h0)
         obtain ⟨p1, p2⟩ := hyc _ _ (List.getElem?_eq_getElem hq)
         obtain ⟨u', hu', hn⟩ := p2 (k % te.size) _ (List.getElem?_eq_getElem (by omega))
         rw [Nat.div_add_mod', hk] at hu'
         cases hu'
         exact hn.one
        obtain ⟨v', w', r1, r2, r3, r4⟩ := append_runV hk' hf h0 hby (World.ownsRow_nil w 0 ey te.size) hyo hone (by simpa using hfit) o.type
        simp only [Nat.zero_add, List.nil_append] at r3
        have g : Grew w w' := Grew.of_grown r2 rfl
        have hnew : ∀ b, v'.ownBlock = some b → w.heap.size ≤ b := fun b hb => (r4 b hb).resolve_left (by simp [Value.ownBlock])
        have hsh : ∃ A c, v' = .slice A new.length c ∧ new.length ≤ c := by
         rcases r3.2 with ⟨q1, q2⟩ | ⟨g, cap, cur, q1, _, _, q4, _⟩
         ·exact ⟨none, 0, by rw [q1, q2], by omega⟩
         ·exact ⟨_, cap, q1, q4⟩
        obtain ⟨A, c, rfl, hc⟩ := hsh
        have hnest : NestRep w' (.slice A new.length c) (κ.nv idy) ey te.size ty2 new := by
         refine ⟨⟨ys, r3, fun i c hi => ⟨(hyc i c hi).1, fun j d hd => ?_⟩⟩, yap, fun p b hb => ?_⟩
         ·obtain ⟨u, hu, hn⟩ := (hyc i c hi).2 j d hd
          exact ⟨u, hu, hn.keep fun b hb => g.block b (yin _ b hb).2.2⟩
         ·obtain ⟨a1, a2, a3⟩ := yin p b hb
          exact ⟨a1, fun he => by have := hnew b he; omega, Nat.lt_of_lt_of_le a3 g.size⟩
        obtain ⟨st', κ', k1, k2⟩ := nest_new hr g (h' := hdel st.h idy) hsub hnest hnew (fun p b hb => ⟨idy, _, hly, rfl, has_nest.2 (.inr ⟨p, hb⟩), hgone⟩) rfl hc h
        exact ⟨_, w', hexec a w _ w' (by rw [hx2, hy2]; exact r1), st', κ', k1, k2⟩
       ·
        rename_i id ver hx
        split at h
        ·rename_i e' sz vr ty1 es hl0
         split at h
         ·rename_i hb7 hb8 hb9 hb10
          obtain rfl := beq_iff hb7
          obtain rfl := beq_iff hb8
          obtain rfl := beq_iff hb9
          obtain rfl := natsEq_iff hb10
          simp only [putE_eq, mwE_eq] at h
          obtain ⟨hfit, h⟩ := h
          simp only [Fits, dLen, dApp] at hfit h
          have hl := hsub _ _ hl0
          have hne : id ≠ idy := fun q => by rw [q, hgone] at hl0; cases hl0
          refine opTri_value fun F0 L w0 a w κ hr => ?_
          have hx' := evO_rep hr x
          rw [hx] at hx'
          have hx2 := whole_val hr hl hx'
          have hy' := evO_rep hr y
          rw [hy] at hy'
          have hy2 := whole_val hr hly hy'
          obtain ⟨⟨ys, hyo, hyc⟩, yap, yin⟩ := hr.ents idy _ hly
          obtain ⟨⟨xs, hxo, hxc⟩, xap, xin⟩ := hr.ents id _ hl
          have hone : ∀ u ∈ ys, u.oneCell' = true := fun u hu => by
           obtain ⟨k, hk⟩ := List.getElem?_of_mem hu
           have hklt : k < new.length * te.size := by rw [← hyo.1]; exact (List.getElem?_eq_some_iff.1 hk).1
           have hq : k / te.size < new.length := Nat.div_lt_of_lt_mul (by rw [Nat.mul_comm]; exact hklt)
           have hr' := Nat.mod_lt k (Nat.pos_of_ne_zero h0)
           obtain ⟨p1, p2⟩ := hyc _ _ (List.getElem?_eq_getElem hq)
           obtain ⟨u', hu', hn⟩ := p2 (k % te.size) _ (List.getElem?_eq_getElem (by omega))
           rw [Nat.div_add_mod', hk] at hu'
           cases hu'
           exact hn.one
          obtain ⟨v', w', r1, r2, r3, r4⟩ := append_runV hk' hf h0 hby hxo hyo hone hfit o.type
          have hgx : ∀ b, (κ.val id).ownBlock = some b → (Ent.arr e' te.size vr (.nest ty1) es).has κ id b := fun b hb => has_row hb
          have hsh : ∃ A c, v' = .slice A (es.length + new.length) c ∧ es.length + new.length ≤ c := by
           rcases r3.2 with ⟨q1, q2⟩ | ⟨g, cap, cur, q1, _, _, q4, _⟩
           ·exact ⟨none, 0, by rw [q1, q2], by omega⟩
           ·exact ⟨_, cap, q1, q4⟩
          obtain ⟨A, c, hvs, hc⟩ := hsh
          have hvr := hr.kv _ _ _ _ _ _ hl
          have hidn : id < κ.n := hr.kn ▸ hr.new _ _ hl
          let nv : Nat → Option Value := fun p => if p < es.length * te.size then κ.nv id p else κ.nv idy (p - es.length * te.size)
          have hnv : ∀ p b, fpOf nv p = some b → (p < es.length * te.size ∧ fpOf (κ.nv id) p = some b) ∨ (es.length * te.size ≤ p ∧ fpOf (κ.nv idy) (p - es.length * te.size) = some b) := fun p b hb => by
           simp only [fpOf, nv] at hb
           split at hb
           ·exact .inl ⟨by assumption, hb⟩
           ·exact .inr ⟨by omega, hb⟩
          have hX : ∀ p b, fpOf (κ.nv id) p = some b → (Ent.arr e' te.size vr (.nest ty1) es).has κ id b := fun p b hb => has_nest.2 (.inr ⟨p, hb⟩)
          have hY : ∀ p b, fpOf (κ.nv idy) p = some b → (Ent.arr e' te.size v2 (.nest ty1) new).has κ idy b := fun p b hb => has_nest.2 (.inr ⟨p, hb⟩)
          have hXY : ∀ b, (Ent.arr e' te.size vr (.nest ty1) es).has κ id b → (Ent.arr e' te.size v2 (.nest ty1) new).has κ idy b → False := fun b g1 g2 => hne (hr.inj id idy _ _ b hl hly g1 g2)
          have hkeep : ∀ b, b < w.heap.size → (κ.val id).ownBlock ≠ some b → w'.heap[b]? = w.heap[b]? := fun b hb hn => r2.block b hb fun q => hn q.symm
          have hnest : NestRep w' v' nv e' te.size ty1 (es ++ new) := by
           refine ⟨⟨xs ++ ys, by rw [List.length_append]; exact r3, fun i c hi => ?_⟩, fun p q b hp hq => ?_, fun p b hp => ?_⟩
           ·rw [List.getElem?_append] at hi
            split at hi
            ·rename_i hil
             obtain ⟨q1, q2⟩ := hxc i c hi
             refine ⟨q1, fun j d hj => ?_⟩
             obtain ⟨u, hu, hn⟩ := q2 j d hj
             have hjl : j < te.size := by rw [← q1]; exact (List.getElem?_eq_some_iff.1 hj).1
             have hlt : i * te.size + j < es.length * te.size := by rw [← hxo.1]; exact (List.getElem?_eq_some_iff.1 hu).1
             refine ⟨u, by rw [List.getElem?_append_left (List.getElem?_eq_some_iff.1 hu).1]; exact hu, ?_⟩
             simp only [nv, if_pos hlt]
             exact hn.keep fun b hb => hkeep b (xin _ b hb).2.2 (xin _ b hb).2.1
            ·rename_i hil
             obtain ⟨q1, q2⟩ := hyc _ c hi
             refine ⟨q1, fun j d hj => ?_⟩
             obtain ⟨u, hu, hn⟩ := q2 j d hj
             have e1 : i * te.size + j = es.length * te.size + ((i - es.length) * te.size + j) := by
              rw [← Nat.add_assoc, ← Nat.add_mul]; congr 2; omega
             refine ⟨u, ?_, ?_⟩
             ·rw [e1, ← hxo.1, List.getElem?_append_right (Nat.le_add_right _ _), Nat.add_sub_cancel_left]
              exact hu
             ·simp only [nv]
              rw [if_neg (by rw [e1]; omega), e1, Nat.add_sub_cancel_left]
              exact hn.keep fun b hb => hkeep b (yin _ b hb).2.2 fun he => hXY b (hgx b he) (hY _ b hb)
           ·rcases hnv p b hp with ⟨a1, a2⟩ | ⟨a1, a2⟩ <;> rcases hnv q b hq with ⟨b1, b2⟩ | ⟨b1, b2⟩
            ·exact xap p q b a2 b2
            ·exact (hXY b (hX _ b a2) (hY _ b b2)).elim
            ·exact (hXY b (hX _ b b2) (hY _ b a2)).elim
            ·have := yap _ _ b a2 b2; omega
           ·have key : b < w.heap.size → (κ.val id).ownBlock ≠ some b → v'.ownBlock ≠ some b := fun k1 k2 he => by
             rcases r4 b he with q | q
             ·exact k2 q
             ·omega
            rw [List.length_append, Nat.add_mul]
            rcases hnv p b hp with ⟨a1, a2⟩ | ⟨a1, a2⟩
            ·obtain ⟨c1, c2, c3⟩ := xin p b a2
             exact ⟨by omega, key c3 c2, Nat.lt_of_lt_of_le c3 r2.size⟩
            ·obtain ⟨c1, c2, c3⟩ := yin _ b a2
             exact ⟨by omega, key c3 (fun he => hXY b (hgx b he) (hY _ b a2)), Nat.lt_of_lt_of_le c3 r2.size⟩
          have hfin := hr.turn (w' := w') (id := id) (e' := .arr e' te.size (vr + 1) (.nest ty1) (es ++ new)) (h' := hdel st.h idy) (κ' := κ.setN id v' (vr + 1) nv) (hr.new _ _ hl) rfl
           (fun m x _ hx => hsub m x hx) rfl rfl rfl setN_other r2.os r2.tape r2.output r2.size (fun k hk hnt => hkeep k hk fun he => hnt ⟨id, _, hl, rfl, hgx k he, .inl rfl⟩)
           (by show NestRep _ _ _ _ _ _ _; simp only [Con.setN, if_true]; exact hnest)
           (fun b hb => by
            rw [has_nest] at hb
            simp only [Con.fp, Con.setN, if_true] at hb
            rcases hb with hb | ⟨p, hb⟩
            ·rcases r4 b hb with q | q
             ·exact .inl ⟨id, _, hl, rfl, hgx b q, .inl rfl⟩
             ·exact .inr q
            ·rcases hnv p b hb with ⟨_, a2⟩ | ⟨_, a2⟩
             ·exact .inl ⟨id, _, hl, rfl, hX p b a2, .inl rfl⟩
             ·exact .inl ⟨idy, _, hly, rfl, hY _ b a2, .inr hgone⟩)
           false (fun q => by cases q)
           (fun x v _ hx => cv_turn (κ := κ) (κ' := κ.setN id v' (vr + 1) nv) (id := id) rfl rfl rfl setN_other (by simp [Con.setN, hvr]) (fun m x _ hx => hsub m x hx) (fun _ _ _ _ _ q => by cases q; simp [Con.setN]) hx)
           (fun _ _ _ _ _ q => by cases q; simp [Con.setN])
          have hvy := hr.kv _ _ _ _ _ _ hly
          have hfin2 := hfin.reslots (mwA idy v2 id (vr + 1) (es.length * te.size)) fun t av x h1 h2 h3 => by
           unfold mwA
           split
           ·rename_i i' v' p
            split
            ·rename_i hb11 hb12
             obtain rfl := beq_iff hb11
             obtain rfl := beq_iff hb12
             obtain ⟨m1, m2, m3, m4⟩ := h3
             refine ⟨⟨hidn, by simp [Con.setN]⟩, m2, m3, fun _ => ?_⟩
             have hne' : i' ≠ id := fun q => hne q.symm
             simp only [Con.setN, if_neg hne'] at m4
             simp only [Con.setN, if_true]
             show nv (es.length * te.size + p) = some x
             simp only [nv]
             rw [if_neg (by omega), Nat.add_sub_cancel_left]
             exact m4 hvy
            ·exact h3
           ·exact h3
          rw [mwL_eq] at h
          obtain ⟨st', k1, k2⟩ := setT_sound h hfin2 (v := v') (by
           refine ⟨⟨hidn, by simp [Con.setN]⟩, by rw [hvs]; rfl, by rw [hvs]; rfl, fun e sz own es' hl' => ?_⟩
           simp only [look_lput, if_true] at hl'
           cases hl'
           refine ⟨by simp [offR, lenR], A, es.length + new.length, c, A, c, by simp only [Con.setN, if_true]; exact hvs, by simp only [lenR, List.length_append]; exact hvs, by simp only [lenR, List.length_append]; exact hc, fun _ => ?_, fun _ => ⟨rfl, rfl, rfl⟩⟩
           cases A with
           | none => rfl
           | some A => simp [offR, Addr.add])
          exact ⟨v', w', hexec a w _ w' (by rw [hx2, hy2]; exact r1), st', _, k1, k2⟩
         ·exact h.elim
        ·exact h.elim
       ·exact h.elim
      ·exact h.elim
     ·exact h.elim
    ·exact h.elim
   ·exact h.elim
  ·exact h.elim
 ·exact h.elim
def callN (P : Program) (st : St) (f : AV) (args : List AV) (dst : Option Tmp) (K : St → Prop) : Prop :=
 match calleeOf f with
 | some (g, caps) => callNE P st g (args ++ caps) dst K
 | none => False
theorem callN_tri {o : Oper} {f : Operand} {args : Array Operand} {tys : Array TypeId} (ho : o.op = .call { callee := .value f, args, argTypes := tys }) {K : St → Prop} (h : callN P st (evO st f) (args.toList.map (evO st)) o.dst K) : OpTri P o st K := by
 intro F0 L w0 a w ⟨κ, hr⟩ next Q hn
 unfold callN at h
 split at h
 ·rename_i g caps hc
  obtain ⟨us, hf, hl, hus⟩ := calleeOf_sound hc (evO_rep hr f)
  have hvl : (args.toList.map a.eval ++ us).length = (args.toList.map (evO st) ++ caps).length := by simp [hl]
  have hvs : ∀ (j : Nat) (x : AV) (v : Value), (args.toList.map (evO st) ++ caps)[j]? = some x → (args.toList.map a.eval ++ us)[j]? = some v → AVRep w κ st.h x v := fun j x v hj hv => by
   rw [List.getElem?_append] at hj hv
   simp only [List.length_map] at hj hv
   split at hj
   ·rename_i hlt
    rw [if_pos hlt] at hv
    simp only [List.getElem?_map, Option.map_eq_some_iff] at hj hv
    obtain ⟨p, hp, rfl⟩ := hj
    obtain ⟨p', hp', rfl⟩ := hv
    rw [hp] at hp'; cases hp'
    exact evO_rep hr p
   ·rename_i hlt
    rw [if_neg hlt] at hv
    exact hus _ x v hj hv
  obtain ⟨hent, hcall⟩ := callN_sound h hr hvl hvs
  have hrun : (execOp a.eval o).run P w = .ok (.enter g (args.toList.map a.eval ++ us).toArray) w := by
   have : execOp a.eval o = callFunc g (#[] ++ args.map a.eval ++ us.toArray) := by
    simp only [execOp, ho, resolve, hf, Deferred.ofValue]
    rfl
   rw [this, hent.run]
   congr 2
   apply Array.toList_inj.1
   simp
  unfold Oper.wp
  rw [hrun, Oper.upon_enter]
  refine hcall.mono fun e w' ⟨v, he, st', κ', hK, hr'⟩ => ?_
  subst he
  exact hn st' _ w' hK ⟨κ', hr'⟩
 ·exact h.elim
def nstOf (T : TypeId → Option TI) (t : TypeId) : Option (List TypeId) :=
 match T t with
 | some ti => match ti.k with
  | .slice e => match T e with
   | some te => te.nst
   | none => none
  | _ => none
 | none => none
def nAddr (st : St) (x : AV) : Bool :=
 match x with
 | .c (.ep id _ _ _) => match look st.h id with
  | some (.arr _ _ _ (.nest _) _) => true
  | _ => false
 | _ => false
def anyN : List AV → Bool
 | [] => false
 | x :: r => match x.isN with | true => true | false => anyN r
end
end Go.H
namespace Go.H
open Go.RowKit
section
variable {P : Program} {T : TypeId → Option TI} {F0 L : Nat → Prop} {w0 w w' : World} {st : St} {a : Act} {κ κ' : Con} {hh : List (Nat × Ent)}
theorem run_index_slice {t e : TypeId} {te : TI} (hk : P.underlying t = some (.slice e)) (hte : te.fits P e) {A : Addr} {len cap : Nat} {k : IntKind} {n : Int} (h0 : 0 ≤ n) (hl : n < len) (w : World) :
  (Instr.indexAt t (.slice (some A) len cap) (.int k n)).run P w = .ok (.pointer (some (A.add (n.toNat * te.size)))) w := by
 have hz := run_size (w := w) hte
 simp only [Instr.indexAt, asIntOf, Sem.run_bind, Sem.run_pure, Result.andThen_ok, run_underlying hk, h0, hl, and_self, if_true, hz]
def idxNst (T : TypeId → Option TI) (st : St) (t : TypeId) (x i : AV) (dst : Option Tmp) (K : St → Prop) : Prop :=
 match T t, x, i with
 | some ti, .c (.nst id ver p), .c (.d (.int _ n)) => match ti.k, look st.h id with
  | .slice e, some (.arr _ sz v (.nest _) es) => match T e with
   | some te => match Nat.beq te.size 1, Nat.beq v ver with
    | true, true => ∃ i j c es', p = i * sz + j ∧ AtD es i c ∧ c[j]? = some (.sl 1 es') ∧ InB n (dLen es') ∧ setT st dst (.c (.nep id ver p (nOf n))) K
    | _, _ => False
   | none => False
  | _, _ => False
 | _, _, _ => False
theorem idxNst_tri (hT : TOk P T) {o : Oper} {t : TypeId} {x y : Operand} (ho : o.op = .indexAddr t x y) {K : St → Prop} (h : idxNst T st t (evO st x) (evO st y) o.dst K) : OpTri P o st K := by
 unfold idxNst at h
 split at h
 ·rename_i ti id ver p kk n hti hx hy
  have hk := (hT _ _ hti).k
  split at h
  ·rename_i e ee sz v tys es hke hl
   rw [hke] at hk
   split at h
   ·rename_i te hte
    have hf := hT _ _ hte
    split at h
    ·rename_i hb1 hb2
     have hsz := beq_iff hb1
     obtain rfl := beq_iff hb2
     obtain ⟨i, j, c, es', hp, hic, hcj, hin, hK⟩ := h
     unfold InB dLen at hin
     unfold AtD at hic
     obtain ⟨hn0, hn1⟩ := hin
     refine opTri_value fun F0 L w0 a w κ hr => ?_
     have hx' := evO_rep hr x
     rw [hx] at hx'
     have hy' := evO_rep hr y
     rw [hy] at hy'
     obtain ⟨hid, _, _, hnv⟩ := hx'
     have hnv := hnv (hr.kv _ _ _ _ _ _ hl)
     obtain ⟨u, ty, g1, g2, g3, g4⟩ := inner_at hr hl hic hcj
     rw [hp, g1] at hnv
     simp only [Option.some.injEq] at hnv
     obtain ⟨xs, hown, _⟩ := g4
     have hn1' : n < (es'.length : Int) := hn1
     rcases hown.2 with ⟨h1, h2⟩ | ⟨g, cap, cur, h1, _⟩
     ·omega
     ·have hey : a.eval y = .int kk n := by generalize a.eval y = q at hy'; cases hy'; rfl
      obtain ⟨st', k1, k2⟩ := setT_sound hK hr (v := .pointer (some ((⟨g, 0, none⟩ : Addr).add (nOf n)))) ⟨hid, rfl, rfl, fun _ => ⟨⟨g, 0, none⟩, es'.length, cap, by rw [hp, g1, h1], rfl⟩⟩
      refine ⟨_, w, ?_, st', κ, k1, k2⟩
      have hrun := run_index_slice (P := P) hk hf (A := ⟨g, 0, none⟩) (len := es'.length) (cap := cap) (k := kk) hn0 hn1' w
      rw [hsz, Nat.mul_one] at hrun
      simp only [execOp, ho, ← hnv, h1, hey, Sem.run_bind, hrun, Result.andThen_ok, Sem.run_pure, nOf]
    ·exact h.elim
   ·exact h.elim
  ·exact h.elim
 ·exact h.elim
theorem own_put1 {e : TypeId} {u : Value} {es : List (List D)} (h : OwnRep w (fun _ => False) e 1 u es) {g n cap : Nat} (hu : u = .slice (some ⟨g, 0, none⟩) n cap) {q : Nat} (hq : q < es.length) {d : D} {v : Value} (hd : d.flat = true) {F : Nat → Prop} (hF : Fz w F v d) {t : TypeId} {ti : TI} (hf : ti.fits P t) (hs : ti.size = 1) :
  ∃ w', (storeVar t ⟨g, q, none⟩ v).run P w = .ok () w' ∧ GrewX (fun b => u.ownBlock = some b) w w' ∧ OwnRep w' (fun _ => False) e 1 u (es.set q [d]) := by
 obtain ⟨xs, hown, hes⟩ := h
 rcases hown.2 with ⟨h1, h2⟩ | ⟨g', cap', cur, h1, h2, h3, h4, h5, h6, h7⟩
 ·omega
 ·rw [hu] at h1
  obtain ⟨rfl, rfl, rfl⟩ : g = g' ∧ n = es.length ∧ cap = cap' := by simpa using h1
  have hxl : xs.length = es.length := by have := hown.1; omega
  have hcur : es.length ≤ cur.size := by omega
  have hcv := Fz.cells hF
  have hvs : v.cells.size = 1 := by rw [hcv]; rfl
  have hvl : v.cells.toList = [v] := by rw [hcv]
  have hg' : w.heap[g]? = some (.cells cur.toList.toArray e (0, 0)) := by simpa using h3
  have hrun := run_storeVar_at (P := P) hf (by rw [hvs, hs]) hg' (o := q) (by rw [hvs]; simp; omega) (fun x hx => by rw [hvl] at hx; simp at hx; subst hx; exact Fz.one hF)
  rw [hvl] at hrun
  have hblk : u.ownBlock = some g := by rw [hu]; rfl
  have hov : (over cur.toList q [v]).length = cur.size := by
   rw [over_length]
   ·simp
   ·simp; omega
  refine ⟨_, hrun, ⟨rfl, rfl, rfl, by simp, fun k hk hne => setRow_other _ _ _ _ (fun e' => hne (by rw [e']; exact hblk))⟩, over xs q [v], ⟨?_, .inr ⟨g, cap, (over cur.toList q [v]).toArray, ?_, h2, setRow_heap w _ _ _ _ _ hg', by simpa using h4, h5, ?_, ?_⟩⟩, ?_⟩
  ·rw [over_length]
   ·simp; omega
   ·simp; omega
  ·simp [hu]
  ·simp only [List.size_toArray, hov, h6]
  ·rw [← h7]
   apply List.ext_getElem?
   intro k
   have hle1 : q + [v].length ≤ cur.toList.length := by simp; omega
   have hle2 : q + [v].length ≤ (cur.toList.take (es.length * 1)).length := by simp; omega
   rw [List.getElem?_take, over_get _ _ _ hle1, over_get _ _ _ hle2, List.getElem?_take]
   simp only [List.length_set]
   split
   ·rfl
   ·rename_i hk
    rw [if_neg]
    simp; omega
  ·intro i c hi
   have hlex : q + [v].length ≤ xs.length := by simp; omega
   rw [List.getElem?_set] at hi
   split at hi
   ·rename_i he
    subst he
    simp only [hq, if_true, Option.some.injEq] at hi
    subst hi
    refine ⟨rfl, fun k d' hk => ?_⟩
    have hk0 : k = 0 := by
     cases k with
     | zero => rfl
     | succ k => simp at hk
    subst hk0
    simp at hk
    subst hk
    refine ⟨v, ?_, ?_⟩
    ·rw [over_get _ _ _ hlex, if_pos (by simp)]
     simp
    ·exact CVRep.flat (w' := _) (κ := con0 F) (κ' := con0 fun _ => False) (h := []) (h' := []) (x := .d d) (v := v) hd hF
   ·rename_i hne
    obtain ⟨q2, q3⟩ := hes i c hi
    refine ⟨q2, fun k d' hk => ?_⟩
    obtain ⟨u', hu', hfz⟩ := q3 k d' hk
    have hk2 : k < 1 := by rw [← q2]; exact (List.getElem?_eq_some_iff.1 hk).1
    refine ⟨u', ?_, Fz.keep (fun _ h => h.elim) (fun _ h => h) hfz⟩
    rw [over_get _ _ _ hlex, if_neg (by simp; omega)]
    exact hu'
def storeNep (T : TypeId → Option TI) (st : St) (t : TypeId) (addr val : AV) (K : St → Prop) : Prop :=
 match T t, addr, val with
 | some ti, .c (.nep id ver p q), .c (.d d) => match Nat.beq ti.size 1, d.flat, look st.h id with
  | true, true, some (.arr e sz v (.nest tys) es) => match Nat.beq v ver with
   | true => ∃ i j c es', p = i * sz + j ∧ j < sz ∧ AtD es i c ∧ c[j]? = some (.sl 1 es') ∧ q < dLen es' ∧ putE st st.h id (.arr e sz v (.nest tys) (dSet es i (c.set j (.sl 1 (dSet es' q [d]))))) K
   | false => False
  | _, _, _ => False
 | _, _, _ => False
theorem storeNep_tri (hT : TOk P T) {o : Oper} {t : TypeId} {x y : Operand} (ho : o.op = .store t x y) (hd : o.dst = none) {K : St → Prop} (h : storeNep T st t (evO st x) (evO st y) K) : OpTri P o st K := by
 unfold storeNep at h
 split at h
 ·rename_i ti id ver p q d hti hx hy
  have hf := hT _ _ hti
  split at h
  ·rename_i e sz v tys es hb1 hfl hl
   split at h
   ·rename_i hb2
    have hsz := beq_iff hb1
    obtain rfl := beq_iff hb2
    obtain ⟨i, j, c, es', hp, hj, hic, hcj, hq, hK⟩ := h
    unfold AtD at hic
    unfold dLen at hq
    simp only [putE_eq, dSet] at hK
    refine opTri_skip fun F0 L w0 a w κ hr => ?_
    have hx' := evO_rep hr x
    rw [hx] at hx'
    have hy' := evO_rep hr y
    rw [hy] at hy'
    obtain ⟨hid, _, _, hnv⟩ := hx'
    obtain ⟨A, n, cc, hnv, hpv⟩ := hnv (hr.kv _ _ _ _ _ _ hl)
    obtain ⟨u, ty, g1, g2, g3, g4⟩ := inner_at hr hl hic hcj
    rw [hp, g1] at hnv
    simp only [Option.some.injEq] at hnv
    have hq' : q < es'.length := hq
    have hA : A = ⟨A.block, 0, none⟩ := by
     obtain ⟨xs, hown, _⟩ := g4
     rcases hown.2 with ⟨h1, h2⟩ | ⟨g, cap, cur, h1, _⟩
     ·omega
     ·rw [hnv] at h1
      simp only [Value.slice.injEq, Option.some.injEq] at h1
      rw [h1.1]
    rw [hA] at hnv hpv
    rw [addr0, Nat.zero_add] at hpv
    obtain ⟨w1, hrun, hg, ho1⟩ := own_put1 (P := P) g4 hnv hq' hfl hy' hf hsz
    refine ⟨w1, by simp only [execOp, ho, Sem.run_bind, Instr.storeAt, hpv, Instr.sureAddr, Sem.run_pure, Result.andThen_ok, hrun], _, κ, hK, ?_⟩
    rw [hd]
    refine inner_up hr hl hj hic hcj g2 g1 hg ho1 fun c' hc' d' hd' => ?_
    rcases List.mem_or_eq_of_mem_set hc' with hc' | rfl
    ·exact g3 c' hc' d' hd'
    ·simp at hd'; subst hd'; exact hfl
   ·exact h.elim
  ·exact h.elim
 ·exact h.elim
def dropN : List (Nat × AV) → List (Nat × AV)
 | [] => []
 | (k, x) :: r => match x.noN with | true => (k, x) :: dropN r | false => (k, .u) :: dropN r
theorem look_dropN : ∀ {l : List (Nat × AV)} {k : Nat} {x : AV}, look (dropN l) k = some x → x = .u ∧ (∃ y, look l k = some y) ∨ (look l k = some x ∧ x.noN = true)
 | [], k, x, h => by simp [dropN, look] at h
 | (j, y) :: r, k, x, h => by
  cases hb : Nat.beq j k with
  | true =>
   simp only [look, hb, if_true]
   simp only [dropN] at h
   split at h
   ·rename_i hn
    simp only [look, hb, if_true, Option.some.injEq] at h
    subst h
    exact .inr ⟨rfl, hn⟩
   ·simp only [look, hb, if_true, Option.some.injEq] at h
    exact .inl ⟨h.symm, y, rfl⟩
  | false =>
   have h2 : look (dropN r) k = some x := by
    simp only [dropN] at h
    split at h <;> simpa [look, hb] using h
   have := look_dropN h2
   simpa [look, hb] using this
theorem dropN_noN : ∀ l : List (Nat × AV), noNT (dropN l) = true
 | [] => rfl
 | (j, y) :: r => by
  simp only [dropN]
  split
  ·rename_i hn; simp only [noNT, hn, dropN_noN r, Bool.and_self]
  ·simp only [noNT, AV.noN, dropN_noN r, Bool.and_self]
theorem RepK.dropN (hr : RepK F0 L w0 st a w κ) : RepK F0 L w0 { st with t := dropN st.t } a w κ :=
  { below := hr.below, f0 := hr.f0, f1 := hr.f1, f2 := hr.f2, size := hr.size, dfs := hr.dfs, kn := hr.kn, ents := hr.ents, new := hr.new, excl := hr.excl, inj := hr.inj, kv := hr.kv, tmps := fun t av ht => by
      rcases look_dropN ht with ⟨rfl, y, hy⟩ | ⟨hy, _⟩
      · obtain ⟨v, hv, _⟩ := hr.tmps t y hy
        exact ⟨v, hv, trivial⟩
      · exact hr.tmps t av hy }
theorem place_ne {i j i' j' sz : Nat} (hj : j < sz) (hj' : j' < sz) (h : ¬ (i = i' ∧ j = j')) : i * sz + j ≠ i' * sz + j' := fun he => by
 have h1 : (i * sz + j) / sz = i := by rw [Nat.mul_comm, Nat.mul_add_div (by omega), Nat.div_eq_of_lt hj]; omega
 have h2 : (i' * sz + j') / sz = i' := by rw [Nat.mul_comm, Nat.mul_add_div (by omega), Nat.div_eq_of_lt hj']; omega
 rw [he, h2] at h1
 subst h1
 exact h ⟨rfl, by omega⟩
theorem RepK.take (hr : RepK F0 L w0 st a w κ) {tx id e sz v : Nat} {tys : List TypeId} {es : List (List D)} {i j : Nat} {c : List D} {z : Nat} {es' : List (List D)} {ty : TypeId} (hx : look st.t tx = some (.c (.nst id v (i * sz + j)))) (hl : look st.h id = some (.arr e sz v (.nest tys) es)) (hno : noNH st.h = true)
  (hj : j < sz) (hic : es[i]? = some c) (hcj : c[j]? = some (.sl z es')) (hty : tys[j]? = some ty) :
  ∃ κ', RepK F0 L w0 ⟨(tx, .c (.ref st.n 0 none)) :: Go.H.dropN st.t, lput st.h id (.arr e sz v (.nest tys) (es.set i (c.set j .any))) ++ [(st.n, .arr ty z 0 .own es')], st.n + 1, st.N⟩ a w κ' := by
 obtain ⟨u, ty', g1, g2, g3, g4⟩ := inner_at hr hl hic hcj
 rw [hty] at g2
 cases g2
 have hk := hr.kn
 have hvr0 := hr.kv _ _ _ _ _ _ hl
 have hidn := hr.new _ _ hl
 obtain ⟨⟨xs, hown, hes⟩, hap, hin⟩ := hr.ents id _ hl
 obtain ⟨hcl, hcc⟩ := hes i c hic
 have hil : i < es.length := (List.getElem?_eq_some_iff.1 hic).1
 let nv : Nat → Option Value := fun p => if p = i * sz + j then none else κ.nv id p
 have hfp : ∀ p b, fpOf nv p = some b → p ≠ i * sz + j ∧ fpOf (κ.nv id) p = some b := fun p b hb => by
  simp only [fpOf, nv] at hb ⊢
  split at hb
  ·cases hb
  ·rename_i q; exact ⟨q, hb⟩
 have hub : ∀ b, u.ownBlock = some b → fpOf (κ.nv id) (i * sz + j) = some b := fun b hb => by simp only [fpOf, g1, Option.bind_some]; exact hb
 have hnest : NestRep w (κ.val id) nv e sz tys (es.set i (c.set j .any)) := by
  refine ⟨⟨xs, by rw [List.length_set]; exact hown, fun i2 c2 hi2 => ?_⟩, fun p q b hp hq => hap p q b (hfp p b hp).2 (hfp q b hq).2, fun p b hp => by rw [List.length_set]; exact hin p b (hfp p b hp).2⟩
  have oth : ∀ (j2 : Nat) (d : D) (u2 : Value), ¬ (i2 = i ∧ j2 = j) → j2 < sz → NCell w tys[j2]? (κ.nv id (i2 * sz + j2)) d u2 → NCell w tys[j2]? (nv (i2 * sz + j2)) d u2 := fun j2 d u2 hne hj2 h => by
   have : nv (i2 * sz + j2) = κ.nv id (i2 * sz + j2) := by
    simp only [nv]
    rw [if_neg (place_ne hj2 hj hne)]
   rw [this]
   exact h
  rw [List.getElem?_set] at hi2
  split at hi2
  ·rename_i q
   subst q
   simp only [hil, if_true, Option.some.injEq] at hi2
   subst hi2
   refine ⟨by simp [hcl], fun j2 d hj2 => ?_⟩
   rw [List.getElem?_set] at hj2
   split at hj2
   ·rename_i q
    subst q
    split at hj2
    ·cases hj2
     obtain ⟨u2, hu2, hn2⟩ := hcc j _ hcj
     have hn3 := hn2.fz (F := fun _ => True) fun _ _ => trivial
     exact ⟨u2, hu2, rfl, by simp only [nv, if_true], .any u2 hn3.one hn3.cells⟩
    ·cases hj2
   ·rename_i q
    obtain ⟨u2, hu2, hn2⟩ := hcc j2 d hj2
    exact ⟨u2, hu2, oth j2 d u2 (fun h => q h.2.symm) (by rw [← hcl]; exact (List.getElem?_eq_some_iff.1 hj2).1) hn2⟩
  ·rename_i q
   obtain ⟨p1, p2⟩ := hes i2 c2 hi2
   refine ⟨p1, fun j2 d hj2 => ?_⟩
   obtain ⟨u2, hu2, hn2⟩ := p2 j2 d hj2
   exact ⟨u2, hu2, oth j2 d u2 (fun h => q h.1.symm) (by rw [← p1]; exact (List.getElem?_eq_some_iff.1 hj2).1) hn2⟩
 have hval1 : (κ.setN id (κ.val id) (κ.vr id) nv).val = κ.val := by
  funext k; simp only [Con.setN]; split
  ·rename_i q; rw [q]
  ·rfl
 have hvr1 : (κ.setN id (κ.val id) (κ.vr id) nv).vr = κ.vr := by
  funext k; simp only [Con.setN]; split
  ·rename_i q; rw [q]
  ·rfl
 have hnv1 : (κ.setN id (κ.val id) (κ.vr id) nv).nv id = nv := by simp [Con.setN]
 have h1 := (hr.dropN).turn (w' := w) (id := id) (e' := .arr e sz v (.nest tys) (es.set i (c.set j .any))) (h' := st.h) (κ' := κ.setN id (κ.val id) (κ.vr id) nv) hidn rfl (fun m x _ hx => hx) rfl rfl rfl setN_other rfl rfl rfl (Nat.le_refl _) (fun _ _ _ => rfl)
  (by show NestRep _ _ _ _ _ _ _; rw [hnv1, hval1]; exact hnest)
  (fun b hb => by
   rw [has_nest, hval1] at hb
   simp only [Con.fp] at hb
   rw [hnv1] at hb
   rcases hb with hb | ⟨p, hb⟩
   ·exact .inl ⟨id, _, hl, rfl, has_row hb, .inl rfl⟩
   ·exact .inl ⟨id, _, hl, rfl, has_nest.2 (.inr ⟨p, (hfp p b hb).2⟩), .inl rfl⟩)
  true (fun _ => by simp only [St.noN, dropN_noN, hno, Bool.and_self]) (fun x v' hx hv => by
   have hlk : ∀ m e0 sz0 ver0 own0 es0, look (lput st.h id (.arr e sz v (.nest tys) (es.set i (c.set j .any)))) m = some (.arr e0 sz0 ver0 own0 es0) → ∃ own' es1, look st.h m = some (.arr e0 sz0 ver0 own' es1) ∧ es1.length = es0.length := fun m e0 sz0 ver0 own0 es0 hm => by
    rw [look_lput] at hm
    split at hm
    ·rename_i q; subst q; cases hm; exact ⟨_, es, hl, by simp⟩
    ·exact ⟨own0, es0, hm, rfl⟩
   have hx0 := hx rfl
   cases x with
   | nst => cases hx0
   | nep => cases hx0
   | d x => exact hv
   | nl _ => exact hv
   | u => exact hv
   | ptr => exact hv
   | fn => exact hv
   | ref i2 v2 s2 =>
    obtain ⟨z1, z2, z3, z4⟩ := hv
    refine ⟨by rw [hvr1]; exact z1, z2, z3, fun e0 sz0 own0 es0 hm => ?_⟩
    obtain ⟨own', es1, q1, q2⟩ := hlk _ _ _ _ _ _ hm
    have := z4 _ _ _ _ q1
    rw [hval1]
    have e1 : lenR es1 s2 = lenR es0 s2 := by cases s2 <;> simp [lenR, q2]
    rw [← q2, ← e1]
    exact this
   | ep i2 v2 k2 j2 =>
    obtain ⟨z1, z2, z3, z4⟩ := hv
    refine ⟨by rw [hvr1]; exact z1, z2, z3, fun e0 sz0 own0 es0 hm => ?_⟩
    obtain ⟨own', es1, q1, q2⟩ := hlk _ _ _ _ _ _ hm
    have := z4 _ _ _ _ q1
    rw [hval1, ← q2]
    exact this) (fun _ _ _ _ _ q => by cases q; rw [hvr1]; exact hvr0)
 have hkn : κ.n = st.n := hk
 have h2 := h1.pushL (.arr ty z 0 .own es') 0 u (by
   show OwnRep _ _ _ _ _ _
   simp only [Con.push, Con.setN, hkn, if_true]
   exact g4.flat g3) (fun _ _ _ _ _ h => by cases h; rfl) (fun b hb => by
   rw [has_own] at hb
   simp only [Con.push, Con.setN, hkn, if_true] at hb
   have hb1 := hub b hb
   have hx1 := hr.excl id _ b hl (has_nest.2 (.inr ⟨_, hb1⟩))
   refine ⟨hx1.1 rfl, fun _ => hx1.2.1 rfl, fun hf => by simp [Ent.own, Ow.my] at hf, fun id2 x hl2 hh2 => ?_⟩
   rw [look_lput] at hl2
   split at hl2
   ·rename_i q
    subst q
    cases hl2
    rw [has_nest, hval1] at hh2
    simp only [Con.fp] at hh2
    rw [hnv1] at hh2
    rcases hh2 with hh2 | ⟨p, hh2⟩
    ·exact (hin _ b hb1).2.1 hh2
    ·exact (hfp p b hh2).1 (hap _ _ b (hfp p b hh2).2 hb1)
   ·rename_i q
    have : x.has κ id2 b := by
     cases x <;> simpa only [Ent.has, Con.fp, Con.setN, if_neg (fun h : id2 = id => q h.symm)] using hh2
    exact q (hr.inj _ _ _ _ b hl hl2 (has_nest.2 (.inr ⟨_, hb1⟩)) this))
 refine ⟨_, { below := h2.below, f0 := h2.f0, f1 := h2.f1, f2 := h2.f2, size := h2.size, dfs := h2.dfs, kn := h2.kn, ents := h2.ents, new := h2.new, excl := h2.excl, inj := h2.inj, kv := h2.kv, tmps := fun t av ht => ?_ }⟩
 simp only [look] at ht
 split at ht
 ·rename_i hb
  obtain rfl := beq_iff hb
  cases ht
  obtain ⟨v1, hv1, _, _, _, hnv⟩ := hr.tmps _ _ hx
  have hnv := hnv hvr0
  rw [g1] at hnv
  simp only [Option.some.injEq] at hnv
  obtain ⟨A, cc, hA, hcap⟩ := own_shape g4
  refine ⟨v1, hv1, ⟨by simp [Con.push, Con.setN, hkn], Nat.zero_le _⟩, by rw [← hnv, hA]; rfl, by rw [← hnv, hA]; rfl, fun e1 sz1 own1 es1 hl1 => ?_⟩
  have hok : CVOk (lput st.h id (.arr e sz v (.nest tys) (es.set i (c.set j .any)))) st.n := fun m y hm => by
   rw [look_lput] at hm
   split at hm
   ·rename_i q; rw [← q]; exact hidn
   ·exact hr.new _ _ hm
  simp only [St.push] at hl1
  rw [look_push _ _ _ _ hok, if_pos rfl] at hl1
  cases hl1
  refine ⟨by simp [offR, lenR], A, es'.length, cc, A, cc, by simp [Con.push, Con.setN, hkn, hA], by rw [← hnv, hA]; rfl, hcap, fun _ => ?_, fun _ => ⟨rfl, rfl, rfl⟩⟩
  cases A with
  | none => rfl
  | some A => simp [offR, Addr.add]
 ·exact h2.tmps t av ht
def takeK (st : St) (tx id e sz v : Nat) (tys : List TypeId) (es : List (List D)) (i j : Nat) (c : List D) (z : Nat) (es' : List (List D)) (ty : TypeId) (K : St → Prop) : Prop :=
 match st with | ⟨t, h, n, N⟩ => fN z fun z => fT ((tx, .c (.ref n 0 none)) :: dropN t) fun t => lputK h id (.arr e sz v (.nest tys) (dSet es i (c.set j .any))) fun h => snocK h (n, .arr ty z 0 .own es') fun h => fH h fun h => fN (n + 1) fun n => K ⟨t, h, n, N⟩
theorem takeK_eq {tx id e sz v : Nat} {tys : List TypeId} {es : List (List D)} {i j : Nat} {c : List D} {z : Nat} {es' : List (List D)} {ty : TypeId} {K : St → Prop} : takeK st tx id e sz v tys es i j c z es' ty K = K ⟨(tx, .c (.ref st.n 0 none)) :: dropN st.t, lput st.h id (.arr e sz v (.nest tys) (es.set i (c.set j .any))) ++ [(st.n, .arr ty z 0 .own es')], st.n + 1, st.N⟩ := by
 cases st
 simp only [takeK, fN_eq, fT_eq, lputK_eq, snocK_eq, fH_eq, dSet]
def appNst (T : TypeId → Option TI) (st : St) (t : TypeId) (tx : Tmp) (y : Operand) (dst : Option Tmp) (K : St → Prop) : Prop :=
 match look st.t tx with
 | some (.c (.nst id ver p)) => match look st.h id with
  | some (.arr e sz v (.nest tys) es) => match Nat.beq v ver, noNH st.h with
   | true, true => ∃ i j c z es' ty, p = i * sz + j ∧ j < sz ∧ AtD es i c ∧ c[j]? = some (.sl z es') ∧ tys[j]? = some ty ∧ takeK st tx id e sz v tys es i j c z es' ty fun st1 => appE T st1 t (evO st1 (.tmp tx)) (evO st1 y) dst K
   | _, _ => False
  | _ => False
 | _ => False
theorem appNst_tri (hT : TOk P T) {o : Oper} {tx : Tmp} {y : Operand} {t : TypeId} (ho : o.op = .call { callee := .builtin .append, args := #[.tmp tx, y], argTypes := #[t, t] }) {K : St → Prop} (h : appNst T st t tx y o.dst K) : OpTri P o st K := by
 unfold appNst at h
 split at h
 ·rename_i id ver p hx
  split at h
  ·rename_i e sz v tys es hl
   split at h
   ·rename_i hb hno
    obtain rfl := beq_iff hb
    obtain ⟨i, j, c, z, es', ty, rfl, hj, hic, hcj, hty, hK⟩ := h
    unfold AtD at hic
    rw [takeK_eq] at hK
    intro F0 L w0 a w ⟨κ, hr⟩ next Q hn
    obtain ⟨κ', hr'⟩ := hr.take hx hl hno hj hic hcj hty
    rw [← appE_eq] at hK
    exact append_tri hT ho hK F0 L w0 a w ⟨κ', hr'⟩ next Q hn
   ·exact h.elim
  ·exact h.elim
 ·exact h.elim
def appNO (T : TypeId → Option TI) (st : St) (t : TypeId) (x y : Operand) (dst : Option Tmp) (K : St → Prop) : Prop :=
 match x with
 | .tmp tx => appNst T st t tx y dst K
 | _ => False
theorem appNO_tri (hT : TOk P T) {o : Oper} {x y : Operand} {t : TypeId} (ho : o.op = .call { callee := .builtin .append, args := #[x, y], argTypes := #[t, t] }) {K : St → Prop} (h : appNO T st t x y o.dst K) : OpTri P o st K := by
 unfold appNO at h
 split at h
 ·exact appNst_tri hT ho h
 ·exact h.elim
def isNep : AV → Bool
 | .c (.nep ..) => true
 | _ => false
def ldNep (T : TypeId → Option TI) (st : St) (t : TypeId) (x : AV) (dst : Option Tmp) (K : St → Prop) : Prop :=
 match T t, x with
 | some ti, .c (.nep id ver p q) => match look st.h id with
  | some (.arr _ sz v (.nest _) es) => match Nat.beq v ver with
   | true => ∃ i j c es' d, p = i * sz + j ∧ AtD es i c ∧ c[j]? = some (.sl 1 es') ∧ es'[q]? = some [d] ∧ cellsC ti [.d d] (fun av => setT st dst av K)
   | false => False
  | _ => False
 | _, _ => False
theorem ldNep_tri (hT : TOk P T) {o : Oper} {t : TypeId} {x : Operand} (ho : o.op = .load t x) {K : St → Prop} (h : ldNep T st t (evO st x) o.dst K) : OpTri P o st K := by
 unfold ldNep at h
 split at h
 ·rename_i ti id ver p q hti hx
  have hf := hT _ _ hti
  split at h
  ·rename_i e sz v tys es hl
   split at h
   ·rename_i hb2
    obtain rfl := beq_iff hb2
    obtain ⟨i, j, c, es', d, hp, hic, hcj, hq, hK⟩ := h
    unfold AtD at hic
    obtain ⟨r, hr0, hs⟩ := cells_sound hf hK
    refine opTri_value fun F0 L w0 a w κ hr => ?_
    have hx' := evO_rep hr x
    rw [hx] at hx'
    obtain ⟨hid, _, _, hnv⟩ := hx'
    obtain ⟨A, n, cc, hnv, hpv⟩ := hnv (hr.kv _ _ _ _ _ _ hl)
    obtain ⟨u, ty, g1, g2, g3, g4⟩ := inner_at hr hl hic hcj
    rw [hp, g1] at hnv
    simp only [Option.some.injEq] at hnv
    have hq' : q < es'.length := (List.getElem?_eq_some_iff.1 hq).1
    obtain ⟨xs, hown, hes⟩ := g4
    obtain ⟨_, q3⟩ := hes q [d] hq
    obtain ⟨v', hv', hfz⟩ := q3 0 d rfl
    have hcell : w.cell? (A.add q) = some v' := by
     rcases hown.2 with ⟨h1, h2⟩ | ⟨g, cap, cur, h1, _⟩
     ·omega
     ·rw [hnv] at h1
      simp only [Value.slice.injEq, Option.some.injEq] at h1
      rw [h1.1]
      exact hown.cells (by rw [hnv, h1.1]; rfl) _ _ (by rw [← hv']; congr 1; omega)
    obtain ⟨u', k1, k2⟩ := hs w κ st.h (A.add q) (fun k c' hk' _ => by
     cases k with
     | zero =>
      simp only [List.getElem?_cons_zero, Option.some.injEq] at hk'
      subst hk'
      exact ⟨v', by rw [add_add, Nat.add_zero]; exact hcell, Fz.keep (fun _ f => f.elim) (fun _ f => f.elim) hfz⟩
     | succ k => simp at hk')
    obtain ⟨st', m1, m2⟩ := setT_sound hr0 hr (v := u') k2
    refine ⟨u', w, ?_, st', κ, m1, m2⟩
    simp only [execOp, ho, Sem.run_bind, hpv, Instr.loadAt, Instr.sureAddr, Sem.run_pure, Result.andThen_ok, k1]
   ·exact h.elim
  ·exact h.elim
 ·exact h.elim
def appYN (T : TypeId → Option TI) (st : St) (t : TypeId) (x y : AV) (dst : Option Tmp) (K : St → Prop) : Prop :=
 match T t with
 | some ti => match ti.k with
  | .slice e => match T e with
   | some te => match Nat.beq te.size 1, Nat.ble te.bytes 32768, y with
    | true, true, .c (.nst id ver p) => match look st.h id with
     | some (.arr _ sz v (.nest _) es) => match Nat.beq v ver with
      | true => ∃ i j c es', p = i * sz + j ∧ AtD es i c ∧ c[j]? = some (.sl 1 es') ∧ appXE e te st x es' dst K
      | false => False
     | _ => False
    | _, _, _ => False
   | none => False
  | _ => False
 | none => False
theorem Reads.of_own {F : Nat → Prop} {e sz : Nat} {v : Value} {es : List (List D)} (h : OwnRep w (fun _ => False) e sz v es) : Reads w F sz v es := by
 obtain ⟨xs, ho, hx⟩ := h
 obtain ⟨A, c, hv, _⟩ := own_shape (F := fun _ => False) ⟨xs, ho, hx⟩
 refine ⟨A, es.length, c, hv, rfl, fun i c hi => (hx i c hi).1, fun hne => ?_, xs, ho.1, fun i c j d hi hj => ?_, fun B hB k u hu => ?_⟩
 ·rcases ho.2 with ⟨h1, h2⟩ | ⟨g, cap, cur, h1, _⟩
  ·exact absurd (List.eq_nil_of_length_eq_zero h2) hne
  ·rw [h1] at hv
   simp only [Value.slice.injEq] at hv
   rw [← hv.1]
   simp
 ·obtain ⟨u, h1, h2⟩ := (hx i c hi).2 j d hj
  exact ⟨u, h1, Fz.keep (fun _ f => f.elim) (fun _ f => f.elim) h2⟩
 ·rcases ho.2 with ⟨h1, h2⟩ | ⟨g, cap, cur, h1, _⟩
  ·have hx0 : xs = [] := List.eq_nil_of_length_eq_zero (by rw [ho.1, h2]; simp)
   rw [hx0] at hu; simp at hu
  ·rw [h1, hB] at hv
   simp only [Value.slice.injEq, Option.some.injEq] at hv
   obtain ⟨rfl, _⟩ := hv
   exact ho.cells (g := g) (by rw [h1]; rfl) _ u hu
theorem appYN_tri (hT : TOk P T) {o : Oper} {x y : Operand} {t : TypeId} (ho : o.op = .call { callee := .builtin .append, args := #[x, y], argTypes := #[t, t] }) {K : St → Prop} (h : appYN T st t (evO st x) (evO st y) o.dst K) : OpTri P o st K := by
 unfold appYN at h
 split at h
 ·rename_i ti hti
  have hk := (hT _ _ hti).k
  split at h
  ·rename_i e hke
   rw [hke] at hk
   have hk' : P.underlying t = some (.slice e) := hk
   split at h
   ·rename_i te hte
    have hf := hT _ _ hte
    split at h
    ·rename_i id ver p hb1 hb2 hy
     split at h
     ·rename_i sz v tys es hl
      split at h
      ·rename_i hb3
       obtain rfl := beq_iff hb3
       obtain ⟨i, j, c, es', hp, hic, hcj, hK⟩ := h
       unfold AtD at hic
       rw [← appXE_eq] at hK
       have hs1 := beq_iff hb1
       refine append_core hk' hf (by omega) (Nat.le_of_ble_eq_true hb2) ho (fun {F0 L w0 a w κ} hr => ?_) hK
       have hy' := evO_rep hr y
       rw [hy] at hy'
       obtain ⟨_, _, _, hnv⟩ := hy'
       have hnv := hnv (hr.kv _ _ _ _ _ _ hl)
       obtain ⟨u, ty, g1, g2, g3, g4⟩ := inner_at hr hl hic hcj
       rw [hp, g1] at hnv
       simp only [Option.some.injEq] at hnv
       rw [← hnv, hs1]
       exact Reads.of_own g4
      ·exact h.elim
     ·exact h.elim
    ·exact h.elim
   ·exact h.elim
  ·exact h.elim
 ·exact h.elim
end
end Go.H
