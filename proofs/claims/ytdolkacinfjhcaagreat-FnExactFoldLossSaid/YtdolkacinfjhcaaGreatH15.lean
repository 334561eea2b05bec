/- Framework H, part 11: appends. -/
import Derived.Test.YtdolkacinfjhcaaGreatH10
set_option linter.unusedSimpArgs false
set_option linter.unusedVariables false
set_option linter.constructorNameAsVariable false
namespace Go.H
open Go.RowKit
section
variable {P : Program} {T : TypeId → Option TI} {F0 L : Nat → Prop} {w0 w w' : World} {st : St} {a : Act} {κ κ' : Con} {hh : List (Nat × Ent)}
theorem app_blk {t ty e : TypeId} {i : TypeInfo} {z : Value} (ht : P.underlying t = some (.slice e)) (hi : P.info? e = some i) (hz : i.zero = some z)
  {v : Value} {n : Nat} {xs : List Value} (hown : w.ownsRow 0 e i.size v n xs)
  {A : Addr} {m c : Nat} {news : List Value} (hl : news.length = m * i.size) (hnews : ∀ (j : Nat) (u : Value), news[j]? = some u → w.cell? (A.add j) = some u) (h1 : ∀ u ∈ news, u.oneCell' = true)
  (h63 : n + m ≤ maxLen) (hbytes : (n + m) * i.bytes ≤ 140737488355328) {v' : Value} {w' : World} (hr : (Builtin.append_ #[t, t] ty #[v, .slice (some A) m c]).run P w = .ok v' w') :
  ∀ b, v'.ownBlock = some b → v.ownBlock = some b ∨ w.heap.size ≤ b := by
 intro b hb
 simp only [maxLen] at h63
 rcases hown.2 with ⟨rfl, rfl⟩ | ⟨g, cap, cur, rfl, hbg, hg, hnc, hcm, hcs, htake⟩
 ·by_cases hm : m = 0
  ·subst hm
   have hn : news = [] := List.eq_nil_of_length_eq_zero (by simpa using hl)
   subst hn
   have h2 : (Builtin.append_ #[t, t] ty #[.slice none 0 0, .slice (some A) 0 c]).run P w = .ok (.slice none 0 0) w := by
    simp [Builtin.append_, run_underlying ht, sizeOf, typeInfo, hi, Builtin.lenOf, Builtin.firstCells, loadCells, loadCellsFrom]
   rw [h2] at hr
   cases hr
   simp [Value.ownBlock] at hb
  ·have h2 := run_append_nil (P := P) w t ty e i z ht hi hz A m c news hl hnews (by omega) (by omega) (by simp only [Nat.zero_add] at hbytes; omega)
   rw [h2] at hr
   cases hr
   simp only [Value.ownBlock, Option.some.injEq] at hb
   exact .inr (by omega)
 ·by_cases hroom : n + m ≤ cap
  ·have hfit : n * i.size + news.length ≤ cur.size := by rw [hl, hcs, ← Nat.add_mul]; exact Nat.mul_le_mul_right _ hroom
   have h2 := run_append_room (P := P) w t ty e i ht hi g n cap cur hg A m c news hl hnews h1 hroom hfit
   rw [h2] at hr
   cases hr
   exact .inl hb
  ·have holds : ∀ j u, xs[j]? = some u → w.cell? ((⟨g, 0, none⟩ : Addr).add j) = some u := hown.cells (g := g) rfl
   have h2 := run_append_grow (P := P) w t ty e i z ht hi hz ⟨g, 0, none⟩ n cap xs hown.1 holds A m c news hl hnews (by omega) (by omega) (growslice_fits (by omega) hbytes)
   rw [h2] at hr
   cases hr
   simp only [Value.ownBlock, Option.some.injEq] at hb
   exact .inr (by omega)
theorem run_append_none {t ty e : TypeId} {i : TypeInfo} (ht : P.underlying t = some (.slice e)) (hi : P.info? e = some i) {v : Value} {n : Nat} {xs : List Value} (hown : w.ownsRow 0 e i.size v n xs) (c : Nat) :
  (Builtin.append_ #[t, t] ty #[v, .slice none 0 c]).run P w = .ok v w := by
 rcases hown.2 with ⟨rfl, rfl⟩ | ⟨g, cap, cur, rfl, _, _, hnc, _⟩
 ·simp [Builtin.append_, run_underlying ht, sizeOf, typeInfo, hi, Builtin.lenOf, Builtin.firstCells]
 ·simp [Builtin.append_, run_underlying ht, sizeOf, typeInfo, hi, Builtin.lenOf, Builtin.firstCells, hnc, storeCells]
def Reads (w : World) (F : Nat → Prop) (sz : Nat) (v : Value) (es : List (List D)) : Prop :=
 ∃ a len cap, v = .slice a len cap ∧ len = es.length ∧ (∀ (i : Nat) (c : List D), es[i]? = some c → c.length = sz) ∧ (es ≠ [] → a ≠ none) ∧
  ∃ vals : List Value, vals.length = es.length * sz ∧ (∀ (i : Nat) (c : List D) (j : Nat) (d : D), es[i]? = some c → c[j]? = some d → ∃ u, vals[i * sz + j]? = some u ∧ Fz w F u d) ∧
   ∀ A, a = some A → ∀ (k : Nat) (u : Value), vals[k]? = some u → w.cell? (A.add k) = some u
theorem Reads.of_fz {sz : Nat} {v : Value} {es : List (List D)} {F : Nat → Prop} (h : Fz w F v (.sl sz es)) : Reads w F sz v es := by
 cases h with
 | sl A len cap sz es val hl hc he ha hrd hs =>
  refine ⟨A, len, cap, rfl, hl, he, fun hne => by obtain ⟨x, hx, _⟩ := ha hne; rw [hx]; simp, (List.range (es.length * sz)).map fun k => val (k / sz) (k % sz), by simp, fun i c j d hi hj => ?_, fun B hB k u hu => ?_⟩
  ·have h1 := he i c hi
   have hj' : j < sz := by rw [← h1]; exact (List.getElem?_eq_some_iff.1 hj).1
   have hi' : i < es.length := (List.getElem?_eq_some_iff.1 hi).1
   have hlt : i * sz + j < es.length * sz := by
    have : (i + 1) * sz ≤ es.length * sz := Nat.mul_le_mul_right _ hi'
    rw [Nat.add_mul, Nat.one_mul] at this; omega
   refine ⟨val i j, ?_, hs i c j d hi hj⟩
   simp only [List.getElem?_map, List.getElem?_range hlt, Option.map_some]
   have e1 : (i * sz + j) / sz = i := by rw [Nat.mul_comm, Nat.mul_add_div (by omega), Nat.div_eq_of_lt hj']; rfl
   have e2 : (i * sz + j) % sz = j := by rw [Nat.mul_comm, Nat.mul_add_mod, Nat.mod_eq_of_lt hj']
   rw [e1, e2]
  ·simp only [List.getElem?_map, Option.map_eq_some_iff] at hu
   obtain ⟨k', hk', rfl⟩ := hu
   obtain ⟨hlt, rfl⟩ := List.getElem?_eq_some_iff.1 hk'
   simp only [List.length_range] at hlt
   simp only [List.getElem_range]
   have hsz : 0 < sz := Nat.pos_of_ne_zero (fun h => by rw [h] at hlt; simp at hlt)
   have hq : k / sz < es.length := Nat.div_lt_of_lt_mul (by rw [Nat.mul_comm]; exact hlt)
   have hr := Nat.mod_lt k hsz
   have hc1 : es[k / sz].length = sz := he _ _ (List.getElem?_eq_getElem hq)
   have := hrd B (k / sz) _ (k % sz) _ hB (List.getElem?_eq_getElem hq) (List.getElem?_eq_getElem (by omega))
   rwa [Nat.div_add_mod' k sz] at this
theorem Reads.of_ref (hr : RepK F0 L w0 st a w κ) {id e sz ver : Nat} {own : Ow} {es : List (List D)} (hl : look st.h id = some (.arr e sz ver own es)) (hns : own.ns = false) {s : Option (Bool × Nat × Nat)} {v : Value} (h : CVRep w κ st.h (.ref id ver s) v) :
  Reads w κ.F sz v (partOf es s) := by
 obtain ⟨_, _, _, hu⟩ := h
 obtain ⟨hle, ba, bn, bc, a', c', hv, rfl, hc', ha', _⟩ := hu _ _ _ _ hl
 rw [partR es s]
 obtain ⟨xs, ho, hx⟩ := (hr.ents id _ hl).plain hns
 have hxl := ho.1
 have hlen2 : ((es.drop (offR s)).take (lenR es s)).length = lenR es s := by simp; omega
 refine ⟨a', lenR es s, c', rfl, hlen2.symm, fun i c hi => ?_, fun hne => ?_, (xs.drop (offR s * sz)).take (lenR es s * sz), ?_, fun i c j d hi hj => ?_, fun A hA k u hu => ?_⟩
 ·rw [List.getElem?_take, List.getElem?_drop] at hi
  split at hi
  ·exact (hx _ c hi).1
  ·simp at hi
 ·have hlen : lenR es s ≠ 0 := by intro h0; rw [h0] at hne; simp at hne
  rcases ho.2 with ⟨h1, h2⟩ | ⟨g, cap, cur, h1, _⟩
  ·omega
  ·rw [hv] at h1
   obtain ⟨rfl, rfl, rfl⟩ : ba = some ⟨g, 0, none⟩ ∧ bn = es.length ∧ bc = cap := by simpa using h1
   rw [ha' hlen]; simp
 ·rw [hlen2]
  have : (offR s + lenR es s) * sz ≤ es.length * sz := Nat.mul_le_mul_right _ hle
  rw [Nat.add_mul] at this
  simp; omega
 ·rw [List.getElem?_take, List.getElem?_drop] at hi
  split at hi
  ·rename_i hlt
   obtain ⟨u, hu1, hu2⟩ := (hx _ c hi).2 j d hj
   have h1 := (hx _ c hi).1
   have hj' : j < sz := by rw [← h1]; exact (List.getElem?_eq_some_iff.1 hj).1
   refine ⟨u, ?_, hu2⟩
   have hlt2 : i * sz + j < lenR es s * sz := by
    have : (i + 1) * sz ≤ lenR es s * sz := Nat.mul_le_mul_right _ hlt
    rw [Nat.add_mul, Nat.one_mul] at this; omega
   rw [List.getElem?_take, if_pos hlt2, List.getElem?_drop]
   rw [← hu1]
   congr 1
   rw [Nat.add_mul, Nat.add_assoc]
  ·simp at hi
 ·rw [List.getElem?_take, List.getElem?_drop] at hu
  split at hu
  ·rename_i hlt
   rcases ho.2 with ⟨h1, h2⟩ | ⟨g, cap, cur, h1, _⟩
   ·have : lenR es s = 0 := by omega
    rw [this] at hlt; simp at hlt
   ·rw [hv] at h1
    obtain ⟨rfl, rfl, rfl⟩ : ba = some ⟨g, 0, none⟩ ∧ bn = es.length ∧ bc = cap := by simpa using h1
    have hlen : lenR es s ≠ 0 := by intro h; rw [h] at hlt; simp at hlt
    have ha2 := ha' hlen
    rw [hA] at ha2
    simp only [Option.map_some, Option.some.injEq] at ha2
    subst ha2
    rw [add_add]
    exact ho.cells (g := g) (by rw [hv]; rfl) _ u hu
  ·simp at hu
def srcOf (st : St) (sz : Nat) (x : AV) : Option (List (List D)) :=
 match x with
 | .c (.nl _) => some []
 | .c (.d (.sl s es)) => match Nat.beq s sz with | true => some es | false => none
 | .c (.ref id ver s) => match look st.h id with
  | some (.arr _ sz' v ow es) => match Nat.beq v ver, Nat.beq sz' sz, ow.ns with
   | true, true, false => some (partOf es s)
   | _, _, _ => none
  | _ => none
 | _ => none
theorem src_sound (hr : RepK F0 L w0 st a w κ) {sz : Nat} {x : AV} {es : List (List D)} (h : srcOf st sz x = some es) {v : Value} (hv : AVRep w κ st.h x v) : Reads w κ.F sz v es := by
 unfold srcOf at h
 split at h
 ·cases h
  cases hv
  exact ⟨none, 0, 0, rfl, rfl, fun i c hi => by simp at hi, fun hne => absurd rfl hne, [], by simp, fun i c j d hi => by simp at hi, fun A hA => by cases hA⟩
 ·split at h
  ·rename_i hb
   obtain rfl := beq_iff hb
   cases h
   exact Reads.of_fz hv
  ·cases h
 ·split at h
  ·rename_i hl
   split at h
   ·rename_i hb1 hb2 hns
    obtain rfl := beq_iff hb1
    obtain rfl := beq_iff hb2
    cases h
    exact Reads.of_ref hr hl hns hv
   ·cases h
  ·cases h
 ·cases h
def appX (e : TypeId) (te : TI) (st : St) (x : AV) (new : List (List D)) (dst : Option Tmp) (K : St → Prop) : Prop :=
 match x with
 | .c (.nl _) => new.length ≤ 4000000000 ∧ setT (st.push (.arr e te.size 0 .own new)) dst (.c (.ref st.n 0 none)) K
 | .c (.ref id ver none) => match look st.h id with
  | some (.arr e' sz v .own es) => match Nat.beq e' e, Nat.beq sz te.size, Nat.beq v ver with
   | true, true, true => es.length + new.length ≤ 4000000000 ∧ setT { st with h := lput st.h id (.arr e sz (ver + 1) .own (es ++ new)) } dst (.c (.ref id (ver + 1) none)) K
   | _, _, _ => False
  | _ => False
 | _ => False
def appWp (T : TypeId → Option TI) (st : St) (t : TypeId) (x y : AV) (dst : Option Tmp) (K : St → Prop) : Prop :=
 match T t with
 | some ti => match ti.k with
  | .slice e => match T e with
   | some te => match Nat.beq te.size 0, Nat.ble te.bytes 32768, srcOf st te.size y with
    | false, true, some new => appX e te st x new dst K
    | _, _, _ => False
   | none => False
  | _ => False
 | none => False
theorem append_run {t e : TypeId} {te : TI} (hk : P.underlying t = some (.slice e)) (hf : te.fits P e) (h0 : te.size ≠ 0) (hb : te.bytes ≤ 32768) {F : Nat → Prop} {v : Value} {es new : List (List D)} (ho : OwnRep w F e te.size v es) {y : Value}
  (hy : Reads w F te.size y new) (hlen : es.length + new.length ≤ 4000000000) (hFk : ∀ b, F b → v.ownBlock ≠ some b) (ty : TypeId) (hlt : ∀ b, F b → b < w.heap.size) :
  ∃ v' w', (Builtin.append_ #[t, t] ty #[v, y]).run P w = .ok v' w' ∧ w.grownBy w' v.ownBlock ∧ OwnRep w' F e te.size v' (es ++ new) ∧ ∀ b, v'.ownBlock = some b → v.ownBlock = some b ∨ w.heap.size ≤ b := by
 obtain ⟨info, z, i1, i2, i3, i4, i5, i6, i7⟩ := hf.info
 obtain ⟨xs, hown, hes⟩ := ho
 obtain ⟨A, len, cap, rfl, rfl, hsz, hne, vals, hvl, hvr, hvc⟩ := hy
 have hownL := hown.1
 cases A with
 | none =>
  have hnew : new = [] := by
   rcases Decidable.em (new = []) with h | h
   ·exact h
   ·exact absurd rfl (hne h)
  subst hnew
  refine ⟨v, w, run_append_none hk i1 (by rw [i2]; exact hown) cap, ⟨rfl, rfl, rfl, Nat.le_refl _, fun _ _ _ => rfl⟩, by rw [List.append_nil]; exact ⟨xs, hown, hes⟩, fun b hb => .inl hb⟩
 | some A =>
  have hcell := hvc A rfl
  have h1 : ∀ u ∈ vals, u.oneCell' = true := fun u hu => by
   obtain ⟨k, hk⟩ := List.getElem?_of_mem hu
   have hklt : k < new.length * te.size := by rw [← hvl]; exact (List.getElem?_eq_some_iff.1 hk).1
   have hq : k / te.size < new.length := Nat.div_lt_of_lt_mul (by rw [Nat.mul_comm]; exact hklt)
   have hr := Nat.mod_lt k (Nat.pos_of_ne_zero h0)
   have hc := hsz _ _ (List.getElem?_eq_getElem hq)
   obtain ⟨u', hu', hfz⟩ := hvr (k / te.size) _ (k % te.size) _ (List.getElem?_eq_getElem hq) (List.getElem?_eq_getElem (by omega))
   rw [Nat.div_add_mod', hk] at hu'
   cases hu'
   exact hfz.one
  have hb1 : (es.length + new.length) * te.bytes ≤ 140737488355328 := Nat.le_trans (Nat.mul_le_mul hlen hb) (by decide)
  have hm : es.length + new.length ≤ maxLen := by simp only [maxLen]; omega
  obtain ⟨v', w', hr, ho', hg, _⟩ := run_append_own (P := P) w 0 t ty e info z te.size te.bytes hk i1 i4 i2 i3 i5 (Nat.pos_of_ne_zero h0) v es.length xs hown A new.length cap vals hvl hcell h1 hm hb1 (Nat.zero_le _)
  have hblk := app_blk (P := P) hk i1 i4 (by rw [i2]; exact hown) (by rw [i2]; exact hvl) hcell h1 hm (by rw [i3]; exact hb1) hr
  refine ⟨v', w', hr, hg, ⟨xs ++ vals, by rw [List.length_append]; exact ho', fun i c hi => ?_⟩, hblk⟩
  have hFk' : ∀ b, F b → w'.heap[b]? = w.heap[b]? := fun b hb => hg.block b (hlt b hb) (fun e => hFk b hb e.symm)
  rw [List.getElem?_append] at hi
  split at hi
  ·rename_i hil
   obtain ⟨q1, q2⟩ := hes i c hi
   refine ⟨q1, fun j d hj => ?_⟩
   obtain ⟨u, hu, hfz⟩ := q2 j d hj
   exact ⟨u, by rw [List.getElem?_append_left (List.getElem?_eq_some_iff.1 hu).1]; exact hu, Fz.keep hFk' (fun _ h => h) hfz⟩
  ·rename_i hil
   refine ⟨hsz _ c hi, fun j d hj => ?_⟩
   obtain ⟨u, hu, hfz⟩ := hvr _ c j d hi hj
   refine ⟨u, ?_, Fz.keep hFk' (fun _ h => h) hfz⟩
   have e1 : i * te.size + j = xs.length + ((i - es.length) * te.size + j) := by
    rw [hownL, ← Nat.add_assoc, ← Nat.add_mul]; congr 2; omega
   rw [e1, List.getElem?_append_right (Nat.le_add_right _ _), Nat.add_sub_cancel_left]
   exact hu
theorem own_shape {F : Nat → Prop} {e sz : Nat} {v : Value} {es : List (List D)} (h : OwnRep w F e sz v es) : ∃ A c, v = .slice A es.length c ∧ es.length ≤ c := by
 obtain ⟨xs, ho, _⟩ := h
 rcases ho.2 with ⟨h1, h2⟩ | ⟨g, cap, cur, h1, _, _, h2, _⟩
 ·exact ⟨none, 0, by rw [h1, h2], by omega⟩
 ·exact ⟨_, cap, h1, h2⟩
theorem ownRep_nil {F : Nat → Prop} (w : World) (e sz : Nat) : OwnRep w F e sz (.slice none 0 0) [] :=
 ⟨[], World.ownsRow_nil w 0 e sz, fun i c hi => by simp at hi⟩
theorem append_core {o : Oper} {x y : Operand} {t e : TypeId} {te : TI} (hk' : P.underlying t = some (.slice e)) (hf : te.fits P e) (h0 : te.size ≠ 0) (hby : te.bytes ≤ 32768) (ho : o.op = .call { callee := .builtin .append, args := #[x, y], argTypes := #[t, t] }) {K : St → Prop} {new : List (List D)}
  (hsrc : ∀ {F0 L : Nat → Prop} {w0 : World} {a : Act} {w : World} {κ : Con}, RepK F0 L w0 st a w κ → Reads w κ.F te.size (a.eval y) new) (h : appX e te st (evO st x) new o.dst K) : OpTri P o st K := by
 have hexec : ∀ (a : Act) (w : World) (v : Value) (w' : World), (Builtin.append_ #[t, t] o.type #[a.eval x, a.eval y]).run P w = .ok v w' → (execOp a.eval o).run P w = .ok (.value v) w' := fun a w v w' hr => by
  simp [execOp, ho, resolve, invoke, builtin, hr]
 unfold appX at h
 split at h
 ·
  rename_i z hx
  obtain ⟨hlen, h⟩ := h
  refine opTri_value fun F0 L w0 a w κ hr => ?_
  have hx' := evO_rep hr x
  rw [hx] at hx'
  have hx2 : a.eval x = .slice none 0 0 := hx'
  have hy := hsrc hr
  obtain ⟨v', w', r1, r2, r3, r4⟩ := append_run hk' hf h0 hby (ownRep_nil w e te.size) hy (by simpa using hlen) (fun b _ => by simp [Value.ownBlock]) o.type hr.f2
  rw [List.nil_append] at r3
  obtain ⟨A, c, rfl, hc⟩ := own_shape r3
  have g : Grew w w' := Grew.of_grown r2 rfl
  obtain ⟨st', κ', k1, k2⟩ := arr_put hr g (n := new.length) r3 (fun b hb => (r4 b hb).resolve_left (by simp [Value.ownBlock])) rfl hc h
  exact ⟨_, w', hexec a w _ w' (by rw [hx2]; exact r1), st', κ', k1, k2⟩
 ·
  rename_i id ver hx
  split at h
  ·rename_i e' sz vr es hl
   split at h
   ·rename_i hb3 hb4 hb5
    obtain rfl := beq_iff hb3
    obtain rfl := beq_iff hb4
    obtain rfl := beq_iff hb5
    obtain ⟨hlen, h⟩ := h
    refine opTri_value fun F0 L w0 a w κ hr => ?_
    have hx' := evO_rep hr x
    rw [hx] at hx'
    obtain ⟨⟨hn1, hn2⟩, _, _, hxe⟩ := hx'
    obtain ⟨_, ba, bn, bc, a', c', hv, hxv, hc', _, hhd⟩ := hxe _ _ _ _ hl
    obtain ⟨_, ha2, hc2⟩ := hhd rfl
    subst ha2 hc2
    have hent : OwnRep w κ.F e' te.size (κ.val id) es := hr.ents id _ hl
    obtain ⟨A0, c0, hs0, _⟩ := own_shape hent
    have hxv' : a.eval x = κ.val id := by
     rw [hxv, hv]
     rw [hv] at hs0
     simp only [Value.slice.injEq] at hs0
     rw [hs0.2.1]; rfl
    have hy := hsrc hr
    obtain ⟨v', w', r1, r2, r3, r4⟩ := append_run hk' hf h0 hby hent hy hlen (fun b hb he => (hr.excl id _ b hl (has_row he)).2.1 rfl hb) o.type hr.f2
    let κ1 : Con := { κ with val := fun i => if i = id then v' else κ.val i, vr := fun i => if i = id then vr + 1 else κ.vr i }
    have hcv : ∀ x v, CVRep w κ st.h x v → CVRep w κ1 (lput st.h id (.arr e' te.size (vr + 1) .own (es ++ new))) x v := by
     intro x v hx
     cases x with
     | d x => exact hx
     | nl _ => exact hx
     | u => exact hx
     | ptr => exact hx
     | fn => exact hx
     | ref i ver s =>
      obtain ⟨⟨q1, q1'⟩, q2, q3, q4⟩ := hx
      by_cases hi : i = id
      ·subst hi
       have hvr := hr.kv _ _ _ _ _ _ hl
       refine ⟨⟨q1, by simp only [κ1, if_true]; omega⟩, q2, q3, fun e sz own es' hl' => ?_⟩
       rw [look_lput, if_pos rfl] at hl'
       cases hl'
       omega
      ·refine ⟨⟨q1, by simp only [κ1, if_neg hi]; exact q1'⟩, q2, q3, fun e sz own es' hl' => ?_⟩
       rw [look_lput, if_neg (fun h => hi h.symm)] at hl'
       simp only [κ1, if_neg hi]
       exact q4 _ _ _ _ hl'
     | nst i ver p =>
      obtain ⟨⟨q1, q1'⟩, q2, q3, q4⟩ := hx
      by_cases hi : i = id
      ·subst hi
       have hvr := hr.kv _ _ _ _ _ _ hl
       exact ⟨⟨q1, by simp only [κ1, if_true]; omega⟩, q2, q3, by simp only [κ1, if_true]; intro; omega⟩
      ·exact ⟨⟨q1, by simp only [κ1, if_neg hi]; exact q1'⟩, q2, q3, by simp only [κ1, if_neg hi]; exact q4⟩
     | nep i ver p q =>
      obtain ⟨⟨q1, q1'⟩, q2, q3, q4⟩ := hx
      by_cases hi : i = id
      ·subst hi
       have hvr := hr.kv _ _ _ _ _ _ hl
       exact ⟨⟨q1, by simp only [κ1, if_true]; omega⟩, q2, q3, by simp only [κ1, if_true]; intro; omega⟩
      ·exact ⟨⟨q1, by simp only [κ1, if_neg hi]; exact q1'⟩, q2, q3, by simp only [κ1, if_neg hi]; exact q4⟩
     | ep i ver k j =>
      obtain ⟨⟨q1, q1'⟩, q2, q3, q4⟩ := hx
      by_cases hi : i = id
      ·subst hi
       have hvr := hr.kv _ _ _ _ _ _ hl
       refine ⟨⟨q1, by simp only [κ1, if_true]; omega⟩, q2, q3, fun e sz own es' hl' => ?_⟩
       rw [look_lput, if_pos rfl] at hl'
       cases hl'
       omega
      ·refine ⟨⟨q1, by simp only [κ1, if_neg hi]; exact q1'⟩, q2, q3, fun e sz own es' hl' => ?_⟩
       rw [look_lput, if_neg (fun h => hi h.symm)] at hl'
       simp only [κ1, if_neg hi]
       exact q4 _ _ _ _ hl'
    have hup : RepK F0 L w0 { st with h := lput st.h id (.arr e' te.size (vr + 1) .own (es ++ new)) } a w' κ1 := by
     refine hr.upd hl rfl rfl rfl rfl rfl (fun i hi => ⟨by simp only [κ1, if_neg hi], by simp only [κ1, if_neg hi], rfl⟩) r2.os r2.tape r2.output r2.size (fun k hk hne => r2.block k hk (fun h => hne (has_row h.symm))) ?_ (fun b hb => ?_) hcv (fun _ _ _ _ _ h => by cases h; simp only [κ1, if_true])
     ·show OwnRep _ _ _ _ _ _
      simp only [κ1, if_true]
      exact r3
     ·rw [has_own] at hb ⊢
      simp only [κ1, if_true] at hb
      exact r4 b hb
    obtain ⟨A, c, hvs, hc⟩ := own_shape r3
    obtain ⟨st', k1, k2⟩ := setT_sound h hup (v := v') (by
     refine ⟨⟨hn1, by simp only [κ1, if_true]; exact Nat.le_refl _⟩, by rw [hvs]; rfl, by rw [hvs]; rfl, fun e sz own es' hl' => ?_⟩
     simp only [look_lput, if_true] at hl'
     cases hl'
     refine ⟨by simp [offR, lenR], A, (es ++ new).length, c, A, c, by simp only [κ1, if_true]; exact hvs, by simp only [lenR]; exact hvs, by simp only [lenR]; exact hc, fun _ => ?_, fun _ => ⟨rfl, rfl, rfl⟩⟩
     cases A with
     | none => rfl
     | some A => simp [offR, Addr.add])
    exact ⟨v', w', hexec a w _ w' (by rw [hxv']; exact r1), st', κ1, k1, k2⟩
   ·exact h.elim
  ·exact h.elim
 ·exact h.elim
theorem append_tri (hT : TOk P T) {o : Oper} {x y : Operand} {t : TypeId} (ho : o.op = .call { callee := .builtin .append, args := #[x, y], argTypes := #[t, t] }) {K : St → Prop}
  (h : appWp T st t (evO st x) (evO st y) o.dst K) : OpTri P o st K := by
 unfold appWp at h
 split at h
 ·rename_i ti hti
  have hk := (hT _ _ hti).k
  split at h
  ·rename_i e hke
   rw [hke] at hk
   have hk' : P.underlying t = some (.slice e) := hk
   split at h
   ·rename_i te hte
    have hf := hT _ _ hte
    split at h
    ·rename_i new hb1 hb2 hsrc
     have h0 : te.size ≠ 0 := fun e => by rw [e] at hb1; simp at hb1
     have hby := Nat.le_of_ble_eq_true hb2
     exact append_core hk' hf h0 hby ho (fun hr => src_sound hr hsrc (evO_rep hr y)) h
    ·exact h.elim
   ·exact h.elim
  ·exact h.elim
 ·exact h.elim
end
end Go.H
namespace Go.H
open Go.RowKit
section
variable {P : Program} {T : TypeId → Option TI} {F0 L : Nat → Prop} {w0 w w' : World} {st : St} {a : Act} {κ κ' : Con} {hh : List (Nat × Ent)}
def zD : List CV → Option (List D)
 | [] => some []
 | x :: r => match x, zD r with
  | .d d, some l => some (d :: l)
  | .nl sz, some l => some (.sl sz [] :: l)
  | _, _ => none
theorem zD_sound : ∀ {xs : List CV} {ds : List D}, zD xs = some ds → ds.length = xs.length ∧ ∀ (w : World) (κ : Con) (hh : List (Nat × Ent)) (vs : List Value), CVs w κ hh xs vs → ∀ (j : Nat) (d : D) (u : Value), ds[j]? = some d → vs[j]? = some u → Fz w κ.F u d
 | [], ds, h => by
  simp only [zD, Option.some.injEq] at h
  subst h
  exact ⟨rfl, fun w κ hh vs _ j d u hd => by simp at hd⟩
 | x :: r, ds, h => by
  have key : ∀ (d0 : D) (l : List D), zD r = some l → ds = d0 :: l → (∀ (w : World) (κ : Con) (hh : List (Nat × Ent)) v, CVRep w κ hh x v → Fz w κ.F v d0) → ds.length = (x :: r).length ∧ ∀ (w : World) (κ : Con) (hh : List (Nat × Ent)) (vs : List Value), CVs w κ hh (x :: r) vs → ∀ (j : Nat) (d : D) (u : Value), ds[j]? = some d → vs[j]? = some u → Fz w κ.F u d := by
   intro d0 l hl hds hx
   obtain ⟨h1, h2⟩ := zD_sound hl
   subst hds
   refine ⟨by simp [h1], fun w κ hh vs hvs j d u hd hu => ?_⟩
   match vs, hvs with
   | v :: vs, hvs =>
    cases j with
    | zero => simp at hd hu; subst hd; subst hu; exact hx w κ hh _ (hvs.2 0 x v rfl rfl)
    | succ j => exact h2 w κ hh vs ⟨by have := hvs.1; simpa using this, fun k c w' hc hw => hvs.2 (k + 1) c w' (by simpa using hc) (by simpa using hw)⟩ j d u (by simpa using hd) (by simpa using hu)
   | [], hvs => simp at hu
  simp only [zD] at h
  split at h
  ·rename_i d l hl
   cases h
   exact key d l hl rfl fun w κ hh v hv => hv
  ·rename_i sz l hl
   cases h
   refine key _ l hl rfl fun w κ hh v hv => ?_
   cases hv
   exact .sl none 0 0 sz [] (fun _ _ => undef) rfl (Nat.le_refl _) (fun i c hi => by simp at hi) (fun hne => absurd rfl hne) (fun A i c j d hA => by simp at hA) (fun i c j d hi => by simp at hi)
  ·cases h
def makeWp (T : TypeId → Option TI) (st : St) (t : TypeId) (l c : AV) (dst : Option Tmp) (K : St → Prop) : Prop :=
 match T t, l, c with
 | some ti, .c (.d (.int _ l)), .c (.d (.int _ c)) => match ti.k with
  | .slice e => match T e with
   | some te => match Nat.beq te.size 0, Nat.ble te.bytes 32768, zD te.zero with
    | false, true, some ds => (0 ≤ l ∧ l ≤ c ∧ c ≤ 4000000000) ∧ setT (st.push (.arr e te.size 0 .own (List.replicate l.toNat ds))) dst (.c (.ref st.n 0 none)) K
    | _, _, _ => False
   | none => False
  | _ => False
 | _, _, _ => False
theorem make_tri (hT : TOk P T) {o : Oper} {t : TypeId} {x y : Operand} (ho : o.op = .makeSlice t x y) {K : St → Prop} (h : makeWp T st t (evO st x) (evO st y) o.dst K) : OpTri P o st K := by
 unfold makeWp at h
 split at h
 ·rename_i ti kl l kc c hti hx hy
  have hk := (hT _ _ hti).k
  split at h
  ·rename_i e hke
   rw [hke] at hk
   split at h
   ·rename_i te hte
    have hf := hT _ _ hte
    obtain ⟨info, z, i1, i2, i3, i4, i5, i6, i7⟩ := hf.info
    split at h
    ·rename_i ds hb1 hb2 hds
     have h0 : te.size ≠ 0 := fun e => by rw [e] at hb1; simp at hb1
     have hby := Nat.le_of_ble_eq_true hb2
     obtain ⟨⟨hl0, hlc, hcm⟩, h⟩ := h
     obtain ⟨z', z1, z2⟩ := zeros_sound hf (c.toNat * te.size) h0
     have hzz : z' = z := by
      have := z1 default
      simp [zeroValue, typeInfo, i1, i4] at this
      exact this.symm
     subst hzz
     obtain ⟨d1, d2⟩ := zD_sound hds
     refine opTri_value fun F0 L w0 a w κ hr => ?_
     have hx' := evO_rep hr x
     rw [hx] at hx'
     have hy' := evO_rep hr y
     rw [hy] at hy'
     have ex : a.eval x = .int kl l := by generalize a.eval x = q at hx'; cases hx'; rfl
     have ey : a.eval y = .int kc c := by generalize a.eval y = q at hy'; cases hy'; rfl
     have hbytes : (info.bytes : Int) * c ≤ 281474976710656 := by
      rw [i3]
      have h1 : (te.bytes : Int) ≤ 32768 := by omega
      have h2 : (te.bytes : Int) * c ≤ 32768 * 4000000000 := Int.mul_le_mul h1 hcm (by omega) (by omega)
      omega
     have hrun := run_make (P := P) w t e info z' hk i1 i4 kl kc l c hl0 hlc hbytes (by omega)
     have g := Grew.alloc w (.cells (madeCells z'.cells (c.toNat * info.size)) e)
     have hcells : madeCells z'.cells (c.toNat * info.size) = ((List.range (c.toNat * te.size)).map fun i => z'.cells[i % z'.cells.size]!).toArray := by
      apply Array.toList_inj.1
      simp [madeCells, i2]
     obtain ⟨st', κ', k1, k2⟩ := arr_put hr g (e := e) (sz := te.size) (es := List.replicate l.toNat ds) (n := l.toNat) (c := c.toNat) (A := some ⟨w.heap.size, 0, none⟩)
      (ownRep_new (cells := (List.range (c.toNat * te.size)).map fun i => z'.cells[i % z'.cells.size]!) (by omega) (by simp only [maxLen]; omega) (by simp) (by rw [hcells]; simp) (by simp) (fun i cc hi => by
       rw [List.getElem?_replicate] at hi
       split at hi
       ·rename_i hil
        cases hi
        refine ⟨by rw [d1, i6], fun j d hj => ?_⟩
        have hjl : j < te.size := by rw [← i6, ← d1]; exact (List.getElem?_eq_some_iff.1 hj).1
        have hlt : i * te.size + j < c.toNat * te.size := by
         have : (i + 1) * te.size ≤ c.toNat * te.size := Nat.mul_le_mul_right _ (by omega)
         rw [Nat.add_mul, Nat.one_mul] at this; omega
        refine ⟨z'.cells[j]!, ?_, ?_⟩
        ·simp only [List.getElem?_map, List.getElem?_range hlt, Option.map_some]
         rw [i5, Nat.mul_comm, Nat.mul_add_mod, Nat.mod_eq_of_lt hjl]
        ·obtain ⟨q, q1, q2, q3⟩ := zero_sound hf
         have hq : q = z' := by
          have := q1 default
          simp [zeroValue, typeInfo, i1, i4] at this
          exact this.symm
         subst hq
         have hcv := q3 (w.alloc (.cells (madeCells q.cells (c.toNat * info.size)) e)) κ st.h
         have hget : q.cells.toList[j]? = some q.cells[j]! := by
          have : j < q.cells.size := by omega
          simp [this]
         exact d2 _ _ _ _ hcv j d _ hj hget
       ·cases hi)) (fun b hb => by cases hb; exact Nat.le_refl _) (by simp) (by omega) h
     refine ⟨_, _, by simp only [execOp, ho, Sem.run_bind, ex, ey, hrun, Result.andThen_ok, Sem.run_pure]; rfl, st', κ', k1, k2⟩
    ·exact h.elim
   ·exact h.elim
  ·exact h.elim
 ·exact h.elim
end
end Go.H
namespace Go.H
open Go.RowKit
section
variable {P : Program} {T : TypeId → Option TI} {F0 L : Nat → Prop} {w0 w w' : World} {st : St} {a : Act} {κ κ' : Con} {hh : List (Nat × Ent)}
def renCaps (m : List (Nat × Nat)) : List (Nat × Nat) → Option (List (Nat × Nat))
 | [] => some []
 | (id, off) :: r => match look m id, renCaps m r with
  | some id', some l => some ((id', off) :: l)
  | _, _ => none
def CV.ren (h : List (Nat × Ent)) (m : List (Nat × Nat)) : CV → CV
 | .d x => .d x
 | .nl sz => .nl sz
 | .ref id ver s => match look h id, look m id with
  | some (.arr _ _ v _ _), some id' => match Nat.beq v ver with | true => .ref id' 0 s | false => .u
  | _, _ => .u
 | .ptr id off => match look m id with | some id' => .ptr id' off | none => .u
 | .ep .. => .u
 | .nst .. => .u
 | .nep .. => .u
 | .fn f caps => match renCaps m caps with | some l => .fn f l | none => .u
 | .u => .u
def AV.ren (h : List (Nat × Ent)) (m : List (Nat × Nat)) : AV → AV
 | .c x => .c (x.ren h m)
 | .agg cs => .agg (cs.map (CV.ren h m))
 | .tup xs => .tup (xs.map fun x => (x.1, x.2.map (CV.ren h m)))
 | .w x v => .w (x.ren h m) v
 | .u => .u
def Ent.ren (h : List (Nat × Ent)) (m : List (Nat × Nat)) : Ent → Ent
 | .box ty cs => .box ty (cs.map (CV.ren h m))
 | .arr e sz _ own es => .arr e sz 0 own es
def renH (h : List (Nat × Ent)) (m0 : List (Nat × Nat)) : List (Nat × Nat) → Option (List (Nat × Ent))
 | [] => some []
 | (o, n) :: r => match look h o, renH h m0 r with
  | some e, some l => some ((n, e.ren h m0) :: l)
  | _, _ => none
def renT (h : List (Nat × Ent)) (m : List (Nat × Nat)) (t : List (Nat × AV)) : List Nat → List (Nat × AV)
 | [] => []
 | k :: r => match look t k with
  | some av => (k, av.ren h m) :: renT h m t r
  | none => renT h m t r
def okM (n : Nat) : List (Nat × Nat) → Bool
 | [] => true
 | (o, k) :: r => Nat.blt k n && r.all (fun p => !(Nat.beq p.1 o) && !(Nat.beq p.2 k)) && okM n r
def St.norm (st : St) (keep : List Nat) (m : List (Nat × Nat)) (n : Nat) : Option St :=
 match okM n m, renH st.h m m with
 | true, some h => some { st with t := renT st.h m st.t keep, h := h, n := n }
 | _, _ => none
def inv (m : List (Nat × Nat)) (k : Nat) : Nat := match m with | [] => 0 | (o, k') :: r => if k' = k then o else inv r k
theorem okM_spec {n : Nat} : ∀ {m : List (Nat × Nat)}, okM n m = true → (∀ o k, look m o = some k → k < n ∧ inv m k = o) ∧ (∀ o k, (o, k) ∈ m → look m o = some k)
 | [], _ => ⟨fun o k h => by simp [look] at h, fun o k h => by cases h⟩
 | (o, k) :: r, h => by
  simp only [okM, Bool.and_eq_true, List.all_eq_true] at h
  obtain ⟨⟨h1, h2⟩, h3⟩ := h
  obtain ⟨i1, i2⟩ := okM_spec h3
  refine ⟨fun o' k' hl => ?_, fun o' k' hm => ?_⟩
  ·simp only [look] at hl
   split at hl
   ·rename_i hb
    obtain rfl := beq_iff hb
    cases hl
    exact ⟨by simpa using h1, by simp [inv]⟩
   ·obtain ⟨j1, j2⟩ := i1 o' k' hl
    refine ⟨j1, ?_⟩
    have hmem : ∃ p ∈ r, p.2 = k' := by
     clear i1 i2 h3 h2 j2
     induction r with
     | nil => simp [look] at hl
     | cons p r ih =>
      obtain ⟨a, b⟩ := p
      simp only [look] at hl
      split at hl
      ·cases hl; exact ⟨_, List.mem_cons_self, rfl⟩
      ·obtain ⟨q, hq, e⟩ := ih hl
       exact ⟨q, by simp [hq], e⟩
    obtain ⟨p, hp, hpk⟩ := hmem
    have := (h2 p hp).2
    simp only [inv]
    rw [if_neg (by intro e; rw [← hpk] at e; simp [e] at this)]
    exact j2
  ·rcases List.mem_cons.1 hm with hm | hm
   ·cases hm; simp [look]
   ·have := (h2 _ hm).1
    simp only [look]
    rw [if_neg (by intro hb; have := beq_iff hb; simp_all)]
    exact i2 o' k' hm
theorem renH_spec {h : List (Nat × Ent)} {m0 : List (Nat × Nat)} : ∀ {m : List (Nat × Nat)} {h' : List (Nat × Ent)}, renH h m0 m = some h' → ∀ k e', look h' k = some e' → ∃ o e, (o, k) ∈ m ∧ look h o = some e ∧ e' = e.ren h m0
 | [], h', hr, k, e', hl => by simp only [renH, Option.some.injEq] at hr; subst hr; simp [look] at hl
 | (o, n) :: r, h', hr, k, e', hl => by
  simp only [renH] at hr
  split at hr
  ·rename_i e l he hl'
   cases hr
   simp only [look] at hl
   split at hl
   ·rename_i hb
    obtain rfl := beq_iff hb
    cases hl
    exact ⟨o, e, by simp, he, rfl⟩
   ·obtain ⟨o', e0, h1, h2, h3⟩ := renH_spec hl' k e' hl
    exact ⟨o', e0, by simp [h1], h2, h3⟩
  ·cases hr
def Con.ren (κ : Con) (m : List (Nat × Nat)) (n : Nat) : Con := { F := κ.F, bl := fun k => κ.bl (inv m k), val := fun k => κ.val (inv m k), n := n, vr := fun _ => 0, nv := fun k => κ.nv (inv m k) }
theorem renCaps_sound {m : List (Nat × Nat)} {n : Nat} (hm : okM n m = true) : ∀ {caps l : List (Nat × Nat)}, renCaps m caps = some l → (∀ p ∈ l, p.1 < n) ∧ (l.map fun p => Value.pointer (some ⟨κ.bl (inv m p.1), p.2, none⟩)) = caps.map fun p => Value.pointer (some ⟨κ.bl p.1, p.2, none⟩)
 | [], l, h => by simp only [renCaps, Option.some.injEq] at h; subst h; exact ⟨fun p hp => (by cases hp), rfl⟩
 | (id, off) :: r, l, h => by
  simp only [renCaps] at h
  split at h
  ·rename_i id' l' h1 h2
   cases h
   obtain ⟨i1, i2⟩ := renCaps_sound hm h2
   obtain ⟨j1, j2⟩ := (okM_spec hm).1 _ _ h1
   refine ⟨fun p hp => ?_, ?_⟩
   ·rcases List.mem_cons.1 hp with rfl | hp
    ·exact j1
    ·exact i1 p hp
   ·simp only [List.map_cons, i2, j2]
  ·cases h
theorem CVRep.ren {m : List (Nat × Nat)} {n : Nat} {h' : List (Nat × Ent)} (hm : okM n m = true) (hr : renH hh m m = some h') {x : CV} {v : Value} (h : CVRep w κ hh x v) : CVRep w (κ.ren m n) h' (x.ren hh m) v := by
 have hone := CVRep.one h
 cases x with
 | d x => exact h
 | nl _ => exact h
 | u => exact h
 | ep => exact hone
 | nst => exact hone
 | nep => exact hone
 | ptr id off =>
  simp only [CV.ren]
  split
  ·rename_i id' hl
   obtain ⟨j1, j2⟩ := (okM_spec hm).1 _ _ hl
   obtain ⟨h1, h2⟩ := h
   exact ⟨j1, by simp only [Con.ren, j2]; exact h2⟩
  ·exact hone
 | fn f caps =>
  simp only [CV.ren]
  split
  ·rename_i l hl
   obtain ⟨i1, i2⟩ := renCaps_sound (κ := κ) hm hl
   obtain ⟨h1, h2⟩ := h
   exact ⟨i1, by simp only [Con.ren]; rw [i2]; exact h2⟩
  ·exact hone
 | ref id ver s =>
  simp only [CV.ren]
  split
  ·rename_i e sz vv own es id' hl hl'
   split
   ·rename_i hb
    obtain rfl := beq_iff hb
    obtain ⟨j1, j2⟩ := (okM_spec hm).1 _ _ hl'
    obtain ⟨⟨h1, h1'⟩, h2, h3, h4⟩ := h
    refine ⟨⟨j1, Nat.zero_le _⟩, h2, h3, fun e' sz' own' es' hk => ?_⟩
    obtain ⟨o, e0, q1, q2, q3⟩ := renH_spec hr _ _ hk
    have hlo := (okM_spec hm).2 _ _ q1
    have : o = id := by
     have := ((okM_spec hm).1 _ _ hlo).2
     rw [j2] at this; exact this.symm
    subst this
    rw [hl] at q2
    cases q2
    simp only [Ent.ren, Ent.arr.injEq] at q3
    obtain ⟨rfl, rfl, _, rfl, rfl⟩ := q3
    simp only [Con.ren, j2]
    exact h4 _ _ _ _ hl
   ·exact hone
  ·exact hone
theorem CVs.ren {m : List (Nat × Nat)} {n : Nat} {h' : List (Nat × Ent)} (hm : okM n m = true) (hr : renH hh m m = some h') {cs : List CV} {vs : List Value} (h : CVs w κ hh cs vs) : CVs w (κ.ren m n) h' (cs.map (CV.ren hh m)) vs := by
 refine ⟨by simp [h.1], fun j c u hc hu => ?_⟩
 simp only [List.getElem?_map, Option.map_eq_some_iff] at hc
 obtain ⟨c0, h0, rfl⟩ := hc
 exact (h.2 j c0 u h0 hu).ren hm hr
theorem AVRep.ren {m : List (Nat × Nat)} {n : Nat} {h' : List (Nat × Ent)} (hm : okM n m = true) (hr : renH hh m m = some h') {x : AV} {v : Value} (h : AVRep w κ hh x v) : AVRep w (κ.ren m n) h' (x.ren hh m) v := by
 cases x with
 | c x => exact CVRep.ren hm hr h
 | agg cs => obtain ⟨vs, q, hv⟩ := h; exact ⟨vs, q, hv.ren hm hr⟩
 | tup xs =>
  obtain ⟨vs, q, hl, hv⟩ := h
  refine ⟨vs, q, by simp [hl], fun j x v hx hu => ?_⟩
  simp only [List.getElem?_map, Option.map_eq_some_iff] at hx
  obtain ⟨x0, h0, rfl⟩ := hx
  have := hv j x0 v h0 hu
  unfold TVRep at *
  split at this
  ·rename_i hb
   simp only [hb]
   obtain ⟨us, q, hus⟩ := this; exact ⟨us, q, hus.ren hm hr⟩
  ·rename_i hb
   simp only [hb]
   exact this.ren hm hr
 | w x u => exact ⟨h.1, CVRep.ren hm hr h.2⟩
 | u => trivial
theorem renT_spec {h : List (Nat × Ent)} {m : List (Nat × Nat)} {t : List (Nat × AV)} : ∀ {keep : List Nat} {k : Nat} {av : AV}, look (renT h m t keep) k = some av → ∃ av0, look t k = some av0 ∧ av = av0.ren h m
 | [], k, av, hl => by simp [renT, look] at hl
 | j :: r, k, av, hl => by
  simp only [renT] at hl
  split at hl
  ·rename_i av0 h0
   simp only [look] at hl
   split at hl
   ·rename_i hb
    obtain rfl := beq_iff hb
    cases hl
    exact ⟨av0, h0, rfl⟩
   ·exact renT_spec hl
  ·exact renT_spec hl
theorem RepK.norm (h : RepK F0 L w0 st a w κ) {keep : List Nat} {m : List (Nat × Nat)} {n : Nat} {st' : St} (hn : st.norm keep m n = some st') : RepK F0 L w0 st' a w (κ.ren m n) := by
 unfold St.norm at hn
 split at hn
 ·rename_i h' hm hr
  cases hn
  have hs := okM_spec hm
  have hold : ∀ k e', look h' k = some e' → ∃ e, look m (inv m k) = some k ∧ look st.h (inv m k) = some e ∧ e' = e.ren st.h m := fun k e' hl => by
   obtain ⟨o, e, q1, q2, q3⟩ := renH_spec hr k e' hl
   have h1 := hs.2 _ _ q1
   have h2 := (hs.1 _ _ h1).2
   rw [h2]
   exact ⟨e, h1, q2, q3⟩
  have hblk : ∀ (e : Ent) (k b : Nat), (e.ren st.h m).has (κ.ren m n) k b = e.has κ (inv m k) b := fun e k b => by cases e <;> rfl
  have hown : ∀ (e : Ent), (e.ren st.h m).own = e.own := fun e => by cases e <;> rfl
  refine { below := h.below, f0 := h.f0, f1 := h.f1, f2 := h.f2, size := h.size, dfs := h.dfs, kn := rfl, ents := ?_, new := ?_, excl := ?_, inj := ?_, tmps := ?_, kv := ?_ }
  ·intro k e' hl
   obtain ⟨e, q1, q2, rfl⟩ := hold k e' hl
   have := h.ents _ _ q2
   cases e with
   | box ty cs =>
    obtain ⟨vals, v1, v2⟩ := this
    exact ⟨vals, v1, v2.ren hm hr⟩
   | arr e sz ver own es => exact this
  ·intro k e' hl
   obtain ⟨e, q1, _⟩ := hold k e' hl
   exact (hs.1 _ _ q1).1
  ·intro k e' b hl hb
   obtain ⟨e, q1, q2, rfl⟩ := hold k e' hl
   rw [hblk] at hb
   rw [hown]
   exact h.excl _ _ b q2 hb
  ·intro k k' e1 e2 b hl hl' hb hb'
   obtain ⟨e, q1, q2, rfl⟩ := hold k e1 hl
   obtain ⟨e', q1', q2', rfl⟩ := hold k' e2 hl'
   rw [hblk] at hb hb'
   have := h.inj _ _ _ _ b q2 q2' hb hb'
   rw [this] at q1
   rw [q1] at q1'
   exact Option.some.inj q1'
  ·intro t av hl
   obtain ⟨av0, q1, rfl⟩ := renT_spec hl
   obtain ⟨v, hv, hr'⟩ := h.tmps t av0 q1
   exact ⟨v, hv, hr'.ren hm hr⟩
  ·intro k e sz ver own es hl
   obtain ⟨e0, q1, q2, q3⟩ := hold k _ hl
   cases e0 with
   | box => simp [Ent.ren] at q3
   | arr e1 sz1 v1 o1 es1 =>
    simp only [Ent.ren, Ent.arr.injEq] at q3
    exact q3.2.2.1.symm
 ·cases hn
end
end Go.H
namespace Go.H
open Go.RowKit
def con0 (F : Nat → Prop) : Con := { F := F, bl := fun _ => 0, val := fun _ => undef, n := 0, vr := fun _ => 0 }
def ArgsRep (w : World) (F : Nat → Prop) (args : List AV) (vals : List Value) : Prop :=
 vals.length = args.length ∧ ∀ (j : Nat) (av : AV) (v : Value), args[j]? = some av → vals[j]? = some v → AVRep w (con0 F) [] av v
def Enters (P : Program) (f : FuncId) : Prop := ∃ fn, P.funcs[f]? = some fn ∧ fn.body.isNone = false ∧ (fn.name == "runtime.NumGoroutine") = false
def FnSpec (P : Program) (f : FuncId) (args : List AV) (res : AV) (h' : List (Nat × Ent)) (n' : Nat) : Prop :=
 Enters P f ∧ ∀ (F : Nat → Prop) (w : World) (vals : List Value), (∀ b, F b → b < w.heap.size) → ArgsRep w F args vals →
  Calls P f vals.toArray w (fun e w' => ∃ v κ' st' a', e = .returned v ∧ st'.h = h' ∧ st'.n = n' ∧ RepK F (fun _ => False) w st' a' w' κ' ∧ AVRep w' κ' h' res v)
def CV.shift (k : Nat) : CV → CV
 | .ref id ver s => .ref (k + id) ver s
 | .ptr id off => .ptr (k + id) off
 | .ep id ver i j => .ep (k + id) ver i j
 | .nst id ver p => .nst (k + id) ver p
 | .nep id ver p q => .nep (k + id) ver p q
 | .fn f caps => .fn f (caps.map fun p => (k + p.1, p.2))
 | x => x
def AV.shift (k : Nat) : AV → AV
 | .c x => .c (x.shift k)
 | .agg cs => .agg (cs.map (CV.shift k))
 | .tup xs => .tup (xs.map fun x => (x.1, x.2.map (CV.shift k)))
 | .w x v => .w (x.shift k) v
 | .u => .u
def Ent.shift (k : Nat) : Ent → Ent
 | .box ty cs => .box ty (cs.map (CV.shift k))
 | e => e
def shiftH (k : Nat) (h : List (Nat × Ent)) : List (Nat × Ent) := h.map fun p => (k + p.1, p.2.shift k)
def CV.okD (ok : D → Prop) : CV → Prop
 | .d x => ok x
 | _ => True
def AV.okD (ok : D → Prop) : AV → Prop
 | .c x => x.okD ok
 | .agg cs => ∀ c ∈ cs, c.okD ok
 | .tup xs => ∀ x ∈ xs, ∀ c ∈ x.2, CV.okD ok c
 | .w x _ => x.okD ok
 | .u => True
def Ent.okD (ok : D → Prop) : Ent → Prop
 | .box _ cs => ∀ c ∈ cs, c.okD ok
 | .arr _ _ _ ow es => ow.ns = true ∨ ∀ c ∈ es, ∀ d ∈ c, ok d
theorem look_shift (k : Nat) : ∀ (h : List (Nat × Ent)) (i : Nat), look (shiftH k h) (k + i) = (look h i).map (Ent.shift k)
 | [], i => rfl
 | (j, e) :: r, i => by
  have ih := look_shift k r i
  simp only [shiftH] at ih
  simp only [shiftH, List.map_cons, look]
  by_cases hj : j = i
  ·subst hj; simp
  ·have h1 : ¬ (k + j = k + i) := by omega
   simp only [Nat.beq_eq, h1, hj, if_false]
   exact ih
theorem look_shift_lt (k : Nat) : ∀ (h : List (Nat × Ent)) (m : Nat), m < k → look (shiftH k h) m = none
 | [], m, _ => rfl
 | (j, e) :: r, m, hm => by
  have ih := look_shift_lt k r m hm
  simp only [shiftH] at ih
  simp only [shiftH, List.map_cons, look]
  have h1 : ¬ (k + j = m) := by omega
  simp only [Nat.beq_eq, h1, if_false]
  exact ih
theorem look_append (l1 l2 : List (Nat × Ent)) (m : Nat) : look (l1 ++ l2) m = match look l1 m with | some e => some e | none => look l2 m := by
 induction l1 with
 | nil => simp [look]
 | cons p r ih =>
  obtain ⟨k, x⟩ := p
  simp only [List.cons_append, look]
  split
  ·rfl
  ·exact ih
section
variable {P : Program} {T : TypeId → Option TI} {F0 L Fc Lc : Nat → Prop} {w0 w w' : World} {st stc : St} {a ac : Act} {κ κ' : Con} {ok : D → Prop}
def Con.join (κ κ' : Con) (w : World) : Con :=
  { F := fun b => κ.F b ∨ (κ'.F b ∧ w.heap.size ≤ b), bl := fun i => if i < κ.n then κ.bl i else κ'.bl (i - κ.n), val := fun i => if i < κ.n then κ.val i else κ'.val (i - κ.n), n := κ.n + κ'.n,
    vr := fun i => if i < κ.n then κ.vr i else κ'.vr (i - κ.n), nv := fun i => if i < κ.n then κ.nv i else κ'.nv (i - κ.n) }
theorem join_look (hok : CVOk st.h κ.n) (h' : List (Nat × Ent)) (m : Nat) (e : Ent) : look (st.h ++ shiftH κ.n h') m = some e → (m < κ.n ∧ look st.h m = some e) ∨ (κ.n ≤ m ∧ ∃ e', look h' (m - κ.n) = some e' ∧ e = e'.shift κ.n) := by
 intro hl
 rw [look_append] at hl
 cases hs : look st.h m with
 | some e0 =>
  simp only [hs] at hl
  exact .inl ⟨hok m e0 hs, hl⟩
 | none =>
  simp only [hs] at hl
  rcases Nat.lt_or_ge m κ.n with h | h
  ·rw [look_shift_lt _ _ _ h] at hl; cases hl
  ·refine .inr ⟨h, ?_⟩
   obtain ⟨i, rfl⟩ : ∃ i, m = κ.n + i := ⟨m - κ.n, by omega⟩
   rw [look_shift] at hl
   simp only [Option.map_eq_some_iff] at hl
   obtain ⟨e', h1, h2⟩ := hl
   exact ⟨e', by rw [Nat.add_sub_cancel_left]; exact h1, h2.symm⟩
theorem CVRep.left (hok : CVOk st.h κ.n) (h' : List (Nat × Ent)) {x : CV} {v : Value} (h : CVRep w' κ st.h x v) : CVRep w' (κ.join κ' w) (st.h ++ shiftH κ.n h') x v := by
 cases x with
 | d x => exact Fz.keep (fun _ _ => rfl) (fun b hb => .inl hb) h
 | nl _ => exact h
 | u => exact h
 | ptr id off =>
  obtain ⟨h1, h2⟩ := h
  exact ⟨by simp only [Con.join]; omega, by simp only [Con.join, if_pos h1]; exact h2⟩
 | fn f caps =>
  obtain ⟨h1, h2⟩ := h
  refine ⟨fun p hp => by have := h1 p hp; simp only [Con.join]; omega, ?_⟩
  rw [h2]
  congr 2
  apply List.map_congr_left
  intro p hp
  simp only [Con.join, if_pos (h1 p hp)]
 | ref id ver s =>
  obtain ⟨⟨h1, h1'⟩, h2, h3, h4⟩ := h
  refine ⟨⟨by simp only [Con.join]; omega, by simp only [Con.join, if_pos h1]; exact h1'⟩, h2, h3, fun e sz own es hl => ?_⟩
  rcases join_look hok h' _ _ hl with ⟨_, hl'⟩ | ⟨hge, _⟩
  ·simp only [Con.join, if_pos h1]
   exact h4 _ _ _ _ hl'
  ·omega
 | nst id ver p =>
  obtain ⟨⟨h1, h1'⟩, h2, h3, h4⟩ := h
  exact ⟨⟨by simp only [Con.join]; omega, by simp only [Con.join, if_pos h1]; exact h1'⟩, h2, h3, by simp only [Con.join, if_pos h1]; exact h4⟩
 | nep id ver p q =>
  obtain ⟨⟨h1, h1'⟩, h2, h3, h4⟩ := h
  exact ⟨⟨by simp only [Con.join]; omega, by simp only [Con.join, if_pos h1]; exact h1'⟩, h2, h3, by simp only [Con.join, if_pos h1]; exact h4⟩
 | ep id ver i j =>
  obtain ⟨⟨h1, h1'⟩, h2, h3, h4⟩ := h
  refine ⟨⟨by simp only [Con.join]; omega, by simp only [Con.join, if_pos h1]; exact h1'⟩, h2, h3, fun e sz own es hl => ?_⟩
  rcases join_look hok h' _ _ hl with ⟨_, hl'⟩ | ⟨hge, _⟩
  ·simp only [Con.join, if_pos h1]
   exact h4 _ _ _ _ hl'
  ·omega
theorem CVRep.right (hok : CVOk st.h κ.n) {h' : List (Nat × Ent)} (hD : ∀ v d, ok d → Fz w' κ'.F v d → Fz w' (κ.join κ' w).F v d) {x : CV} {v : Value} (hx : x.okD ok) (h : CVRep w' κ' h' x v) :
  CVRep w' (κ.join κ' w) (st.h ++ shiftH κ.n h') (x.shift κ.n) v := by
 have hn : ∀ i, ¬ (κ.n + i < κ.n) := fun i => by omega
 cases x with
 | d x => exact hD v x hx h
 | nl _ => exact h
 | u => exact h
 | ptr id off =>
  obtain ⟨h1, h2⟩ := h
  exact ⟨by simp only [Con.join]; omega, by simp only [Con.join, if_neg (hn id), Nat.add_sub_cancel_left]; exact h2⟩
 | fn f caps =>
  obtain ⟨h1, h2⟩ := h
  refine ⟨fun p hp => ?_, ?_⟩
  ·obtain ⟨q, hq, rfl⟩ := List.mem_map.1 hp
   have := h1 q hq
   simp only [Con.join]; omega
  ·rw [h2, List.map_map]
   congr 2
   apply List.map_congr_left
   intro p hp
   simp only [Function.comp, Con.join, if_neg (hn p.1), Nat.add_sub_cancel_left]
 | ref id ver s =>
  obtain ⟨⟨h1, h1'⟩, h2, h3, h4⟩ := h
  refine ⟨⟨by simp only [Con.join]; omega, by simp only [Con.join, if_neg (hn id), Nat.add_sub_cancel_left]; exact h1'⟩, h2, h3, fun e sz own es hl => ?_⟩
  rcases join_look hok h' _ _ hl with ⟨hlt, _⟩ | ⟨_, e', he', hee⟩
  ·omega
  ·rw [Nat.add_sub_cancel_left] at he'
   cases e' with
   | box => simp [Ent.shift] at hee
   | arr e1 sz1 v1 o1 es1 =>
    simp only [Ent.shift] at hee
    cases hee
    simp only [Con.join, if_neg (hn id), Nat.add_sub_cancel_left]
    exact h4 _ _ _ _ he'
 | nst id ver p =>
  obtain ⟨⟨h1, h1'⟩, h2, h3, h4⟩ := h
  exact ⟨⟨by simp only [Con.join]; omega, by simp only [Con.join, if_neg (hn id), Nat.add_sub_cancel_left]; exact h1'⟩, h2, h3, by simp only [Con.join, if_neg (hn id), Nat.add_sub_cancel_left]; exact h4⟩
 | nep id ver p q =>
  obtain ⟨⟨h1, h1'⟩, h2, h3, h4⟩ := h
  exact ⟨⟨by simp only [Con.join]; omega, by simp only [Con.join, if_neg (hn id), Nat.add_sub_cancel_left]; exact h1'⟩, h2, h3, by simp only [Con.join, if_neg (hn id), Nat.add_sub_cancel_left]; exact h4⟩
 | ep id ver i j =>
  obtain ⟨⟨h1, h1'⟩, h2, h3, h4⟩ := h
  refine ⟨⟨by simp only [Con.join]; omega, by simp only [Con.join, if_neg (hn id), Nat.add_sub_cancel_left]; exact h1'⟩, h2, h3, fun e sz own es hl => ?_⟩
  rcases join_look hok h' _ _ hl with ⟨hlt, _⟩ | ⟨_, e', he', hee⟩
  ·omega
  ·rw [Nat.add_sub_cancel_left] at he'
   cases e' with
   | box => simp [Ent.shift] at hee
   | arr e1 sz1 v1 o1 es1 =>
    simp only [Ent.shift] at hee
    cases hee
    simp only [Con.join, if_neg (hn id), Nat.add_sub_cancel_left]
    exact h4 _ _ _ _ he'
theorem CVs.right (hok : CVOk st.h κ.n) {h' : List (Nat × Ent)} (hD : ∀ v d, ok d → Fz w' κ'.F v d → Fz w' (κ.join κ' w).F v d) {cs : List CV} {vs : List Value} (hx : ∀ c ∈ cs, c.okD ok) (h : CVs w' κ' h' cs vs) :
  CVs w' (κ.join κ' w) (st.h ++ shiftH κ.n h') (cs.map (CV.shift κ.n)) vs := by
 refine ⟨by simp [h.1], fun j c u hc hu => ?_⟩
 simp only [List.getElem?_map, Option.map_eq_some_iff] at hc
 obtain ⟨c0, h0, rfl⟩ := hc
 exact (h.2 j c0 u h0 hu).right hok hD (hx c0 (List.mem_of_getElem? h0))
theorem AVRep.right (hok : CVOk st.h κ.n) {h' : List (Nat × Ent)} (hD : ∀ v d, ok d → Fz w' κ'.F v d → Fz w' (κ.join κ' w).F v d) {x : AV} {v : Value} (hx : x.okD ok) (h : AVRep w' κ' h' x v) :
  AVRep w' (κ.join κ' w) (st.h ++ shiftH κ.n h') (x.shift κ.n) v := by
 cases x with
 | c x => exact CVRep.right hok hD hx h
 | agg cs => obtain ⟨vs, q, hv⟩ := h; exact ⟨vs, q, hv.right hok hD hx⟩
 | tup xs =>
  obtain ⟨vs, q, hl, hv⟩ := h
  refine ⟨vs, q, by simp [hl], fun j x v hj hu => ?_⟩
  simp only [List.getElem?_map, Option.map_eq_some_iff] at hj
  obtain ⟨x0, h0, rfl⟩ := hj
  have := hv j x0 v h0 hu
  have hx0 := hx x0 (List.mem_of_getElem? h0)
  unfold TVRep at *
  split at this
  ·rename_i hb
   simp only [hb]
   obtain ⟨us, q, hus⟩ := this; exact ⟨us, q, hus.right hok hD hx0⟩
  ·rename_i hb
   simp only [hb]
   exact this.right hok hD hx0
 | w x u => exact ⟨h.1, CVRep.right hok hD hx h.2⟩
 | u => trivial
theorem RepK.join (h : RepK F0 L w0 st a w κ) (hc : RepK Fc (fun _ => False) w stc ac w' κ') (hsub : ∀ b, Fc b → b < w.heap.size) (hD : ∀ v d, ok d → Fz w' κ'.F v d → Fz w' (κ.join κ' w).F v d)
  (hokh : ∀ i e, look stc.h i = some e → e.okD ok ∧ e.own = true) :
  RepK F0 L w0 { st with h := st.h ++ shiftH st.n stc.h, n := st.n + stc.n } a w' (κ.join κ' w) := by
 have hk := h.kn
 have hck := hc.kn
 have hok : CVOk st.h κ.n := fun id e he => hk ▸ h.new id e he
 have g : Grew w w' := ⟨hc.below.os, hc.below.tape, hc.below.output, hc.below.size, fun k hk => hc.below.block k hk (fun f => f)⟩
 have hg := h.grew g
 have hlook := fun m e => join_look hok stc.h m e
 rw [hk] at hlook
 have hn : ∀ i, ¬ (κ.n + i < κ.n) := fun i => by omega
 have hblkL : ∀ (m : Nat) (e : Ent) (b : Nat), m < st.n → e.has (κ.join κ' w) m b = e.has κ m b := fun m e b hm => by
  cases e <;> simp only [Ent.has, Con.fp, Con.join, if_pos (show m < κ.n by omega)]
 have hblkR : ∀ (m : Nat) (e : Ent) (b : Nat), st.n ≤ m → (e.shift st.n).has (κ.join κ' w) m b = e.has κ' (m - st.n) b := fun m e b hm => by
  cases e <;> simp only [Ent.has, Con.fp, Ent.shift, Con.join, hk, if_neg (show ¬ m < st.n by omega)]
 refine { below := hg.below, f0 := fun b hb => .inl (h.f0 b hb), f1 := ?_, f2 := ?_, size := h.size, dfs := h.dfs, kn := by simp only [Con.join]; omega, ents := ?_, new := ?_, excl := ?_, inj := ?_, tmps := ?_, kv := ?_ }
 ·intro b hb
  rcases hb with hb | ⟨_, hb⟩
  ·exact h.f1 b hb
  ·exact .inr (.inl (Nat.le_trans h.below.size hb))
 ·intro b hb
  rcases hb with hb | ⟨hb, _⟩
  ·exact hg.f2 b hb
  ·exact hc.f2 b hb
 ·intro m e hl
  rcases hlook m e hl with ⟨hlt, hl'⟩ | ⟨hge, e', he', rfl⟩
  ·have hx := hg.ents m e hl'
   cases e with
   | box ty cs =>
    obtain ⟨vals, v1, v2⟩ := hx
    refine ⟨vals, by simp only [Con.join, if_pos (show m < κ.n by omega)]; exact v1, ?_⟩
    have := v2.map (fun x v hx => CVRep.left (κ' := κ') (w := w) hok stc.h hx)
    rwa [hk] at this
   | arr e0 sz ver own es =>
    cases own with
    | nest tys =>
     show NestRep _ _ _ _ _ _ _
     simp only [Con.join, if_pos (show m < κ.n by omega)]
     exact hx
    | _ =>
     show OwnRep _ _ _ _ _ _
     simp only [Con.join, if_pos (show m < κ.n by omega)]
     exact OwnRep.mono hx (fun b hb => .inl hb)
  ·have hx := hc.ents _ _ he'
   obtain ⟨ho1, ho2⟩ := hokh _ _ he'
   cases e' with
   | box ty cs =>
    obtain ⟨vals, v1, v2⟩ := hx
    refine ⟨vals, by simp only [Con.join, hk, if_neg (show ¬ m < st.n by omega)]; exact v1, ?_⟩
    have := v2.right hok hD ho1
    rwa [hk] at this
   | arr e0 sz ver own es =>
    cases own with
    | nest tys =>
     show NestRep _ _ _ _ _ _ _
     simp only [Con.join, hk, if_neg (show ¬ m < st.n by omega)]
     exact hx
    | _ =>
     show OwnRep _ _ _ _ _ _
     simp only [Con.join, hk, if_neg (show ¬ m < st.n by omega)]
     obtain ⟨xs, x1, x2⟩ := hx
     refine ⟨xs, x1, fun i c hi => ⟨(x2 i c hi).1, fun j d hj => ?_⟩⟩
     obtain ⟨u, hu, hf⟩ := (x2 i c hi).2 j d hj
     have hf2 := hD u d ((ho1.resolve_left (by simp [Ow.ns])) c (List.mem_of_getElem? hi) d (List.mem_of_getElem? hj)) hf
     simp only [Con.join, hk] at hf2
     exact ⟨u, hu, hf2⟩
 ·intro m e hl
  rcases hlook m e hl with ⟨hlt, hl'⟩ | ⟨hge, e', he', rfl⟩
  ·simp only; omega
  ·have := hc.new _ _ he'
   simp only; omega
 ·intro m e b hl hb
  rcases hlook m e hl with ⟨hlt, hl'⟩ | ⟨hge, e', he', rfl⟩
  ·rw [hblkL m e b hlt] at hb
   obtain ⟨q1, q2, q3⟩ := h.excl m e b hl' hb
   have hbl := (h.ents m e hl').lt hb
   refine ⟨q1, fun ho hF => ?_, fun ho => .inl (q3 ho)⟩
   rcases hF with hF | ⟨_, hF⟩
   ·exact q2 ho hF
   ·omega
  ·rw [hblkR m e' b hge] at hb
   obtain ⟨q1, q2, q3⟩ := hc.excl _ _ b he' hb
   obtain ⟨ho1, ho2⟩ := hokh _ _ he'
   have hown : (e'.shift st.n).own = true := by cases e' <;> exact ho2
   have q1 := (q1 ho2).elim id False.elim
   refine ⟨fun _ => .inl (Nat.le_trans h.below.size q1), fun ho hF => ?_, fun hf => by rw [hown] at hf; cases hf⟩
   rcases hF with hF | ⟨hF, _⟩
   ·have := h.f2 b hF; omega
   ·exact q2 ho2 hF
 ·intro m m' e1 e2 b hl hl' hb hb'
  rcases hlook m e1 hl with ⟨hlt, hl1⟩ | ⟨hge, e', he', rfl⟩ <;> rcases hlook m' e2 hl' with ⟨hlt', hl1'⟩ | ⟨hge', e'', he'', rfl⟩
  ·rw [hblkL m e1 b hlt] at hb
   rw [hblkL m' e2 b hlt'] at hb'
   exact h.inj _ _ _ _ b hl1 hl1' hb hb'
  ·rw [hblkL m e1 b hlt] at hb
   rw [hblkR m' e'' b hge'] at hb'
   have h1 := (h.ents m e1 hl1).lt hb
   have h2 := ((hc.excl _ _ b he'' hb').1 (hokh _ _ he'').2).elim id False.elim
   omega
  ·rw [hblkR m e' b hge] at hb
   rw [hblkL m' e2 b hlt'] at hb'
   have h1 := (h.ents m' e2 hl1').lt hb'
   have h2 := ((hc.excl _ _ b he' hb).1 (hokh _ _ he').2).elim id False.elim
   omega
  ·rw [hblkR m e' b hge] at hb
   rw [hblkR m' e'' b hge'] at hb'
   have := hc.inj _ _ _ _ b he' he'' hb hb'
   omega
 ·intro t av hl
  obtain ⟨v, hv, hr⟩ := hg.tmps t av hl
  refine ⟨v, hv, ?_⟩
  have := hr.map (fun x v hx => CVRep.left (κ' := κ') (w := w) hok stc.h hx)
  rwa [hk] at this
 ·intro m e sz ver own es hl
  rcases hlook m _ hl with ⟨hlt, hl'⟩ | ⟨hge, e', he', hee⟩
  ·simp only [Con.join, if_pos (show m < κ.n by omega)]
   exact h.kv _ _ _ _ _ _ hl'
  ·cases e' with
   | box => simp [Ent.shift] at hee
   | arr e1 sz1 v1 o1 es1 =>
    simp only [Ent.shift] at hee
    cases hee
    simp only [Con.join, hk, if_neg (show ¬ m < st.n by omega)]
    exact hc.kv _ _ _ _ _ _ he'
end
end Go.H
namespace Go.H
open Go.RowKit
section
variable {P : Program} {T : TypeId → Option TI} {F0 L : Nat → Prop} {w0 w w' : World} {st : St} {a : Act} {κ κ' : Con} {hh : List (Nat × Ent)}
def calleeOf : AV → Option (FuncId × List AV)
 | .c (.fn f caps) => some (f, caps.map fun p => .c (.ptr p.1 p.2))
 | .c (.d (.fn f ds)) => some (f, ds.map fun d => .c (.d d))
 | _ => none
def frzA (h : List (Nat × Ent)) : AV → Option (AV × List (Nat × Ent))
 | .c (.fn f []) => some (.c (.d (.fn f [])), h)
 | .c x => match frzC h x with | some (d, h') => some (.c (.d d), h') | none => none
 | .agg cs => match frzL h cs with | some (ds, h') => some (.agg (ds.map .d), h') | none => none
 | _ => none
def frzAs (h : List (Nat × Ent)) : List AV → Option (List AV × List (Nat × Ent))
 | [] => some ([], h)
 | x :: r => match frzA h x with
  | some (d, h1) => match frzAs h1 r with
   | some (ds, h2) => some (d :: ds, h2)
   | none => none
  | none => none
theorem frzA_sound (h : RepK F0 L w0 st a w κ) {x x' : AV} {h' : List (Nat × Ent)} (hf : frzA st.h x = some (x', h')) :
  ∃ κ', RepK F0 L w0 { st with h := h' } a w κ' ∧ κ'.bl = κ.bl ∧ κ'.val = κ.val ∧ (∀ b, κ.F b → κ'.F b) ∧ (∀ v, AVRep w κ st.h x v → AVRep w (con0 κ'.F) [] x' v) ∧ ∀ y u, CVRep w κ st.h y u → CVRep w κ' h' y u := by
 cases x with
 | c x =>
  have hmain : ∀ d, frzC st.h x = some (d, h') → x' = .c (.d d) → ∃ κ', RepK F0 L w0 { st with h := h' } a w κ' ∧ κ'.bl = κ.bl ∧ κ'.val = κ.val ∧ (∀ b, κ.F b → κ'.F b) ∧ (∀ v, AVRep w κ st.h (.c x) v → AVRep w (con0 κ'.F) [] x' v) ∧ ∀ y u, CVRep w κ st.h y u → CVRep w κ' h' y u := by
   intro d hd hx
   subst hx
   obtain ⟨κ', k, s, b, v, f, q, m⟩ := frzC_sound h hd
   exact ⟨κ', k, b, v, f, fun u hu => q u hu, m⟩
  cases x with
  | fn f caps =>
   cases caps with
   | nil =>
    simp only [frzA, Option.some.injEq, Prod.mk.injEq] at hf
    obtain ⟨rfl, rfl⟩ := hf
    refine ⟨κ, h, rfl, rfl, fun _ h => h, fun v hv => ?_, fun _ _ h => h⟩
    obtain ⟨_, rfl⟩ := hv
    exact .fn f [] [] rfl (fun i d u hd => by simp at hd)
   | cons p r => simp [frzA, frzC] at hf
  | _ =>
   simp only [frzA] at hf
   split at hf
   ·rename_i d h1 hd
    simp only [Option.some.injEq, Prod.mk.injEq] at hf
    obtain ⟨rfl, rfl⟩ := hf
    exact hmain d hd rfl
   ·simp at hf
 | agg cs =>
  simp only [frzA] at hf
  split at hf
  ·rename_i ds h1 hd
   simp only [Option.some.injEq, Prod.mk.injEq] at hf
   obtain ⟨rfl, rfl⟩ := hf
   obtain ⟨κ', k, s, b, v, f, l, q, m⟩ := frzL_sound h hd
   refine ⟨κ', k, b, v, f, fun u hu => ?_, m⟩
   obtain ⟨vs, e, hvs⟩ := hu
   refine ⟨vs, e, by simp [hvs.1, l], fun j c u hc hu => ?_⟩
   simp only [List.getElem?_map, Option.map_eq_some_iff] at hc
   obtain ⟨d, hd', rfl⟩ := hc
   exact q vs hvs j d u hd' hu
  ·simp at hf
 | tup => simp [frzA] at hf
 | w => simp [frzA] at hf
 | u => simp [frzA] at hf
theorem AVRep.pureF {F F' : Nat → Prop} (hF : ∀ b, F b → F' b) {x : AV} {v : Value} (h : AVRep w (con0 F) [] x v) : AVRep w (con0 F') [] x v :=
 h.map fun x v hx => by
  cases x with
  | d x => exact Fz.keep (fun _ _ => rfl) hF hx
  | nl => exact hx
  | u => exact hx
  | ptr => exact absurd hx.1 (Nat.not_lt_zero _)
  | ref => exact absurd hx.1.1 (Nat.not_lt_zero _)
  | ep => exact absurd hx.1.1 (Nat.not_lt_zero _)
  | nst => exact absurd hx.1.1 (Nat.not_lt_zero _)
  | nep => exact absurd hx.1.1 (Nat.not_lt_zero _)
  | fn f caps => exact ⟨fun p hp => absurd (hx.1 p hp) (Nat.not_lt_zero _), hx.2⟩
theorem frzAs_sound : ∀ {xs : List AV} {st : St} {κ : Con} {xs' : List AV} {h' : List (Nat × Ent)} (_ : RepK F0 L w0 st a w κ) (_ : frzAs st.h xs = some (xs', h')),
  ∃ κ', RepK F0 L w0 { st with h := h' } a w κ' ∧ (∀ b, κ.F b → κ'.F b) ∧ (∀ vs : List Value, vs.length = xs.length → (∀ (j : Nat) (x : AV) (v : Value), xs[j]? = some x → vs[j]? = some v → AVRep w κ st.h x v) → ArgsRep w κ'.F xs' vs) ∧
   ∀ y u, CVRep w κ st.h y u → CVRep w κ' h' y u
 | [], st, κ, xs', h', h, hf => by
  simp only [frzAs, Option.some.injEq, Prod.mk.injEq] at hf
  obtain ⟨rfl, rfl⟩ := hf
  exact ⟨κ, h, fun _ h => h, fun vs hl _ => ⟨hl, fun j av v hj => by simp at hj⟩, fun _ _ h => h⟩
 | x :: xs, st, κ, xs', h', h, hf => by
  simp only [frzAs] at hf
  split at hf
  ·rename_i d h1 hx
   split at hf
   ·rename_i ds' h2 hr
    simp only [Option.some.injEq, Prod.mk.injEq] at hf
    obtain ⟨rfl, rfl⟩ := hf
    obtain ⟨κ1, k1, b1, v1, f1, q1, m1⟩ := frzA_sound h hx
    obtain ⟨κ2, k2, f2, q2, m2⟩ := frzAs_sound (st := { st with h := h1 }) k1 hr
    refine ⟨κ2, k2, fun b hb => f2 b (f1 b hb), fun vs hl hvs => ?_, fun y u hy => m2 y u (m1 y u hy)⟩
    match vs, hl, hvs with
    | v :: vs, hl, hvs =>
     obtain ⟨r1, r2⟩ := q2 vs (by simpa using hl) (fun j x v hj hv => (hvs (j + 1) x v (by simpa using hj) (by simpa using hv)).map m1)
     refine ⟨by simp [r1], fun j av u hj hu => ?_⟩
     cases j with
     | zero =>
      simp at hj hu
      subst hj; subst hu
      exact (q1 _ (hvs 0 x v rfl rfl)).pureF f2
     | succ j => exact r2 j av u (by simpa using hj) (by simpa using hu)
   ·simp at hf
  ·simp at hf
theorem ref_fz (h : RepK F0 L w0 st a w κ) {id e sz ver : Nat} {own : Ow} {es : List (List D)} (hl : look st.h id = some (.arr e sz ver own es)) {s : Option (Bool × Nat × Nat)} {u : Value} (hu : CVRep w κ st.h (.ref id ver s) u) :
  Fz w (κ.frz id (.arr e sz ver own es)).F u (.sl sz (partOf es s)) := by
 obtain ⟨_, _, _, hu⟩ := hu
 obtain ⟨hle, ba, bn, bc, a', c', hv, rfl, hc', ha', _⟩ := hu _ _ _ _ hl
 rw [partR es s]
 obtain ⟨xs, ho, hx⟩ := (h.ents id _ hl).reads
 refine .sl a' (lenR es s) c' sz _ (fun i j => xs.getD ((offR s + i) * sz + j) undef) (by simp; omega) hc' (fun i c hi => ?_) (fun hne => ?_) (fun A i c j d hA hi hj => ?_) (fun i c j d hi hj => ?_)
 ·rw [List.getElem?_take, List.getElem?_drop] at hi
  split at hi
  ·exact (hx _ c hi).1
  ·simp at hi
 ·have hlen : lenR es s ≠ 0 := by intro h0; rw [h0] at hne; simp at hne
  rcases ho.2 with ⟨h1, h2⟩ | ⟨g, cap, cur, h1, _⟩
  ·omega
  ·rw [hv] at h1
   obtain ⟨rfl, rfl, rfl⟩ : ba = some ⟨g, 0, none⟩ ∧ bn = es.length ∧ bc = cap := by simpa using h1
   obtain rfl := ha' hlen
   exact ⟨_, rfl, by rw [add_block]; exact .inr (has_row (by rw [hv]; rfl)), add_spot rfl _⟩
 ·rw [List.getElem?_take, List.getElem?_drop] at hi
  split at hi
  ·obtain ⟨u, hu1, hu2⟩ := (hx _ c hi).2 j d hj
   rcases ho.2 with ⟨h1, h2⟩ | ⟨g, cap, cur, h1, _⟩
   ·have := (List.getElem?_eq_some_iff.1 hi).1; omega
   ·rw [hv] at h1
    obtain ⟨rfl, rfl, rfl⟩ : ba = some ⟨g, 0, none⟩ ∧ bn = es.length ∧ bc = cap := by simpa using h1
    have hlen : lenR es s ≠ 0 := by omega
    have ha2 := ha' hlen
    rw [hA] at ha2
    simp only [Option.map_some, Option.some.injEq] at ha2
    subst ha2
    rw [add_add]
    have hcell := ho.cells (g := g) (by rw [hv]; rfl) _ u hu1
    have e1 : offR s * sz + (i * sz + j) = (offR s + i) * sz + j := by rw [Nat.add_mul, Nat.add_assoc]
    rw [e1, hcell]
    simp [List.getD, hu1]
  ·simp at hi
 ·rw [List.getElem?_take, List.getElem?_drop] at hi
  split at hi
  ·obtain ⟨u, hu1, hu2⟩ := (hx _ c hi).2 j d hj
   have : xs.getD ((offR s + i) * sz + j) undef = u := by simp [List.getD, hu1]
   rw [this]
   exact hu2
  ·simp at hi
def optL {α β : Type} (f : α → Option β) : List α → Option (List β)
 | [] => some []
 | x :: r => match f x, optL f r with
  | some d, some ds => some (d :: ds)
  | _, _ => none
def roC (h : List (Nat × Ent)) : Nat → CV → Option D
 | 0, _ => none
 | k + 1, x => match x with
  | .d d => some d
  | .nl sz => some (.sl sz [])
  | .ref id ver s => match look h id with
   | some (.arr _ sz v _ es) => match Nat.beq v ver with | true => some (.sl sz (partOf es s)) | false => none
   | _ => none
  | .ptr id off => match look h id with
   | some (.box _ cs) => match optL (roC h k) (cs.drop off) with | some ds => some (.rp ds) | none => none
   | _ => none
  | .fn f caps => match optL (roC h k) (caps.map fun p => .ptr p.1 p.2) with | some ds => some (.fn f ds) | none => none
  | _ => none
def roA (h : List (Nat × Ent)) : AV → Option AV
 | .c x => match roC h 6 x with | some d => some (.c (.d d)) | none => none
 | .agg cs => match optL (roC h 6) cs with | some ds => some (.agg (ds.map .d)) | none => none
 | _ => none
def roAs (h : List (Nat × Ent)) : List AV → Option (List AV)
 | [] => some []
 | x :: r => match roA h x, roAs h r with
  | some d, some ds => some (d :: ds)
  | _, _ => none
def Con.seen (κ : Con) (h : List (Nat × Ent)) (b : Nat) : Prop := κ.F b ∨ ∃ id e, look h id = some e ∧ e.has κ id b
theorem roL_spec {h : List (Nat × Ent)} {k : Nat} : ∀ {xs : List CV} {ds : List D}, optL (roC h k) xs = some ds → ds.length = xs.length ∧ ∀ (j : Nat) (x : CV) (d : D), xs[j]? = some x → ds[j]? = some d → roC h k x = some d
 | [], ds, hr => by simp only [optL, Option.some.injEq] at hr; subst hr; exact ⟨rfl, fun j x d hj => by simp at hj⟩
 | x :: r, ds, hr => by
  simp only [optL] at hr
  split at hr
  ·rename_i d ds' h1 h2
   cases hr
   obtain ⟨l, q⟩ := roL_spec h2
   refine ⟨by simp [l], fun j y d' hj hd => ?_⟩
   cases j with
   | zero => simp at hj hd; subst hj; subst hd; exact h1
   | succ j => exact q j y d' (by simpa using hj) (by simpa using hd)
  ·cases hr
theorem roC_sound (h : RepK F0 L w0 st a w κ) : ∀ {k : Nat} {x : CV} {d : D}, roC st.h k x = some d → ∀ v, CVRep w κ st.h x v → Fz w (κ.seen st.h) v d
 | 0, x, d, hr, v, hv => by simp [roC] at hr
 | k + 1, x, d, hr, v, hv => by
  cases x with
  | d x =>
   simp only [roC, Option.some.injEq] at hr
   subst hr
   exact Fz.keep (fun _ _ => rfl) (fun b hb => .inl hb) hv
  | nl sz =>
   simp only [roC, Option.some.injEq] at hr
   subst hr
   cases hv
   exact .sl none 0 0 sz [] (fun _ _ => undef) rfl (Nat.le_refl _) (fun i c hi => by simp at hi) (fun hne => absurd rfl hne) (fun A i c j d hA => by simp at hA) (fun i c j d hi => by simp at hi)
  | ref id ver s =>
   simp only [roC] at hr
   split at hr
   ·rename_i e sz v' own es hl
    split at hr
    ·rename_i hb
     obtain rfl := beq_iff hb
     cases hr
     refine Fz.keep (fun _ _ => rfl) (fun b hb => ?_) (ref_fz h hl hv)
     rcases hb with hb | hb
     ·exact .inl hb
     ·exact .inr ⟨id, _, hl, hb⟩
    ·cases hr
   ·cases hr
  | ptr id off =>
   simp only [roC] at hr
   split at hr
   ·rename_i ty cs hl
    split at hr
    ·rename_i ds hds
     cases hr
     obtain ⟨l, q⟩ := roL_spec hds
     obtain ⟨h1, rfl⟩ := hv
     obtain ⟨vals, g, hcs⟩ := h.ents id _ hl
     have hcell : ∀ (j : Nat) (u : Value), vals[off + j]? = some u → w.cell? ((⟨κ.bl id, off, none⟩ : Addr).add j) = some u := fun j u hu => by
      have e1 : (⟨κ.bl id, off, none⟩ : Addr).add j = ⟨κ.bl id, off + j, none⟩ := by
       unfold Addr.add
       split
       ·rename_i h0; subst h0; rfl
       ·rfl
      rw [e1]
      simp [World.cell?, g, hu]
     refine .rp _ ds (fun j => vals.getD (off + j) undef) (fun _ => ⟨.inr ⟨id, _, hl, rfl⟩, rfl⟩) (fun j d hj => ?_) (fun j d hj => ?_)
     all_goals
      have hlt : off + j < cs.length := by
       have := (List.getElem?_eq_some_iff.1 hj).1
       rw [l, List.length_drop] at this; omega
      have hlt' : off + j < vals.length := by rw [hcs.1]; exact hlt
     ·rw [hcell j _ (List.getElem?_eq_getElem hlt')]
      simp [List.getD, List.getElem?_eq_getElem hlt']
     ·have hx : (cs.drop off)[j]? = some cs[off + j] := by rw [List.getElem?_drop]; exact List.getElem?_eq_getElem hlt
      have := q j _ d hx hj
      have hh := hcs.2 (off + j) _ _ (List.getElem?_eq_getElem hlt) (List.getElem?_eq_getElem hlt')
      have hres := roC_sound h this _ hh
      simpa [List.getD, List.getElem?_eq_getElem hlt'] using hres
    ·cases hr
   ·cases hr
  | ep => simp [roC] at hr
  | nst => simp [roC] at hr
  | nep => simp [roC] at hr
  | fn f caps =>
   simp only [roC] at hr
   split at hr
   ·rename_i ds hds
    cases hr
    obtain ⟨l, q⟩ := roL_spec hds
    obtain ⟨hlt, rfl⟩ := hv
    rw [List.length_map] at l
    refine .fn f ds _ (by simp [l]) (fun i d u hd hu => ?_)
    simp only [List.getElem?_map, Option.map_eq_some_iff] at hu
    obtain ⟨p, hp, rfl⟩ := hu
    have hx : (caps.map fun p => CV.ptr p.1 p.2)[i]? = some (.ptr p.1 p.2) := by simp [hp]
    exact roC_sound h (q i _ d hx hd) _ ⟨hlt p (List.mem_of_getElem? hp), rfl⟩
   ·cases hr
  | u => simp [roC] at hr
end
end Go.H
