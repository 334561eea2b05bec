/- Framework H, part 11: appends. -/
import Derived.Test.YtbclkplebkencaaH10
namespace Go.H
set_option linter.unusedSimpArgs false
set_option linter.unusedVariables false
open Go.RowKit

section
variable {P : Program} {T : TypeId → Option TI} {F0 L : Nat → Prop} {w0 w w' : World} {st : St} {a : Act} {κ κ' : Con} {hh : List (Nat × Ent)}

/-- Which block an append leaves its row in. -/
theorem app_blk {t ty e : TypeId} {i : TypeInfo} {z : Value} (ht : P.underlying t = some (.slice e)) (hi : P.info? e = some i) (hz : i.zero = some z)
    {v : Value} {n : Nat} {xs : List Value} (hown : w.ownsRow 0 e i.size v n xs)
    {A : Addr} {m c : Nat} {news : List Value} (hl : news.length = m * i.size) (hnews : ∀ (j : Nat) (u : Value), news[j]? = some u → w.cell? (A.add j) = some u) (h1 : ∀ u ∈ news, u.oneCell' = true)
    (h63 : n + m ≤ maxLen) (hbytes : (n + m) * i.bytes ≤ 140737488355328) {v' : Value} {w' : World} (hr : (Builtin.append_ #[t, t] ty #[v, .slice (some A) m c]).run P w = .ok v' w') :
    ∀ b, v'.ownBlock = some b → v.ownBlock = some b ∨ w.heap.size ≤ b := by
  intro b hb
  simp only [maxLen] at h63
  rcases hown.2 with ⟨rfl, rfl⟩ | ⟨g, cap, cur, rfl, hbg, hg, hnc, hcm, hcs, htake⟩
  · by_cases hm : m = 0
    · subst hm
      have hn : news = [] := List.eq_nil_of_length_eq_zero (by simpa using hl)
      subst hn
      have h2 : (Builtin.append_ #[t, t] ty #[.slice none 0 0, .slice (some A) 0 c]).run P w = .ok (.slice none 0 0) w := by
        simp [Builtin.append_, run_underlying ht, sizeOf, typeInfo, hi, Builtin.lenOf, Builtin.firstCells, loadCells, loadCellsFrom]
      rw [h2] at hr
      cases hr
      simp [Value.ownBlock] at hb
    · have h2 := run_append_nil (P := P) w t ty e i z ht hi hz A m c news hl hnews (by omega) (by omega) (by simp only [Nat.zero_add] at hbytes; omega)
      rw [h2] at hr
      cases hr
      simp only [Value.ownBlock, Option.some.injEq] at hb
      exact .inr (by omega)
  · by_cases hroom : n + m ≤ cap
    · have hfit : n * i.size + news.length ≤ cur.size := by rw [hl, hcs, ← Nat.add_mul]; exact Nat.mul_le_mul_right _ hroom
      have h2 := run_append_room (P := P) w t ty e i ht hi g n cap cur hg A m c news hl hnews h1 hroom hfit
      rw [h2] at hr
      cases hr
      exact .inl hb
    · have holds : ∀ j u, xs[j]? = some u → w.cell? ((⟨g, 0, none⟩ : Addr).add j) = some u := hown.cells (g := g) rfl
      have h2 := run_append_grow (P := P) w t ty e i z ht hi hz ⟨g, 0, none⟩ n cap xs hown.1 holds A m c news hl hnews (by omega) (by omega) (growslice_fits (by omega) hbytes)
      rw [h2] at hr
      cases hr
      simp only [Value.ownBlock, Option.some.injEq] at hb
      exact .inr (by omega)

theorem run_append_none {t ty e : TypeId} {i : TypeInfo} (ht : P.underlying t = some (.slice e)) (hi : P.info? e = some i) {v : Value} {n : Nat} {xs : List Value} (hown : w.ownsRow 0 e i.size v n xs) (c : Nat) :
    (Builtin.append_ #[t, t] ty #[v, .slice none 0 c]).run P w = .ok v w := by
  rcases hown.2 with ⟨rfl, rfl⟩ | ⟨g, cap, cur, rfl, _, _, hnc, _⟩
  · simp [Builtin.append_, run_underlying ht, sizeOf, typeInfo, hi, Builtin.lenOf, Builtin.firstCells]
  · simp [Builtin.append_, run_underlying ht, sizeOf, typeInfo, hi, Builtin.lenOf, Builtin.firstCells, hnc, storeCells]

/-- What is appended: elements that are read. -/
def Reads (w : World) (F : Nat → Prop) (sz : Nat) (v : Value) (es : List (List D)) : Prop :=
  ∃ a len cap, v = .slice a len cap ∧ len = es.length ∧ (∀ (i : Nat) (c : List D), es[i]? = some c → c.length = sz) ∧ (es ≠ [] → a ≠ none) ∧
    ∃ vals : List Value, vals.length = es.length * sz ∧ (∀ (i : Nat) (c : List D) (j : Nat) (d : D), es[i]? = some c → c[j]? = some d → ∃ u, vals[i * sz + j]? = some u ∧ Fz w F u d) ∧
      ∀ A, a = some A → ∀ (k : Nat) (u : Value), vals[k]? = some u → w.cell? (A.add k) = some u

theorem Reads.of_fz {sz : Nat} {v : Value} {es : List (List D)} {F : Nat → Prop} (h : Fz w F v (.sl sz es)) : Reads w F sz v es := by
  cases h with
  | sl A len cap sz es val hl hc he ha hrd hs =>
    refine ⟨A, len, cap, rfl, hl, he, fun hne => by obtain ⟨x, hx, _⟩ := ha hne; rw [hx]; simp, (List.range (es.length * sz)).map fun k => val (k / sz) (k % sz), by simp, fun i c j d hi hj => ?_, fun B hB k u hu => ?_⟩
    · have h1 := he i c hi
      have hj' : j < sz := by rw [← h1]; exact (List.getElem?_eq_some_iff.1 hj).1
      have hi' : i < es.length := (List.getElem?_eq_some_iff.1 hi).1
      have hlt : i * sz + j < es.length * sz := by
        have : (i + 1) * sz ≤ es.length * sz := Nat.mul_le_mul_right _ hi'
        rw [Nat.add_mul, Nat.one_mul] at this; omega
      refine ⟨val i j, ?_, hs i c j d hi hj⟩
      simp only [List.getElem?_map, List.getElem?_range hlt, Option.map_some]
      have e1 : (i * sz + j) / sz = i := by rw [Nat.mul_comm, Nat.mul_add_div (by omega), Nat.div_eq_of_lt hj']; rfl
      have e2 : (i * sz + j) % sz = j := by rw [Nat.mul_comm, Nat.mul_add_mod, Nat.mod_eq_of_lt hj']
      rw [e1, e2]
    · simp only [List.getElem?_map, Option.map_eq_some_iff] at hu
      obtain ⟨k', hk', rfl⟩ := hu
      obtain ⟨hlt, rfl⟩ := List.getElem?_eq_some_iff.1 hk'
      simp only [List.length_range] at hlt
      simp only [List.getElem_range]
      have hsz : 0 < sz := Nat.pos_of_ne_zero (fun h => by rw [h] at hlt; simp at hlt)
      have hq : k / sz < es.length := Nat.div_lt_of_lt_mul (by rw [Nat.mul_comm]; exact hlt)
      have hr := Nat.mod_lt k hsz
      have hc1 : es[k / sz].length = sz := he _ _ (List.getElem?_eq_getElem hq)
      have := hrd B (k / sz) _ (k % sz) _ hB (List.getElem?_eq_getElem hq) (List.getElem?_eq_getElem (by omega))
      rwa [Nat.div_add_mod' k sz] at this

theorem Reads.of_ref (hr : RepK F0 L w0 st a w κ) {id e sz ver : Nat} {own : Bool} {es : List (List D)} (hl : look st.h id = some (.arr e sz ver own es)) {s : Option (Bool × Nat × Nat)} {v : Value} (h : CVRep w κ st.h (.ref id ver s) v) :
    Reads w κ.F sz v (partOf es s) := by
  obtain ⟨_, _, _, hu⟩ := h
  obtain ⟨hle, ba, bn, bc, a', c', hv, rfl, hc', ha', _⟩ := hu _ _ _ _ hl
  rw [partR es s]
  obtain ⟨xs, ho, hx⟩ := hr.ents id _ hl
  have hxl := ho.1
  have hlen2 : ((es.drop (offR s)).take (lenR es s)).length = lenR es s := by simp; omega
  refine ⟨a', lenR es s, c', rfl, hlen2.symm, fun i c hi => ?_, fun hne => ?_, (xs.drop (offR s * sz)).take (lenR es s * sz), ?_, fun i c j d hi hj => ?_, fun A hA k u hu => ?_⟩
  · rw [List.getElem?_take, List.getElem?_drop] at hi
    split at hi
    · exact (hx _ c hi).1
    · simp at hi
  · have hlen : lenR es s ≠ 0 := by intro h0; rw [h0] at hne; simp at hne
    rcases ho.2 with ⟨h1, h2⟩ | ⟨g, cap, cur, h1, _⟩
    · omega
    · rw [hv] at h1
      obtain ⟨rfl, rfl, rfl⟩ : ba = some ⟨g, 0, none⟩ ∧ bn = es.length ∧ bc = cap := by simpa using h1
      rw [ha' hlen]; simp
  · rw [hlen2]
    have : (offR s + lenR es s) * sz ≤ es.length * sz := Nat.mul_le_mul_right _ hle
    rw [Nat.add_mul] at this
    simp; omega
  · rw [List.getElem?_take, List.getElem?_drop] at hi
    split at hi
    · rename_i hlt
      obtain ⟨u, hu1, hu2⟩ := (hx _ c hi).2 j d hj
      have h1 := (hx _ c hi).1
      have hj' : j < sz := by rw [← h1]; exact (List.getElem?_eq_some_iff.1 hj).1
      refine ⟨u, ?_, hu2⟩
      have hlt2 : i * sz + j < lenR es s * sz := by
        have : (i + 1) * sz ≤ lenR es s * sz := Nat.mul_le_mul_right _ hlt
        rw [Nat.add_mul, Nat.one_mul] at this; omega
      rw [List.getElem?_take, if_pos hlt2, List.getElem?_drop]
      rw [← hu1]
      congr 1
      rw [Nat.add_mul, Nat.add_assoc]
    · simp at hi
  · rw [List.getElem?_take, List.getElem?_drop] at hu
    split at hu
    · rename_i hlt
      rcases ho.2 with ⟨h1, h2⟩ | ⟨g, cap, cur, h1, _⟩
      · have : lenR es s = 0 := by omega
        rw [this] at hlt; simp at hlt
      · rw [hv] at h1
        obtain ⟨rfl, rfl, rfl⟩ : ba = some ⟨g, 0, none⟩ ∧ bn = es.length ∧ bc = cap := by simpa using h1
        have hlen : lenR es s ≠ 0 := by intro h; rw [h] at hlt; simp at hlt
        have ha2 := ha' hlen
        rw [hA] at ha2
        simp only [Option.map_some, Option.some.injEq] at ha2
        subst ha2
        rw [add_add]
        exact ho.cells (g := g) (by rw [hv]; rfl) _ u hu
    · simp at hu

/-- What is appended, as elements. -/
def srcOf (st : St) (sz : Nat) (x : AV) : Option (List (List D)) :=
  match x with
  | .c (.nl _) => some []
  | .c (.d (.sl s es)) => match Nat.beq s sz with | true => some es | false => none
  | .c (.ref id ver s) => match look st.h id with
    | some (.arr _ sz' v _ es) => match Nat.beq v ver, Nat.beq sz' sz with
      | true, true => some (partOf es s)
      | _, _ => none
    | _ => none
  | _ => none

theorem src_sound (hr : RepK F0 L w0 st a w κ) {sz : Nat} {x : AV} {es : List (List D)} (h : srcOf st sz x = some es) {v : Value} (hv : AVRep w κ st.h x v) : Reads w κ.F sz v es := by
  unfold srcOf at h
  split at h
  · cases h
    cases hv
    exact ⟨none, 0, 0, rfl, rfl, fun i c hi => by simp at hi, fun hne => absurd rfl hne, [], by simp, fun i c j d hi => by simp at hi, fun A hA => by cases hA⟩
  · split at h
    · rename_i hb
      obtain rfl := beq_iff hb
      cases h
      exact Reads.of_fz hv
    · cases h
  · split at h
    · rename_i hl
      split at h
      · rename_i hb1 hb2
        obtain rfl := beq_iff hb1
        obtain rfl := beq_iff hb2
        cases h
        exact Reads.of_ref hr hl hv
      · cases h
    · cases h
  · cases h

def appWp (T : TypeId → Option TI) (st : St) (t : TypeId) (x y : AV) (dst : Option Tmp) (K : St → Prop) : Prop :=
  match T t with
  | some ti => match ti.k with
    | .slice e => match T e with
      | some te => match Nat.beq te.size 0, Nat.ble te.bytes 32768, srcOf st te.size y with
        | false, true, some new => match x with
          | .c (.nl _) => new.length ≤ 4000000000 ∧ setT (st.push (.arr e te.size 0 true new)) dst (.c (.ref st.n 0 none)) K
          | .c (.ref id ver none) => match look st.h id with
            | some (.arr e' sz v true es) => match Nat.beq e' e, Nat.beq sz te.size, Nat.beq v ver with
              | true, true, true => es.length + new.length ≤ 4000000000 ∧ setT { st with h := lput st.h id (.arr e sz (ver + 1) true (es ++ new)) } dst (.c (.ref id (ver + 1) none)) K
              | _, _, _ => False
            | _ => False
          | _ => False
        | _, _, _ => False
      | none => False
    | _ => False
  | none => False

/-- An append onto a row that is the call's own. -/
theorem append_run {t e : TypeId} {te : TI} (hk : P.underlying t = some (.slice e)) (hf : te.fits P e) (h0 : te.size ≠ 0) (hb : te.bytes ≤ 32768) {F : Nat → Prop} {v : Value} {es new : List (List D)} (ho : OwnRep w F e te.size v es) {y : Value}
    (hy : Reads w F te.size y new) (hlen : es.length + new.length ≤ 4000000000) (hFk : ∀ b, F b → v.ownBlock ≠ some b) (ty : TypeId) (hlt : ∀ b, F b → b < w.heap.size) :
    ∃ v' w', (Builtin.append_ #[t, t] ty #[v, y]).run P w = .ok v' w' ∧ w.grownBy w' v.ownBlock ∧ OwnRep w' F e te.size v' (es ++ new) ∧ ∀ b, v'.ownBlock = some b → v.ownBlock = some b ∨ w.heap.size ≤ b := by
  obtain ⟨info, z, i1, i2, i3, i4, i5, i6, i7⟩ := hf.info
  obtain ⟨xs, hown, hes⟩ := ho
  obtain ⟨A, len, cap, rfl, rfl, hsz, hne, vals, hvl, hvr, hvc⟩ := hy
  have hownL := hown.1
  cases A with
  | none =>
    have hnew : new = [] := by
      rcases Decidable.em (new = []) with h | h
      · exact h
      · exact absurd rfl (hne h)
    subst hnew
    refine ⟨v, w, run_append_none hk i1 (by rw [i2]; exact hown) cap, ⟨rfl, rfl, rfl, Nat.le_refl _, fun _ _ _ => rfl⟩, by rw [List.append_nil]; exact ⟨xs, hown, hes⟩, fun b hb => .inl hb⟩
  | some A =>
    have hcell := hvc A rfl
    have h1 : ∀ u ∈ vals, u.oneCell' = true := fun u hu => by
      obtain ⟨k, hk⟩ := List.getElem?_of_mem hu
      have hklt : k < new.length * te.size := by rw [← hvl]; exact (List.getElem?_eq_some_iff.1 hk).1
      have hq : k / te.size < new.length := Nat.div_lt_of_lt_mul (by rw [Nat.mul_comm]; exact hklt)
      have hr := Nat.mod_lt k (Nat.pos_of_ne_zero h0)
      have hc := hsz _ _ (List.getElem?_eq_getElem hq)
      obtain ⟨u', hu', hfz⟩ := hvr (k / te.size) _ (k % te.size) _ (List.getElem?_eq_getElem hq) (List.getElem?_eq_getElem (by omega))
      rw [Nat.div_add_mod', hk] at hu'
      cases hu'
      exact hfz.one
    have hb1 : (es.length + new.length) * te.bytes ≤ 140737488355328 := Nat.le_trans (Nat.mul_le_mul hlen hb) (by decide)
    have hm : es.length + new.length ≤ maxLen := by simp only [maxLen]; omega
    obtain ⟨v', w', hr, ho', hg, _⟩ := run_append_own (P := P) w 0 t ty e info z te.size te.bytes hk i1 i4 i2 i3 i5 (Nat.pos_of_ne_zero h0) v es.length xs hown A new.length cap vals hvl hcell h1 hm hb1 (Nat.zero_le _)
    have hblk := app_blk (P := P) hk i1 i4 (by rw [i2]; exact hown) (by rw [i2]; exact hvl) hcell h1 hm (by rw [i3]; exact hb1) hr
    refine ⟨v', w', hr, hg, ⟨xs ++ vals, by rw [List.length_append]; exact ho', fun i c hi => ?_⟩, hblk⟩
    have hFk' : ∀ b, F b → w'.heap[b]? = w.heap[b]? := fun b hb => hg.block b (hlt b hb) (fun e => hFk b hb e.symm)
    rw [List.getElem?_append] at hi
    split at hi
    · rename_i hil
      obtain ⟨q1, q2⟩ := hes i c hi
      refine ⟨q1, fun j d hj => ?_⟩
      obtain ⟨u, hu, hfz⟩ := q2 j d hj
      exact ⟨u, by rw [List.getElem?_append_left (List.getElem?_eq_some_iff.1 hu).1]; exact hu, Fz.keep hFk' (fun _ h => h) hfz⟩
    · rename_i hil
      refine ⟨hsz _ c hi, fun j d hj => ?_⟩
      obtain ⟨u, hu, hfz⟩ := hvr _ c j d hi hj
      refine ⟨u, ?_, Fz.keep hFk' (fun _ h => h) hfz⟩
      have e1 : i * te.size + j = xs.length + ((i - es.length) * te.size + j) := by
        rw [hownL, ← Nat.add_assoc, ← Nat.add_mul]; congr 2; omega
      rw [e1, List.getElem?_append_right (Nat.le_add_right _ _), Nat.add_sub_cancel_left]
      exact hu

theorem own_shape {F : Nat → Prop} {e sz : Nat} {v : Value} {es : List (List D)} (h : OwnRep w F e sz v es) : ∃ A c, v = .slice A es.length c ∧ es.length ≤ c := by
  obtain ⟨xs, ho, _⟩ := h
  rcases ho.2 with ⟨h1, h2⟩ | ⟨g, cap, cur, h1, _, _, h2, _⟩
  · exact ⟨none, 0, by rw [h1, h2], by omega⟩
  · exact ⟨_, cap, h1, h2⟩

theorem ownRep_nil {F : Nat → Prop} (w : World) (e sz : Nat) : OwnRep w F e sz (.slice none 0 0) [] :=
  ⟨[], World.ownsRow_nil w 0 e sz, fun i c hi => by simp at hi⟩

theorem append_tri (hT : TOk P T) {o : Oper} {x y : Operand} {t : TypeId} (ho : o.op = .call { callee := .builtin .append, args := #[x, y], argTypes := #[t, t] }) {K : St → Prop}
    (h : appWp T st t (evO st x) (evO st y) o.dst K) : OpTri P o st K := by
  unfold appWp at h
  split at h
  · rename_i ti hti
    have hk := (hT _ _ hti).k
    split at h
    · rename_i e hke
      rw [hke] at hk
      have hk' : P.underlying t = some (.slice e) := hk
      split at h
      · rename_i te hte
        have hf := hT _ _ hte
        split at h
        · rename_i new hb1 hb2 hsrc
          have h0 : te.size ≠ 0 := fun e => by rw [e] at hb1; simp at hb1
          have hby := Nat.le_of_ble_eq_true hb2
          have hexec : ∀ (a : Act) (w : World) (v : Value) (w' : World), (Builtin.append_ #[t, t] o.type #[a.eval x, a.eval y]).run P w = .ok v w' → (execOp a.eval o).run P w = .ok (.value v) w' := fun a w v w' hr => by
            simp [execOp, ho, resolve, invoke, builtin, hr]
          split at h
          · -- onto nil
            rename_i z hx
            obtain ⟨hlen, h⟩ := h
            refine opTri_value fun F0 L w0 a w κ hr => ?_
            have hx' := evO_rep hr x
            rw [hx] at hx'
            have hx2 : a.eval x = .slice none 0 0 := hx'
            have hy := src_sound hr hsrc (evO_rep hr y)
            obtain ⟨v', w', r1, r2, r3, r4⟩ := append_run hk' hf h0 hby (ownRep_nil w e te.size) hy (by simpa using hlen) (fun b _ => by simp [Value.ownBlock]) o.type hr.f2
            rw [List.nil_append] at r3
            obtain ⟨A, c, rfl, hc⟩ := own_shape r3
            have g : Grew w w' := Grew.of_grown r2 rfl
            obtain ⟨st', κ', k1, k2⟩ := arr_put hr g (n := new.length) r3 (fun b hb => (r4 b hb).resolve_left (by simp [Value.ownBlock])) rfl hc h
            exact ⟨_, w', hexec a w _ w' (by rw [hx2]; exact r1), st', κ', k1, k2⟩
          · -- onto a row
            rename_i id ver hx
            split at h
            · rename_i e' sz vr es hl
              split at h
              · rename_i hb3 hb4 hb5
                obtain rfl := beq_iff hb3
                obtain rfl := beq_iff hb4
                obtain rfl := beq_iff hb5
                obtain ⟨hlen, h⟩ := h
                refine opTri_value fun F0 L w0 a w κ hr => ?_
                have hx' := evO_rep hr x
                rw [hx] at hx'
                obtain ⟨⟨hn1, hn2⟩, _, _, hxe⟩ := hx'
                obtain ⟨_, ba, bn, bc, a', c', hv, hxv, hc', _, hhd⟩ := hxe _ _ _ _ hl
                obtain ⟨_, ha2, hc2⟩ := hhd rfl
                subst ha2 hc2
                have hent : OwnRep w κ.F e' te.size (κ.val id) es := hr.ents id _ hl
                obtain ⟨A0, c0, hs0, _⟩ := own_shape hent
                have hxv' : a.eval x = κ.val id := by
                  rw [hxv, hv]
                  rw [hv] at hs0
                  simp only [Value.slice.injEq] at hs0
                  rw [hs0.2.1]; rfl
                have hy := src_sound hr hsrc (evO_rep hr y)
                obtain ⟨v', w', r1, r2, r3, r4⟩ := append_run hk' hf h0 hby hent hy hlen (fun b hb he => (hr.excl id _ b hl he).2.1 rfl hb) o.type hr.f2
                let κ1 : Con := { κ with val := fun i => if i = id then v' else κ.val i, vr := fun i => if i = id then vr + 1 else κ.vr i }
                have hcv : ∀ x v, CVRep w κ st.h x v → CVRep w κ1 (lput st.h id (.arr e' te.size (vr + 1) true (es ++ new))) x v := by
                  intro x v hx
                  cases x with
                  | d x => exact hx
                  | nl _ => exact hx
                  | u => exact hx
                  | ptr => exact hx
                  | fn => exact hx
                  | ref i ver s =>
                    obtain ⟨⟨q1, q1'⟩, q2, q3, q4⟩ := hx
                    by_cases hi : i = id
                    · subst hi
                      have hvr := hr.kv _ _ _ _ _ _ hl
                      refine ⟨⟨q1, by simp only [κ1, if_true]; omega⟩, q2, q3, fun e sz own es' hl' => ?_⟩
                      rw [look_lput, if_pos rfl] at hl'
                      cases hl'
                      omega
                    · refine ⟨⟨q1, by simp only [κ1, if_neg hi]; exact q1'⟩, q2, q3, fun e sz own es' hl' => ?_⟩
                      rw [look_lput, if_neg (fun h => hi h.symm)] at hl'
                      simp only [κ1, if_neg hi]
                      exact q4 _ _ _ _ hl'
                  | ep i ver k j =>
                    obtain ⟨⟨q1, q1'⟩, q2, q3, q4⟩ := hx
                    by_cases hi : i = id
                    · subst hi
                      have hvr := hr.kv _ _ _ _ _ _ hl
                      refine ⟨⟨q1, by simp only [κ1, if_true]; omega⟩, q2, q3, fun e sz own es' hl' => ?_⟩
                      rw [look_lput, if_pos rfl] at hl'
                      cases hl'
                      omega
                    · refine ⟨⟨q1, by simp only [κ1, if_neg hi]; exact q1'⟩, q2, q3, fun e sz own es' hl' => ?_⟩
                      rw [look_lput, if_neg (fun h => hi h.symm)] at hl'
                      simp only [κ1, if_neg hi]
                      exact q4 _ _ _ _ hl'
                have hup : RepK F0 L w0 { st with h := lput st.h id (.arr e' te.size (vr + 1) true (es ++ new)) } a w' κ1 := by
                  refine hr.upd hl rfl rfl rfl rfl rfl (fun i hi => ⟨by simp only [κ1, if_neg hi], by simp only [κ1, if_neg hi]⟩) r2.os r2.tape r2.output r2.size (fun k hk hne => r2.block k hk (fun h => hne h.symm)) ?_ (fun b hb => ?_) hcv (fun _ _ _ _ _ h => by cases h; simp only [κ1, if_true])
                  · show OwnRep _ _ _ _ _ _
                    simp only [κ1, if_true]
                    exact r3
                  · simp only [Ent.blk, κ1, if_true] at hb
                    exact r4 b hb
                obtain ⟨A, c, hvs, hc⟩ := own_shape r3
                obtain ⟨st', k1, k2⟩ := setT_sound h hup (v := v') (by
                  refine ⟨⟨hn1, by simp only [κ1, if_true]; exact Nat.le_refl _⟩, by rw [hvs]; rfl, by rw [hvs]; rfl, fun e sz own es' hl' => ?_⟩
                  simp only [look_lput, if_true] at hl'
                  cases hl'
                  refine ⟨by simp [offR, lenR], A, (es ++ new).length, c, A, c, by simp only [κ1, if_true]; exact hvs, by simp only [lenR]; exact hvs, by simp only [lenR]; exact hc, fun _ => ?_, fun _ => ⟨rfl, rfl, rfl⟩⟩
                  cases A with
                  | none => rfl
                  | some A => simp [offR, Addr.add])
                exact ⟨v', w', hexec a w _ w' (by rw [hxv']; exact r1), st', κ1, k1, k2⟩
              · exact h.elim
            · exact h.elim
          · exact h.elim
        · exact h.elim
      · exact h.elim
    · exact h.elim
  · exact h.elim

end
end Go.H
