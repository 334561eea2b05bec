/- Framework H, part 10: stores, appends, made slices. -/
import Derived.Test.YtbclkplebkencaaH9
namespace Go.H
set_option linter.unusedSimpArgs false
set_option linter.unusedVariables false
open Go.RowKit

section
variable {P : Program} {T : TypeId → Option TI} {F0 L : Nat → Prop} {w0 w w' : World} {st : St} {a : Act} {κ κ' : Con} {hh : List (Nat × Ent)}

theorem CVs.map {h' : List (Nat × Ent)} (hcv : ∀ x v, CVRep w κ hh x v → CVRep w' κ' h' x v) {cs : List CV} {vs : List Value} (h : CVs w κ hh cs vs) : CVs w' κ' h' cs vs :=
  ⟨h.1, fun j c u hc hu => hcv _ _ (h.2 j c u hc hu)⟩

theorem AVRep.map {h' : List (Nat × Ent)} (hcv : ∀ x v, CVRep w κ hh x v → CVRep w' κ' h' x v) {x : AV} {v : Value} (h : AVRep w κ hh x v) : AVRep w' κ' h' x v := by
  cases x with
  | c x => exact hcv _ _ h
  | agg cs => obtain ⟨vs, q, hv⟩ := h; exact ⟨vs, q, hv.map hcv⟩
  | tup xs =>
    obtain ⟨vs, q, hl, hv⟩ := h
    refine ⟨vs, q, hl, fun j x v hx hu => ?_⟩
    have := hv j x v hx hu
    unfold TVRep at *
    split at this
    · obtain ⟨us, q, hus⟩ := this; exact ⟨us, q, hus.map hcv⟩
    · exact this.map hcv
  | w x u => exact ⟨h.1, hcv _ _ h.2⟩
  | u => trivial

/-- One of the frame's own blocks turns. -/
theorem RepK.upd (h : RepK F0 L w0 st a w κ) {id : Nat} {e e' : Ent} (hl : look st.h id = some e) (hown : e.own = true) (hown' : e'.own = true)
    (hF : κ'.F = κ.F) (hbl : κ'.bl = κ.bl) (hn : κ'.n = κ.n) (hother : ∀ i, i ≠ id → κ'.val i = κ.val i ∧ κ'.vr i = κ.vr i)
    (g1 : w'.os = w.os) (g2 : w'.tape = w.tape) (g3 : w'.output = w.output) (g4 : w.heap.size ≤ w'.heap.size) (g5 : ∀ k, k < w.heap.size → e.blk κ id ≠ some k → w'.heap[k]? = w.heap[k]?)
    (he' : EntRep w' κ' (lput st.h id e') id e') (hb' : ∀ b, e'.blk κ' id = some b → e.blk κ id = some b ∨ w.heap.size ≤ b)
    (hcv : ∀ x v, CVRep w κ st.h x v → CVRep w κ' (lput st.h id e') x v) (hv' : ∀ e0 sz ver own es, e' = .arr e0 sz ver own es → κ'.vr id = ver) :
    RepK F0 L w0 { st with h := lput st.h id e' } a w' κ' := by
  have hFk : ∀ b, κ'.F b → w'.heap[b]? = w.heap[b]? := fun b hb => by
    rw [hF] at hb
    refine g5 b (h.f2 b hb) (fun he => ?_)
    exact (h.excl id e b hl he).2.1 hown hb
  have hcv' : ∀ x v, CVRep w κ st.h x v → CVRep w' κ' (lput st.h id e') x v := fun x v hx => (hcv x v hx).keep hFk
  have hblk : ∀ (i : Nat) (x : Ent), i ≠ id → x.blk κ' i = x.blk κ i := fun i x hi => by
    cases x <;> simp only [Ent.blk, hbl, (hother i hi).1]
  have hlook : ∀ (i : Nat) (x : Ent), look (lput st.h id e') i = some x → (i = id ∧ x = e') ∨ (i ≠ id ∧ look st.h i = some x) := fun i x hi => by
    rw [look_lput] at hi
    split at hi
    · rename_i he; cases hi; exact .inl ⟨he.symm, rfl⟩
    · rename_i hne; exact .inr ⟨fun h => hne h.symm, hi⟩
  refine { below := ?_, f0 := fun b hb => by rw [hF]; exact h.f0 b hb, f1 := fun b hb => h.f1 b (hF ▸ hb), f2 := fun b hb => Nat.lt_of_lt_of_le (h.f2 b (hF ▸ hb)) g4, ents := ?_, new := ?_, excl := ?_, inj := ?_, tmps := ?_, size := h.size, dfs := h.dfs, kn := hn.trans h.kn, kv := ?_ }
  · refine h.below.step g1 g2 g3 g4 fun k hk hL => g5 k (Nat.lt_of_lt_of_le hk h.below.size) (fun he => ?_)
    rcases (h.excl id e k hl he).1 with q | q
    · omega
    · exact hL q
  · intro i x hi
    rcases hlook i x hi with ⟨rfl, rfl⟩ | ⟨hne, hi'⟩
    · exact he'
    · have hx := h.ents i x hi'
      have hkeep : ∀ b, x.blk κ i = some b → w'.heap[b]? = w.heap[b]? := fun b hb => g5 b (hx.lt hb) (fun he => hne (h.inj i id x e b hi' hl hb he))
      cases x with
      | box ty cs =>
        obtain ⟨vals, h1, h2⟩ := hx
        exact ⟨vals, by rw [hbl, hkeep _ rfl]; exact h1, h2.map hcv'⟩
      | arr e0 sz ver own es =>
        show OwnRep _ _ _ _ _ _
        rw [(hother i hne).1]
        have hx2 : OwnRep w κ'.F e0 sz (κ.val i) es := by rw [hF]; exact hx
        exact OwnRep.keep hx2 hFk (fun b hb => hkeep b hb)
  · intro i x hi
    rcases hlook i x hi with ⟨rfl, rfl⟩ | ⟨_, hi'⟩
    · exact h.new i e hl
    · exact h.new i x hi'
  · intro i x b hi hb
    rcases hlook i x hi with ⟨rfl, rfl⟩ | ⟨hne, hi'⟩
    · rcases hb' b hb with hb1 | hb1
      · have := h.excl i e b hl hb1
        exact ⟨this.1, fun _ => hF ▸ this.2.1 hown, fun hf => by rw [hown'] at hf; cases hf⟩
      · refine ⟨.inl (Nat.le_trans h.below.size hb1), fun _ hf => ?_, fun hf => by rw [hown'] at hf; cases hf⟩
        exact absurd (h.f2 b (hF ▸ hf)) (by omega)
    · rw [hblk i x hne] at hb
      rw [hF]
      exact h.excl i x b hi' hb
  · intro i i' x x' b hi hi' hb1 hb2
    rcases hlook i x hi with ⟨rfl, rfl⟩ | ⟨hne, hj⟩ <;> rcases hlook i' x' hi' with ⟨rfl, rfl⟩ | ⟨hne', hj'⟩
    · rfl
    · rw [hblk i' x' hne'] at hb2
      rcases hb' b hb1 with hb3 | hb3
      · exact h.inj i i' e x' b hl hj' hb3 hb2
      · have := (h.ents i' x' hj').lt hb2; omega
    · rw [hblk i x hne] at hb1
      rcases hb' b hb2 with hb3 | hb3
      · exact h.inj i i' x e b hj hl hb1 hb3
      · have := (h.ents i x hj).lt hb1; omega
    · rw [hblk i x hne] at hb1
      rw [hblk i' x' hne'] at hb2
      exact h.inj i i' x x' b hj hj' hb1 hb2
  · intro t av ht
    obtain ⟨v, hv, hr⟩ := h.tmps t av ht
    exact ⟨v, hv, hr.map hcv'⟩
  · intro i e0 sz ver own es hi
    rcases hlook i _ hi with ⟨rfl, he⟩ | ⟨hne, hi'⟩
    · exact hv' _ _ _ _ _ he.symm
    · rw [(hother i hne).2]
      exact h.kv _ _ _ _ _ _ hi'

/-- References stand as they did where a row's length and value stand. -/
theorem cv_same {h' : List (Nat × Ent)} (hn : κ'.n = κ.n) (hbl : κ'.bl = κ.bl) (hF : κ'.F = κ.F) (hvr : κ'.vr = κ.vr) (hval : κ'.val = κ.val)
    (hs : ∀ i e sz ver own es, look h' i = some (.arr e sz ver own es) → ∃ own' es0, look hh i = some (.arr e sz ver own' es0) ∧ es0.length = es.length) {x : CV} {v : Value} (h : CVRep w κ hh x v) : CVRep w κ' h' x v := by
  cases x with
  | d x => show Fz w κ'.F v x; rw [hF]; exact h
  | nl _ => exact h
  | u => exact h
  | ptr id off => show id < κ'.n ∧ _; rw [hn, hbl]; exact h
  | fn f caps => show (∀ p ∈ caps, p.1 < κ'.n) ∧ _; rw [hn, hbl]; exact h
  | ref i ver s =>
    obtain ⟨h1, h2, h3, h4⟩ := h
    refine ⟨by rw [hn, hvr]; exact h1, h2, h3, fun e sz own es hl => ?_⟩
    obtain ⟨own', es0, hl', hlen⟩ := hs _ _ _ _ _ _ hl
    have := h4 e sz own' es0 hl'
    rw [hval]
    have e1 : lenR es0 s = lenR es s := by cases s <;> simp [lenR, hlen]
    rw [← hlen, ← e1]
    exact this
  | ep i ver k j =>
    obtain ⟨h1, h2, h3, h4⟩ := h
    refine ⟨by rw [hn, hvr]; exact h1, h2, h3, fun e sz own es hl => ?_⟩
    obtain ⟨own', es0, hl', hlen⟩ := hs _ _ _ _ _ _ hl
    have := h4 e sz own' es0 hl'
    rw [hval, ← hlen]
    exact this

/-! ### stores -/
def over {α : Type} (cs : List α) (off : Nat) (new : List α) : List α := cs.take off ++ new ++ cs.drop (off + new.length)

theorem over_length {α : Type} (cs : List α) (off : Nat) (new : List α) (h : off + new.length ≤ cs.length) : (over cs off new).length = cs.length := by
  simp [over]; omega

theorem over_get {α : Type} (cs : List α) (off : Nat) (new : List α) (h : off + new.length ≤ cs.length) (j : Nat) :
    (over cs off new)[j]? = if off ≤ j ∧ j < off + new.length then new[j - off]? else cs[j]? := by
  unfold over
  rw [List.append_assoc, List.getElem?_append]
  have hl : (cs.take off).length = off := by simp; omega
  rw [hl]
  split
  · rename_i h1
    rw [if_neg (by omega), List.getElem?_take, if_pos h1]
  · rename_i h1
    rw [List.getElem?_append]
    split
    · rename_i h2
      rw [if_pos (by omega)]
    · rename_i h2
      rw [if_neg (by omega), List.getElem?_drop]
      congr 1; omega

theorem CVs.over {cs new : List CV} {vs us : List Value} (h : CVs w κ hh cs vs) (hn : CVs w κ hh new us) {off : Nat} (hle : off + new.length ≤ cs.length) : CVs w κ hh (over cs off new) (Go.H.over vs off us) := by
  have hle' : off + us.length ≤ vs.length := by rw [hn.1, h.1]; exact hle
  refine ⟨by rw [over_length _ _ _ hle', over_length _ _ _ hle, h.1], fun j c u hc hu => ?_⟩
  rw [over_get _ _ _ hle] at hc
  rw [over_get _ _ _ hle', hn.1] at hu
  split at hc
  · rename_i hj
    rw [if_pos hj] at hu
    exact hn.2 _ c u hc hu
  · rename_i hj
    rw [if_neg hj] at hu
    exact h.2 _ c u hc hu

def storeWp (T : TypeId → Option TI) (st : St) (t : TypeId) (addr val : AV) (K : St → Prop) : Prop :=
  match T t, avCells val with
  | some ti, some new => match Nat.beq new.length ti.size with
    | false => False
    | true => match addr with
      | .c (.ptr id off) => match look st.h id with
        | some (.box ty cs) => match Nat.ble (off + new.length) cs.length with
          | true => K { st with h := lput st.h id (.box ty (over cs off new)) }
          | false => False
        | _ => False
      | .c (.ep id ver i j) => match frzL st.h new with
        | some (ds, h') => match look h' id with
          | some (.arr e sz v true es) => match Nat.beq v ver with
            | true => ∀ c, es[i]? = some c → j + ds.length ≤ c.length ∧ K { st with h := lput h' id (.arr e sz v true (es.set i (over c j ds))) }
            | false => False
          | _ => False
        | none => False
      | _ => False
  | _, _ => False

theorem CVs.ones {cs : List CV} {vs : List Value} (h : CVs w κ hh cs vs) : ∀ v ∈ vs, v.oneCell' = true := by
  intro v hv
  obtain ⟨j, hj⟩ := List.getElem?_of_mem hv
  have hlt : j < cs.length := by rw [← h.1]; exact (List.getElem?_eq_some_iff.1 hj).1
  exact (CVRep.one (h.2 j _ v (List.getElem?_eq_getElem hlt) hj)).1

theorem run_storeVar_at {t : TypeId} {ti : TI} (hf : ti.fits P t) {v : Value} (hs : v.cells.size = ti.size) {g o ty : Nat} {cur : List Value} (hg : w.heap[g]? = some (.cells cur.toArray ty (0, 0)))
    (hle : o + v.cells.size ≤ cur.length) (h1 : ∀ u ∈ v.cells.toList, u.oneCell' = true) :
    (storeVar t ⟨g, o, none⟩ v).run P w = .ok () (w.setRow g (over cur o v.cells.toList).toArray) := by
  have hst := run_storeCells_at P g o ty v.cells.toList 0 cur.toArray w hg (by simpa using hle) h1
  simp only [Nat.add_zero] at hst
  simp only [storeVar, Sem.run_bind, run_size hf, Result.andThen_ok, hs, ne_eq, not_true_eq_false, if_false]
  exact hst

theorem put_undef (h : RepK F0 L w0 st a w κ) (dst : Option Tmp) (hd : dst = none) : RepK F0 L w0 st (a.put dst undef) w κ := by subst hd; exact h

theorem store_tri (hT : TOk P T) {o : Oper} {t : TypeId} {x y : Operand} (ho : o.op = .store t x y) (hd : o.dst = none) {K : St → Prop} (h : storeWp T st t (evO st x) (evO st y) K) : OpTri P o st K := by
  unfold storeWp at h
  split at h
  · rename_i ti new hti hnew
    have hf := hT _ _ hti
    split at h
    · exact h.elim
    · rename_i hb
      have hsz := beq_iff hb
      split at h
      · -- a box
        rename_i id off hx
        split at h
        · rename_i ty cs hl
          split at h
          · rename_i hb2
            have hle := Nat.le_of_ble_eq_true hb2
            refine opTri_skip fun F0 L w0 a w κ hr => ?_
            have hv := avCells_sound hnew (evO_rep hr y)
            have hp := evO_rep hr x
            rw [hx] at hp
            obtain ⟨hn, hp⟩ := hp
            obtain ⟨vals, hg, hvals⟩ := hr.ents id _ hl
            have hvs : (a.eval y).cells.size = new.length := by rw [← hv.1]; simp
            have hrun := run_storeVar_at (P := P) hf (by rw [hvs, hsz]) hg (o := off) (by rw [hvs, hvals.1]; exact hle) hv.ones
            refine ⟨_, by simp only [execOp, ho, Sem.run_bind, Instr.storeAt, hp, Instr.sureAddr, Sem.run_pure, Result.andThen_ok, hrun]; rfl, _, κ, h, ?_⟩
            rw [hd]
            have hcv : ∀ x v, CVRep w κ st.h x v → CVRep w κ (lput st.h id (.box ty (over cs off new))) x v := fun x v hx => cv_same rfl rfl rfl rfl rfl (fun i e sz ver own es hi => by
              rw [look_lput] at hi
              split at hi
              · cases hi
              · exact ⟨own, es, hi, rfl⟩) hx
            have hFk : ∀ b, κ.F b → (w.setRow (κ.bl id) (over vals off (a.eval y).cells.toList).toArray).heap[b]? = w.heap[b]? := fun b hb => setRow_other _ _ _ _ (fun e => (hr.excl id _ (κ.bl id) hl rfl).2.1 rfl (e ▸ hb))
            refine hr.upd hl rfl rfl rfl rfl rfl (fun _ _ => ⟨rfl, rfl⟩) rfl rfl rfl (by simp) (fun k _ hne => setRow_other _ _ _ _ (fun e => hne (by rw [e]; rfl))) ?_ (fun b hb => .inl hb) hcv (fun _ _ _ _ _ h => by cases h)
            refine ⟨_, setRow_heap w _ _ _ _ _ hg, ?_⟩
            exact ((hvals.over hv hle).map hcv).keep hFk
          · exact h.elim
        · exact h.elim
      · -- an element
        rename_i id ver i j hx
        split at h
        · rename_i ds h' hds
          split at h
          · rename_i e sz vr es hl
            split at h
            · rename_i hb2
              obtain rfl := beq_iff hb2
              refine opTri_skip fun F0 L w0 a w κ hr => ?_
              have hv := avCells_sound hnew (evO_rep hr y)
              obtain ⟨κ1, k1, s1, b1, v1, f1, l1, q1, m1⟩ := frzL_sound hr hds
              have hp0 := evO_rep hr x
              rw [hx] at hp0
              have hp := m1 (.ep id vr i j) (a.eval x) hp0
              obtain ⟨hn, _, _, hp⟩ := hp
              obtain ⟨hlt, A, n, c, hA, hp⟩ := hp _ _ _ _ hl
              obtain ⟨hjl, hK⟩ := h es[i] (List.getElem?_eq_getElem hlt)
              obtain ⟨xs, hown, hes⟩ := k1.ents id _ hl
              rcases hown.2 with ⟨h1, h2⟩ | ⟨g, cap, cur, h1, h2, h3, h4, h5, h6, h7⟩
              · omega
              · rw [hA] at h1
                obtain ⟨rfl, rfl, rfl⟩ : A = ⟨g, 0, none⟩ ∧ n = es.length ∧ c = cap := by simpa using h1
                have hblk : (κ1.val id).ownBlock = some g := by rw [hA]; rfl
                have hci : es[i].length = sz := (hes i _ (List.getElem?_eq_getElem hlt)).1
                have hxl : xs.length = es.length * sz := hown.1
                have hrow : (i + 1) * sz ≤ es.length * sz := Nat.mul_le_mul_right _ hlt
                rw [Nat.add_mul, Nat.one_mul] at hrow
                have hcur : es.length * sz ≤ cur.size := by rw [h6]; exact Nat.mul_le_mul_right _ h4
                have hvs : (a.eval y).cells.size = ds.length := by have := hv.1; rw [l1]; simpa using this
                have hg' : w.heap[g]? = some (.cells cur.toList.toArray e (0, 0)) := by simpa using h3
                have hrun := run_storeVar_at (P := P) hf (by rw [hvs, l1, hsz]) hg' (o := i * sz + j) (by rw [hvs]; simp; omega) hv.ones
                rw [addr0] at hp
                simp only [Nat.zero_add] at hp
                refine ⟨_, by simp only [execOp, ho, Sem.run_bind, Instr.storeAt, hp, Instr.sureAddr, Sem.run_pure, Result.andThen_ok, hrun]; rfl, _, κ1, hK, ?_⟩
                rw [hd]
                have hcv : ∀ x v, CVRep w κ1 h' x v → CVRep w κ1 (lput h' id (.arr e sz vr true (es.set i (over es[i] j ds)))) x v := fun x v hx => cv_same rfl rfl rfl rfl rfl (fun i' e' sz' ver' own' es' hi => by
                  rw [look_lput] at hi
                  split at hi
                  · rename_i he; subst he; cases hi; exact ⟨true, es, hl, by simp⟩
                  · exact ⟨own', es', hi, rfl⟩) hx
                have hFk : ∀ b, κ1.F b → (w.setRow g (over cur.toList (i * sz + j) (a.eval y).cells.toList).toArray).heap[b]? = w.heap[b]? := fun b hb => setRow_other _ _ _ _ (fun e' => (k1.excl id _ g hl hblk).2.1 rfl (e' ▸ hb))
                refine RepK.upd (st := { st with h := h' }) k1 hl rfl rfl rfl rfl rfl (fun _ _ => ⟨rfl, rfl⟩) rfl rfl rfl (by simp) (fun k _ hne => setRow_other _ _ _ _ (fun e' => hne (by rw [e']; exact hblk))) ?_ (fun b hb => .inl hb) hcv (fun _ _ _ _ _ h => by cases h; exact k1.kv _ _ _ _ _ _ hl)
                have hov : (over cur.toList (i * sz + j) (a.eval y).cells.toList).length = cur.size := by
                  rw [over_length]
                  · simp
                  · simp only [Array.length_toList, hvs]; omega
                refine ⟨over xs (i * sz + j) (a.eval y).cells.toList, ⟨?_, .inr ⟨g, c, _, ?_, h2, setRow_heap w _ _ _ _ _ hg', by simpa using h4, h5, ?_, ?_⟩⟩, ?_⟩
                · rw [over_length]
                  · simpa using hxl
                  · simp only [Array.length_toList, hvs]; omega
                · simp [hA]
                · simp only [List.size_toArray, hov, h6]
                · rw [← h7]
                  simp only [List.length_set]
                  apply List.ext_getElem?
                  intro k
                  have hle1 : i * sz + j + (a.eval y).cells.toList.length ≤ cur.toList.length := by simp only [Array.length_toList, hvs]; omega
                  have hle2 : i * sz + j + (a.eval y).cells.toList.length ≤ (cur.toList.take (es.length * sz)).length := by simp only [List.length_take, Array.length_toList, hvs]; omega
                  rw [List.getElem?_take, over_get _ _ _ hle1, over_get _ _ _ hle2, List.getElem?_take]
                  split
                  · rfl
                  · rename_i hk
                    rw [if_neg]
                    simp only [Array.length_toList, hvs]; omega
                · intro i' c' hi'
                  have hlex : i * sz + j + (a.eval y).cells.toList.length ≤ xs.length := by simp only [Array.length_toList, hvs]; omega
                  rw [List.getElem?_set] at hi'
                  split at hi'
                  · rename_i he
                    subst he
                    simp only [Option.some.injEq] at hi'
                    subst hi'
                    refine ⟨by rw [over_length _ _ _ hjl, hci], fun k d hk => ?_⟩
                    rw [over_get _ _ _ hjl] at hk
                    split at hk
                    · rename_i hr'
                      have hlt2 : k - j < (a.eval y).cells.toList.length := by simp only [Array.length_toList, hvs]; omega
                      refine ⟨(a.eval y).cells.toList[k - j], ?_, ?_⟩
                      · rw [over_get _ _ _ hlex, if_pos (by simp only [Array.length_toList, hvs]; omega)]
                        have e1 : i * sz + k - (i * sz + j) = k - j := by omega
                        rw [e1]
                        exact List.getElem?_eq_getElem hlt2
                      · exact Fz.keep hFk (fun _ h => h) (q1 _ hv (k - j) d _ hk (List.getElem?_eq_getElem hlt2))
                    · rename_i hr'
                      obtain ⟨u, hu, hfz⟩ := (hes i _ (List.getElem?_eq_getElem hlt)).2 k d hk
                      have hk2 : k < sz := by rw [← hci]; exact (List.getElem?_eq_some_iff.1 hk).1
                      refine ⟨u, ?_, Fz.keep hFk (fun _ h => h) hfz⟩
                      rw [over_get _ _ _ hlex, if_neg (by simp only [Array.length_toList, hvs]; omega)]
                      exact hu
                  · rename_i hne
                    obtain ⟨q2, q3⟩ := hes i' c' hi'
                    refine ⟨q2, fun k d hk => ?_⟩
                    obtain ⟨u, hu, hfz⟩ := q3 k d hk
                    have hk2 : k < sz := by rw [← q2]; exact (List.getElem?_eq_some_iff.1 hk).1
                    refine ⟨u, ?_, Fz.keep hFk (fun _ h => h) hfz⟩
                    rw [over_get _ _ _ hlex, if_neg]
                    · exact hu
                    · rintro ⟨g1, g2⟩
                      simp only [Array.length_toList, hvs] at g2
                      rcases Nat.lt_or_gt_of_ne hne with hlt' | hgt
                      · have : (i + 1) * sz ≤ i' * sz := Nat.mul_le_mul_right _ hlt'
                        rw [Nat.add_mul, Nat.one_mul] at this
                        omega
                      · have : (i' + 1) * sz ≤ i * sz := Nat.mul_le_mul_right _ hgt
                        rw [Nat.add_mul, Nat.one_mul] at this
                        omega
            · exact h.elim
          · exact h.elim
        · exact h.elim
      · exact h.elim
  · exact h.elim

end
end Go.H
