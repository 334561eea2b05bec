/- Framework H, part 26: what an argument reads as. -/
import Derived.Test.YtdolkacinfjhcaaGreatH25
import Derived.ChangeArms
import Derived.DataReads
import Derived.Laws.LoneSync
set_option linter.unusedSimpArgs false
set_option linter.unusedVariables false
set_option linter.constructorNameAsVariable false
namespace Go.H
open Go.RowKit
def TyD (T : TypeId → Option TI) : Nat → TypeId → List D → Prop
 | 0, _, _ => False
 | n + 1, t, ds => match T t with
  | none => False
  | some ti => match ti.k with
   | .int k => ∃ x, ds = [.int k x] ∧ (Lit.int k x).wf = true
   | .bool => ∃ b, ds = [.bool b]
   | .str => ∃ s : ByteArray, ds = [.str s] ∧ s.size ≤ 9223372036854775807
   | .slice e => ∃ es sz, ds = [.sl sz es] ∧ es.length ≤ 9223372036854775807 ∧ (∀ te, T e = some te → sz = te.size) ∧ ∀ c ∈ es, TyD T n e c
   | .struct fs => ds.length = ti.size ∧ ∀ f ∈ fs, ∀ tf, T f.2 = some tf → TyD T n f.2 ((ds.drop f.1).take tf.size)
   | _ => False
def laidF (T : TypeId → Option TI) : Nat → List (Nat × TypeId) → Nat → Bool
 | off, [], size => Nat.beq off size
 | off, (o, t) :: r, size => match T t with | some tf => Nat.beq o off && laidF T (off + tf.size) r size | none => false
def plainT (T : TypeId → Option TI) (i : TI) : Bool :=
 match i.k with
 | .int _ | .bool | .str => Nat.beq i.size 1
 | .slice e => Nat.beq i.size 1 && (match T e with | some te => !Nat.beq te.size 0 | none => false)
 | .struct fs => laidF T 0 fs i.size
 | _ => false
section
variable {P : Program} {T : TypeId → Option TI} {w : World} {H : Type} {enc : TypeId × Value → H} {held : Bool} {spare : Nat → Bool}
theorem cellsOf_fits {t : TypeId} {i : TI} (h : i.fits P t) : P.cellsOf t = i.size := by
 obtain ⟨info, z, h1, h2, _⟩ := h.info
 simp [Program.cellsOf, h1, h2]
theorem laidF_le : ∀ {l : List (Nat × TypeId)} {off size : Nat}, laidF T off l size = true → off ≤ size
 | [], off, size, h => by simp only [laidF] at h; exact Nat.le_of_eq (Nat.eq_of_beq_eq_true h)
 | (o, t) :: r, off, size, h => by
  simp only [laidF] at h
  split at h
  ·simp only [Bool.and_eq_true] at h
   have := laidF_le h.2
   omega
  ·cases h
theorem fields_fz {n : Nat} {cs : List Value} {F : Nat → Prop} : ∀ {l : List (Nat × TypeId)} {off size : Nat}, laidF T off l size = true → cs.length = size →
  (∀ p ∈ l, ∀ tf, T p.2 = some tf → ∃ ds : List D, TyD T n p.2 ds ∧ ds.length = tf.size ∧ ∀ (j : Nat) (x : D) (v : Value), ds[j]? = some x → ((cs.drop p.1).take tf.size)[j]? = some v → Fz w F v x) →
  ∃ ds : List D, ds.length = size - off ∧ (∀ (j : Nat) (x : D) (v : Value), ds[j]? = some x → cs[off + j]? = some v → Fz w F v x) ∧ ∀ p ∈ l, ∀ tf, T p.2 = some tf → off ≤ p.1 ∧ TyD T n p.2 ((ds.drop (p.1 - off)).take tf.size)
 | [], off, size, h, hl, hp => by
  simp only [laidF] at h
  obtain rfl := Nat.eq_of_beq_eq_true h
  exact ⟨[], by simp, fun j x v hj => by simp at hj, fun p hp => by cases hp⟩
 | (o, t) :: r, off, size, h, hl, hp => by
  simp only [laidF] at h
  split at h
  ·rename_i tf htf
   simp only [Bool.and_eq_true] at h
   obtain ⟨h1, h2⟩ := h
   obtain rfl := Nat.eq_of_beq_eq_true h1
   have hle := laidF_le h2
   obtain ⟨d1, q1, q2, q3⟩ := hp (o, t) (by simp) tf htf
   obtain ⟨d2, r1, r2, r3⟩ := fields_fz h2 hl (fun p hp' => hp p (by simp [hp']))
   refine ⟨d1 ++ d2, by simp [q2, r1]; omega, fun j x v hj hv => ?_, fun p hp' tf' htf' => ?_⟩
   ·rw [List.getElem?_append] at hj
    split at hj
    ·rename_i hlt
     refine q3 j x v hj ?_
     rw [List.getElem?_take, if_pos (by omega), List.getElem?_drop]
     exact hv
    ·rename_i hge
     refine r2 (j - d1.length) x v hj ?_
     rw [q2, show o + tf.size + (j - tf.size) = o + j by omega]
     exact hv
   ·rcases List.mem_cons.1 hp' with rfl | hm
    ·rw [htf] at htf'
     cases htf'
     refine ⟨Nat.le_refl _, ?_⟩
     simp only [Nat.sub_self, List.drop_zero]
     rw [List.take_append_of_le_length (by omega), List.take_of_length_le (by omega)]
     exact q1
    ·obtain ⟨g1, g2⟩ := r3 p hm tf' htf'
     refine ⟨by omega, ?_⟩
     rw [List.drop_append, List.drop_of_length_le (by omega), List.nil_append, q2, show p.1 - o - tf.size = p.1 - (o + tf.size) by omega]
     exact g2
  ·cases h
theorem trod_fz (hT : TOk P T) (hp : ∀ t ti, T t = some ti → plainT T ti = true) : ∀ (fuel : Nat) (t : TypeId) (ti : TI) (cs : List Value) (x : DataW H × List MemPlace), T t = some ti → DataW.trod enc P w 0 spare held fuel t cs = some x →
  ∃ ds, TyD T fuel t ds ∧ ds.length = ti.size ∧ cs.length = ti.size ∧ ∀ (j : Nat) (y : D) (v : Value), ds[j]? = some y → cs[j]? = some v → Fz w (· < w.heap.size) v y
 | 0, t, ti, cs, x, _, h => by simp [DataW.trod] at h
 | fuel + 1, t, ti, cs, x, ht, h => by
  have hf := hT t ti ht
  have hpl := hp t ti ht
  have hk := hf.k
  unfold plainT at hpl
  have one : ∀ (d : D) (v : Value), cs = [v] → ti.size = 1 → TyD T (fuel + 1) t [d] → Fz w (· < w.heap.size) v d → ∃ ds, TyD T (fuel + 1) t ds ∧ ds.length = ti.size ∧ cs.length = ti.size ∧ ∀ (j : Nat) (y : D) (v : Value), ds[j]? = some y → cs[j]? = some v → Fz w (· < w.heap.size) v y := fun d v hc h1 hty hfz => by
   refine ⟨[d], hty, by simp [h1], by simp [hc, h1], fun j y u hj hu => ?_⟩
   subst hc
   cases j with
   | zero => simp at hj hu; subst hj; subst hu; exact hfz
   | succ j => simp at hj
  cases hkk : ti.k with
  | int k =>
   rw [hkk] at hk hpl
   obtain ⟨n, hc, _, hw⟩ := DataW.trod_int hk h
   exact one _ _ hc (Nat.eq_of_beq_eq_true hpl) (by simp only [TyD, ht, hkk]; exact ⟨n, rfl, hw⟩) (.int k n)
  | bool =>
   rw [hkk] at hk hpl
   obtain ⟨b, hc, _⟩ := DataW.trod_bool hk h
   exact one _ _ hc (Nat.eq_of_beq_eq_true hpl) (by simp only [TyD, ht, hkk]; exact ⟨b, rfl⟩) (.bool b)
  | str =>
   rw [hkk] at hk hpl
   obtain ⟨s, hc, _, hs⟩ := DataW.trod_string hk h
   exact one _ _ hc (Nat.eq_of_beq_eq_true hpl) (by simp only [TyD, ht, hkk]; exact ⟨s, rfl, hs⟩) (.str s)
  | slice e =>
   rw [hkk] at hk hpl
   simp only [Bool.and_eq_true] at hpl
   obtain ⟨hp1, hp2⟩ := hpl
   split at hp2
   ·rename_i te hte
    have h0 : te.size ≠ 0 := fun e => by rw [e] at hp2; simp at hp2
    have hce : P.cellsOf e = te.size := cellsOf_fits (hT e te hte)
    rcases DataW.trod_slice hk h with ⟨hc, _⟩ | ⟨a, len, cap, elems, rest, n, hn, hc, _, _, hlc, hcm, hel, hi, _⟩
    ·exact one (.sl te.size []) _ hc (Nat.eq_of_beq_eq_true hp1) (by
      simp only [TyD, ht, hkk]
      exact ⟨[], te.size, rfl, by simp, fun te' h' => by rw [hte] at h'; cases h'; rfl, fun c hc => by cases hc⟩)
      (.sl none 0 0 te.size [] (fun _ _ => undef) rfl (Nat.le_refl _) (fun i c hi => by simp at hi) (fun hne => absurd rfl hne) (fun A i c j d hA => by simp at hA) (fun i c j d hi => by simp at hi))
    ·obtain rfl : fuel = n := by omega
     have hex : ∀ i : Nat, ∃ p : List D × List Value, i < len → w.cells? 0 (a.add (i * te.size)) te.size = some p.2 ∧ TyD T fuel e p.1 ∧ p.1.length = te.size ∧ p.2.length = te.size ∧ ∀ (j : Nat) (y : D) (v : Value), p.1[j]? = some y → p.2[j]? = some v → Fz w (· < w.heap.size) v y := fun i => by
      by_cases hil : i < len
      ·have := hi i hil
       rw [hce, List.getElem?_eq_getElem (by omega), Option.bind_eq_some_iff] at this
       obtain ⟨ci, hci, htr⟩ := this
       obtain ⟨dsi, q1, q2, q3, q4⟩ := trod_fz hT hp fuel e te ci _ hte htr
       exact ⟨(dsi, ci), fun _ => ⟨hci, q1, q2, q3, q4⟩⟩
      ·exact ⟨([], []), fun h => absurd h hil⟩
     obtain ⟨f, hff⟩ := Classical.axiomOfChoice hex
     have hget : ∀ (i : Nat) (c : List D), ((List.range len).map fun i => (f i).1)[i]? = some c → i < len ∧ c = (f i).1 := fun i c hi => by
      simp only [List.getElem?_map, Option.map_eq_some_iff] at hi
      obtain ⟨k, hk, rfl⟩ := hi
      obtain ⟨h1, rfl⟩ := List.getElem?_eq_some_iff.1 hk
      simp at h1
      exact ⟨h1, by simp⟩
     have hcell : ∀ (i j : Nat) (c : List D) (d : D), i < len → c = (f i).1 → c[j]? = some d → ∃ v, (f i).2[j]? = some v ∧ w.cell? (a.add (i * te.size + j)) = some v ∧ Fz w (· < w.heap.size) v d := fun i j c d hil hc hj => by
      obtain ⟨q1, q2, q3, q4, q5⟩ := hff i hil
      subst hc
      have hlt : j < (f i).2.length := by rw [q4, ← q3]; exact (List.getElem?_eq_some_iff.1 hj).1
      have hv := List.getElem?_eq_getElem hlt
      refine ⟨_, hv, ?_, q5 j d _ hj hv⟩
      have := (World.cells?_some q1).2.2 j (by omega)
      rw [add_add, hv] at this
      exact this
     refine one (.sl te.size ((List.range len).map fun i => (f i).1)) _ hc (Nat.eq_of_beq_eq_true hp1) (by
      simp only [TyD, ht, hkk]
      refine ⟨_, te.size, rfl, by simp only [List.length_map, List.length_range]; simp only [maxLen] at hcm; omega, fun te' h' => by rw [hte] at h'; cases h'; rfl, fun c hc => ?_⟩
      obtain ⟨i, hi⟩ := List.getElem?_of_mem hc
      obtain ⟨g1, rfl⟩ := hget i c hi
      exact (hff i g1).2.1)
      (.sl (some a) len cap te.size _ (fun i j => (f i).2.getD j undef) (by simp) hlc (fun i c hi => ?_) (fun hne => ?_) (fun A i c j d hA hi hj => ?_) (fun i c j d hi hj => ?_))
     ·obtain ⟨g1, rfl⟩ := hget i c hi
      exact (hff i g1).2.2.1
     ·have hlen : 0 < len := by
       rcases Nat.eq_zero_or_pos len with h | h
       ·subst h; simp at hne
       ·exact h
      obtain ⟨q1, q2, q3, q4, q5⟩ := hff 0 hlen
      obtain ⟨d, hd⟩ : ∃ d, (f 0).1[0]? = some d := ⟨_, List.getElem?_eq_getElem (by omega)⟩
      obtain ⟨v, _, hv, _⟩ := hcell 0 0 _ d hlen rfl hd
      have e0 : a.add (0 * te.size + 0) = a := by simp [Addr.add]
      rw [e0] at hv
      obtain ⟨_, _, _, _, hs⟩ := World.shape?_of_cell? hv
      exact ⟨a, rfl, World.block_lt_of_cell? w a hv, hs⟩
     ·cases hA
      obtain ⟨g1, rfl⟩ := hget i c hi
      obtain ⟨v, h1, h2, _⟩ := hcell i j _ d g1 rfl hj
      rw [h2]
      simp [List.getD, h1]
     ·obtain ⟨g1, rfl⟩ := hget i c hi
      obtain ⟨v, h1, _, h3⟩ := hcell i j _ d g1 rfl hj
      simpa [List.getD, h1] using h3
   ·cases hp2
  | struct fs =>
   rw [hkk] at hk hpl
   obtain ⟨fields, hu, hfs, _⟩ := hk
   obtain ⟨xs, n, hn, _, hlen, hxl, hfi⟩ := DataW.trod_struct hu h
   obtain rfl : fuel = n := by omega
   rw [cellsOf_fits hf] at hlen
   obtain ⟨ds, r1, r2, r3⟩ := fields_fz (w := w) (n := fuel) (F := (· < w.heap.size)) hpl hlen (fun p hpm tf htf => by
    rw [← hfs] at hpm
    obtain ⟨fl, hfl, rfl⟩ := List.mem_map.1 hpm
    obtain ⟨i, hi⟩ := List.getElem?_of_mem hfl
    have hi' : fields[i]? = some fl := by rw [← Array.getElem?_toList]; exact hi
    have := hfi i fl hi'
    have hlt : i < xs.length := by rw [hxl]; exact (Array.getElem?_eq_some_iff.1 hi').1
    rw [List.getElem?_eq_getElem hlt, cellsOf_fits (hT _ tf htf)] at this
    obtain ⟨dsi, q1, q2, q3, q4⟩ := trod_fz hT hp fuel fl.type tf _ _ htf this
    exact ⟨dsi, q1, q2, q4⟩)
   refine ⟨ds, ?_, by rw [r1]; omega, hlen, fun j y v hj hv => r2 j y v hj (by rw [Nat.zero_add]; exact hv)⟩
   simp only [TyD, ht, hkk]
   exact ⟨by rw [r1]; omega, fun p hpm tf htf => by have := (r3 p hpm tf htf).2; simpa using this⟩
  | ptr => rw [hkk] at hpl; cases hpl
  | arr n e => rw [hkk] at hpl; cases hpl
  | other => rw [hkk] at hpl; cases hpl
theorem TyD.int {n : Nat} {t : TypeId} {ti : TI} {k : IntKind} {ds : List D} (h : TyD T n t ds) (ht : T t = some ti) (hk : ti.k = .int k) : ∃ x, ds = [.int k x] ∧ (Lit.int k x).wf = true := by
 cases n with
 | zero => exact h.elim
 | succ n => simp only [TyD, ht, hk] at h; exact h
theorem TyD.bool {n : Nat} {t : TypeId} {ti : TI} {ds : List D} (h : TyD T n t ds) (ht : T t = some ti) (hk : ti.k = .bool) : ∃ b, ds = [.bool b] := by
 cases n with
 | zero => exact h.elim
 | succ n => simp only [TyD, ht, hk] at h; exact h
theorem TyD.str {n : Nat} {t : TypeId} {ti : TI} {ds : List D} (h : TyD T n t ds) (ht : T t = some ti) (hk : ti.k = .str) : ∃ s : ByteArray, ds = [.str s] ∧ s.size ≤ 9223372036854775807 := by
 cases n with
 | zero => exact h.elim
 | succ n => simp only [TyD, ht, hk] at h; exact h
theorem TyD.slice {n : Nat} {t e : TypeId} {ti te : TI} {ds : List D} (h : TyD T n t ds) (ht : T t = some ti) (hk : ti.k = .slice e) (hte : T e = some te) :
  ∃ es, ds = [.sl te.size es] ∧ es.length ≤ 9223372036854775807 ∧ ∀ c ∈ es, ∃ m, TyD T m e c := by
 cases n with
 | zero => exact h.elim
 | succ n =>
  simp only [TyD, ht, hk] at h
  obtain ⟨es, sz, h1, h2, h3, h4⟩ := h
  obtain rfl := h3 te hte
  exact ⟨es, h1, h2, fun c hc => ⟨n, h4 c hc⟩⟩
theorem TyD.struct {n : Nat} {t : TypeId} {ti : TI} {fs : List (Nat × TypeId)} {ds : List D} (h : TyD T n t ds) (ht : T t = some ti) (hk : ti.k = .struct fs) :
  ds.length = ti.size ∧ ∀ f ∈ fs, ∀ tf, T f.2 = some tf → ∃ m, TyD T m f.2 ((ds.drop f.1).take tf.size) := by
 cases n with
 | zero => exact h.elim
 | succ n =>
  simp only [TyD, ht, hk] at h
  exact ⟨h.1, fun f hf tf htf => ⟨n, h.2 f hf tf htf⟩⟩
theorem eL_of {α : Type} {f : α → List D} {ok : α → Prop} : ∀ {es : List (List D)}, (∀ c ∈ es, ∃ x, c = f x ∧ ok x) → ∃ l : List α, es = eL f l ∧ l.length = es.length ∧ ∀ x ∈ l, ok x
 | [], _ => ⟨[], by simp [eL], rfl, fun x h => by cases h⟩
 | c :: r, h => by
  obtain ⟨x, rfl, hx⟩ := h c (by simp)
  obtain ⟨l, rfl, h2, h3⟩ := eL_of (es := r) (fun c hc => h c (by simp [hc]))
  refine ⟨x :: l, by simp [eL], by simp [eL], fun y hy => ?_⟩
  rcases List.mem_cons.1 hy with rfl | hm
  ·exact hx
  ·exact h3 y hm
theorem look_mem {α : Type} : ∀ {l : List (Nat × α)} {n : Nat} {x : α}, look l n = some x → (n, x) ∈ l
 | [], n, x, h => by simp [look] at h
 | (k, y) :: r, n, x, h => by
  simp only [look] at h
  split at h
  ·rename_i hb
   obtain rfl := Nat.eq_of_beq_eq_true hb
   cases h
   simp
  ·exact List.mem_cons_of_mem _ (look_mem h)
theorem plain_tab {tab : List (Nat × TI)} (h : (tab.all fun p => plainT (fun t => look tab t) p.2) = true) : ∀ t ti, look tab t = some ti → plainT (fun t => look tab t) ti = true := fun _ _ hl => List.all_eq_true.1 h _ (look_mem hl)
end
end Go.H
