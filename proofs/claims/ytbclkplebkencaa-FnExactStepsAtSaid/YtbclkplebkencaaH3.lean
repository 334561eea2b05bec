/- Framework H, part 3: the quiet operations are sound. -/
import Derived.Test.YtbclkplebkencaaH2
namespace Go.H
set_option linter.unusedSimpArgs false
set_option linter.unusedVariables false
open Go.RowKit

section
variable {P : Program} {T : TypeId → Option TI} {F0 L : Nat → Prop} {w0 w : World} {st : St} {a : Act} {κ : Con}

theorem beq_iff {a b : Nat} (h : Nat.beq a b = true) : a = b := Nat.eq_of_beq_eq_true h

theorem addr0 (b o j : Nat) : (⟨b, o, none⟩ : Addr).add j = ⟨b, o + j, none⟩ := by unfold Addr.add; split <;> simp_all

/-- The cells of a box. -/
theorem box_cell {id ty : Nat} {cs : List CV} (hr : RepK F0 L w0 st a w κ) (hl : look st.h id = some (.box ty cs)) {j : Nat} {c : CV} (hj : cs[j]? = some c) :
    ∃ u, w.cell? ⟨κ.bl id, j, none⟩ = some u ∧ CVRep w κ st.h c u := by
  obtain ⟨vals, h1, h2, h3⟩ := hr.ents id _ hl
  have hlt : j < vals.length := by rw [h2]; exact (List.getElem?_eq_some_iff.1 hj).1
  refine ⟨vals[j], ?_, h3 j c _ hj (List.getElem?_eq_getElem hlt)⟩
  rw [cell_of_row w _ j _ ty _ h1]
  simp [hlt]

/-- The cells of an own row. -/
theorem arr_cell {id e sz ver : Nat} {own : Bool} {es : List (List D)} (hr : RepK F0 L w0 st a w κ) (hl : look st.h id = some (.arr e sz ver own es))
    {A : Addr} {n cp : Nat} (hv : κ.val id = .slice (some A) n cp) {i j : Nat} {c : List D} {d : D} (hi : es[i]? = some c) (hj : c[j]? = some d) :
    A.spot = none ∧ n = es.length ∧ some A.block = (κ.val id).ownBlock ∧ ∃ u, w.cell? (A.add (i * sz + j)) = some u ∧ Fz w κ.F u d := by
  obtain ⟨xs, ho, hx⟩ := hr.ents id _ hl
  obtain ⟨_, hx2⟩ := hx i c hi
  obtain ⟨u, hu, hd⟩ := hx2 j d hj
  have hne := ho.2
  rcases hne with ⟨h1, _⟩ | ⟨g, cap, cur, h1, _⟩
  · rw [hv] at h1; simp at h1
  · rw [hv] at h1
    obtain ⟨rfl, rfl, rfl⟩ : A = ⟨g, 0, none⟩ ∧ n = es.length ∧ cp = cap := by simpa using h1
    refine ⟨rfl, rfl, by rw [hv]; rfl, u, ?_, hd⟩
    exact ho.cells (by rw [hv]; rfl) _ _ hu

theorem load_sound (hT : TOk P T) {t : TypeId} {ti : TI} (ht : T t = some ti) {av : AV} {K : AV → Prop} (h : loadWp st ti av K)
    {v : Value} (hav : AVRep w κ st.h av v) :
    ∃ r, K r ∧ ∀ F0 L w0 a w κ v, RepK F0 L w0 st a w κ → AVRep w κ st.h av v → ∃ u, (Instr.loadAt t v).run P w = .ok u w ∧ AVRep w κ st.h r u := by
  have hf := hT t ti ht
  unfold loadWp at h
  split at h
  · rename_i cs
    obtain ⟨r, hr, hs⟩ := cells_sound hf h
    refine ⟨r, hr, fun F0 L w0 a w κ v hk hv => ?_⟩
    cases hv with
    | rp A cs val hF hc hs' =>
      obtain ⟨u, h1, h2⟩ := hs w κ st.h A (fun j c hj _ => by
        simp only [List.getElem?_map, Option.map_eq_some_iff] at hj
        obtain ⟨d, hd, rfl⟩ := hj
        exact ⟨_, hc j d hd, hs' j d hd⟩)
      exact ⟨u, by simpa [Instr.loadAt, Instr.sureAddr] using h1, h2⟩
  · rename_i id off
    split at h
    · rename_i ty cs hl
      obtain ⟨r, hr, hs⟩ := cells_sound hf h
      refine ⟨r, hr, fun F0 L w0 a w κ v hk hv => ?_⟩
      obtain ⟨_, rfl⟩ := hv
      obtain ⟨u, h1, h2⟩ := hs w κ st.h ⟨κ.bl id, off, none⟩ (fun j c hj _ => by
        rw [List.getElem?_drop] at hj
        rw [addr0]
        exact box_cell hk hl hj)
      exact ⟨u, by simpa [Instr.loadAt, Instr.sureAddr] using h1, h2⟩
    · exact h.elim
  · rename_i id ver i j
    split at h
    · rename_i e sz vr own es hl
      cases hb : Nat.beq vr ver with
      | false => simp only [hb] at h
      | true =>
        simp only [hb] at h
        have hvv := beq_iff hb
        subst hvv
        obtain ⟨_, _, _, hav⟩ := hav
        obtain ⟨hlt, _⟩ := hav e sz own es hl
        have hc := h es[i] (List.getElem?_eq_getElem hlt)
        obtain ⟨r, hr, hs⟩ := cells_sound hf hc
        refine ⟨r, hr, fun F0 L w0 a w κ v hk hv => ?_⟩
        obtain ⟨_, _, _, hv⟩ := hv
        obtain ⟨_, A, n, cp, hv1, rfl⟩ := hv e sz own es hl
        obtain ⟨u, h1, h2⟩ := hs w κ st.h (A.add (i * sz + j)) (fun k c hk' _ => by
          simp only [List.getElem?_map, Option.map_eq_some_iff] at hk'
          obtain ⟨d, hd, rfl⟩ := hk'
          rw [List.getElem?_drop] at hd
          obtain ⟨_, _, _, u, hu, hd'⟩ := arr_cell hk hl hv1 (List.getElem?_eq_getElem hlt) hd
          refine ⟨u, ?_, hd'⟩
          rw [add_add, Nat.add_assoc]
          exact hu)
        exact ⟨u, by simpa [Instr.loadAt, Instr.sureAddr] using h1, h2⟩
    · exact h.elim
  · exact h.elim

theorem off_fits {t : TypeId} {ti : TI} (h : ti.fits P t) {f off ft : Nat} (ho : offOf ti f = some (off, ft)) :
    ∃ fields : Array Field, P.underlying t = some (.struct fields) ∧ ∃ fd, fields[f]? = some fd ∧ fd.offset = off ∧ fd.type = ft := by
  unfold offOf at ho
  have hk := h.k
  split at ho
  · rename_i fs hfs
    rw [hfs] at hk
    obtain ⟨fields, h1, h2, _⟩ := hk
    refine ⟨fields, h1, ?_⟩
    rw [← h2] at ho
    simp only [List.getElem?_map, Option.map_eq_some_iff] at ho
    obtain ⟨fd, h3, h4⟩ := ho
    simp only [Prod.mk.injEq] at h4
    exact ⟨fd, by simpa using h3, h4.1, h4.2⟩
  · simp at ho

theorem ptrAdd_sound {t : TypeId} {ti tf : TI} (hT : ti.fits P t) {f off ft : Nat} (ho : offOf ti f = some (off, ft)) (hft : tf.fits P ft) (h0 : Nat.beq tf.size 0 = false) {av : AV} {K : AV → Prop} (h : ptrAdd st av off K) :
    ∃ r, K r ∧ ∀ F0 L w0 a w κ v, RepK F0 L w0 st a w κ → AVRep w κ st.h av v → ∃ u, (Instr.fieldAt t v f).run P w = .ok u w ∧ AVRep w κ st.h r u := by
  obtain ⟨fields, hu, fd, hfd, hoff, hty⟩ := off_fits hT ho
  have hne : tf.size ≠ 0 := fun h => by rw [h] at h0; simp at h0
  have hrun : ∀ (w : World) (A : Addr), (Instr.fieldAt t (.pointer (some A)) f).run P w = .ok (.pointer (some (A.add off))) w := by
    intro w A
    have hs : (sizeOf fd.type).run P w = .ok tf.size w := by rw [hty]; exact run_size hft
    simp only [Instr.fieldAt, Sem.run_bind, run_underlying hu, Result.andThen_ok, hfd, Instr.sureAddr, Sem.run_pure, fieldPlace, hs, if_neg hne, hoff]
  unfold ptrAdd at h
  split at h
  · rename_i cs
    refine ⟨_, h, fun F0 L w0 a w κ v hk hv => ?_⟩
    cases hv with
    | rp A cs val hF hc hs =>
      refine ⟨_, hrun w A, .rp (A.add off) _ (fun j => val (off + j)) (fun hne => ?_) (fun j d hj => ?_) (fun j d hj => ?_)⟩
      · have : cs ≠ [] := by intro e; subst e; simp at hne
        exact ⟨by rw [add_block]; exact (hF this).1, add_spot (hF this).2 _⟩
      · rw [List.getElem?_drop] at hj; rw [add_add]; exact hc _ d hj
      · rw [List.getElem?_drop] at hj; exact hs _ d hj
  · rename_i id o
    refine ⟨_, h, fun F0 L w0 a w κ v hk hv => ?_⟩
    obtain ⟨hn, rfl⟩ := hv
    exact ⟨_, hrun w _, hn, by rw [addr0]⟩
  · rename_i id ver i j
    split at h
    · rename_i e sz vr own es hl
      cases hb : Nat.beq vr ver with
      | false => simp only [hb] at h
      | true =>
        simp only [hb] at h
        obtain rfl := beq_iff hb
        refine ⟨_, h, fun F0 L w0 a w κ v hk hv => ?_⟩
        obtain ⟨hn, _, _, hv⟩ := hv
        obtain ⟨hlt, B, n, c, hB, rfl⟩ := hv e sz own es hl
        refine ⟨_, hrun w _, hn, rfl, rfl, fun e' sz' own' es' hl' => ?_⟩
        rw [hl] at hl'
        cases hl'
        exact ⟨hlt, B, n, c, hB, by rw [add_add, Nat.add_assoc]⟩
    · exact h.elim
  · exact h.elim

theorem index_sound (hT : TOk P T) {t : TypeId} {x i : AV} {K : AV → Prop} (h : indexWp T st t x i K) :
    ∃ r, K r ∧ ∀ F0 L w0 a w κ vx vi, RepK F0 L w0 st a w κ → AVRep w κ st.h x vx → AVRep w κ st.h i vi → ∃ u, (Instr.indexAt t vx vi).run P w = .ok u w ∧ AVRep w κ st.h r u := by
  unfold indexWp at h
  split at h
  · rename_i ti k n hti
    have hk := (hT t ti hti).k
    split at h
    · -- read-only slice
      rename_i e sz es hke
      split at h
      · rename_i te hte
        cases hb : Nat.beq te.size sz with
        | false => simp only [hb] at h
        | true =>
          simp only [hb] at h
          obtain rfl := beq_iff hb
          obtain ⟨⟨h0, hlt⟩, h⟩ := h
          have hlt' : n.toNat < es.length := by omega
          refine ⟨_, h _ (List.getElem?_eq_getElem hlt'), fun F0 L w0 a w κ vx vi hr hx hi => ?_⟩
          cases hi
          rw [hke] at hk
          cases hx with
          | sl A len cap sz es val hl hc he ha hrd hs =>
            have hne : es ≠ [] := by intro e; subst e; simp at hlt'
            obtain ⟨A, rfl, hF, hsp⟩ := ha hne
            have hz := run_size (w := w) (hT e te hte)
            refine ⟨.pointer (some (A.add (n.toNat * te.size))), ?_, .rp _ _ (fun j => val n.toNat j) (fun _ => ⟨by rw [add_block]; exact hF, add_spot hsp _⟩) (fun j d hj => ?_) (fun j d hj => ?_)⟩
            · have hlen : n < len := by rw [hl]; exact hlt
              simp only [Instr.indexAt, asIntOf, Sem.run_bind, Sem.run_pure, Result.andThen_ok, run_underlying (h := hk), h0, hlen, and_self, if_true, hz]
            · rw [add_add]; exact hrd A n.toNat _ j d rfl (List.getElem?_eq_getElem hlt') hj
            · exact hs n.toNat _ j d (List.getElem?_eq_getElem hlt') hj
      · exact h.elim
    · -- own row
      rename_i e id ver s hke
      split at h
      · rename_i te x sz vr own es hte hl
        cases hb : Nat.beq te.size sz with
        | false => simp only [hb] at h
        | true =>
          cases hb2 : Nat.beq vr ver with
          | false => simp only [hb, hb2] at h
          | true =>
            simp only [hb, hb2] at h
            obtain rfl := beq_iff hb
            obtain rfl := beq_iff hb2
            obtain ⟨⟨h0, hlt⟩, h⟩ := h
            refine ⟨_, h, fun F0 L w0 a w κ vx vi hr hx hi => ?_⟩
            cases hi
            rw [hke] at hk
            obtain ⟨hn, _, _, hx⟩ := hx
            obtain ⟨hle, ba, bn, bc, a', c', hv, rfl, hc', ha', _⟩ := hx _ _ _ _ hl
            have hz := run_size (w := w) (hT e te hte)
            have hlen0 : lenR es s ≠ 0 := by omega
            obtain ⟨xs, ho, _⟩ := hr.ents id _ hl
            rcases ho.2 with ⟨h1, h2⟩ | ⟨g, cap, cur, h1, _⟩
            · omega
            · rw [hv] at h1
              obtain ⟨rfl, rfl, rfl⟩ : ba = some ⟨g, 0, none⟩ ∧ bn = es.length ∧ bc = cap := by simpa using h1
              obtain rfl := ha' hlen0
              refine ⟨.pointer (some ((⟨g, 0, none⟩ : Addr).add (offR s * te.size) |>.add (n.toNat * te.size))), ?_, hn, rfl, rfl, fun e' sz' own' es' hl' => ?_⟩
              · simp only [Instr.indexAt, asIntOf, Sem.run_bind, Sem.run_pure, Result.andThen_ok, run_underlying (h := hk), h0, hlt, and_self, if_true, hz, Option.map_some]
              · rw [hl] at hl'
                cases hl'
                exact ⟨by omega, _, _, _, hv, by rw [add_add]; congr 2; rw [Nat.add_mul]; rfl⟩
      · exact h.elim
    · -- an array in a box
      rename_i m e id o hke
      split at h
      · rename_i te hte
        obtain ⟨⟨h0, hlt⟩, h⟩ := h
        refine ⟨_, h, fun F0 L w0 a w κ vx vi hr hx hi => ?_⟩
        cases hi
        rw [hke] at hk
        obtain ⟨hn, rfl⟩ := hx
        have hz := run_size (w := w) (hT e te hte)
        refine ⟨_, ?_, hn, rfl⟩
        simp only [Instr.indexAt, asIntOf, Sem.run_bind, Sem.run_pure, Result.andThen_ok, run_underlying (h := hk), Instr.sureAddr, h0, hlt, and_self, if_true, hz, addr0]
      · exact h.elim
    · -- an array behind a read-only pointer
      rename_i m e cs hke
      split at h
      · rename_i te hte
        obtain ⟨⟨h0, hlt⟩, h⟩ := h
        refine ⟨_, h, fun F0 L w0 a w κ vx vi hr hx hi => ?_⟩
        cases hi
        rw [hke] at hk
        have hz := run_size (w := w) (hT e te hte)
        cases hx with
        | rp A cs val hF hc hs =>
          refine ⟨.pointer (some (A.add (n.toNat * te.size))), ?_, .rp _ _ (fun j => val (n.toNat * te.size + j)) (fun hne => ?_) (fun j d hj => ?_) (fun j d hj => ?_)⟩
          · simp only [Instr.indexAt, asIntOf, Sem.run_bind, Sem.run_pure, Result.andThen_ok, run_underlying (h := hk), Instr.sureAddr, h0, hlt, and_self, if_true, hz]
          · have : cs ≠ [] := by intro e; subst e; simp at hne
            exact ⟨by rw [add_block]; exact (hF this).1, add_spot (hF this).2 _⟩
          · rw [List.getElem?_drop] at hj; rw [add_add]; exact hc _ d hj
          · rw [List.getElem?_drop] at hj; exact hs _ d hj
      · exact h.elim
    · exact h.elim
  · exact h.elim

end
end Go.H
