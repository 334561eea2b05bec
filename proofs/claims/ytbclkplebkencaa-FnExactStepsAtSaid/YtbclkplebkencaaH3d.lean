/- Framework H, part 3d: conversions, an index; the quiet operations together. -/
import Derived.Test.YtbclkplebkencaaH3c
import Derived.Laws.IdiomStrings
namespace Go.H
set_option linter.unusedSimpArgs false
set_option linter.unusedVariables false
open Go.RowKit

section
variable {P : Program} {T : TypeId → Option TI} {F0 L : Nat → Prop} {w0 w : World} {st : St} {a : Act} {κ : Con}

theorem bytes_back (s : ByteArray) : ((s.data.toList.map fun b => (b.toNat : Int)).foldl (fun r n => r.push (UInt8.ofNat n.toNat)) ByteArray.empty) = s := by
  rw [foldl_push_byteCells]
  have he0 : ByteArray.empty.data = #[] := rfl
  rw [he0]
  apply ByteArray.ext
  simp

/-- The string of a slice of bytes. -/
theorem run_toString {src dst e : TypeId} (hs : P.underlying src = some (.slice e)) (he : P.underlying e = some (.int .u8)) (hd : P.underlying dst = some .string) {a : Option Addr} {len cap : Nat} {s : ByteArray} {w : World}
    (hl : len = s.size) (ha : s.size ≠ 0 → ∃ A, a = some A ∧ ∀ (i : Nat) (b : UInt8), s.data.toList[i]? = some b → w.cell? (A.add i) = some (.int .u8 b.toNat)) :
    (convert src dst (.slice a len cap)).run P w = .ok (.string s) w := by
  rw [run_convert_bytes_string w src dst e a len cap hs he hd]
  cases a with
  | none =>
    have h0 : s.size = 0 := by
      rcases Nat.eq_zero_or_pos s.size with h | h
      · exact h
      · obtain ⟨A, hA, _⟩ := ha (by omega); simp at hA
    have : s = ByteArray.empty := by
      apply ByteArray.ext; exact Array.eq_empty_of_size_eq_zero h0
    subst this
    simp [Conv.bytesToString]
  | some A =>
    have hload : (loadCells A len).run P w = .ok ((s.data.toList.map fun b => (b.toNat : Int)).map (Value.int .u8)).toArray w := by
      have hc := run_loadCells_list (P := P) w A ((s.data.toList.map fun b => (b.toNat : Int)).map (Value.int .u8)) (fun j v hv => by
        simp only [List.map_map, List.getElem?_map, Option.map_eq_some_iff] at hv
        obtain ⟨b, hb, rfl⟩ := hv
        have hne : s.size ≠ 0 := by
          have := (List.getElem?_eq_some_iff.1 hb).1
          simp at this
          have h2 : s.size = s.data.size := rfl
          omega
        obtain ⟨A', hA, hr⟩ := ha hne
        cases hA
        exact hr j b hb)
      have e : ((s.data.toList.map fun b => (b.toNat : Int)).map (Value.int .u8)).length = len := by simp [hl]
      rwa [e] at hc
    rw [run_bytesToString w A len cap _ hload, bytes_back]

theorem encB_length (s : ByteArray) : (encB s).length = s.size := by simp [encB]

theorem conv_sound (hT : TOk P T) {src dst : TypeId} {x : AV} {K : D → Prop} (h : convWp T st src dst x K) :
    ∃ d, K d ∧ ∀ (F0 L : Nat → Prop) (w0 : World) (a : Act) (w : World) (κ : Con) vx, RepK F0 L w0 st a w κ → AVRep w κ st.h x vx → ∃ v, (convert src dst vx).run P w = .ok v w ∧ Fz w κ.F v d := by
  unfold convWp at h
  split at h
  · rename_i si di x hsi hdi
    have hks := (hT _ _ hsi).k
    have hkd := (hT _ _ hdi).k
    split at h
    · rename_i k0 k k1 n hk1 hk2
      rw [hk1] at hks
      rw [hk2] at hkd
      refine ⟨_, h, fun F0 L w0 a w κ vx hr hx => ?_⟩
      cases hx
      exact ⟨_, by simp only [convert, Sem.run_bind, run_underlying (h := hks), run_underlying (h := hkd), Result.andThen_ok, Conv.intToInt, Sem.run_pure], .int _ _⟩
    · rename_i s hk1 hk2
      rw [hk1] at hks
      rw [hk2] at hkd
      refine ⟨_, h, fun F0 L w0 a w κ vx hr hx => ?_⟩
      cases hx
      exact ⟨_, by simp only [convert, Sem.run_bind, run_underlying (h := hks), run_underlying (h := hkd), Result.andThen_ok, Sem.run_pure], .str _⟩
    · rename_i e es hk1 hk2
      rw [hk1] at hks
      rw [hk2] at hkd
      split at h
      · rename_i te hte
        have hke := (hT _ _ hte).k
        split at h
        · rename_i hk3
          rw [hk3] at hke
          obtain ⟨s, rfl, h⟩ := h
          refine ⟨_, h, fun F0 L w0 a w κ vx hr hx => ?_⟩
          cases hx with
          | sl A len cap sz es val hl hc he ha hrd hs =>
            refine ⟨.string s, run_toString hks hke hkd (by rw [hl, encB_length]) (fun hne => ?_), .str _⟩
            have : encB s ≠ [] := by intro e; have := encB_length s; rw [e] at this; simp at this; omega
            obtain ⟨A, rfl, _, _⟩ := ha this
            refine ⟨A, rfl, fun i b hb => ?_⟩
            have hi : (encB s)[i]? = some [.int .u8 b.toNat] := by simp only [encB, List.getElem?_map, hb, Option.map_some]
            have h1 := hrd A i _ 0 _ rfl hi rfl
            have h2 := hs i _ 0 _ hi rfl
            rw [Nat.mul_one, Nat.add_zero] at h1
            rw [h1]
            generalize val i 0 = q at h2
            cases h2
            rfl
        · exact h.elim
      · exact h.elim
    · rename_i e id ver r hk1 hk2
      rw [hk1] at hks
      rw [hk2] at hkd
      split at h
      · rename_i te e' v own es hte hlk
        have hke := (hT _ _ hte).k
        split at h
        · rename_i hk3 hb
          rw [hk3] at hke
          obtain rfl := beq_iff hb
          obtain ⟨s, hes, h⟩ := h
          refine ⟨_, h, fun F0 L w0 a w κ vx hr hx => ?_⟩
          obtain ⟨_, _, _, hx⟩ := hx
          obtain ⟨hle, ba, bn, bc, a', c', hv, rfl, hc', ha', _⟩ := hx _ _ _ _ hlk
          have hlen : lenR es r = s.size := by
            have := congrArg List.length hes
            rw [encB_length] at this
            simp at this; omega
          refine ⟨.string s, run_toString hks hke hkd hlen (fun hne => ?_), .str _⟩
          obtain ⟨xs, ho, _⟩ := hr.ents id _ hlk
          rcases ho.2 with ⟨h1, h2⟩ | ⟨g, cap, cur, h1, _⟩
          · omega
          · rw [hv] at h1
            obtain ⟨rfl, rfl, rfl⟩ : ba = some ⟨g, 0, none⟩ ∧ bn = es.length ∧ bc = cap := by simpa using h1
            obtain rfl := ha' (by omega)
            refine ⟨_, rfl, fun i b hb' => ?_⟩
            have hi : ((es.drop (offR r)).take (lenR es r))[i]? = some [.int .u8 b.toNat] := by rw [hes]; simp only [encB, List.getElem?_map, hb', Option.map_some]
            rw [List.getElem?_take, List.getElem?_drop] at hi
            split at hi
            · obtain ⟨_, _, _, u, hu, hd'⟩ := arr_cell hr hlk hv hi (j := 0) rfl
              rw [add_add, Nat.mul_one]
              rw [Nat.mul_one, Nat.add_zero] at hu
              rw [hu]
              cases hd'
              rfl
            · simp at hi
        · exact h.elim
      · exact h.elim
    · rename_i e _ hk1 hk2
      rw [hk1] at hks
      rw [hk2] at hkd
      split at h
      · rename_i te hte
        have hke := (hT _ _ hte).k
        split at h
        · rename_i hk3
          rw [hk3] at hke
          refine ⟨_, h, fun F0 L w0 a w κ vx hr hx => ?_⟩
          cases hx
          exact ⟨_, run_toString hks hke hkd rfl (fun hne => absurd rfl hne), .str _⟩
        · exact h.elim
      · exact h.elim
    · exact h.elim
  · exact h.elim

theorem idx_sound (hT : TOk P T) {t : TypeId} {x i : AV} {K : CV → Prop} (h : idxWp T t x i K) :
    ∃ r, K r ∧ ∀ (w : World) (κ : Con) (hh : List (Nat × Ent)) vx vi, AVRep w κ hh x vx → AVRep w κ hh i vi → ∃ v, (Instr.index t vx vi).run P w = .ok v w ∧ CVRep w κ hh r v := by
  unfold idxWp at h
  split at h
  · rename_i ti s k n hti
    have hk := (hT _ _ hti).k
    split at h
    · rename_i hke
      rw [hke] at hk
      obtain ⟨⟨h0, h1⟩, h⟩ := h
      have hlt : n.toNat < s.data.toList.length := by simp; have : s.size = s.data.size := rfl; omega
      refine ⟨_, h _ (List.getElem?_eq_getElem hlt), fun w κ hh vx vi hx hi => ?_⟩
      cases hx; cases hi
      refine ⟨_, ?_, .int _ _⟩
      have hs : s[n.toNat]? = some (s.data.toList[n.toNat]'hlt) := by
        have h2 : n.toNat < s.size := by omega
        rw [getElem?_pos s n.toNat h2]
        rfl
      simp only [Instr.index, asIntOf, Sem.run_bind, Sem.run_pure, Result.andThen_ok, run_underlying (h := hk), h0, if_true, hs]
    · exact h.elim
  · rename_i ti cs k n hti
    have hk := (hT _ _ hti).k
    split at h
    · rename_i m e hke
      rw [hke] at hk
      split at h
      · rename_i te hte
        split at h
        · rename_i hg hb1 hb2
          have hs1 := beq_iff hb1
          have hle := Nat.le_of_ble_eq_true hb2
          obtain ⟨⟨h0, h1⟩, h⟩ := h
          have hlt : n.toNat < cs.length := by omega
          refine ⟨_, h _ (List.getElem?_eq_getElem hlt), fun w κ hh vx vi hx hi => ?_⟩
          obtain ⟨us, rfl, hus⟩ := hx
          cases hi
          have hff := hT _ _ hte
          obtain ⟨v, hp, hv⟩ := part_sound hff hus (off := n.toNat * te.size) (by rw [hs1]; omega)
          refine ⟨v, ?_, ?_⟩
          · simp only [Instr.index, asIntOf, Sem.run_bind, Sem.run_pure, Result.andThen_ok, run_underlying (h := hk), h0, h1, and_self, if_true, run_size hff, hp]
          · simp only [ValOf, hg, Bool.false_eq_true, if_false] at hv
            have e : (cs.drop (n.toNat * te.size)).take te.size = [cs[n.toNat]] := by
              rw [hs1, Nat.mul_one, List.take_one, List.head?_drop, List.getElem?_eq_getElem hlt]
              rfl
            rw [e] at hv
            exact CVs.one hv
        · exact h.elim
      · exact h.elim
    · exact h.elim
  · exact h.elim

end
end Go.H
