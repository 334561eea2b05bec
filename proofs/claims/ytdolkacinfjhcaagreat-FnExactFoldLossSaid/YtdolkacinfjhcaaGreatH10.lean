/- Framework H, part 3d: conversions, an index; the quiet operations together. -/
import Derived.Test.YtdolkacinfjhcaaGreatH3c
import Derived.Laws.IdiomStrings
import Derived.Laws.Tables
import Derived.Great.BuildSlice
set_option linter.unusedSimpArgs false
set_option linter.unusedVariables false
set_option linter.constructorNameAsVariable false
namespace Go.H
open Go.RowKit
section
variable {P : Program} {T : TypeId → Option TI} {F0 L : Nat → Prop} {w0 w : World} {st : St} {a : Act} {κ : Con}
theorem bytes_back (s : ByteArray) : ((s.data.toList.map fun b => (b.toNat : Int)).foldl (fun r n => r.push (UInt8.ofNat n.toNat)) ByteArray.empty) = s := by
 rw [foldl_push_byteCells]
 have he0 : ByteArray.empty.data = #[] := rfl
 rw [he0]
 apply ByteArray.ext
 simp
theorem run_toString {src dst e : TypeId} (hs : P.underlying src = some (.slice e)) (he : P.underlying e = some (.int .u8)) (hd : P.underlying dst = some .string) {a : Option Addr} {len cap : Nat} {s : ByteArray} {w : World}
  (hl : len = s.size) (ha : s.size ≠ 0 → ∃ A, a = some A ∧ ∀ (i : Nat) (b : UInt8), s.data.toList[i]? = some b → w.cell? (A.add i) = some (.int .u8 b.toNat)) :
  (convert src dst (.slice a len cap)).run P w = .ok (.string s) w := by
 rw [run_convert_bytes_string w src dst e a len cap hs he hd]
 cases a with
 | none =>
  have h0 : s.size = 0 := by
   rcases Nat.eq_zero_or_pos s.size with h | h
   ·exact h
   ·obtain ⟨A, hA, _⟩ := ha (by omega); simp at hA
  have : s = ByteArray.empty := by
   apply ByteArray.ext; exact Array.eq_empty_of_size_eq_zero h0
  subst this
  simp [Conv.bytesToString]
 | some A =>
  have hload : (loadCells A len).run P w = .ok ((s.data.toList.map fun b => (b.toNat : Int)).map (Value.int .u8)).toArray w := by
   have hc := run_loadCells_list (P := P) w A ((s.data.toList.map fun b => (b.toNat : Int)).map (Value.int .u8)) (fun j v hv => by
    simp only [List.map_map, List.getElem?_map, Option.map_eq_some_iff] at hv
    obtain ⟨b, hb, rfl⟩ := hv
    have hne : s.size ≠ 0 := by
     have := (List.getElem?_eq_some_iff.1 hb).1
     simp at this
     have h2 : s.size = s.data.size := rfl
     omega
    obtain ⟨A', hA, hr⟩ := ha hne
    cases hA
    exact hr j b hb)
   have e : ((s.data.toList.map fun b => (b.toNat : Int)).map (Value.int .u8)).length = len := by simp [hl]
   rwa [e] at hc
  rw [run_bytesToString w A len cap _ hload, bytes_back]
theorem encB_length (s : ByteArray) : (encB s).length = s.size := by simp [encB]
theorem conv_sound (hT : TOk P T) {src dst : TypeId} {x : AV} {K : D → Prop} (h : convWp T st src dst x K) :
  ∃ d, K d ∧ ∀ (F0 L : Nat → Prop) (w0 : World) (a : Act) (w : World) (κ : Con) vx, RepK F0 L w0 st a w κ → AVRep w κ st.h x vx → ∃ v, (convert src dst vx).run P w = .ok v w ∧ Fz w κ.F v d := by
 unfold convWp at h
 split at h
 ·rename_i si di x hsi hdi
  have hks := (hT _ _ hsi).k
  have hkd := (hT _ _ hdi).k
  split at h
  ·rename_i k0 k k1 n hk1 hk2
   rw [hk1] at hks
   rw [hk2] at hkd
   refine ⟨_, h, fun F0 L w0 a w κ vx hr hx => ?_⟩
   cases hx
   exact ⟨_, by simp only [convert, Sem.run_bind, run_underlying (h := hks), run_underlying (h := hkd), Result.andThen_ok, Conv.intToInt, Sem.run_pure], .int _ _⟩
  ·rename_i s hk1 hk2
   rw [hk1] at hks
   rw [hk2] at hkd
   refine ⟨_, h, fun F0 L w0 a w κ vx hr hx => ?_⟩
   cases hx
   exact ⟨_, by simp only [convert, Sem.run_bind, run_underlying (h := hks), run_underlying (h := hkd), Result.andThen_ok, Sem.run_pure], .str _⟩
  ·rename_i e es hk1 hk2
   rw [hk1] at hks
   rw [hk2] at hkd
   split at h
   ·rename_i te hte
    have hke := (hT _ _ hte).k
    split at h
    ·rename_i hk3
     rw [hk3] at hke
     obtain ⟨s, rfl, h⟩ := h
     refine ⟨_, h, fun F0 L w0 a w κ vx hr hx => ?_⟩
     cases hx with
     | sl A len cap sz es val hl hc he ha hrd hs =>
      refine ⟨.string s, run_toString hks hke hkd (by rw [hl, encB_length]) (fun hne => ?_), .str _⟩
      have : encB s ≠ [] := by intro e; have := encB_length s; rw [e] at this; simp at this; omega
      obtain ⟨A, rfl, _, _⟩ := ha this
      refine ⟨A, rfl, fun i b hb => ?_⟩
      have hi : (encB s)[i]? = some [.int .u8 b.toNat] := by simp only [encB, List.getElem?_map, hb, Option.map_some]
      have h1 := hrd A i _ 0 _ rfl hi rfl
      have h2 := hs i _ 0 _ hi rfl
      rw [Nat.mul_one, Nat.add_zero] at h1
      rw [h1]
      generalize val i 0 = q at h2
      cases h2
      rfl
    ·exact h.elim
   ·exact h.elim
  ·rename_i e id ver r hk1 hk2
   rw [hk1] at hks
   rw [hk2] at hkd
   split at h
   ·rename_i te e' v own es hte hlk
    have hke := (hT _ _ hte).k
    split at h
    ·rename_i hk3 hb hns
     rw [hk3] at hke
     obtain rfl := beq_iff hb
     obtain ⟨s, hes, h⟩ := h
     refine ⟨_, h, fun F0 L w0 a w κ vx hr hx => ?_⟩
     obtain ⟨_, _, _, hx⟩ := hx
     obtain ⟨hle, ba, bn, bc, a', c', hv, rfl, hc', ha', _⟩ := hx _ _ _ _ hlk
     have hlen : lenR es r = s.size := by
      have := congrArg List.length hes
      rw [encB_length] at this
      simp at this; omega
     refine ⟨.string s, run_toString hks hke hkd hlen (fun hne => ?_), .str _⟩
     obtain ⟨xs, ho, _⟩ := (hr.ents id _ hlk).plain hns
     rcases ho.2 with ⟨h1, h2⟩ | ⟨g, cap, cur, h1, _⟩
     ·omega
     ·rw [hv] at h1
      obtain ⟨rfl, rfl, rfl⟩ : ba = some ⟨g, 0, none⟩ ∧ bn = es.length ∧ bc = cap := by simpa using h1
      obtain rfl := ha' (by omega)
      refine ⟨_, rfl, fun i b hb' => ?_⟩
      have hi : ((es.drop (offR r)).take (lenR es r))[i]? = some [.int .u8 b.toNat] := by rw [hes]; simp only [encB, List.getElem?_map, hb', Option.map_some]
      rw [List.getElem?_take, List.getElem?_drop] at hi
      split at hi
      ·obtain ⟨_, _, _, u, hu, hd'⟩ := arr_cell hr hlk hns hv hi (j := 0) rfl
       rw [add_add, Nat.mul_one]
       rw [Nat.mul_one, Nat.add_zero] at hu
       rw [hu]
       cases hd'
       rfl
      ·simp at hi
    ·exact h.elim
   ·exact h.elim
  ·rename_i e _ hk1 hk2
   rw [hk1] at hks
   rw [hk2] at hkd
   split at h
   ·rename_i te hte
    have hke := (hT _ _ hte).k
    split at h
    ·rename_i hk3
     rw [hk3] at hke
     refine ⟨_, h, fun F0 L w0 a w κ vx hr hx => ?_⟩
     cases hx
     exact ⟨_, run_toString hks hke hkd rfl (fun hne => absurd rfl hne), .str _⟩
    ·exact h.elim
   ·exact h.elim
  ·exact h.elim
 ·exact h.elim
theorem idx_sound (hT : TOk P T) {t : TypeId} {x i : AV} {K : CV → Prop} (h : idxWp T t x i K) :
  ∃ r, K r ∧ ∀ (w : World) (κ : Con) (hh : List (Nat × Ent)) vx vi, AVRep w κ hh x vx → AVRep w κ hh i vi → ∃ v, (Instr.index t vx vi).run P w = .ok v w ∧ CVRep w κ hh r v := by
 unfold idxWp at h
 split at h
 ·rename_i ti s k n hti
  have hk := (hT _ _ hti).k
  split at h
  ·rename_i hke
   rw [hke] at hk
   obtain ⟨⟨h0, h1⟩, h⟩ := h
   have hlt : n.toNat < s.data.toList.length := by simp; have : s.size = s.data.size := rfl; omega
   refine ⟨_, h _ (List.getElem?_eq_getElem hlt), fun w κ hh vx vi hx hi => ?_⟩
   cases hx; cases hi
   refine ⟨_, ?_, .int _ _⟩
   have hs : s[n.toNat]? = some (s.data.toList[n.toNat]'hlt) := by
    have h2 : n.toNat < s.size := by omega
    rw [getElem?_pos s n.toNat h2]
    rfl
   simp only [Instr.index, asIntOf, Sem.run_bind, Sem.run_pure, Result.andThen_ok, run_underlying (h := hk), h0, if_true, hs]
  ·exact h.elim
 ·rename_i ti cs k n hti
  have hk := (hT _ _ hti).k
  split at h
  ·rename_i m e hke
   rw [hke] at hk
   split at h
   ·rename_i te hte
    split at h
    ·rename_i hg hb1 hb2
     have hs1 := beq_iff hb1
     have hle := Nat.le_of_ble_eq_true hb2
     obtain ⟨⟨h0, h1⟩, h⟩ := h
     have hlt : n.toNat < cs.length := by omega
     refine ⟨_, h _ (List.getElem?_eq_getElem hlt), fun w κ hh vx vi hx hi => ?_⟩
     obtain ⟨us, rfl, hus⟩ := hx
     cases hi
     have hff := hT _ _ hte
     obtain ⟨v, hp, hv⟩ := part_sound hff hus (off := n.toNat * te.size) (by rw [hs1]; omega)
     refine ⟨v, ?_, ?_⟩
     ·simp only [Instr.index, asIntOf, Sem.run_bind, Sem.run_pure, Result.andThen_ok, run_underlying (h := hk), h0, h1, and_self, if_true, run_size hff, hp]
     ·simp only [ValOf, hg, Bool.false_eq_true, if_false] at hv
      have e : (cs.drop (n.toNat * te.size)).take te.size = [cs[n.toNat]] := by
       rw [hs1, Nat.mul_one, List.take_one, List.head?_drop, List.getElem?_eq_getElem hlt]
       rfl
      rw [e] at hv
      exact CVs.one hv
    ·exact h.elim
   ·exact h.elim
  ·exact h.elim
 ·exact h.elim
end
end Go.H
namespace Go.H
open Go.RowKit
section
variable {P : Program} {T : TypeId → Option TI} {st : St}
theorem caps_sound {F0 L : Nat → Prop} {w0 w : World} {a : Act} {κ : Con} (hr : RepK F0 L w0 st a w κ) : ∀ (l : List Operand) (caps : List (Nat × Nat)),
  l.mapM (fun x => match evO st x with | .c (.ptr id off) => some (id, off) | _ => none) = some caps → (∀ p ∈ caps, p.1 < κ.n) ∧ l.map a.eval = caps.map fun p => Value.pointer (some ⟨κ.bl p.1, p.2, none⟩)
 | [], caps, h => by simp at h; subst h; exact ⟨fun p hp => (by cases hp), rfl⟩
 | x :: l, caps, h => by
  simp only [List.mapM_cons, bind, Option.bind_eq_some_iff, pure, Option.some.injEq] at h
  obtain ⟨p, hp, r, hl, rfl⟩ := h
  have := evO_rep hr x
  split at hp
  ·rename_i id off he
   rw [he] at this
   simp only [Option.some.injEq] at hp
   subst hp
   obtain ⟨h1, h2⟩ := caps_sound hr l r hl
   refine ⟨fun p hp => ?_, ?_⟩
   ·cases hp with
    | head => exact this.1
    | tail _ hp => exact h1 p hp
   ·simp only [List.map_cons, h2]
    congr 1
    exact this.2
  ·simp at hp
theorem dcap_sound {F0 L : Nat → Prop} {w0 w : World} {a : Act} {κ : Con} (hr : RepK F0 L w0 st a w κ) : ∀ (l : List Operand) (ds : List D),
  l.mapM (fun x => match evO st x with | .c (.d d) => some d | _ => none) = some ds → (l.map a.eval).length = ds.length ∧ ∀ (i : Nat) (d : D) (u : Value), ds[i]? = some d → (l.map a.eval)[i]? = some u → Fz w κ.F u d
 | [], ds, h => by simp at h; subst h; exact ⟨rfl, fun i d u h => by simp at h⟩
 | x :: l, ds, h => by
  simp only [List.mapM_cons, bind, Option.bind_eq_some_iff, pure, Option.some.injEq] at h
  obtain ⟨p, hp, r, hl, rfl⟩ := h
  have := evO_rep hr x
  split at hp
  ·rename_i d he
   rw [he] at this
   simp only [Option.some.injEq] at hp
   subst hp
   obtain ⟨h1, h2⟩ := dcap_sound hr l r hl
   refine ⟨by simp only [List.map_cons, List.length_cons, h1], fun i d' u hd hu => ?_⟩
   cases i with
   | zero => simp at hd hu; subst hd; subst hu; exact this
   | succ i => exact h2 i d' u (by simpa using hd) (by simpa using hu)
  ·simp at hp
theorem q_sound (hT : TOk P T) {o : Op} {K : AV → Prop} (h : qWp T st o K) (hrep : ∃ F0 L w0 a w κ, RepK F0 L w0 st a w κ) : ∃ r, K r ∧ QY P st o r := by
 obtain ⟨F00, L00, w00, a00, w1, κ0, hrep⟩ := hrep
 unfold qWp at h
 split at h
 ·rename_i x
  refine ⟨_, h, fun F0 L w0 a w κ o ho hr => ⟨_, ?_, evO_rep hr x⟩⟩
  simp only [execOp, ho]; rfl
 ·rename_i x
  refine ⟨_, h, fun F0 L w0 a w κ o ho hr => ⟨_, ?_, evO_rep hr x⟩⟩
  simp only [execOp, ho]; rfl
 ·rename_i c x y
  split at h
  ·rename_i t hc
   cases t with
   | true =>
    refine ⟨_, h.1 rfl, fun F0 L w0 a w κ o ho hr => ⟨_, ?_, evO_rep hr x⟩⟩
    have := evO_rep hr c
    rw [hc] at this
    generalize hq : a.eval c = q at this
    cases this
    simp [execOp, ho, hq, asBool]
   | false =>
    refine ⟨_, h.2 rfl, fun F0 L w0 a w κ o ho hr => ⟨_, ?_, evO_rep hr y⟩⟩
    have := evO_rep hr c
    rw [hc] at this
    generalize hq : a.eval c = q at this
    cases this
    simp [execOp, ho, hq, asBool]
  ·exact h.elim
 ·rename_i t x
  split at h
  ·rename_i ti hti
   obtain ⟨r, hr, hs⟩ := load_sound hT hti h (evO_rep hrep x)
   refine ⟨r, hr, fun F0 L w0 a w κ o ho hk => ?_⟩
   obtain ⟨u, h1, h2⟩ := hs F0 L w0 a w κ _ hk (evO_rep hk x)
   exact ⟨u, by simp only [execOp, ho, Sem.run_bind, h1, Result.andThen_ok, Sem.run_pure], h2⟩
  ·exact h.elim
 ·rename_i x
  split at h
  ·rename_i cs he
   refine ⟨_, h, fun F0 L w0 a w κ o ho hr => ?_⟩
   have := evO_rep hr x
   rw [he] at this
   generalize hq : a.eval x = q at this
   cases this with
   | rp A cs val hF hc hs => exact ⟨_, by simp only [execOp, ho, hq, Sem.run_pure], .rp A cs val hF hc hs⟩
  ·rename_i id off he
   refine ⟨_, h, fun F0 L w0 a w κ o ho hr => ?_⟩
   have := evO_rep hr x
   rw [he] at this
   generalize hq : a.eval x = q at this
   obtain ⟨hn, rfl⟩ := this
   exact ⟨_, by simp only [execOp, ho, hq, Sem.run_pure], hn, rfl⟩
  ·exact h.elim
 ·rename_i s x f
  split at h
  ·rename_i ti hti
   split at h
   ·rename_i off ft hof
    split at h
    ·rename_i tf htf
     split at h
     ·rename_i hz
      obtain ⟨r, hr, hs⟩ := ptrAdd_sound (hT _ _ hti) hof (hT _ _ htf) hz h
      refine ⟨r, hr, fun F0 L w0 a w κ o ho hk => ?_⟩
      obtain ⟨u, h1, h2⟩ := hs F0 L w0 a w κ _ hk (evO_rep hk x)
      exact ⟨u, by simp only [execOp, ho, Sem.run_bind, h1, Result.andThen_ok, Sem.run_pure], h2⟩
     ·exact h.elim
    ·exact h.elim
   ·exact h.elim
  ·exact h.elim
 ·rename_i t x f
  obtain ⟨r, hr, hs⟩ := field_sound hT h
  refine ⟨r, hr, fun F0 L w0 a w κ o ho hk => ?_⟩
  obtain ⟨u, h1, h2⟩ := hs w κ st.h _ (evO_rep hk x)
  exact ⟨u, by simp only [execOp, ho, Sem.run_bind, h1, Result.andThen_ok, Sem.run_pure], h2⟩
 ·rename_i t x i
  obtain ⟨r, hr, hs⟩ := index_sound hT h
  refine ⟨r, hr, fun F0 L w0 a w κ o ho hk => ?_⟩
  obtain ⟨u, h1, h2⟩ := hs F0 L w0 a w κ _ _ hk (evO_rep hk x) (evO_rep hk i)
  exact ⟨u, by simp only [execOp, ho, Sem.run_bind, h1, Result.andThen_ok, Sem.run_pure], h2⟩
 ·rename_i op t x y yt
  obtain ⟨d, hd, hs⟩ := bin_sound hT h
  refine ⟨_, hd, fun F0 L w0 a w κ o ho hk => ?_⟩
  obtain ⟨u, h1, h2⟩ := hs w κ st.h _ _ x y (evO_rep hk x) (evO_rep hk y)
  exact ⟨u, by simp only [execOp, ho]; rw [Sem.run_bind, h1]; rfl, h2⟩
 ·rename_i op t x
  obtain ⟨d, hd, hs⟩ := un_sound (P := P) h
  refine ⟨_, hd, fun F0 L w0 a w κ o ho hk => ?_⟩
  obtain ⟨u, h1, h2⟩ := hs w κ st.h _ (evO_rep hk x)
  exact ⟨u, by simp only [execOp, ho, Sem.run_bind, h1, Result.andThen_ok, Sem.run_pure], h2⟩
 ·rename_i x i
  obtain ⟨r, hr, hs⟩ := tup_sound (P := P) h
  refine ⟨r, hr, fun F0 L w0 a w κ o ho hk => ?_⟩
  obtain ⟨u, h1, h2⟩ := hs w κ st.h _ (evO_rep hk x)
  exact ⟨u, by simp only [execOp, ho, Sem.run_bind, h1, Result.andThen_ok, Sem.run_pure], h2⟩
 ·rename_i f first captured
  split at h
  ·rename_i caps hf hc
   refine ⟨_, h, fun F0 L w0 a w κ o ho hk => ?_⟩
   obtain ⟨hn, h1⟩ := caps_sound hk _ _ hc
   have h2 : first.map a.eval = #[] := by
    apply Array.eq_empty_of_size_eq_zero; simp [hf]
   refine ⟨.func (.func f) #[] (captured.map a.eval), by simp only [execOp, ho, Instr.makeFunc, Sem.run_bind, Sem.run_pure, Result.andThen_ok, h2], hn, ?_⟩
   rw [← h1]
   congr 1
   apply Array.toList_inj.1
   simp
  ·rename_i hf hc
   split at h
   ·rename_i ds hds
    refine ⟨_, h, fun F0 L w0 a w κ o ho hk => ?_⟩
    obtain ⟨hn, h1⟩ := dcap_sound hk _ _ hds
    have h2 : first.map a.eval = #[] := by
     apply Array.eq_empty_of_size_eq_zero; simp [hf]
    refine ⟨.func (.func f) #[] (captured.map a.eval), by simp only [execOp, ho, Instr.makeFunc, Sem.run_bind, Sem.run_pure, Result.andThen_ok, h2], ?_⟩
    have e : captured.map a.eval = (captured.toList.map a.eval).toArray := by apply Array.toList_inj.1; simp
    rw [e]
    exact .fn f ds _ hn h1
   ·exact h.elim
  ·exact h.elim
 ·rename_i args argTypes
  split at h
  ·rename_i x t hx ht
   obtain ⟨d, hd, hs⟩ := len_sound hT h
   refine ⟨_, hd, fun F0 L w0 a w κ o ho hk => ?_⟩
   obtain ⟨u, h1, h2⟩ := hs w κ _ o.type (evO_rep hk x)
   have e1 : args = #[x] := by apply Array.toList_inj.1; simpa using hx
   have e2 : argTypes = #[t] := by apply Array.toList_inj.1; simpa using ht
   subst e1 e2
   exact ⟨u, by simp [execOp, ho, resolve, invoke, builtin, h1], h2⟩
  ·exact h.elim
 ·rename_i args argTypes
  split at h
  ·rename_i x y hx
   obtain ⟨d, hd, hs⟩ := mx_sound (P := P) h
   refine ⟨_, hd, fun F0 L w0 a w κ o ho hk => ?_⟩
   obtain ⟨u, h1, h2⟩ := hs w κ st.h _ _ argTypes o.type (evO_rep hk x) (evO_rep hk y)
   have e1 : args = #[x, y] := by apply Array.toList_inj.1; simpa using hx
   subst e1
   simp only at h1
   exact ⟨u, by simp [execOp, ho, resolve, invoke, builtin, h1], h2⟩
  ·exact h.elim
 ·rename_i args argTypes
  split at h
  ·rename_i x y hx
   obtain ⟨d, hd, hs⟩ := mx_sound (P := P) h
   refine ⟨_, hd, fun F0 L w0 a w κ o ho hk => ?_⟩
   obtain ⟨u, h1, h2⟩ := hs w κ st.h _ _ argTypes o.type (evO_rep hk x) (evO_rep hk y)
   have e1 : args = #[x, y] := by apply Array.toList_inj.1; simpa using hx
   subst e1
   simp only at h1
   exact ⟨u, by simp [execOp, ho, resolve, invoke, builtin, h1], h2⟩
  ·exact h.elim
 ·rename_i t x lo hi
  obtain ⟨r, hr, hs⟩ := slice_sound hT h
  refine ⟨_, hr, fun F0 L w0 a w κ o ho hk => ?_⟩
  obtain ⟨u, h1, h2⟩ := hs F0 L w0 a w κ _ lo hi hk rfl rfl (evO_rep hk x)
  exact ⟨u, by simp only [execOp, ho, Sem.run_bind, Option.map_none, h1, Result.andThen_ok, Sem.run_pure], h2⟩
 ·rename_i src dst x
  obtain ⟨d, hd, hs⟩ := conv_sound hT h
  refine ⟨_, hd, fun F0 L w0 a w κ o ho hk => ?_⟩
  obtain ⟨u, h1, h2⟩ := hs F0 L w0 a w κ _ hk (evO_rep hk x)
  exact ⟨u, by simp only [execOp, ho, Sem.run_bind, h1, Result.andThen_ok, Sem.run_pure], h2⟩
 ·rename_i t x i
  obtain ⟨r, hr, hs⟩ := idx_sound hT h
  refine ⟨_, hr, fun F0 L w0 a w κ o ho hk => ?_⟩
  obtain ⟨u, h1, h2⟩ := hs w κ st.h _ _ (evO_rep hk x) (evO_rep hk i)
  exact ⟨u, by simp only [execOp, ho, Sem.run_bind, h1, Result.andThen_ok, Sem.run_pure], h2⟩
 ·exact h.elim
end
end Go.H
namespace Go.H
open Go.RowKit
section
variable {P : Program} {T : TypeId → Option TI} {F0 L : Nat → Prop} {w0 w w' : World} {st : St} {a : Act} {κ κ' : Con} {hh : List (Nat × Ent)}
theorem CVRep.keep {x : CV} {v : Value} (h : CVRep w κ hh x v) (hk : ∀ b, κ.F b → w'.heap[b]? = w.heap[b]?) : CVRep w' κ hh x v := by
 cases x with
 | d x => exact Fz.keep hk (fun _ h => h) h
 | _ => exact h
theorem CVs.keep {cs : List CV} {vs : List Value} (h : CVs w κ hh cs vs) (hk : ∀ b, κ.F b → w'.heap[b]? = w.heap[b]?) : CVs w' κ hh cs vs :=
 ⟨h.1, fun j c u hc hu => (h.2 j c u hc hu).keep hk⟩
theorem AVRep.keep {x : AV} {v : Value} (h : AVRep w κ hh x v) (hk : ∀ b, κ.F b → w'.heap[b]? = w.heap[b]?) : AVRep w' κ hh x v := by
 cases x with
 | c x => exact CVRep.keep h hk
 | agg cs => obtain ⟨vs, e, hv⟩ := h; exact ⟨vs, e, hv.keep hk⟩
 | tup xs =>
  obtain ⟨vs, e, hl, hv⟩ := h
  refine ⟨vs, e, hl, fun j x u hx hu => ?_⟩
  have := hv j x u hx hu
  unfold TVRep at *
  split at this
  ·obtain ⟨us, e, hus⟩ := this; exact ⟨us, e, hus.keep hk⟩
  ·exact this.keep hk
 | w x u => exact ⟨h.1, CVRep.keep h.2 hk⟩
 | u => trivial
theorem OwnRep.keep {e sz : Nat} {v : Value} {es : List (List D)} {F : Nat → Prop} (h : OwnRep w F e sz v es) (hk : ∀ b, F b → w'.heap[b]? = w.heap[b]?) (hb : ∀ b, v.ownBlock = some b → w'.heap[b]? = w.heap[b]?) : OwnRep w' F e sz v es := by
 obtain ⟨xs, ho, hx⟩ := h
 refine ⟨xs, ⟨ho.1, ?_⟩, fun i c hc => ⟨(hx i c hc).1, fun j d hd => ?_⟩⟩
 ·rcases ho.2 with h1 | ⟨g, cap, cur, h1, h2, h3, h4⟩
  ·exact .inl h1
  ·exact .inr ⟨g, cap, cur, h1, h2, by rw [hb g (by rw [h1]; rfl)]; exact h3, h4⟩
 ·obtain ⟨u, hu, hF⟩ := (hx i c hc).2 j d hd
  exact ⟨u, hu, Fz.keep hk (fun _ h => h) hF⟩
theorem ownsRow_keep {e sz n : Nat} {v : Value} {xs : List Value} (ho : w.ownsRow 0 e sz v n xs) (hb : ∀ b, v.ownBlock = some b → w'.heap[b]? = w.heap[b]?) : w'.ownsRow 0 e sz v n xs := by
 refine ⟨ho.1, ?_⟩
 rcases ho.2 with h1 | ⟨g, cap, cur, h1, h2, h3, h4⟩
 ·exact .inl h1
 ·exact .inr ⟨g, cap, cur, h1, h2, by rw [hb g (by rw [h1]; rfl)]; exact h3, h4⟩
theorem NCell.keep {ty : Option TypeId} {ov : Option Value} {d : D} {u : Value} (h : NCell w ty ov d u) (hb : ∀ b, ov.bind Value.ownBlock = some b → w'.heap[b]? = w.heap[b]?) : NCell w' ty ov d u := by
 unfold NCell at *
 split at h
 ·rename_i sz es
  obtain ⟨h1, h2, e, h3, h4⟩ := h
  exact ⟨h1, h2, e, h3, h4.keep (fun _ f => f.elim) (fun b hb' => hb b (by rw [h2]; exact hb'))⟩
 ·exact ⟨h.1, h.2.1, Fz.keep (fun _ f => f.elim) (fun _ f => f) h.2.2⟩
theorem NestRep.keep {v : Value} {nv : Nat → Option Value} {e sz : Nat} {tys : List TypeId} {es : List (List D)} (h : NestRep w v nv e sz tys es) (hb : ∀ b, (v.ownBlock = some b ∨ ∃ p, fpOf nv p = some b) → w'.heap[b]? = w.heap[b]?) : NestRep w' v nv e sz tys es := by
 obtain ⟨⟨xs, ho, hx⟩, ha, hi⟩ := h
 refine ⟨⟨xs, ownsRow_keep ho fun b h1 => hb b (.inl h1), fun i c hc => ⟨(hx i c hc).1, fun j d hd => ?_⟩⟩, ha, fun p b hp => ⟨(hi p b hp).1, (hi p b hp).2.1, ?_⟩⟩
 ·obtain ⟨u, hu, hn⟩ := (hx i c hc).2 j d hd
  exact ⟨u, hu, hn.keep fun b h1 => hb b (.inr ⟨_, h1⟩)⟩
 ·have h1 := hb b (.inr ⟨p, hp⟩)
  have h2 := (hi p b hp).2.2
  rw [Array.getElem?_eq_getElem h2] at h1
  exact (Array.getElem?_eq_some_iff.1 h1).1
theorem NCell.fz {ty : Option TypeId} {ov : Option Value} {d : D} {u : Value} {F : Nat → Prop} (h : NCell w ty ov d u) (hF : ∀ b, ov.bind Value.ownBlock = some b → F b) : Fz w F u d := by
 unfold NCell at h
 split at h
 ·rename_i sz es
  obtain ⟨h1, h4, e, h2, ⟨xs, ho, hx⟩⟩ := h
  rcases ho.2 with ⟨g1, g2⟩ | ⟨g, cap, cur, g1, g2, g3, g4, _⟩
  ·have he : es = [] := by cases es with | nil => rfl | cons => simp at g2
   subst he
   subst g1
   exact .sl none 0 0 sz [] (fun _ _ => undef) rfl (Nat.le_refl _) (fun i c hi => by simp at hi) (fun hne => absurd rfl hne) (fun A i c j d hA => by simp at hA) (fun i c j d hi => by simp at hi)
  ·rw [h4] at hF
   refine g1 ▸ .sl (some ⟨g, 0, none⟩) es.length cap sz es (fun i j => xs.getD (i * sz + j) undef) rfl g4 (fun i c hi => (hx i c hi).1) (fun hne => ⟨_, rfl, hF g (by rw [g1]; rfl), rfl⟩) (fun A i c j d hA hi hj => ?_) (fun i c j d hi hj => ?_)
   ·obtain ⟨u', hu1, hu2⟩ := (hx _ c hi).2 j d hj
    simp only [Option.some.injEq] at hA
    subst hA
    rw [ho.cells (g := g) (by rw [g1]; rfl) _ u' hu1]
    simp [List.getD, hu1]
   ·obtain ⟨u', hu1, hu2⟩ := (hx _ c hi).2 j d hj
    have : xs.getD (i * sz + j) undef = u' := by simp [List.getD, hu1]
    rw [this]
    exact Fz.keep (fun _ f => f.elim) (fun _ f => f.elim) hu2
 ·exact Fz.keep (fun _ f => f.elim) (fun _ f => f.elim) h.2.2
theorem NestRep.reads {v : Value} {nv : Nat → Option Value} {e sz : Nat} {tys : List TypeId} {es : List (List D)} {F : Nat → Prop} (h : NestRep w v nv e sz tys es) (hF : ∀ p b, fpOf nv p = some b → F b) : OwnRep w F e sz v es := by
 obtain ⟨⟨xs, ho, hx⟩, _, _⟩ := h
 refine ⟨xs, ho, fun i c hc => ⟨(hx i c hc).1, fun j d hd => ?_⟩⟩
 obtain ⟨u, hu, hn⟩ := (hx i c hc).2 j d hd
 exact ⟨u, hu, hn.fz fun b hb => hF _ b hb⟩
theorem EntRep.reads {id e sz v : Nat} {ow : Ow} {es : List (List D)} (h : EntRep w κ hh id (.arr e sz v ow es)) : OwnRep w (fun b => κ.F b ∨ (Ent.arr e sz v ow es).has κ id b) e sz (κ.val id) es := by
 have mono : ∀ {F F' : Nat → Prop}, OwnRep w F e sz (κ.val id) es → (∀ b, F b → F' b) → OwnRep w F' e sz (κ.val id) es := fun ⟨xs, ho, hx⟩ hF => ⟨xs, ho, fun i c hc => ⟨(hx i c hc).1, fun j d hd => by
  obtain ⟨u, hu, hf⟩ := (hx i c hc).2 j d hd
  exact ⟨u, hu, Fz.keep (fun _ _ => rfl) hF hf⟩⟩⟩
 cases ow with
 | own => exact mono h fun b hb => .inl hb
 | frz => exact mono h fun b hb => .inl hb
 | nest tys => exact NestRep.reads h fun p b hp => .inr (has_nest.2 (.inr ⟨p, hp⟩))
theorem EntRep.keep {id : Nat} {e : Ent} (h : EntRep w κ hh id e) (hk : ∀ b, κ.F b → w'.heap[b]? = w.heap[b]?) (hb : ∀ b, e.has κ id b → w'.heap[b]? = w.heap[b]?) : EntRep w' κ hh id e := by
 cases e with
 | box ty cs =>
  obtain ⟨vals, h1, h2⟩ := h
  exact ⟨vals, by rw [hb _ rfl]; exact h1, h2.keep hk⟩
 | arr e sz ver own es =>
  cases own with
  | own => exact OwnRep.keep h hk (fun b hb' => hb b (has_own.2 hb'))
  | frz => exact OwnRep.keep h hk (fun b hb' => hb b (has_frz.2 hb'))
  | nest tys => exact NestRep.keep h fun b hb' => hb b (has_nest.2 hb')
theorem EntRep.lt {id : Nat} {e : Ent} (h : EntRep w κ hh id e) {b : Nat} (hb : e.has κ id b) : b < w.heap.size := by
 cases e with
 | box ty cs =>
  obtain ⟨vals, h1, h2⟩ := h
  cases hb
  exact (Array.getElem?_eq_some_iff.1 h1).1
 | arr e sz ver own es =>
  cases own with
  | own => obtain ⟨xs, ho, _⟩ := h; exact (ho.lt b (has_own.1 hb)).2
  | frz => obtain ⟨xs, ho, _⟩ := h; exact (ho.lt b (has_frz.1 hb)).2
  | nest tys =>
   rcases has_nest.1 hb with hb | ⟨p, hp⟩
   ·obtain ⟨xs, ho, _⟩ := h.rows; exact (ho.lt b hb).2
   ·exact (h.inside p b hp).2.2
structure Grew (w w' : World) : Prop where
 os : w'.os = w.os
 tape : w'.tape = w.tape
 output : w'.output = w.output
 size : w.heap.size ≤ w'.heap.size
 block : ∀ k, k < w.heap.size → w'.heap[k]? = w.heap[k]?
theorem Grew.refl (w : World) : Grew w w := ⟨rfl, rfl, rfl, Nat.le_refl _, fun _ _ => rfl⟩
theorem Grew.drew (w : World) : Grew w { w with drawn := w.drawn + 1 } := ⟨rfl, rfl, rfl, Nat.le_refl _, fun _ _ => rfl⟩
theorem Grew.alloc (w : World) (o : Obj) : Grew w { w with heap := w.heap.push o } :=
 ⟨rfl, rfl, rfl, by simp, fun k hk => by rw [Array.getElem?_push, if_neg (by omega)]⟩
theorem Grew.of_grown {row : Option Nat} (h : w.grownBy w' row) (hr : row = none) : Grew w w' := ⟨h.os, h.tape, h.output, h.size, fun k hk => h.block k hk (by rw [hr]; simp)⟩
theorem RepK.grew (h : RepK F0 L w0 st a w κ) (g : Grew w w') : RepK F0 L w0 st a w' κ where
 below := h.below.step g.os g.tape g.output g.size fun k hk _ => g.block k (Nat.lt_of_lt_of_le hk h.below.size)
 f0 := h.f0
 f1 := h.f1
 f2 b hb := Nat.lt_of_lt_of_le (h.f2 b hb) g.size
 ents id e hl := (h.ents id e hl).keep (fun b hb => g.block b (h.f2 b hb)) (fun b hb => g.block b ((h.ents id e hl).lt hb))
 new := h.new
 excl := h.excl
 inj := h.inj
 tmps t av hl := let ⟨v, hv, hr⟩ := h.tmps t av hl; ⟨v, hv, hr.keep (fun b hb => g.block b (h.f2 b hb))⟩
 size := h.size
 dfs := h.dfs
 kn := h.kn
 kv := h.kv
def fNl : List Nat → Nat → (Nat → Prop) → Prop
 | [], n, K => K n
 | m :: r, n, K => match Nat.beq n m with | true => K m | false => fNl r n K
def fN (n : Nat) (K : Nat → Prop) : Prop := fNl [0, 1, 2, 3, 4, 5, 6, 7, 8, 9, 10, 11, 12, 13, 14, 15, 16, 17, 18, 19, 20, 21, 22, 23, 24, 25, 26, 27, 28, 29, 30, 31] n K
theorem fNl_eq {K : Nat → Prop} : ∀ (l : List Nat) (n : Nat), fNl l n K = K n
 | [], _ => rfl
 | m :: r, n => by
  simp only [fNl]
  cases hb : Nat.beq n m with
  | true => rw [Nat.eq_of_beq_eq_true hb]
  | false => exact fNl_eq r n
theorem fN_eq (n : Nat) (K : Nat → Prop) : fN n K = K n := fNl_eq _ n
def fD (x : D) (K : D → Prop) : Prop :=
 match x with
 | .int k n => K (.int k n)
 | .bool b => K (.bool b)
 | .str s => K (.str s)
 | .sl sz es => fN sz fun sz => K (.sl sz es)
 | .fn f caps => K (.fn f caps)
 | .rp cs => K (.rp cs)
 | .any => K .any
theorem fD_eq (x : D) (K : D → Prop) : fD x K = K x := by cases x <;> simp only [fD, fN_eq]
def fP (s : Option (Bool × Nat × Nat)) (K : Option (Bool × Nat × Nat) → Prop) : Prop :=
 match s with
 | none => K none
 | some (b, o, n) => match b with | true => K (some (true, o, n)) | false => K (some (false, o, n))
theorem fP_eq (s : Option (Bool × Nat × Nat)) (K : Option (Bool × Nat × Nat) → Prop) : fP s K = K s := by
 rcases s with _ | ⟨b, o, n⟩
 ·rfl
 ·cases b <;> rfl
def fC (x : CV) (K : CV → Prop) : Prop :=
 match x with
 | .d x => K (.d x)
 | .nl sz => fN sz fun sz => K (.nl sz)
 | .ref id ver s => fN id fun id => fN ver fun ver => fP s fun s => K (.ref id ver s)
 | .ptr id off => fN id fun id => fN off fun off => K (.ptr id off)
 | .ep id ver i j => fN id fun id => fN ver fun ver => fN j fun j => K (.ep id ver i j)
 | .nst id ver p => fN id fun id => fN ver fun ver => K (.nst id ver p)
 | .nep id ver p q => fN id fun id => fN ver fun ver => K (.nep id ver p q)
 | .fn f caps => K (.fn f caps)
 | .u => K .u
theorem fC_eq (x : CV) (K : CV → Prop) : fC x K = K x := by cases x <;> simp only [fC, fN_eq, fD_eq, fP_eq]
def fL : List CV → (List CV → Prop) → Prop
 | [], K => K []
 | x :: r, K => fC x fun x => fL r fun r => K (x :: r)
theorem fL_eq : ∀ (l : List CV) (K : List CV → Prop), fL l K = K l
 | [], K => rfl
 | x :: r, K => by simp only [fL, fC_eq, fL_eq r]
def fX : List (Bool × List CV) → (List (Bool × List CV) → Prop) → Prop
 | [], K => K []
 | (b, cs) :: r, K => match b with
  | true => fL cs fun cs => fX r fun r => K ((true, cs) :: r)
  | false => fL cs fun cs => fX r fun r => K ((false, cs) :: r)
theorem fX_eq : ∀ (l : List (Bool × List CV)) (K : List (Bool × List CV) → Prop), fX l K = K l
 | [], K => rfl
 | (b, cs) :: r, K => by cases b <;> simp only [fX, fL_eq, fX_eq r]
def fA (x : AV) (K : AV → Prop) : Prop :=
 match x with
 | .c x => fC x fun x => K (.c x)
 | .agg cs => fL cs fun cs => K (.agg cs)
 | .w x v => fC x fun x => K (.w x v)
 | .tup xs => fX xs fun xs => K (.tup xs)
 | .u => K .u
theorem fA_eq (x : AV) (K : AV → Prop) : fA x K = K x := by cases x <;> simp only [fA, fC_eq, fL_eq, fX_eq]
def fE (e : Ent) (K : Ent → Prop) : Prop :=
 match e with
 | .box ty cs => fL cs fun cs => K (.box ty cs)
 | .arr e sz ver own es => fN sz fun sz => fN ver fun ver => match own with | .own => K (.arr e sz ver .own es) | .frz => K (.arr e sz ver .frz es) | .nest tys => K (.arr e sz ver (.nest tys) es)
theorem fE_eq (e : Ent) (K : Ent → Prop) : fE e K = K e := by
 cases e with
 | box ty cs => simp only [fE, fL_eq]
 | arr e sz ver own es => cases own <;> simp only [fE, fN_eq]
def fH : List (Nat × Ent) → (List (Nat × Ent) → Prop) → Prop
 | [], K => K []
 | (i, e) :: r, K => fN i fun i => fE e fun e => fH r fun r => K ((i, e) :: r)
theorem fH_eq : ∀ (l : List (Nat × Ent)) (K : List (Nat × Ent) → Prop), fH l K = K l
 | [], K => rfl
 | (i, e) :: r, K => by simp only [fH, fN_eq, fE_eq, fH_eq r]
def fT : List (Nat × AV) → (List (Nat × AV) → Prop) → Prop
 | [], K => K []
 | (i, e) :: r, K => fN i fun i => fA e fun e => fT r fun r => K ((i, e) :: r)
theorem fT_eq : ∀ (l : List (Nat × AV)) (K : List (Nat × AV) → Prop), fT l K = K l
 | [], K => rfl
 | (i, e) :: r, K => by simp only [fT, fN_eq, fA_eq, fT_eq r]
def snocK {α : Type} : List α → α → (List α → Prop) → Prop
 | [], x, K => K [x]
 | a :: r, x, K => snocK r x fun r => K (a :: r)
theorem snocK_eq {α : Type} : ∀ (l : List α) (x : α) (K : List α → Prop), snocK l x K = K (l ++ [x])
 | [], x, K => rfl
 | a :: r, x, K => by simp only [snocK, snocK_eq r, List.cons_append]
def lputK {α : Type} : List (Nat × α) → Nat → α → (List (Nat × α) → Prop) → Prop
 | [], n, v, K => K [(n, v)]
 | (k, x) :: r, n, v, K => match Nat.beq k n with | true => K ((k, v) :: r) | false => lputK r n v fun r => K ((k, x) :: r)
theorem lputK_eq {α : Type} : ∀ (l : List (Nat × α)) (n : Nat) (v : α) (K : List (Nat × α) → Prop), lputK l n v K = K (lput l n v)
 | [], n, v, K => rfl
 | (k, x) :: r, n, v, K => by
  simp only [lputK, lput]
  cases Nat.beq k n with
  | true => rfl
  | false => exact lputK_eq r n v _
def tput (t : List (Nat × AV)) (d : Nat) (av : AV) : List (Nat × AV) := (d, av) :: t
theorem look_tput (t : List (Nat × AV)) (d m : Nat) (av : AV) : look (tput t d av) m = if d = m then some av else look t m := by
 simp only [tput, look]
 by_cases h : d = m
 ·subst h; simp
 ·rw [if_neg h]
  cases hb : Nat.beq d m with
  | true => exact absurd (Nat.eq_of_beq_eq_true hb) h
  | false => rfl
def setT (st : St) (dst : Option Tmp) (av : AV) (K : St → Prop) : Prop :=
 match dst with
 | none => K st
 | some d => match st with
  | ⟨t, h, n, N⟩ => match Nat.blt d N with | true => fA av fun av => K ⟨(d, av) :: t, h, n, N⟩ | false => False
theorem setT_eq (st : St) (dst : Option Tmp) (av : AV) (K : St → Prop) : setT st dst av K = match dst with
  | none => K st
  | some d => match Nat.blt d st.N with | true => K { st with t := tput st.t d av } | false => False := by
 cases dst with
 | none => rfl
 | some d => cases st; simp only [setT, fA_eq, tput]
theorem RepK.put (h : RepK F0 L w0 st a w κ) {av : AV} {v : Value} (hv : AVRep w κ st.h av v) {d : Nat} (hd : d < st.N) : RepK F0 L w0 { st with t := tput st.t d av } (a.put (some d) v) w κ where
 below := h.below
 f0 := h.f0
 f1 := h.f1
 f2 := h.f2
 ents := h.ents
 new := h.new
 excl := h.excl
 inj := h.inj
 tmps t av' hl := by
  simp only [look_tput] at hl
  split at hl
  ·rename_i he
   subst he
   simp only [Option.some.injEq] at hl
   subst hl
   exact ⟨v, by simp [Act.put, h.size, hd], hv⟩
  ·rename_i hne
   obtain ⟨u, hu, hr⟩ := h.tmps t av' hl
   exact ⟨u, by simp only [Act.put]; rw [Array.getElem?_setIfInBounds_ne hne]; exact hu, hr⟩
 size := by simp [Act.put, h.size]
 dfs := h.dfs
 kn := h.kn
 kv := h.kv
theorem RepK.reslot (h : RepK F0 L w0 st a w κ) {k : Nat} {x x' : AV} (hk : look st.t k = some x) (hx : ∀ v, AVRep w κ st.h x v → AVRep w κ st.h x' v) : RepK F0 L w0 { st with t := tput st.t k x' } a w κ := by
 refine { below := h.below, f0 := h.f0, f1 := h.f1, f2 := h.f2, size := h.size, dfs := h.dfs, kn := h.kn, ents := h.ents, new := h.new, excl := h.excl, inj := h.inj, kv := h.kv, tmps := fun t av ht => ?_ }
 simp only [look_tput] at ht
 split at ht
 ·rename_i he
  subst he
  cases ht
  obtain ⟨v, hv, hr⟩ := h.tmps _ _ hk
  exact ⟨v, hv, hx v hr⟩
 ·exact h.tmps t av ht
def ifB (b : Bool) (x y : Prop) : Prop := match b with | true => x | false => y
theorem ifB_i {b : Bool} {x y : Prop} (h1 : b = true → x) (h2 : b = false → y) : ifB b x y := by cases b; exact h2 rfl; exact h1 rfl
theorem ifB_t {b : Bool} {x y : Prop} (h : ifB b x y) : b = true → x := fun e => by subst e; exact h
theorem ifB_f {b : Bool} {x y : Prop} (h : ifB b x y) : b = false → y := fun e => by subst e; exact h
theorem setT_sound {dst : Option Tmp} {av : AV} {K : St → Prop} (hK : setT st dst av K) (h : RepK F0 L w0 st a w κ) {v : Value} (hv : AVRep w κ st.h av v) : ∃ st', K st' ∧ RepK F0 L w0 st' (a.put dst v) w κ := by
 rw [setT_eq] at hK
 split at hK
 ·exact ⟨st, hK, h⟩
 ·rename_i d
  split at hK
  ·rename_i hd
   exact ⟨_, hK, h.put hv (by simpa using hd)⟩
  ·exact hK.elim
def CVOk (h : List (Nat × Ent)) (n : Nat) : Prop := ∀ id e, look h id = some e → id < n
theorem look_push (l : List (Nat × Ent)) (n m : Nat) (e : Ent) (hn : CVOk l n) : look (l ++ [(n, e)]) m = if n = m then some e else look l m := by
 induction l with
 | nil => simp only [List.nil_append, look, Nat.beq_eq]
 | cons p r ih =>
  obtain ⟨k, x⟩ := p
  have hk : k < n := hn k x (by simp [look])
  have hr : CVOk r n := fun id e he => by
   by_cases h : k = id
   ·subst h; exact hk
   ·exact hn id e (by simp [look, h, he])
  simp only [List.cons_append, look]
  by_cases hm : k = m
  ·subst hm; simp; intro h; omega
  ·simp [hm, ih hr]
end
end Go.H
namespace Go.H
open Go.RowKit
section
variable {P : Program} {T : TypeId → Option TI} {F0 L : Nat → Prop} {w0 w w' : World} {st : St} {a : Act} {κ κ' : Con} {hh : List (Nat × Ent)}
def Con.push (κ : Con) (b : Nat) (v : Value) : Con :=
 { κ with bl := fun i => if i = κ.n then b else κ.bl i, val := fun i => if i = κ.n then v else κ.val i, n := κ.n + 1, vr := fun i => if i = κ.n then 0 else κ.vr i, nv := fun i => if i = κ.n then fun _ => none else κ.nv i }
theorem CVRep.push {x : CV} {v : Value} (h : CVRep w κ hh x v) (hn : CVOk hh κ.n) (e : Ent) (b : Nat) (u : Value) : CVRep w (κ.push b u) (hh ++ [(κ.n, e)]) x v := by
 cases x with
 | d x => exact h
 | nl _ => exact h
 | u => exact h
 | ptr id off =>
  obtain ⟨h1, h2⟩ := h
  exact ⟨Nat.lt_succ_of_lt h1, by simp only [Con.push]; rw [if_neg (by omega)]; exact h2⟩
 | fn f caps =>
  obtain ⟨h1, h2⟩ := h
  refine ⟨fun p hp => Nat.lt_succ_of_lt (h1 p hp), ?_⟩
  rw [h2]
  congr 2
  apply List.map_congr_left
  intro p hp
  have := h1 p hp
  simp only [Con.push]
  rw [if_neg (by omega)]
 | ref id ver s =>
  obtain ⟨⟨h1, h1'⟩, h2, h3, h4⟩ := h
  refine ⟨⟨Nat.lt_succ_of_lt h1, by simp only [Con.push]; rw [if_neg (by omega)]; exact h1'⟩, h2, h3, fun e' sz own es hl => ?_⟩
  rw [look_push _ _ _ _ hn, if_neg (by omega)] at hl
  simp only [Con.push]
  rw [if_neg (by omega)]
  exact h4 e' sz own es hl
 | nst id ver p =>
  obtain ⟨⟨h1, h1'⟩, h2, h3, h4⟩ := h
  have hne : ¬ id = κ.n := by omega
  exact ⟨⟨Nat.lt_succ_of_lt h1, by simp only [Con.push, if_neg hne]; exact h1'⟩, h2, h3, by simp only [Con.push, if_neg hne]; exact h4⟩
 | nep id ver p q =>
  obtain ⟨⟨h1, h1'⟩, h2, h3, h4⟩ := h
  have hne : ¬ id = κ.n := by omega
  exact ⟨⟨Nat.lt_succ_of_lt h1, by simp only [Con.push, if_neg hne]; exact h1'⟩, h2, h3, by simp only [Con.push, if_neg hne]; exact h4⟩
 | ep id ver i j =>
  obtain ⟨⟨h1, h1'⟩, h2, h3, h4⟩ := h
  refine ⟨⟨Nat.lt_succ_of_lt h1, by simp only [Con.push]; rw [if_neg (by omega)]; exact h1'⟩, h2, h3, fun e' sz own es hl => ?_⟩
  rw [look_push _ _ _ _ hn, if_neg (by omega)] at hl
  simp only [Con.push]
  rw [if_neg (by omega)]
  exact h4 e' sz own es hl
theorem CVs.push {cs : List CV} {vs : List Value} (h : CVs w κ hh cs vs) (hn : CVOk hh κ.n) (e : Ent) (b : Nat) (u : Value) : CVs w (κ.push b u) (hh ++ [(κ.n, e)]) cs vs :=
 ⟨h.1, fun j c v hc hv => (h.2 j c v hc hv).push hn e b u⟩
theorem AVRep.push {x : AV} {v : Value} (h : AVRep w κ hh x v) (hn : CVOk hh κ.n) (e : Ent) (b : Nat) (u : Value) : AVRep w (κ.push b u) (hh ++ [(κ.n, e)]) x v := by
 cases x with
 | c x => exact CVRep.push h hn e b u
 | agg cs => obtain ⟨vs, q, hv⟩ := h; exact ⟨vs, q, hv.push hn e b u⟩
 | tup xs =>
  obtain ⟨vs, q, hl, hv⟩ := h
  refine ⟨vs, q, hl, fun j x v hx hu => ?_⟩
  have := hv j x v hx hu
  unfold TVRep at *
  split at this
  ·obtain ⟨us, q, hus⟩ := this; exact ⟨us, q, hus.push hn e b u⟩
  ·exact this.push hn e b u
 | w x u' => exact ⟨h.1, CVRep.push h.2 hn e b u⟩
 | u => trivial
theorem EntRep.push {id : Nat} {x : Ent} (h : EntRep w κ hh id x) (hn : CVOk hh κ.n) (hid : id < κ.n) (e : Ent) (b : Nat) (u : Value) : EntRep w (κ.push b u) (hh ++ [(κ.n, e)]) id x := by
 cases x with
 | box ty cs =>
  obtain ⟨vals, h1, h2⟩ := h
  exact ⟨vals, by simp only [Con.push]; rw [if_neg (by omega)]; exact h1, h2.push hn e b u⟩
 | arr e' sz ver own es =>
  cases own with
  | nest tys =>
   show NestRep _ _ _ _ _ _ _
   simp only [Con.push]
   rw [if_neg (by omega), if_neg (by omega)]
   exact h
  | _ =>
   show OwnRep _ _ _ _ _ _
   simp only [Con.push]
   rw [if_neg (by omega)]
   exact h
theorem Ent.has_push {id c : Nat} (hid : id < κ.n) (x : Ent) (b : Nat) (u : Value) : x.has (κ.push b u) id c = x.has κ id c := by
 have hne : ¬ id = κ.n := by omega
 cases x <;> simp only [Ent.has, Con.fp, Con.push, if_neg hne]
def St.push (st : St) (e : Ent) : St := { st with h := st.h ++ [(st.n, e)], n := st.n + 1 }
theorem RepK.pushL (h : RepK F0 L w0 st a w κ) (e : Ent) (b : Nat) (u : Value) (he : EntRep w (κ.push b u) (st.h ++ [(st.n, e)]) st.n e)
  (hver : ∀ e' sz ver own es, e = .arr e' sz ver own es → ver = 0) (hb : ∀ b', e.has (κ.push b u) st.n b' → (w0.heap.size ≤ b' ∨ L b') ∧ (e.own = true → ¬ κ.F b') ∧ (e.own = false → κ.F b') ∧ ∀ id x, look st.h id = some x → ¬ x.has κ id b') :
  RepK F0 L w0 (st.push e) a w (κ.push b u) := by
 have hk := h.kn
 have hok : CVOk st.h κ.n := fun id e he => hk ▸ h.new id e he
 have hlook : ∀ m, look (st.h ++ [(st.n, e)]) m = if st.n = m then some e else look st.h m := fun m => look_push _ _ _ _ (hk ▸ hok)
 refine { below := h.below, f0 := h.f0, f1 := h.f1, f2 := h.f2, size := h.size, dfs := h.dfs, kn := by simp [Con.push, St.push, hk], kv := ?_, ents := ?_, new := ?_, excl := ?_, inj := ?_, tmps := ?_ }
 ·intro id x hl
  simp only [St.push, hlook] at hl
  split at hl
  ·rename_i hid; subst hid; cases hl; exact he
  ·have := (h.ents id x hl).push hok (hk ▸ h.new id x hl) e b u
   rwa [hk] at this
 ·intro id x hl
  simp only [St.push, hlook] at hl ⊢
  split at hl
  ·omega
  ·exact Nat.lt_succ_of_lt (h.new id x hl)
 ·intro id x b' hl hb'
  simp only [St.push, hlook] at hl
  split at hl
  ·rename_i hid; subst hid; cases hl
   obtain ⟨h1, h2, h3, _⟩ := hb b' hb'
   exact ⟨fun _ => h1, h2, h3⟩
  ·rw [Ent.has_push (hk ▸ h.new id x hl)] at hb'
   exact h.excl id x b' hl hb'
 ·intro id id' x x' b' hl hl' hb1 hb2
  simp only [St.push, hlook] at hl hl'
  split at hl <;> split at hl'
  ·omega
  ·rename_i hid hid'; subst hid; cases hl
   rw [Ent.has_push (hk ▸ h.new id' x' hl')] at hb2
   exact absurd hb2 ((hb b' hb1).2.2.2 id' x' hl')
  ·rename_i hid hid'; subst hid'; cases hl'
   rw [Ent.has_push (hk ▸ h.new id x hl)] at hb1
   exact absurd hb1 ((hb b' hb2).2.2.2 id x hl)
  ·rw [Ent.has_push (hk ▸ h.new id x hl)] at hb1
   rw [Ent.has_push (hk ▸ h.new id' x' hl')] at hb2
   exact h.inj id id' x x' b' hl hl' hb1 hb2
 ·intro t av hl
  obtain ⟨v, hv, hr⟩ := h.tmps t av hl
  have := hr.push hok e b u
  rw [hk] at this
  exact ⟨v, hv, this⟩
 ·intro id e' sz ver own es hl
  simp only [St.push, hlook] at hl
  simp only [Con.push]
  split at hl
  ·rename_i hid
   cases hl
   rw [if_pos (by omega)]
   exact (hver _ _ _ _ _ rfl).symm
  ·rename_i hid
   rw [if_neg (by omega)]
   exact h.kv _ _ _ _ _ _ hl
theorem RepK.push (h : RepK F0 L w0 st a w κ) (e : Ent) (b : Nat) (u : Value) (he : EntRep w (κ.push b u) (st.h ++ [(st.n, e)]) st.n e)
  (hver : ∀ e' sz ver own es, e = .arr e' sz ver own es → ver = 0) (hb : ∀ b', e.has (κ.push b u) st.n b' → w0.heap.size ≤ b' ∧ (e.own = true → ¬ κ.F b') ∧ (e.own = false → κ.F b') ∧ ∀ id x, look st.h id = some x → ¬ x.has κ id b') :
  RepK F0 L w0 (st.push e) a w (κ.push b u) :=
 h.pushL e b u he hver fun b' hb' => ⟨.inl (hb b' hb').1, (hb b' hb').2⟩
theorem RepK.newBox (h : RepK F0 L w0 st a w κ) {ty : TypeId} {cs : List CV} {vals : List Value} (hv : CVs w κ st.h cs vals) :
  RepK F0 L w0 (st.push (.box ty cs)) a { w with heap := w.heap.push (.cells vals.toArray ty (0, 0)) } (κ.push w.heap.size (.nilFunc)) := by
 have hk := h.kn
 have g := Grew.alloc w (.cells vals.toArray ty (0, 0))
 have h' := h.grew g
 have hok : CVOk st.h κ.n := fun id e he => hk ▸ h.new id e he
 refine h'.push _ _ _ ⟨vals, ?_, ?_⟩ (fun _ _ _ _ _ h => by cases h) (fun b' hb' => ?_)
 ·simp only [Con.push, hk, if_true]
  simp
 ·have := (hv.keep (w' := { w with heap := w.heap.push (.cells vals.toArray ty (0, 0)) }) (fun b hb => g.block b (h.f2 b hb))).push hok (.box ty cs) w.heap.size .nilFunc
  rwa [hk] at this
 ·simp only [Ent.has, Con.push, hk, if_true] at hb'
  subst hb'
  refine ⟨h.below.size, fun _ hF => ?_, fun hf => by simp [Ent.own, Ow.my] at hf, fun id x hl hb2 => ?_⟩
  ·exact absurd (h.f2 _ hF) (Nat.lt_irrefl _)
  ·exact absurd ((h.ents id x hl).lt hb2) (Nat.lt_irrefl _)
theorem RepK.newArr (h : RepK F0 L w0 st a w κ) (g : Grew w w') {e sz : Nat} {es : List (List D)} {v : Value} (ho : OwnRep w' κ.F e sz v es) (hb : ∀ b, v.ownBlock = some b → w.heap.size ≤ b) :
  RepK F0 L w0 (st.push (.arr e sz 0 .own es)) a w' (κ.push 0 v) := by
 have hk := h.kn
 have h' := h.grew g
 refine h'.push _ _ _ ?_ (fun _ _ _ _ _ h => by cases h; rfl) (fun b' hb' => ?_)
 ·show OwnRep _ _ _ _ _ _
  simp only [Con.push, hk, if_true]
  exact ho
 ·rw [has_own] at hb'
  simp only [Con.push, hk, if_true] at hb'
  have hge := hb b' hb'
  refine ⟨Nat.le_trans h.below.size hge, fun _ hF => absurd (h.f2 _ hF) (by omega), fun hf => by simp [Ent.own, Ow.my] at hf, fun id x hl hb2 => ?_⟩
  have := (h.ents id x hl).lt hb2
  omega
end
end Go.H
namespace Go.H
open Go.RowKit
def setL {α : Type} : List α → Nat → List α → List α
 | cs, _, [] => cs
 | cs, off, x :: xs => setL (cs.set off x) (off + 1) xs
def fillC (place : Nat → Option (Nat × Nat)) : List CV → List (Nat × List CV) → Option (List CV)
 | cs, [] => some cs
 | cs, (i, v) :: rest => match place i with
  | none => none
  | some (off, size) => match Nat.beq v.length size, Nat.ble (off + v.length) cs.length with
   | true, true => fillC place (setL cs off v) rest
   | _, _ => none
theorem setL_length {α : Type} : ∀ (l cs : List α) (off : Nat), (setL cs off l).length = cs.length
 | [], _, _ => rfl
 | x :: xs, cs, off => by simp [setL, setL_length xs]
theorem foldl_set (off : Nat) : ∀ (l : List Value) (k : Nat) (A : Array Value), (l.zipIdx k).foldl (fun cs (p : Value × Nat) => cs.setIfInBounds (off + p.2) p.1) A = (setL A.toList (off + k) l).toArray
 | [], k, A => by simp [setL]
 | x :: xs, k, A => by
  simp only [List.zipIdx_cons, List.foldl_cons, foldl_set off xs, setL]
  simp [Nat.add_assoc]
section
variable {P : Program} {T : TypeId → Option TI} {F0 L : Nat → Prop} {w0 w : World} {st : St} {a : Act} {κ : Con} {hh : List (Nat × Ent)}
theorem CVs.set {cs : List CV} {vs : List Value} (h : CVs w κ hh cs vs) {x : CV} {v : Value} (hx : CVRep w κ hh x v) (off : Nat) : CVs w κ hh (cs.set off x) (vs.set off v) := by
 refine ⟨by simp [h.1], fun j c u hc hu => ?_⟩
 rw [List.getElem?_set] at hc hu
 split at hc
 ·rename_i he
  subst he
  rw [if_pos rfl] at hu
  split at hc
  ·split at hu
   ·simp at hc hu; subst hc; subst hu; exact hx
   ·simp at hu
  ·simp at hc
 ·rename_i hne
  rw [if_neg hne] at hu
  exact h.2 j c u hc hu
theorem CVs.setL : ∀ {xs : List CV} {us : List Value} {cs : List CV} {vs : List Value} (_ : CVs w κ hh xs us) (_ : CVs w κ hh cs vs) (off : Nat), CVs w κ hh (setL cs off xs) (setL vs off us)
 | [], [], _, _, _, h, _ => h
 | [], _ :: _, _, _, hx, _, _ => by have := hx.1; simp at this
 | _ :: _, [], _, _, hx, _, _ => by have := hx.1; simp at this
 | x :: xs, u :: us, cs, vs, hx, h, off => by
  simp only [Go.H.setL]
  refine CVs.setL ⟨by have := hx.1; simpa using this, fun j c v hc hv => hx.2 (j + 1) c v (by simpa using hc) (by simpa using hv)⟩ (h.set (hx.2 0 x u rfl rfl) off) (off + 1)
def avCells : AV → Option (List CV)
 | .c x => some [x]
 | .agg cs => some cs
 | _ => none
theorem avCells_sound {x : AV} {cs : List CV} (h : avCells x = some cs) {v : Value} (hv : AVRep w κ hh x v) : CVs w κ hh cs v.cells.toList := by
 cases x with
 | c x =>
  simp only [avCells, Option.some.injEq] at h
  subst h
  rw [(CVRep.one hv).2]
  refine ⟨rfl, fun j c u hc hu => ?_⟩
  cases j with
  | zero => simp at hc hu; subst hc; subst hu; exact hv
  | succ j => simp at hc
 | agg cs' =>
  simp only [avCells, Option.some.injEq] at h
  subst h
  obtain ⟨vs, rfl, hvs⟩ := hv
  simpa [Value.cells] using hvs
 | tup => simp [avCells] at h
 | w => simp [avCells] at h
 | u => simp [avCells] at h
def partsC (st : St) : List (Nat × Operand) → Option (List (Nat × List CV))
 | [] => some []
 | (i, x) :: r => match avCells (evO st x), partsC st r with
  | some cs, some l => some ((i, cs) :: l)
  | _, _ => none
theorem fill_sound (hr : RepK F0 L w0 st a w κ) {place : Nat → Option (Nat × Nat)} : ∀ {parts : List (Nat × Operand)} {l : List (Nat × List CV)} {cs res : List CV} {vs : List Value},
  partsC st parts = some l → fillC place cs l = some res → CVs w κ st.h cs vs → ∃ us : List Value, Instr.fill place vs.toArray (parts.map fun p => (p.1, a.eval p.2)) = some us.toArray ∧ CVs w κ st.h res us
 | [], l, cs, res, vs, hp, hf, hv => by
  simp only [partsC, Option.some.injEq] at hp
  subst hp
  simp only [fillC, Option.some.injEq] at hf
  subst hf
  exact ⟨vs, rfl, hv⟩
 | (i, x) :: r, l, cs, res, vs, hp, hf, hv => by
  simp only [partsC] at hp
  split at hp
  ·rename_i xc l' hx hl
   simp only [Option.some.injEq] at hp
   subst hp
   simp only [fillC] at hf
   split at hf
   ·simp at hf
   ·rename_i off size hpl
    split at hf
    ·rename_i hb1 hb2
     have hs := beq_iff hb1
     have hle := Nat.le_of_ble_eq_true hb2
     have hxs := avCells_sound hx (evO_rep hr x)
     obtain ⟨us, h1, h2⟩ := fill_sound hr hl hf (CVs.setL hxs hv off)
     refine ⟨us, ?_, h2⟩
     have hsz : (a.eval x).cells.size = size := by have := hxs.1; rw [← hs]; simpa using this
     have hvl : vs.length = cs.length := hv.1
     simp only [List.map_cons, Instr.fill, hpl, hsz, ne_eq, not_true_eq_false, decide_false, Bool.false_or, List.size_toArray]
     rw [if_neg (by simp; omega)]
     rw [← h1]
     congr 1
     have := foldl_set off (a.eval x).cells.toList 0 vs.toArray
     simp only [Nat.add_zero] at this
     rw [← this]
     rw [← Array.foldl_toList]
     simp
    ·simp at hf
  ·simp at hp
theorem zero_sound {t : TypeId} {ti : TI} (hf : ti.fits P t) : ∃ z, (∀ w : World, (zeroValue t).run P w = .ok z w) ∧ z.cells.size = ti.size ∧ ∀ (w : World) (κ : Con) (hh : List (Nat × Ent)), CVs w κ hh ti.zero z.cells.toList := by
 obtain ⟨info, z, h1, h2, h3, h4, h5, h6, h7⟩ := hf.info
 refine ⟨z, fun w => by simp [zeroValue, typeInfo, h1, h4], h5, fun w κ hh => ⟨by rw [h6, ← h5]; simp, fun j c u hc hu => ?_⟩⟩
 obtain ⟨q, hq, hz⟩ := h7 j c hc
 have : q = u := by simpa [hz] using hu
 subst this
 unfold cvVal at hq
 split at hq <;> simp at hq <;> subst hq
 ·exact .int _ _
 ·exact .bool _
 ·exact .str _
 ·rfl
def placesC (T : TypeId → Option TI) : List (Nat × TypeId) → Option (List (Nat × Nat))
 | [] => some []
 | (off, ft) :: r => match T ft, placesC T r with
  | some tf, some l => some ((off, tf.size) :: l)
  | _, _ => none
def buildWp (T : TypeId → Option TI) (st : St) (t : TypeId) (parts : List (Nat × Operand)) (K : AV → Prop) : Prop :=
 match T t with
 | some ti => match ti.k, partsC st parts with
  | .struct fs, some l => match placesC T fs with
   | some places => match fillC (fun i => places[i]?) ti.zero l with
    | some cs => K (.agg cs)
    | none => False
   | none => False
  | .arr _ e, some l => match T e with
   | some te => match fillC (fun i => some (i * te.size, te.size)) ti.zero l with
    | some cs => K (.agg cs)
    | none => False
   | none => False
  | _, _ => False
 | none => False
theorem places_sound (hT : TOk P T) : ∀ (fields : List Field) (places : List (Nat × Nat)), placesC T (fields.map fun f => (f.offset, f.type)) = some places →
  fields.mapM (fun f => (P.info? f.type).map fun i => (f.offset, i.size)) = some places
 | [], places, h => by simp [placesC] at h; subst h; rfl
 | f :: r, places, h => by
  simp only [List.map_cons, placesC] at h
  split at h
  ·rename_i tf l htf hl
   simp only [Option.some.injEq] at h
   subst h
   obtain ⟨info, z, h1, h2, _⟩ := (hT _ _ htf).info
   simp [List.mapM_cons, h1, h2, places_sound hT r l hl]
  ·simp at h
theorem build_sound (hT : TOk P T) {t : TypeId} {parts : Array (Nat × Operand)} {K : AV → Prop} (h : buildWp T st t parts.toList K) :
  ∃ r, K r ∧ ∀ (F0 L : Nat → Prop) (w0 : World) (a : Act) (w : World) (κ : Con), RepK F0 L w0 st a w κ → ∃ v, (Instr.build t (parts.map fun (i, x) => (i, a.eval x))).run P w = .ok v w ∧ AVRep w κ st.h r v := by
 unfold buildWp at h
 split at h
 ·rename_i ti hti
  have hf := hT _ _ hti
  have hk := hf.k
  obtain ⟨info, z, h1, h2, h3, h4, h5, h6, h7⟩ := hf.info
  obtain ⟨z', hz1, hz2, hz3⟩ := zero_sound hf
  have hzz : z' = z := by
   have := hz1 default
   simp [zeroValue, typeInfo, h1, h4] at this
   exact this.symm
  subst hzz
  split at h
  ·rename_i fs l hke hl
   rw [hke] at hk
   obtain ⟨fields, hu, rfl, _⟩ := hk
   split at h
   ·rename_i places hpl
    split at h
    ·rename_i cs hcs
     refine ⟨_, h, fun F0 L w0 a w κ hr => ?_⟩
     obtain ⟨us, hu1, hu2⟩ := fill_sound hr hl hcs (hz3 w κ st.h)
     refine ⟨.agg us.toArray, run_build w t _ _ ?_, us, rfl, hu2⟩
     simp only [Program.built, h1, hu, h4, places_sound hT _ _ hpl]
     simpa using hu1
    ·exact h.elim
   ·exact h.elim
  ·rename_i m e l hke hl
   rw [hke] at hk
   split at h
   ·rename_i te hte
    obtain ⟨ie, ze, e1, e2, _⟩ := (hT _ _ hte).info
    split at h
    ·rename_i cs hcs
     refine ⟨_, h, fun F0 L w0 a w κ hr => ?_⟩
     obtain ⟨us, hu1, hu2⟩ := fill_sound hr hl hcs (hz3 w κ st.h)
     refine ⟨.agg us.toArray, run_build w t _ _ ?_, us, rfl, hu2⟩
     have hk' : P.underlying t = some (.array m e) := hk
     simp only [Program.built, h1, hk', h4, e1, e2]
     simpa using hu1
    ·exact h.elim
   ·exact h.elim
  ·exact h.elim
 ·exact h.elim
def qqWp (T : TypeId → Option TI) (st : St) (o : Op) (K : AV → Prop) : Prop :=
 match o with
 | .build t parts => buildWp T st t parts.toList K
 | o => qWp T st o K
theorem qq_sound (hT : TOk P T) {o : Op} {K : AV → Prop} (h : qqWp T st o K) (hrep : ∃ F0 L w0 a w κ, RepK F0 L w0 st a w κ) : ∃ r, K r ∧ QY P st o r := by
 unfold qqWp at h
 split at h
 ·rename_i t parts
  obtain ⟨r, hr, hs⟩ := build_sound hT h
  refine ⟨r, hr, fun F0 L w0 a w κ o ho hk => ?_⟩
  obtain ⟨v, h1, h2⟩ := hs F0 L w0 a w κ hk
  exact ⟨v, by simp only [execOp, ho, Sem.run_bind, h1, Result.andThen_ok, Sem.run_pure], h2⟩
 ·exact q_sound hT h hrep
end
end Go.H
namespace Go.H
open Go.RowKit
section
variable {P : Program} {T : TypeId → Option TI} {F0 L : Nat → Prop} {w0 w : World} {st : St} {a : Act} {κ : Con} {hh : List (Nat × Ent)}
def Con.frz (κ : Con) (id : Nat) (e : Ent) : Con := { κ with F := fun b => κ.F b ∨ e.has κ id b }
def SameRows (h h' : List (Nat × Ent)) : Prop := ∀ id e sz ver own es, look h' id = some (.arr e sz ver own es) → ∃ own', look h id = some (.arr e sz ver own' es)
theorem CVRep.frz {h' : List (Nat × Ent)} (hs : SameRows hh h') (id : Nat) (e0 : Ent) {x : CV} {v : Value} (h : CVRep w κ hh x v) : CVRep w (κ.frz id e0) h' x v := by
 cases x with
 | d x => exact Fz.keep (fun _ _ => rfl) (fun b h => .inl h) h
 | nl _ => exact h
 | u => exact h
 | ptr => exact h
 | fn => exact h
 | nst => exact h
 | nep => exact h
 | ref i ver s =>
  obtain ⟨h1, h2, h3, h4⟩ := h
  refine ⟨h1, h2, h3, fun e sz own es hl => ?_⟩
  obtain ⟨own', hl'⟩ := hs _ _ _ _ _ _ hl
  exact h4 e sz own' es hl'
 | ep i ver k j =>
  obtain ⟨h1, h2, h3, h4⟩ := h
  refine ⟨h1, h2, h3, fun e sz own es hl => ?_⟩
  obtain ⟨own', hl'⟩ := hs _ _ _ _ _ _ hl
  exact h4 e sz own' es hl'
theorem CVs.frz {h' : List (Nat × Ent)} (hs : SameRows hh h') (id : Nat) (e0 : Ent) {cs : List CV} {vs : List Value} (h : CVs w κ hh cs vs) : CVs w (κ.frz id e0) h' cs vs :=
 ⟨h.1, fun j c u hc hu => (h.2 j c u hc hu).frz hs id e0⟩
theorem AVRep.frz {h' : List (Nat × Ent)} (hs : SameRows hh h') (id : Nat) (e0 : Ent) {x : AV} {v : Value} (h : AVRep w κ hh x v) : AVRep w (κ.frz id e0) h' x v := by
 cases x with
 | c x => exact CVRep.frz hs id e0 h
 | agg cs => obtain ⟨vs, q, hv⟩ := h; exact ⟨vs, q, hv.frz hs id e0⟩
 | tup xs =>
  obtain ⟨vs, q, hl, hv⟩ := h
  refine ⟨vs, q, hl, fun j x v hx hu => ?_⟩
  have := hv j x v hx hu
  unfold TVRep at *
  split at this
  ·obtain ⟨us, q, hus⟩ := this; exact ⟨us, q, hus.frz hs id e0⟩
  ·exact this.frz hs id e0
 | w x u => exact ⟨h.1, CVRep.frz hs id e0 h.2⟩
 | u => trivial
theorem OwnRep.mono {e sz : Nat} {v : Value} {es : List (List D)} {F F' : Nat → Prop} (h : OwnRep w F e sz v es) (hF : ∀ b, F b → F' b) : OwnRep w F' e sz v es := by
 obtain ⟨xs, ho, hx⟩ := h
 refine ⟨xs, ho, fun i c hc => ⟨(hx i c hc).1, fun j d hd => ?_⟩⟩
 obtain ⟨u, hu, hf⟩ := (hx i c hc).2 j d hd
 exact ⟨u, hu, Fz.keep (fun _ _ => rfl) hF hf⟩
theorem RepK.frz (h : RepK F0 L w0 st a w κ) {id e sz ver : Nat} {own : Ow} {es : List (List D)} (hl : look st.h id = some (.arr e sz ver own es)) :
  RepK F0 L w0 { st with h := lput st.h id (.arr e sz ver .frz es) } a w (κ.frz id (.arr e sz ver own es)) ∧ SameRows st.h (lput st.h id (.arr e sz ver .frz es)) := by
 have hs : SameRows st.h (lput st.h id (.arr e sz ver .frz es)) := by
  intro i e' sz' ver' own' es' hl'
  rw [look_lput] at hl'
  split at hl'
  ·rename_i he; subst he; cases hl'; exact ⟨own, hl⟩
  ·exact ⟨own', hl'⟩
 have hent := h.ents id _ hl
 refine ⟨{ below := h.below, size := h.size, dfs := h.dfs, kn := h.kn, kv := ?_, f0 := fun b hb => .inl (h.f0 b hb), f1 := ?_, f2 := ?_, ents := ?_, new := ?_, excl := ?_, inj := ?_, tmps := ?_ }, hs⟩
 ·intro b hb
  rcases hb with hb | hb
  ·exact h.f1 b hb
  ·cases ho : (Ent.arr e sz ver own es).own with
   | true => exact .inr ((h.excl id _ b hl hb).1 ho)
   | false => exact h.f1 b ((h.excl id _ b hl hb).2.2 ho)
 ·intro b hb
  rcases hb with hb | hb
  ·exact h.f2 b hb
  ·exact hent.lt hb
 ·intro i x hi
  simp only [look_lput] at hi
  split at hi
  ·rename_i he
   subst he
   cases hi
   exact hent.reads
  ·have := h.ents i x hi
   cases x with
   | box ty cs => obtain ⟨vals, h1, h2⟩ := this; exact ⟨vals, h1, h2.frz hs id _⟩
   | arr e' sz' ver' own' es' =>
    cases own' with
    | nest tys => exact this
    | _ => exact OwnRep.mono this (fun b hb => .inl hb)
 ·intro i x hi
  simp only [look_lput] at hi
  split at hi
  ·rename_i he; subst he; exact h.new id _ hl
  ·exact h.new i x hi
 ·intro i x b hi hb
  simp only [look_lput] at hi
  split at hi
  ·rename_i he
   subst he
   cases hi
   have hb' : (κ.val id).ownBlock = some b := (has_frz (κ := κ.frz id (.arr e sz ver own es)) (e := e) (sz := sz) (v := ver) (es := es)).1 hb
   exact ⟨fun hf => by simp [Ent.own, Ow.my] at hf, fun hf => by simp [Ent.own, Ow.my] at hf, fun _ => .inr (has_row hb')⟩
  ·rename_i hne
   have hb' : x.has κ i b := by cases x <;> exact hb
   obtain ⟨h1, h2, h3⟩ := h.excl i x b hi hb'
   refine ⟨h1, fun ho hF => ?_, fun ho => .inl (h3 ho)⟩
   rcases hF with hF | hF
   ·exact h2 ho hF
   ·exact hne (h.inj id i _ _ b hl hi hF hb')
 ·intro i i' x x' b hi hi' hb hb'
  have hx : ∀ {i x}, look (lput st.h id (.arr e sz ver .frz es)) i = some x → x.has (κ.frz id (.arr e sz ver own es)) i b → ∃ y, look st.h i = some y ∧ y.has κ i b := by
   intro i x hi hb
   rw [look_lput] at hi
   split at hi
   ·rename_i he; subst he; cases hi; exact ⟨_, hl, has_row ((has_frz (κ := κ.frz id (.arr e sz ver own es)) (e := e) (sz := sz) (v := ver) (es := es)).1 hb)⟩
   ·exact ⟨x, hi, by cases x <;> exact hb⟩
  obtain ⟨y, h1, h2⟩ := hx hi hb
  obtain ⟨y', h1', h2'⟩ := hx hi' hb'
  exact h.inj i i' y y' b h1 h1' h2 h2'
 ·intro t av ht
  obtain ⟨v, hv, hr⟩ := h.tmps t av ht
  exact ⟨v, hv, hr.frz hs id _⟩
 ·intro i e' sz' ver' own' es' hi
  obtain ⟨o, ho⟩ := hs _ _ _ _ _ _ hi
  exact h.kv _ _ _ _ _ _ ho
@[irreducible] def dPart (es : List (List D)) (o n : Nat) : List (List D) := (es.drop o).take n
theorem dPart_eq (es : List (List D)) (o n : Nat) : dPart es o n = (es.drop o).take n := by unfold dPart; rfl
def partOf (es : List (List D)) (s : Option (Bool × Nat × Nat)) : List (List D) := match s with | none => es | some (_, o, n) => dPart es o n
def frzC (h : List (Nat × Ent)) : CV → Option (D × List (Nat × Ent))
 | .d x => some (x, h)
 | .nl sz => some (.sl sz [], h)
 | .ref id ver s => match look h id with
  | some (.arr e sz v _ es) => match Nat.beq v ver with
   | true => some (.sl sz (partOf es s), lput h id (.arr e sz v .frz es))
   | false => none
  | _ => none
 | _ => none
def frzL (h : List (Nat × Ent)) : List CV → Option (List D × List (Nat × Ent))
 | [] => some ([], h)
 | x :: r => match frzC h x with
  | some (d, h1) => match frzL h1 r with
   | some (ds, h2) => some (d :: ds, h2)
   | none => none
  | none => none
theorem partR (es : List (List D)) (s : Option (Bool × Nat × Nat)) : partOf es s = (es.drop (offR s)).take (lenR es s) := by
 cases s with
 | none => simp [partOf, offR, lenR]
 | some x => exact dPart_eq _ _ _
theorem frzC_sound (h : RepK F0 L w0 st a w κ) {x : CV} {d : D} {h' : List (Nat × Ent)} (hf : frzC st.h x = some (d, h')) :
  ∃ κ', RepK F0 L w0 { st with h := h' } a w κ' ∧ SameRows st.h h' ∧ κ'.bl = κ.bl ∧ κ'.val = κ.val ∧ (∀ b, κ.F b → κ'.F b) ∧ (∀ v, CVRep w κ st.h x v → Fz w κ'.F v d) ∧ ∀ y u, CVRep w κ st.h y u → CVRep w κ' h' y u := by
 cases x with
 | d x =>
  simp only [frzC, Option.some.injEq, Prod.mk.injEq] at hf
  obtain ⟨rfl, rfl⟩ := hf
  exact ⟨κ, h, fun _ _ _ _ own _ hl => ⟨own, hl⟩, rfl, rfl, fun _ h => h, fun v hv => hv, fun _ _ h => h⟩
 | nl sz =>
  simp only [frzC, Option.some.injEq, Prod.mk.injEq] at hf
  obtain ⟨rfl, rfl⟩ := hf
  refine ⟨κ, h, fun _ _ _ _ own _ hl => ⟨own, hl⟩, rfl, rfl, fun _ h => h, fun v hv => ?_, fun _ _ h => h⟩
  cases hv
  exact .sl none 0 0 sz [] (fun _ _ => undef) rfl (Nat.le_refl _) (fun i c hi => by simp at hi) (fun hne => absurd rfl hne) (fun A i c j d hA => by simp at hA) (fun i c j d hi => by simp at hi)
 | ref id ver s =>
  simp only [frzC] at hf
  split at hf
  ·rename_i e sz v own es hl
   split at hf
   ·rename_i hb
    obtain rfl := beq_iff hb
    simp only [Option.some.injEq, Prod.mk.injEq] at hf
    obtain ⟨rfl, rfl⟩ := hf
    obtain ⟨hk, hs⟩ := h.frz hl
    refine ⟨κ.frz id _, hk, hs, rfl, rfl, fun b hb => .inl hb, fun u hu => ?_, fun y u hu => hu.frz hs id _⟩
    obtain ⟨_, _, _, hu⟩ := hu
    obtain ⟨hle, ba, bn, bc, a', c', hv, rfl, hc', ha', _⟩ := hu _ _ _ _ hl
    rw [partR es s]
    obtain ⟨xs, ho, hx⟩ := (h.ents id _ hl).reads
    refine .sl a' (lenR es s) c' sz _ (fun i j => xs.getD ((offR s + i) * sz + j) undef) (by simp; omega) hc' (fun i c hi => ?_) (fun hne => ?_) (fun A i c j d hA hi hj => ?_) (fun i c j d hi hj => ?_)
    ·rw [List.getElem?_take, List.getElem?_drop] at hi
     split at hi
     ·exact (hx _ c hi).1
     ·simp at hi
    ·have hlen : lenR es s ≠ 0 := by intro h0; rw [h0] at hne; simp at hne
     rcases ho.2 with ⟨h1, h2⟩ | ⟨g, cap, cur, h1, _⟩
     ·omega
     ·rw [hv] at h1
      obtain ⟨rfl, rfl, rfl⟩ : ba = some ⟨g, 0, none⟩ ∧ bn = es.length ∧ bc = cap := by simpa using h1
      obtain rfl := ha' hlen
      exact ⟨_, rfl, by rw [add_block]; exact .inr (has_row (by rw [hv]; rfl)), add_spot rfl _⟩
    ·rw [List.getElem?_take, List.getElem?_drop] at hi
     split at hi
     ·obtain ⟨u, hu1, hu2⟩ := (hx _ c hi).2 j d hj
      rcases ho.2 with ⟨h1, h2⟩ | ⟨g, cap, cur, h1, _⟩
      ·have := (List.getElem?_eq_some_iff.1 hi).1; omega
      ·rw [hv] at h1
       obtain ⟨rfl, rfl, rfl⟩ : ba = some ⟨g, 0, none⟩ ∧ bn = es.length ∧ bc = cap := by simpa using h1
       have hlen : lenR es s ≠ 0 := by omega
       have ha2 := ha' hlen
       rw [hA] at ha2
       simp only [Option.map_some, Option.some.injEq] at ha2
       subst ha2
       rw [add_add]
       have hcell := ho.cells (g := g) (by rw [hv]; rfl) _ u hu1
       have e1 : offR s * sz + (i * sz + j) = (offR s + i) * sz + j := by rw [Nat.add_mul, Nat.add_assoc]
       rw [e1, hcell]
       simp [List.getD, hu1]
     ·simp at hi
    ·rw [List.getElem?_take, List.getElem?_drop] at hi
     split at hi
     ·obtain ⟨u, hu1, hu2⟩ := (hx _ c hi).2 j d hj
      have : xs.getD ((offR s + i) * sz + j) undef = u := by simp [List.getD, hu1]
      rw [this]
      exact hu2
     ·simp at hi
   ·simp at hf
  ·simp at hf
 | _ => simp [frzC] at hf
theorem SameRows.refl (h : List (Nat × Ent)) : SameRows h h := fun _ _ _ _ own _ hl => ⟨own, hl⟩
theorem SameRows.trans {h1 h2 h3 : List (Nat × Ent)} (a : SameRows h1 h2) (b : SameRows h2 h3) : SameRows h1 h3 := fun i e sz v own es hl =>
 let ⟨o, ho⟩ := b i e sz v own es hl; a i e sz v o es ho
theorem frzL_sound : ∀ {xs : List CV} {st : St} {κ : Con} {ds : List D} {h' : List (Nat × Ent)} (_ : RepK F0 L w0 st a w κ) (_ : frzL st.h xs = some (ds, h')),
  ∃ κ', RepK F0 L w0 { st with h := h' } a w κ' ∧ SameRows st.h h' ∧ κ'.bl = κ.bl ∧ κ'.val = κ.val ∧ (∀ b, κ.F b → κ'.F b) ∧ ds.length = xs.length ∧ (∀ vs, CVs w κ st.h xs vs → ∀ (j : Nat) (d : D) (u : Value), ds[j]? = some d → vs[j]? = some u → Fz w κ'.F u d) ∧
   ∀ y u, CVRep w κ st.h y u → CVRep w κ' h' y u
 | [], st, κ, ds, h', h, hf => by
  simp only [frzL, Option.some.injEq, Prod.mk.injEq] at hf
  obtain ⟨rfl, rfl⟩ := hf
  exact ⟨κ, h, SameRows.refl _, rfl, rfl, fun _ h => h, rfl, fun vs _ j d u hd => by simp at hd, fun _ _ h => h⟩
 | x :: xs, st, κ, ds, h', h, hf => by
  simp only [frzL] at hf
  split at hf
  ·rename_i d h1 hx
   split at hf
   ·rename_i ds' h2 hr
    simp only [Option.some.injEq, Prod.mk.injEq] at hf
    obtain ⟨rfl, rfl⟩ := hf
    obtain ⟨κ1, k1, s1, b1, v1, f1, q1, m1⟩ := frzC_sound h hx
    obtain ⟨κ2, k2, s2, b2, v2, f2, l2, q2, m2⟩ := frzL_sound (st := { st with h := h1 }) k1 hr
    refine ⟨κ2, k2, s1.trans s2, b2.trans b1, v2.trans v1, fun b hb => f2 b (f1 b hb), by simp [l2], fun vs hvs j d' u hd hu => ?_, fun y u hy => m2 y u (m1 y u hy)⟩
    match vs, hvs with
    | v :: vs, hvs =>
     cases j with
     | zero =>
      simp at hd hu
      subst hd; subst hu
      exact Fz.keep (fun _ _ => rfl) f2 (q1 _ (hvs.2 0 x v rfl rfl))
     | succ j =>
      refine q2 vs ⟨by have := hvs.1; simpa using this, fun k c w' hc hw => ?_⟩ j d' u (by simpa using hd) (by simpa using hu)
      exact m1 c w' (hvs.2 (k + 1) c w' (by simpa using hc) (by simpa using hw))
    | [], hvs => simp at hu
   ·simp at hf
  ·simp at hf
end
end Go.H
namespace Go.H
open Go.RowKit
def OpTri (P : Program) (o : Oper) (st : St) (K : St → Prop) : Prop :=
 ∀ F0 L w0 a w, Rep F0 L w0 st a w → ∀ (next : Act → World → Prop) (Q : Exit → Act → World → Prop), (∀ st' a' w', K st' → Rep F0 L w0 st' a' w' → next a' w') → o.wp P a w next Q
section
variable {P : Program} {T : TypeId → Option TI} {F0 L : Nat → Prop} {w0 w : World} {st : St} {a : Act} {κ : Con} {hh : List (Nat × Ent)}
theorem opTri_value {o : Oper} {st : St} {K : St → Prop} (h : ∀ F0 L w0 a w κ, RepK F0 L w0 st a w κ → ∃ v w', (execOp a.eval o).run P w = .ok (.value v) w' ∧ ∃ st' κ', K st' ∧ RepK F0 L w0 st' (a.put o.dst v) w' κ') : OpTri P o st K := by
 intro F0 L w0 a w ⟨κ, hr⟩ next Q hn
 obtain ⟨v, w', h1, st', κ', h2, h3⟩ := h F0 L w0 a w κ hr
 unfold Oper.wp
 rw [h1]
 exact hn st' _ w' h2 ⟨κ', h3⟩
theorem opTri_skip {o : Oper} {st : St} {K : St → Prop} (h : ∀ F0 L w0 a w κ, RepK F0 L w0 st a w κ → ∃ w', (execOp a.eval o).run P w = .ok .skip w' ∧ ∃ st' κ', K st' ∧ RepK F0 L w0 st' (a.put o.dst undef) w' κ') : OpTri P o st K := by
 intro F0 L w0 a w ⟨κ, hr⟩ next Q hn
 obtain ⟨w', h1, st', κ', h2, h3⟩ := h F0 L w0 a w κ hr
 unfold Oper.wp
 rw [h1]
 exact hn st' _ w' h2 ⟨κ', h3⟩
theorem quiet_tri (hT : TOk P T) {o : Oper} {K : St → Prop} (h : qqWp T st o.op fun av => setT st o.dst av K) : OpTri P o st K := by
 intro F0 L w0 a w hrep next Q hn
 obtain ⟨κ, hr⟩ := hrep
 obtain ⟨r, hs, hq⟩ := qq_sound hT h ⟨F0, L, w0, a, w, κ, hr⟩
 obtain ⟨v, hv, hav⟩ := hq F0 L w0 a w κ o rfl hr
 obtain ⟨st', hK, hr'⟩ := setT_sound hs hr hav
 unfold Oper.wp
 rw [hv]
 exact hn st' _ w hK ⟨κ, hr'⟩
def boxWp (st : St) (ty : TypeId) (cs : List CV) (dst : Option Tmp) (K : St → Prop) : Prop := setT (st.push (.box ty cs)) dst (.c (.ptr st.n 0)) K
theorem box_put (h : RepK F0 L w0 st a w κ) {ty : TypeId} {cs : List CV} {vals : List Value} (hv : CVs w κ st.h cs vals) {dst : Option Tmp} {K : St → Prop} (hK : boxWp st ty cs dst K) :
  ∃ st' κ', K st' ∧ RepK F0 L w0 st' (a.put dst (.pointer (some ⟨w.heap.size, 0, none⟩))) { w with heap := w.heap.push (.cells vals.toArray ty (0, 0)) } κ' := by
 have h' := h.newBox (ty := ty) hv
 obtain ⟨st', h1, h2⟩ := setT_sound hK h' (v := .pointer (some ⟨w.heap.size, 0, none⟩)) ⟨by simp only [Con.push]; rw [h.kn]; omega, by simp only [Con.push, h.kn, if_true]⟩
 exact ⟨st', _, h1, h2⟩
theorem box_tri {o : Oper} {ty : TypeId} {x : Operand} (ho : o.op = .box ty x) {K : St → Prop} (h : match avCells (evO st x) with | some cs => boxWp st ty cs o.dst K | none => False) : OpTri P o st K := by
 split at h
 ·rename_i cs hcs
  refine opTri_value fun F0 L w0 a w κ hr => ?_
  have hv := avCells_sound hcs (evO_rep hr x)
  obtain ⟨st', κ', h1, h2⟩ := box_put hr hv h
  refine ⟨_, _, ?_, st', κ', h1, h2⟩
  simp only [execOp, ho, Instr.box, newVar, newRow, Sem.run_bind, run_newObj, Result.andThen_ok, Sem.run_pure]
 ·exact h.elim
theorem alloc_tri (hT : TOk P T) {o : Oper} {ty : TypeId} (ho : o.op = .alloc ty) {K : St → Prop} (h : match T ty with | some ti => boxWp st ty ti.zero o.dst K | none => False) : OpTri P o st K := by
 split at h
 ·rename_i ti hti
  obtain ⟨z, h1, h2, h3⟩ := zero_sound (hT _ _ hti)
  refine opTri_value fun F0 L w0 a w κ hr => ?_
  obtain ⟨st', κ', h4, h5⟩ := box_put hr (h3 w κ st.h) h
  refine ⟨_, _, ?_, st', κ', h4, h5⟩
  simp only [execOp, ho, Instr.alloc, newVar, newRow, Sem.run_bind, h1, run_newObj, Result.andThen_ok, Sem.run_pure]
 ·exact h.elim
def chunk {α : Type} (sz : Nat) : Nat → List α → List (List α)
 | 0, _ => []
 | n + 1, l => l.take sz :: chunk sz n (l.drop sz)
theorem chunk_length {α : Type} (sz : Nat) : ∀ (n : Nat) (l : List α), (chunk sz n l).length = n
 | 0, _ => rfl
 | n + 1, l => by simp [chunk, chunk_length sz n]
theorem chunk_get {α : Type} (sz : Nat) : ∀ (n : Nat) (l : List α) (_ : l.length = n * sz) (i : Nat) (c : List α), (chunk sz n l)[i]? = some c → c.length = sz ∧ ∀ (j : Nat) (d : α), c[j]? = some d → l[i * sz + j]? = some d
 | 0, _, _, i, c, h => by simp [chunk] at h
 | n + 1, l, hl, 0, c, h => by
  simp only [chunk, List.getElem?_cons_zero, Option.some.injEq] at h
  subst h
  refine ⟨by simp [hl, Nat.add_mul], fun j d hd => ?_⟩
  rw [List.getElem?_take] at hd
  split at hd
  ·simpa using hd
  ·simp at hd
 | n + 1, l, hl, i + 1, c, h => by
  simp only [chunk, List.getElem?_cons_succ] at h
  obtain ⟨h1, h2⟩ := chunk_get sz n (l.drop sz) (by simp [hl, Nat.add_mul]) i c h
  refine ⟨h1, fun j d hd => ?_⟩
  have := h2 j d hd
  rw [List.getElem?_drop] at this
  rw [Nat.add_mul, Nat.one_mul]
  have e : sz + (i * sz + j) = i * sz + sz + j := by omega
  rwa [e] at this
theorem ownRep_new {w' : World} {F : Nat → Prop} {e sz n cap : Nat} {cells : List Value} (hn : n ≤ cap) (hm : cap ≤ maxLen) (hs : cells.length = cap * sz) (g : w'.heap[w.heap.size]? = some (.cells cells.toArray e (0, 0)))
  {es : List (List D)} (hes : es.length = n) (hc : ∀ (i : Nat) (c : List D), es[i]? = some c → c.length = sz ∧ ∀ (j : Nat) (d : D), c[j]? = some d → ∃ u, cells[i * sz + j]? = some u ∧ Fz w' F u d) :
  OwnRep w' F e sz (.slice (some ⟨w.heap.size, 0, none⟩) n cap) es := by
 refine ⟨cells.take (n * sz), ⟨?_, .inr ⟨w.heap.size, cap, cells.toArray, by rw [hes], Nat.zero_le _, g, by omega, hm, by simp [hs], by simp [hes]⟩⟩, fun i c hi => ?_⟩
 ·rw [List.length_take, hs, hes]
  exact Nat.min_eq_left (Nat.mul_le_mul_right _ hn)
 ·obtain ⟨h1, h2⟩ := hc i c hi
  refine ⟨h1, fun j d hj => ?_⟩
  obtain ⟨u, hu, hf⟩ := h2 j d hj
  refine ⟨u, ?_, hf⟩
  have hi' : i < n := by rw [← hes]; exact (List.getElem?_eq_some_iff.1 hi).1
  have hj' : j < sz := by rw [← h1]; exact (List.getElem?_eq_some_iff.1 hj).1
  have hlt : i * sz + j < n * sz := by
   have h3 : (i + 1) * sz ≤ n * sz := Nat.mul_le_mul_right _ hi'
   rw [Nat.add_mul, Nat.one_mul] at h3
   omega
  rw [List.getElem?_take, if_pos hlt]
  exact hu
def litWp (T : TypeId → Option TI) (st : St) (t : TypeId) (len : Nat) (parts : List (Nat × Operand)) (dst : Option Tmp) (K : St → Prop) : Prop :=
 match T t with
 | some ti => match ti.k with
  | .slice e => match T e with
   | some te => match len with
    | 0 => match parts with | _ :: _ => False | [] => setT (st.push (.arr e te.size 0 .own [])) dst (.c (.ref st.n 0 none)) K
    | len + 1 => match Nat.beq te.size 0, Nat.ble ((len + 1) * te.size) 16777216, partsC st parts with
     | false, true, some l => match fillC (fun i => some (i * te.size, te.size)) ((List.range ((len + 1) * te.size)).map fun i => te.zero.getD (i % te.size) .u) l with
      | some cs => match frzL st.h cs with
       | some (ds, h') => setT (St.push { st with h := h' } (.arr e te.size 0 .own (chunk te.size (len + 1) ds))) dst (.c (.ref st.n 0 none)) K
       | none => False
      | none => False
     | _, _, _ => False
   | none => False
  | _ => False
 | none => False
theorem ref_whole {w' : World} {st : St} {e sz : Nat} {own : Ow} {es : List (List D)} {v : Value} (hn : κ.n = st.n) (hok : CVOk st.h st.n) {A : Option Addr} {n c : Nat} (hvs : v = .slice A n c) (hlen : n = es.length) (hc : n ≤ c) :
  CVRep w' (κ.push 0 v) (st.h ++ [(st.n, Ent.arr e sz 0 own es)]) (.ref st.n 0 none) v := by
 subst hvs
 refine ⟨⟨by simp only [Con.push]; omega, Nat.zero_le _⟩, rfl, rfl, fun e' sz' own' es' hl => ?_⟩
 rw [look_push _ _ _ _ hok, if_pos rfl] at hl
 cases hl
 refine ⟨by simp [offR, lenR], A, n, c, A, c, by simp only [Con.push, hn, if_true], by simp [lenR, hlen], by simp only [lenR]; omega, fun _ => ?_, fun _ => ⟨rfl, rfl, rfl⟩⟩
 cases A with
 | none => rfl
 | some A => simp [offR, Addr.add]
theorem RepK.ok (h : RepK F0 L w0 st a w κ) : CVOk st.h st.n := fun id e he => h.new id e he
theorem zeros_sound {te : TI} {e : TypeId} (hf : te.fits P e) (m : Nat) (hm : te.size ≠ 0) : ∃ z, (∀ w : World, (zeroValue e).run P w = .ok z w) ∧ ∀ (w : World) (κ : Con) (hh : List (Nat × Ent)),
  CVs w κ hh ((List.range m).map fun i => te.zero.getD (i % te.size) .u) ((List.range m).map fun i => z.cells[i % z.cells.size]!) := by
 obtain ⟨z, h1, h2, h3⟩ := zero_sound hf
 refine ⟨z, h1, fun w κ hh => ⟨by simp, fun j c u hc hu => ?_⟩⟩
 obtain ⟨hl, hz⟩ := h3 w κ hh
 simp only [List.getElem?_map, Option.map_eq_some_iff] at hc hu
 obtain ⟨k, hk, rfl⟩ := hc
 obtain ⟨k', hk', rfl⟩ := hu
 rw [hk] at hk'
 cases hk'
 have hlt : k % te.size < te.size := Nat.mod_lt _ (Nat.pos_of_ne_zero hm)
 have hl2 : te.zero.length = te.size := by rw [← hl]; simpa using h2
 refine hz (k % te.size) _ _ ?_ ?_
 ·simp [List.getD, List.getElem?_eq_getElem (show k % te.size < te.zero.length by omega)]
 ·rw [h2]
  have : k % te.size < z.cells.size := by omega
  simp [this]
theorem arr_put (h : RepK F0 L w0 st a w κ) {w' : World} (g : Grew w w') {e sz : Nat} {es : List (List D)} {n c : Nat} {A : Option Addr} (ho : OwnRep w' κ.F e sz (.slice A n c) es) (hb : ∀ b, (Value.slice A n c).ownBlock = some b → w.heap.size ≤ b)
  (hlen : n = es.length) (hc : n ≤ c) {dst : Option Tmp} {K : St → Prop} (hK : setT (st.push (.arr e sz 0 .own es)) dst (.c (.ref st.n 0 none)) K) :
  ∃ st' κ', K st' ∧ RepK F0 L w0 st' (a.put dst (.slice A n c)) w' κ' := by
 have h' := h.newArr g ho hb
 obtain ⟨st', h1, h2⟩ := setT_sound hK h' (v := .slice A n c) (ref_whole (w' := w') h.kn h.ok rfl hlen hc)
 exact ⟨st', _, h1, h2⟩
theorem fillC_length {place : Nat → Option (Nat × Nat)} : ∀ {l : List (Nat × List CV)} {cs res : List CV}, fillC place cs l = some res → res.length = cs.length
 | [], cs, res, h => by simp only [fillC, Option.some.injEq] at h; rw [h]
 | (i, v) :: r, cs, res, h => by
  simp only [fillC] at h
  split at h
  ·simp at h
  ·split at h
   ·rw [fillC_length h, setL_length]
   ·simp at h
theorem lit_tri (hT : TOk P T) {o : Oper} {t : TypeId} {len : Nat} {parts : Array (Nat × Operand)} (ho : o.op = .buildSlice t len parts) {K : St → Prop} (h : litWp T st t len parts.toList o.dst K) : OpTri P o st K := by
 unfold litWp at h
 split at h
 ·rename_i ti hti
  have hk := (hT _ _ hti).k
  split at h
  ·rename_i e hke
   rw [hke] at hk
   have hk' : P.underlying t = some (.slice e) := hk
   split at h
   ·rename_i te hte
    have hfe := hT _ _ hte
    obtain ⟨info, z, i1, i2, i3, i4, i5, i6, i7⟩ := hfe.info
    split at h
    ·
     split at h
     ·exact h.elim
     rename_i hp
     have hpp : parts = #[] := by apply Array.toList_inj.1; simpa using hp
     subst hpp
     refine opTri_value fun F0 L w0 a w κ hr => ?_
     have g := Grew.alloc w (.cells (#[] : Array Value) e (0, 0))
     obtain ⟨st', κ', h1, h2⟩ := arr_put hr g (e := e) (sz := te.size) (es := []) (n := 0) (c := 0) (A := some ⟨w.heap.size, 0, none⟩)
      (ownRep_new (cells := []) (Nat.le_refl _) (by simp [maxLen]) (by simp) (by simp) rfl (fun i c hi => by simp at hi)) (fun b hb => by cases hb; exact Nat.le_refl _) rfl (Nat.le_refl _) h
     refine ⟨_, _, ?_, st', κ', h1, h2⟩
     simp [execOp, ho, Instr.buildSlice, run_underlying hk', run_size hfe, Instr.fill, newRow]
     congr 2
     apply Array.eq_empty_of_size_eq_zero
     simp
    ·rename_i len'
     split at h
     ·rename_i l hb1 hb2 hl
      split at h
      ·rename_i cs hcs
       split at h
       ·rename_i ds h' hds
        have hsz : te.size ≠ 0 := fun e => by rw [e] at hb1; simp at hb1
        have hle := Nat.le_of_ble_eq_true hb2
        refine opTri_value fun F0 L w0 a w κ hr => ?_
        obtain ⟨z', z1, z2⟩ := zeros_sound hfe ((len' + 1) * te.size) hsz
        have hzz : z' = z := by
         have := z1 default
         simp [zeroValue, typeInfo, i1, i4] at this
         exact this.symm
        subst hzz
        obtain ⟨us, u1, u2⟩ := fill_sound hr hl hcs (z2 w κ st.h)
        obtain ⟨κ1, k1, s1, b1, v1, f1, l1, q1, m1⟩ := frzL_sound hr hds
        have g := Grew.alloc w (.cells us.toArray e (0, 0))
        have hlen : us.length = (len' + 1) * te.size := by
         rw [u2.1, fillC_length hcs]
         simp
        have hdl : ds.length = (len' + 1) * te.size := by rw [l1, ← u2.1, hlen]
        obtain ⟨st', κ', h1, h2⟩ := arr_put k1 g (e := e) (sz := te.size) (es := chunk te.size (len' + 1) ds) (n := len' + 1) (c := len' + 1) (A := some ⟨w.heap.size, 0, none⟩)
         (ownRep_new (cells := us) (Nat.le_refl _) (by simp only [maxLen]; have := Nat.le_mul_of_pos_right (len' + 1) (Nat.pos_of_ne_zero hsz); omega) hlen (by simp) (chunk_length _ _ _) (fun i c hi => by
          obtain ⟨c1, c2⟩ := chunk_get te.size (len' + 1) ds hdl i c hi
          refine ⟨c1, fun j d hj => ?_⟩
          have hd := c2 j d hj
          have hlt : i * te.size + j < us.length := by rw [hlen, ← hdl]; exact (List.getElem?_eq_some_iff.1 hd).1
          refine ⟨us[i * te.size + j], List.getElem?_eq_getElem hlt, ?_⟩
          exact Fz.keep (fun b hb => g.block b (k1.f2 b hb)) (fun _ h => h) (q1 us u2 _ d _ hd (List.getElem?_eq_getElem hlt)))) (fun b hb => by cases hb; exact Nat.le_refl _) (chunk_length _ _ _).symm (Nat.le_refl _) h
        refine ⟨_, _, ?_, st', κ', h1, h2⟩
        have hrun := run_buildSlice (P := P) w t e (len' + 1) (parts.map fun (i, x) => (i, a.eval x)) us.toArray info z' hk' i1 i4 (by rw [i2]; omega) (by rw [i2]; exact Nat.mul_ne_zero (by omega) hsz) (by
         rw [i2]
         have e1 : ((Array.range ((len' + 1) * te.size)).map (z'.cells[· % z'.cells.size]!)) = ((List.range ((len' + 1) * te.size)).map fun i => z'.cells[i % z'.cells.size]!).toArray := by
          apply Array.toList_inj.1; simp
         rw [e1]
         simpa using u1)
        simp only [execOp, ho, Sem.run_bind, hrun, Result.andThen_ok, Sem.run_pure]
        rfl
       ·exact h.elim
      ·exact h.elim
     ·exact h.elim
   ·exact h.elim
  ·exact h.elim
 ·exact h.elim
end
end Go.H
namespace Go.H
open Go.RowKit
section
variable {P : Program} {T : TypeId → Option TI} {F0 L : Nat → Prop} {w0 w w' : World} {st : St} {a : Act} {κ κ' : Con} {hh : List (Nat × Ent)}
theorem CVs.map {h' : List (Nat × Ent)} (hcv : ∀ x v, CVRep w κ hh x v → CVRep w' κ' h' x v) {cs : List CV} {vs : List Value} (h : CVs w κ hh cs vs) : CVs w' κ' h' cs vs :=
 ⟨h.1, fun j c u hc hu => hcv _ _ (h.2 j c u hc hu)⟩
theorem AVRep.map {h' : List (Nat × Ent)} (hcv : ∀ x v, CVRep w κ hh x v → CVRep w' κ' h' x v) {x : AV} {v : Value} (h : AVRep w κ hh x v) : AVRep w' κ' h' x v := by
 cases x with
 | c x => exact hcv _ _ h
 | agg cs => obtain ⟨vs, q, hv⟩ := h; exact ⟨vs, q, hv.map hcv⟩
 | tup xs =>
  obtain ⟨vs, q, hl, hv⟩ := h
  refine ⟨vs, q, hl, fun j x v hx hu => ?_⟩
  have := hv j x v hx hu
  unfold TVRep at *
  split at this
  ·obtain ⟨us, q, hus⟩ := this; exact ⟨us, q, hus.map hcv⟩
  ·exact this.map hcv
 | w x u => exact ⟨h.1, hcv _ _ h.2⟩
 | u => trivial
theorem RepK.upd (h : RepK F0 L w0 st a w κ) {id : Nat} {e e' : Ent} (hl : look st.h id = some e) (hown : e.own = true) (hown' : e'.own = true)
  (hF : κ'.F = κ.F) (hbl : κ'.bl = κ.bl) (hn : κ'.n = κ.n) (hother : ∀ i, i ≠ id → κ'.val i = κ.val i ∧ κ'.vr i = κ.vr i ∧ κ'.nv i = κ.nv i)
  (g1 : w'.os = w.os) (g2 : w'.tape = w.tape) (g3 : w'.output = w.output) (g4 : w.heap.size ≤ w'.heap.size) (g5 : ∀ k, k < w.heap.size → ¬ e.has κ id k → w'.heap[k]? = w.heap[k]?)
  (he' : EntRep w' κ' (lput st.h id e') id e') (hb' : ∀ b, e'.has κ' id b → e.has κ id b ∨ w.heap.size ≤ b)
  (hcv : ∀ x v, CVRep w κ st.h x v → CVRep w κ' (lput st.h id e') x v) (hv' : ∀ e0 sz ver own es, e' = .arr e0 sz ver own es → κ'.vr id = ver) :
  RepK F0 L w0 { st with h := lput st.h id e' } a w' κ' := by
 have hFk : ∀ b, κ'.F b → w'.heap[b]? = w.heap[b]? := fun b hb => by
  rw [hF] at hb
  refine g5 b (h.f2 b hb) (fun he => ?_)
  exact (h.excl id e b hl he).2.1 hown hb
 have hcv' : ∀ x v, CVRep w κ st.h x v → CVRep w' κ' (lput st.h id e') x v := fun x v hx => (hcv x v hx).keep hFk
 have hblk : ∀ (i : Nat) (x : Ent) (b : Nat), i ≠ id → x.has κ' i b = x.has κ i b := fun i x b hi => by
  cases x <;> simp only [Ent.has, Con.fp, hbl, (hother i hi).1, (hother i hi).2.2]
 have hlook : ∀ (i : Nat) (x : Ent), look (lput st.h id e') i = some x → (i = id ∧ x = e') ∨ (i ≠ id ∧ look st.h i = some x) := fun i x hi => by
  rw [look_lput] at hi
  split at hi
  ·rename_i he; cases hi; exact .inl ⟨he.symm, rfl⟩
  ·rename_i hne; exact .inr ⟨fun h => hne h.symm, hi⟩
 refine { below := ?_, f0 := fun b hb => by rw [hF]; exact h.f0 b hb, f1 := fun b hb => h.f1 b (hF ▸ hb), f2 := fun b hb => Nat.lt_of_lt_of_le (h.f2 b (hF ▸ hb)) g4, ents := ?_, new := ?_, excl := ?_, inj := ?_, tmps := ?_, size := h.size, dfs := h.dfs, kn := hn.trans h.kn, kv := ?_ }
 ·refine h.below.step g1 g2 g3 g4 fun k hk hL => g5 k (Nat.lt_of_lt_of_le hk h.below.size) (fun he => ?_)
  rcases (h.excl id e k hl he).1 hown with q | q
  ·omega
  ·exact hL q
 ·intro i x hi
  rcases hlook i x hi with ⟨rfl, rfl⟩ | ⟨hne, hi'⟩
  ·exact he'
  ·have hx := h.ents i x hi'
   have hkeep : ∀ b, x.has κ i b → w'.heap[b]? = w.heap[b]? := fun b hb => g5 b (hx.lt hb) (fun he => hne (h.inj i id x e b hi' hl hb he))
   cases x with
   | box ty cs =>
    obtain ⟨vals, h1, h2⟩ := hx
    exact ⟨vals, by rw [hbl, hkeep _ rfl]; exact h1, h2.map hcv'⟩
   | arr e0 sz ver own es =>
    cases own with
    | nest tys =>
     show NestRep _ _ _ _ _ _ _
     rw [(hother i hne).1, (hother i hne).2.2]
     exact NestRep.keep hx (fun b hb => hkeep b (has_nest.2 hb))
    | _ =>
     show OwnRep _ _ _ _ _ _
     rw [(hother i hne).1]
     have hx2 : OwnRep w κ'.F e0 sz (κ.val i) es := by rw [hF]; exact hx
     exact OwnRep.keep hx2 hFk (fun b hb => hkeep b (has_row hb))
 ·intro i x hi
  rcases hlook i x hi with ⟨rfl, rfl⟩ | ⟨_, hi'⟩
  ·exact h.new i e hl
  ·exact h.new i x hi'
 ·intro i x b hi hb
  rcases hlook i x hi with ⟨rfl, rfl⟩ | ⟨hne, hi'⟩
  ·rcases hb' b hb with hb1 | hb1
   ·have := h.excl i e b hl hb1
    exact ⟨fun _ => this.1 hown, fun _ => hF ▸ this.2.1 hown, fun hf => by rw [hown'] at hf; cases hf⟩
   ·refine ⟨fun _ => .inl (Nat.le_trans h.below.size hb1), fun _ hf => ?_, fun hf => by rw [hown'] at hf; cases hf⟩
    exact absurd (h.f2 b (hF ▸ hf)) (by omega)
  ·rw [hblk i x b hne] at hb
   rw [hF]
   exact h.excl i x b hi' hb
 ·intro i i' x x' b hi hi' hb1 hb2
  rcases hlook i x hi with ⟨rfl, rfl⟩ | ⟨hne, hj⟩ <;> rcases hlook i' x' hi' with ⟨rfl, rfl⟩ | ⟨hne', hj'⟩
  ·rfl
  ·rw [hblk i' x' b hne'] at hb2
   rcases hb' b hb1 with hb3 | hb3
   ·exact h.inj i i' e x' b hl hj' hb3 hb2
   ·have := (h.ents i' x' hj').lt hb2; omega
  ·rw [hblk i x b hne] at hb1
   rcases hb' b hb2 with hb3 | hb3
   ·exact h.inj i i' x e b hj hl hb1 hb3
   ·have := (h.ents i x hj).lt hb1; omega
  ·rw [hblk i x b hne] at hb1
   rw [hblk i' x' b hne'] at hb2
   exact h.inj i i' x x' b hj hj' hb1 hb2
 ·intro t av ht
  obtain ⟨v, hv, hr⟩ := h.tmps t av ht
  exact ⟨v, hv, hr.map hcv'⟩
 ·intro i e0 sz ver own es hi
  rcases hlook i _ hi with ⟨rfl, he⟩ | ⟨hne, hi'⟩
  ·exact hv' _ _ _ _ _ he.symm
  ·rw [(hother i hne).2.1]
   exact h.kv _ _ _ _ _ _ hi'
theorem cv_same {h' : List (Nat × Ent)} (hn : κ'.n = κ.n) (hbl : κ'.bl = κ.bl) (hF : κ'.F = κ.F) (hvr : κ'.vr = κ.vr) (hval : κ'.val = κ.val) (hnv : κ'.nv = κ.nv)
  (hs : ∀ i e sz ver own es, look h' i = some (.arr e sz ver own es) → ∃ own' es0, look hh i = some (.arr e sz ver own' es0) ∧ es0.length = es.length) {x : CV} {v : Value} (h : CVRep w κ hh x v) : CVRep w κ' h' x v := by
 cases x with
 | d x => show Fz w κ'.F v x; rw [hF]; exact h
 | nl _ => exact h
 | u => exact h
 | ptr id off => show id < κ'.n ∧ _; rw [hn, hbl]; exact h
 | fn f caps => show (∀ p ∈ caps, p.1 < κ'.n) ∧ _; rw [hn, hbl]; exact h
 | ref i ver s =>
  obtain ⟨h1, h2, h3, h4⟩ := h
  refine ⟨by rw [hn, hvr]; exact h1, h2, h3, fun e sz own es hl => ?_⟩
  obtain ⟨own', es0, hl', hlen⟩ := hs _ _ _ _ _ _ hl
  have := h4 e sz own' es0 hl'
  rw [hval]
  have e1 : lenR es0 s = lenR es s := by cases s <;> simp [lenR, hlen]
  rw [← hlen, ← e1]
  exact this
 | nst i ver p => show (i < κ'.n ∧ ver ≤ κ'.vr i) ∧ _ ∧ _ ∧ (κ'.vr i = ver → κ'.nv i p = some v); rw [hn, hvr, hnv]; exact h
 | nep i ver p q => show (i < κ'.n ∧ ver ≤ κ'.vr i) ∧ _ ∧ _ ∧ (κ'.vr i = ver → ∃ A n c, κ'.nv i p = some (.slice (some A) n c) ∧ v = .pointer (some (A.add q))); rw [hn, hvr, hnv]; exact h
 | ep i ver k j =>
  obtain ⟨h1, h2, h3, h4⟩ := h
  refine ⟨by rw [hn, hvr]; exact h1, h2, h3, fun e sz own es hl => ?_⟩
  obtain ⟨own', es0, hl', hlen⟩ := hs _ _ _ _ _ _ hl
  have := h4 e sz own' es0 hl'
  rw [hval, ← hlen]
  exact this
def over {α : Type} (cs : List α) (off : Nat) (new : List α) : List α := cs.take off ++ new ++ cs.drop (off + new.length)
theorem over_length {α : Type} (cs : List α) (off : Nat) (new : List α) (h : off + new.length ≤ cs.length) : (over cs off new).length = cs.length := by
 simp [over]; omega
theorem over_get {α : Type} (cs : List α) (off : Nat) (new : List α) (h : off + new.length ≤ cs.length) (j : Nat) :
  (over cs off new)[j]? = if off ≤ j ∧ j < off + new.length then new[j - off]? else cs[j]? := by
 unfold over
 rw [List.append_assoc, List.getElem?_append]
 have hl : (cs.take off).length = off := by simp; omega
 rw [hl]
 split
 ·rename_i h1
  rw [if_neg (by omega), List.getElem?_take, if_pos h1]
 ·rename_i h1
  rw [List.getElem?_append]
  split
  ·rename_i h2
   rw [if_pos (by omega)]
  ·rename_i h2
   rw [if_neg (by omega), List.getElem?_drop]
   congr 1; omega
theorem CVs.over {cs new : List CV} {vs us : List Value} (h : CVs w κ hh cs vs) (hn : CVs w κ hh new us) {off : Nat} (hle : off + new.length ≤ cs.length) : CVs w κ hh (over cs off new) (Go.H.over vs off us) := by
 have hle' : off + us.length ≤ vs.length := by rw [hn.1, h.1]; exact hle
 refine ⟨by rw [over_length _ _ _ hle', over_length _ _ _ hle, h.1], fun j c u hc hu => ?_⟩
 rw [over_get _ _ _ hle] at hc
 rw [over_get _ _ _ hle', hn.1] at hu
 split at hc
 ·rename_i hj
  rw [if_pos hj] at hu
  exact hn.2 _ c u hc hu
 ·rename_i hj
  rw [if_neg hj] at hu
  exact h.2 _ c u hc hu
def storeWp (T : TypeId → Option TI) (st : St) (t : TypeId) (addr val : AV) (K : St → Prop) : Prop :=
 match T t, avCells val with
 | some ti, some new => match Nat.beq new.length ti.size with
  | false => False
  | true => match addr with
   | .c (.ptr id off) => match look st.h id with
    | some (.box ty cs) => match Nat.ble (off + new.length) cs.length with
     | true => K { st with h := lput st.h id (.box ty (over cs off new)) }
     | false => False
    | _ => False
   | .c (.ep id ver i j) => match frzL st.h new with
    | some (ds, h') => match look h' id with
     | some (.arr e sz v .own es) => match Nat.beq v ver with
      | true => ∀ c, es[i]? = some c → j + ds.length ≤ c.length ∧ K { st with h := lput h' id (.arr e sz v .own (es.set i (over c j ds))) }
      | false => False
     | _ => False
    | none => False
   | _ => False
 | _, _ => False
theorem CVs.ones {cs : List CV} {vs : List Value} (h : CVs w κ hh cs vs) : ∀ v ∈ vs, v.oneCell' = true := by
 intro v hv
 obtain ⟨j, hj⟩ := List.getElem?_of_mem hv
 have hlt : j < cs.length := by rw [← h.1]; exact (List.getElem?_eq_some_iff.1 hj).1
 exact (CVRep.one (h.2 j _ v (List.getElem?_eq_getElem hlt) hj)).1
theorem run_storeVar_at {t : TypeId} {ti : TI} (hf : ti.fits P t) {v : Value} (hs : v.cells.size = ti.size) {g o ty : Nat} {cur : List Value} (hg : w.heap[g]? = some (.cells cur.toArray ty (0, 0)))
  (hle : o + v.cells.size ≤ cur.length) (h1 : ∀ u ∈ v.cells.toList, u.oneCell' = true) :
  (storeVar t ⟨g, o, none⟩ v).run P w = .ok () (w.setRow g (over cur o v.cells.toList).toArray) := by
 have hst := run_storeCells_at P g o ty v.cells.toList 0 cur.toArray w hg (by simpa using hle) h1
 simp only [Nat.add_zero] at hst
 simp only [storeVar, Sem.run_bind, run_size hf, Result.andThen_ok, hs, ne_eq, not_true_eq_false, if_false]
 exact hst
theorem store_tri (hT : TOk P T) {o : Oper} {t : TypeId} {x y : Operand} (ho : o.op = .store t x y) (hd : o.dst = none) {K : St → Prop} (h : storeWp T st t (evO st x) (evO st y) K) : OpTri P o st K := by
 unfold storeWp at h
 split at h
 ·rename_i ti new hti hnew
  have hf := hT _ _ hti
  split at h
  ·exact h.elim
  ·rename_i hb
   have hsz := beq_iff hb
   split at h
   ·
    rename_i id off hx
    split at h
    ·rename_i ty cs hl
     split at h
     ·rename_i hb2
      have hle := Nat.le_of_ble_eq_true hb2
      refine opTri_skip fun F0 L w0 a w κ hr => ?_
      have hv := avCells_sound hnew (evO_rep hr y)
      have hp := evO_rep hr x
      rw [hx] at hp
      obtain ⟨hn, hp⟩ := hp
      obtain ⟨vals, hg, hvals⟩ := hr.ents id _ hl
      have hvs : (a.eval y).cells.size = new.length := by rw [← hv.1]; simp
      have hrun := run_storeVar_at (P := P) hf (by rw [hvs, hsz]) hg (o := off) (by rw [hvs, hvals.1]; exact hle) hv.ones
      refine ⟨_, by simp only [execOp, ho, Sem.run_bind, Instr.storeAt, hp, Instr.sureAddr, Sem.run_pure, Result.andThen_ok, hrun]; rfl, _, κ, h, ?_⟩
      rw [hd]
      have hcv : ∀ x v, CVRep w κ st.h x v → CVRep w κ (lput st.h id (.box ty (over cs off new))) x v := fun x v hx => cv_same rfl rfl rfl rfl rfl rfl (fun i e sz ver own es hi => by
       rw [look_lput] at hi
       split at hi
       ·cases hi
       ·exact ⟨own, es, hi, rfl⟩) hx
      have hFk : ∀ b, κ.F b → (w.setRow (κ.bl id) (over vals off (a.eval y).cells.toList).toArray).heap[b]? = w.heap[b]? := fun b hb => setRow_other _ _ _ _ (fun e => (hr.excl id _ (κ.bl id) hl rfl).2.1 rfl (e ▸ hb))
      refine hr.upd hl rfl rfl rfl rfl rfl (fun _ _ => ⟨rfl, rfl, rfl⟩) rfl rfl rfl (by simp) (fun k _ hne => setRow_other _ _ _ _ (fun e => hne (by rw [e]; rfl))) ?_ (fun b hb => .inl hb) hcv (fun _ _ _ _ _ h => by cases h)
      refine ⟨_, setRow_heap w _ _ _ _ _ hg, ?_⟩
      exact ((hvals.over hv hle).map hcv).keep hFk
     ·exact h.elim
    ·exact h.elim
   ·
    rename_i id ver i j hx
    split at h
    ·rename_i ds h' hds
     split at h
     ·rename_i e sz vr es hl
      split at h
      ·rename_i hb2
       obtain rfl := beq_iff hb2
       refine opTri_skip fun F0 L w0 a w κ hr => ?_
       have hv := avCells_sound hnew (evO_rep hr y)
       obtain ⟨κ1, k1, s1, b1, v1, f1, l1, q1, m1⟩ := frzL_sound hr hds
       have hp0 := evO_rep hr x
       rw [hx] at hp0
       have hp := m1 (.ep id vr i j) (a.eval x) hp0
       obtain ⟨hn, _, _, hp⟩ := hp
       obtain ⟨hlt, A, n, c, hA, hp⟩ := hp _ _ _ _ hl
       obtain ⟨hjl, hK⟩ := h es[i] (List.getElem?_eq_getElem hlt)
       obtain ⟨xs, hown, hes⟩ := k1.ents id _ hl
       rcases hown.2 with ⟨h1, h2⟩ | ⟨g, cap, cur, h1, h2, h3, h4, h5, h6, h7⟩
       ·omega
       ·rw [hA] at h1
        obtain ⟨rfl, rfl, rfl⟩ : A = ⟨g, 0, none⟩ ∧ n = es.length ∧ c = cap := by simpa using h1
        have hblk : (κ1.val id).ownBlock = some g := by rw [hA]; rfl
        have hci : es[i].length = sz := (hes i _ (List.getElem?_eq_getElem hlt)).1
        have hxl : xs.length = es.length * sz := hown.1
        have hrow : (i + 1) * sz ≤ es.length * sz := Nat.mul_le_mul_right _ hlt
        rw [Nat.add_mul, Nat.one_mul] at hrow
        have hcur : es.length * sz ≤ cur.size := by rw [h6]; exact Nat.mul_le_mul_right _ h4
        have hvs : (a.eval y).cells.size = ds.length := by have := hv.1; rw [l1]; simpa using this
        have hg' : w.heap[g]? = some (.cells cur.toList.toArray e (0, 0)) := by simpa using h3
        have hrun := run_storeVar_at (P := P) hf (by rw [hvs, l1, hsz]) hg' (o := i * sz + j) (by rw [hvs]; simp; omega) hv.ones
        rw [addr0] at hp
        simp only [Nat.zero_add] at hp
        refine ⟨_, by simp only [execOp, ho, Sem.run_bind, Instr.storeAt, hp, Instr.sureAddr, Sem.run_pure, Result.andThen_ok, hrun]; rfl, _, κ1, hK, ?_⟩
        rw [hd]
        have hcv : ∀ x v, CVRep w κ1 h' x v → CVRep w κ1 (lput h' id (.arr e sz vr .own (es.set i (over es[i] j ds)))) x v := fun x v hx => cv_same rfl rfl rfl rfl rfl rfl (fun i' e' sz' ver' own' es' hi => by
         rw [look_lput] at hi
         split at hi
         ·rename_i he; subst he; cases hi; exact ⟨.own, es, hl, by simp⟩
         ·exact ⟨own', es', hi, rfl⟩) hx
        have hFk : ∀ b, κ1.F b → (w.setRow g (over cur.toList (i * sz + j) (a.eval y).cells.toList).toArray).heap[b]? = w.heap[b]? := fun b hb => setRow_other _ _ _ _ (fun e' => (k1.excl id _ g hl (has_row hblk)).2.1 rfl (e' ▸ hb))
        refine RepK.upd (st := { st with h := h' }) k1 hl rfl rfl rfl rfl rfl (fun _ _ => ⟨rfl, rfl, rfl⟩) rfl rfl rfl (by simp) (fun k _ hne => setRow_other _ _ _ _ (fun e' => hne (by rw [e']; exact has_row hblk))) ?_ (fun b hb => .inl hb) hcv (fun _ _ _ _ _ h => by cases h; exact k1.kv _ _ _ _ _ _ hl)
        have hov : (over cur.toList (i * sz + j) (a.eval y).cells.toList).length = cur.size := by
         rw [over_length]
         ·simp
         ·simp only [Array.length_toList, hvs]; omega
        refine ⟨over xs (i * sz + j) (a.eval y).cells.toList, ⟨?_, .inr ⟨g, c, _, ?_, h2, setRow_heap w _ _ _ _ _ hg', by simpa using h4, h5, ?_, ?_⟩⟩, ?_⟩
        ·rw [over_length]
         ·simpa using hxl
         ·simp only [Array.length_toList, hvs]; omega
        ·simp [hA]
        ·simp only [List.size_toArray, hov, h6]
        ·rw [← h7]
         simp only [List.length_set]
         apply List.ext_getElem?
         intro k
         have hle1 : i * sz + j + (a.eval y).cells.toList.length ≤ cur.toList.length := by simp only [Array.length_toList, hvs]; omega
         have hle2 : i * sz + j + (a.eval y).cells.toList.length ≤ (cur.toList.take (es.length * sz)).length := by simp only [List.length_take, Array.length_toList, hvs]; omega
         rw [List.getElem?_take, over_get _ _ _ hle1, over_get _ _ _ hle2, List.getElem?_take]
         split
         ·rfl
         ·rename_i hk
          rw [if_neg]
          simp only [Array.length_toList, hvs]; omega
        ·intro i' c' hi'
         have hlex : i * sz + j + (a.eval y).cells.toList.length ≤ xs.length := by simp only [Array.length_toList, hvs]; omega
         rw [List.getElem?_set] at hi'
         split at hi'
         ·rename_i he
          subst he
          simp only [Option.some.injEq] at hi'
          subst hi'
          refine ⟨by rw [over_length _ _ _ hjl, hci], fun k d hk => ?_⟩
          rw [over_get _ _ _ hjl] at hk
          split at hk
          ·rename_i hr'
           have hlt2 : k - j < (a.eval y).cells.toList.length := by simp only [Array.length_toList, hvs]; omega
           refine ⟨(a.eval y).cells.toList[k - j], ?_, ?_⟩
           ·rw [over_get _ _ _ hlex, if_pos (by simp only [Array.length_toList, hvs]; omega)]
            have e1 : i * sz + k - (i * sz + j) = k - j := by omega
            rw [e1]
            exact List.getElem?_eq_getElem hlt2
           ·exact Fz.keep hFk (fun _ h => h) (q1 _ hv (k - j) d _ hk (List.getElem?_eq_getElem hlt2))
          ·rename_i hr'
           obtain ⟨u, hu, hfz⟩ := (hes i _ (List.getElem?_eq_getElem hlt)).2 k d hk
           have hk2 : k < sz := by rw [← hci]; exact (List.getElem?_eq_some_iff.1 hk).1
           refine ⟨u, ?_, Fz.keep hFk (fun _ h => h) hfz⟩
           rw [over_get _ _ _ hlex, if_neg (by simp only [Array.length_toList, hvs]; omega)]
           exact hu
         ·rename_i hne
          obtain ⟨q2, q3⟩ := hes i' c' hi'
          refine ⟨q2, fun k d hk => ?_⟩
          obtain ⟨u, hu, hfz⟩ := q3 k d hk
          have hk2 : k < sz := by rw [← q2]; exact (List.getElem?_eq_some_iff.1 hk).1
          refine ⟨u, ?_, Fz.keep hFk (fun _ h => h) hfz⟩
          rw [over_get _ _ _ hlex, if_neg]
          ·exact hu
          ·rintro ⟨g1, g2⟩
           simp only [Array.length_toList, hvs] at g2
           rcases Nat.lt_or_gt_of_ne hne with hlt' | hgt
           ·have : (i + 1) * sz ≤ i' * sz := Nat.mul_le_mul_right _ hlt'
            rw [Nat.add_mul, Nat.one_mul] at this
            omega
           ·have : (i' + 1) * sz ≤ i * sz := Nat.mul_le_mul_right _ hgt
            rw [Nat.add_mul, Nat.one_mul] at this
            omega
      ·exact h.elim
     ·exact h.elim
    ·exact h.elim
   ·exact h.elim
 ·exact h.elim
end
end Go.H
