/- Framework H, part 16: the call as an operation. -/
import Derived.Test.YtjjlpjdaffdceaaH15
namespace Go.H
open Go.RowKit

section
variable {P : Program} {T : TypeId → Option TI} {F0 : Nat → Prop} {w0 w w' : World} {st : St} {a : Act} {κ κ' : Con} {hh : List (Nat × Ent)}

def D.flat : D → Bool
  | .int .. | .bool _ | .str _ => true
  | _ => false
def CV.flat : CV → Bool
  | .d x => x.flat
  | _ => false
def AV.flat : AV → Bool
  | .c x => x.flat
  | .agg cs => cs.all CV.flat
  | .tup xs => xs.all fun x => x.2.all CV.flat
  | .u => true
def ownAll : List (Nat × Ent) → Bool
  | [] => true
  | (_, e) :: r => e.own && ownAll r

theorem ownAll_spec : ∀ {h : List (Nat × Ent)}, ownAll h = true → ∀ i e, look h i = some e → e.own = true
  | [], _, i, e, hl => by simp [look] at hl
  | (k, x) :: r, h, i, e, hl => by
    simp only [ownAll, Bool.and_eq_true] at h
    simp only [look] at hl
    split at hl
    · cases hl; exact h.1
    · exact ownAll_spec h.2 i e hl

theorem CVRep.flat {h h' : List (Nat × Ent)} {x : CV} {v : Value} (hf : x.flat = true) (hr : CVRep w κ h x v) : CVRep w' κ' h' x v := by
  cases x with
  | d x =>
    cases x with
    | int k n => cases hr; exact .int _ _
    | bool b => cases hr; exact .bool _
    | str s => cases hr; exact .str _
    | _ => simp [CV.flat, D.flat] at hf
  | _ => simp [CV.flat] at hf

theorem CVs.flat {h h' : List (Nat × Ent)} {cs : List CV} {vs : List Value} (hf : cs.all CV.flat = true) (hr : CVs w κ h cs vs) : CVs w' κ' h' cs vs :=
  ⟨hr.1, fun j c u hc hu => (hr.2 j c u hc hu).flat (List.all_eq_true.1 hf c (List.mem_of_getElem? hc))⟩

theorem AVRep.flat {h h' : List (Nat × Ent)} {x : AV} {v : Value} (hf : x.flat = true) (hr : AVRep w κ h x v) : AVRep w' κ' h' x v := by
  cases x with
  | c x => exact CVRep.flat hf hr
  | agg cs => obtain ⟨vs, q, hv⟩ := hr; exact ⟨vs, q, hv.flat hf⟩
  | tup xs =>
    obtain ⟨vs, q, hl, hv⟩ := hr
    refine ⟨vs, q, hl, fun j x v hj hu => ?_⟩
    have := hv j x v hj hu
    have hx := List.all_eq_true.1 hf x (List.mem_of_getElem? hj)
    unfold TVRep at *
    split at this
    · obtain ⟨us, q, hus⟩ := this; exact ⟨us, q, hus.flat hx⟩
    · exact this.flat hx
  | u => trivial

/-! ### the rule -/
def CallF (P : Program) (st : St) (g : FuncId) (args : List AV) (dst : Option Tmp) (K : St → Prop) : Prop :=
  match frzAs st.h args with
  | some (args', hz) => ∃ res h' n', FnSpec P g args' res h' n' ∧ ownAll h' = true ∧ setT { st with h := hz ++ shiftH st.n h', n := st.n + n' } dst (res.shift st.n) K
  | none => False

def CallR (P : Program) (st : St) (g : FuncId) (args : List AV) (dst : Option Tmp) (K : St → Prop) : Prop :=
  match roAs st.h args with
  | some args' => ∃ res n', FnSpec P g args' res [] n' ∧ res.flat = true ∧ setT st dst res K
  | none => False

def CV.pureB : CV → Bool
  | .d _ | .nl _ | .fn _ [] => true
  | _ => false
def AV.pureB : AV → Bool
  | .c x => x.pureB
  | .agg cs => cs.all CV.pureB
  | _ => false

def callWp (P : Program) (st : St) (f : AV) (args : List AV) (dst : Option Tmp) (K : St → Prop) : Prop :=
  match calleeOf f with
  | some (g, caps) => match (args ++ caps).all AV.pureB with
    | true => CallF P st g (args ++ caps) dst K
    | false => CallF P st g (args ++ caps) dst K ∨ CallR P st g (args ++ caps) dst K
  | none => False

theorem calleeOf_sound {x : AV} {g : FuncId} {caps : List AV} (hc : calleeOf x = some (g, caps)) {v : Value} (hv : AVRep w κ hh x v) :
    ∃ us : List Value, v = .func (.func g) #[] us.toArray ∧ us.length = caps.length ∧ ∀ (j : Nat) (av : AV) (u : Value), caps[j]? = some av → us[j]? = some u → AVRep w κ hh av u := by
  unfold calleeOf at hc
  split at hc
  · rename_i f cs
    simp only [Option.some.injEq, Prod.mk.injEq] at hc
    obtain ⟨rfl, rfl⟩ := hc
    obtain ⟨h1, rfl⟩ := hv
    refine ⟨_, rfl, by simp, fun j av u hj hu => ?_⟩
    simp only [List.getElem?_map, Option.map_eq_some_iff] at hj hu
    obtain ⟨p, hp, rfl⟩ := hj
    obtain ⟨p', hp', rfl⟩ := hu
    rw [hp] at hp'; cases hp'
    exact ⟨h1 p (List.mem_of_getElem? hp), rfl⟩
  · rename_i f ds
    simp only [Option.some.injEq, Prod.mk.injEq] at hc
    obtain ⟨rfl, rfl⟩ := hc
    cases hv with
    | fn _ _ vs hl hs =>
      refine ⟨vs, rfl, by simp [hl], fun j av u hj hu => ?_⟩
      simp only [List.getElem?_map, Option.map_eq_some_iff] at hj
      obtain ⟨d, hd, rfl⟩ := hj
      exact hs j d u hd hu
  · simp at hc

theorem roA_sound (h : RepK F0 w0 st a w κ) {x x' : AV} (hr : roA st.h x = some x') {v : Value} (hv : AVRep w κ st.h x v) : AVRep w (con0 (κ.seen st.h)) [] x' v := by
  cases x with
  | c x =>
    simp only [roA] at hr
    split at hr
    · rename_i d hd
      cases hr
      exact roC_sound h hd v hv
    · cases hr
  | agg cs =>
    simp only [roA] at hr
    split at hr
    · rename_i ds hd
      cases hr
      obtain ⟨l, q⟩ := roL_spec hd
      obtain ⟨vs, e, hvs⟩ := hv
      refine ⟨vs, e, by simp [hvs.1, l], fun j c u hc hu => ?_⟩
      simp only [List.getElem?_map, Option.map_eq_some_iff] at hc
      obtain ⟨d, hd', rfl⟩ := hc
      have hlt : j < cs.length := by rw [← l]; exact (List.getElem?_eq_some_iff.1 hd').1
      exact roC_sound h (q j _ d (List.getElem?_eq_getElem hlt) hd') u (hvs.2 j _ u (List.getElem?_eq_getElem hlt) hu)
    · cases hr
  | _ => simp [roA] at hr

theorem roAs_sound (h : RepK F0 w0 st a w κ) : ∀ {xs xs' : List AV} (_ : roAs st.h xs = some xs') (vs : List Value), vs.length = xs.length → (∀ (j : Nat) (x : AV) (v : Value), xs[j]? = some x → vs[j]? = some v → AVRep w κ st.h x v) → ArgsRep w (κ.seen st.h) xs' vs
  | [], xs', hr, vs, hl, hv => by
    simp only [roAs, Option.some.injEq] at hr
    subst hr
    exact ⟨hl, fun j av v hj => by simp at hj⟩
  | x :: xs, xs', hr, vs, hl, hv => by
    simp only [roAs] at hr
    split at hr
    · rename_i d ds h1 h2
      cases hr
      match vs, hl, hv with
      | v :: vs, hl, hv =>
        obtain ⟨q1, q2⟩ := roAs_sound h h2 vs (by simpa using hl) (fun j x v hj hu => hv (j + 1) x v (by simpa using hj) (by simpa using hu))
        refine ⟨by simp [q1], fun j av u hj hu => ?_⟩
        cases j with
        | zero =>
          simp at hj hu
          subst hj; subst hu
          exact roA_sound h h1 (hv 0 x v rfl rfl)
        | succ j => exact q2 j av u (by simpa using hj) (by simpa using hu)
    · cases hr

theorem seen_lt (h : RepK F0 w0 st a w κ) (b : Nat) (hb : κ.seen st.h b) : b < w.heap.size := by
  rcases hb with hb | ⟨id, e, hl, hb⟩
  · exact h.f2 b hb
  · exact (h.ents id e hl).lt hb

theorem okD_true_c (x : CV) : x.okD (fun _ => True) := by cases x <;> trivial
theorem okD_true_a (x : AV) : x.okD (fun _ => True) := by
  cases x with
  | c x => exact okD_true_c x
  | agg cs => exact fun c _ => okD_true_c c
  | tup xs => exact fun x _ c _ => okD_true_c c
  | u => trivial
theorem okD_true_e (x : Ent) : x.okD (fun _ => True) := by
  cases x with
  | box => exact fun c _ => okD_true_c c
  | arr => exact fun _ _ _ _ => trivial

theorem Enters.run {g : FuncId} (h : Enters P g) (args : Array Value) (w : World) : (callFunc g args).run P w = .ok (.enter g args) w := by
  obtain ⟨fn, h1, h2, h3⟩ := h
  have h3' : fn.name ≠ "runtime.NumGoroutine" := by simpa using h3
  have h2' : fn.body ≠ none := by intro e; simp [e] at h2
  simp [callFunc, h1, h2', h3']

theorem callF_sound {g : FuncId} {args : List AV} {dst : Option Tmp} {K : St → Prop} (h : CallF P st g args dst K) (hr : RepK F0 w0 st a w κ) {vs : List Value} (hl : vs.length = args.length)
    (hv : ∀ (j : Nat) (x : AV) (v : Value), args[j]? = some x → vs[j]? = some v → AVRep w κ st.h x v) :
    Enters P g ∧ Calls P g vs.toArray w fun e w' => ∃ v, e = .returned v ∧ ∃ st' κ', K st' ∧ RepK F0 w0 st' (a.put dst v) w' κ' := by
  unfold CallF at h
  split at h
  · rename_i args' hz hfz
    obtain ⟨res, h', n', ⟨hent, hspec⟩, hown, hK⟩ := h
    obtain ⟨κ1, k1, f1, q1, m1⟩ := frzAs_sound hr hfz
    refine ⟨hent, (hspec κ1.F w vs k1.f2 (q1 vs hl hv)).mono fun e w' ⟨v, κ', st', a', he, hh', hn', hk', hav⟩ => ?_⟩
    subst hh' hn'
    have hD : ∀ v d, (fun _ : D => True) d → Fz w' κ'.F v d → Fz w' (κ1.join κ' w).F v d := fun v d _ hF => Fz.keep (fun _ _ => rfl) (fun b hb => by
      rcases hk'.f1 b hb with h1 | h1
      · exact .inl h1
      · exact .inr ⟨hb, h1⟩) hF
    have hj := k1.join hk' k1.f2 hD (fun i e hl => ⟨okD_true_e e, ownAll_spec hown i e hl⟩)
    have hkn : κ1.n = st.n := k1.kn
    have hres := hav.right (κ := κ1) (st := { st with h := hz }) (w := w) (fun id e he => hkn ▸ k1.new id e he) hD (okD_true_a res)
    rw [hkn] at hres
    obtain ⟨st2, hK2, hr2⟩ := setT_sound hK hj hres
    exact ⟨v, he, st2, _, hK2, hr2⟩
  · exact h.elim

theorem callR_sound {g : FuncId} {args : List AV} {dst : Option Tmp} {K : St → Prop} (h : CallR P st g args dst K) (hr : RepK F0 w0 st a w κ) {vs : List Value} (hl : vs.length = args.length)
    (hv : ∀ (j : Nat) (x : AV) (v : Value), args[j]? = some x → vs[j]? = some v → AVRep w κ st.h x v) :
    Enters P g ∧ Calls P g vs.toArray w fun e w' => ∃ v, e = .returned v ∧ ∃ st' κ', K st' ∧ RepK F0 w0 st' (a.put dst v) w' κ' := by
  unfold CallR at h
  split at h
  · rename_i args' hro
    obtain ⟨res, n', ⟨hent, hspec⟩, hflat, hK⟩ := h
    refine ⟨hent, (hspec (κ.seen st.h) w vs (seen_lt hr) (roAs_sound hr hro vs hl hv)).mono fun e w' ⟨v, κ', st', a', he, hh', hn', hk', hav⟩ => ?_⟩
    have g : Grew w w' := ⟨hk'.below.os, hk'.below.tape, hk'.below.output, hk'.below.size, fun k hk => hk'.below.block k hk⟩
    obtain ⟨st2, hK2, hr2⟩ := setT_sound hK (hr.grew g) (hav.flat hflat)
    exact ⟨v, he, st2, _, hK2, hr2⟩
  · exact h.elim

theorem call_tri {o : Oper} {f : Operand} {args : Array Operand} {tys : Array TypeId} (ho : o.op = .call { callee := .value f, args, argTypes := tys }) {K : St → Prop} (h : callWp P st (evO st f) (args.toList.map (evO st)) o.dst K) : OpTri P o st K := by
  intro F0 w0 a w ⟨κ, hr⟩ next Q hn
  unfold callWp at h
  split at h
  · rename_i g caps hc
    obtain ⟨us, hf, hl, hus⟩ := calleeOf_sound hc (evO_rep hr f)
    have hvl : (args.toList.map a.eval ++ us).length = (args.toList.map (evO st) ++ caps).length := by simp [hl]
    have hvs : ∀ (j : Nat) (x : AV) (v : Value), (args.toList.map (evO st) ++ caps)[j]? = some x → (args.toList.map a.eval ++ us)[j]? = some v → AVRep w κ st.h x v := fun j x v hj hv => by
      rw [List.getElem?_append] at hj hv
      simp only [List.length_map] at hj hv
      split at hj
      · rename_i hlt
        rw [if_pos hlt] at hv
        simp only [List.getElem?_map, Option.map_eq_some_iff] at hj hv
        obtain ⟨p, hp, rfl⟩ := hj
        obtain ⟨p', hp', rfl⟩ := hv
        rw [hp] at hp'; cases hp'
        exact evO_rep hr p
      · rename_i hlt
        rw [if_neg hlt] at hv
        exact hus _ x v hj hv
    have hmain : Enters P g ∧ Calls P g (args.toList.map a.eval ++ us).toArray w fun e w' => ∃ v, e = .returned v ∧ ∃ st' κ', K st' ∧ RepK F0 w0 st' (a.put o.dst v) w' κ' := by
      split at h
      · exact callF_sound h hr hvl hvs
      · rcases h with h | h
        · exact callF_sound h hr hvl hvs
        · exact callR_sound h hr hvl hvs
    obtain ⟨hent, hcall⟩ := hmain
    have hrun : (execOp a.eval o).run P w = .ok (.enter g (args.toList.map a.eval ++ us).toArray) w := by
      have : execOp a.eval o = callFunc g (#[] ++ args.map a.eval ++ us.toArray) := by
        simp only [execOp, ho, resolve, hf, Deferred.ofValue]
        rfl
      rw [this, hent.run]
      congr 2
      apply Array.toList_inj.1
      simp
    unfold Oper.wp
    rw [hrun, Oper.upon_enter]
    refine hcall.mono fun e w' ⟨v, he, st', κ', hK, hr'⟩ => ?_
    subst he
    exact hn st' _ w' hK ⟨κ', hr'⟩
  · exact h.elim

end
end Go.H
