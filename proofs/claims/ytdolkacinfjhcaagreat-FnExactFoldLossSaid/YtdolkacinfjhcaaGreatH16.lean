/- Framework H, part 16: the call as an operation. -/
import Derived.Test.YtdolkacinfjhcaaGreatH15
set_option linter.unusedSimpArgs false
set_option linter.unusedVariables false
set_option linter.constructorNameAsVariable false
namespace Go.H
open Go.RowKit
section
variable {P : Program} {T : TypeId → Option TI} {F0 L : Nat → Prop} {w0 w w' : World} {st : St} {a : Act} {κ κ' : Con} {hh : List (Nat × Ent)}
def CV.flat : CV → Bool
 | .d x => x.flat
 | _ => false
def AV.flat : AV → Bool
 | .c x => x.flat
 | .agg cs => cs.all CV.flat
 | .tup xs => xs.all fun x => x.2.all CV.flat
 | .w _ _ => false
 | .u => true
def ownAll : List (Nat × Ent) → Bool
 | [] => true
 | (_, e) :: r => e.own && ownAll r
theorem ownAll_spec : ∀ {h : List (Nat × Ent)}, ownAll h = true → ∀ i e, look h i = some e → e.own = true
 | [], _, i, e, hl => by simp [look] at hl
 | (k, x) :: r, h, i, e, hl => by
  simp only [ownAll, Bool.and_eq_true] at h
  simp only [look] at hl
  split at hl
  ·cases hl; exact h.1
  ·exact ownAll_spec h.2 i e hl
theorem CVRep.flat {h h' : List (Nat × Ent)} {x : CV} {v : Value} (hf : x.flat = true) (hr : CVRep w κ h x v) : CVRep w' κ' h' x v := by
 cases x with
 | d x =>
  cases x with
  | int k n => cases hr; exact .int _ _
  | bool b => cases hr; exact .bool _
  | str s => cases hr; exact .str _
  | any => cases hr; exact .any _ (by assumption) (by assumption)
  | _ => simp [CV.flat, D.flat] at hf
 | _ => simp [CV.flat] at hf
theorem CVs.flat {h h' : List (Nat × Ent)} {cs : List CV} {vs : List Value} (hf : cs.all CV.flat = true) (hr : CVs w κ h cs vs) : CVs w' κ' h' cs vs :=
 ⟨hr.1, fun j c u hc hu => (hr.2 j c u hc hu).flat (List.all_eq_true.1 hf c (List.mem_of_getElem? hc))⟩
theorem AVRep.flat {h h' : List (Nat × Ent)} {x : AV} {v : Value} (hf : x.flat = true) (hr : AVRep w κ h x v) : AVRep w' κ' h' x v := by
 cases x with
 | c x => exact CVRep.flat hf hr
 | agg cs => obtain ⟨vs, q, hv⟩ := hr; exact ⟨vs, q, hv.flat hf⟩
 | tup xs =>
  obtain ⟨vs, q, hl, hv⟩ := hr
  refine ⟨vs, q, hl, fun j x v hj hu => ?_⟩
  have := hv j x v hj hu
  have hx := List.all_eq_true.1 hf x (List.mem_of_getElem? hj)
  unfold TVRep at *
  split at this
  ·obtain ⟨us, q, hus⟩ := this; exact ⟨us, q, hus.flat hx⟩
  ·exact this.flat hx
 | w => simp [AV.flat] at hf
 | u => trivial
def CallF (P : Program) (st : St) (g : FuncId) (args : List AV) (dst : Option Tmp) (K : St → Prop) : Prop :=
 match frzAs st.h args with
 | some (args', hz) => ∃ res h' n', FnSpec P g args' res h' n' ∧ ownAll h' = true ∧ setT { st with h := hz ++ shiftH st.n h', n := st.n + n' } dst (res.shift st.n) K
 | none => False
def ExtX (P : Program) (f : FuncId) (args : List AV) (X : Type) (R : X → Prop) (res : X → AV) (h' : X → List (Nat × Ent)) (n' : X → Nat) : Prop :=
 ∀ (F : Nat → Prop) (w : World) (vals : List Value), ArgsRep w F args vals →
  ∃ x v, R x ∧ (callFunc f vals.toArray).run P w = .ok (.value v) w ∧ (res x).flat = true ∧ h' x = [] ∧ n' x = 0 ∧ AVRep w (con0 fun _ => False) [] (res x) v
def FnSpecX (P : Program) (f : FuncId) (args : List AV) (X : Type) (R : X → Prop) (res : X → AV) (h' : X → List (Nat × Ent)) (n' : X → Nat) : Prop :=
 (Enters P f ∧ ∀ (F : Nat → Prop) (w : World) (vals : List Value), (∀ b, F b → b < w.heap.size) → ArgsRep w F args vals →
  Calls P f vals.toArray w (fun e w' => ∃ x, R x ∧ ∃ v κ' st' a', e = .returned v ∧ st'.h = h' x ∧ st'.n = n' x ∧ RepK F (fun _ => False) w st' a' w' κ' ∧ AVRep w' κ' (h' x) (res x) v)) ∨
 ExtX P f args X R res h' n'
def Goes (P : Program) (g : FuncId) (args : Array Value) (w : World) (Q : Value → World → Prop) : Prop :=
 (Enters P g ∧ Calls P g args w fun e w' => ∃ v, e = .returned v ∧ Q v w') ∨ ∃ v, (callFunc g args).run P w = .ok (.value v) w ∧ Q v w
theorem CV.shift_flat {k : Nat} {x : CV} (h : x.flat = true) : x.shift k = x := by cases x <;> simp_all [CV.flat, CV.shift]
theorem AV.shift_flat {k : Nat} {x : AV} (h : x.flat = true) : x.shift k = x := by
 have hl : ∀ l : List CV, l.all CV.flat = true → l.map (CV.shift k) = l := fun l hl => by
  rw [List.all_eq_true] at hl
  exact (List.map_congr_left fun x hx => CV.shift_flat (hl x hx)).trans (List.map_id' l)
 cases x with
 | c x => simp only [AV.shift, CV.shift_flat (x := x) h]
 | agg cs => simp only [AV.shift, hl cs h]
 | tup xs =>
  simp only [AV.flat, List.all_eq_true] at h
  simp only [AV.shift]
  congr 1
  refine (List.map_congr_left fun x hx => ?_).trans (List.map_id' xs)
  rw [hl x.2 (List.all_eq_true.2 (h x hx))]
 | w => simp [AV.flat] at h
 | u => rfl
def CallX (P : Program) (st : St) (g : FuncId) (args : List AV) (dst : Option Tmp) (K : St → Prop) : Prop :=
 match frzAs st.h args with
 | some (args', hz) => ∃ (X : Type) (R : X → Prop) (res : X → AV) (h' : X → List (Nat × Ent)) (n' : X → Nat), FnSpecX P g args' X R res h' n' ∧ ∀ x, R x → ownAll (h' x) = true ∧ setT { st with h := hz ++ shiftH st.n (h' x), n := st.n + n' x } dst ((res x).shift st.n) K
 | none => False
def okHF : List (Nat × Ent) → Prop
 | [] => True
 | (_, .arr _ _ _ ow es) :: r => (match ow with | .nest _ => True | _ => FlatR es) ∧ okHF r
 | (_, .box _ _) :: _ => False
def CV.dflat : CV → Bool
 | .d x => x.flat
 | _ => true
def AV.dflat : AV → Bool
 | .c x => x.dflat
 | .agg cs => cs.all CV.dflat
 | .tup xs => xs.all fun x => x.2.all CV.dflat
 | .w x _ => x.dflat
 | .u => true
theorem okHF_spec : ∀ {h : List (Nat × Ent)}, okHF h → ∀ i e, look h i = some e → e.okD (fun d => d.flat = true)
 | [], _, i, e, hl => by simp [look] at hl
 | (k, .arr t sz v o es) :: r, hh, i, e, hl => by
  simp only [look] at hl
  split at hl
  ·cases hl
   cases o with
   | nest tys => exact .inl rfl
   | own => exact .inr fun c hc d hd => hh.1 c hc d hd
   | frz => exact .inr fun c hc d hd => hh.1 c hc d hd
  ·exact okHF_spec hh.2 i e hl
 | (k, .box _ _) :: r, hh, _, _, _ => hh.elim
theorem dflat_c {x : CV} (h : x.dflat = true) : x.okD (fun d => d.flat = true) := by
 cases x with
 | d x => exact h
 | _ => trivial
theorem dflat_a {x : AV} (h : x.dflat = true) : x.okD (fun d => d.flat = true) := by
 cases x with
 | c x => exact dflat_c h
 | agg cs => exact fun c hc => dflat_c (List.all_eq_true.1 h c hc)
 | tup xs => exact fun x hx c hc => dflat_c (List.all_eq_true.1 (List.all_eq_true.1 h x hx) c hc)
 | w x v => exact dflat_c (x := x) h
 | u => trivial
def CallR (P : Program) (st : St) (g : FuncId) (args : List AV) (dst : Option Tmp) (K : St → Prop) : Prop :=
 match roAs st.h args with
 | some args' => ∃ res h' n', FnSpec P g args' res h' n' ∧ (ownAll h' && res.dflat) = true ∧ okHF h' ∧ setT { st with h := st.h ++ shiftH st.n h', n := st.n + n' } dst (res.shift st.n) K
 | none => False
def CallRX (P : Program) (st : St) (g : FuncId) (args : List AV) (dst : Option Tmp) (K : St → Prop) : Prop :=
 match roAs st.h args with
 | some args' => ∃ (X : Type) (R : X → Prop) (res : X → AV) (h' : X → List (Nat × Ent)) (n' : X → Nat), FnSpecX P g args' X R res h' n' ∧ ∀ x, R x → (ownAll (h' x) && (res x).dflat) = true ∧ okHF (h' x) ∧ setT { st with h := st.h ++ shiftH st.n (h' x), n := st.n + n' x } dst ((res x).shift st.n) K
 | none => False
def CV.pureB : CV → Bool
 | .d _ | .nl _ | .fn _ [] => true
 | _ => false
def AV.pureB : AV → Bool
 | .c x => x.pureB
 | .agg cs => cs.all CV.pureB
 | _ => false
theorem calleeOf_sound {x : AV} {g : FuncId} {caps : List AV} (hc : calleeOf x = some (g, caps)) {v : Value} (hv : AVRep w κ hh x v) :
  ∃ us : List Value, v = .func (.func g) #[] us.toArray ∧ us.length = caps.length ∧ ∀ (j : Nat) (av : AV) (u : Value), caps[j]? = some av → us[j]? = some u → AVRep w κ hh av u := by
 unfold calleeOf at hc
 split at hc
 ·rename_i f cs
  simp only [Option.some.injEq, Prod.mk.injEq] at hc
  obtain ⟨rfl, rfl⟩ := hc
  obtain ⟨h1, rfl⟩ := hv
  refine ⟨_, rfl, by simp, fun j av u hj hu => ?_⟩
  simp only [List.getElem?_map, Option.map_eq_some_iff] at hj hu
  obtain ⟨p, hp, rfl⟩ := hj
  obtain ⟨p', hp', rfl⟩ := hu
  rw [hp] at hp'; cases hp'
  exact ⟨h1 p (List.mem_of_getElem? hp), rfl⟩
 ·rename_i f ds
  simp only [Option.some.injEq, Prod.mk.injEq] at hc
  obtain ⟨rfl, rfl⟩ := hc
  cases hv with
  | fn _ _ vs hl hs =>
   refine ⟨vs, rfl, by simp [hl], fun j av u hj hu => ?_⟩
   simp only [List.getElem?_map, Option.map_eq_some_iff] at hj
   obtain ⟨d, hd, rfl⟩ := hj
   exact hs j d u hd hu
 ·simp at hc
theorem roA_sound (h : RepK F0 L w0 st a w κ) {x x' : AV} (hr : roA st.h x = some x') {v : Value} (hv : AVRep w κ st.h x v) : AVRep w (con0 (κ.seen st.h)) [] x' v := by
 cases x with
 | c x =>
  simp only [roA] at hr
  split at hr
  ·rename_i d hd
   cases hr
   exact roC_sound h hd v hv
  ·cases hr
 | agg cs =>
  simp only [roA] at hr
  split at hr
  ·rename_i ds hd
   cases hr
   obtain ⟨l, q⟩ := roL_spec hd
   obtain ⟨vs, e, hvs⟩ := hv
   refine ⟨vs, e, by simp [hvs.1, l], fun j c u hc hu => ?_⟩
   simp only [List.getElem?_map, Option.map_eq_some_iff] at hc
   obtain ⟨d, hd', rfl⟩ := hc
   have hlt : j < cs.length := by rw [← l]; exact (List.getElem?_eq_some_iff.1 hd').1
   exact roC_sound h (q j _ d (List.getElem?_eq_getElem hlt) hd') u (hvs.2 j _ u (List.getElem?_eq_getElem hlt) hu)
  ·cases hr
 | _ => simp [roA] at hr
theorem roAs_sound (h : RepK F0 L w0 st a w κ) : ∀ {xs xs' : List AV} (_ : roAs st.h xs = some xs') (vs : List Value), vs.length = xs.length → (∀ (j : Nat) (x : AV) (v : Value), xs[j]? = some x → vs[j]? = some v → AVRep w κ st.h x v) → ArgsRep w (κ.seen st.h) xs' vs
 | [], xs', hr, vs, hl, hv => by
  simp only [roAs, Option.some.injEq] at hr
  subst hr
  exact ⟨hl, fun j av v hj => by simp at hj⟩
 | x :: xs, xs', hr, vs, hl, hv => by
  simp only [roAs] at hr
  split at hr
  ·rename_i d ds h1 h2
   cases hr
   match vs, hl, hv with
   | v :: vs, hl, hv =>
    obtain ⟨q1, q2⟩ := roAs_sound h h2 vs (by simpa using hl) (fun j x v hj hu => hv (j + 1) x v (by simpa using hj) (by simpa using hu))
    refine ⟨by simp [q1], fun j av u hj hu => ?_⟩
    cases j with
    | zero =>
     simp at hj hu
     subst hj; subst hu
     exact roA_sound h h1 (hv 0 x v rfl rfl)
    | succ j => exact q2 j av u (by simpa using hj) (by simpa using hu)
  ·cases hr
theorem seen_lt (h : RepK F0 L w0 st a w κ) (b : Nat) (hb : κ.seen st.h b) : b < w.heap.size := by
 rcases hb with hb | ⟨id, e, hl, hb⟩
 ·exact h.f2 b hb
 ·exact (h.ents id e hl).lt hb
theorem okD_true_c (x : CV) : x.okD (fun _ => True) := by cases x <;> trivial
theorem okD_true_a (x : AV) : x.okD (fun _ => True) := by
 cases x with
 | c x => exact okD_true_c x
 | agg cs => exact fun c _ => okD_true_c c
 | tup xs => exact fun x _ c _ => okD_true_c c
 | w x v => exact okD_true_c x
 | u => trivial
theorem okD_true_e (x : Ent) : x.okD (fun _ => True) := by
 cases x with
 | box => exact fun c _ => okD_true_c c
 | arr => exact .inr fun _ _ _ _ => trivial
theorem Enters.run {g : FuncId} (h : Enters P g) (args : Array Value) (w : World) : (callFunc g args).run P w = .ok (.enter g args) w := by
 obtain ⟨fn, h1, h2, h3⟩ := h
 have h3' : fn.name ≠ "runtime.NumGoroutine" := by simpa using h3
 have h2' : fn.body ≠ none := by intro e; simp [e] at h2
 simp [callFunc, h1, h2', h3']
theorem callF_sound {g : FuncId} {args : List AV} {dst : Option Tmp} {K : St → Prop} (h : CallF P st g args dst K) (hr : RepK F0 L w0 st a w κ) {vs : List Value} (hl : vs.length = args.length)
  (hv : ∀ (j : Nat) (x : AV) (v : Value), args[j]? = some x → vs[j]? = some v → AVRep w κ st.h x v) :
  Enters P g ∧ Calls P g vs.toArray w fun e w' => ∃ v, e = .returned v ∧ ∃ st' κ', K st' ∧ RepK F0 L w0 st' (a.put dst v) w' κ' := by
 unfold CallF at h
 split at h
 ·rename_i args' hz hfz
  obtain ⟨res, h', n', ⟨hent, hspec⟩, hown, hK⟩ := h
  obtain ⟨κ1, k1, f1, q1, m1⟩ := frzAs_sound hr hfz
  refine ⟨hent, (hspec κ1.F w vs k1.f2 (q1 vs hl hv)).mono fun e w' ⟨v, κ', st', a', he, hh', hn', hk', hav⟩ => ?_⟩
  subst hh' hn'
  have hD : ∀ v d, (fun _ : D => True) d → Fz w' κ'.F v d → Fz w' (κ1.join κ' w).F v d := fun v d _ hF => Fz.keep (fun _ _ => rfl) (fun b hb => by
   rcases hk'.f1 b hb with h1 | h1 | h1
   ·exact .inl h1
   ·exact .inr ⟨hb, h1⟩
   ·exact h1.elim) hF
  have hj := k1.join hk' k1.f2 hD (fun i e hl => ⟨okD_true_e e, ownAll_spec hown i e hl⟩)
  have hkn : κ1.n = st.n := k1.kn
  have hres := hav.right (κ := κ1) (st := { st with h := hz }) (w := w) (fun id e he => hkn ▸ k1.new id e he) hD (okD_true_a res)
  rw [hkn] at hres
  obtain ⟨st2, hK2, hr2⟩ := setT_sound hK hj hres
  exact ⟨v, he, st2, _, hK2, hr2⟩
 ·exact h.elim
theorem callX_sound {g : FuncId} {args : List AV} {dst : Option Tmp} {K : St → Prop} (h : CallX P st g args dst K) (hr : RepK F0 L w0 st a w κ) {vs : List Value} (hl : vs.length = args.length)
  (hv : ∀ (j : Nat) (x : AV) (v : Value), args[j]? = some x → vs[j]? = some v → AVRep w κ st.h x v) :
  Goes P g vs.toArray w fun v w' => ∃ st' κ', K st' ∧ RepK F0 L w0 st' (a.put dst v) w' κ' := by
 unfold CallX at h
 split at h
 ·rename_i args' hz hfz
  obtain ⟨X, R, resx, hx', nx', hE, hKx⟩ := h
  obtain ⟨κ1, k1, f1, q1, m1⟩ := frzAs_sound hr hfz
  rcases hE with ⟨hent, hspec⟩ | hext
  case inr =>
   obtain ⟨x, v, hRx, hrun, hfl, hx0, hn0, hav⟩ := hext κ1.F w vs (q1 vs hl hv)
   obtain ⟨hown, hK⟩ := hKx x hRx
   rw [hx0, hn0, AV.shift_flat hfl] at hK
   obtain ⟨st2, hK2, hr2⟩ := setT_sound (st := { st with h := hz }) (by simpa [shiftH] using hK) k1 (hav.flat hfl)
   exact .inr ⟨v, hrun, st2, _, hK2, hr2⟩
  refine .inl ⟨hent, (hspec κ1.F w vs k1.f2 (q1 vs hl hv)).mono fun e w' ⟨x, hRx, v, κ', st', a', he, hh', hn', hk', hav⟩ => ?_⟩
  obtain ⟨hown, hK⟩ := hKx x hRx
  generalize resx x = res at hK hav
  generalize hx' x = h' at hown hK hav hh'
  generalize nx' x = n' at hK hn'
  subst hh' hn'
  have hD : ∀ v d, (fun _ : D => True) d → Fz w' κ'.F v d → Fz w' (κ1.join κ' w).F v d := fun v d _ hF => Fz.keep (fun _ _ => rfl) (fun b hb => by
   rcases hk'.f1 b hb with h1 | h1 | h1
   ·exact .inl h1
   ·exact .inr ⟨hb, h1⟩
   ·exact h1.elim) hF
  have hj := k1.join hk' k1.f2 hD (fun i e hl => ⟨okD_true_e e, ownAll_spec hown i e hl⟩)
  have hkn : κ1.n = st.n := k1.kn
  have hres := hav.right (κ := κ1) (st := { st with h := hz }) (w := w) (fun id e he => hkn ▸ k1.new id e he) hD (okD_true_a res)
  rw [hkn] at hres
  obtain ⟨st2, hK2, hr2⟩ := setT_sound hK hj hres
  exact ⟨v, he, st2, _, hK2, hr2⟩
 ·exact h.elim
theorem callR_sound {g : FuncId} {args : List AV} {dst : Option Tmp} {K : St → Prop} (h : CallR P st g args dst K) (hr : RepK F0 L w0 st a w κ) {vs : List Value} (hl : vs.length = args.length)
  (hv : ∀ (j : Nat) (x : AV) (v : Value), args[j]? = some x → vs[j]? = some v → AVRep w κ st.h x v) :
  Enters P g ∧ Calls P g vs.toArray w fun e w' => ∃ v, e = .returned v ∧ ∃ st' κ', K st' ∧ RepK F0 L w0 st' (a.put dst v) w' κ' := by
 unfold CallR at h
 split at h
 ·rename_i args' hro
  obtain ⟨res, h', n', ⟨hent, hspec⟩, hb, hok, hK⟩ := h
  simp only [Bool.and_eq_true] at hb
  obtain ⟨hown, hflat⟩ := hb
  refine ⟨hent, (hspec (κ.seen st.h) w vs (seen_lt hr) (roAs_sound hr hro vs hl hv)).mono fun e w' ⟨v, κ', st', a', he, hh', hn', hk', hav⟩ => ?_⟩
  subst hh' hn'
  have hD : ∀ v d, (fun d : D => d.flat = true) d → Fz w' κ'.F v d → Fz w' (κ.join κ' w).F v d := fun v d hd hF => by
   have := CVRep.flat (w' := w') (κ := κ') (κ' := κ.join κ' w) (h := []) (h' := []) (x := .d d) (v := v) hd hF
   exact this
  have hj := hr.join hk' (seen_lt hr) hD (fun i e hl => ⟨okHF_spec hok i e hl, ownAll_spec hown i e hl⟩)
  have hkn : κ.n = st.n := hr.kn
  have hres := hav.right (κ := κ) (st := st) (w := w) (fun id e he => hkn ▸ hr.new id e he) hD (dflat_a hflat)
  rw [hkn] at hres
  obtain ⟨st2, hK2, hr2⟩ := setT_sound hK hj hres
  exact ⟨v, he, st2, _, hK2, hr2⟩
 ·exact h.elim
theorem callRX_sound {g : FuncId} {args : List AV} {dst : Option Tmp} {K : St → Prop} (h : CallRX P st g args dst K) (hr : RepK F0 L w0 st a w κ) {vs : List Value} (hl : vs.length = args.length)
  (hv : ∀ (j : Nat) (x : AV) (v : Value), args[j]? = some x → vs[j]? = some v → AVRep w κ st.h x v) :
  Goes P g vs.toArray w fun v w' => ∃ st' κ', K st' ∧ RepK F0 L w0 st' (a.put dst v) w' κ' := by
 unfold CallRX at h
 split at h
 ·rename_i args' hro
  obtain ⟨X, R, resx, hx', nx', hE, hKx⟩ := h
  rcases hE with ⟨hent, hspec⟩ | hext
  case inr =>
   obtain ⟨x, v, hRx, hrun, hfl, hx0, hn0, hav⟩ := hext _ w vs (roAs_sound hr hro vs hl hv)
   obtain ⟨hb, hok, hK⟩ := hKx x hRx
   rw [hx0, hn0, AV.shift_flat hfl] at hK
   obtain ⟨st2, hK2, hr2⟩ := setT_sound (st := st) (by simpa [shiftH] using hK) hr (hav.flat hfl)
   exact .inr ⟨v, hrun, st2, _, hK2, hr2⟩
  refine .inl ⟨hent, (hspec (κ.seen st.h) w vs (seen_lt hr) (roAs_sound hr hro vs hl hv)).mono fun e w' ⟨x, hRx, v, κ', st', a', he, hh', hn', hk', hav⟩ => ?_⟩
  obtain ⟨hb, hok, hK⟩ := hKx x hRx
  generalize resx x = res at hK hav hb
  generalize hx' x = h' at hb hok hK hav hh'
  generalize nx' x = n' at hK hn'
  simp only [Bool.and_eq_true] at hb
  obtain ⟨hown, hflat⟩ := hb
  subst hh' hn'
  have hD : ∀ v d, (fun d : D => d.flat = true) d → Fz w' κ'.F v d → Fz w' (κ.join κ' w).F v d := fun v d hd hF => by
   have := CVRep.flat (w' := w') (κ := κ') (κ' := κ.join κ' w) (h := []) (h' := []) (x := .d d) (v := v) hd hF
   exact this
  have hj := hr.join hk' (seen_lt hr) hD (fun i e hl => ⟨okHF_spec hok i e hl, ownAll_spec hown i e hl⟩)
  have hkn : κ.n = st.n := hr.kn
  have hres := hav.right (κ := κ) (st := st) (w := w) (fun id e he => hkn ▸ hr.new id e he) hD (dflat_a hflat)
  rw [hkn] at hres
  obtain ⟨st2, hK2, hr2⟩ := setT_sound hK hj hres
  exact ⟨v, he, st2, _, hK2, hr2⟩
 ·exact h.elim
def conM (F : Nat → Prop) (v0 : Value) : Con := { F := F, bl := fun _ => 0, val := fun _ => v0, n := 1, vr := fun _ => 0 }
structure GrewX (L : Nat → Prop) (w w' : World) : Prop where
 os : w'.os = w.os
 tape : w'.tape = w.tape
 output : w'.output = w.output
 size : w.heap.size ≤ w'.heap.size
 block : ∀ k, k < w.heap.size → ¬ L k → w'.heap[k]? = w.heap[k]?
def FnSpecM (P : Program) (f : FuncId) (args : List AV) (e : TypeId) (sz : Nat) (es : List (List D)) (res : AV) (es' : List (List D)) : Prop :=
 Enters P f ∧ es'.length = es.length ∧ res.flat = true ∧ FlatR es' ∧ ∀ (F : Nat → Prop) (w : World) (v0 : Value) (vals : List Value), (∀ b, F b → b < w.heap.size ∧ v0.ownBlock ≠ some b) → OwnRep w F e sz v0 es →
  vals.length = args.length → (∀ (j : Nat) (av : AV) (v : Value), args[j]? = some av → vals[j]? = some v → AVRep w (conM F v0) [(0, .arr e sz 0 .own es)] av v) →
  Calls P f vals.toArray w (fun en w' => ∃ v, en = .returned v ∧ AVRep w' (con0 F) [] res v ∧ GrewX (fun b => v0.ownBlock = some b) w w' ∧ OwnRep w' (fun _ => False) e sz v0 es')
def hdel (h : List (Nat × Ent)) (id : Nat) : List (Nat × Ent) :=
 match h with
 | [] => []
 | (k, e) :: r => match Nat.beq k id with | true => hdel r id | false => (k, e) :: hdel r id
theorem look_hdel (h : List (Nat × Ent)) (id m : Nat) : look (hdel h id) m = if m = id then none else look h m := by
 induction h with
 | nil => simp [hdel, look]
 | cons p r ih =>
  obtain ⟨k, e⟩ := p
  simp only [hdel]
  cases hb : Nat.beq k id with
  | true =>
   obtain rfl := beq_iff hb
   simp only [ih, look]
   by_cases hm : m = k
   ·simp [hm]
   ·have : Nat.beq k m = false := by cases hb2 : Nat.beq k m with | true => exact absurd (beq_iff hb2).symm hm | false => rfl
    simp [hm, this]
  | false =>
   simp only [look, ih]
   by_cases hm : m = id
   ·subst hm
    simp [hb]
   ·simp [hm]
def mArg (h : List (Nat × Ent)) (id ver : Nat) (x : AV) : Option AV :=
 match x with
 | .c (.ref i v none) => match Nat.beq i id, Nat.beq v ver with
  | true, true => some (.c (.ref 0 0 none))
  | _, _ => roA (hdel h id) (.c (.ref i v none))
 | x => roA (hdel h id) x
def mArgs (h : List (Nat × Ent)) (id ver : Nat) : List AV → Option (List AV)
 | [] => some []
 | x :: r => match mArg h id ver x, mArgs h id ver r with
  | some d, some ds => some (d :: ds)
  | _, _ => none
def FnSpecV (P : Program) (f : FuncId) (args : List AV) (e : TypeId) (sz : Nat) (es es' : List (List D)) : Prop :=
 Enters P f ∧ FlatR es' ∧ ∀ (F : Nat → Prop) (w : World) (v0 : Value) (vals : List Value), (∀ b, F b → b < w.heap.size ∧ v0.ownBlock ≠ some b) → OwnRep w F e sz v0 es →
  vals.length = args.length → (∀ (j : Nat) (av : AV) (v : Value), args[j]? = some av → vals[j]? = some v → AVRep w (conM F v0) [(0, .arr e sz 0 .own es)] av v) →
  Calls P f vals.toArray w (fun en w' => ∃ v, en = .returned v ∧ GrewX (fun b => v0.ownBlock = some b) w w' ∧ OwnRep w' (fun _ => False) e sz v es' ∧ ∀ b, v.ownBlock = some b → v0.ownBlock = some b ∨ w.heap.size ≤ b)
def CallM (P : Program) (st : St) (g : FuncId) (args : List AV) (dst : Option Tmp) (K : St → Prop) : Prop :=
 ∃ id, match look st.h id with
  | some (.arr e sz ver .own es) => match mArgs st.h id ver args with
   | some args' => (∃ res es', FnSpecM P g args' e sz es res es' ∧ setT { st with h := lput st.h id (.arr e sz ver .own es') } dst res K) ∨ (∃ es', FnSpecV P g args' e sz es es' ∧ setT { st with h := lput st.h id (.arr e sz (ver + 1) .own es') } dst (.c (.ref id (ver + 1) none)) K)
   | none => False
  | _ => False
theorem CVRep.drop {id : Nat} {x : CV} {v : Value} (h : CVRep w κ hh x v) : CVRep w κ (hdel hh id) x v := by
 have hl : ∀ m e, look (hdel hh id) m = some e → look hh m = some e := fun m e he => by
  rw [look_hdel] at he
  split at he
  ·cases he
  ·exact he
 cases x with
 | ref i ver s => obtain ⟨h1, h2, h3, h4⟩ := h; exact ⟨h1, h2, h3, fun e sz own es he => h4 e sz own es (hl _ _ he)⟩
 | ep i ver a b => obtain ⟨h1, h2, h3, h4⟩ := h; exact ⟨h1, h2, h3, fun e sz own es he => h4 e sz own es (hl _ _ he)⟩
 | _ => exact h
theorem RepK.drop (h : RepK F0 L w0 st a w κ) (id : Nat) : RepK F0 L w0 { st with h := hdel st.h id } a w κ := by
 have hl : ∀ m x, look (hdel st.h id) m = some x → look st.h m = some x := fun m x he => by
  rw [look_hdel] at he
  split at he
  ·cases he
  ·exact he
 refine { below := h.below, f0 := h.f0, f1 := h.f1, f2 := h.f2, size := h.size, dfs := h.dfs, kn := h.kn, ents := fun i e he => ?_, new := fun i e he => h.new i e (hl i e he), excl := fun i e b he => h.excl i e b (hl i e he), inj := fun i i' e e' b he he' => h.inj i i' e e' b (hl i e he) (hl i' e' he'), tmps := fun t av ht => ?_, kv := fun i e sz ver own es he => h.kv i e sz ver own es (hl i _ he) }
 ·have := h.ents i e (hl i e he)
  cases e with
  | box ty cs => obtain ⟨vals, g, hv⟩ := this; exact ⟨vals, g, hv.map fun x v hx => hx.drop⟩
  | arr => exact this
 ·obtain ⟨v, hv, hr⟩ := h.tmps t av ht
  exact ⟨v, hv, hr.map fun x v hx => hx.drop⟩
theorem OwnRep.flat {e sz : Nat} {v : Value} {es : List (List D)} {F F' : Nat → Prop} (h : OwnRep w F e sz v es) (hf : FlatR es) : OwnRep w F' e sz v es := by
 obtain ⟨xs, x1, x2⟩ := h
 refine ⟨xs, x1, fun i c hi => ⟨(x2 i c hi).1, fun j d hj => ?_⟩⟩
 obtain ⟨u, hu, hF⟩ := (x2 i c hi).2 j d hj
 exact ⟨u, hu, CVRep.flat (w' := w) (κ := con0 F) (κ' := con0 F') (h := []) (h' := []) (x := .d d) (v := u) (hf c (List.mem_of_getElem? hi) d (List.mem_of_getElem? hj)) hF⟩
theorem mArg_sound (hr : RepK F0 L w0 st a w κ) {id e sz ver : Nat} {es : List (List D)} (hl : look st.h id = some (.arr e sz ver .own es)) {x x' : AV} (hx : mArg st.h id ver x = some x') {v : Value} (hv : AVRep w κ st.h x v) :
  AVRep w (conM (κ.seen (hdel st.h id)) (κ.val id)) [(0, .arr e sz 0 .own es)] x' v := by
 have gen : ∀ {x : AV}, roA (hdel st.h id) x = some x' → AVRep w κ st.h x v → AVRep w (conM (κ.seen (hdel st.h id)) (κ.val id)) [(0, .arr e sz 0 .own es)] x' v := fun {x} hx hv => by
  have h1 := roA_sound (hr.drop id) hx (hv.map fun x v hx => hx.drop)
  refine h1.map fun y u hy => ?_
  cases y with
  | d y => exact hy
  | nl => exact hy
  | u => exact hy
  | ptr => exact absurd hy.1 (Nat.not_lt_zero _)
  | ref => exact absurd hy.1.1 (Nat.not_lt_zero _)
  | ep => exact absurd hy.1.1 (Nat.not_lt_zero _)
  | nst => exact absurd hy.1.1 (Nat.not_lt_zero _)
  | nep => exact absurd hy.1.1 (Nat.not_lt_zero _)
  | fn f caps => exact ⟨fun p hp => absurd (hy.1 p hp) (Nat.not_lt_zero _), by
    have hc : caps = [] := by cases caps with | nil => rfl | cons p r => exact absurd (hy.1 p (by simp)) (Nat.not_lt_zero _)
    rw [hc, hy.2, hc]; rfl⟩
 unfold mArg at hx
 split at hx
 ·rename_i i v'
  split at hx
  ·rename_i h1 h2
   obtain rfl := beq_iff h1
   obtain rfl := beq_iff h2
   cases hx
   obtain ⟨_, h3, h4, h5⟩ := hv
   refine ⟨⟨Nat.zero_lt_one, Nat.le_refl _⟩, h3, h4, fun e' sz' own' es' hl' => ?_⟩
   simp only [look] at hl'
   obtain ⟨rfl, rfl, _, _, rfl⟩ : e = e' ∧ sz = sz' ∧ (0 : Nat) = 0 ∧ Ow.own = own' ∧ es = es' := by simpa [look] using hl'
   exact h5 _ _ _ _ hl
  ·exact gen hx hv
 ·exact gen hx hv
theorem mArgs_sound (hr : RepK F0 L w0 st a w κ) {id e sz ver : Nat} {es : List (List D)} (hl : look st.h id = some (.arr e sz ver .own es)) : ∀ {xs xs' : List AV} (_ : mArgs st.h id ver xs = some xs') (vs : List Value), vs.length = xs.length →
  (∀ (j : Nat) (x : AV) (v : Value), xs[j]? = some x → vs[j]? = some v → AVRep w κ st.h x v) → vs.length = xs'.length ∧ ∀ (j : Nat) (x : AV) (v : Value), xs'[j]? = some x → vs[j]? = some v → AVRep w (conM (κ.seen (hdel st.h id)) (κ.val id)) [(0, .arr e sz 0 .own es)] x v
 | [], xs', hx, vs, hlen, hv => by
  simp only [mArgs, Option.some.injEq] at hx
  subst hx
  exact ⟨hlen, fun j av v hj => by simp at hj⟩
 | x :: xs, xs', hx, vs, hlen, hv => by
  simp only [mArgs] at hx
  split at hx
  ·rename_i d ds h1 h2
   cases hx
   match vs, hlen, hv with
   | v :: vs, hlen, hv =>
    obtain ⟨q1, q2⟩ := mArgs_sound hr hl h2 vs (by simpa using hlen) (fun j x v hj hu => hv (j + 1) x v (by simpa using hj) (by simpa using hu))
    refine ⟨by simp [q1], fun j av u hj hu => ?_⟩
    cases j with
    | zero => simp at hj hu; subst hj; subst hu; exact mArg_sound hr hl h1 (hv 0 x v rfl rfl)
    | succ j => exact q2 j av u (by simpa using hj) (by simpa using hu)
  ·cases hx
theorem callM_sound {g : FuncId} {args : List AV} {dst : Option Tmp} {K : St → Prop} (h : CallM P st g args dst K) (hr : RepK F0 L w0 st a w κ) {vs : List Value} (hl : vs.length = args.length)
  (hv : ∀ (j : Nat) (x : AV) (v : Value), args[j]? = some x → vs[j]? = some v → AVRep w κ st.h x v) :
  Enters P g ∧ Calls P g vs.toArray w fun e w' => ∃ v, e = .returned v ∧ ∃ st' κ', K st' ∧ RepK F0 L w0 st' (a.put dst v) w' κ' := by
 obtain ⟨id, h⟩ := h
 split at h
 ·rename_i e sz ver es hid
  split at h
  ·rename_i args' hm
   rcases h with h | h
   ·obtain ⟨res, es', ⟨hent, hlen, hflat, hfr, hspec⟩, hK⟩ := h
    obtain ⟨q1, q2⟩ := mArgs_sound hr hid hm vs hl hv
    have hFb : ∀ b, κ.seen (hdel st.h id) b → b < w.heap.size ∧ (κ.val id).ownBlock ≠ some b := fun b hb => by
     refine ⟨seen_lt (hr.drop id) b hb, fun he => ?_⟩
     rcases hb with hb | ⟨i, x, hi, hb⟩
     ·exact (hr.excl id _ b hid (has_row he)).2.1 rfl hb
     ·simp only [look_hdel] at hi
      split at hi
      ·cases hi
      ·rename_i hne
       exact hne (hr.inj i id x _ b hi hid hb (has_row he))
    have hown : OwnRep w (κ.seen (hdel st.h id)) e sz (κ.val id) es := OwnRep.mono (hr.ents id _ hid) (fun b hb => .inl hb)
    refine ⟨hent, (hspec _ w (κ.val id) vs hFb hown q1 q2).mono fun en w' ⟨v, he, hav, hg, ho⟩ => ⟨v, he, ?_⟩⟩
    have hup : RepK F0 L w0 { st with h := lput st.h id (.arr e sz ver .own es') } a w' κ := by
     refine hr.upd hid rfl rfl rfl rfl rfl (fun _ _ => ⟨rfl, rfl, rfl⟩) hg.os hg.tape hg.output hg.size (fun k hk hne => hg.block k hk (fun h => hne (has_row h))) (ho.flat hfr) (fun b hb => .inl hb) (fun x v hx => ?_) (fun e0 sz0 ver0 own0 es0 he0 => ?_)
     ·refine cv_same rfl rfl rfl rfl rfl rfl (fun i e0 sz0 ver0 own0 es0 hi => ?_) hx
      rw [look_lput] at hi
      split at hi
      ·rename_i hh
       subst hh
       cases hi
       exact ⟨_, es, hid, hlen.symm⟩
      ·exact ⟨own0, es0, hi, rfl⟩
     ·cases he0
      exact hr.kv id _ _ _ _ _ hid
    obtain ⟨st2, hK2, hr2⟩ := setT_sound hK hup (hav.flat hflat)
    exact ⟨st2, _, hK2, hr2⟩
   ·obtain ⟨es', ⟨hent, hfr, hspec⟩, hK⟩ := h
    obtain ⟨q1, q2⟩ := mArgs_sound hr hid hm vs hl hv
    have hFb : ∀ b, κ.seen (hdel st.h id) b → b < w.heap.size ∧ (κ.val id).ownBlock ≠ some b := fun b hb => by
     refine ⟨seen_lt (hr.drop id) b hb, fun he => ?_⟩
     rcases hb with hb | ⟨i, x, hi, hb⟩
     ·exact (hr.excl id _ b hid (has_row he)).2.1 rfl hb
     ·simp only [look_hdel] at hi
      split at hi
      ·cases hi
      ·rename_i hne
       exact hne (hr.inj i id x _ b hi hid hb (has_row he))
    have hown : OwnRep w (κ.seen (hdel st.h id)) e sz (κ.val id) es := OwnRep.mono (hr.ents id _ hid) (fun b hb => .inl hb)
    refine ⟨hent, (hspec _ w (κ.val id) vs hFb hown q1 q2).mono fun en w' ⟨v, he, hg, ho, hblk⟩ => ⟨v, he, ?_⟩⟩
    let κ1 : Con := { κ with val := fun i => if i = id then v else κ.val i, vr := fun i => if i = id then ver + 1 else κ.vr i }
    have hvr := hr.kv _ _ _ _ _ _ hid
    have hcv : ∀ x v, CVRep w κ st.h x v → CVRep w κ1 (lput st.h id (.arr e sz (ver + 1) .own es')) x v := by
     intro x v hx
     cases x with
     | d x => exact hx
     | nl _ => exact hx
     | u => exact hx
     | ptr => exact hx
     | fn => exact hx
     | ref i vr s =>
      obtain ⟨⟨z1, z1'⟩, z2, z3, z4⟩ := hx
      by_cases hi : i = id
      ·subst hi
       refine ⟨⟨z1, by simp only [κ1, if_true]; omega⟩, z2, z3, fun e sz own es' hl' => ?_⟩
       rw [look_lput, if_pos rfl] at hl'
       cases hl'
       omega
      ·refine ⟨⟨z1, by simp only [κ1, if_neg hi]; exact z1'⟩, z2, z3, fun e sz own es' hl' => ?_⟩
       rw [look_lput, if_neg (fun h => hi h.symm)] at hl'
       simp only [κ1, if_neg hi]
       exact z4 _ _ _ _ hl'
     | nst i vr p =>
      obtain ⟨⟨z1, z1'⟩, z2, z3, z4⟩ := hx
      by_cases hi : i = id
      ·subst hi
       exact ⟨⟨z1, by simp only [κ1, if_true]; omega⟩, z2, z3, by simp only [κ1, if_true]; intro; omega⟩
      ·exact ⟨⟨z1, by simp only [κ1, if_neg hi]; exact z1'⟩, z2, z3, by simp only [κ1, if_neg hi]; exact z4⟩
     | nep i vr p q =>
      obtain ⟨⟨z1, z1'⟩, z2, z3, z4⟩ := hx
      by_cases hi : i = id
      ·subst hi
       exact ⟨⟨z1, by simp only [κ1, if_true]; omega⟩, z2, z3, by simp only [κ1, if_true]; intro; omega⟩
      ·exact ⟨⟨z1, by simp only [κ1, if_neg hi]; exact z1'⟩, z2, z3, by simp only [κ1, if_neg hi]; exact z4⟩
     | ep i vr k j =>
      obtain ⟨⟨z1, z1'⟩, z2, z3, z4⟩ := hx
      by_cases hi : i = id
      ·subst hi
       refine ⟨⟨z1, by simp only [κ1, if_true]; omega⟩, z2, z3, fun e sz own es' hl' => ?_⟩
       rw [look_lput, if_pos rfl] at hl'
       cases hl'
       omega
      ·refine ⟨⟨z1, by simp only [κ1, if_neg hi]; exact z1'⟩, z2, z3, fun e sz own es' hl' => ?_⟩
       rw [look_lput, if_neg (fun h => hi h.symm)] at hl'
       simp only [κ1, if_neg hi]
       exact z4 _ _ _ _ hl'
    have hup : RepK F0 L w0 { st with h := lput st.h id (.arr e sz (ver + 1) .own es') } a w' κ1 := by
     refine hr.upd hid rfl rfl rfl rfl rfl (fun i hi => ⟨by simp only [κ1, if_neg hi], by simp only [κ1, if_neg hi], rfl⟩) hg.os hg.tape hg.output hg.size (fun k hk hne => hg.block k hk (fun h => hne (has_row h))) ?_ (fun b hb => ?_) hcv (fun _ _ _ _ _ h => by cases h; simp only [κ1, if_true])
     ·show OwnRep _ _ _ _ _ _
      simp only [κ1, if_true]
      exact ho.flat hfr
     ·rw [has_own] at hb ⊢
      simp only [κ1, if_true] at hb
      exact hblk b hb
    obtain ⟨A, c, hvs, hc⟩ := own_shape ho
    have hidn : id < κ.n := hr.kn ▸ hr.new id _ hid
    obtain ⟨st2, hK2, hr2⟩ := setT_sound hK hup (v := v) (by
     refine ⟨⟨hidn, by simp only [κ1, if_true]; exact Nat.le_refl _⟩, by rw [hvs]; rfl, by rw [hvs]; rfl, fun e sz own es0 hl' => ?_⟩
     simp only [look_lput, if_true] at hl'
     cases hl'
     refine ⟨by simp [offR, lenR], A, es'.length, c, A, c, by simp only [κ1, if_true]; exact hvs, by simp only [lenR]; exact hvs, by simp only [lenR]; exact hc, fun _ => ?_, fun _ => ⟨rfl, rfl, rfl⟩⟩
     cases A with
     | none => rfl
     | some A => simp [offR, Addr.add])
    exact ⟨st2, _, hK2, hr2⟩
  ·exact h.elim
 ·exact h.elim
def numbered : Nat → List AV → List (Nat × AV)
 | _, [] => []
 | k, x :: r => (k, x) :: numbered (k + 1) r
theorem look_numbered : ∀ (k : Nat) (l : List AV) (i : Nat) (x : AV), look (numbered k l) i = some x → k ≤ i ∧ l[i - k]? = some x
 | k, [], i, x, h => by simp [numbered, look] at h
 | k, y :: r, i, x, h => by
  simp only [numbered, look] at h
  split at h
  ·rename_i hb
   obtain rfl := beq_iff hb
   cases h
   exact ⟨Nat.le_refl _, by simp⟩
  ·rename_i hb
   obtain ⟨h1, h2⟩ := look_numbered (k + 1) r i x h
   refine ⟨by omega, ?_⟩
   obtain ⟨j, rfl⟩ : ∃ j, i = k + 1 + j := ⟨i - (k + 1), by omega⟩
   rw [show k + 1 + j - (k + 1) = j by omega] at h2
   rw [show k + 1 + j - k = j + 1 by omega]
   simpa using h2
def lentB (κ : Con) (h : List (Nat × Ent)) (b : Nat) : Prop := ∃ id e, look h id = some e ∧ e.has κ id b
def FnSpecJ (P : Program) (f : FuncId) (args : List AV) (hs : List (Nat × Ent)) (n : Nat) (res : AV) : Prop :=
 Enters P f ∧ res.flat = true ∧ ∀ F0 L w0 w κ (vals : List Value), RepK F0 L w0 ⟨numbered 0 args, hs, n, args.length⟩ { tmps := vals.toArray, defers := [] } w κ →
  Calls P f vals.toArray w (fun en w' => ∃ v, en = .returned v ∧ AVRep w' (con0 fun _ => False) [] res v ∧ GrewX (lentB κ hs) w w')
def hdels (h : List (Nat × Ent)) : List (Nat × Nat) → List (Nat × Ent)
 | [] => h
 | (id, _) :: r => hdels (hdel h id) r
theorem look_hdels : ∀ (m : List (Nat × Nat)) (h : List (Nat × Ent)) (i : Nat) (e : Ent), look (hdels h m) i = some e → look h i = some e ∧ look m i = none
 | [], h, i, e, hl => ⟨hl, rfl⟩
 | (id, k) :: r, h, i, e, hl => by
  obtain ⟨h1, h2⟩ := look_hdels r (hdel h id) i e hl
  rw [look_hdel] at h1
  split at h1
  ·cases h1
  ·rename_i hne
   refine ⟨h1, ?_⟩
   simp only [look]
   cases hb : Nat.beq id i with
   | true => exact absurd (beq_iff hb).symm hne
   | false => exact h2
def keepN : Nat → List AV → List Nat
 | _, [] => []
 | k, _ :: r => k :: keepN (k + 1) r
def CallJ (P : Program) (st : St) (g : FuncId) (args : List AV) (dst : Option Tmp) (K : St → Prop) : Prop :=
 ∃ m : List (Nat × Nat), match (⟨numbered 0 args, st.h, st.n, args.length⟩ : St).norm (keepN 0 args) m m.length with
  | some ⟨t, hs, n, N⟩ => ∃ args' res, (t = numbered 0 args' ∧ N = args'.length ∧ ownAll hs = true) ∧ FnSpecJ P g args' hs n res ∧ (match st with | ⟨t, h, n, N⟩ => setT ⟨t, hdels h m, n, N⟩ dst res K)
  | none => False
theorem CVRep.less {h h' : List (Nat × Ent)} (hl : ∀ m e, look h' m = some e → look h m = some e) {x : CV} {v : Value} (hx : CVRep w κ h x v) : CVRep w κ h' x v := by
 cases x with
 | ref i ver s => obtain ⟨h1, h2, h3, h4⟩ := hx; exact ⟨h1, h2, h3, fun e sz own es he => h4 e sz own es (hl _ _ he)⟩
 | ep i ver a b => obtain ⟨h1, h2, h3, h4⟩ := hx; exact ⟨h1, h2, h3, fun e sz own es he => h4 e sz own es (hl _ _ he)⟩
 | _ => exact hx
theorem RepK.lose (h : RepK F0 L w0 st a w κ) {h' : List (Nat × Ent)} (hl : ∀ m e, look h' m = some e → look st.h m = some e) {B : Nat → Prop} (g : GrewX B w w')
  (hB : ∀ b, B b → ∃ id e, look st.h id = some e ∧ e.has κ id b ∧ e.own = true ∧ look h' id = none) : RepK F0 L w0 { st with h := h' } a w' κ := by
 have hF : ∀ b, κ.F b → w'.heap[b]? = w.heap[b]? := fun b hb => g.block b (h.f2 b hb) fun hb' => by
  obtain ⟨id, e, q1, q2, q3, _⟩ := hB b hb'
  exact (h.excl id e b q1 q2).2.1 q3 hb
 refine { below := ?_, f0 := h.f0, f1 := h.f1, f2 := fun b hb => Nat.lt_of_lt_of_le (h.f2 b hb) g.size, size := h.size, dfs := h.dfs, kn := h.kn, ents := fun i e he => ?_, new := fun i e he => h.new i e (hl i e he), excl := fun i e b he => h.excl i e b (hl i e he), inj := fun i i' e e' b he he' => h.inj i i' e e' b (hl i e he) (hl i' e' he'), tmps := fun t av ht => ?_, kv := fun i e sz ver own es he => h.kv i e sz ver own es (hl i _ he) }
 ·refine h.below.step g.os g.tape g.output g.size fun k hk hL => g.block k (Nat.lt_of_lt_of_le hk h.below.size) fun hb => ?_
  obtain ⟨id, e, q1, q2, q3, _⟩ := hB k hb
  rcases (h.excl id e k q1 q2).1 q3 with q | q
  ·omega
  ·exact hL q
 ·have hx := h.ents i e (hl i e he)
  have hx' : EntRep w' κ st.h i e := hx.keep hF fun b hb => g.block b (hx.lt hb) fun hb' => by
   obtain ⟨id, e2, q1, q2, _, q4⟩ := hB b hb'
   obtain rfl := h.inj i id e e2 b (hl i e he) q1 hb q2
   rw [he] at q4; cases q4
  cases e with
  | box ty cs => obtain ⟨vals, g, hv⟩ := hx'; exact ⟨vals, g, hv.map fun x v hx => hx.less hl⟩
  | arr => exact hx'
 ·obtain ⟨v, hv, hr⟩ := h.tmps t av ht
  exact ⟨v, hv, (hr.keep hF).map fun x v hx => hx.less hl⟩
theorem callJ_sound {g : FuncId} {args : List AV} {dst : Option Tmp} {K : St → Prop} (h : CallJ P st g args dst K) (hr : RepK F0 L w0 st a w κ) {vs : List Value} (hl : vs.length = args.length)
  (hv : ∀ (j : Nat) (x : AV) (v : Value), args[j]? = some x → vs[j]? = some v → AVRep w κ st.h x v) :
  Enters P g ∧ Calls P g vs.toArray w fun e w' => ∃ v, e = .returned v ∧ ∃ st' κ', K st' ∧ RepK F0 L w0 st' (a.put dst v) w' κ' := by
 obtain ⟨m, h⟩ := h
 have hr1 : RepK F0 L w0 ⟨numbered 0 args, st.h, st.n, args.length⟩ { tmps := vs.toArray, defers := [] } w κ := by
  refine { below := hr.below, f0 := hr.f0, f1 := hr.f1, f2 := hr.f2, size := by simp [hl], dfs := rfl, kn := hr.kn, ents := hr.ents, new := hr.new, excl := hr.excl, inj := hr.inj, kv := hr.kv, tmps := fun t av ht => ?_ }
  obtain ⟨_, h2⟩ := look_numbered 0 args t av ht
  rw [Nat.sub_zero] at h2
  have hlt : t < vs.length := by rw [hl]; exact (List.getElem?_eq_some_iff.1 h2).1
  exact ⟨vs[t], by simp [hlt], hv t av _ h2 (List.getElem?_eq_getElem hlt)⟩
 split at h
 ·rename_i t hs n N hn
  obtain ⟨args', res, ⟨rfl, rfl, hown⟩, ⟨hent, hflat, hspec⟩, hK⟩ := h
  have hr2 := hr1.norm hn
  refine ⟨hent, (hspec F0 L w0 w _ vs hr2).mono fun en w' ⟨v, he, hav, hg⟩ => ⟨v, he, ?_⟩⟩
  have hup : RepK F0 L w0 { st with h := hdels st.h m } a w' κ := by
   refine hr.lose (fun i e he => (look_hdels m st.h i e he).1) hg fun b ⟨k, e', q1, q2⟩ => ?_
   simp only [St.norm] at hn
   split at hn
   ·rename_i h' hm hrn
    simp only [Option.some.injEq, St.mk.injEq] at hn
    obtain ⟨_, rfl, rfl, _⟩ := hn
    obtain ⟨o, e, p1, p2, rfl⟩ := renH_spec hrn k e' q1
    have hsp := okM_spec hm
    have p3 := hsp.2 _ _ p1
    have p4 := (hsp.1 _ _ p3).2
    have hb : e.has κ o b := by
     have q2' := q2
     cases e <;> simpa only [Ent.ren, Ent.has, Con.fp, Con.ren, p4] using q2'
    have ho : e.own = true := by
     have := ownAll_spec hown k _ q1
     cases e <;> exact this
    refine ⟨o, e, p2, hb, ho, ?_⟩
    cases hd : look (hdels st.h m) o with
    | none => rfl
    | some y => rw [(look_hdels m st.h o y hd).2] at p3; cases p3
   ·cases hn
  cases st
  obtain ⟨st2, hK2, hr3⟩ := setT_sound hK hup (hav.flat hflat)
  exact ⟨st2, _, hK2, hr3⟩
 ·exact h.elim
def conB (F : Nat → Prop) (b : Nat) : Con := { F := F, bl := fun _ => b, val := fun _ => .slice none 0 0, n := 1, vr := fun _ => 0 }
def allD : List CV → Bool
 | [] => true
 | .d _ :: r => allD r
 | _ => false
theorem allD_spec : ∀ {cs : List CV}, allD cs = true → ∀ (j : Nat) (c : CV), cs[j]? = some c → ∃ d, c = .d d
 | [], _, j, c, h => by simp at h
 | x :: r, ha, j, c, h => by
  cases x with
  | d d =>
   cases j with
   | zero => simp at h; exact ⟨d, h.symm⟩
   | succ j => exact allD_spec (cs := r) ha j c (by simpa using h)
  | _ => simp [allD] at ha
def FnSpecB (P : Program) (f : FuncId) (args : List AV) (ty : TypeId) (cs : List CV) (X : Type) (R : X → Prop) (res : X → AV) (cs' : X → List CV) (h' : X → List (Nat × Ent)) (n' : X → Nat) : Prop :=
 Enters P f ∧ ∀ (F : Nat → Prop) (w : World) (b : Nat) (vals : List Value), (∀ c, F c → c < w.heap.size ∧ c ≠ b) → (∃ us : List Value, w.heap[b]? = some (.cells us.toArray ty (0, 0)) ∧ CVs w (conB F b) [] cs us) →
  vals.length = args.length → (∀ (j : Nat) (av : AV) (v : Value), args[j]? = some av → vals[j]? = some v → AVRep w (conB F b) [] av v) →
  Calls P f vals.toArray w (fun e w' => ∃ x, R x ∧ ∃ v κ' st' a', e = .returned v ∧ st'.h = (0, .box ty (cs' x)) :: h' x ∧ st'.n = n' x ∧ RepK F (fun c => c = b) w st' a' w' κ' ∧ κ'.bl 0 = b ∧ AVRep w' κ' st'.h (res x) v)
def frzB1 (h : List (Nat × Ent)) (id : Nat) (x : AV) : Option (AV × List (Nat × Ent)) :=
 match x with | .c (.ptr i off) => (match Nat.beq i id with | true => (match Nat.beq off 0 with | true => some (AV.c (.ptr 0 0), h) | false => none) | false => none) | x => frzA h x
def frzBs (h : List (Nat × Ent)) (id : Nat) : List AV → Option (List AV × List (Nat × Ent))
 | [] => some ([], h)
 | x :: r => match frzB1 h id x with
  | some (d, h1) => match frzBs h1 id r with
   | some (ds, h2) => some (d :: ds, h2)
   | none => none
  | none => none
def CallB (P : Program) (st : St) (g : FuncId) (args : List AV) (dst : Option Tmp) (K : St → Prop) : Prop :=
 ∃ id, match frzBs st.h id args with
  | some (args', hz) => match look hz id with
   | some (.box ty cs) => match allD cs with
    | true => ∃ (X : Type) (R : X → Prop) (res : X → AV) (cs' : X → List CV) (h' : X → List (Nat × Ent)) (n' : X → Nat), FnSpecB P g args' ty cs X R res cs' h' n' ∧
      ∀ x, R x → (ownAll (h' x) && allD (cs' x) && (look (h' x) 0).isNone) = true ∧ setT { st with h := lput hz id (.box ty (cs' x)) ++ shiftH st.n (h' x), n := st.n + n' x } dst ((res x).shift st.n) K
    | false => False
   | _ => False
  | none => False
theorem con0_any {F F' : Nat → Prop} {κ2 : Con} (hF : ∀ b, F b → κ2.F b) {h2 : List (Nat × Ent)} {x : AV} {v : Value} (h : AVRep w (con0 F) [] x v) : AVRep w κ2 h2 x v :=
 h.map fun x v hx => by
  cases x with
  | d x => exact Fz.keep (fun _ _ => rfl) hF hx
  | nl => exact hx
  | u => exact hx
  | ptr => exact absurd hx.1 (Nat.not_lt_zero _)
  | ref => exact absurd hx.1.1 (Nat.not_lt_zero _)
  | ep => exact absurd hx.1.1 (Nat.not_lt_zero _)
  | nst => exact absurd hx.1.1 (Nat.not_lt_zero _)
  | nep => exact absurd hx.1.1 (Nat.not_lt_zero _)
  | fn f caps => exact ⟨fun p hp => absurd (hx.1 p hp) (Nat.not_lt_zero _), by
    have hc : caps = [] := by cases caps with | nil => rfl | cons p r => exact absurd (hx.1 p (by simp)) (Nat.not_lt_zero _)
    rw [hc, hx.2, hc]; rfl⟩
theorem conB_mono {F F' : Nat → Prop} {b : Nat} (hF : ∀ b, F b → F' b) {x : AV} {v : Value} (h : AVRep w (conB F b) [] x v) : AVRep w (conB F' b) [] x v :=
 h.map fun x v hx => by
  cases x with
  | d x => exact Fz.keep (fun _ _ => rfl) hF hx
  | _ => exact hx
theorem frzBs_sound {id : Nat} : ∀ {xs : List AV} {st : St} {κ : Con} {xs' : List AV} {h' : List (Nat × Ent)} (_ : RepK F0 L w0 st a w κ) (_ : frzBs st.h id xs = some (xs', h')),
  ∃ κ', RepK F0 L w0 { st with h := h' } a w κ' ∧ κ'.bl = κ.bl ∧ (∀ b, κ.F b → κ'.F b) ∧ (∀ vs : List Value, vs.length = xs.length → (∀ (j : Nat) (x : AV) (v : Value), xs[j]? = some x → vs[j]? = some v → AVRep w κ st.h x v) →
   vs.length = xs'.length ∧ ∀ (j : Nat) (x : AV) (v : Value), xs'[j]? = some x → vs[j]? = some v → AVRep w (conB κ'.F (κ.bl id)) [] x v) ∧ ∀ y u, CVRep w κ st.h y u → CVRep w κ' h' y u
 | [], st, κ, xs', h', h, hf => by
  simp only [frzBs, Option.some.injEq, Prod.mk.injEq] at hf
  obtain ⟨rfl, rfl⟩ := hf
  exact ⟨κ, h, rfl, fun _ h => h, fun vs hl _ => ⟨hl, fun j av v hj => by simp at hj⟩, fun _ _ h => h⟩
 | x :: xs, st, κ, xs', h', h, hf => by
  have key : ∀ {d : AV} {h1 : List (Nat × Ent)}, frzB1 st.h id x = some (d, h1) →
    ∃ κ', RepK F0 L w0 { st with h := h1 } a w κ' ∧ κ'.bl = κ.bl ∧ (∀ b, κ.F b → κ'.F b) ∧ (∀ v, AVRep w κ st.h x v → AVRep w (conB κ'.F (κ.bl id)) [] d v) ∧ ∀ y u, CVRep w κ st.h y u → CVRep w κ' h1 y u := fun {d h1} hx => by
   unfold frzB1 at hx
   split at hx
   ·rename_i i off
    split at hx
    ·rename_i hb1
     split at hx
     ·rename_i hb2
      simp only [Option.some.injEq, Prod.mk.injEq] at hx
      obtain ⟨rfl, rfl⟩ := hx
      obtain rfl := beq_iff hb1
      obtain rfl := beq_iff hb2
      refine ⟨κ, h, rfl, fun _ h => h, fun v hv => ?_, fun _ _ h => h⟩
      obtain ⟨_, hv⟩ := hv
      exact ⟨Nat.zero_lt_one, hv⟩
     ·cases hx
    ·cases hx
   ·obtain ⟨κ1, k1, b1, _, f1, q1, m1⟩ := frzA_sound h hx
    exact ⟨κ1, k1, b1, f1, fun v hv => con0_any (F' := κ1.F) (fun _ hb => hb) (q1 v hv), m1⟩
  simp only [frzBs] at hf
  split at hf
  ·rename_i d h1 hx
   split at hf
   ·rename_i ds' h2 hr
    simp only [Option.some.injEq, Prod.mk.injEq] at hf
    obtain ⟨rfl, rfl⟩ := hf
    obtain ⟨κ1, k1, b1, f1, q1, m1⟩ := key hx
    obtain ⟨κ2, k2, b2, f2, q2, m2⟩ := frzBs_sound (st := { st with h := h1 }) k1 hr
    refine ⟨κ2, k2, b2.trans b1, fun b hb => f2 b (f1 b hb), fun vs hl hvs => ?_, fun y u hy => m2 y u (m1 y u hy)⟩
    match vs, hl, hvs with
    | v :: vs, hl, hvs =>
     obtain ⟨r1, r2⟩ := q2 vs (by simpa using hl) (fun j x v hj hv => (hvs (j + 1) x v (by simpa using hj) (by simpa using hv)).map m1)
     refine ⟨by simp [r1], fun j av u hj hu => ?_⟩
     cases j with
     | zero =>
      simp at hj hu
      subst hj; subst hu
      exact conB_mono f2 (q1 _ (hvs 0 x v rfl rfl))
     | succ j =>
      have := r2 j av u (by simpa using hj) (by simpa using hu)
      rwa [b1] at this
   ·simp at hf
  ·simp at hf
theorem CVRep.alike {h1 h2 : List (Nat × Ent)} (hl : ∀ m e sz ver own es, look h2 m = some (.arr e sz ver own es) → look h1 m = some (.arr e sz ver own es)) {x : CV} {v : Value} (hx : CVRep w κ h1 x v) : CVRep w κ h2 x v := by
 cases x with
 | ref i ver s => obtain ⟨q1, q2, q3, q4⟩ := hx; exact ⟨q1, q2, q3, fun e sz own es he => q4 e sz own es (hl _ _ _ _ _ _ he)⟩
 | ep i ver a b => obtain ⟨q1, q2, q3, q4⟩ := hx; exact ⟨q1, q2, q3, fun e sz own es he => q4 e sz own es (hl _ _ _ _ _ _ he)⟩
 | _ => exact hx
theorem callB_sound {g : FuncId} {args : List AV} {dst : Option Tmp} {K : St → Prop} (h : CallB P st g args dst K) (hr : RepK F0 L w0 st a w κ) {vs : List Value} (hl : vs.length = args.length)
  (hv : ∀ (j : Nat) (x : AV) (v : Value), args[j]? = some x → vs[j]? = some v → AVRep w κ st.h x v) :
  Enters P g ∧ Calls P g vs.toArray w fun e w' => ∃ v, e = .returned v ∧ ∃ st' κ', K st' ∧ RepK F0 L w0 st' (a.put dst v) w' κ' := by
 obtain ⟨id, h⟩ := h
 split at h
 ·rename_i args' hz hfz
  split at h
  ·rename_i ty cs hid
   split at h
   ·rename_i had
    obtain ⟨X, R, resx, csx, hx', nx', ⟨hent, hspec⟩, hKx⟩ := h
    obtain ⟨κ1, k1, b1, f1, q1, m1⟩ := frzBs_sound hr hfz
    obtain ⟨a1, a2⟩ := q1 vs hl hv
    rw [← b1] at a2
    generalize hb : κ1.bl id = b at a2
    have hex := k1.excl id _ b hid hb
    have hblt : b < w.heap.size := (k1.ents id _ hid).lt (b := b) hb
    have hidn : id < κ1.n := k1.kn ▸ k1.new id _ hid
    obtain ⟨us, hg, hus⟩ := k1.ents id _ hid
    rw [hb] at hg
    have hbox : ∃ us : List Value, w.heap[b]? = some (.cells us.toArray ty (0, 0)) ∧ CVs w (conB κ1.F b) [] cs us := ⟨us, hg, hus.1, fun j c u hc hu => by
     obtain ⟨d, rfl⟩ := allD_spec had j c hc
     exact hus.2 j _ u hc hu⟩
    refine ⟨hent, (hspec κ1.F w b vs (fun c hc => ⟨k1.f2 c hc, fun e => hex.2.1 rfl (e ▸ hc)⟩) hbox a1 a2).mono fun en w' ⟨x, hRx, v, κ', stc, ac, he, hh, hn', hk', hbl, hav⟩ => ?_⟩
    obtain ⟨hchk, hK⟩ := hKx x hRx
    simp only [Bool.and_eq_true] at hchk
    obtain ⟨⟨hown, had'⟩, hzero⟩ := hchk
    generalize resx x = res at hK hav
    generalize csx x = cs'' at had' hK hh
    generalize hx' x = h'' at hown hzero hK hh
    generalize nx' x = n'' at hK hn'
    have hc0 : look stc.h 0 = some (.box ty cs'') := by rw [hh]; rfl
    have hcx := hk'.excl 0 _ b hc0 hbl
    have hcb : ∃ us : List Value, w'.heap[b]? = some (.cells us.toArray ty (0, 0)) ∧ CVs w' κ' stc.h cs'' us := by
     have := hk'.ents 0 _ hc0
     obtain ⟨us, h1, h2⟩ := this
     rw [hbl] at h1
     exact ⟨us, h1, h2⟩
    obtain ⟨us', hg', hus'⟩ := hcb
    let w1 : World := { w' with heap := w.heap.setIfInBounds b (.cells us'.toArray ty (0, 0)) }
    have hsz1 : w1.heap.size = w.heap.size := by simp [w1]
    have hw1b : w1.heap[b]? = w'.heap[b]? := by
     rw [hg']
     simp only [w1, Array.getElem?_setIfInBounds]
     simp [hblt]
    have hw1o : ∀ k, k ≠ b → w1.heap[k]? = w.heap[k]? := fun k hk => by
     simp only [w1]
     rw [Array.getElem?_setIfInBounds_ne (Ne.symm hk)]
    have g1 : GrewX (fun c => c = b) w w1 := ⟨hk'.below.os, hk'.below.tape, hk'.below.output, by rw [hsz1]; exact Nat.le_refl _, fun k _ hk => hw1o k hk⟩
    have k2 : RepK F0 L w0 { st with h := hdel hz id } a w1 κ1 := k1.lose (h' := hdel hz id) (fun m e he => by rw [look_hdel] at he; split at he; cases he; exact he) g1 (fun c hc => ⟨id, _, hid, by rw [hc]; exact hb, rfl, by rw [look_hdel]; simp⟩)
    have hkd := hk'.drop 0
    have hc2 : RepK κ1.F (fun _ => False) w1 { stc with h := hdel stc.h 0 } ac w' κ' := by
     refine { below := ⟨rfl, rfl, rfl, by rw [hsz1]; exact hk'.below.size, fun k hk _ => ?_⟩, f0 := hk'.f0, f1 := fun c hc => ?_, f2 := hk'.f2, ents := hkd.ents, new := hkd.new, excl := fun i e c hi hc => ?_, inj := hkd.inj, tmps := hkd.tmps, size := hk'.size, dfs := hk'.dfs, kn := hk'.kn, kv := hkd.kv }
     ·rw [hsz1] at hk
      by_cases hkb : k = b
      ·rw [hkb]; exact hw1b.symm
      ·rw [hk'.below.block k hk hkb, hw1o k hkb]
     ·rcases hk'.f1 c hc with q | q | q
      ·exact .inl q
      ·exact .inr (.inl (by rw [hsz1]; exact q))
      ·exact absurd (q ▸ hc) (hcx.2.1 rfl)
     ·have hi' := hi
      rw [look_hdel] at hi'
      split at hi'
      ·cases hi'
      ·rename_i hne
       obtain ⟨p1, p2⟩ := hkd.excl i e c hi hc
       refine ⟨fun ho => .inl ?_, p2⟩
       rcases p1 ho with p1 | p1
       ·rw [hsz1]; exact p1
       ·exact absurd (hk'.inj i 0 e _ c hi' hc0 hc (by rw [p1]; exact hbl)) hne
    have hD : ∀ v d, (fun _ : D => True) d → Fz w' κ'.F v d → Fz w' (κ1.join κ' w1).F v d := fun v d _ hF => Fz.keep (fun _ _ => rfl) (fun c hc => by
     rcases hc2.f1 c hc with h1 | h1 | h1
     ·exact .inl h1
     ·exact .inr ⟨hc, h1⟩
     ·exact h1.elim) hF
    have hlk : ∀ i e, look (hdel stc.h 0) i = some e → look h'' i = some e := fun i e hi => by
     rw [look_hdel, hh] at hi
     split at hi
     ·cases hi
     ·rename_i hne
      simp only [look] at hi
      cases hb0 : Nat.beq 0 i with
      | true => exact absurd (beq_iff hb0).symm hne
      | false => simpa [hb0] using hi
    have hj := k2.join hc2 (fun c hc => by rw [hsz1]; exact k1.f2 c hc) hD (fun i e hi => ⟨okD_true_e e, ownAll_spec hown i e (hlk i e hi)⟩)
    have hkn : κ1.n = st.n := k1.kn
    have hok : CVOk hz st.n := fun i e he => k1.new i e he
    let hN := lput hz id (.box ty cs'') ++ shiftH st.n h''
    have hokL : CVOk (lput hz id (.box ty cs'')) st.n := fun i e he => by
     rw [look_lput] at he
     split at he
     ·rename_i q; rw [← q, ← hkn]; exact hidn
     ·exact hok i e he
    have hcvok : ∀ i e, look hN i = some e → (i = id ∧ e = .box ty cs'') ∨ (i ≠ id ∧ look (hdel hz id ++ shiftH st.n (hdel stc.h 0)) i = some e) := fun i e hi => by
     simp only [hN, look_append] at hi
     rw [look_append]
     cases hq : look (lput hz id (.box ty cs'')) i with
     | some e0 =>
      simp only [hq, Option.some.injEq] at hi
      subst hi
      rw [look_lput] at hq
      split at hq
      ·rename_i q; cases hq; exact .inl ⟨q.symm, rfl⟩
      ·rename_i q
       refine .inr ⟨fun e => q e.symm, ?_⟩
       rw [look_hdel, if_neg (fun e => q e.symm), hq]
     | none =>
      simp only [hq] at hi
      rw [look_lput] at hq
      split at hq
      ·cases hq
      ·rename_i q
       refine .inr ⟨fun e => q e.symm, ?_⟩
       rw [look_hdel, if_neg (fun e => q e.symm), hq]
       simp only
       rcases Nat.lt_or_ge i st.n with hlt | hge
       ·rw [look_shift_lt _ _ _ hlt] at hi; cases hi
       ·obtain ⟨i', rfl⟩ : ∃ i', i = st.n + i' := ⟨i - st.n, by omega⟩
        rw [look_shift] at hi ⊢
        simp only [Option.map_eq_some_iff] at hi ⊢
        obtain ⟨e0, p1, p2⟩ := hi
        refine ⟨e0, ?_, p2⟩
        rw [look_hdel, hh]
        split
        ·rename_i q0
         rw [q0] at p1
         simp [p1] at hzero
        ·rename_i q0
         simp only [look]
         cases hb0 : Nat.beq 0 i' with
         | true => exact absurd (beq_iff hb0).symm q0
         | false => simpa [hb0] using p1
    have hal : ∀ m e sz ver own es, look hN m = some (.arr e sz ver own es) → look (hdel hz id ++ shiftH st.n (hdel stc.h 0)) m = some (.arr e sz ver own es) := fun m e sz ver own es he => by
     rcases hcvok m _ he with ⟨_, q⟩ | ⟨_, q⟩
     ·cases q
     ·exact q
    have hjb : (κ1.join κ' w1).bl id = b := by simp only [Con.join, if_pos hidn, hb]
    have hothers : ∀ i e c, look (hdel hz id ++ shiftH st.n (hdel stc.h 0)) i = some e → e.has (κ1.join κ' w1) i c → c ≠ b := fun i e c hi hc hcb => by
     subst hcb
     have hok2 : CVOk (hdel hz id) κ1.n := fun i e he => by rw [hkn]; rw [look_hdel] at he; split at he; cases he; exact hok i e he
     rw [← hkn] at hi
     rcases join_look (st := { st with h := hdel hz id }) hok2 (hdel stc.h 0) i e hi with ⟨hlt, hl1⟩ | ⟨hge, e', he', rfl⟩
     ·have hc' : e.has κ1 i c := by
       cases e <;> simpa only [Ent.has, Con.fp, Con.join, if_pos hlt] using hc
      simp only [look_hdel] at hl1
      split at hl1
      ·cases hl1
      ·rename_i hne
       exact hne (k1.inj i id e _ c hl1 hid hc' hb)
     ·have hc' : e'.has κ' (i - κ1.n) c := by
       cases e' <;> simpa only [Ent.has, Con.fp, Ent.shift, Con.join, if_neg (show ¬ i < κ1.n by omega)] using hc
      have := ((hc2.excl _ _ c he' hc').1 (ownAll_spec hown _ _ (hlk _ _ he'))).elim _root_.id False.elim
      rw [hsz1] at this
      omega
    have hfin : RepK F0 L w0 { st with h := hN, n := st.n + n'' } a w' (κ1.join κ' w1) := by
     refine { below := hj.below, f0 := hj.f0, f1 := hj.f1, f2 := hj.f2, size := hj.size, dfs := hj.dfs, kn := by rw [← hn']; exact hj.kn, ents := fun i e hi => ?_, new := fun i e hi => ?_, excl := fun i e c hi hc => ?_, inj := fun i i' e e' c hi hi' hc hc' => ?_, tmps := fun t av ht => ?_, kv := fun i e sz ver own es hi => hj.kv i _ _ _ _ _ (hal _ _ _ _ _ _ hi) }
     ·rcases hcvok i e hi with ⟨rfl, rfl⟩ | ⟨_, hi'⟩
      ·refine ⟨us', by rw [hjb]; exact hg', hus'.1, fun j c u hc hu => ?_⟩
       obtain ⟨d, rfl⟩ := allD_spec had' j c hc
       exact hD u d trivial (hus'.2 j _ u hc hu)
      ·have := hj.ents i e hi'
       cases e with
       | box ty cs => obtain ⟨vals, g, hv⟩ := this; exact ⟨vals, g, hv.map fun x v hx => hx.alike hal⟩
       | arr => exact this
     ·rcases hcvok i e hi with ⟨rfl, rfl⟩ | ⟨_, hi'⟩
      ·simp only; omega
      ·have := hj.new i e hi'; rw [← hn']; exact this
     ·rcases hcvok i e hi with ⟨rfl, rfl⟩ | ⟨_, hi'⟩
      ·simp only [Ent.has, hjb] at hc
       subst hc
       refine ⟨hex.1, fun _ hF => ?_, fun hf => by cases hf⟩
       rcases hF with hF | ⟨_, hF⟩
       ·exact hex.2.1 rfl hF
       ·rw [hsz1] at hF; omega
      ·exact hj.excl i e c hi' hc
     ·rcases hcvok i e hi with ⟨rfl, rfl⟩ | ⟨_, hi1⟩ <;> rcases hcvok i' e' hi' with ⟨rfl, rfl⟩ | ⟨_, hi2⟩
      ·rfl
      ·simp only [Ent.has, hjb] at hc
       exact absurd hc.symm (hothers i' e' c hi2 hc')
      ·simp only [Ent.has, hjb] at hc'
       exact absurd hc'.symm (hothers i e c hi1 hc)
      ·exact hj.inj i i' e e' c hi1 hi2 hc hc'
     ·obtain ⟨v, hv, hx⟩ := hj.tmps t av ht
      exact ⟨v, hv, hx.map fun x v hx => hx.alike hal⟩
    have hav1 : AVRep w' κ' (hdel stc.h 0) res v := hav.map fun x v hx => hx.drop
    have hres := hav1.right (κ := κ1) (st := { st with h := hdel hz id }) (w := w1) (fun i e he => by rw [hkn]; simp only [look_hdel] at he; split at he; cases he; exact hok i e he) hD (okD_true_a res)
    rw [hkn] at hres
    obtain ⟨st2, hK2, hr2⟩ := setT_sound hK hfin (hres.map fun x v hx => hx.alike hal)
    exact ⟨v, he, st2, _, hK2, hr2⟩
   ·exact h.elim
  ·exact h.elim
 ·exact h.elim
def callWp (P : Program) (st : St) (f : AV) (args : List AV) (dst : Option Tmp) (K : St → Prop) : Prop :=
 match calleeOf f with
 | some (g, caps) => match (args ++ caps).all AV.pureB with
  | true => CallF P st g (args ++ caps) dst K ∨ CallX P st g (args ++ caps) dst K
  | false => CallF P st g (args ++ caps) dst K ∨ CallR P st g (args ++ caps) dst K ∨ CallM P st g (args ++ caps) dst K ∨ CallJ P st g (args ++ caps) dst K ∨ CallB P st g (args ++ caps) dst K ∨ CallX P st g (args ++ caps) dst K ∨ CallRX P st g (args ++ caps) dst K
 | none => False
theorem call_tri {o : Oper} {f : Operand} {args : Array Operand} {tys : Array TypeId} (ho : o.op = .call { callee := .value f, args, argTypes := tys }) {K : St → Prop} (h : callWp P st (evO st f) (args.toList.map (evO st)) o.dst K) : OpTri P o st K := by
 intro F0 L w0 a w ⟨κ, hr⟩ next Q hn
 unfold callWp at h
 split at h
 ·rename_i g caps hc
  obtain ⟨us, hf, hl, hus⟩ := calleeOf_sound hc (evO_rep hr f)
  have hvl : (args.toList.map a.eval ++ us).length = (args.toList.map (evO st) ++ caps).length := by simp [hl]
  have hvs : ∀ (j : Nat) (x : AV) (v : Value), (args.toList.map (evO st) ++ caps)[j]? = some x → (args.toList.map a.eval ++ us)[j]? = some v → AVRep w κ st.h x v := fun j x v hj hv => by
   rw [List.getElem?_append] at hj hv
   simp only [List.length_map] at hj hv
   split at hj
   ·rename_i hlt
    rw [if_pos hlt] at hv
    simp only [List.getElem?_map, Option.map_eq_some_iff] at hj hv
    obtain ⟨p, hp, rfl⟩ := hj
    obtain ⟨p', hp', rfl⟩ := hv
    rw [hp] at hp'; cases hp'
    exact evO_rep hr p
   ·rename_i hlt
    rw [if_neg hlt] at hv
    exact hus _ x v hj hv
  have hmain : Goes P g (args.toList.map a.eval ++ us).toArray w fun v w' => ∃ st' κ', K st' ∧ RepK F0 L w0 st' (a.put o.dst v) w' κ' := by
   split at h
   ·rcases h with h | h
    ·exact .inl (callF_sound h hr hvl hvs)
    ·exact callX_sound h hr hvl hvs
   ·rcases h with h | h | h | h | h | h | h
    ·exact .inl (callF_sound h hr hvl hvs)
    ·exact .inl (callR_sound h hr hvl hvs)
    ·exact .inl (callM_sound h hr hvl hvs)
    ·exact .inl (callJ_sound h hr hvl hvs)
    ·exact .inl (callB_sound h hr hvl hvs)
    ·exact callX_sound h hr hvl hvs
    ·exact callRX_sound h hr hvl hvs
  have hexec : execOp a.eval o = callFunc g (args.toList.map a.eval ++ us).toArray := by
   have : execOp a.eval o = callFunc g (#[] ++ args.map a.eval ++ us.toArray) := by
    simp only [execOp, ho, resolve, hf, Deferred.ofValue]
    rfl
   rw [this]
   congr 1
   apply Array.toList_inj.1
   simp
  rcases hmain with ⟨hent, hcall⟩ | ⟨v, hrun, st', κ', hK, hr'⟩
  case inr =>
   unfold Oper.wp
   rw [hexec, hrun, Oper.upon_value]
   exact hn st' _ w hK ⟨κ', hr'⟩
  have hrun : (execOp a.eval o).run P w = .ok (.enter g (args.toList.map a.eval ++ us).toArray) w := by rw [hexec, hent.run]
  unfold Oper.wp
  rw [hrun, Oper.upon_enter]
  refine hcall.mono fun e w' ⟨v, he, st', κ', hK, hr'⟩ => ?_
  subst he
  exact hn st' _ w' hK ⟨κ', hr'⟩
 ·exact h.elim
end
end Go.H
