/- Framework H, part 18: canonical states, loops, and a function's contract from its body. -/
import Derived.Test.YtjjlpjdaffdceaaH17
namespace Go.H
open Go.RowKit

/-- A part of a row that nobody writes any more is data. -/
def CV.settle (h : List (Nat × Ent)) : CV → CV
  | .ref id ver s => match look h id with
    | some (.arr _ sz v false es) => match Nat.beq v ver with | true => .d (.sl sz (partOf es s)) | false => .u
    | _ => .ref id ver s
  | x => x
def AV.settle (h : List (Nat × Ent)) : AV → AV
  | .c x => .c (x.settle h)
  | .agg cs => .agg (cs.map (CV.settle h))
  | .tup xs => .tup (xs.map fun x => (x.1, x.2.map (CV.settle h)))
  | .u => .u
def Ent.settle (h : List (Nat × Ent)) : Ent → Ent
  | .box ty cs => .box ty (cs.map (CV.settle h))
  | e => e
def St.settle (st : St) : St := { st with t := st.t.map fun p => (p.1, p.2.settle st.h), h := st.h.map fun p => (p.1, p.2.settle st.h) }

def addId (m : List (Nat × Nat)) (id : Nat) : List (Nat × Nat) := match look m id with | some _ => m | none => m ++ [(id, m.length)]

/-- The rows and boxes that x leads to, in the order met. -/
def reachC (h : List (Nat × Ent)) : Nat → List (Nat × Nat) → CV → List (Nat × Nat)
  | 0, m, _ => m
  | k + 1, m, x => match x with
    | .ref id ver _ => match look h id with
      | some (.arr _ _ v _ _) => match Nat.beq v ver with | true => addId m id | false => m
      | _ => m
    | .ptr id _ => match look m id with
      | some _ => m
      | none => match look h id with
        | some (.box _ cs) => cs.foldl (reachC h k) (addId m id)
        | _ => m
    | .fn _ caps => (caps.map fun p => CV.ptr p.1 p.2).foldl (reachC h k) m
    | _ => m

def AV.cvs : AV → List CV
  | .c x => [x]
  | .agg cs => cs
  | .tup xs => xs.flatMap (·.2)
  | .u => []

def reachT (h : List (Nat × Ent)) (t : List (Nat × AV)) : List Nat → List (Nat × Nat) → List (Nat × Nat)
  | [], m => m
  | k :: r, m => match look t k with
    | some av => reachT h t r (av.cvs.foldl (reachC h 12) m)
    | none => reachT h t r m

/-- The state, with these slots alone, and numbers in the order met. -/
def St.canon (keep : List Nat) (st : St) : Option St :=
  let s := st.settle
  let m := reachT s.h s.t keep []
  s.norm keep m m.length

section
variable {P : Program} {T : TypeId → Option TI} {F0 : Nat → Prop} {w0 w w' : World} {st : St} {a : Act} {κ κ' : Con} {hh : List (Nat × Ent)}

theorem look_map {α β : Type} (f : α → β) : ∀ (l : List (Nat × α)) (i : Nat), look (l.map fun p => (p.1, f p.2)) i = (look l i).map f
  | [], i => rfl
  | (k, x) :: r, i => by
    simp only [List.map_cons, look]
    split
    · rfl
    · exact look_map f r i

theorem CVRep.settle (h : RepK F0 w0 st a w κ) {x : CV} {v : Value} (hv : CVRep w κ st.h x v) : CVRep w κ (st.h.map fun p => (p.1, p.2.settle st.h)) (x.settle st.h) v := by
  have hone := CVRep.one hv
  have hrow : ∀ id e sz ver own es, look (st.h.map fun p => (p.1, p.2.settle st.h)) id = some (.arr e sz ver own es) → look st.h id = some (.arr e sz ver own es) := fun id e sz ver own es hl => by
    rw [look_map (Ent.settle st.h)] at hl
    simp only [Option.map_eq_some_iff] at hl
    obtain ⟨y, h1, h2⟩ := hl
    cases y with
    | box => simp [Ent.settle] at h2
    | arr => simp only [Ent.settle] at h2; rw [h1, h2]
  cases x with
  | ref id ver s =>
    have hkeep : CVRep w κ (st.h.map fun p => (p.1, p.2.settle st.h)) (.ref id ver s) v := by
      obtain ⟨h1, h2, h3, h4⟩ := hv
      exact ⟨h1, h2, h3, fun e sz own es hl => h4 e sz own es (hrow _ _ _ _ _ _ hl)⟩
    simp only [CV.settle]
    split
    · rename_i e sz vv es hl
      split
      · rename_i hb
        obtain rfl := beq_iff hb
        refine Fz.keep (fun _ _ => rfl) (fun b hb => ?_) (ref_fz h hl hv)
        rcases hb with hb | hb
        · exact hb
        · exact (h.excl id _ b hl hb).2.2 rfl
      · exact hone
    · exact hkeep
  | ep id ver i j =>
    obtain ⟨h1, h2, h3, h4⟩ := hv
    exact ⟨h1, h2, h3, fun e sz own es hl => h4 e sz own es (hrow _ _ _ _ _ _ hl)⟩
  | _ => exact hv

theorem CVs.settle (h : RepK F0 w0 st a w κ) {cs : List CV} {vs : List Value} (hv : CVs w κ st.h cs vs) : CVs w κ (st.h.map fun p => (p.1, p.2.settle st.h)) (cs.map (CV.settle st.h)) vs := by
  refine ⟨by simp [hv.1], fun j c u hc hu => ?_⟩
  simp only [List.getElem?_map, Option.map_eq_some_iff] at hc
  obtain ⟨c0, h0, rfl⟩ := hc
  exact (hv.2 j c0 u h0 hu).settle h

theorem AVRep.settle (h : RepK F0 w0 st a w κ) {x : AV} {v : Value} (hv : AVRep w κ st.h x v) : AVRep w κ (st.h.map fun p => (p.1, p.2.settle st.h)) (x.settle st.h) v := by
  cases x with
  | c x => exact CVRep.settle h hv
  | agg cs => obtain ⟨vs, q, hv⟩ := hv; exact ⟨vs, q, hv.settle h⟩
  | tup xs =>
    obtain ⟨vs, q, hl, hv⟩ := hv
    refine ⟨vs, q, by simp [hl], fun j x v hj hu => ?_⟩
    simp only [List.getElem?_map, Option.map_eq_some_iff] at hj
    obtain ⟨x0, h0, rfl⟩ := hj
    have := hv j x0 v h0 hu
    unfold TVRep at *
    split at this
    · rename_i hb
      simp only [hb]
      obtain ⟨us, q, hus⟩ := this; exact ⟨us, q, hus.settle h⟩
    · rename_i hb
      simp only [hb]
      exact this.settle h
  | u => trivial

theorem RepK.settle (h : RepK F0 w0 st a w κ) : RepK F0 w0 st.settle a w κ := by
  have hold : ∀ id e, look st.settle.h id = some e → ∃ y, look st.h id = some y ∧ e = y.settle st.h := fun id e hl => by
    simp only [St.settle] at hl
    rw [look_map (Ent.settle st.h)] at hl
    simp only [Option.map_eq_some_iff] at hl
    obtain ⟨y, h1, h2⟩ := hl
    exact ⟨y, h1, h2.symm⟩
  have hblk : ∀ (e : Ent) (k : Nat), (e.settle st.h).blk κ k = e.blk κ k := fun e k => by cases e <;> rfl
  have hown : ∀ (e : Ent), (e.settle st.h).own = e.own := fun e => by cases e <;> rfl
  refine { below := h.below, f0 := h.f0, f1 := h.f1, f2 := h.f2, size := h.size, dfs := h.dfs, kn := h.kn, ents := ?_, new := ?_, excl := ?_, inj := ?_, tmps := ?_, kv := ?_ }
  · intro id e hl
    obtain ⟨y, h1, rfl⟩ := hold id e hl
    have := h.ents id y h1
    cases y with
    | box ty cs => obtain ⟨vals, v1, v2⟩ := this; exact ⟨vals, v1, v2.settle h⟩
    | arr => exact this
  · intro id e hl
    obtain ⟨y, h1, rfl⟩ := hold id e hl
    exact h.new id y h1
  · intro id e b hl hb
    obtain ⟨y, h1, rfl⟩ := hold id e hl
    rw [hblk] at hb
    rw [hown]
    exact h.excl id y b h1 hb
  · intro id id' e e' b hl hl' hb hb'
    obtain ⟨y, h1, rfl⟩ := hold id e hl
    obtain ⟨y', h1', rfl⟩ := hold id' e' hl'
    rw [hblk] at hb hb'
    exact h.inj id id' y y' b h1 h1' hb hb'
  · intro t av hl
    simp only [St.settle] at hl
    rw [look_map (AV.settle st.h)] at hl
    simp only [Option.map_eq_some_iff] at hl
    obtain ⟨y, h1, rfl⟩ := hl
    obtain ⟨v, hv, hr⟩ := h.tmps t y h1
    exact ⟨v, hv, hr.settle h⟩
  · intro id e sz ver own es hl
    obtain ⟨y, h1, h2⟩ := hold id _ hl
    cases y with
    | box => simp [Ent.settle] at h2
    | arr => simp only [Ent.settle] at h2; rw [← h2] at h1; exact h.kv id _ _ _ _ _ h1

theorem Rep.canon (h : Rep F0 w0 st a w) {keep : List Nat} {st' : St} (hc : st.canon keep = some st') : Rep F0 w0 st' a w := by
  obtain ⟨κ, h⟩ := h
  exact ⟨_, h.settle.norm hc⟩

/-! ### loops -/
theorem wp_loop_ghost {α : Type} {c : Code} {Q : Exit → Act → World → Prop} (I : α → Act → World → Prop) (μ : α → Nat)
    (round : ∀ x a w, I x a w → c.wp P (Exit.then (fun a' w' => ∃ x', μ x' < μ x ∧ I x' a' w') Q) a w) {x : α} (h₀ : I x a w) : (Code.loop c).wp P Q a w := by
  intro b k cs
  have key : ∀ n x a w, μ x = n → I x a w →
      ∃ e a' w', Q e a' w' ∧ Arrives P (lone (b.at a (.code c :: .inLoop c :: k)) cs w) b k cs e a' w' := by
    intro n
    induction n using Nat.strongRecOn with
    | _ n ih =>
      intro x a w hn hI
      obtain ⟨e, a₁, w₁, hq, harr⟩ := round x a w hI b (.inLoop c :: k) cs
      cases e with
      | normal =>
        obtain ⟨x', hlt, hI₁⟩ := hq
        obtain ⟨e₂, a₂, w₂, hq₂, harr₂⟩ := ih (μ x') (hn ▸ hlt) x' a₁ w₁ rfl hI₁
        exact ⟨e₂, a₂, w₂, hq₂, .of_steps (Steps.trans harr (.one step_inLoop)) harr₂⟩
      | exit id => exact ⟨_, a₁, w₁, hq, .pass (x := .inLoop c) rfl (fun _ _ => .inl (by simp)) harr⟩
      | goto l => exact ⟨_, a₁, w₁, hq, .pass (x := .inLoop c) rfl (fun _ _ => .inl (by simp)) harr⟩
      | ret => exact ⟨_, a₁, w₁, hq, .pass (x := .inLoop c) rfl (fun _ _ => .inl (by simp)) harr⟩
      | panic ch => exact ⟨_, a₁, w₁, hq, .pass (x := .inLoop c) rfl (fun _ _ => .inl (by simp)) harr⟩
      | outgrown => exact ⟨_, a₁, w₁, hq, .pass (x := .inLoop c) rfl (fun _ _ => .inl (by simp)) harr⟩
  obtain ⟨e, a', w', hq, harr⟩ := key _ x a w rfl h₀
  exact ⟨e, a', w', hq, .of_steps (.one step_loop) harr⟩

/-- Some slots and entries anew. -/
def St.upd (st : St) (ts : List (Nat × AV)) (hs : List (Nat × Ent)) : St :=
  { st with t := ts.foldl (fun l p => lput l p.1 p.2) st.t, h := hs.foldl (fun l p => lput l p.1 p.2) st.h }

/-- A loop: a family of states; each round goes from one to a lesser one. -/
theorem tri_loop (hT : TOk P T) {c : Code} {Q : Exit → St → Prop} (keep : List Nat) {base : St} (hb : st.canon keep = some base) {α : Type} (I : α → St) (Inv : α → Prop) (μ : α → Nat) (x0 : α) (h0 : base = I x0) (hI : Inv x0)
    (round : ∀ x, Inv x → wpH P T c (I x) fun e st' => match e with | .normal => ∃ x', μ x' < μ x ∧ Inv x' ∧ st'.canon keep = some (I x') | e => Q e st') : Tri P (.loop c) st Q := by
  intro F0 w0 a w hr
  refine wp_loop_ghost (I := fun x a w => Inv x ∧ Rep F0 w0 (I x) a w) μ (fun x a w ⟨hx, hr⟩ => ?_) (x := x0) ⟨hI, h0 ▸ hr.canon hb⟩
  refine wp_mono (wpH_sound hT c _ _ (round x hx) F0 w0 a w hr) fun e a' w' ⟨st', h1, h2⟩ => ?_
  cases e with
  | normal =>
    obtain ⟨x', hlt, hx', hc⟩ := h1
    exact ⟨x', hlt, hx', h2.canon hc⟩
  | exit => exact ⟨st', h1, h2⟩
  | goto => exact ⟨st', h1, h2⟩
  | ret => exact ⟨st', h1, h2⟩
  | panic => exact ⟨st', h1, h2⟩
  | outgrown => exact ⟨st', h1, h2⟩

/-! ### a function from its body -/
def numbered : Nat → List AV → List (Nat × AV)
  | _, [] => []
  | k, x :: r => (k, x) :: numbered (k + 1) r

theorem look_numbered : ∀ (k : Nat) (l : List AV) (i : Nat) (x : AV), look (numbered k l) i = some x → k ≤ i ∧ l[i - k]? = some x
  | k, [], i, x, h => by simp [numbered, look] at h
  | k, y :: r, i, x, h => by
    simp only [numbered, look] at h
    split at h
    · rename_i hb
      obtain rfl := beq_iff hb
      cases h
      exact ⟨Nat.le_refl _, by simp⟩
    · rename_i hb
      obtain ⟨h1, h2⟩ := look_numbered (k + 1) r i x h
      refine ⟨by omega, ?_⟩
      obtain ⟨j, rfl⟩ : ∃ j, i = k + 1 + j := ⟨i - (k + 1), by omega⟩
      rw [show k + 1 + j - (k + 1) = j by omega] at h2
      rw [show k + 1 + j - k = j + 1 by omega]
      simpa using h2

def St.start (args : List AV) (n : Nat) : St := { t := numbered 0 args, h := [], n := 0, N := n }

/-- A variable of cells. -/
def cellsF (ti : TI) (cs : List CV) : Option AV :=
  match ti.agg with
  | true => match Nat.ble ti.size cs.length with | true => some (.agg (cs.take ti.size)) | false => none
  | false => match cs with | x :: _ => (match Nat.beq ti.size 1 with | true => some (.c x) | false => none) | [] => none

theorem cellsF_C {ti : TI} {cs : List CV} {r : AV} (h : cellsF ti cs = some r) : cellsC ti cs (· = r) := by
  unfold cellsF at h
  unfold cellsC
  split at h
  · rename_i hg
    simp only [hg]
    split at h
    · rename_i hb; simp only [hb]; exact Option.some.inj h
    · cases h
  · rename_i hg
    simp only [hg]
    split at h
    · rename_i hb
      split at h
      · rename_i hb; simp only [hb]; exact Option.some.inj h
      · cases h
    · cases h

/-- What is handed back. -/
def resL (T : TypeId → Option TI) (st : St) : List ResultVar → Option (List AV)
  | [] => some []
  | .tmp t :: r => match look st.t t, resL T st r with
    | some av, some l => some (av :: l)
    | _, _ => none
  | .cell a t :: r => match look st.t a, T t, resL T st r with
    | some (.c (.ptr id off)), some ti, some l => match look st.h id with
      | some (.box _ cs) => match cellsF ti (cs.drop off) with
        | some av => some (av :: l)
        | none => none
      | _ => none
    | _, _, _ => none

def tvOf : AV → Option (Bool × List CV)
  | .c x => some (false, [x])
  | .agg cs => some (true, cs)
  | _ => none
def tvs : List AV → Option (List (Bool × List CV))
  | [] => some []
  | x :: r => match tvOf x, tvs r with
    | some y, some l => some (y :: l)
    | _, _ => none
def resOf (T : TypeId → Option TI) (st : St) (rs : List ResultVar) : Option AV :=
  match resL T st rs with
  | some [x] => some x
  | some l => match tvs l with | some xs => some (.tup xs) | none => none
  | none => none

/-- The state of a caller: what is handed back, and its memory. -/
def St.result (T : TypeId → Option TI) (st : St) (rs : List ResultVar) : Option St :=
  match resOf T st rs with
  | some r => St.canon [0] { st with t := [(0, r)], N := 1 }
  | none => none

def postOf (T : TypeId → Option TI) (rs : List ResultVar) (R : St → Prop) (e : Exit) (st' : St) : Prop :=
  match e with
  | .normal | .ret => match st'.result T rs with | some s => R s | none => False
  | _ => False

def rv (tmps : Array Value) : ResultVar → Sem Value
  | .tmp t => pure (tmps.getD t undef)
  | .cell a t => do loadVar t (← asAddr (tmps.getD a undef))

theorem results_eq (fn : Func) (tmps : Array Value) : results fn tmps = (do let vs ← fn.results.mapM (rv tmps); pure (if h : vs.size = 1 then vs[0] else .tuple vs)) := rfl

theorem resL_sound (hT : TOk P T) (h : RepK F0 w0 st a w κ) : ∀ {rs : List ResultVar} {l : List AV}, resL T st rs = some l → ∃ vs : List Value, (rs.mapM (rv a.tmps)).run P w = .ok vs w ∧
    vs.length = l.length ∧ ∀ (j : Nat) (x : AV) (u : Value), l[j]? = some x → vs[j]? = some u → AVRep w κ st.h x u
  | [], l, hl => by
    simp only [resL, Option.some.injEq] at hl
    subst hl
    exact ⟨[], by simp, rfl, fun j x u hj => by simp at hj⟩
  | .tmp t :: r, l, hl => by
    simp only [resL] at hl
    split at hl
    · rename_i av l' h1 h2
      cases hl
      obtain ⟨vs, q1, q2, q3⟩ := resL_sound hT h h2
      obtain ⟨v, hv, hr⟩ := h.tmps _ _ h1
      refine ⟨v :: vs, ?_, by simp [q2], fun j x u hj hu => ?_⟩
      · have e : a.tmps.getD t undef = v := by simp [Array.getD_eq_getD_getElem?, hv]
        rw [List.mapM_cons]
        simp only [rv, Sem.run_bind, Sem.run_pure, Result.andThen_ok, e]
        rw [q1]
        rfl
      · cases j with
        | zero => simp at hj hu; subst hj; subst hu; exact hr
        | succ j => exact q3 j x u (by simpa using hj) (by simpa using hu)
    · cases hl
  | .cell t ty :: r, l, hl => by
    simp only [resL] at hl
    split at hl
    · rename_i id off ti l' h1 hti h2
      split at hl
      · rename_i bt cs hb
        split at hl
        · rename_i av hav
          cases hl
          obtain ⟨vs, q1, q2, q3⟩ := resL_sound hT h h2
          obtain ⟨u, hu, hr⟩ := h.tmps _ _ h1
          obtain ⟨_, rfl⟩ := hr
          obtain ⟨r', hr', hsd⟩ := cells_sound (hT _ _ hti) (cellsF_C hav)
          subst hr'
          obtain ⟨v, hv, hrep⟩ := hsd w κ st.h ⟨κ.bl id, off, none⟩ (fun j c hc _ => by
            rw [List.getElem?_drop] at hc
            obtain ⟨x, hx, hxr⟩ := box_cell h hb hc
            exact ⟨x, by rw [addr0]; exact hx, hxr⟩)
          refine ⟨v :: vs, ?_, by simp [q2], fun j x u hj hu => ?_⟩
          · have e : a.tmps.getD t undef = .pointer (some ⟨κ.bl id, off, none⟩) := by simp [Array.getD_eq_getD_getElem?, hu]
            rw [List.mapM_cons]
            have e2 : (asAddr (.pointer (some ⟨κ.bl id, off, none⟩))).run P w = .ok ⟨κ.bl id, off, none⟩ w := by simp [asAddr]
            simp only [rv, Sem.run_bind, Sem.run_pure, e]
            rw [e2, Result.andThen_ok, hv, Result.andThen_ok, q1]
            rfl
          · cases j with
            | zero => simp at hj hu; subst hj; subst hu; exact hrep
            | succ j => exact q3 j x u (by simpa using hj) (by simpa using hu)
        · cases hl
      · cases hl
    · cases hl


theorem tvs_sound : ∀ {l : List AV} {xs : List (Bool × List CV)}, tvs l = some xs → ∀ {vs : List Value}, vs.length = l.length → (∀ (j : Nat) (x : AV) (u : Value), l[j]? = some x → vs[j]? = some u → AVRep w κ hh x u) →
    vs.length = xs.length ∧ ∀ (j : Nat) (x : Bool × List CV) (u : Value), xs[j]? = some x → vs[j]? = some u → TVRep w κ hh x u
  | [], xs, h, vs, hl, hv => by
    simp only [tvs, Option.some.injEq] at h
    subst h
    exact ⟨hl, fun j x u hj => by simp at hj⟩
  | x :: r, xs, h, vs, hl, hv => by
    simp only [tvs] at h
    split at h
    · rename_i y l h1 h2
      cases h
      match vs, hl, hv with
      | v :: vs, hl, hv =>
        obtain ⟨q1, q2⟩ := tvs_sound h2 (vs := vs) (by simpa using hl) (fun j x u hj hu => hv (j + 1) x u (by simpa using hj) (by simpa using hu))
        refine ⟨by simp [q1], fun j z u hj hu => ?_⟩
        cases j with
        | zero =>
          simp at hj hu
          subst hj; subst hu
          have := hv 0 x v rfl rfl
          cases x with
          | c x =>
            simp only [tvOf, Option.some.injEq] at h1
            subst h1
            refine ⟨rfl, fun j c u hc hu => ?_⟩
            cases j with
            | zero => simp at hc hu; subst hc; subst hu; exact this
            | succ j => simp at hc
          | agg cs =>
            simp only [tvOf, Option.some.injEq] at h1
            subst h1
            exact this
          | _ => simp [tvOf] at h1
        | succ j => exact q2 j z u (by simpa using hj) (by simpa using hu)
    · cases h

theorem resOf_sound (hT : TOk P T) (h : RepK F0 w0 st a w κ) {fn : Func} {r : AV} (hr : resOf T st fn.results.toList = some r) : ∃ v, (results fn a.tmps).run P w = .ok v w ∧ AVRep w κ st.h r v := by
  unfold resOf at hr
  split at hr
  · rename_i x hx
    cases hr
    obtain ⟨vs, q1, q2, q3⟩ := resL_sound hT h hx
    match vs, q2 with
    | [v], _ =>
      refine ⟨v, ?_, q3 0 _ v rfl rfl⟩
      rw [results_eq, Sem.run_bind, Array.mapM_eq_mapM_toList]
      simp only [Sem.run_map, q1]
      rfl
  · rename_i l hx hl
    split at hr
    · rename_i xs hxs
      cases hr
      obtain ⟨vs, q1, q2, q3⟩ := resL_sound hT h hl
      obtain ⟨t1, t2⟩ := tvs_sound hxs q2 q3
      have hne : ¬ vs.length = 1 := fun e => by
        rw [e] at q2
        match l, q2, hx with
        | [x], _, hx => exact hx x rfl
      refine ⟨.tuple vs.toArray, ?_, vs, rfl, t1, t2⟩
      rw [results_eq, Sem.run_bind, Array.mapM_eq_mapM_toList]
      simp only [Sem.run_map, q1]
      simp [hne]
    · cases hr
  · cases hr

/-- **A contract from the walk through the body.** -/
theorem FnSpec.intro (hT : TOk P T) {f : FuncId} {fn : Func} {c : Code} {args : List AV} {res : AV} {h' : List (Nat × Ent)} {n' : Nat} (hf : P.funcs[f]? = some fn) (hb : fn.body = some c) (hn : (fn.name == "runtime.NumGoroutine") = false)
    (hlen : Nat.ble args.length fn.ntmps = true)
    (h : wpH P T c (St.start args fn.ntmps) (postOf T fn.results.toList fun s => s = { t := [(0, res)], h := h', n := n', N := 1 })) : FnSpec P f args res h' n' := by
  refine ⟨⟨fn, hf, by rw [hb]; rfl, hn⟩, fun F w vals hF hargs => ?_⟩
  obtain ⟨hl, hv⟩ := hargs
  have hle : vals.length ≤ fn.ntmps := by rw [hl]; exact Nat.le_of_ble_eq_true hlen
  refine calls_of_wp hf hb ?_
  have hrep : RepK F w (St.start args fn.ntmps) { tmps := vals.toArray ++ Array.replicate (fn.ntmps - vals.toArray.size) undef, defers := [] } w (con0 F) := {
    below := Below.refl _ _
    f0 := fun _ h => h
    f1 := fun _ h => .inl h
    f2 := hF
    ents := fun id e hl => by simp [St.start, look] at hl
    new := fun id e hl => by simp [St.start, look] at hl
    excl := fun id e b hl => by simp [St.start, look] at hl
    inj := fun id id' e e' b hl => by simp [St.start, look] at hl
    tmps := fun t av ht => by
      obtain ⟨_, h2⟩ := look_numbered 0 args t av ht
      have hlt : t < vals.length := by rw [hl]; exact (List.getElem?_eq_some_iff.1 h2).1
      refine ⟨vals[t], ?_, hv t av _ h2 (List.getElem?_eq_getElem hlt)⟩
      rw [Array.getElem?_append]
      simp [hlt]
    size := by simp [St.start]; omega
    dfs := rfl
    kn := rfl
    kv := fun id e sz ver own es hl => by simp [St.start, look] at hl }
  refine wp_mono (wpH_sound hT c _ _ h F w _ w ⟨_, hrep⟩) fun e a' w' ⟨st', hq, κ, hr⟩ => ?_
  have hmain : (match st'.result T fn.results.toList with | some s => s = { t := [(0, res)], h := h', n := n', N := 1 } | none => False) → a'.defers = [] ∧ ∃ v, (results fn a'.tmps).run P w' = .ok v w' ∧ ∃ v' κ' st' a', Ending.returned v = .returned v' ∧ st'.h = h' ∧ st'.n = n' ∧ RepK F w st' a' w' κ' ∧ AVRep w' κ' h' res v' := fun hq => by
    refine ⟨hr.dfs, ?_⟩
    split at hq
    · rename_i s hs
      subst hq
      unfold St.result at hs
      split at hs
      · rename_i r hres
        obtain ⟨v, h1, h2⟩ := resOf_sound hT hr hres
        refine ⟨v, h1, v, ?_⟩
        have hr2 : RepK F w { st' with t := [(0, r)], N := 1 } { tmps := #[v], defers := [] } w' κ := {
          below := hr.below, f0 := hr.f0, f1 := hr.f1, f2 := hr.f2, ents := hr.ents, new := hr.new, excl := hr.excl, inj := hr.inj, dfs := rfl, kn := hr.kn, kv := hr.kv, size := rfl
          tmps := fun t av ht => by
            simp only [look] at ht
            split at ht
            · rename_i hb
              obtain rfl := beq_iff hb
              cases ht
              exact ⟨v, rfl, h2⟩
            · cases ht }
        obtain ⟨κ2, hr3⟩ := Rep.canon ⟨κ, hr2⟩ hs
        obtain ⟨v', hv', hav⟩ := hr3.tmps 0 res rfl
        obtain rfl : v = v' := by simpa using hv'
        exact ⟨κ2, _, _, rfl, rfl, rfl, hr3, hav⟩
      · cases hs
    · exact hq.elim
  cases e with
  | normal => exact hmain hq
  | ret => exact hmain hq
  | _ => exact hq.elim

end
end Go.H
