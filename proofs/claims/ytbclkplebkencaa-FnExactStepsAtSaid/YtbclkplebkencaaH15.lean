/- Framework H, part 15: calls of the program's own functions. -/
import Derived.Test.YtbclkplebkencaaH14
namespace Go.H
set_option linter.unusedSimpArgs false
set_option linter.unusedVariables false
open Go.RowKit

section
variable {P : Program} {T : TypeId → Option TI} {F0 L : Nat → Prop} {w0 w w' : World} {st : St} {a : Act} {κ κ' : Con} {hh : List (Nat × Ent)}

/-- What is called, and what it has captured. -/
def calleeOf : AV → Option (FuncId × List AV)
  | .c (.fn f caps) => some (f, caps.map fun p => .c (.ptr p.1 p.2))
  | .c (.d (.fn f ds)) => some (f, ds.map fun d => .c (.d d))
  | _ => none

/-! ### arguments kept for good -/
def frzA (h : List (Nat × Ent)) : AV → Option (AV × List (Nat × Ent))
  | .c (.fn f []) => some (.c (.d (.fn f [])), h)
  | .c x => match frzC h x with | some (d, h') => some (.c (.d d), h') | none => none
  | .agg cs => match frzL h cs with | some (ds, h') => some (.agg (ds.map .d), h') | none => none
  | _ => none

def frzAs (h : List (Nat × Ent)) : List AV → Option (List AV × List (Nat × Ent))
  | [] => some ([], h)
  | x :: r => match frzA h x with
    | some (d, h1) => match frzAs h1 r with
      | some (ds, h2) => some (d :: ds, h2)
      | none => none
    | none => none

theorem pure_cv {F : Nat → Prop} {v : Value} {d : D} (h : Fz w F v d) : CVRep w (con0 F) [] (.d d) v := h

theorem frzA_sound (h : RepK F0 L w0 st a w κ) {x x' : AV} {h' : List (Nat × Ent)} (hf : frzA st.h x = some (x', h')) :
    ∃ κ', RepK F0 L w0 { st with h := h' } a w κ' ∧ κ'.bl = κ.bl ∧ κ'.val = κ.val ∧ (∀ b, κ.F b → κ'.F b) ∧ (∀ v, AVRep w κ st.h x v → AVRep w (con0 κ'.F) [] x' v) ∧ ∀ y u, CVRep w κ st.h y u → CVRep w κ' h' y u := by
  cases x with
  | c x =>
    have hmain : ∀ d, frzC st.h x = some (d, h') → x' = .c (.d d) → ∃ κ', RepK F0 L w0 { st with h := h' } a w κ' ∧ κ'.bl = κ.bl ∧ κ'.val = κ.val ∧ (∀ b, κ.F b → κ'.F b) ∧ (∀ v, AVRep w κ st.h (.c x) v → AVRep w (con0 κ'.F) [] x' v) ∧ ∀ y u, CVRep w κ st.h y u → CVRep w κ' h' y u := by
      intro d hd hx
      subst hx
      obtain ⟨κ', k, s, b, v, f, q, m⟩ := frzC_sound h hd
      exact ⟨κ', k, b, v, f, fun u hu => q u hu, m⟩
    cases x with
    | fn f caps =>
      cases caps with
      | nil =>
        simp only [frzA, Option.some.injEq, Prod.mk.injEq] at hf
        obtain ⟨rfl, rfl⟩ := hf
        refine ⟨κ, h, rfl, rfl, fun _ h => h, fun v hv => ?_, fun _ _ h => h⟩
        obtain ⟨_, rfl⟩ := hv
        exact .fn f [] [] rfl (fun i d u hd => by simp at hd)
      | cons p r => simp [frzA, frzC] at hf
    | _ =>
      simp only [frzA] at hf
      split at hf
      · rename_i d h1 hd
        simp only [Option.some.injEq, Prod.mk.injEq] at hf
        obtain ⟨rfl, rfl⟩ := hf
        exact hmain d hd rfl
      · simp at hf
  | agg cs =>
    simp only [frzA] at hf
    split at hf
    · rename_i ds h1 hd
      simp only [Option.some.injEq, Prod.mk.injEq] at hf
      obtain ⟨rfl, rfl⟩ := hf
      obtain ⟨κ', k, s, b, v, f, l, q, m⟩ := frzL_sound h hd
      refine ⟨κ', k, b, v, f, fun u hu => ?_, m⟩
      obtain ⟨vs, e, hvs⟩ := hu
      refine ⟨vs, e, by simp [hvs.1, l], fun j c u hc hu => ?_⟩
      simp only [List.getElem?_map, Option.map_eq_some_iff] at hc
      obtain ⟨d, hd', rfl⟩ := hc
      exact q vs hvs j d u hd' hu
    · simp at hf
  | tup => simp [frzA] at hf
  | w => simp [frzA] at hf
  | u => simp [frzA] at hf

theorem AVRep.pureF {F F' : Nat → Prop} (hF : ∀ b, F b → F' b) {x : AV} {v : Value} (h : AVRep w (con0 F) [] x v) : AVRep w (con0 F') [] x v :=
  h.map fun x v hx => by
    cases x with
    | d x => exact Fz.keep (fun _ _ => rfl) hF hx
    | nl => exact hx
    | u => exact hx
    | ptr => exact absurd hx.1 (Nat.not_lt_zero _)
    | ref => exact absurd hx.1.1 (Nat.not_lt_zero _)
    | ep => exact absurd hx.1.1 (Nat.not_lt_zero _)
    | fn f caps => exact ⟨fun p hp => absurd (hx.1 p hp) (Nat.not_lt_zero _), hx.2⟩

theorem frzAs_sound : ∀ {xs : List AV} {st : St} {κ : Con} {xs' : List AV} {h' : List (Nat × Ent)} (_ : RepK F0 L w0 st a w κ) (_ : frzAs st.h xs = some (xs', h')),
    ∃ κ', RepK F0 L w0 { st with h := h' } a w κ' ∧ (∀ b, κ.F b → κ'.F b) ∧ (∀ vs : List Value, vs.length = xs.length → (∀ (j : Nat) (x : AV) (v : Value), xs[j]? = some x → vs[j]? = some v → AVRep w κ st.h x v) → ArgsRep w κ'.F xs' vs) ∧
      ∀ y u, CVRep w κ st.h y u → CVRep w κ' h' y u
  | [], st, κ, xs', h', h, hf => by
    simp only [frzAs, Option.some.injEq, Prod.mk.injEq] at hf
    obtain ⟨rfl, rfl⟩ := hf
    exact ⟨κ, h, fun _ h => h, fun vs hl _ => ⟨hl, fun j av v hj => by simp at hj⟩, fun _ _ h => h⟩
  | x :: xs, st, κ, xs', h', h, hf => by
    simp only [frzAs] at hf
    split at hf
    · rename_i d h1 hx
      split at hf
      · rename_i ds' h2 hr
        simp only [Option.some.injEq, Prod.mk.injEq] at hf
        obtain ⟨rfl, rfl⟩ := hf
        obtain ⟨κ1, k1, b1, v1, f1, q1, m1⟩ := frzA_sound h hx
        obtain ⟨κ2, k2, f2, q2, m2⟩ := frzAs_sound (st := { st with h := h1 }) k1 hr
        refine ⟨κ2, k2, fun b hb => f2 b (f1 b hb), fun vs hl hvs => ?_, fun y u hy => m2 y u (m1 y u hy)⟩
        match vs, hl, hvs with
        | v :: vs, hl, hvs =>
          obtain ⟨r1, r2⟩ := q2 vs (by simpa using hl) (fun j x v hj hv => (hvs (j + 1) x v (by simpa using hj) (by simpa using hv)).map m1)
          refine ⟨by simp [r1], fun j av u hj hu => ?_⟩
          cases j with
          | zero =>
            simp at hj hu
            subst hj; subst hu
            exact (q1 _ (hvs 0 x v rfl rfl)).pureF f2
          | succ j => exact r2 j av u (by simpa using hj) (by simpa using hu)
      · simp at hf
    · simp at hf

/-! ### arguments that are only read -/
theorem ref_fz (h : RepK F0 L w0 st a w κ) {id e sz ver : Nat} {own : Bool} {es : List (List D)} (hl : look st.h id = some (.arr e sz ver own es)) {s : Option (Bool × Nat × Nat)} {u : Value} (hu : CVRep w κ st.h (.ref id ver s) u) :
    Fz w (κ.frz id).F u (.sl sz (partOf es s)) := by
  obtain ⟨_, _, _, hu⟩ := hu
  obtain ⟨hle, ba, bn, bc, a', c', hv, rfl, hc', ha', _⟩ := hu _ _ _ _ hl
  rw [partR es s]
  obtain ⟨xs, ho, hx⟩ := h.ents id _ hl
  refine .sl a' (lenR es s) c' sz _ (fun i j => xs.getD ((offR s + i) * sz + j) undef) (by simp; omega) hc' (fun i c hi => ?_) (fun hne => ?_) (fun A i c j d hA hi hj => ?_) (fun i c j d hi hj => ?_)
  · rw [List.getElem?_take, List.getElem?_drop] at hi
    split at hi
    · exact (hx _ c hi).1
    · simp at hi
  · have hlen : lenR es s ≠ 0 := by intro h0; rw [h0] at hne; simp at hne
    rcases ho.2 with ⟨h1, h2⟩ | ⟨g, cap, cur, h1, _⟩
    · omega
    · rw [hv] at h1
      obtain ⟨rfl, rfl, rfl⟩ : ba = some ⟨g, 0, none⟩ ∧ bn = es.length ∧ bc = cap := by simpa using h1
      obtain rfl := ha' hlen
      exact ⟨_, rfl, by rw [add_block]; exact .inr (by rw [hv]; rfl), add_spot rfl _⟩
  · rw [List.getElem?_take, List.getElem?_drop] at hi
    split at hi
    · obtain ⟨u, hu1, hu2⟩ := (hx _ c hi).2 j d hj
      rcases ho.2 with ⟨h1, h2⟩ | ⟨g, cap, cur, h1, _⟩
      · have := (List.getElem?_eq_some_iff.1 hi).1; omega
      · rw [hv] at h1
        obtain ⟨rfl, rfl, rfl⟩ : ba = some ⟨g, 0, none⟩ ∧ bn = es.length ∧ bc = cap := by simpa using h1
        have hlen : lenR es s ≠ 0 := by omega
        have ha2 := ha' hlen
        rw [hA] at ha2
        simp only [Option.map_some, Option.some.injEq] at ha2
        subst ha2
        rw [add_add]
        have hcell := ho.cells (g := g) (by rw [hv]; rfl) _ u hu1
        have e1 : offR s * sz + (i * sz + j) = (offR s + i) * sz + j := by rw [Nat.add_mul, Nat.add_assoc]
        rw [e1, hcell]
        simp [List.getD, hu1]
    · simp at hi
  · rw [List.getElem?_take, List.getElem?_drop] at hi
    split at hi
    · obtain ⟨u, hu1, hu2⟩ := (hx _ c hi).2 j d hj
      have : xs.getD ((offR s + i) * sz + j) undef = u := by simp [List.getD, hu1]
      rw [this]
      exact Fz.keep (fun _ _ => rfl) (fun b hb => .inl hb) hu2
    · simp at hi

def optL {α β : Type} (f : α → Option β) : List α → Option (List β)
  | [] => some []
  | x :: r => match f x, optL f r with
    | some d, some ds => some (d :: ds)
    | _, _ => none
/-- A cell as its reader sees it now. -/
def roC (h : List (Nat × Ent)) : Nat → CV → Option D
  | 0, _ => none
  | k + 1, x => match x with
    | .d d => some d
    | .nl sz => some (.sl sz [])
    | .ref id ver s => match look h id with
      | some (.arr _ sz v _ es) => match Nat.beq v ver with | true => some (.sl sz (partOf es s)) | false => none
      | _ => none
    | .ptr id off => match look h id with
      | some (.box _ cs) => match optL (roC h k) (cs.drop off) with | some ds => some (.rp ds) | none => none
      | _ => none
    | .fn f caps => match optL (roC h k) (caps.map fun p => .ptr p.1 p.2) with | some ds => some (.fn f ds) | none => none
    | _ => none

def roA (h : List (Nat × Ent)) : AV → Option AV
  | .c x => match roC h 6 x with | some d => some (.c (.d d)) | none => none
  | .agg cs => match optL (roC h 6) cs with | some ds => some (.agg (ds.map .d)) | none => none
  | _ => none

def roAs (h : List (Nat × Ent)) : List AV → Option (List AV)
  | [] => some []
  | x :: r => match roA h x, roAs h r with
    | some d, some ds => some (d :: ds)
    | _, _ => none

/-- The blocks that may be read. -/
def Con.seen (κ : Con) (h : List (Nat × Ent)) (b : Nat) : Prop := κ.F b ∨ ∃ id e, look h id = some e ∧ e.blk κ id = some b

theorem roL_spec {h : List (Nat × Ent)} {k : Nat} : ∀ {xs : List CV} {ds : List D}, optL (roC h k) xs = some ds → ds.length = xs.length ∧ ∀ (j : Nat) (x : CV) (d : D), xs[j]? = some x → ds[j]? = some d → roC h k x = some d
  | [], ds, hr => by simp only [optL, Option.some.injEq] at hr; subst hr; exact ⟨rfl, fun j x d hj => by simp at hj⟩
  | x :: r, ds, hr => by
    simp only [optL] at hr
    split at hr
    · rename_i d ds' h1 h2
      cases hr
      obtain ⟨l, q⟩ := roL_spec h2
      refine ⟨by simp [l], fun j y d' hj hd => ?_⟩
      cases j with
      | zero => simp at hj hd; subst hj; subst hd; exact h1
      | succ j => exact q j y d' (by simpa using hj) (by simpa using hd)
    · cases hr

theorem roC_sound (h : RepK F0 L w0 st a w κ) : ∀ {k : Nat} {x : CV} {d : D}, roC st.h k x = some d → ∀ v, CVRep w κ st.h x v → Fz w (κ.seen st.h) v d
  | 0, x, d, hr, v, hv => by simp [roC] at hr
  | k + 1, x, d, hr, v, hv => by
    cases x with
    | d x =>
      simp only [roC, Option.some.injEq] at hr
      subst hr
      exact Fz.keep (fun _ _ => rfl) (fun b hb => .inl hb) hv
    | nl sz =>
      simp only [roC, Option.some.injEq] at hr
      subst hr
      cases hv
      exact .sl none 0 0 sz [] (fun _ _ => undef) rfl (Nat.le_refl _) (fun i c hi => by simp at hi) (fun hne => absurd rfl hne) (fun A i c j d hA => by simp at hA) (fun i c j d hi => by simp at hi)
    | ref id ver s =>
      simp only [roC] at hr
      split at hr
      · rename_i e sz v' own es hl
        split at hr
        · rename_i hb
          obtain rfl := beq_iff hb
          cases hr
          refine Fz.keep (fun _ _ => rfl) (fun b hb => ?_) (ref_fz h hl hv)
          rcases hb with hb | hb
          · exact .inl hb
          · exact .inr ⟨id, _, hl, hb⟩
        · cases hr
      · cases hr
    | ptr id off =>
      simp only [roC] at hr
      split at hr
      · rename_i ty cs hl
        split at hr
        · rename_i ds hds
          cases hr
          obtain ⟨l, q⟩ := roL_spec hds
          obtain ⟨h1, rfl⟩ := hv
          obtain ⟨vals, g, hcs⟩ := h.ents id _ hl
          have hcell : ∀ (j : Nat) (u : Value), vals[off + j]? = some u → w.cell? ((⟨κ.bl id, off, none⟩ : Addr).add j) = some u := fun j u hu => by
            have e1 : (⟨κ.bl id, off, none⟩ : Addr).add j = ⟨κ.bl id, off + j, none⟩ := by
              unfold Addr.add
              split
              · rename_i h0; subst h0; rfl
              · rfl
            rw [e1]
            simp [World.cell?, g, hu]
          refine .rp _ ds (fun j => vals.getD (off + j) undef) (fun _ => ⟨.inr ⟨id, _, hl, rfl⟩, rfl⟩) (fun j d hj => ?_) (fun j d hj => ?_)
          all_goals
            have hlt : off + j < cs.length := by
              have := (List.getElem?_eq_some_iff.1 hj).1
              rw [l, List.length_drop] at this; omega
            have hlt' : off + j < vals.length := by rw [hcs.1]; exact hlt
          · rw [hcell j _ (List.getElem?_eq_getElem hlt')]
            simp [List.getD, List.getElem?_eq_getElem hlt']
          · have hx : (cs.drop off)[j]? = some cs[off + j] := by rw [List.getElem?_drop]; exact List.getElem?_eq_getElem hlt
            have := q j _ d hx hj
            have hh := hcs.2 (off + j) _ _ (List.getElem?_eq_getElem hlt) (List.getElem?_eq_getElem hlt')
            have hres := roC_sound h this _ hh
            simpa [List.getD, List.getElem?_eq_getElem hlt'] using hres
        · cases hr
      · cases hr
    | ep => simp [roC] at hr
    | fn f caps =>
      simp only [roC] at hr
      split at hr
      · rename_i ds hds
        cases hr
        obtain ⟨l, q⟩ := roL_spec hds
        obtain ⟨hlt, rfl⟩ := hv
        rw [List.length_map] at l
        refine .fn f ds _ (by simp [l]) (fun i d u hd hu => ?_)
        simp only [List.getElem?_map, Option.map_eq_some_iff] at hu
        obtain ⟨p, hp, rfl⟩ := hu
        have hx : (caps.map fun p => CV.ptr p.1 p.2)[i]? = some (.ptr p.1 p.2) := by simp [hp]
        exact roC_sound h (q i _ d hx hd) _ ⟨hlt p (List.mem_of_getElem? hp), rfl⟩
      · cases hr
    | u => simp [roC] at hr

end
end Go.H
