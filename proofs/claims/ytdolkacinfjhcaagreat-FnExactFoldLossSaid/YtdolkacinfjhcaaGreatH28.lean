/- Framework H, part 28: regions that draw their order, one step at a time (the walk stops at each operation). -/
import Derived.Test.YtdolkacinfjhcaaGreatH27
set_option linter.unusedSimpArgs false
set_option linter.unusedVariables false
set_option linter.constructorNameAsVariable false
namespace Go.H
open Go.RowKit
def pickO (ops : List Oper) : List Nat → Option (List (Nat × Oper))
 | [] => some []
 | i :: r => match ops[i]? with
  | some o => (match pickO ops r with | some l => some ((i, o) :: l) | none => none)
  | none => none
def earlyL (ops : List Oper) : List Oper → Nat → List Bool
 | [], _ => []
 | _ :: r, i => earlyB ops i :: earlyL ops r (i + 1)
def getB : List Bool → Nat → Bool
 | [], _ => false
 | b :: r, i => match i with | 0 => b | i + 1 => getB r i
def earlyF (E : List Bool) (ops : List Oper) (st : St) (i : Nat) : Bool :=
 match getB E i with
 | true => (match ops[i]? with | some o => nowG ops st o | none => false)
 | false => false
def nextF (E : List Bool) (ops : List Oper) (st : St) (done : List Nat) : Option (List (Nat × Oper)) :=
 match rdy done ops 0 with
 | [] => none
 | l => match firstB (earlyF E ops st) l with
  | some i => (match ops[i]? with | some o => some [(i, o)] | none => none)
  | none => pickO ops l
def nextE (ops : List Oper) (st : St) (done : List Nat) : Option (List (Nat × Oper)) :=
 match rdy done ops 0 with
 | [] => none
 | l => match firstB (earlyNow ops st) l with
  | some i => (match ops[i]? with | some o => some [(i, o)] | none => none)
  | none => pickO ops l
theorem getB_early (ops : List Oper) : ∀ (l : List Oper) (k i : Nat), getB (earlyL ops l k) i = if i < l.length then earlyB ops (k + i) else false
 | [], k, i => rfl
 | o :: r, k, 0 => by simp [earlyL, getB]
 | o :: r, k, i + 1 => by
  simp only [earlyL, getB, getB_early ops r (k + 1) i, List.length_cons, Nat.add_lt_add_iff_right]
  rw [show k + 1 + i = k + (i + 1) by omega]
theorem earlyF_eq (ops : List Oper) (st : St) : earlyF (earlyL ops ops 0) ops st = earlyNow ops st := by
 funext i
 have hb : (if i < ops.length then earlyB ops i else false) = earlyB ops i := by
  by_cases h : i < ops.length
  ·rw [if_pos h]
  ·have : ops[i]? = none := List.getElem?_eq_none (by omega)
   rw [if_neg h]
   unfold earlyB
   rw [this]
 unfold earlyF earlyNow
 rw [getB_early, Nat.zero_add, hb]
 cases earlyB ops i <;> rfl
theorem nextF_eq (ops : List Oper) (st : St) (done : List Nat) : nextF (earlyL ops ops 0) ops st done = nextE ops st done := by
 unfold nextF nextE
 rw [earlyF_eq]
def fBs : List Bool → (List Bool → Prop) → Prop
 | [], k => k []
 | b :: r, k => match b with
  | true => fBs r fun l => k (true :: l)
  | false => fBs r fun l => k (false :: l)
theorem fBs_eq : ∀ (l : List Bool) (k : List Bool → Prop), fBs l k = k l
 | [], k => rfl
 | true :: r, k => by simp only [fBs, fBs_eq r]
 | false :: r, k => by simp only [fBs, fBs_eq r]
def endB (ops : List Oper) (done : List Nat) : Bool := match rdy done ops 0 with | [] => true | _ => false
structure anyV (P : Program) (T : TypeId → Option TI) (ops : List Oper) (E : List Bool) (K : St → Prop) (fuel : Nat) (done : List Nat) (st : St) : Prop where
 out : E = earlyL ops ops 0 → anyE P T ops K fuel done st
theorem anyV_eq (P : Program) (T : TypeId → Option TI) (ops : List Oper) (K : St → Prop) (fuel : Nat) (done : List Nat) : anyV P T ops (earlyL ops ops 0) K fuel done = anyE P T ops K fuel done := funext fun st => propext ⟨fun h => h.out rfl, fun h => ⟨fun _ => h⟩⟩
section
variable {P : Program} {T : TypeId → Option TI} {st : St} {ops : List Oper} {E : List Bool} {K : St → Prop} {fuel : Nat} {done : List Nat}
theorem pickO_spec {f : Nat → Oper → Prop} : ∀ {l : List Nat} {m : List (Nat × Oper)}, pickO ops l = some m → (∀ x ∈ m, f x.1 x.2) →
  ∀ i ∈ l, match ops[i]? with | some o => f i o | none => False
 | [], m, h, hm, i, hi => by cases hi
 | k :: r, m, h, hm, i, hi => by
  simp only [pickO] at h
  split at h
  ·rename_i o ho
   split at h
   ·rename_i l' hl'
    cases h
    rcases List.mem_cons.1 hi with rfl | hi
    ·simp only [ho]; exact hm (i, o) (by simp)
    ·exact pickO_spec hl' (fun x hx => hm x (by simp [hx])) i hi
   ·cases h
  ·cases h
theorem eachP_intro {f : Nat → Prop} : ∀ {l : List Nat}, (∀ i ∈ l, f i) → eachP f l
 | [], _ => trivial
 | [k], h => h k (by simp)
 | k :: k' :: r, h => ⟨h k (by simp), eachP_intro (l := k' :: r) fun i hi => h i (by simp at hi ⊢; exact .inr hi)⟩
theorem anyV_next {l : List (Nat × Oper)} (h : nextF E ops st done = some l) (hl : ∀ x ∈ l, gStep P T ops st x.2 (anyV P T ops E K fuel (x.1 :: done))) : anyV P T ops E K (fuel + 1) done st := by
 refine ⟨fun hE => ?_⟩
 subst hE
 rw [nextF_eq] at h
 simp only [anyV_eq] at hl
 unfold anyE
 unfold nextE at h
 split at h
 ·cases h
 ·rename_i hne
  split
  ·rename_i h0; exact absurd h0 hne
  ·split at h
   ·rename_i i hi
    simp only [hi]
    split at h
    ·rename_i o ho
     cases h
     simp only [ho]
     have h1 := hl (i, o) (by simp)
     exact h1
    ·cases h
   ·rename_i hi
    simp only [hi]
    refine eachP_intro fun i him => ?_
    have := pickO_spec (f := fun i o => gStep P T ops st o (anyE P T ops K fuel (i :: done))) h hl i him
    exact this
theorem anyV_one {i : Nat} {o : Oper} (h : nextF E ops st done = some [(i, o)]) (h1 : gStep P T ops st o (anyV P T ops E K fuel (i :: done))) : anyV P T ops E K (fuel + 1) done st :=
 anyV_next h fun x hx => by simp at hx; subst hx; exact h1
theorem anyV_two {i j : Nat} {o p : Oper} (h : nextF E ops st done = some [(i, o), (j, p)]) (h1 : gStep P T ops st o (anyV P T ops E K fuel (i :: done))) (h2 : gStep P T ops st p (anyV P T ops E K fuel (j :: done))) : anyV P T ops E K (fuel + 1) done st :=
 anyV_next h fun x hx => by
  simp at hx
  rcases hx with rfl | rfl
  ·exact h1
  ·exact h2
theorem anyV_three {i j k : Nat} {o p q : Oper} (h : nextF E ops st done = some [(i, o), (j, p), (k, q)]) (h1 : gStep P T ops st o (anyV P T ops E K fuel (i :: done))) (h2 : gStep P T ops st p (anyV P T ops E K fuel (j :: done)))
  (h3 : gStep P T ops st q (anyV P T ops E K fuel (k :: done))) : anyV P T ops E K (fuel + 1) done st :=
 anyV_next h fun x hx => by
  simp at hx
  rcases hx with rfl | rfl | rfl
  ·exact h1
  ·exact h2
  ·exact h3
theorem anyV_four {i j k l : Nat} {o p q r : Oper} (h : nextF E ops st done = some [(i, o), (j, p), (k, q), (l, r)]) (h1 : gStep P T ops st o (anyV P T ops E K fuel (i :: done))) (h2 : gStep P T ops st p (anyV P T ops E K fuel (j :: done)))
  (h3 : gStep P T ops st q (anyV P T ops E K fuel (k :: done))) (h4 : gStep P T ops st r (anyV P T ops E K fuel (l :: done))) : anyV P T ops E K (fuel + 1) done st :=
 anyV_next h fun x hx => by
  simp at hx
  rcases hx with rfl | rfl | rfl | rfl
  ·exact h1
  ·exact h2
  ·exact h3
  ·exact h4
theorem anyV_end (h : endB ops done = true) (hK : K st) : anyV P T ops E K fuel done st := by
 unfold endB at h
 split at h
 ·rename_i h0
  refine ⟨fun _ => ?_⟩
  cases fuel <;> (unfold anyE; simp only [h0]; exact hK)
 ·cases h
structure Both (a b : Prop) : Prop where
 l : a
 r : b
def goL (f : Nat → Oper → Prop) : List (Nat × Oper) → Prop
 | [] => True
 | x :: r => match r with
  | [] => f x.1 x.2
  | _ => Both (f x.1 x.2) (goL f r)
end
section
variable {P : Program} {T : TypeId → Option TI} {st : St} {ops : Array Oper}
theorem tri_every (hT : TOk P T) (hm : P.follows .mixedOrders = true) {id : Nat} {Q : Exit → St → Prop} (keep : List Nat) (stM : St) (hB : onB ops.toList.length ops.toList = true)
  (h : fBs (earlyL ops.toList ops.toList 0) fun E => anyV P T ops.toList E (fun st' => canonQ keep st' stM) ops.toList.length [] st) (hQ : Q .normal stM) : Tri P (.region id ops true) st Q := by
 rw [fBs_eq] at h
 exact tri_each hT hm keep stM hB (h.out rfl) hQ
def CV.rpd (id : Nat) (ds : List D) : CV → CV
 | .ptr i off => match Nat.beq i id with | true => .d (.rp (ds.drop off)) | false => .ptr i off
 | .fn f caps => match caps.any (fun p => Nat.beq p.1 id) with | true => .u | false => .fn f caps
 | x => x
def AV.rpd (id : Nat) (ds : List D) : AV → AV
 | .c x => .c (x.rpd id ds)
 | .agg cs => .agg (cs.map (CV.rpd id ds))
 | .tup xs => .tup (xs.map fun x => (x.1, x.2.map (CV.rpd id ds)))
 | .w x v => .w (x.rpd id ds) v
 | .u => .u
def Ent.rpd (id : Nat) (ds : List D) : Ent → Ent
 | .box ty cs => .box ty (cs.map (CV.rpd id ds))
 | e => e
def allDs : List CV → Option (List D)
 | [] => some []
 | .d d :: r => match allDs r with | some l => some (d :: l) | none => none
 | _ => none
def St.rpd (st : St) (id : Nat) : Option St :=
 match look st.h id with
 | some (.box _ cs) => match allDs cs with
  | some ds => some { st with t := st.t.map fun p => (p.1, p.2.rpd id ds), h := (hdel st.h id).map fun p => (p.1, p.2.rpd id ds) }
  | none => none
 | _ => none
theorem allDs_spec : ∀ {cs : List CV} {ds : List D}, allDs cs = some ds → cs = ds.map .d
 | [], ds, h => by simp only [allDs, Option.some.injEq] at h; subst h; rfl
 | x :: r, ds, h => by
  cases x with
  | d d =>
   simp only [allDs] at h
   split at h
   ·rename_i l hl; cases h; rw [allDs_spec hl]; rfl
   ·cases h
  | _ => simp [allDs] at h
end
section
variable {P : Program} {T : TypeId → Option TI} {F0 L : Nat → Prop} {w0 w w' : World} {st : St} {a : Act} {κ κ' : Con} {hh : List (Nat × Ent)}
theorem Rep.rpd (h : Rep F0 L w0 st a w) {id : Nat} {st' : St} (hs : st.rpd id = some st') : Rep F0 L w0 st' a w := by
 obtain ⟨κ, h⟩ := h
 unfold St.rpd at hs
 split at hs
 ·rename_i ty cs hl
  split at hs
  ·rename_i ds hds
   cases hs
   have hcs := allDs_spec hds
   obtain ⟨vals, hg, hvals⟩ := h.ents id _ hl
   have hex := h.excl id _ (κ.bl id) hl rfl
   let κ2 : Con := { κ with F := fun b => κ.F b ∨ b = κ.bl id }
   have hFz : ∀ {v : Value} {d : D}, Fz w κ.F v d → Fz w κ2.F v d := fun hf => Fz.keep (fun _ _ => rfl) (fun b hb => .inl hb) hf
   have hlk : ∀ m e, look ((hdel st.h id).map fun p => (p.1, p.2.rpd id ds)) m = some e → m ≠ id ∧ ∃ y, look st.h m = some y ∧ e = y.rpd id ds := fun m e hm => by
    rw [look_map (Ent.rpd id ds)] at hm
    simp only [Option.map_eq_some_iff] at hm
    obtain ⟨y, h1, h2⟩ := hm
    rw [look_hdel] at h1
    split at h1
    ·cases h1
    ·rename_i hne; exact ⟨hne, y, h1, h2.symm⟩
   have harr : ∀ m e sz ver own es, look ((hdel st.h id).map fun p => (p.1, p.2.rpd id ds)) m = some (.arr e sz ver own es) → look st.h m = some (.arr e sz ver own es) := fun m e sz ver own es hm => by
    obtain ⟨_, y, h1, h2⟩ := hlk _ _ hm
    cases y with
    | box => simp [Ent.rpd] at h2
    | arr => simp only [Ent.rpd] at h2; rw [h1, h2]
   have hcv : ∀ x v, CVRep w κ st.h x v → CVRep w κ2 ((hdel st.h id).map fun p => (p.1, p.2.rpd id ds)) (x.rpd id ds) v := fun x v hx => by
    have hone := CVRep.one hx
    cases x with
    | d x => exact hFz hx
    | nl _ => exact hx
    | u => exact hx
    | nst => exact hx
    | nep => exact hx
    | ref i ver s => obtain ⟨h1, h2, h3, h4⟩ := hx; exact ⟨h1, h2, h3, fun e sz own es hm => h4 e sz own es (harr _ _ _ _ _ _ hm)⟩
    | ep i ver k j => obtain ⟨h1, h2, h3, h4⟩ := hx; exact ⟨h1, h2, h3, fun e sz own es hm => h4 e sz own es (harr _ _ _ _ _ _ hm)⟩
    | fn f caps =>
     simp only [CV.rpd]
     split
     ·exact hone
     ·exact hx
    | ptr i off =>
     simp only [CV.rpd]
     split
     ·rename_i hb
      obtain rfl := beq_iff hb
      obtain ⟨_, rfl⟩ := hx
      have hcell : ∀ (j : Nat) (u : Value), vals[off + j]? = some u → w.cell? ((⟨κ.bl i, off, none⟩ : Addr).add j) = some u := fun j u hu => by
       rw [addr0]
       simp [World.cell?, hg, hu]
      have hlen : vals.length = ds.length := by rw [hvals.1, hcs]; simp
      refine .rp ⟨κ.bl i, off, none⟩ (ds.drop off) (fun j => vals.getD (off + j) undef) (fun _ => ⟨.inr rfl, rfl⟩) (fun j d hj => ?_) (fun j d hj => ?_)
      all_goals
       rw [List.getElem?_drop] at hj
       have hlt : off + j < vals.length := by rw [hlen]; exact (List.getElem?_eq_some_iff.1 hj).1
       have hu : vals[off + j]? = some vals[off + j] := List.getElem?_eq_getElem hlt
       have hgd : vals.getD (off + j) undef = vals[off + j] := by simp [List.getD, hu]
      ·simp only [hgd]; exact hcell j _ hu
      ·simp only [hgd]
       have := hvals.2 (off + j) (.d d) vals[off + j] (by rw [hcs]; simp [hj]) hu
       exact hFz this
     ·exact hx
   have hcvs : ∀ cs vs, CVs w κ st.h cs vs → CVs w κ2 ((hdel st.h id).map fun p => (p.1, p.2.rpd id ds)) (cs.map (CV.rpd id ds)) vs := fun cs vs hv => by
    refine ⟨by simp [hv.1], fun j c u hc hu => ?_⟩
    simp only [List.getElem?_map, Option.map_eq_some_iff] at hc
    obtain ⟨c0, h0, rfl⟩ := hc
    exact hcv _ _ (hv.2 j c0 u h0 hu)
   have hblk : ∀ (y : Ent) (m b : Nat), (y.rpd id ds).has κ2 m b = y.has κ m b := fun y m b => by cases y <;> rfl
   have hown : ∀ (y : Ent), (y.rpd id ds).own = y.own := fun y => by cases y <;> rfl
   refine ⟨κ2, { below := h.below, f0 := fun b hb => .inl (h.f0 b hb), f1 := fun b hb => ?_, f2 := fun b hb => ?_, ents := fun m e hm => ?_, new := fun m e hm => ?_, excl := fun m e b hm hb => ?_, inj := fun m m' e e' b hm hm' hb hb' => ?_, tmps := fun t av ht => ?_, size := h.size, dfs := h.dfs, kn := h.kn, kv := fun m e sz ver own es hm => h.kv m e sz ver own es (harr _ _ _ _ _ _ hm) }⟩
   ·rcases hb with hb | rfl
    ·exact h.f1 b hb
    ·exact .inr (hex.1 rfl)
   ·rcases hb with hb | rfl
    ·exact h.f2 b hb
    ·exact (h.ents id _ hl).lt rfl
   ·obtain ⟨hne, y, h1, rfl⟩ := hlk m e hm
    have hy := h.ents m y h1
    cases y with
    | box ty2 cs2 => obtain ⟨vs, g1, g2⟩ := hy; exact ⟨vs, g1, hcvs _ _ g2⟩
    | arr e0 sz ver own es =>
     cases own with
     | nest tys => exact hy
     | _ => exact OwnRep.mono hy (fun b hb => .inl hb)
   ·obtain ⟨hne, y, h1, rfl⟩ := hlk m e hm
    exact h.new m y h1
   ·obtain ⟨hne, y, h1, rfl⟩ := hlk m e hm
    rw [hblk] at hb
    rw [hown]
    obtain ⟨q1, q2, q3⟩ := h.excl m y b h1 hb
    refine ⟨q1, fun ho hF => ?_, fun ho => .inl (q3 ho)⟩
    rcases hF with hF | rfl
    ·exact q2 ho hF
    ·exact hne (h.inj m id y _ _ h1 hl hb rfl)
   ·obtain ⟨hne, y, h1, rfl⟩ := hlk m e hm
    obtain ⟨hne', y', h1', rfl⟩ := hlk m' e' hm'
    rw [hblk] at hb hb'
    exact h.inj m m' y y' b h1 h1' hb hb'
   ·rw [look_map (AV.rpd id ds)] at ht
    simp only [Option.map_eq_some_iff] at ht
    obtain ⟨y, h1, rfl⟩ := ht
    obtain ⟨v, hv, hr⟩ := h.tmps t y h1
    refine ⟨v, hv, ?_⟩
    cases y with
    | c x => exact hcv _ _ hr
    | agg cs2 => obtain ⟨vs, q, hvs⟩ := hr; exact ⟨vs, q, hcvs _ _ hvs⟩
    | tup xs =>
     obtain ⟨vs, q, hl2, hvs⟩ := hr
     refine ⟨vs, q, by simp [hl2], fun j x v hj hu => ?_⟩
     simp only [List.getElem?_map, Option.map_eq_some_iff] at hj
     obtain ⟨x0, h0, rfl⟩ := hj
     have := hvs j x0 v h0 hu
     unfold TVRep at *
     split at this
     ·rename_i hb
      simp only [hb]
      obtain ⟨us, q, hus⟩ := this; exact ⟨us, q, hcvs _ _ hus⟩
     ·rename_i hb
      simp only [hb]
      exact hcvs _ _ this
    | w x u => exact ⟨hr.1, hcv _ _ hr.2⟩
    | u => trivial
  ·cases hs
 ·cases hs
def rpK (st : St) (id : Nat) (K : St → Prop) : Prop := match st.rpd id with | some st' => fS st' K | none => False
theorem tri_rp {c : Code} {Q : Exit → St → Prop} (id : Nat) (h : rpK st id fun st' => Tri P c st' Q) : Tri P c st Q := by
 unfold rpK at h
 split at h
 ·rename_i st' hs
  rw [fS_eq] at h
  unfold Tri at h ⊢
  intro F0 L w0 a w hr
  exact h F0 L w0 a w (hr.rpd hs)
 ·exact h.elim
end
end Go.H
