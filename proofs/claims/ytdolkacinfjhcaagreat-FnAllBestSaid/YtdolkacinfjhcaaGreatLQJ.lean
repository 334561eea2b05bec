/- Library, part QJ: bent grids drawn. -/
import Derived.Test.YtdolkacinfjhcaaGreatLQE
import Derived.Test.YtdolkacinfjhcaaGreatH31
set_option maxRecDepth 100000
set_option linter.unusedSimpArgs false
set_option linter.unusedVariables false
namespace Go.H.S
open Go Go.Proofs Go.H
attribute [local irreducible] Tri FnSpec FnSpecM FnSpecX FnSpecJ FnSpecB
theorem take_at {xs : List (List Int)} {p k : Nat} {x : List Int} {K : Nat → Nat → List D → Nat → List (List D) → TypeId → Prop} (hp : p = k) (hx : xs[k]? = some x) (h : K k 0 (cIs x) 1 (eL cI x) t_int) :
  ∃ i j c z es' ty, p = i * 1 + j ∧ j < 1 ∧ AtD (eL cIs xs) i c ∧ c[j]? = some (.sl z es') ∧ [t_int][j]? = some ty ∧ K i j c z es' ty :=
 ⟨k, 0, cIs x, 1, eL cI x, t_int, by omega, by decide, by unfold AtD; rw [eL_get, hx]; rfl, rfl, rfl, h⟩
theorem hole_at {xs : List (List Int)} {k k' : Nat} {x : List Int} {K : List D → Prop} (hk : k' = k) (hx : xs[k]? = some x) (h : K [.any]) : ∀ c, AtD (dSet (eL cIs xs) k ((cIs x).set 0 .any)) k' c → dRoom 0 1 c ∧ K c := fun c hc => by
 have hl := (List.getElem?_eq_some_iff.1 hx).1
 have e : (dSet (eL cIs xs) k ((cIs x).set 0 .any))[k']? = some c := by unfold AtD at hc; exact hc
 rw [hk, dSet, List.getElem?_set_self (by rw [eL_length]; exact hl)] at e
 cases e
 exact ⟨by unfold dRoom; simp [cIs], h⟩
theorem hole_fill {xs : List (List Int)} {k : Nat} (c : List D) (y : List Int) : dSet (dSet (eL cIs xs) k c) k (dOver [.any] 0 [.sl 1 (eL cI y)]) = eL cIs (xs.set k y) := by
 rw [show dOver [.any] 0 [.sl 1 (eL cI y)] = cIs y by rw [dOver]; rfl, ← eL_set]
 simp only [dSet, List.set_set]
theorem nidx_at {xs : List (List Int)} {p k : Nat} {x : List Int} {n : Int} {q : Nat} {K : Prop} (hp : p = k) (hx : xs[k]? = some x) (hn : n = (q : Int)) (hq : q < x.length) (h : K) : ∃ i j c es', p = i * 1 + j ∧ AtD (eL cIs xs) i c ∧ c[j]? = some (.sl 1 es') ∧ InB n (dLen es') ∧ K :=
 ⟨k, 0, cIs x, eL cI x, by omega, by unfold AtD; rw [eL_get, hx]; rfl, rfl, by subst hn; unfold InB; rw [dLen_eL]; omega, h⟩
theorem nst_at {xs : List (List Int)} {p k q : Nat} {x : List Int} {K : Nat → Nat → List D → List (List D) → Prop} (hp : p = k) (hx : xs[k]? = some x) (hq : q < x.length) (h : K k 0 (cIs x) (eL cI x)) : ∃ i j c es', p = i * 1 + j ∧ j < 1 ∧ AtD (eL cIs xs) i c ∧ c[j]? = some (.sl 1 es') ∧ q < dLen es' ∧ K i j c es' :=
 ⟨k, 0, cIs x, eL cI x, by omega, by decide, by unfold AtD; rw [eL_get, hx]; rfl, rfl, by rw [dLen_eL]; exact hq, h⟩
theorem nst_set {xs : List (List Int)} {k q : Nat} {x : List Int} (v : Int) : dSet (eL cIs xs) k ((cIs x).set 0 (.sl 1 (dSet (eL cI x) q [.int .i64 v]))) = eL cIs (xs.set k (x.set q v)) := by
 rw [show dSet (eL cI x) q [.int .i64 v] = eL cI (x.set q v) from eL_set cI x q v]
 exact eL_set cIs xs k (x.set q v)
theorem all_set {P : List Int → Prop} {xs : List (List Int)} {k : Nat} {y : List Int} (h : ∀ c ∈ xs, P c) (hy : P y) : ∀ c ∈ xs.set k y, P c := fun c hc => (List.mem_or_eq_of_mem_set hc).elim (h c) (fun e => e ▸ hy)
theorem all_snoc' {P : List Int → Prop} {xs : List (List Int)} {y : List Int} (h : ∀ c ∈ xs, P c) (hy : P y) : ∀ c ∈ xs ++ [y], P c := fun c hc => (List.mem_append.1 hc).elim (h c) (fun e => by simp at e; exact e ▸ hy)
theorem flat_snoc (xs : List Int) (v : Int) : FlatR (dApp (eL cI xs) (partOf [[D.int IntKind.i64 v]] none)) := by
 rw [partOf_none, show dApp (eL cI xs) [[D.int IntKind.i64 v]] = eL cI (xs ++ [v]) from eL_app cI xs v]
 exact flat_cI _
theorem cIs_set (k : Nat) (xs : List (List Int)) (x y : List Int) : dSet (eL cIs xs) k (dOver (cIs x) 0 [.sl 1 (eL cI y)]) = eL cIs (xs.set k y) := by
 rw [show dOver (cIs x) 0 [.sl 1 (eL cI y)] = cIs y by rw [dOver]; rfl]
 exact eL_set cIs xs k y
theorem flat_one (v : Int) : FlatR [[D.int IntKind.i64 v]] := fun c hc d hd => by
 simp at hc
 subst hc
 simp at hd
 subst hd
 rfl
theorem cIs_app (xs : List (List Int)) (es : List (List D)) (y : List Int) (h : es = eL cI y) : dApp (eL cIs xs) [[D.sl 1 es]] = eL cIs (xs ++ [y]) := by
 subst h
 exact eL_app cIs xs y
structure gridS (g : Grd) : Prop where
 c1 : 1 ≤ g.cuts.length ∧ g.cuts.length ≤ 4
 eq : g.bins.length = g.cuts.length
 cl : ∀ c ∈ g.cuts, c.length ≤ 8
 bl : ∀ b ∈ g.bins, 1 ≤ b.length ∧ b.length ≤ 40
theorem gridD_s {g : Grd} (h : gridD g) : gridS g := by
 obtain ⟨t, b, ht, hb, rfl⟩ := h
 have hn := ht.names
 have hm := ht.rows
 have h2 := ht.some
 refine ⟨?_, ?_, fun c hc => ?_, fun c hc => ?_⟩
 ·show 1 ≤ (cutsTo t b t.names.length).length ∧ (cutsTo t b t.names.length).length ≤ 4
  rw [cutsTo_len]
  have := ht.one
  omega
 ·show (binsTo t b t.names.length).length = (cutsTo t b t.names.length).length
  rw [cutsTo_len, binsTo_len]
 ·simp only [gridT, cutsTo, List.mem_map, List.mem_range] at hc
  obtain ⟨f, _, rfl⟩ := hc
  exact cutsT_len t hb.2
 ·simp only [gridT, binsTo, List.mem_map, List.mem_range] at hc
  obtain ⟨f, _, rfl⟩ := hc
  simp only [binsT, List.length_map, columnL_len]
  omega
set_option maxHeartbeats 4000000 in
theorem spec_l11Bent_spec (code : List Int) (i0 u0 : Int) (hi0 : inCur code (i0, u0)) (hl : code.length ≤ 1048576) : FnSpecB PR f_spec_l11Bent [.c (.ptr 0 0)] t_spec_l1Cur (cur code i0 u0) (Grd × Int × Int)
  (fun x => smG x.1 ∧ inCur code x.2) (fun x => aG x.1) (fun x => cur code x.2.1 x.2.2) (fun _ => []) (fun _ => 1) := by
 refine FnSpecB.intro hTn 0 (pf Tryz.func226) rfl (by kernel_rfl) Tryz.ntmps226 rfl rfl ?_
 intro v0
 conv => whnf
 refine .inr (.inr (.inr (.inr (.inl ⟨0, ?_⟩))))
 conv => whnf
 refine ⟨_, _, _, _, _, _, spec_l11Right_spec code i0 u0 hi0 hl, fun ⟨g, i1, u1⟩ ⟨hg, hi1⟩ => ⟨rfl, ?_⟩⟩
 dsimp only at hg hi1
 have hs := gridD_s hg
 obtain ⟨hc1, heq, hcl, hbl⟩ := hs
 clear hg
 obtain ⟨cs, bs⟩ := g
 dsimp only at hc1 heq hcl hbl
 conv => whnf
 rw [show nInt (lenRE (eL cIs cs) none) = (cs.length : Int) by simp]
 refine .inr (.inr (.inr (.inr (.inl ⟨0, ?_⟩))))
 conv => whnf
 refine ⟨_, _, _, _, _, _, spec_l1Below_spec code i1 u1 _ hi1 hl, fun ⟨f, i2, u2⟩ ⟨hf, hi2⟩ => ⟨rfl, ?_⟩⟩
 dsimp only at hf hi2
 have hf2 := hf.2.1 (by omega)
 obtain ⟨f, rfl⟩ : ∃ n : Nat, f = n := ⟨f.toNat, by omega⟩
 obtain ⟨cf, hcf⟩ := get_lt (show f < cs.length by omega)
 obtain ⟨bf, hbf⟩ := get_lt (show f < bs.length by omega)
 have hcfl := hcl cf (List.mem_of_getElem? hcf)
 have hbfl := hbl bf (List.mem_of_getElem? hbf)
 have e1 : wAdd .i64 (nInt (dLen (eL cI cf))) 1 = (cf.length : Int) + 1 := by rw [wAdd64] <;> simp <;> omega
 conv => whnf
 refine .inr (.inr (.inr (.inr (.inl ⟨0, ?_⟩))))
 conv => whnf
 refine ⟨_, _, _, _, _, _, spec_l1Below_spec code i2 u2 14 hi2 hl, fun ⟨k, i3, u3⟩ ⟨hk, hi3⟩ => ⟨rfl, ?_⟩⟩
 dsimp only at hk hi3
 conv => whnf
 have hcl' : ∀ c ∈ cs, c.length ≤ 1048576 := fun c hc => by have := hcl c hc; omega
 have hbl' : ∀ b ∈ bs, b.length ≤ 1048576 := fun c hc => by have := hbl c hc; omega
 refine ifB_i (fun q0 => ?_) (fun q0 => ?_) <;> (conv => whnf)
 ·refine tri_everyX hTn hmix [0, 2, 3] (Y := Int × Int × Int) (fun y => inCur code y.2) (fun y => { t := [(0, .w (.ptr 0 0) v0), (2, .c (.ptr 1 0)), (3, .c (.ptr 2 0))], h := [(0, .box t_spec_l1Cur (cur code y.2.1 y.2.2)), (1, .box t_impl_Grid [.nl 1, .nl 1]), (2, .box t_impl_Grid [.ref 3 0 none, .ref 4 0 none]), (3, rowIs (cs.set f (cf ++ [y.1]))), (4, rowIs bs)], n := 5, N := 95 }) rfl ?_ ?_
  ·repeat' first
    | (refine anyV_one rfl ?_; (conv => whnf))
    | (refine anyV_two rfl ?_ ?_ <;> (conv => whnf))
    | (refine anyV_three rfl ?_ ?_ ?_ <;> (conv => whnf))
    | (refine anyV_four rfl ?_ ?_ ?_ ?_ <;> (conv => whnf))
    | (refine .inr (.inr (.inr (.inr (.inl ⟨0, ?_⟩)))); (conv => whnf); refine ⟨_, _, _, _, _, _, spec_l6Small_spec code i3 u3 hi3 hl, fun ⟨z, ib, ub⟩ ⟨hz, hib⟩ => ⟨rfl, ?_⟩⟩; dsimp only at hz hib; (conv => whnf))
    | (refine ref_at (k := f) rfl (by simp [dLen_len, dSet, eL_length]; omega) ?_; (conv => whnf))
    | (refine ld_at (by simp) hcf ?_; (conv => whnf))
    | (refine take_at (k := f) (by simp) hcf ?_; (conv => whnf))
    | (refine hole_at (by simp) hcf ?_; (conv => whnf))
    | (refine And.intro (by simp; omega) ?_; (conv => whnf))
    | (refine And.intro (flat_snoc _ _) ?_; (conv => whnf))
   all_goals
    refine anyV_end rfl ?_
    refine ⟨(z, ib, ub), hib, ?_⟩
    conv => whnf
    simp only [partOf_none, nAdd_eq, offR_none, Nat.zero_add, nOf_eq, Int.toNat_natCast]
    rw [show dApp (eL cI cf) [[D.int IntKind.i64 z]] = eL cI (cf ++ [z]) from eL_app cI cf z, hole_fill]
  intro ⟨z, ib, ub⟩ hib
  dsimp only at hib
  conv => whnf
  refine ⟨(⟨cs.set f (cf ++ [z]), bs⟩, ib, ub), ⟨⟨by simp; omega, by show bs.length ≤ _; omega, all_set hcl' (by simp; omega), hbl'⟩, by assumption⟩, ?_⟩
  conv => whnf
  first | done | rfl
 refine ifB_i (fun q1 => ?_) (fun q1 => ?_) <;> (conv => whnf)
 ·refine tri_everyX hTn hmix [0, 2, 3] (Y := Int × Int × Int) (fun y => inCur code y.2) (fun y => { t := [(0, .w (.ptr 0 0) v0), (2, .c (.ptr 1 0)), (3, .c (.ptr 2 0))], h := [(0, .box t_spec_l1Cur (cur code y.2.1 y.2.2)), (1, .box t_impl_Grid [.nl 1, .nl 1]), (2, .box t_impl_Grid [.ref 3 0 none, .ref 4 0 none]), (3, rowIs cs), (4, rowIs (bs.set f (bf.set 0 y.1)))], n := 5, N := 95 }) rfl ?_ ?_
  ·repeat' first
    | (refine anyV_one rfl ?_; (conv => whnf))
    | (refine anyV_two rfl ?_ ?_ <;> (conv => whnf))
    | (refine anyV_three rfl ?_ ?_ ?_ <;> (conv => whnf))
    | (refine anyV_four rfl ?_ ?_ ?_ ?_ <;> (conv => whnf))
    | (refine .inr (.inr (.inr (.inr (.inl ⟨0, ?_⟩)))); (conv => whnf); refine ⟨_, _, _, _, _, _, spec_l1PickInt_of code i3 u3 _ [0, 1, -1, 8, 9223372036854775807] (by simp [eL, cI]) hi3 hl (by simp) (by simp), fun ⟨z, ib, ub⟩ ⟨hz, hib⟩ => ⟨rfl, ?_⟩⟩; dsimp only at hz hib; (conv => whnf))
    | (refine ref_at (k := f) rfl (by simp [dLen_len, dSet, eL_length]; omega) ?_; (conv => whnf))
    | (refine ld_at (by simp) hbf ?_; (conv => whnf))
    | (refine nidx_at (q := 0) (by simp) hbf rfl (by omega) ?_; (conv => whnf))
    | (refine nst_at (by simp) hbf (by simp; omega) ?_; (conv => whnf))
   all_goals
    refine anyV_end rfl ?_
    refine ⟨(z, ib, ub), hib, ?_⟩
    conv => whnf
    rw [show nOf 0 = 0 by simp, nst_set]
  intro ⟨z, ib, ub⟩ hib
  dsimp only at hib
  conv => whnf
  refine ⟨(⟨cs, bs.set f (bf.set 0 z)⟩, ib, ub), ⟨⟨by show cs.length ≤ _; omega, by simp; omega, hcl', all_set hbl' (by simp; omega)⟩, by assumption⟩, ?_⟩
  conv => whnf
  first | done | rfl
 refine ifB_i (fun q2 => ?_) (fun q2 => ?_) <;> (conv => whnf)
 ·refine tri_every hTn hmix [0, 2, 3] { t := [(0, .w (.ptr 0 0) v0), (2, .c (.ptr 1 0)), (3, .c (.ptr 2 0))], h := [(0, .box t_spec_l1Cur (cur code i3 u3)), (1, .box t_impl_Grid [.nl 1, .nl 1]), (2, .box t_impl_Grid [.ref 3 0 none, .ref 4 0 none]), (3, rowIs cs), (4, rowIs (bs.set f (bf ++ [0])))], n := 5, N := 95 } rfl ?_ ?_
  ·repeat' first
    | (refine anyV_one rfl ?_; (conv => whnf))
    | (refine anyV_two rfl ?_ ?_ <;> (conv => whnf))
    | (refine anyV_three rfl ?_ ?_ ?_ <;> (conv => whnf))
    | (refine anyV_four rfl ?_ ?_ ?_ ?_ <;> (conv => whnf))
    | (refine ref_at (k := f) rfl (by simp [dLen_len, dSet, eL_length]; omega) ?_; (conv => whnf))
    | (refine ld_at (by simp) hbf ?_; (conv => whnf))
    | (refine take_at (k := f) (by simp) hbf ?_; (conv => whnf))
    | (refine hole_at (by simp) hbf ?_; (conv => whnf))
    | (refine And.intro (by simp; omega) ?_; (conv => whnf))
    | (refine And.intro (flat_snoc _ _) ?_; (conv => whnf))
   all_goals
    refine anyV_end rfl ?_
    conv => whnf
    simp only [partOf_none, nAdd_eq, offR_none, Nat.zero_add, nOf_eq, Int.toNat_natCast]
    rw [show dApp (eL cI bf) [[D.int IntKind.i64 0]] = eL cI (bf ++ [0]) from eL_app cI bf 0, hole_fill]
  conv => whnf
  refine ⟨(⟨cs, bs.set f (bf ++ [0])⟩, i3, u3), ⟨⟨by show cs.length ≤ _; omega, by simp; omega, hcl', all_set hbl' (by simp; omega)⟩, by assumption⟩, ?_⟩
  conv => whnf
  first | done | rfl
 refine ifB_i (fun q3 => ?_) (fun q3 => ?_) <;> (conv => whnf)
 ·refine And.intro (flat_one 0) ?_
  conv => whnf
  refine And.intro (by simp; omega) ?_
  conv => whnf
  refine ⟨(⟨cs, bs ++ [[0]]⟩, i3, u3), ⟨⟨by show cs.length ≤ _; omega, by simp; omega, hcl', all_snoc' hbl' (by simp)⟩, by assumption⟩, ?_⟩
  conv => whnf
  simp only [partOf_none, cIs_app bs [[D.int IntKind.i64 0]] [0] (by simp [eL, cI])]
 refine ifB_i (fun q4 => ?_) (fun q4 => ?_) <;> (conv => whnf)
 ·refine And.intro (fun c hc => by simp at hc) ?_
  conv => whnf
  refine And.intro (by simp; omega) ?_
  conv => whnf
  refine ⟨(⟨cs ++ [[]], bs⟩, i3, u3), ⟨⟨by simp; omega, by show bs.length ≤ _; omega, all_snoc' hcl' (by simp), hbl'⟩, by assumption⟩, ?_⟩
  conv => whnf
  simp only [partOf_none, cIs_app cs [] [] (by simp [eL, cI])]
 refine ifB_i (fun q5 => ?_) (fun q5 => ?_) <;> (conv => whnf)
 ·refine ⟨(⟨cs, []⟩, i3, u3), ⟨⟨by show cs.length ≤ _; omega, by simp, hcl', fun c hc => by simp at hc⟩, by assumption⟩, ?_⟩
  conv => whnf
  simp only [partOf_none]
  rw [← eL_nil cIs]
 refine ifB_i (fun q6 => ?_) (fun q6 => ?_) <;> (conv => whnf)
 ·refine tri_un 3 ?_
  conv => whnf
  refine tri_everyX hTn hmix [0, 2, 3] (Y := Nat × Int × Int) (fun y => inCur code y.2) (fun y => { t := [(0, .w (.ptr 0 0) v0), (2, .c (.ptr 1 0)), (3, .c (.ptr 2 0))], h := [(0, .box t_spec_l1Cur (cur code y.2.1 y.2.2)), (1, .box t_impl_Grid [.nl 1, .nl 1]), (2, .box t_impl_Grid [.ref 3 0 none, .ref 4 0 none]), (3, .arr t_Lint 1 0 .own (eL cIs (cs.set f (cf.take y.1)))), (4, rowIs bs)], n := 5, N := 95 }) rfl ?_ ?_
  ·repeat' first
    | (refine anyV_one rfl ?_; (conv => whnf))
    | (refine anyV_two rfl ?_ ?_ <;> (conv => whnf))
    | (refine anyV_three rfl ?_ ?_ ?_ <;> (conv => whnf))
    | (refine anyV_four rfl ?_ ?_ ?_ ?_ <;> (conv => whnf))
    | (refine .inr (.inr (.inr (.inr (.inl ⟨0, ?_⟩)))); (conv => whnf); refine ⟨_, _, _, _, _, _, spec_l1Below_spec code i3 u3 _ hi3 hl, fun ⟨z, ib, ub⟩ ⟨hz, hib⟩ => ⟨rfl, ?_⟩⟩; dsimp only at hz hib; (conv => whnf))
    | (refine ref_at (k := f) rfl (by simp [dLen_len, dSet, eL_length]; omega) ?_; (conv => whnf))
    | (refine ld_at (by simp) hcf ?_; (conv => whnf))
    | (refine And.intro (by rw [e1] at hz; simp; omega) ?_; (conv => whnf))
    | (refine st_at (k := f) (by simp) hcf (by simp [cIs]) ?_; (conv => whnf))
   all_goals
    rw [e1] at hz
    obtain ⟨z, rfl⟩ : ∃ n : Nat, z = n := ⟨z.toNat, by omega⟩
    refine anyV_end rfl ?_
    refine ⟨(z, ib, ub), hib, ?_⟩
    conv => whnf
    rw [dCut_take]
    simp only [nAdd_eq, offR_none, Nat.zero_add, nOf_eq, Int.toNat_natCast]
    rw [cIs_set]
  intro ⟨z, ib, ub⟩ hib
  dsimp only at hib
  conv => whnf
  refine ⟨(⟨cs.set f (cf.take z), bs⟩, ib, ub), ⟨⟨by simp; omega, by show bs.length ≤ _; omega, all_set hcl' (by simp; omega), hbl'⟩, by assumption⟩, ?_⟩
  conv => whnf
  first | done | rfl
 ·refine ⟨(⟨cs, bs⟩, i3, u3), ⟨⟨by show cs.length ≤ _; omega, by show bs.length ≤ _; omega, hcl', hbl'⟩, by assumption⟩, ?_⟩
  conv => whnf
  first | done | rfl
end Go.H.S
