/- Library, part EB: the law FnSpan. -/
import Derived.Test.YtdolkacinfjhcaaGreatLSG
import Derived.Test.YtdolkacinfjhcaaGreatLNC
import Derived.Test.YtdolkacinfjhcaaGreatLSJ
import Derived.Test.YtdolkacinfjhcaaGreatLPE
import Derived.Test.YtdolkacinfjhcaaGreatLPR
import Derived.Test.YtdolkacinfjhcaaGreatLSR
set_option maxRecDepth 100000
set_option linter.unusedSimpArgs false
set_option linter.unusedVariables false
namespace Go.H.S
open Go Go.Proofs Go.H
attribute [local irreducible] Tri FnSpec FnSpecM FnSpecX FnSpecJ FnSpecB
end Go.H.S
namespace Go.H.S
open Go Go.Proofs Go.H
attribute [local irreducible] Tri FnSpec FnSpecM FnSpecX FnSpecJ FnSpecB
end Go.H.S
namespace Go.H.S
open Go Go.Proofs Go.H
structure SameN (g : Grd) (grads : List Int) (c : Cfg) (t t' : List Nd) (x : Nat) : Prop where
 rows : nodeRowsL g t x = nodeRowsL g t' x
 bd : boundL g grads c t x = boundL g grads c t' x
 lev : levelL t x = levelL t' x
end Go.H.S
namespace Go.H.S
open Go Go.Proofs Go.H
end Go.H.S
namespace Go.H.S
open Go Go.Proofs Go.H
def eR (t : Tbl) (c : Cfg) (tr : List Nd) (r : Int) : Int := evalL (shrT c tr) ((t.rows[r.toNat]?).getD [])
def sqS : List Int → Int
 | [] => 0
 | x :: r => x * x + sqS r
theorem sqS_app : ∀ a b : List Int, sqS (a ++ b) = sqS a + sqS b
 | [], b => by simp [sqS]
 | x :: a, b => by simp only [List.cons_append, sqS, sqS_app a b]; omega
end Go.H.S
namespace Go.H.S
open Go Go.Proofs Go.H
attribute [local irreducible] Tri FnSpec FnSpecM FnSpecX FnSpecJ FnSpecB
theorem sqS_take {xs : List Int} {k : Nat} {x : Int} (h : xs[k]? = some x) : sqS (xs.take (k + 1)) = sqS (xs.take k) + x * x := by
 rw [List.take_add_one, h, sqS_app]
 simp [sqS]
theorem sq_le44 {x : Int} (h : -17592186044416 ≤ x ∧ x ≤ 17592186044416) : 0 ≤ x * x ∧ x * x ≤ 309485009821345068724781056 := by
 have := sq_in (x := x) (A := 17592186044416) h
 omega
theorem sqS_in44 : ∀ {xs : List Int}, (∀ x ∈ xs, -17592186044416 ≤ x ∧ x ≤ 17592186044416) → 0 ≤ sqS xs ∧ sqS xs ≤ 309485009821345068724781056 * (xs.length : Int)
 | [], _ => by simp [sqS]
 | x :: r, h => by
  have h1 := sq_le44 (h x (by simp))
  have h2 := sqS_in44 (xs := r) fun y hy => h y (List.mem_cons_of_mem _ hy)
  simp only [sqS, List.length_cons]
  omega
theorem hl_small {n : Int} (h : 0 ≤ n ∧ n ≤ 9223372036854775807) : hiU n = 0 ∧ loU n = n := hl_eq (by omega) (by omega) (by omega)
set_option maxHeartbeats 4000000 in
theorem impl_LossOf_44 (xs : List Int) (hl : xs.length ≤ 1000) (hb : ∀ x ∈ xs, -17592186044416 ≤ x ∧ x ≤ 17592186044416) : FnSpec PR f_impl_LossOf [aIs xs] (tupVB (sqS xs) true) [] 0 := by
 have eX : nInt (dLen (eL cI xs)) = (xs.length : Int) := by simp
 have h00 : hiU (sqS ([] : List Int)) = 0 ∧ loU (sqS ([] : List Int)) = 0 := hl_small (by simp [sqS])
 refine FnSpec.intro hT (pf Tryz.func158) rfl (by kernel_rfl) Tryz.ntmps158 rfl ?_
 conv => whnf
 refine tri_loop hT [2, 4, 10, 11, 12] (α := Nat) (fun k => { t := [(2, .c (.ptr 0 0)), (4, .c (.ptr 1 0)), (10, aIs xs), (11, ai xs.length), (12, ai k)], h := [(0, .box t_impl_Wide [.d (.bool false), .d (.int .u64 0), .d (.int .u64 0)]), (1, .box t_impl_Wide (cV (sqS (xs.take k))))], n := 2, N := 30 })
  (fun k => k ≤ xs.length) (fun k => xs.length - k) 0 (by (conv => whnf); simp only [List.take_zero, cV]; rw [h00.1, h00.2]; first | done | rfl | (rw [eX]; rfl)) (Nat.zero_le _) ?_
 intro k hk
 conv => whnf
 refine ifB_i (fun q => ?_) (fun q => ?_) <;> (conv => whnf) <;> simp only [eH] at q
 ·obtain ⟨x, hx⟩ := get_lt (show k < xs.length by omega)
  have hxb := hb x (List.mem_of_getElem? hx)
  have hsq := sq_le44 hxb
  have hin := sqS_in44 (xs := xs.take k) fun y hy => hb y (List.mem_of_mem_take hy)
  have htl : (xs.take k).length = k := by rw [List.length_take]; omega
  rw [htl] at hin
  have hst := sqS_take hx
  have hmw := impl_MulWide_sq x (show i64 x by unfold i64; omega)
  have haw := impl_AddWide_pos (sqS (xs.take k)) (x * x) hin.1 hsq.1 (by omega)
  rw [← hst] at haw
  generalize x * x = xx at *
  generalize hs1 : sqS (xs.take (k + 1)) = s' at *
  generalize hs0 : sqS (xs.take k) = s0 at *
  refine idx_at (by simp) hx ?_
  conv => whnf
  refine tri_every hT hmix [2, 4, 7, 8, 10, 11, 12] { t := [(2, .c (.ptr 0 0)), (4, .c (.ptr 1 0)), (7, .c (.ptr 2 0)), (8, ab true), (10, aIs xs), (11, ai xs.length), (12, ai k)], h := [(0, .box t_impl_Wide [.d (.bool false), .d (.int .u64 0), .d (.int .u64 0)]), (1, .box t_impl_Wide (cV s0)), (2, .box t_impl_Wide (cV s'))], n := 3, N := 30 } rfl ?_ ?_
  ·repeat' first
    | (refine anyV_one rfl ?_; (conv => whnf))
    | (refine anyV_two rfl ?_ ?_ <;> (conv => whnf))
    | (refine anyV_three rfl ?_ ?_ ?_ <;> (conv => whnf))
    | (refine .inl ⟨_, _, _, hmw, rfl, ?_⟩; (conv => whnf))
    | (refine .inl ⟨_, _, _, haw, rfl, ?_⟩; (conv => whnf))
    | (refine anyV_end rfl ?_; (conv => whnf); first | done | rfl)
  conv => whnf
  refine ⟨k + 1, by omega, by omega, ?_⟩
  ((conv => whnf); simp only [eS, wI (show k < xs.length by omega) (by omega)])
  rw [hs1]
  first | done | exact ⟨rfl, rfl⟩ | rfl
 ·obtain rfl : k = xs.length := by omega
  rw [List.take_length]
  first | done | rfl
end Go.H.S
namespace Go.H.S
open Go Go.Proofs Go.H
attribute [local irreducible] Tri FnSpec FnSpecM FnSpecX FnSpecJ FnSpecB
set_option maxHeartbeats 4000000 in
theorem impl_RoundOf_of (t : Tbl) (g : Grd) (c : Cfg) (ps res : List Int) (ts : List (List Nd)) (tr : List Nd) (hz : szT t) (ht : tableOk t = true) (hc : cfgP c) (hsm : smG g) (hgrid : FnSpec PR f_impl_GridOf [aTb t, ai c.bins] (aG g) [] 0) (hpl : ps.length = t.ys.length) (hpb : ∀ p ∈ ps, -1152921504606846976 ≤ p ∧ p ≤ 1152921504606846976)
  (hts : ts.length ≤ 1000) (htl : ∀ x ∈ ts, x.length ≤ 1000) (hgl : tr.length ≤ 1000) (hlf : ∀ n ∈ tr, leafP n) (hres : FnSpec PR f_impl_Residuals [aIs t.ys, aIs ps] (tupRk res true) [] 0) (hgrow : FnSpec PR f_impl_GrowTree [aG g, aIs res, aCf c] (.tup [(true, [.ref 0 0 none]), (false, [.d (.bool true)])]) [(0, .arr t_impl_Node 5 0 .own (eL cN tr))] 1)
  (hev : ∀ r, -1152921504606846976 ≤ evalL (shrT c tr) r ∧ evalL (shrT c tr) r ≤ 1152921504606846976) :
  FnSpec PR f_impl_RoundOf [aTb t, aG g, aCf c, aSt ps ts] (tupSt (addL (shrT c tr) t.rows ps) (ts ++ [shrT c tr]) true) [] 0 := by
 have hv := tableOk_v ht
 have hyl := hv.yl
 have hr40 := hv.r40
 have eP : nInt (dLen (eL cI ps)) = (ps.length : Int) := by simp
 refine FnSpec.intro hT (pf Tryz.func70) rfl (by kernel_rfl) Tryz.ntmps70 rfl ?_
 conv => whnf
 refine tri_rp 0 ?_
 conv => whnf
 refine tri_rp 1 ?_
 conv => whnf
 refine tri_rp 2 ?_
 conv => whnf
 refine tri_rp 3 ?_
 conv => whnf
 refine tri_every hT hmix [4, 5, 6, 7, 8, 30] { t := [(4, rpTb t), (5, rpG g), (6, rpCf c), (7, rpSt ps ts), (8, .c (.ptr 0 0)), (30, ab false)], h := [(0, .box t_impl_State [.nl 1, .nl 1])], n := 1, N := 100 } rfl ?_ ?_
 ·repeat' first
   | (refine anyV_one rfl ?_; (conv => whnf))
   | (refine anyV_two rfl ?_ ?_ <;> (conv => whnf))
   | (refine anyV_three rfl ?_ ?_ ?_ <;> (conv => whnf))
   | (refine .inl ⟨_, _, _, impl_TableOk_spec t hz, rfl, ?_⟩; rw [ht]; (conv => whnf))
   | (refine .inl ⟨_, _, _, hgrid, rfl, ?_⟩; (conv => whnf))
   | (refine .inl ⟨_, _, _, impl_SameGrid_same g hsm, rfl, ?_⟩; (conv => whnf))
   | (refine anyV_end rfl ?_; (conv => whnf); first | done | rfl)
 conv => whnf
 refine .inl ⟨_, _, _, hres, rfl, ?_⟩
 conv => whnf
 refine .inl ⟨_, _, _, hgrow, rfl, ?_⟩
 conv => whnf
 refine .inl ⟨_, _, _, impl_ShrunkTree_spec tr c hc hgl hlf, rfl, ?_⟩
 conv => whnf
 refine tri_rp 3 ?_
 conv => whnf
 refine tri_every hT hmix [4, 7, 8, 13, 14] { t := [(4, rpTb t), (7, rpSt ps ts), (8, .c (.ptr 0 0)), (13, .c (.d (.rp [.sl 5 (eL cN (shrT c tr))]))), (14, .c (.ptr 1 0))], h := [(0, .box t_impl_State [.nl 1, .nl 1]), (1, .box t_impl_State [.nl 1, .ref 2 0 none]), (2, .arr t_impl_Tree 1 0 .own (eL cT (ts ++ [shrT c tr])))], n := 3, N := 100 } rfl ?_ ?_
 ·repeat' first
   | (refine anyV_one rfl ?_; (conv => whnf))
   | (refine anyV_two rfl ?_ ?_ <;> (conv => whnf))
   | (refine anyV_three rfl ?_ ?_ ?_ <;> (conv => whnf))
   | (refine anyV_four rfl ?_ ?_ ?_ ?_ <;> (conv => whnf))
   | (refine .inl ⟨_, _, _, impl_copyTrees_d ts (by omega) (fun x hx => by have := htl x hx; omega), rfl, ?_⟩; (conv => whnf))
   | (refine And.intro (by simp [eL_length, dLen_len]; omega) ?_; (conv => whnf))
   | (refine anyV_end rfl ?_; (conv => whnf); simp only [partOf_none]; rw [show dApp (eL cT ts) [[D.sl 5 (eL cN (shrT c tr))]] = eL cT (ts ++ [shrT c tr]) from eL_app cT ts _]; first | done | rfl)
 conv => whnf
 refine tri_nl 1 0 t_int 1 ?_
 conv => whnf
 refine tri_loop hT [4, 7, 8, 13, 14, 70, 71, 72] (α := Nat) (fun k => { t := [(4, rpTb t), (7, rpSt ps ts), (8, .c (.ptr 0 0)), (13, .c (.d (.rp [.sl 5 (eL cN (shrT c tr))]))), (14, .c (.ptr 1 0)), (70, aIs ps), (71, ai ps.length), (72, ai k)], h := [(0, .box t_impl_State [.nl 1, .nl 1]), (1, .box t_impl_State [.ref 2 0 none, .ref 3 0 none]), (2, .arr t_int 1 0 .own (eL cI ((addL (shrT c tr) t.rows ps).take k))), (3, .arr t_impl_Tree 1 0 .own (eL cT (ts ++ [shrT c tr])))], n := 4, N := 100 })
  (fun k => k ≤ ps.length) (fun k => ps.length - k) 0 (by (conv => whnf); simp only [List.take_zero, eL_nil]; first | done | rfl | (rw [eP]; rfl)) (Nat.zero_le _) ?_
 intro k hk
 conv => whnf
 refine ifB_i (fun q => ?_) (fun q => ?_) <;> (conv => whnf) <;> simp only [eH] at q
 ·obtain ⟨p, hp⟩ := get_lt (show k < ps.length by omega)
  obtain ⟨r, hr⟩ := get_lt (show k < t.rows.length by omega)
  have hpk := hpb p (List.mem_of_getElem? hp)
  have hrc := hv.cols r (List.mem_of_getElem? hr)
  have hn4 := hv.n4
  have hek := hev r
  have hsl : (shrT c tr).length ≤ 1048576 := by simp [shrT]; omega
  refine idx_at (by simp) hp ?_
  conv => whnf
  refine tri_every hT hmix [4, 7, 8, 13, 14, 17, 18, 70, 71, 72] { t := [(4, rpTb t), (7, rpSt ps ts), (8, .c (.ptr 0 0)), (13, .c (.d (.rp [.sl 5 (eL cN (shrT c tr))]))), (14, .c (.ptr 1 0)), (17, ai (p + evalL (shrT c tr) r)), (18, ab true), (70, aIs ps), (71, ai ps.length), (72, ai k)], h := [(0, .box t_impl_State [.nl 1, .nl 1]), (1, .box t_impl_State [.ref 2 0 none, .ref 3 0 none]), (2, .arr t_int 1 0 .own (eL cI ((addL (shrT c tr) t.rows ps).take k))), (3, .arr t_impl_Tree 1 0 .own (eL cT (ts ++ [shrT c tr])))], n := 4, N := 100 } rfl ?_ ?_
  ·repeat' first
    | (refine anyV_one rfl ?_; (conv => whnf))
    | (refine anyV_two rfl ?_ ?_ <;> (conv => whnf))
    | (refine anyV_three rfl ?_ ?_ ?_ <;> (conv => whnf))
    | (refine idx_at (k := k) rfl hr ?_; (conv => whnf))
    | (refine .inl ⟨_, _, _, impl_EvalTree_spec (shrT c tr) r hsl (by omega), rfl, ?_⟩; (conv => whnf))
    | (refine .inl ⟨_, _, _, impl_AddInt_small p (evalL (shrT c tr) r) (by omega) (by omega), rfl, ?_⟩; (conv => whnf))
    | (refine anyV_end rfl ?_; (conv => whnf); first | done | rfl)
  conv => whnf
  have hal := addL_len (tr := shrT c tr) (hpl.trans hyl)
  refine And.intro (by simp [partOf_none, eL_length, dLen_len]; omega) ?_
  conv => whnf
  refine ⟨k + 1, by omega, by omega, ?_⟩
  ((conv => whnf); simp only [eS, wI (show k < ps.length by omega) (by omega)])
  rw [addL_take hp hr, ← eL_app, partOf_none]
  first | done | rfl | exact ⟨rfl, rfl⟩
 ·obtain rfl : k = ps.length := by omega
  rw [← addL_len (tr := shrT c tr) (hpl.trans hyl), List.take_length]
  simp only [partOf_none]
  first | done | rfl
theorem impl_RoundOf_spec (t : Tbl) (b : Nat) (c : Cfg) (ps : List Int) (ts : List (List Nd)) (tr : List Nd) (hz : szT t) (ht : tableOk t = true) (hc : cfgP c) (hb : c.bins = (b : Int)) (hbb : 2 ≤ b ∧ b ≤ 8) (hsm : smG (gridT t b)) (hpl : ps.length = t.ys.length) (hpb : ∀ p ∈ ps, -1152921504606846976 ≤ p ∧ p ≤ 1152921504606846976)
  (hts : ts.length ≤ 1000) (htl : ∀ x ∈ ts, x.length ≤ 1000) (htk : taskP (gridT t b) (resL t.ys ps) c) (hgl : tr.length ≤ 1000) (hlf : ∀ n ∈ tr, leafP n) (htr : growL (gridT t b) (resL t.ys ps) c = tr) (hev : ∀ r, -1152921504606846976 ≤ evalL (shrT c tr) r ∧ evalL (shrT c tr) r ≤ 1152921504606846976) :
  FnSpec PR f_impl_RoundOf [aTb t, aG (gridT t b), aCf c, aSt ps ts] (tupSt (addL (shrT c tr) t.rows ps) (ts ++ [shrT c tr]) true) [] 0 := by
 have hv := tableOk_v ht
 have hcl : c.signs.length ≤ 1048576 := by have := hc.2.2.2.2; omega
 have hrl := resL_len hpl.symm
 have hyl := hv.yl
 have hr40 := hv.r40
 have hgrow := impl_GrowTree_spec (gridT t b) (resL t.ys ps) c hsm (by omega) hcl htk
 rw [htr] at hgrow
 have hgrid := impl_GridOf_d t b hbb ht hz
 rw [← hb] at hgrid
 exact impl_RoundOf_of t (gridT t b) c ps (resL t.ys ps) ts tr hz ht hc hsm hgrid hpl hpb hts htl hgl hlf (impl_Residuals_spec t.ys ps hpl.symm (by omega) hv.yv hpb) hgrow hev
abbrev cSx (x : List Int × List (List Nd)) : List D := [.sl 1 (eL cI x.1), .sl 1 (eL cT x.2)]
abbrev tupSs (l : List (List Int × List (List Nd))) (b : Bool) : AV := .tup [(false, [.d (.sl 2 (eL cSx l))]), (false, [.d (.bool b)])]
abbrev tupS0 : AV := .tup [(false, [.d (.sl 0 [])]), (false, [.d (.bool false)])]
def stagesN (P : Nat → List Int) (T : Nat → List (List Nd)) (n : Nat) : List (List Int × List (List Nd)) := (List.range n).map fun k => (P k, T k)
theorem stagesN_len (P : Nat → List Int) (T : Nat → List (List Nd)) (n : Nat) : (stagesN P T n).length = n := by simp [stagesN]
theorem stagesN_succ (P : Nat → List Int) (T : Nat → List (List Nd)) (n : Nat) : stagesN P T (n + 1) = stagesN P T n ++ [(P n, T n)] := by simp [stagesN, List.range_succ]
theorem stagesN_at (P : Nat → List Int) (T : Nat → List (List Nd)) {n k : Nat} (h : k < n) : (stagesN P T n)[k]? = some (P k, T k) := by simp [stagesN, h]
set_option maxHeartbeats 4000000 in
theorem impl_stages_no (t : Tbl) (c : Cfg) (hz : szT t) (hcl : c.signs.length ≤ 1048576) (h : ¬ (tableOk t = true ∧ cfgOk c = true)) : FnSpec PR f_impl_stages [aTb t, aCf c] tupS0 [] 0 := by
 refine FnSpec.intro hT (pf Tryz.func136) rfl (by kernel_rfl) Tryz.ntmps136 rfl ?_
 conv => whnf
 cases ht : tableOk t with
 | false =>
  refine .inl ⟨_, _, _, impl_StateNew_no t hz ht, rfl, ?_⟩
  conv => whnf
  first | done | rfl
 | true =>
  have hc : cfgOk c = false := by cases q : cfgOk c with | true => exact absurd ⟨ht, q⟩ h | false => rfl
  refine .inl ⟨_, _, _, impl_StateNew_spec t hz ht, rfl, ?_⟩
  conv => whnf
  refine .inl ⟨_, _, _, impl_ConfigOk_spec c hcl, rfl, ?_⟩
  rw [hc]
  conv => whnf
  first | done | rfl
set_option maxHeartbeats 4000000 in
theorem impl_stages_of (t : Tbl) (c : Cfg) (g : Grd) (P : Nat → List Int) (T : Nat → List (List Nd)) (n : Nat) (hc : cfgOk c = true) (hcl : c.signs.length ≤ 1048576) (hn : c.rounds = n) (hn8 : n ≤ 8) (hgrid : FnSpec PR f_impl_GridOf [aTb t, ai c.bins] (aG g) [] 0) (hnew : FnSpec PR f_impl_StateNew [aTb t] (tupSt (P 0) (T 0) true) [] 0)
  (hround : ∀ k, k < n → FnSpec PR f_impl_RoundOf [aTb t, aG g, aCf c, aSt (P k) (T k)] (tupSt (P (k + 1)) (T (k + 1)) true) [] 0) : FnSpec PR f_impl_stages [aTb t, aCf c] (tupSs (stagesN P T (n + 1)) true) [] 0 := by
 refine FnSpec.intro hT (pf Tryz.func136) rfl (by kernel_rfl) Tryz.ntmps136 rfl ?_
 conv => whnf
 refine .inl ⟨_, _, _, hnew, rfl, ?_⟩
 conv => whnf
 refine .inl ⟨_, _, _, impl_ConfigOk_spec c hcl, rfl, ?_⟩
 rw [hc]
 conv => whnf
 refine tri_rp 0 ?_
 conv => whnf
 refine tri_rp 1 ?_
 conv => whnf
 have hst1 : eL cSx (stagesN P T 1) = [[.sl 1 (eL cI (P 0)), .sl 1 (eL cT (T 0))]] := by
  rw [show stagesN P T 1 = [(P 0, T 0)] from rfl, eL_cons, eL_nil]
 refine tri_every hT hmix [2, 3, 6, 8, 9] { t := [(2, rpTb t), (3, rpCf c), (6, .c (.ptr 0 0)), (8, .c (.ref 1 0 none)), (9, .c (.ptr 2 0))], h := [(0, .box t_impl_State (cSt (P 0) (T 0))), (1, .arr t_impl_State 2 0 .own (eL cSx (stagesN P T 1))), (2, .box t_impl_Grid (cG g))], n := 3, N := 51 } rfl ?_ ?_
 ·repeat' first
   | (refine anyV_one rfl ?_; (conv => whnf))
   | (refine anyV_two rfl ?_ ?_ <;> (conv => whnf))
   | (refine anyV_three rfl ?_ ?_ ?_ <;> (conv => whnf))
   | (refine anyV_four rfl ?_ ?_ ?_ ?_ <;> (conv => whnf))
   | (refine .inl ⟨_, _, _, hgrid, rfl, ?_⟩; (conv => whnf))
   | (refine anyV_end rfl ?_; rw [hst1]; (conv => whnf); first | done | rfl)
 conv => whnf
 refine tri_rp 2 ?_
 conv => whnf
 refine tri_loop hT [2, 3, 6, 8, 9, 31, 32] (α := Nat) (fun k => { t := [(2, rpTb t), (3, rpCf c), (6, .c (.ptr 0 0)), (8, .c (.ref 1 0 none)), (9, rpG g), (31, ai c.rounds), (32, ai k)], h := [(0, .box t_impl_State (cSt (P k) (T k))), (1, .arr t_impl_State 2 0 .own (eL cSx (stagesN P T (k + 1))))], n := 2, N := 51 })
  (fun k => k ≤ n) (fun k => n - k) 0 (by (conv => whnf); first | done | rfl) (Nat.zero_le _) ?_
 intro k hk
 conv => whnf
 refine ifB_i (fun q => ?_) (fun q => ?_) <;> (conv => whnf) <;> simp only [eH] at q
 ·have hkn : k < n := by omega
  have hsl := stagesN_len P T (k + 1)
  refine .inl ⟨_, _, _, hround k hkn, rfl, ?_⟩
  conv => whnf
  refine tri_every hT hmix [2, 3, 6, 8, 9, 31, 32] { t := [(2, rpTb t), (3, rpCf c), (6, .c (.ptr 0 0)), (8, .c (.ref 1 0 none)), (9, rpG g), (31, ai c.rounds), (32, ai k)], h := [(0, .box t_impl_State (cSt (P (k + 1)) (T (k + 1)))), (1, .arr t_impl_State 2 0 .own (eL cSx (stagesN P T (k + 2))))], n := 2, N := 51 } rfl ?_ ?_
  ·repeat' first
    | (refine anyV_one rfl ?_; (conv => whnf))
    | (refine anyV_two rfl ?_ ?_ <;> (conv => whnf))
    | (refine anyV_three rfl ?_ ?_ ?_ <;> (conv => whnf))
    | (refine anyV_four rfl ?_ ?_ ?_ ?_ <;> (conv => whnf))
    | (refine And.intro (by simp [partOf_none, eL_length, dLen_len]; omega) ?_; (conv => whnf))
    | (refine anyV_end rfl ?_; (conv => whnf); rw [stagesN_succ P T (k + 1), ← eL_app]; simp only [partOf_none]; first | done | rfl | exact ⟨rfl, rfl⟩)
  conv => whnf
  refine ⟨k + 1, by omega, by omega, ?_⟩
  ((conv => whnf); simp only [eS, wI hkn (by omega)])
  first | done | rfl
 ·obtain rfl : k = n := by omega
  simp only [partOf_none]
  first | done | rfl
theorem impl_stages_yes (t : Tbl) (c : Cfg) (hz : szT t) (ht : tableOk t = true) (hco : cfgOk c = true) : FnSpec PR f_impl_stages [aTb t, aCf c] (tupSs (stagesN (fun k => (trainK t c (gridT t c.bins.toNat) k).1) (fun k => (trainK t c (gridT t c.bins.toNat) k).2) (c.rounds.toNat + 1)) true) [] 0 := by
 have hv := tableOk_v ht
 have hc := cfgOk_iff.1 hco
 obtain ⟨⟨hb, hbb⟩, hn, hn1, hn8⟩ := cfg_nats hc
 have hgrid := impl_GridOf_d t c.bins.toNat hbb ht hz
 rw [← hb] at hgrid
 refine impl_stages_of t c (gridT t c.bins.toNat) (fun k => (trainK t c (gridT t c.bins.toNat) k).1) (fun k => (trainK t c (gridT t c.bins.toNat) k).2) c.rounds.toNat hco (by have := hc.2.2.2.2; omega) hn hn8 hgrid (impl_StateNew_spec t hz ht) fun k hk => ?_
 have htk := train_tk hv hbb hc (k := k) (by omega)
 exact impl_RoundOf_spec t c.bins.toNat c _ _ (growL (gridT t c.bins.toNat) (resL t.ys (trainK t c (gridT t c.bins.toNat) k).1) c) hz ht hc hb hbb (gridT_sm hv hbb.2) (trainK_len hv.yl k) (fun p hp => by have := train_preds hv hbb hc (k := k) (by omega) p hp; omega)
  (by rw [trainK_trees]; omega) (fun x hx => by have := train_tlen hv hbb hc (k := k) (by omega) x hx; omega) htk (grown_len htk) (grown_leafP htk) rfl (fun r => by have := round_abs htk r; omega)
set_option maxHeartbeats 4000000 in
theorem impl_Boost_no (t : Tbl) (c : Cfg) (hz : szT t) (hcl : c.signs.length ≤ 1048576) (h : ¬ (tableOk t = true ∧ cfgOk c = true)) : FnSpec PR f_impl_Boost [aTb t, aCf c] (tupSt [] [] false) [] 0 := by
 refine FnSpec.intro hT (pf Tryz.func144) rfl (by kernel_rfl) Tryz.ntmps144 rfl ?_
 conv => whnf
 refine .inl ⟨_, _, _, impl_stages_no t c hz hcl h, rfl, ?_⟩
 conv => whnf
 simp only [tupSt, cSt, eL_nil]
 first | done | rfl
set_option maxHeartbeats 4000000 in
theorem impl_Boost_yes (t : Tbl) (c : Cfg) (hz : szT t) (ht : tableOk t = true) (hco : cfgOk c = true) : FnSpec PR f_impl_Boost [aTb t, aCf c] (tupSt (boostT t c).1 (boostT t c).2 true) [] 0 := by
 have hst := impl_stages_yes t c hz ht hco
 have hat := stagesN_at (fun k => (trainK t c (gridT t c.bins.toNat) k).1) (fun k => (trainK t c (gridT t c.bins.toNat) k).2) (n := c.rounds.toNat + 1) (k := c.rounds.toNat) (by omega)
 have hlen := stagesN_len (fun k => (trainK t c (gridT t c.bins.toNat) k).1) (fun k => (trainK t c (gridT t c.bins.toNat) k).2) (c.rounds.toNat + 1)
 have hc := cfgOk_iff.1 hco
 obtain ⟨⟨hb, hbb⟩, hn, hn1, hn8⟩ := cfg_nats hc
 have he : ((trainK t c (gridT t c.bins.toNat) c.rounds.toNat).1, (trainK t c (gridT t c.bins.toNat) c.rounds.toNat).2) = boostT t c := rfl
 rw [he] at hat
 clear he
 generalize boostT t c = x at *
 generalize stagesN (fun k => (trainK t c (gridT t c.bins.toNat) k).1) (fun k => (trainK t c (gridT t c.bins.toNat) k).2) (c.rounds.toNat + 1) = l at *
 generalize c.rounds.toNat = n at *
 refine FnSpec.intro hT (pf Tryz.func144) rfl (by kernel_rfl) Tryz.ntmps144 rfl ?_
 conv => whnf
 refine .inl ⟨_, _, _, hst, rfl, ?_⟩
 conv => whnf
 refine idx_at (k := n) (by rw [show nInt (dLen (eL cSx l)) = (l.length : Int) by simp, wSub64 (by omega) (by omega)]; omega) hat ?_
 conv => whnf
 first | done | rfl
set_option maxHeartbeats 4000000 in
theorem impl_ModelFrom_spec (t : Tbl) (c : Cfg) (ps : List Int) (ts : List (List Nd)) (hz : szT t) (ht : tableOk t = true) (hc : cfgOk c = true) (hcl : c.signs.length ≤ 1048576) (hts : ts.length ≤ 1000) (htl : ∀ x ∈ ts, x.length ≤ 1000) :
  FnSpec PR f_impl_ModelFrom [aTb t, aCf c, aSt ps ts] (tupMB (modelR t c ts)) [] 0 := by
 have hv := tableOk_v ht
 have hzn := hz.n
 have hok := impl_ModelOk_spec (modelOf t c ts) hz.n hz.ns hcl (by show ts.length ≤ _; omega) (fun x hx => by have := htl x hx; omega)
 unfold modelR
 unfold modelOf at hok ⊢
 refine FnSpec.intro hT (pf Tryz.func145) rfl (by kernel_rfl) Tryz.ntmps145 rfl ?_
 conv => whnf
 refine .inl ⟨_, _, _, impl_TableOk_spec t hz, rfl, ?_⟩
 rw [ht]
 conv => whnf
 refine .inl ⟨_, _, _, impl_ConfigOk_spec c hcl, rfl, ?_⟩
 rw [hc]
 conv => whnf
 refine .inl ⟨_, _, _, impl_BaseOf_spec t.ys (by have := hv.yl; have := hv.r1; omega) (by have := hv.yl; have := hv.r40; omega) hv.yv, rfl, ?_⟩
 conv => whnf
 refine tri_rp 0 ?_
 conv => whnf
 refine tri_rp 1 ?_
 conv => whnf
 refine tri_rp 2 ?_
 conv => whnf
 refine tri_every hT hmix [6, 10] { t := [(6, .c (.ptr 0 0)), (10, .c (.ptr 1 0))], h := [(0, .box t_impl_Model [.nl 1, .nl 1, .d (.int .i64 0), .nl 1]), (1, .box t_impl_Model [.ref 2 0 none, .ref 3 0 none, .d (.int .i64 (baseL t.ys)), .ref 4 0 none]), (2, .arr t_string 1 0 .own (eL cS t.names)), (3, .arr t_int 1 0 .own (eL cI c.signs)), (4, .arr t_impl_Tree 1 0 .own (eL cT ts))], n := 5, N := 42 } rfl ?_ ?_
 ·repeat' first
   | (refine anyV_one rfl ?_; (conv => whnf))
   | (refine anyV_two rfl ?_ ?_ <;> (conv => whnf))
   | (refine anyV_three rfl ?_ ?_ ?_ <;> (conv => whnf))
   | (refine anyV_four rfl ?_ ?_ ?_ ?_ <;> (conv => whnf))
   | (refine .inl ⟨_, _, _, clone_strs_spec t.names (by omega), rfl, ?_⟩; (conv => whnf))
   | (refine .inl ⟨_, _, _, slices_Clone_ints_spec c.signs (by omega), rfl, ?_⟩; (conv => whnf))
   | (refine .inl ⟨_, _, _, impl_copyTrees_d ts (by omega) (fun x hx => by have := htl x hx; omega), rfl, ?_⟩; (conv => whnf))
   | (refine anyV_end rfl ?_; (conv => whnf); simp only [dApp_nil, partOf_none]; first | done | rfl)
   | (refine anyV_end rfl ?_; (conv => whnf); first | done | rfl)
 conv => whnf
 refine .inl ⟨_, _, _, hok, rfl, ?_⟩
 cases hq : modelOk { names := t.names, signs := c.signs, base := baseL t.ys, trees := ts } with
 | true =>
  conv => whnf
  rw [if_pos rfl]
  first | done | rfl
 | false =>
  conv => whnf
  rw [if_neg (by decide)]
  simp only [emptyM, tupMB, cM, eL_nil]
  first | done | rfl
set_option maxHeartbeats 4000000 in
theorem impl_TrainModel_spec (t : Tbl) (c : Cfg) (hz : szT t) (hcl : c.signs.length ≤ 1048576) : FnSpec PR f_impl_TrainModel [aTb t, aCf c] (tupMB (trainR t c)) [] 0 := by
 by_cases h : tableOk t = true ∧ cfgOk c = true
 ·unfold trainR
  rw [if_pos h]
  have hv := tableOk_v h.1
  have hc := cfgOk_iff.1 h.2
  obtain ⟨⟨hb, hbb⟩, hn, hn1, hn8⟩ := cfg_nats hc
  have hbst := impl_Boost_yes t c hz h.1 h.2
  have hmf := impl_ModelFrom_spec t c (boostT t c).1 (boostT t c).2 hz h.1 h.2 hcl (by unfold boostT; rw [trainK_trees]; omega) (fun x hx => by have := train_tlen hv hbb hc hn8 x hx; omega)
  generalize modelR t c (boostT t c).2 = r at *
  generalize boostT t c = x at *
  refine FnSpec.intro hT (pf Tryz.func56) rfl (by kernel_rfl) Tryz.ntmps56 rfl ?_
  conv => whnf
  refine .inl ⟨_, _, _, hbst, rfl, ?_⟩
  conv => whnf
  refine .inl ⟨_, _, _, hmf, rfl, ?_⟩
  conv => whnf
  first | done | rfl
 ·unfold trainR
  rw [if_neg h]
  have hbst := impl_Boost_no t c hz hcl h
  refine FnSpec.intro hT (pf Tryz.func56) rfl (by kernel_rfl) Tryz.ntmps56 rfl ?_
  conv => whnf
  refine .inl ⟨_, _, _, hbst, rfl, ?_⟩
  conv => whnf
  simp only [emptyM, tupMB, cM, eL_nil]
  first | done | rfl
end Go.H.S
namespace Go.H.S
open Go Go.Proofs Go.H
attribute [local irreducible] Tri FnSpec FnSpecM FnSpecX FnSpecJ FnSpecB
set_option maxHeartbeats 4000000 in
theorem spec_LossOf_44 (xs : List Int) (hl : xs.length ≤ 1000) (hb : ∀ x ∈ xs, -17592186044416 ≤ x ∧ x ≤ 17592186044416) : FnSpec PR f_spec_LossOf [aIs xs] (tupVB (sqS xs) true) [] 0 := by
 have eX : nInt (dLen (eL cI xs)) = (xs.length : Int) := by simp
 have h00 : hiU (sqS ([] : List Int)) = 0 ∧ loU (sqS ([] : List Int)) = 0 := hl_small (by simp [sqS])
 refine FnSpec.intro hT (pf Tryz.func153) rfl (by kernel_rfl) Tryz.ntmps153 rfl ?_
 conv => whnf
 refine tri_loop hT [0, 2, 4, 5] (α := Nat) (fun k => { t := [(0, aIs xs), (2, .c (.ptr 0 0)), (4, .c (.ptr 1 0)), (5, ai k)], h := [(0, .box t_impl_Wide [.d (.bool false), .d (.int .u64 0), .d (.int .u64 0)]), (1, .box t_impl_Wide (cV (sqS (xs.take k))))], n := 2, N := 34 })
  (fun k => k ≤ xs.length) (fun k => xs.length - k) 0 (by (conv => whnf); simp only [List.take_zero, cV]; rw [h00.1, h00.2]; first | done | rfl) (Nat.zero_le _) ?_
 intro k hk
 conv => whnf
 refine ifB_i (fun q => ?_) (fun q => ?_) <;> (conv => whnf) <;> simp only [eH] at q
 ·obtain ⟨x, hx⟩ := get_lt (show k < xs.length by omega)
  have hxb := hb x (List.mem_of_getElem? hx)
  have hsq := sq_le44 hxb
  have hin := sqS_in44 (xs := xs.take k) fun y hy => hb y (List.mem_of_mem_take hy)
  have htl : (xs.take k).length = k := by rw [List.length_take]; omega
  rw [htl] at hin
  have hst := sqS_take hx
  have hmw := spec_MulWide_sq x (show i64 x by unfold i64; omega)
  have haw := spec_AddWide_pos (sqS (xs.take k)) (x * x) hin.1 hsq.1 (by omega)
  rw [← hst] at haw
  generalize x * x = xx at *
  generalize hs1 : sqS (xs.take (k + 1)) = s' at *
  generalize hs0 : sqS (xs.take k) = s0 at *
  refine tri_every hT hmix [0, 2, 4, 5, 6, 7] { t := [(0, aIs xs), (2, .c (.ptr 0 0)), (4, .c (.ptr 1 0)), (5, ai k), (6, .c (.ptr 2 0)), (7, ab true)], h := [(0, .box t_impl_Wide [.d (.bool false), .d (.int .u64 0), .d (.int .u64 0)]), (1, .box t_impl_Wide (cV s0)), (2, .box t_impl_Wide (cV s'))], n := 3, N := 34 } rfl ?_ ?_
  ·repeat' first
    | (refine anyV_one rfl ?_; (conv => whnf))
    | (refine anyV_two rfl ?_ ?_ <;> (conv => whnf))
    | (refine anyV_three rfl ?_ ?_ ?_ <;> (conv => whnf))
    | (refine idx_at (k := k) rfl hx ?_; (conv => whnf))
    | (refine .inl ⟨_, _, _, hmw, rfl, ?_⟩; (conv => whnf))
    | (refine .inl ⟨_, _, _, haw, rfl, ?_⟩; (conv => whnf))
    | (refine anyV_end rfl ?_; (conv => whnf); first | done | rfl)
  conv => whnf
  refine ⟨k + 1, by omega, by omega, ?_⟩
  ((conv => whnf); simp only [eS, wI (show k < xs.length by omega) (by omega)])
  rw [hs1]
  first | done | exact ⟨rfl, rfl⟩ | rfl
 ·obtain rfl : k = xs.length := by omega
  rw [List.take_length]
  first | done | rfl
abbrev cVd (n : Int) : List D := [.bool false, .int .u64 (hiU n), .int .u64 (loU n)]
def lossN (L : Nat → Int) (n : Nat) : List Int := (List.range n).map L
theorem lossN_len (L : Nat → Int) (n : Nat) : (lossN L n).length = n := by simp [lossN]
theorem lossN_succ (L : Nat → Int) (n : Nat) : lossN L (n + 1) = lossN L n ++ [L n] := by simp [lossN, List.range_succ]
abbrev tupVs (b : Bool) : AV := .tup [(false, [.ref 0 0 none]), (false, [.d (.bool b)])]
end Go.H.S
namespace Go.H.S
open Go Go.Proofs Go.H
attribute [local irreducible] Tri FnSpec FnSpecM FnSpecX FnSpecJ
def predL (row : List Int) : List (List Nd) → Int → Int
 | [], a => a
 | t :: r, a => predL row r (wAdd .i64 a (evalL t row))
def predictM (m : Mdl) (row : List Int) : Int × Bool := if modelOk m = true ∧ row.length = m.names.length then (predL row m.trees m.base, true) else (0, false)
abbrev tupIB (x : Int × Bool) : AV := .tup [(false, [.d (.int .i64 x.1)]), (false, [.d (.bool x.2)])]
structure szM (m : Mdl) : Prop where
 names : m.names.length ≤ 1048576
 texts : ∀ s ∈ m.names, s.size ≤ 9223372036854775807
 signs : m.signs.length ≤ 1048576
 trees : m.trees.length ≤ 1048576
 nodes : ∀ t ∈ m.trees, t.length ≤ 1048576
theorem impl_Predict_spec (m : Mdl) (row : List Int) (hs : szM m) (hr : row.length ≤ 1048576) : FnSpec PR f_impl_Predict [aM m, aIs row] (tupIB (predictM m row)) [] 0 := by
 have eN : nInt (dLen (eL cS m.names)) = (m.names.length : Int) := by simp
 have eR : nInt (dLen (eL cI row)) = (row.length : Int) := by simp
 refine FnSpec.intro hT (pf Tryz.func255) rfl (by kernel_rfl) Tryz.ntmps255 rfl ?_
 conv => whnf
 refine .inl ⟨_, _, _, impl_ModelOk_spec m hs.names hs.texts hs.signs hs.trees hs.nodes, rfl, ?_⟩
 cases hmo : modelOk m <;> (conv => whnf)
 ·rw [predictM, if_neg (by simp [hmo])]
 rw [eN, eR]
 refine ifB_i (fun h => ?_) (fun h => ?_) <;> (conv => whnf) <;> simp only [eH] at h
 ·rw [predictM, if_neg (by omega)]
 have hlen : row.length = m.names.length := by omega
 have hp : predictM m row = (predL row m.trees m.base, true) := by rw [predictM, if_pos ⟨hmo, hlen⟩]
 rw [hp]
 refine tri_loop hT [1, 6, 23, 24, 25] (α := Nat × Int) (fun x => { t := [(1, aIs row), (6, ai x.2), (23, aTs m.trees), (24, ai m.trees.length), (25, ai x.1)], h := [], n := 0, N := 36 })
  (fun x => x.1 ≤ m.trees.length ∧ predL row (m.trees.drop x.1) x.2 = predL row m.trees m.base) (fun x => m.trees.length - x.1) (0, m.base) (by ((conv => whnf); simp only [eS])) ⟨Nat.zero_le _, rfl⟩ ?_
 intro ⟨k, a⟩ ⟨hk, ha⟩
 dsimp only at hk ha
 conv => whnf
 refine ifB_i (fun h1 => ?_) (fun h1 => ?_) <;> (conv => whnf) <;> simp at h1
 ·obtain ⟨t, hx⟩ := get_lt h1
  rw [drop_at hx, predL] at ha
  refine idx_at (by simp) hx ?_
  conv => whnf
  refine .inl ⟨_, _, _, impl_EvalTree_spec t row (hs.nodes t (List.mem_of_getElem? hx)) hr, rfl, ?_⟩
  conv => whnf
  refine ⟨(k + 1, wAdd .i64 a (evalL t row)), by dsimp only; omega, ⟨h1, ha⟩, ?_⟩
  ((conv => whnf); simp only [eS, wI h1 (by have := hs.trees; omega)])
 ·obtain rfl : k = m.trees.length := by omega
  simp only [List.drop_length, predL] at ha
  rw [← ha]
theorem spec_Predict_spec (m : Mdl) (row : List Int) (hs : szM m) (hr : row.length ≤ 1048576) : FnSpec PR f_spec_Predict [aM m, aIs row] (tupIB (predictM m row)) [] 0 := by
 have eN : nInt (dLen (eL cS m.names)) = (m.names.length : Int) := by simp
 have eR : nInt (dLen (eL cI row)) = (row.length : Int) := by simp
 refine FnSpec.intro hT (pf Tryz.func249) rfl (by kernel_rfl) Tryz.ntmps249 rfl ?_
 conv => whnf
 refine .inl ⟨_, _, _, spec_ModelOk_spec m hs.names hs.texts hs.signs hs.trees hs.nodes, rfl, ?_⟩
 cases hmo : modelOk m <;> (conv => whnf)
 ·rw [predictM, if_neg (by simp [hmo])]
 rw [eN, eR]
 refine ifB_i (fun h => ?_) (fun h => ?_) <;> (conv => whnf) <;> simp only [eH] at h
 ·rw [predictM, if_neg (by omega)]
 have hlen : row.length = m.names.length := by omega
 have hp : predictM m row = (predL row m.trees m.base, true) := by rw [predictM, if_pos ⟨hmo, hlen⟩]
 rw [hp]
 refine tri_loop hT [1, 2, 6, 7] (α := Nat × Int) (fun x => { t := [(1, aIs row), (2, .c (.ptr 0 0)), (6, ai x.2), (7, ai x.1)], h := [(0, .box t_impl_Model (cM m))], n := 1, N := 38 })
  (fun x => x.1 ≤ m.trees.length ∧ predL row (m.trees.drop x.1) x.2 = predL row m.trees m.base) (fun x => m.trees.length - x.1) (0, m.base) (by ((conv => whnf); simp only [eS])) ⟨Nat.zero_le _, rfl⟩ ?_
 intro ⟨k, a⟩ ⟨hk, ha⟩
 dsimp only at hk ha
 conv => whnf
 refine ifB_i (fun h1 => ?_) (fun h1 => ?_) <;> (conv => whnf) <;> simp at h1
 ·obtain ⟨t, hx⟩ := get_lt h1
  rw [drop_at hx, predL] at ha
  refine idx_at (by simp) hx ?_
  conv => whnf
  refine .inl ⟨_, _, _, spec_EvalTree_spec t row (hs.nodes t (List.mem_of_getElem? hx)) hr, rfl, ?_⟩
  conv => whnf
  refine ⟨(k + 1, wAdd .i64 a (evalL t row)), by dsimp only; omega, ⟨h1, ha⟩, ?_⟩
  ((conv => whnf); simp only [eS, wI h1 (by have := hs.trees; omega)])
 ·obtain rfl : k = m.trees.length := by omega
  simp only [List.drop_length, predL] at ha
  rw [← ha]
end Go.H.S
namespace Go.H.S
open Go Go.Proofs Go.H
attribute [local irreducible] Tri FnSpec FnSpecM FnSpecX FnSpecJ FnSpecB
def toldL (m : Mdl) (rows : List (List Int)) : List Int := rows.map fun r => (predictM m r).1
theorem toldL_len (m : Mdl) (rows : List (List Int)) : (toldL m rows).length = rows.length := by simp [toldL]
theorem toldL_take {m : Mdl} {rows : List (List Int)} {k : Nat} {r : List Int} (h : rows[k]? = some r) : (toldL m rows).take (k + 1) = (toldL m rows).take k ++ [(predictM m r).1] := by
 have : (toldL m rows)[k]? = some (predictM m r).1 := by simp [toldL, h]
 rw [List.take_add_one, this]; rfl
abbrev rpMq (m : Mdl) : AV := .c (.d (.rp [.sl 1 (eL cS m.names), .sl 1 (eL cI m.signs), .int .i64 m.base, .sl 1 (eL cT m.trees)]))
theorem shape_eval2 {t : List Nd} {ft : Int} (h : shapeOk t ft = true) (row : List Int) : -1099511627776 ≤ evalL t row ∧ evalL t row ≤ 1099511627776 :=
 evalL_abs (by decide) fun n hn => by
  obtain ⟨j, hj⟩ := List.getElem?_of_mem hn
  by_cases hf : n.f = -1
  ·exact shape_value h hj hf
  ·have := (shape_kids h hj hf).2.2.1
   omega
theorem predL_abs {row : List Int} {ft : Int} : ∀ (l : List (List Nd)) (a : Int) (k : Nat), (∀ t ∈ l, treeOk t ft = true) → l.length + k ≤ 1000 → -2147483648 - 1099511627776 * (k : Int) ≤ a → a ≤ 2147483648 + 1099511627776 * (k : Int) →
  -2147483648 - 1099511627776 * ((l.length + k : Nat) : Int) ≤ predL row l a ∧ predL row l a ≤ 2147483648 + 1099511627776 * ((l.length + k : Nat) : Int)
 | [], a, k, _, _, h1, h2 => by simp only [predL, List.length_nil, Nat.zero_add]; exact ⟨h1, h2⟩
 | t :: r, a, k, ht, hk, h1, h2 => by
  have h5 := ht t (by simp)
  simp only [treeOk, Bool.and_eq_true, decide_eq_true_eq] at h5
  have he := shape_eval2 h5.2.2.1 row
  simp only [List.length_cons] at hk
  simp only [predL]
  rw [wAdd64 (x := a) (y := evalL t row) (by omega) (by omega)]
  have := predL_abs (row := row) (ft := ft) r (a + evalL t row) (k + 1) (fun t' h' => ht t' (List.mem_cons_of_mem _ h')) (by omega) (by omega) (by omega)
  rw [show r.length + (k + 1) = (t :: r).length + k by simp only [List.length_cons]; omega] at this
  exact this
theorem predictM_abs {m : Mdl} (hm : modelOk m = true) (row : List Int) : -8798240505856 ≤ (predictM m row).1 ∧ (predictM m row).1 ≤ 8798240505856 := by
 unfold predictM
 split
 ·have hm2 := hm
  simp only [modelOk, Bool.and_eq_true, decide_eq_true_eq] at hm2
  have := predL_abs (row := row) m.trees m.base 0 (modelOk_trees hm) (by omega) (by omega) (by omega)
  dsimp only
  omega
 ·dsimp only; omega
set_option maxHeartbeats 4000000 in
theorem spec_PredictAll_spec (m : Mdl) (rows : List (List Int)) (hs : szM m) (hm : modelOk m = true) (hw : ∀ r ∈ rows, r.length = m.names.length) (hl : rows.length ≤ 1000) : FnSpec PR f_spec_PredictAll [aM m, aIss rows] (tupRk (toldL m rows) true) [] 0 := by
 have htl := toldL_len m rows
 have hsn := hs.names
 refine FnSpec.intro hT (pf Tryz.func152) rfl (by kernel_rfl) Tryz.ntmps152 rfl ?_
 conv => whnf
 refine tri_rp 0 ?_
 conv => whnf
 refine tri_loop hT [1, 2, 6, 7] (α := Nat) (fun k => { t := [(1, aIss rows), (2, rpMq m), (6, .c (.ref 0 0 none)), (7, ai k)], h := [(0, .arr t_int 1 0 .own (eL cI ((toldL m rows).take k)))], n := 1, N := 34 })
  (fun k => k ≤ rows.length) (fun k => rows.length - k) 0 (by (conv => whnf); simp only [List.take_zero, eL_nil]; first | done | rfl) (Nat.zero_le _) ?_
 intro k hk
 conv => whnf
 refine ifB_i (fun q => ?_) (fun q => ?_) <;> (conv => whnf) <;> simp only [eH] at q
 ·obtain ⟨r, hr⟩ := get_lt (show k < rows.length by omega)
  have hrw := hw r (List.mem_of_getElem? hr)
  have hpr := spec_Predict_spec m r hs (by omega)
  have hst := toldL_take (m := m) hr
  have hp2 : predictM m r = ((predictM m r).1, true) := by unfold predictM; rw [if_pos ⟨hm, hrw⟩]
  rw [hp2] at hpr
  generalize (predictM m r).1 = p at *
  refine tri_every hT hmix [1, 2, 6, 7, 8, 9] { t := [(1, aIss rows), (2, rpMq m), (6, .c (.ref 0 0 none)), (7, ai k), (8, ai p), (9, ab true)], h := [(0, .arr t_int 1 0 .own (eL cI ((toldL m rows).take k)))], n := 1, N := 34 } rfl ?_ ?_
  ·repeat' first
    | (refine anyV_one rfl ?_; (conv => whnf))
    | (refine anyV_two rfl ?_ ?_ <;> (conv => whnf))
    | (refine anyV_three rfl ?_ ?_ ?_ <;> (conv => whnf))
    | (refine idx_at (k := k) rfl hr ?_; (conv => whnf))
    | (refine .inl ⟨_, _, _, hpr, rfl, ?_⟩; (conv => whnf))
    | (refine anyV_end rfl ?_; (conv => whnf); first | done | rfl)
  conv => whnf
  refine And.intro (by simp [partOf_none, eL_length, dLen_len]; omega) ?_
  conv => whnf
  refine ⟨k + 1, by omega, by omega, ?_⟩
  ((conv => whnf); simp only [eS, wI (show k < rows.length by omega) (by omega)])
  rw [hst, ← eL_app, partOf_none]
  first | done | rfl | exact ⟨rfl, rfl⟩
 ·obtain rfl : k = rows.length := by omega
  rw [← htl, List.take_length]
  simp only [partOf_none]
  first | done | rfl
set_option maxHeartbeats 4000000 in
theorem impl_PredictAll_spec (m : Mdl) (rows : List (List Int)) (hs : szM m) (hm : modelOk m = true) (hw : ∀ r ∈ rows, r.length = m.names.length) (hl : rows.length ≤ 1000) : FnSpec PR f_impl_PredictAll [aM m, aIss rows] (tupRk (toldL m rows) true) [] 0 := by
 have htl := toldL_len m rows
 have hsn := hs.names
 have eR : nInt (dLen (eL cIs rows)) = (rows.length : Int) := by simp
 refine FnSpec.intro hT (pf Tryz.func156) rfl (by kernel_rfl) Tryz.ntmps156 rfl ?_
 conv => whnf
 refine tri_rp 0 ?_
 conv => whnf
 refine tri_loop hT [2, 6, 12, 13, 14] (α := Nat) (fun k => { t := [(2, rpMq m), (6, .c (.ref 0 0 none)), (12, aIss rows), (13, ai rows.length), (14, ai k)], h := [(0, .arr t_int 1 0 .own (eL cI ((toldL m rows).take k)))], n := 1, N := 32 })
  (fun k => k ≤ rows.length) (fun k => rows.length - k) 0 (by (conv => whnf); simp only [List.take_zero, eL_nil]; first | done | rfl | (rw [eR]; rfl)) (Nat.zero_le _) ?_
 intro k hk
 conv => whnf
 refine ifB_i (fun q => ?_) (fun q => ?_) <;> (conv => whnf) <;> simp only [eH] at q
 ·obtain ⟨r, hr⟩ := get_lt (show k < rows.length by omega)
  have hrw := hw r (List.mem_of_getElem? hr)
  have hpr := impl_Predict_spec m r hs (by omega)
  have hst := toldL_take (m := m) hr
  have hp2 : predictM m r = ((predictM m r).1, true) := by unfold predictM; rw [if_pos ⟨hm, hrw⟩]
  rw [hp2] at hpr
  generalize (predictM m r).1 = p at *
  refine idx_at (by simp) hr ?_
  conv => whnf
  refine .inl ⟨_, _, _, hpr, rfl, ?_⟩
  conv => whnf
  refine And.intro (by simp [partOf_none, eL_length, dLen_len]; omega) ?_
  conv => whnf
  refine ⟨k + 1, by omega, by omega, ?_⟩
  ((conv => whnf); simp only [eS, wI (show k < rows.length by omega) (by omega)])
  rw [hst, ← eL_app, partOf_none]
  first | done | rfl | exact ⟨rfl, rfl⟩
 ·obtain rfl : k = rows.length := by omega
  rw [← htl, List.take_length]
  simp only [partOf_none]
  first | done | rfl
theorem selL_same {α β : Type} (p : Nat → Bool) : ∀ (a : List α) (b : List β) (j : Nat), a.length = b.length → (selL p a j).length = (selL p b j).length
 | [], [], _, _ => rfl
 | [], y :: b, _, h => by simp at h
 | x :: a, [], _, h => by simp at h
 | x :: a, y :: b, j, h => by
  have := selL_same p a b (j + 1) (by simpa using h)
  simp only [selL]
  split <;> simp [this]
theorem foldA_sz {t : Tbl} (hz : szT t) (k i : Nat) : szT (foldA t k i) :=
 ⟨hz.n, hz.ns, hz.tg, Nat.le_trans (selL_len _ _ _) hz.r, fun r hr => hz.c r (selL_mem hr), Nat.le_trans (selL_len _ _ _) hz.y⟩
noncomputable def foldM (t : Tbl) (c : Cfg) (k i : Nat) : Mdl := (trainR (foldA t k i) c).1
noncomputable def lossF (t : Tbl) (c : Cfg) (k i : Nat) : Int := sqS (resL (foldB t k i).ys (toldL (foldM t c k i) (foldB t k i).rows))
def foldOk (t : Tbl) (c : Cfg) (k i : Nat) : Prop := (trainR (foldA t k i) c).2 = true ∧ (foldB t k i).rows.length ≠ 0
noncomputable def foldR (t : Tbl) (c : Cfg) (k : Int) : List Int × Bool := @ite _ (tableOk t = true ∧ (2 ≤ k ∧ k ≤ 40) ∧ ∀ i, i < k.toNat → foldOk t c k.toNat i) (Classical.propDecidable _) (lossN (lossF t c k.toNat) k.toNat, true) ([], false)
theorem foldR_yes {t : Tbl} {c : Cfg} {k : Int} (h : tableOk t = true ∧ (2 ≤ k ∧ k ≤ 40) ∧ ∀ i, i < k.toNat → foldOk t c k.toNat i) : foldR t c k = (lossN (lossF t c k.toNat) k.toNat, true) := by unfold foldR; exact @if_pos _ (Classical.propDecidable _) h _ _ _
theorem foldR_no {t : Tbl} {c : Cfg} {k : Int} (h : ¬ (tableOk t = true ∧ (2 ≤ k ∧ k ≤ 40) ∧ ∀ i, i < k.toNat → foldOk t c k.toNat i)) : foldR t c k = ([], false) := by unfold foldR; exact @if_neg _ (Classical.propDecidable _) h _ _ _
theorem foldR_len (t : Tbl) (c : Cfg) (k : Int) : (foldR t c k).1.length ≤ 40 := by
 rcases Classical.em (tableOk t = true ∧ (2 ≤ k ∧ k ≤ 40) ∧ ∀ i, i < k.toNat → foldOk t c k.toNat i) with h | h
 ·rw [foldR_yes h, lossN_len]; omega
 ·rw [foldR_no h]; simp
end Go.H.S
namespace Go.H.S
open Go Go.Proofs Go.H
attribute [local irreducible] Tri FnSpec FnSpecM FnSpecX FnSpecJ FnSpecB
structure trainedP (t : Tbl) (c : Cfg) (m : Mdl) : Prop where
 tok : tableOk t = true
 tv : tabV t
 cfg : cfgP c
 names : m.names = t.names
 signs : m.signs = c.signs
 base : m.base = baseL t.ys
 trees : m.trees = (boostT t c).2
 ok : modelOk m = true
theorem trained_of {t : Tbl} {c : Cfg} {m : Mdl} (h : trainR t c = (m, true)) : trainedP t c m := by
 unfold trainR at h
 split at h
 ·rename_i q
  unfold modelR at h
  split at h
  ·rename_i q2
   have e := (Prod.mk.inj h).1
   subst e
   exact ⟨q.1, tableOk_v q.1, cfgOk_iff.1 q.2, rfl, rfl, rfl, rfl, q2⟩
  ·exact absurd (Prod.mk.inj h).2 (by decide)
 ·exact absurd (Prod.mk.inj h).2 (by decide)
end Go.H.S
namespace Go.H.S
open Go Go.Proofs Go.H
attribute [local irreducible] Tri FnSpec FnSpecM FnSpecX FnSpecJ FnSpecB
theorem trained_sz {t : Tbl} {c : Cfg} {m : Mdl} (hz : szT t) (hp : trainedP t c m) : szM m := by
 obtain ⟨⟨hb, hbb⟩, hn, hn1, hn8⟩ := cfg_nats hp.cfg
 refine ⟨by rw [hp.names]; exact hz.n, by rw [hp.names]; exact hz.ns, by rw [hp.signs]; have := hp.cfg.2.2.2.2; omega, ?_, ?_⟩
 ·rw [hp.trees]; unfold boostT; rw [trainK_trees]; omega
 ·rw [hp.trees]; intro x hx; have := train_tlen hp.tv hbb hp.cfg hn8 x hx; omega
structure foldP (t : Tbl) (k i : Nat) (m : Mdl) : Prop where
 sz : szM m
 ok : modelOk m = true
 wide : ∀ r ∈ (foldB t k i).rows, r.length = m.names.length
 rows : (foldB t k i).rows.length ≤ 40
 same : (foldB t k i).ys.length = (toldL m (foldB t k i).rows).length
 ys : ∀ y ∈ (foldB t k i).ys, -2147483647 ≤ y ∧ y ≤ 2147483647
 told : ∀ p ∈ toldL m (foldB t k i).rows, -1152921504606846976 ≤ p ∧ p ≤ 1152921504606846976
 res : ∀ x ∈ resL (foldB t k i).ys (toldL m (foldB t k i).rows), -17592186044416 ≤ x ∧ x ≤ 17592186044416
theorem fold_facts {t : Tbl} {c : Cfg} {k i : Nat} (hz : szT t) (ht : tableOk t = true) {m : Mdl} (h : trainR (foldA t k i) c = (m, true)) : foldP t k i m := by
 have hv := tableOk_v ht
 have hp := trained_of h
 have hsm := trained_sz (foldA_sz hz k i) hp
 have hnm : m.names = t.names := hp.names
 have hrl : (foldB t k i).rows.length ≤ t.rows.length := selL_len _ _ _
 have hr40 := hv.r40
 have hsame : (foldB t k i).ys.length = (foldB t k i).rows.length := selL_same _ _ _ _ hv.yl
 have hys : ∀ y ∈ (foldB t k i).ys, -2147483647 ≤ y ∧ y ≤ 2147483647 := fun y hy => hv.yv y (selL_mem hy)
 have htold : ∀ p ∈ toldL m (foldB t k i).rows, -8798240505856 ≤ p ∧ p ≤ 8798240505856 := fun p hp2 => by
  simp only [toldL, List.mem_map] at hp2
  obtain ⟨r, _, rfl⟩ := hp2
  exact predictM_abs hp.ok r
 refine ⟨hsm, hp.ok, fun r hr => by rw [hnm]; exact hv.cols r (selL_mem hr), by omega, by rw [toldL_len]; exact hsame, hys, fun p hp2 => by have := htold p hp2; omega, fun x hx => ?_⟩
 obtain ⟨j, hj⟩ := List.getElem?_of_mem hx
 rw [resL, List.getElem?_zipWith] at hj
 cases h1 : (foldB t k i).ys[j]? with
 | none => rw [h1] at hj; simp at hj
 | some y =>
  cases h2 : (toldL m (foldB t k i).rows)[j]? with
  | none => rw [h1, h2] at hj; simp at hj
  | some p =>
   rw [h1, h2] at hj
   simp at hj
   have a := hys y (List.mem_of_getElem? h1)
   have b := htold p (List.mem_of_getElem? h2)
   omega
set_option maxHeartbeats 8000000 in
theorem spec_FoldLoss_spec (t : Tbl) (c : Cfg) (k : Int) (hz : szT t) (hcl : c.signs.length ≤ 1048576) : FnSpec PR f_spec_FoldLoss [aTb t, aCf c, ai k] (tupVs (foldR t c k).2) [(0, .arr t_impl_Wide 3 0 .own (eL cVd (foldR t c k).1))] 1 := by
 refine FnSpec.intro hT (pf Tryz.func60) rfl (by kernel_rfl) Tryz.ntmps60 rfl ?_
 conv => whnf
 refine .inl ⟨_, _, _, spec_TableOk_spec t hz.n hz.ns hz.tg hz.r hz.c hz.y, rfl, ?_⟩
 cases ht : tableOk t with
 | false =>
  conv => whnf
  rw [foldR_no (by rw [ht]; simp), eL_nil]
  first | done | rfl
 | true =>
  conv => whnf
  refine .inl ⟨_, _, _, spec_l1In_spec _ _ _, rfl, ?_⟩
  by_cases hk : 2 ≤ k ∧ k ≤ 40
  ·rw [decide_eq_true hk]
   obtain ⟨n, rfl⟩ : ∃ n : Nat, k = n := ⟨k.toNat, by omega⟩
   have hv := tableOk_v ht
   conv => whnf
   refine tri_rp 0 ?_
   conv => whnf
   refine tri_rp 1 ?_
   conv => whnf
   refine tri_loop hT [2, 3, 4, 8, 9] (α := Nat) (fun i => { t := [(2, ai n), (3, rpTb t), (4, rpCf c), (8, .c (.ref 0 0 none)), (9, ai i)], h := [(0, .arr t_impl_Wide 3 0 .own (eL cVd (lossN (lossF t c n) i)))], n := 1, N := 81 })
    (fun i => i ≤ n ∧ ∀ j, j < i → foldOk t c n j) (fun i => n - i) 0 (by (conv => whnf); rw [show lossN (lossF t c n) 0 = [] from rfl, eL_nil]; first | done | rfl) ⟨Nat.zero_le _, fun j hj => by omega⟩ ?_
   intro i ⟨hi, hall⟩
   have hll := lossN_len (lossF t c n) i
   conv => whnf
   refine ifB_i (fun q => ?_) (fun q => ?_) <;> (conv => whnf) <;> simp only [eH] at q
   ·have hin : i < n := by omega
    refine .inl ⟨_, _, _, spec_FoldOf_d t n i (by omega) hin hz ht, rfl, ?_⟩
    have htm := spec_TrainModel_spec (foldA t n i) c (foldA_sz hz n i) hcl
    have hff := fun m => @fold_facts t c n i hz ht m
    have hfo : foldOk t c n i ↔ ((trainR (foldA t n i) c).2 = true ∧ (foldB t n i).rows.length ≠ 0) := Iff.rfl
    have hlf : lossF t c n i = sqS (resL (foldB t n i).ys (toldL (trainR (foldA t n i) c).1 (foldB t n i).rows)) := rfl
    generalize trainR (foldA t n i) c = r at *
    obtain ⟨m, ok⟩ := r
    conv => whnf
    refine .inl ⟨_, _, _, htm, rfl, ?_⟩
    cases ok with
    | false =>
     conv => whnf
     rw [foldR_no (fun h => by have := hfo.1 (h.2.2 i (by omega)); exact absurd this.1 (by simp)), eL_nil]
     first | done | rfl
    | true =>
     have hp := hff m rfl
     conv => whnf
     rw [show nInt (dLen (eL cIs (foldB t n i).rows)) = ((foldB t n i).rows.length : Int) by simp]
     by_cases hr0 : (foldB t n i).rows.length = 0
     ·rw [show iEq ((foldB t n i).rows.length : Int) 0 = true from decide_eq_true (by omega)]
      conv => whnf
      rw [foldR_no (fun h => by have := hfo.1 (h.2.2 i (by omega)); exact this.2 hr0), eL_nil]
      first | done | rfl
     ·rw [show iEq ((foldB t n i).rows.length : Int) 0 = false from decide_eq_false (by omega)]
      conv => whnf
      refine .inl ⟨_, _, _, spec_PredictAll_spec m (foldB t n i).rows hp.sz hp.ok hp.wide (by have := hp.rows; omega), rfl, ?_⟩
      conv => whnf
      have hys := hp.same
      rw [toldL_len] at hys
      have hrr := hp.rows
      refine .inl ⟨_, _, _, spec_Residuals_spec (foldB t n i).ys (toldL m (foldB t n i).rows) hp.same (by omega) hp.ys hp.told, rfl, ?_⟩
      conv => whnf
      have hrl := resL_len hp.same
      refine .inl ⟨_, _, _, spec_LossOf_44 (resL (foldB t n i).ys (toldL m (foldB t n i).rows)) (by omega) hp.res, rfl, ?_⟩
      rw [← hlf]
      conv => whnf
      refine And.intro (by simp [partOf_none, eL_length, dLen_len]; omega) ?_
      conv => whnf
      refine ⟨i + 1, by omega, ⟨by omega, fun j hj => ?_⟩, ?_⟩
      ·rcases Nat.lt_or_ge j i with q2 | q2
       ·exact hall j q2
       ·obtain rfl : j = i := by omega
        exact hfo.2 ⟨rfl, hr0⟩
      ·((conv => whnf); simp only [eS, wI hin (by omega)])
       rw [lossN_succ, ← eL_app]
       simp only [partOf_none]
       first | done | rfl | exact ⟨rfl, rfl⟩
   ·obtain rfl : i = n := by omega
    rw [foldR_yes ⟨ht, hk, hall⟩]
    first | done | rfl
  ·rw [decide_eq_false hk]
   conv => whnf
   rw [foldR_no (fun h => hk h.2.1), eL_nil]
   first | done | rfl
set_option maxHeartbeats 8000000 in
theorem impl_FoldLoss_spec (t : Tbl) (c : Cfg) (k : Int) (hz : szT t) (hcl : c.signs.length ≤ 1048576) : FnSpec PR f_impl_FoldLoss [aTb t, aCf c, ai k] (tupVs (foldR t c k).2) [(0, .arr t_impl_Wide 3 0 .own (eL cVd (foldR t c k).1))] 1 := by
 refine FnSpec.intro hT (pf Tryz.func61) rfl (by kernel_rfl) Tryz.ntmps61 rfl ?_
 conv => whnf
 refine .inl ⟨_, _, _, impl_TableOk_spec t hz, rfl, ?_⟩
 cases ht : tableOk t with
 | false =>
  conv => whnf
  rw [foldR_no (by rw [ht]; simp), eL_nil]
  first | done | rfl
 | true =>
  conv => whnf
  refine .inl ⟨_, _, _, impl_within_spec _ _ _, rfl, ?_⟩
  by_cases hk : 2 ≤ k ∧ k ≤ 40
  ·rw [decide_eq_true hk]
   obtain ⟨n, rfl⟩ : ∃ n : Nat, k = n := ⟨k.toNat, by omega⟩
   have hv := tableOk_v ht
   conv => whnf
   refine tri_rp 0 ?_
   conv => whnf
   refine tri_rp 1 ?_
   conv => whnf
   refine tri_loop hT [2, 3, 4, 8, 28, 29] (α := Nat) (fun i => { t := [(2, ai n), (3, rpTb t), (4, rpCf c), (8, .c (.ref 0 0 none)), (28, ai n), (29, ai i)], h := [(0, .arr t_impl_Wide 3 0 .own (eL cVd (lossN (lossF t c n) i)))], n := 1, N := 80 })
    (fun i => i ≤ n ∧ ∀ j, j < i → foldOk t c n j) (fun i => n - i) 0 (by (conv => whnf); rw [show lossN (lossF t c n) 0 = [] from rfl, eL_nil]; first | done | rfl) ⟨Nat.zero_le _, fun j hj => by omega⟩ ?_
   intro i ⟨hi, hall⟩
   have hll := lossN_len (lossF t c n) i
   conv => whnf
   refine ifB_i (fun q => ?_) (fun q => ?_) <;> (conv => whnf) <;> simp only [eH] at q
   ·have hin : i < n := by omega
    refine .inl ⟨_, _, _, impl_FoldOf_d t n i (by omega) hin hz ht, rfl, ?_⟩
    have htm := impl_TrainModel_spec (foldA t n i) c (foldA_sz hz n i) hcl
    have hff := fun m => @fold_facts t c n i hz ht m
    have hfo : foldOk t c n i ↔ ((trainR (foldA t n i) c).2 = true ∧ (foldB t n i).rows.length ≠ 0) := Iff.rfl
    have hlf : lossF t c n i = sqS (resL (foldB t n i).ys (toldL (trainR (foldA t n i) c).1 (foldB t n i).rows)) := rfl
    generalize trainR (foldA t n i) c = r at *
    obtain ⟨m, ok⟩ := r
    conv => whnf
    refine .inl ⟨_, _, _, htm, rfl, ?_⟩
    cases ok with
    | false =>
     conv => whnf
     rw [foldR_no (fun h => by have := hfo.1 (h.2.2 i (by omega)); exact absurd this.1 (by simp)), eL_nil]
     first | done | rfl
    | true =>
     have hp := hff m rfl
     conv => whnf
     rw [show nInt (dLen (eL cIs (foldB t n i).rows)) = ((foldB t n i).rows.length : Int) by simp]
     by_cases hr0 : (foldB t n i).rows.length = 0
     ·rw [show iEq ((foldB t n i).rows.length : Int) 0 = true from decide_eq_true (by omega)]
      conv => whnf
      rw [foldR_no (fun h => by have := hfo.1 (h.2.2 i (by omega)); exact this.2 hr0), eL_nil]
      first | done | rfl
     ·rw [show iEq ((foldB t n i).rows.length : Int) 0 = false from decide_eq_false (by omega)]
      conv => whnf
      refine .inl ⟨_, _, _, impl_PredictAll_spec m (foldB t n i).rows hp.sz hp.ok hp.wide (by have := hp.rows; omega), rfl, ?_⟩
      conv => whnf
      have hys := hp.same
      rw [toldL_len] at hys
      have hrr := hp.rows
      refine .inl ⟨_, _, _, impl_Residuals_spec (foldB t n i).ys (toldL m (foldB t n i).rows) hp.same (by omega) hp.ys hp.told, rfl, ?_⟩
      conv => whnf
      have hrl := resL_len hp.same
      refine .inl ⟨_, _, _, impl_LossOf_44 (resL (foldB t n i).ys (toldL m (foldB t n i).rows)) (by omega) hp.res, rfl, ?_⟩
      rw [← hlf]
      conv => whnf
      refine And.intro (by simp [partOf_none, eL_length, dLen_len]; omega) ?_
      conv => whnf
      refine ⟨i + 1, by omega, ⟨by omega, fun j hj => ?_⟩, ?_⟩
      ·rcases Nat.lt_or_ge j i with q2 | q2
       ·exact hall j q2
       ·obtain rfl : j = i := by omega
        exact hfo.2 ⟨rfl, hr0⟩
      ·((conv => whnf); simp only [eS, wI hin (by omega)])
       rw [lossN_succ, ← eL_app]
       simp only [partOf_none]
       first | done | rfl | exact ⟨rfl, rfl⟩
   ·obtain rfl : i = n := by omega
    rw [foldR_yes ⟨ht, hk, hall⟩]
    first | done | rfl
  ·rw [decide_eq_false hk]
   conv => whnf
   rw [foldR_no (fun h => hk h.2.1), eL_nil]
   first | done | rfl
end Go.H.S
