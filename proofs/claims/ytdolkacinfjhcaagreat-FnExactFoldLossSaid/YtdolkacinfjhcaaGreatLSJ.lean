/- Library, part SF: training (the reference's). -/
import Derived.Test.YtdolkacinfjhcaaGreatLSG
import Derived.Test.YtdolkacinfjhcaaGreatLPL
import Derived.Test.YtdolkacinfjhcaaGreatLNC
set_option maxRecDepth 100000
set_option linter.unusedSimpArgs false
set_option linter.unusedVariables false
namespace Go.H.S
open Go Go.Proofs Go.H
attribute [local irreducible] Tri FnSpec FnSpecM FnSpecX FnSpecJ FnSpecB
abbrev rpSt (ps : List Int) (ts : List (List Nd)) : AV := .c (.d (.rp [.sl 1 (eL cI ps), .sl 1 (eL cT ts)]))
abbrev tupMB (x : Mdl × Bool) : AV := .tup [(true, cM x.1), (false, [.d (.bool x.2)])]
def emptyM : Mdl := ⟨[], [], 0, []⟩
def modelOf (t : Tbl) (c : Cfg) (ts : List (List Nd)) : Mdl := ⟨t.names, c.signs, baseL t.ys, ts⟩
def modelR (t : Tbl) (c : Cfg) (ts : List (List Nd)) : Mdl × Bool := if modelOk (modelOf t c ts) = true then (modelOf t c ts, true) else (emptyM, false)
def boostT (t : Tbl) (c : Cfg) : List Int × List (List Nd) := trainK t c (gridT t c.bins.toNat) c.rounds.toNat
noncomputable def trainR (t : Tbl) (c : Cfg) : Mdl × Bool := if tableOk t = true ∧ cfgOk c = true then modelR t c (boostT t c).2 else (emptyM, false)
theorem cfg_nats {c : Cfg} (hc : cfgP c) : (c.bins = (c.bins.toNat : Int) ∧ 2 ≤ c.bins.toNat ∧ c.bins.toNat ≤ 8) ∧ c.rounds = (c.rounds.toNat : Int) ∧ 1 ≤ c.rounds.toNat ∧ c.rounds.toNat ≤ 8 := by
 have := (cfg_five c).1 hc.1
 omega
theorem train_tlen {t : Tbl} {c : Cfg} {b : Nat} (hv : tabV t) (hb : 2 ≤ b ∧ b ≤ 8) (hc : cfgP c) {k : Nat} (hk : k ≤ 8) : ∀ x ∈ (trainK t c (gridT t b) k).2, x.length ≤ 31 := by
 intro x hx
 obtain ⟨i, hi⟩ := List.getElem?_of_mem hx
 have hik : i < k := by have := (List.getElem?_eq_some_iff.1 hi).1; rw [trainK_trees] at this; exact this
 obtain rfl := Option.some.inj ((trainK_at t c _ k i hik).symm.trans hi)
 simp only [shrT, List.length_map]
 exact (grown_shape (train_tk hv hb hc (k := i) (by omega))).2.2
set_option maxHeartbeats 4000000 in
theorem spec_Boost_no (t : Tbl) (c : Cfg) (hz : szT t) (hcl : c.signs.length ≤ 1048576) (h : ¬ (tableOk t = true ∧ cfgOk c = true)) : FnSpec PR f_spec_Boost [aTb t, aCf c] (tupSt [] [] false) [] 0 := by
 refine FnSpec.intro hT (pf Tryz.func142) rfl (by kernel_rfl) Tryz.ntmps142 rfl ?_
 conv => whnf
 cases ht : tableOk t with
 | false =>
  refine .inl ⟨_, _, _, spec_StateNew_no t hz ht, rfl, ?_⟩
  conv => whnf
  simp only [tupSt, cSt, eL_nil]
  first | done | rfl
 | true =>
  have hc : cfgOk c = false := by cases q : cfgOk c with | true => exact absurd ⟨ht, q⟩ h | false => rfl
  refine .inl ⟨_, _, _, spec_StateNew_spec t hz ht, rfl, ?_⟩
  conv => whnf
  refine .inl ⟨_, _, _, spec_ConfigOk_spec c hcl, rfl, ?_⟩
  rw [hc]
  conv => whnf
  simp only [tupSt, cSt, eL_nil]
  first | done | rfl
set_option maxHeartbeats 4000000 in
theorem spec_Boost_of (t : Tbl) (c : Cfg) (g : Grd) (P : Nat → List Int) (T : Nat → List (List Nd)) (n : Nat) (hc : cfgOk c = true) (hcl : c.signs.length ≤ 1048576) (hn : c.rounds = n) (hn8 : n ≤ 8) (hgrid : FnSpec PR f_spec_GridOf [aTb t, ai c.bins] (aG g) [] 0) (hnew : FnSpec PR f_spec_StateNew [aTb t] (tupSt (P 0) (T 0) true) [] 0)
  (hround : ∀ k, k < n → FnSpec PR f_spec_RoundOf [aTb t, aG g, aCf c, aSt (P k) (T k)] (tupSt (P (k + 1)) (T (k + 1)) true) [] 0) : FnSpec PR f_spec_Boost [aTb t, aCf c] (tupSt (P n) (T n) true) [] 0 := by
 refine FnSpec.intro hT (pf Tryz.func142) rfl (by kernel_rfl) Tryz.ntmps142 rfl ?_
 conv => whnf
 refine .inl ⟨_, _, _, hnew, rfl, ?_⟩
 conv => whnf
 refine .inl ⟨_, _, _, spec_ConfigOk_spec c hcl, rfl, ?_⟩
 rw [hc]
 conv => whnf
 refine .inl ⟨_, _, _, hgrid, rfl, ?_⟩
 conv => whnf
 refine tri_rp 0 ?_
 conv => whnf
 refine tri_rp 1 ?_
 conv => whnf
 refine tri_rp 4 ?_
 conv => whnf
 refine tri_loop hT [2, 3, 4, 6, 8, 9] (α := Nat) (fun k => { t := [(2, rpTb t), (3, rpCf c), (4, .c (.ptr 0 0)), (6, .c (.ptr 1 0)), (8, rpG g), (9, ai k)], h := [(0, .box t_impl_State [.nl 1, .nl 1]), (1, .box t_impl_State (cSt (P k) (T k)))], n := 2, N := 48 })
  (fun k => k ≤ n) (fun k => n - k) 0 (by (conv => whnf); first | done | rfl) (Nat.zero_le _) ?_
 intro k hk
 conv => whnf
 refine ifB_i (fun q => ?_) (fun q => ?_) <;> (conv => whnf) <;> simp [iLt, hn] at q
 ·refine .inl ⟨_, _, _, hround k q, rfl, ?_⟩
  conv => whnf
  refine ⟨k + 1, by omega, by omega, ?_⟩
  ((conv => whnf); simp only [eS, wI (show k < n by omega) (by omega)])
  first | done | rfl | exact ⟨rfl, rfl⟩
 ·obtain rfl : k = n := by omega
  first | done | rfl
theorem spec_Boost_yes (t : Tbl) (c : Cfg) (hz : szT t) (ht : tableOk t = true) (hco : cfgOk c = true) : FnSpec PR f_spec_Boost [aTb t, aCf c] (tupSt (boostT t c).1 (boostT t c).2 true) [] 0 := by
 have hv := tableOk_v ht
 have hc := cfgOk_iff.1 hco
 obtain ⟨⟨hb, hbb⟩, hn, hn1, hn8⟩ := cfg_nats hc
 have hgrid := spec_GridOf_d t c.bins.toNat hbb ht hz.n hz.ns hz.tg hz.r hz.c hz.y
 rw [← hb] at hgrid
 refine spec_Boost_of t c (gridT t c.bins.toNat) (fun k => (trainK t c (gridT t c.bins.toNat) k).1) (fun k => (trainK t c (gridT t c.bins.toNat) k).2) c.rounds.toNat hco (by have := hc.2.2.2.2; omega) hn hn8 hgrid (spec_StateNew_spec t hz ht) fun k hk => ?_
 have htk := train_tk hv hbb hc (k := k) (by omega)
 exact spec_RoundOf_spec t c.bins.toNat c _ _ (growL (gridT t c.bins.toNat) (resL t.ys (trainK t c (gridT t c.bins.toNat) k).1) c) hz ht hc hb hbb (gridT_sm hv hbb.2) (trainK_len hv.yl k) (fun p hp => by have := train_preds hv hbb hc (k := k) (by omega) p hp; omega)
  (by rw [trainK_trees]; omega) (fun x hx => by have := train_tlen hv hbb hc (k := k) (by omega) x hx; omega) htk (grown_len htk) (grown_leafP htk) rfl (fun r => by have := round_abs htk r; omega)
set_option maxHeartbeats 4000000 in
theorem spec_ModelFrom_spec (t : Tbl) (c : Cfg) (ps : List Int) (ts : List (List Nd)) (hz : szT t) (ht : tableOk t = true) (hc : cfgOk c = true) (hcl : c.signs.length ≤ 1048576) (hts : ts.length ≤ 1000) (htl : ∀ x ∈ ts, x.length ≤ 1000) :
  FnSpec PR f_spec_ModelFrom [aTb t, aCf c, aSt ps ts] (tupMB (modelR t c ts)) [] 0 := by
 have hv := tableOk_v ht
 have hzn := hz.n
 have hok := spec_ModelOk_spec (modelOf t c ts) hz.n hz.ns hcl (by show ts.length ≤ _; omega) (fun x hx => by have := htl x hx; omega)
 unfold modelR
 unfold modelOf at hok ⊢
 refine FnSpec.intro hT (pf Tryz.func143) rfl (by kernel_rfl) Tryz.ntmps143 rfl ?_
 conv => whnf
 refine .inl ⟨_, _, _, spec_TableOk_spec t hz.n hz.ns hz.tg hz.r hz.c hz.y, rfl, ?_⟩
 rw [ht]
 conv => whnf
 refine .inl ⟨_, _, _, spec_ConfigOk_spec c hcl, rfl, ?_⟩
 rw [hc]
 conv => whnf
 refine .inl ⟨_, _, _, spec_BaseOf_spec t.ys (by have := hv.yl; have := hv.r1; omega) (by have := hv.yl; have := hv.r40; omega) hv.yv, rfl, ?_⟩
 conv => whnf
 refine tri_rp 0 ?_
 conv => whnf
 refine tri_rp 1 ?_
 conv => whnf
 refine tri_rp 2 ?_
 conv => whnf
 refine tri_every hT hmix [6, 10] { t := [(6, .c (.ptr 0 0)), (10, .c (.ptr 1 0))], h := [(0, .box t_impl_Model [.nl 1, .nl 1, .d (.int .i64 0), .nl 1]), (1, .box t_impl_Model [.ref 2 0 none, .ref 3 0 none, .d (.int .i64 (baseL t.ys)), .ref 4 0 none]), (2, .arr t_string 1 0 .own (eL cS t.names)), (3, .arr t_int 1 0 .own (eL cI c.signs)), (4, .arr t_impl_Tree 1 0 .own (eL cT ts))], n := 5, N := 44 } rfl ?_ ?_
 ·repeat' first
   | (refine anyV_one rfl ?_; (conv => whnf))
   | (refine anyV_two rfl ?_ ?_ <;> (conv => whnf))
   | (refine anyV_three rfl ?_ ?_ ?_ <;> (conv => whnf))
   | (refine anyV_four rfl ?_ ?_ ?_ ?_ <;> (conv => whnf))
   | (refine .inl ⟨_, _, _, spec_l22Trees_d ts (by omega) (fun x hx => by have := htl x hx; omega), rfl, ?_⟩; (conv => whnf))
   | (refine And.intro (by simp [eL_length, dLen_len]; first | done | omega) ?_; (conv => whnf))
   | (refine anyV_end rfl ?_; (conv => whnf); simp only [dApp_nil, partOf_none]; first | done | rfl)
 conv => whnf
 refine .inl ⟨_, _, _, hok, rfl, ?_⟩
 cases hq : modelOk { names := t.names, signs := c.signs, base := baseL t.ys, trees := ts } with
 | true =>
  conv => whnf
  rw [if_pos rfl]
  first | done | rfl
 | false =>
  conv => whnf
  rw [if_neg (by decide)]
  simp only [emptyM, tupMB, cM, eL_nil]
  first | done | rfl
set_option maxHeartbeats 4000000 in
theorem spec_TrainModel_spec (t : Tbl) (c : Cfg) (hz : szT t) (hcl : c.signs.length ≤ 1048576) : FnSpec PR f_spec_TrainModel [aTb t, aCf c] (tupMB (trainR t c)) [] 0 := by
 by_cases h : tableOk t = true ∧ cfgOk c = true
 ·unfold trainR
  rw [if_pos h]
  have hv := tableOk_v h.1
  have hc := cfgOk_iff.1 h.2
  obtain ⟨⟨hb, hbb⟩, hn, hn1, hn8⟩ := cfg_nats hc
  have hbst := spec_Boost_yes t c hz h.1 h.2
  have hmf := spec_ModelFrom_spec t c (boostT t c).1 (boostT t c).2 hz h.1 h.2 hcl (by unfold boostT; rw [trainK_trees]; omega) (fun x hx => by have := train_tlen hv hbb hc hn8 x hx; omega)
  generalize modelR t c (boostT t c).2 = r at *
  generalize boostT t c = x at *
  refine FnSpec.intro hT (pf Tryz.func55) rfl (by kernel_rfl) Tryz.ntmps55 rfl ?_
  conv => whnf
  refine .inl ⟨_, _, _, hbst, rfl, ?_⟩
  conv => whnf
  refine .inl ⟨_, _, _, hmf, rfl, ?_⟩
  conv => whnf
  first | done | rfl
 ·unfold trainR
  rw [if_neg h]
  have hbst := spec_Boost_no t c hz hcl h
  refine FnSpec.intro hT (pf Tryz.func55) rfl (by kernel_rfl) Tryz.ntmps55 rfl ?_
  conv => whnf
  refine .inl ⟨_, _, _, hbst, rfl, ?_⟩
  conv => whnf
  simp only [emptyM, tupMB, cM, eL_nil]
  first | done | rfl
end Go.H.S
namespace Go.H.S
open Go Go.Proofs Go.H
attribute [local irreducible] Tri FnSpec FnSpecM FnSpecX FnSpecJ FnSpecB
def decBad (x : Int) : Bool := bNot (decide (-2147483647 ≤ x ∧ x ≤ 2147483647))
def rowBad (n : Nat) (r : List Int) : Bool := if decide (r.length = n) then r.any decBad else true
def tblBad (t : Tbl) : Bool := !(decide (1 ≤ (t.names.length : Int) ∧ (t.names.length : Int) ≤ 4) && (namesL (t.names ++ [t.target]) (t.names ++ [t.target]) 0 && (decide (1 ≤ (t.rows.length : Int) ∧ (t.rows.length : Int) ≤ 40) && (decide (t.ys.length = t.rows.length) && !t.ys.any decBad))))
theorem decBad_ok (x : Int) : decBad x = !valOk x := by
 unfold decBad valOk
 cases decide (-2147483647 ≤ x ∧ x ≤ 2147483647) <;> rfl
theorem any_bad (l : List Int) : l.any decBad = !l.all valOk := by
 induction l with
 | nil => rfl
 | cons x r ih => rw [List.any_cons, List.all_cons, ih, decBad_ok, Bool.not_and]
theorem rowBad_ok (n : Nat) (r : List Int) : rowBad n r = !(decide (r.length = n) && r.all valOk) := by
 unfold rowBad
 rw [any_bad]
 cases decide (r.length = n) <;> simp
theorem namesL_snoc (x : ByteArray) (all : List ByteArray) : ∀ (l : List ByteArray) (k : Nat), k + l.length ≤ all.length → namesL (all ++ [x]) (l ++ [x]) k = (namesL all l k && (nameOk x && !hasS x ((all ++ [x]).take (k + l.length))))
 | [], k, _ => by simp [namesL]
 | s :: r, k, h => by
  simp only [List.length_cons] at h
  simp only [List.cons_append, namesL]
  rw [namesL_snoc x all r (k + 1) (by omega), List.take_append_of_le_length (by omega), List.length_cons, show k + 1 + r.length = k + (r.length + 1) by omega]
  simp only [Bool.and_assoc]
theorem namesL_target (t : Tbl) : namesL (t.names ++ [t.target]) (t.names ++ [t.target]) 0 = (namesL t.names t.names 0 && (nameOk t.target && !hasS t.target t.names)) := by
 rw [namesL_snoc t.target t.names t.names 0 (by omega), Nat.zero_add, List.take_left]
theorem rowsOkL_all (n : Nat) (ys : List Int) : ∀ (rows : List (List Int)) (k : Nat), k + rows.length = ys.length → rowsOkL n ys rows k = ((ys.drop k).all valOk && !rows.any (rowBad n))
 | [], k, h => by
  simp only [rowsOkL, List.any_nil, Bool.not_false, Bool.and_true]
  rw [List.drop_eq_nil_of_le (by simp at h; omega)]
  rfl
 | r :: rest, k, h => by
  simp only [List.length_cons] at h
  simp only [rowsOkL]
  obtain ⟨y, hy⟩ := get_lt (show k < ys.length by omega)
  rw [rowsOkL_all n ys rest (k + 1) (by omega), hy, drop_at hy, List.all_cons, List.any_cons, rowBad_ok, Option.getD_some]
  cases decide (r.length = n) <;> cases valOk y <;> cases r.all valOk <;> cases (ys.drop (k + 1)).all valOk <;> cases rest.any (rowBad n) <;> rfl
theorem tableOk_impl (t : Tbl) : tableOk t = (!tblBad t && !t.rows.any (rowBad t.names.length)) := by
 unfold tableOk tblBad
 rw [namesL_target, any_bad]
 by_cases h : t.ys.length = t.rows.length
 ·rw [rowsOkL_all t.names.length t.ys t.rows 0 (by omega), List.drop_zero]
  cases decide (1 ≤ (t.names.length : Int) ∧ (t.names.length : Int) ≤ 4) <;> cases nameOk t.target <;> cases hasS t.target t.names <;> cases decide (1 ≤ (t.rows.length : Int) ∧ (t.rows.length : Int) ≤ 40) <;> cases decide (t.ys.length = t.rows.length) <;> cases namesL t.names t.names 0 <;> cases t.ys.all valOk <;> cases t.rows.any (rowBad t.names.length) <;> rfl
 ·rw [decide_eq_false h]
  cases decide (1 ≤ (t.names.length : Int) ∧ (t.names.length : Int) ≤ 4) <;> cases nameOk t.target <;> cases hasS t.target t.names <;> cases decide (1 ≤ (t.rows.length : Int) ∧ (t.rows.length : Int) ≤ 40) <;> cases namesL t.names t.names 0 <;> cases t.ys.all valOk <;> cases t.rows.any (rowBad t.names.length) <;> rfl
theorem impl_TableOk_1_spec (t : Tbl) (r : List Int) (hr : r.length ≤ 1048576) : FnSpec PR f_impl_TableOk_1 [aIs r, rpTb t] (ab (rowBad t.names.length r)) [] 0 := by
 have eR : nInt (dLen (eL cI r)) = (r.length : Int) := by simp
 have eN : nInt (dLen (eL cS t.names)) = (t.names.length : Int) := by simp
 have eD : rowBad t.names.length r = if decide (r.length = t.names.length) then r.any decBad else true := rfl
 rw [eD]
 refine FnSpec.intro hT (pf Tryz.func254) rfl (by kernel_rfl) Tryz.ntmps254 rfl ?_
 conv => whnf
 rw [eR, eN]
 by_cases h : r.length = t.names.length
 ·rw [show iEq (r.length : Int) (t.names.length : Int) = true from decide_eq_true (by omega), decide_eq_true h, if_pos rfl]
  conv => whnf
  refine .inl ⟨_, _, _, impl_areDecimals_spec r hr, rfl, ?_⟩
  conv => whnf
  rw [show (r.any fun x => bNot (decide (-2147483647 ≤ x ∧ x ≤ 2147483647))) = r.any decBad from rfl]
  cases r.any decBad <;> (conv => whnf) <;> rfl
 ·rw [show iEq (r.length : Int) (t.names.length : Int) = false from decide_eq_false (by omega), decide_eq_false h, if_neg (by decide)]
  conv => whnf
set_option maxHeartbeats 4000000 in
theorem impl_TableOk_spec (t : Tbl) (hz : szT t) : FnSpec PR f_impl_TableOk [aTb t] (ab (tableOk t)) [] 0 := by
 have eR : nInt (dLen (eL cIs t.rows)) = (t.rows.length : Int) := by simp
 have eN : nInt (dLen (eL cS t.names)) = (t.names.length : Int) := by simp
 have eY : nInt (dLen (eL cI t.ys)) = (t.ys.length : Int) := by simp
 have hz1 := hz.n
 have hzr := hz.r
 have hzy := hz.y
 have hcl := clone_strs_spec t.names (by omega)
 have hnm : (decide (1 ≤ (t.names.length : Int) ∧ (t.names.length : Int) ≤ 4)) = true → FnSpec PR f_impl_areNames [aSs (t.names ++ [t.target])] (ab (namesL (t.names ++ [t.target]) (t.names ++ [t.target]) 0)) [] 0 := fun h => impl_areNames_spec (t.names ++ [t.target]) (by simp at h; simp; omega) (fun s hs => by
  rcases List.mem_append.1 hs with h | h
  ·exact hz.ns s h
  ·simp at h; subst h; exact hz.tg)
 have hdc := impl_areDecimals_spec t.ys hzy
 rw [show (t.ys.any fun x => bNot (decide (-2147483647 ≤ x ∧ x ≤ 2147483647))) = t.ys.any decBad from rfl] at hdc
 have hcf := slices_ContainsFunc_LLint_Lint_1 t.rows f_impl_TableOk_1 (.rp [.sl 1 (eL cS t.names), .str t.target, .sl 1 (eL cIs t.rows), .sl 1 (eL cI t.ys)]) (rowBad t.names.length) (fun r hr => impl_TableOk_1_spec t r (hz.c r hr)) (by omega)
 have hq : tblBad t = !(decide (1 ≤ (t.names.length : Int) ∧ (t.names.length : Int) ≤ 4) && (namesL (t.names ++ [t.target]) (t.names ++ [t.target]) 0 && (decide (1 ≤ (t.rows.length : Int) ∧ (t.rows.length : Int) ≤ 40) && (decide (t.ys.length = t.rows.length) && !t.ys.any decBad)))) := rfl
 rw [tableOk_impl]
 have hlen : iEq (nInt (dLen (eL cI t.ys))) (nInt (dLen (eL cIs t.rows))) = decide (t.ys.length = t.rows.length) := by rw [eY, eR]; unfold iEq; rw [decide_eq_decide]; omega
 generalize t.rows.any (rowBad t.names.length) = q9 at *
 generalize t.ys.any decBad = b5 at *
 generalize namesL (t.names ++ [t.target]) (t.names ++ [t.target]) 0 = b2 at *
 generalize hb1 : decide (1 ≤ (t.names.length : Int) ∧ (t.names.length : Int) ≤ 4) = b1 at *
 generalize hb3 : decide (1 ≤ (t.rows.length : Int) ∧ (t.rows.length : Int) ≤ 40) = b3 at *
 generalize decide (t.ys.length = t.rows.length) = b4 at *
 generalize tblBad t = bad at *
 have hn5 : b1 = true → t.names.length + 1 ≤ 1048576 := fun h => by rw [← hb1] at h; simp at h; omega
 have hcases : (b1 = false ∧ bad = true) ∨ (b1 = true ∧ b2 = false ∧ bad = true) ∨ (b1 = true ∧ b2 = true ∧ b3 = false ∧ bad = true) ∨ (b1 = true ∧ b2 = true ∧ b3 = true ∧ b4 = false ∧ bad = true) ∨ (b1 = true ∧ b2 = true ∧ b3 = true ∧ b4 = true ∧ bad = b5) := by
  subst hq
  clear hnm hdc hlen hcf hcl hb1 hb3 hn5
  cases b1 <;> cases b2 <;> cases b3 <;> cases b4 <;> cases b5 <;> decide
 refine FnSpec.intro hT (pf Tryz.func154) rfl (by kernel_rfl) Tryz.ntmps154 rfl ?_
 conv => whnf
 refine tri_rp 0 ?_
 conv => whnf
 refine tri_every hT hmix [1, 40] { t := [(1, rpTb t), (40, ab bad)], h := [], n := 0, N := 46 } rfl ?_ ?_
 ·rcases hcases with ⟨h1, hb⟩ | ⟨h1, h2, hb⟩ | ⟨h1, h2, h3, hb⟩ | ⟨h1, h2, h3, h4, hb⟩ | ⟨h1, h2, h3, h4, hb⟩ <;>
  repeat' first
   | (refine anyV_one rfl ?_; (conv => whnf))
   | (refine anyV_two rfl ?_ ?_ <;> (conv => whnf))
   | (refine anyV_three rfl ?_ ?_ ?_ <;> (conv => whnf))
   | (refine anyV_four rfl ?_ ?_ ?_ ?_ <;> (conv => whnf))
   | (rw [hlen, h4]; (conv => whnf))
   | (rw [eN]; refine .inl ⟨_, _, _, impl_within_spec _ _ _, rfl, ?_⟩; rw [hb1, h1]; (conv => whnf))
   | (rw [eR]; refine .inl ⟨_, _, _, impl_within_spec _ _ _, rfl, ?_⟩; rw [hb3, h3]; (conv => whnf))
   | (refine .inl ⟨_, _, _, hcl, rfl, ?_⟩; (conv => whnf))
   | (refine And.intro (by have := hn5 h1; simp [partOf_none, eL_length, dLen_len]; omega) ?_; (conv => whnf); simp only [partOf_none]; rw [show dApp (eL cS t.names) [[D.str t.target]] = eL cS (t.names ++ [t.target]) from eL_app cS _ _])
   | (refine .inl ⟨_, _, _, hnm h1, rfl, ?_⟩; rw [h2]; (conv => whnf))
   | (refine .inl ⟨_, _, _, hdc, rfl, ?_⟩; (conv => whnf))
   | (refine anyV_end rfl ?_; (conv => whnf); rw [hb]; first | done | rfl | (cases b5 <;> rfl))
 ·conv => whnf
  cases bad with
  | true => (conv => whnf); first | done | rfl
  | false =>
   conv => whnf
   refine .inl ⟨_, _, _, hcf, rfl, ?_⟩
   conv => whnf
   cases q9 <;> first | done | rfl
end Go.H.S
namespace Go.H.S
open Go Go.Proofs Go.H
theorem shrT_len (c : Cfg) (t : List Nd) : (shrT c t).length = t.length := by simp [shrT]
theorem shrT_at {c : Cfg} {t : List Nd} {j : Nat} {n : Nd} (h : t[j]? = some n) : (shrT c t)[j]? = some (shrN c n) := by simp [shrT, h]
end Go.H.S
namespace Go.H.S
open Go Go.Proofs Go.H
attribute [local irreducible] Tri FnSpec FnSpecM FnSpecX FnSpecJ FnSpecB
theorem impl_sameLists_1_spec (x y : List Int) (hx : x.length ≤ 1048576) : FnSpec PR f_impl_sameLists_1 [aIs x, aIs y] (ab (decide (x = y))) [] 0 := by
 refine FnSpec.intro hT (pf Tryz.func308) rfl (by kernel_rfl) Tryz.ntmps308 rfl ?_
 conv => whnf
 refine .inl ⟨_, _, _, slices_Equal_Lint_int_spec x y (by omega), rfl, ?_⟩
 conv => whnf
theorem slices_EqualFunc_rows_spec (a b : List (List Int)) (g : FuncId) (hg : ∀ x ∈ a, ∀ y, FnSpec PR g [aIs x, aIs y] (ab (decide (x = y))) [] 0) (ha : a.length ≤ 9223372036854775807) :
  FnSpec PR f_slices_EqualFunc_LLint_LLint_Lint_Lint [aIss a, aIss b, .c (.d (.fn g []))] (ab (decide (a = b))) [] 0 := by
 refine FnSpec.intro hT (pf Tryz.func307) rfl (by kernel_rfl) Tryz.ntmps307 rfl ?_
 conv => whnf
 refine ifB_i (fun h0 => ?_) (fun h0 => ?_) <;> (conv => whnf) <;> simp only [eH] at h0
 ·rw [eq_len (by omega)]
 refine tri_loop hT [1, 2, 15, 16, 17] (α := Nat) (fun x => { t := [(1, aIss b), (2, .c (.d (.fn g []))), (15, aIss a), (16, ai a.length), (17, ai x)], h := [], n := 0, N := 32 })
  (fun x => x ≤ a.length ∧ decide (a.drop x = b.drop x) = decide (a = b)) (fun x => a.length - x) 0 (by ((conv => whnf); simp only [eS])) ⟨Nat.zero_le _, rfl⟩ ?_
 intro k ⟨hk, hi⟩
 conv => whnf
 refine ifB_i (fun h1 => ?_) (fun h1 => ?_) <;> (conv => whnf) <;> simp at h1
 ·obtain ⟨s, hs⟩ := get_lt h1
  obtain ⟨u, hu⟩ := get_lt (l := b) (k := k) (by omega)
  rw [eq_drop hs hu] at hi
  refine idx_at (by simp) hs ?_
  conv => whnf
  refine idx_at (by simp) hu ?_
  conv => whnf
  refine .inl ⟨_, _, _, hg s (List.mem_of_getElem? hs) u, rfl, ?_⟩
  generalize decide (s = u) = c at hi ⊢
  cases c <;> (conv => whnf)
  ·simp only [Bool.false_and] at hi
   rw [← hi]
  ·refine ⟨k + 1, by omega, ⟨h1, by rw [← hi, Bool.true_and]⟩, ?_⟩
   ((conv => whnf); simp only [eS, wI h1 ha])
 ·obtain rfl : k = a.length := by omega
  have : decide (a.drop a.length = b.drop a.length) = true := by simp [List.drop_of_length_le (show b.length ≤ a.length by omega)]
  rw [this] at hi
  rw [← hi]
theorem impl_sameLists_same (a : List (List Int)) (hl : a.length ≤ 1048576) (hr : ∀ r ∈ a, r.length ≤ 1048576) : FnSpec PR f_impl_sameLists [aIss a, aIss a] (ab true) [] 0 := by
 refine FnSpec.intro hT (pf Tryz.func266) rfl (by kernel_rfl) Tryz.ntmps266 rfl ?_
 conv => whnf
 refine .inl ⟨_, _, _, slices_EqualFunc_rows_spec a a f_impl_sameLists_1 (fun x hx y => impl_sameLists_1_spec x y (hr x hx)) (by omega), rfl, ?_⟩
 rw [show decide (a = a) = true from decide_eq_true rfl]
 conv => whnf
theorem impl_SameGrid_same (g : Grd) (hg : smG g) : FnSpec PR f_impl_SameGrid [aG g, aG g] (ab true) [] 0 := by
 refine FnSpec.intro hT (pf Tryz.func174) rfl (by kernel_rfl) Tryz.ntmps174 rfl ?_
 conv => whnf
 refine .inl ⟨_, _, _, impl_sameLists_same g.cuts hg.1 hg.2.2.1, rfl, ?_⟩
 conv => whnf
 refine .inl ⟨_, _, _, impl_sameLists_same g.bins hg.2.1 hg.2.2.2, rfl, ?_⟩
 conv => whnf
 first | done | rfl
set_option maxHeartbeats 4000000 in
theorem impl_GridOf_d (t : Tbl) (b : Nat) (hb : 2 ≤ b ∧ b ≤ 8) (ht : tableOk t = true) (hz : szT t) : FnSpec PR f_impl_GridOf [aTb t, ai b] (aG (gridT t b)) [] 0 := by
 obtain ⟨hn4, hr40, hyl⟩ := tableOk_p ht
 have hr := hz.r
 have hc := hz.c
 show FnSpec PR f_impl_GridOf [aTb t, ai b] (aG ⟨cutsTo t b t.names.length, binsTo t b t.names.length⟩) [] 0
 refine FnSpec.intro hTn (pf Tryz.func175) rfl (by kernel_rfl) Tryz.ntmps175 rfl ?_
 conv => whnf
 refine .inl ⟨_, _, _, impl_TableOk_spec t hz, rfl, ?_⟩
 rw [ht]
 conv => whnf
 refine .inl ⟨_, _, _, impl_within_spec _ _ _, rfl, ?_⟩
 rw [show decide ((2 : Int) ≤ (b : Int) ∧ (b : Int) ≤ 8) = true from decide_eq_true (by omega)]
 conv => whnf
 refine tri_rp 0 ?_
 conv => whnf
 refine tri_nn 2 0 t_Lint 1 [t_int] ?_
 conv => whnf
 refine tri_nn 2 1 t_Lint 1 [t_int] ?_
 conv => whnf
 refine tri_loop hTn [1, 2, 4, 5, 24, 25] (α := Nat) (fun f => { t := [(1, ai b), (2, rpTb t), (4, .c (.ptr 0 0)), (5, .c (.ptr 1 0)), (24, ai t.names.length), (25, ai f)], h := [(0, .box t_impl_Grid [.nl 1, .nl 1]), (1, .box t_impl_Grid [.ref 2 0 none, .ref 3 0 none]), (2, rowIs (cutsTo t b f)), (3, rowIs (binsTo t b f))], n := 4, N := 62 })
  (fun f => f ≤ t.names.length) (fun f => t.names.length - f) 0 (by (conv => whnf); simp only [rowIs, cutsTo, binsTo, List.range_zero, List.map_nil, eL_nil]; first | done | rfl | (rw [show nInt (dLen (eL cS t.names)) = (t.names.length : Int) by simp]; rfl)) (Nat.zero_le _) ?_
 intro f hf
 conv => whnf
 refine ifB_i (fun h1 => ?_) (fun h1 => ?_) <;> (conv => whnf) <;> simp at h1
 ·refine .inl ⟨_, _, _, impl_Column_spec t f h1 (by omega) hr hc, rfl, ?_⟩
  conv => whnf
  have hcl := columnL_len t f
  refine .inr (.inl ⟨_, _, _, impl_CutsOf_spec (columnL t f) b hb (by omega), rfl, ⟨flat_cI _, trivial⟩, ?_⟩)
  rw [show cutsOfL (columnL t f) b = cutsT t b f from rfl]
  conv => whnf
  have hkl := cutsT_len t (f := f) hb.2
  refine tri_loop hTn [1, 2, 4, 5, 6, 8, 9, 24, 25, 35, 36, 37] (α := Nat) (fun j => { t := [(1, ai b), (2, rpTb t), (4, .c (.ptr 0 0)), (5, .c (.ptr 1 0)), (6, ai f), (8, .c (.ref 4 0 none)), (9, .c (.ref 5 0 none)), (24, ai t.names.length), (25, ai f), (35, aIs (columnL t f)), (36, ai (columnL t f).length), (37, ai j)], h := [(0, .box t_impl_Grid [.nl 1, .nl 1]), (1, .box t_impl_Grid [.ref 2 0 none, .ref 3 0 none]), (2, rowIs (cutsTo t b f)), (3, rowIs (binsTo t b f)), (4, .arr t_int 1 0 .own (eL cI (((columnL t f).take j).map fun v => ((binOfL (cutsT t b f) v : Nat) : Int)))), (5, .arr t_int 1 0 .own (eL cI (cutsT t b f)))], n := 6, N := 62 })
   (fun j => j ≤ (columnL t f).length) (fun j => (columnL t f).length - j) 0 (by (conv => whnf); simp only [List.take_zero, List.map_nil, eL_nil, partOf_none]; first | done | rfl | (rw [show nInt (lenRE (eL cI (columnL t f)) none) = ((columnL t f).length : Int) by simp [lenRE]]; rfl)) (Nat.zero_le _) ?_
  intro j hj
  conv => whnf
  refine ifB_i (fun h2 => ?_) (fun h2 => ?_) <;> (conv => whnf) <;> simp [iLt] at h2
  ·obtain ⟨v, hv⟩ := get_lt (show j < (columnL t f).length by omega)
   refine idx_at (by simp) hv ?_
   conv => whnf
   refine .inr (.inl ⟨_, _, _, impl_BinOf_spec (cutsT t b f) v (by omega), rfl, trivial, ?_⟩)
   conv => whnf
   refine And.intro (by simp [eL_length, dLen_len]; omega) ?_
   conv => whnf
   refine ⟨j + 1, by omega, by omega, ?_⟩
   ((conv => whnf); simp only [eS, wI (show j < (columnL t f).length by omega) (by omega)])
   rw [List.take_add_one, hv, List.map_append, Option.toList_some, List.map_cons, List.map_nil, ← eL_app]
   first | exact ⟨rfl, rfl⟩ | rfl
  ·obtain rfl : j = (columnL t f).length := by omega
   rw [List.take_length, show ((columnL t f).map fun v => ((binOfL (cutsT t b f) v : Nat) : Int)) = binsT t b f from rfl]
   refine tri_every hTn hmix [1, 2, 4, 5, 24, 25] { t := [(1, ai b), (2, rpTb t), (4, .c (.ptr 0 0)), (5, .c (.ptr 1 0)), (24, ai t.names.length), (25, ai f)], h := [(0, .box t_impl_Grid [.nl 1, .nl 1]), (1, .box t_impl_Grid [.ref 2 0 none, .ref 3 0 none]), (2, rowIs (cutsTo t b (f + 1))), (3, rowIs (binsTo t b (f + 1)))], n := 4, N := 62 } rfl ?_ ?_
   ·repeat' first
     | (refine anyV_one rfl ?_; (conv => whnf))
     | (refine anyV_two rfl ?_ ?_ <;> (conv => whnf))
     | (refine anyV_three rfl ?_ ?_ ?_ <;> (conv => whnf))
     | (refine anyV_four rfl ?_ ?_ ?_ ?_ <;> (conv => whnf))
     | (refine anyV_five rfl ?_ ?_ ?_ ?_ ?_ <;> (conv => whnf))
     | (refine anyV_six rfl ?_ ?_ ?_ ?_ ?_ ?_ <;> (conv => whnf))
     | (refine ⟨flat_cI _, ?_⟩; (conv => whnf))
     | (refine And.intro (by simp [eL_length, dLen_len, cutsTo_len, binsTo_len]; omega) ?_; (conv => whnf))
     | (refine anyV_end rfl ?_; (conv => whnf); rw [show dApp (eL cIs (cutsTo t b f)) [[D.sl 1 (eL cI (cutsT t b f))]] = eL cIs (cutsTo t b (f + 1)) from by rw [cutsTo_succ]; exact eL_app cIs _ _, show dApp (eL cIs (binsTo t b f)) [[D.sl 1 (eL cI (binsT t b f))]] = eL cIs (binsTo t b (f + 1)) from by rw [binsTo_succ]; exact eL_app cIs _ _]; first | done | rfl | exact ⟨rfl, rfl⟩)
   conv => whnf
   refine ⟨f + 1, by omega, by omega, ?_⟩
   ((conv => whnf); simp only [eS, wI h1 (by omega)])
   first | done | rfl
 ·obtain rfl : f = t.names.length := by omega
  first | done | rfl
set_option maxHeartbeats 4000000 in
theorem impl_BaseOf_spec (ys : List Int) (h1 : 1 ≤ ys.length) (hl : ys.length ≤ 1000) (hb : ∀ y ∈ ys, -2147483647 ≤ y ∧ y ≤ 2147483647) : FnSpec PR f_impl_BaseOf [aIs ys] (tupIk (baseL ys) true) [] 0 := by
 have eY : nInt (dLen (eL cI ys)) = (ys.length : Int) := by simp
 refine FnSpec.intro hT (pf Tryz.func243) rfl (by kernel_rfl) Tryz.ntmps243 rfl ?_
 conv => whnf
 refine tri_loop hT [0, 4, 9, 10, 11] (α := Nat) (fun k => { t := [(0, aIs ys), (4, ai (sumI (ys.take k))), (9, aIs ys), (10, ai ys.length), (11, ai k)], h := [], n := 0, N := 31 })
  (fun k => k ≤ ys.length) (fun k => ys.length - k) 0 (by (conv => whnf); first | done | rfl | (rw [eY]; rfl)) (Nat.zero_le _) ?_
 intro k hk
 conv => whnf
 refine ifB_i (fun q => ?_) (fun q => ?_) <;> (conv => whnf) <;> simp only [eH] at q
 ·obtain ⟨y, hy⟩ := get_lt (show k < ys.length by omega)
  have hyb := hb y (List.mem_of_getElem? hy)
  have hsb := sum_take_abs hl hb k
  refine idx_at (by simp) hy ?_
  conv => whnf
  refine .inl ⟨_, _, _, impl_AddInt_small (sumI (ys.take k)) y (by omega) (by omega), rfl, ?_⟩
  conv => whnf
  refine ⟨k + 1, by omega, by omega, ?_⟩
  ((conv => whnf); simp only [eS, wI (show k < ys.length by omega) (by omega)])
  rw [sum_take hy]
  first | done | rfl
 ·obtain rfl : k = ys.length := by omega
  have hsb := sum_take_abs hl hb ys.length
  rw [List.take_length] at hsb ⊢
  rw [eY]
  refine .inl ⟨_, _, _, impl_FloorDiv_spec (sumI ys) ys.length (by omega) (by omega), rfl, ?_⟩
  conv => whnf
  first | done | rfl
set_option maxHeartbeats 4000000 in
theorem impl_Residuals_spec (ys ps : List Int) (he : ys.length = ps.length) (hl : ys.length ≤ 1000) (hb : ∀ y ∈ ys, -2147483647 ≤ y ∧ y ≤ 2147483647) (hp : ∀ p ∈ ps, -1152921504606846976 ≤ p ∧ p ≤ 1152921504606846976) : FnSpec PR f_impl_Residuals [aIs ys, aIs ps] (tupRk (resL ys ps) true) [] 0 := by
 have eY : nInt (dLen (eL cI ys)) = (ys.length : Int) := by simp
 refine FnSpec.intro hT (pf Tryz.func157) rfl (by kernel_rfl) Tryz.ntmps157 rfl ?_
 conv => whnf
 rw [show iEq (nInt (dLen (eL cI ys))) (nInt (dLen (eL cI ps))) = true from decide_eq_true (by simp [he])]
 conv => whnf
 refine tri_loop hT [0, 1, 6, 17, 18] (α := Nat) (fun k => { t := [(0, aIs ys), (1, aIs ps), (6, .c (.ref 0 0 none)), (17, ai ys.length), (18, ai k)], h := [(0, .arr t_int 1 0 .own (eL cI ((resL ys ps).take k)))], n := 1, N := 41 })
  (fun k => k ≤ ys.length) (fun k => ys.length - k) 0 (by (conv => whnf); simp only [List.take_zero, eL_nil]; first | done | rfl | (rw [eY]; rfl)) (Nat.zero_le _) ?_
 intro k hk
 conv => whnf
 refine ifB_i (fun q => ?_) (fun q => ?_) <;> (conv => whnf) <;> simp only [eH] at q
 ·obtain ⟨y, hy⟩ := get_lt (show k < ys.length by omega)
  obtain ⟨p, hpk⟩ := get_lt (show k < ps.length by omega)
  have hyb := hb y (List.mem_of_getElem? hy)
  have hpb := hp p (List.mem_of_getElem? hpk)
  refine tri_every hT hmix [0, 1, 6, 8, 9, 17, 18] { t := [(0, aIs ys), (1, aIs ps), (6, .c (.ref 0 0 none)), (8, ai (y - p)), (9, ab true), (17, ai ys.length), (18, ai k)], h := [(0, .arr t_int 1 0 .own (eL cI ((resL ys ps).take k)))], n := 1, N := 41 } rfl ?_ ?_
  ·repeat' first
    | (refine anyV_one rfl ?_; (conv => whnf))
    | (refine anyV_two rfl ?_ ?_ <;> (conv => whnf))
    | (refine anyV_three rfl ?_ ?_ ?_ <;> (conv => whnf))
    | (refine idx_at (k := k) rfl hy ?_; (conv => whnf))
    | (refine idx_at (k := k) rfl hpk ?_; (conv => whnf))
    | (refine .inl ⟨_, _, _, impl_SubInt_small y p (by omega) (by omega), rfl, ?_⟩; (conv => whnf))
    | (refine anyV_end rfl ?_; (conv => whnf); first | done | rfl)
  conv => whnf
  have hlen := resL_len he
  refine And.intro (by simp [partOf_none, eL_length, dLen_len]; omega) ?_
  conv => whnf
  refine ⟨k + 1, by omega, by omega, ?_⟩
  ((conv => whnf); simp only [eS, wI (show k < ys.length by omega) (by omega)])
  rw [resL_take hy hpk, ← eL_app, partOf_none]
  first | done | rfl | exact ⟨rfl, rfl⟩
 ·obtain rfl : k = ys.length := by omega
  rw [← resL_len he, List.take_length]
  conv => whnf
  simp only [partOf_none]
set_option maxHeartbeats 4000000 in
theorem impl_StateNew_no (t : Tbl) (hz : szT t) (ht : tableOk t = false) : FnSpec PR f_impl_StateNew [aTb t] (tupSt [] [] false) [] 0 := by
 refine FnSpec.intro hT (pf Tryz.func240) rfl (by kernel_rfl) Tryz.ntmps240 rfl ?_
 conv => whnf
 refine .inl ⟨_, _, _, impl_TableOk_spec t hz, rfl, ?_⟩
 rw [ht]
 conv => whnf
 simp only [tupSt, cSt, eL_nil]
set_option maxHeartbeats 4000000 in
theorem impl_StateNew_spec (t : Tbl) (hz : szT t) (ht : tableOk t = true) : FnSpec PR f_impl_StateNew [aTb t] (tupSt (firstP t) [] true) [] 0 := by
 have hv := tableOk_v ht
 have eY : nInt (dLen (eL cI t.ys)) = (t.ys.length : Int) := by simp
 refine FnSpec.intro hT (pf Tryz.func240) rfl (by kernel_rfl) Tryz.ntmps240 rfl ?_
 conv => whnf
 refine .inl ⟨_, _, _, impl_TableOk_spec t hz, rfl, ?_⟩
 rw [ht]
 conv => whnf
 refine .inl ⟨_, _, _, impl_BaseOf_spec t.ys (by have := hv.yl; have := hv.r1; omega) (by have := hv.yl; have := hv.r40; omega) hv.yv, rfl, ?_⟩
 conv => whnf
 refine tri_rp 0 ?_
 conv => whnf
 refine tri_nl 2 0 t_int 1 ?_
 conv => whnf
 refine tri_loop hT [2, 4, 6, 20, 21] (α := Nat) (fun k => { t := [(2, .c (.ptr 0 0)), (4, ai (baseL t.ys)), (6, .c (.ptr 1 0)), (20, ai t.ys.length), (21, ai k)], h := [(0, .box t_impl_State [.nl 1, .nl 1]), (1, .box t_impl_State [.ref 2 0 none, .nl 1]), (2, .arr t_int 1 0 .own (eL cI (List.replicate k (baseL t.ys))))], n := 3, N := 31 })
  (fun k => k ≤ t.ys.length) (fun k => t.ys.length - k) 0 (by (conv => whnf); simp only [List.replicate_zero, eL_nil]; first | done | rfl | (rw [eY]; rfl)) (Nat.zero_le _) ?_
 intro k hk
 conv => whnf
 refine ifB_i (fun q => ?_) (fun q => ?_) <;> (conv => whnf) <;> simp only [eH] at q
 ·have := hv.yl
  have := hv.r40
  refine And.intro (by simp [partOf_none, eL_length, dLen_len]; omega) ?_
  conv => whnf
  refine ⟨k + 1, by omega, by omega, ?_⟩
  ((conv => whnf); simp only [eS, wI (show k < t.ys.length by omega) (by omega)])
  rw [List.replicate_succ', ← eL_app, partOf_none]
  first | done | rfl | exact ⟨rfl, rfl⟩
 ·obtain rfl : k = t.ys.length := by omega
  simp only [partOf_none, tupSt, cSt, eL_nil, firstP]
  first | done | rfl
theorem impl_copyTree_d (t : List Nd) (hl : t.length ≤ 1000000000) : FnSpec PR f_impl_copyTree [aT t] (aT t) [] 0 := by
 refine FnSpec.intro hT (pf Tryz.func267) rfl (by kernel_rfl) Tryz.ntmps267 rfl ?_
 conv => whnf
 refine .inl ⟨_, _, _, clone_nodes_spec t hl, rfl, ?_⟩
 conv => whnf
 simp only [partOf_none]
 first | done | rfl
theorem impl_copyTrees_d (ts : List (List Nd)) (hl : ts.length ≤ 1000000) (ht : ∀ t ∈ ts, t.length ≤ 1000000) : FnSpec PR f_impl_copyTrees [aTs ts] (.c (.ref 0 0 none)) [(0, .arr t_impl_Tree 1 0 .own (eL cT ts))] 1 := by
 refine FnSpec.intro hT (pf Tryz.func177) rfl (by kernel_rfl) Tryz.ntmps177 rfl ?_
 conv => whnf
 refine tri_loop hT [3, 7, 8, 9] (α := Nat × List (List Nd)) (fun x => { t := [(3, .c (.ref 0 0 none)), (7, aTs ts), (8, ai ts.length), (9, ai x.1)], h := [(0, .arr t_impl_Tree 1 0 .own (eL cT x.2))], n := 1, N := 20 })
  (fun x => x.1 ≤ ts.length ∧ x.2 = ts.take x.1) (fun x => ts.length - x.1) (0, []) (by ((conv => whnf); simp only [eS, eL_nil])) ⟨Nat.zero_le _, by simp⟩ ?_
 intro ⟨k, o⟩ ⟨hk, ho⟩
 dsimp only at hk ho
 conv => whnf
 refine ifB_i (fun h1 => ?_) (fun h1 => ?_) <;> (conv => whnf) <;> simp at h1
 ·obtain ⟨t, hx⟩ := get_lt h1
  have hol : o.length = k := by rw [ho]; simp; omega
  refine idx_at (by simp) hx ?_
  conv => whnf
  refine .inl ⟨_, _, _, impl_copyTree_d t (by have := ht t (List.mem_of_getElem? hx); omega), rfl, ?_⟩
  conv => whnf
  refine And.intro (by simp [eL_length, dLen_len]; omega) ?_
  conv => whnf
  refine ⟨(k + 1, o ++ [t]), by dsimp only; omega, ⟨h1, by dsimp only; rw [ho, List.take_add_one, hx]; rfl⟩, ?_⟩
  ((conv => whnf); simp only [eS, wI h1 (by omega)])
  rw [← eL_app, partOf_none]
  first | done | rfl | exact ⟨rfl, rfl⟩
 ·obtain rfl : k = ts.length := by omega
  rw [ho, List.take_length]
  first | done | rfl
set_option maxHeartbeats 4000000 in
theorem impl_Shrunk_spec (v : Int) (c : Cfg) (hc : cfgP c) (hv : -1099511627776 ≤ v ∧ v ≤ 1099511627776) : FnSpec PR f_impl_Shrunk [ai v, aCf c] (tupIk (v * c.num / c.den) true) [] 0 := by
 refine FnSpec.intro hT (pf Tryz.func269) rfl (by kernel_rfl) Tryz.ntmps269 rfl ?_
 conv => whnf
 refine .inl ⟨_, _, _, impl_ConfigOk_spec c (by have := hc.2.2.2.2; omega), rfl, ?_⟩
 rw [cfgOk_t hc]
 conv => whnf
 refine .inl ⟨_, _, _, impl_isLeafValue_spec v, rfl, ?_⟩
 rw [decide_eq_true hv]
 conv => whnf
 have hn : 1 ≤ c.num ∧ c.num ≤ 1000 := ⟨hc.2.2.2.1.1, by have := hc.2.2.2.1.2; have := hc.2.2.1.2; omega⟩
 have hd := hc.2.2.1
 have hm : -1099511627776000 ≤ v * c.num ∧ v * c.num ≤ 1099511627776000 := by
  have a := Int.mul_le_mul_of_nonneg_right hv.1 (show 0 ≤ c.num by omega)
  have b := Int.mul_le_mul_of_nonneg_right hv.2 (show 0 ≤ c.num by omega)
  omega
 rw [show wMul .i64 v c.num = v * c.num from wMul64 (by omega) (by omega)]
 refine .inl ⟨_, _, _, impl_FloorDiv_spec (v * c.num) c.den (by omega) (by omega), rfl, ?_⟩
 conv => whnf
 first | done | rfl
set_option maxHeartbeats 4000000 in
theorem impl_ShrunkTree_spec (t : List Nd) (c : Cfg) (hc : cfgP c) (hl : t.length ≤ 1000) (ht : ∀ n ∈ t, leafP n) : FnSpec PR f_impl_ShrunkTree [aT t, aCf c] (.tup [(true, [.d (.sl 5 (eL cN (shrT c t)))]), (false, [.d (.bool true)])]) [] 0 := by
 have hlm := leaf_mem t 0
 have hll : (leavesK t 0).length ≤ t.length := leavesK_len t 0
 have hlv := impl_LeavesOf_spec t (by omega)
 generalize leavesK t 0 = ls at *
 refine FnSpec.intro hT (pf Tryz.func176) rfl (by kernel_rfl) Tryz.ntmps176 rfl ?_
 conv => whnf
 refine .inl ⟨_, _, _, impl_copyTree_spec t (by omega), rfl, ?_⟩
 conv => whnf
 refine .inl ⟨_, _, _, hlv, rfl, ?_⟩
 conv => whnf
 refine tri_rp 0 ?_
 conv => whnf
 refine tri_rp 1 ?_
 conv => whnf
 refine tri_loop hT [2, 3, 4, 6, 14, 15, 16] (α := Nat × List Nd) (fun x => { t := [(2, .c (.d (.rp [.sl 5 (eL cN t)]))), (3, rpCf c), (4, .c (.ptr 0 0)), (6, .c (.ptr 1 0)), (14, aIs ls), (15, ai ls.length), (16, ai x.1)], h := [(0, .box t_impl_Tree [.nl 5]), (1, .box t_impl_Tree [.ref 2 0 none]), (2, .arr t_impl_Node 5 0 .own (eL cN x.2))], n := 3, N := 42 })
  (fun x => x.1 ≤ ls.length ∧ x.2.length = t.length ∧ ∀ (k : Nat) (n : Nd), t[k]? = some n → x.2[k]? = some (if (k : Int) ∈ ls.take x.1 then shrN c n else n)) (fun x => ls.length - x.1) (0, t) (by (conv => whnf); first | done | rfl | (rw [show nInt (lenRE (eL cI ls) none) = (ls.length : Int) by simp [lenRE]]; rfl)) ⟨Nat.zero_le _, rfl, fun k n h => by simpa using h⟩ ?_
 intro ⟨j, o⟩ ⟨hj, hol, ho⟩
 dsimp only at hj hol ho
 conv => whnf
 refine ifB_i (fun q => ?_) (fun q => ?_) <;> (conv => whnf) <;> simp only [eH] at q
 ·obtain ⟨i, hi⟩ := get_lt (show j < ls.length by omega)
  obtain ⟨m, n, him, hn, hnf⟩ := (hlm i).1 (List.mem_of_getElem? hi)
  obtain rfl : i = (m : Int) := by omega
  have hml := (List.getElem?_eq_some_iff.1 hn).1
  have hlf := ht n (List.mem_of_getElem? hn) hnf
  refine idx_at (by simp) hi ?_
  conv => whnf
  refine tri_every hT hmix [2, 3, 4, 6, 8, 9, 10, 14, 15, 16] { t := [(2, .c (.d (.rp [.sl 5 (eL cN t)]))), (3, rpCf c), (4, .c (.ptr 0 0)), (6, .c (.ptr 1 0)), (8, ai m), (9, ai (n.v * c.num / c.den)), (10, ab true), (14, aIs ls), (15, ai ls.length), (16, ai j)], h := [(0, .box t_impl_Tree [.nl 5]), (1, .box t_impl_Tree [.ref 2 0 none]), (2, .arr t_impl_Node 5 0 .own (eL cN o))], n := 3, N := 42 } rfl ?_ ?_
  ·repeat' first
    | (refine anyV_one rfl ?_; (conv => whnf))
    | (refine anyV_two rfl ?_ ?_ <;> (conv => whnf))
    | (refine anyV_three rfl ?_ ?_ ?_ <;> (conv => whnf))
    | (refine idx_at (k := m) rfl hn ?_; (conv => whnf))
    | (refine .inl ⟨_, _, _, impl_Shrunk_spec n.v c hc hlf, rfl, ?_⟩; (conv => whnf))
    | (refine anyV_end rfl ?_; (conv => whnf); first | done | rfl)
  conv => whnf
  obtain ⟨x0, hx0⟩ := get_lt (show m < o.length by omega)
  have hdo : dOver (cN x0) 4 [D.int IntKind.i64 (n.v * c.num / c.den)] = cN (shrN c n) := by
   have h1 := ho m n hn
   rw [hx0] at h1
   have h2 := Option.some.inj h1
   have h3 : shrN c n = ⟨n.f, n.c, n.l, n.r, n.v * c.num / c.den⟩ := by unfold shrN; rw [if_pos hnf]
   rw [h3]
   split at h2
   ·rw [h2, h3, dOver]; rfl
   ·rw [h2, dOver]; rfl
  refine ref_at (k := m) rfl (by rw [show lenRE (eL cN o) none = t.length by simp only [lenRE_none, eL_length, dLen_eL, hol]]; omega) ?_
  conv => whnf
  refine st_at (k := m) (by simp) hx0 (by simp [cN]) ?_
  conv => whnf
  refine ⟨(j + 1, o.set m (shrN c n)), by dsimp only; omega, ⟨by dsimp only; omega, by dsimp only; rw [List.length_set]; exact hol, fun k n' hk => ?_⟩, ?_⟩
  ·dsimp only
   have h1 := ho k n' hk
   rw [List.take_add_one, hi]
   by_cases hkm : m = k
   ·subst hkm
    rw [hn] at hk
    cases hk
    rw [List.getElem?_set_self (by omega), if_pos (by simp)]
   ·rw [List.getElem?_set_ne hkm, h1]
    have : ((k : Int) ∈ ls.take j ++ (some (m : Int)).toList) ↔ (k : Int) ∈ ls.take j := by
     simp
     intro h
     omega
    simp only [this]
  ·((conv => whnf); simp only [eS, wI (show j < ls.length by omega) (by omega)])
   rw [show nAdd (offR none) (nOf (m : Int)) = m by simp [nAdd_eq], hdo, eL_set]
   first | done | rfl
 ·obtain rfl : j = ls.length := by omega
  have hs : o = shrT c t := by
   apply List.ext_getElem?
   intro k
   cases hk : t[k]? with
   | none =>
    have := List.getElem?_eq_none_iff.1 hk
    rw [List.getElem?_eq_none (by omega), List.getElem?_eq_none (by rw [shrT_len]; omega)]
   | some n =>
    rw [ho k n hk, List.take_length, shrT_at hk]
    congr 1
    split
    ·rfl
    ·rename_i hni
     unfold shrN
     rw [if_neg fun hf => hni ((hlm k).2 ⟨k, n, by omega, hk, hf⟩)]
  rw [hs]
  simp only [partOf_none]
  first | done | rfl
end Go.H.S
