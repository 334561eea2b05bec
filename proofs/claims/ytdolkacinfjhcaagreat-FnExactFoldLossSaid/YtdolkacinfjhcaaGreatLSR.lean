/- Library, part SR: the two tables of a fold. -/
import Derived.Test.YtdolkacinfjhcaaGreatLSJ
set_option maxRecDepth 100000
set_option linter.unusedSimpArgs false
set_option linter.unusedVariables false
namespace Go.H.S
open Go Go.Proofs Go.H
attribute [local irreducible] Tri FnSpec FnSpecM FnSpecX FnSpecJ FnSpecB
def selL {α : Type} (p : Nat → Bool) : List α → Nat → List α
 | [], _ => []
 | x :: r, j => if p j then x :: selL p r (j + 1) else selL p r (j + 1)
theorem selL_app {α : Type} (p : Nat → Bool) (x : α) : ∀ (l : List α) (j : Nat), selL p (l ++ [x]) j = selL p l j ++ (if p (j + l.length) then [x] else [])
 | [], j => by simp [selL]
 | y :: l, j => by
  simp only [List.cons_append, selL, selL_app p x l (j + 1), List.length_cons, show j + 1 + l.length = j + (l.length + 1) by omega]
  split <;> rfl
theorem selL_take {α : Type} {p : Nat → Bool} {xs : List α} {k : Nat} {x : α} (h : xs[k]? = some x) : selL p (xs.take (k + 1)) 0 = selL p (xs.take k) 0 ++ (if p k then [x] else []) := by
 have hk := (List.getElem?_eq_some_iff.1 h).1
 rw [List.take_add_one, h]
 show selL p (xs.take k ++ [x]) 0 = _
 rw [selL_app, List.length_take, Nat.zero_add, Nat.min_eq_left (by omega)]
theorem selL_len {α : Type} (p : Nat → Bool) : ∀ (l : List α) (j : Nat), (selL p l j).length ≤ l.length
 | [], _ => by simp [selL]
 | x :: l, j => by
  have := selL_len p l (j + 1)
  simp only [selL]
  split <;> simp <;> omega
theorem selL_mem {α : Type} {p : Nat → Bool} {x : α} : ∀ {l : List α} {j : Nat}, x ∈ selL p l j → x ∈ l
 | [], _, h => by simp [selL] at h
 | y :: l, j, h => by
  simp only [selL] at h
  split at h
  ·rcases List.mem_cons.1 h with h | h
   ·simp [h]
   ·exact List.mem_cons_of_mem _ (selL_mem h)
  ·exact List.mem_cons_of_mem _ (selL_mem h)
def inB (k i : Nat) (r : Nat) : Bool := decide (r % k = i)
def outB (k i : Nat) (r : Nat) : Bool := !inB k i r
def foldA (t : Tbl) (k i : Nat) : Tbl := ⟨t.names, t.target, selL (outB k i) t.rows 0, selL (outB k i) t.ys 0⟩
def foldB (t : Tbl) (k i : Nat) : Tbl := ⟨t.names, t.target, selL (inB k i) t.rows 0, selL (inB k i) t.ys 0⟩
abbrev tupTT (a b : Tbl) : AV := .tup [(true, cTb a), (true, cTb b)]
theorem wRem_nat {a b : Nat} (hb : 0 < b) (ha : a ≤ 1000000) (hb2 : b ≤ 1000000) : wRem (a : Int) (b : Int) = ((a % b : Nat) : Int) := by
 unfold wRem
 rw [Int.tmod_eq_emod_of_nonneg (by omega)]
 rfl
set_option maxHeartbeats 8000000 in
theorem spec_FoldOf_d (t : Tbl) (k i : Nat) (hk : 2 ≤ k ∧ k ≤ 40) (hi : i < k) (hz : szT t) (ht : tableOk t = true) : FnSpec PR f_spec_FoldOf [aTb t, ai k, ai i] (tupTT (foldA t k i) (foldB t k i)) [] 0 := by
 have hv := tableOk_v ht
 have hr40 := hv.r40
 have hyl := hv.yl
 have hn4 := hv.n4
 refine FnSpec.intro hTn (pf Tryz.func151) rfl (by kernel_rfl) Tryz.ntmps151 rfl ?_
 conv => whnf
 refine .inl ⟨_, _, _, spec_TableOk_spec t hz.n hz.ns hz.tg hz.r hz.c hz.y, rfl, ?_⟩
 rw [ht]
 conv => whnf
 refine .inl ⟨_, _, _, spec_l1In_spec _ _ _, rfl, ?_⟩
 rw [show decide ((2 : Int) ≤ (k : Int) ∧ (k : Int) ≤ 40) = true from decide_eq_true (by omega)]
 conv => whnf
 rw [show wSub .i64 (k : Int) 1 = (k : Int) - 1 from wSub64 (by omega) (by omega)]
 refine .inl ⟨_, _, _, spec_l1In_spec _ _ _, rfl, ?_⟩
 rw [show decide ((0 : Int) ≤ (i : Int) ∧ (i : Int) ≤ (k : Int) - 1) = true from decide_eq_true (by omega)]
 conv => whnf
 refine tri_rp 0 ?_
 conv => whnf
 refine tri_every hTn hmix [1, 2, 3, 6, 7, 8] { t := [(1, ai k), (2, ai i), (3, rpTb t), (6, .c (.ptr 0 0)), (7, .c (.ptr 1 0)), (8, .c (.ptr 2 0))], h := [(0, .box t_impl_Table [.nl 1, .d (.str ByteArray.empty), .nl 1, .nl 1]), (1, .box t_impl_Table [.nl 1, .d (.str ByteArray.empty), .nl 1, .nl 1]), (2, .box t_impl_Table [.ref 3 0 none, .d (.str t.target), .nl 1, .nl 1]), (3, .arr t_string 1 0 .own (eL cS t.names))], n := 4, N := 96 } rfl ?_ ?_
 ·repeat' first
   | (refine anyV_one rfl ?_; (conv => whnf))
   | (refine anyV_two rfl ?_ ?_ <;> (conv => whnf))
   | (refine anyV_three rfl ?_ ?_ ?_ <;> (conv => whnf))
   | (refine anyV_four rfl ?_ ?_ ?_ ?_ <;> (conv => whnf))
   | (refine And.intro (by simp [eL_length, dLen_len]; omega) ?_; (conv => whnf))
   | (refine anyV_end rfl ?_; (conv => whnf); simp only [dApp_nil, partOf_none]; first | done | rfl)
 conv => whnf
 refine tri_every hTn hmix [1, 2, 3, 6, 7, 8, 9] { t := [(1, ai k), (2, ai i), (3, rpTb t), (6, .c (.ptr 0 0)), (7, .c (.ptr 1 0)), (8, .c (.ptr 2 0)), (9, .c (.ptr 4 0))], h := [(0, .box t_impl_Table [.nl 1, .d (.str ByteArray.empty), .nl 1, .nl 1]), (1, .box t_impl_Table [.nl 1, .d (.str ByteArray.empty), .nl 1, .nl 1]), (2, .box t_impl_Table [.ref 3 0 none, .d (.str t.target), .nl 1, .nl 1]), (3, .arr t_string 1 0 .own (eL cS t.names)), (4, .box t_impl_Table [.ref 5 0 none, .d (.str t.target), .nl 1, .nl 1]), (5, .arr t_string 1 0 .own (eL cS t.names))], n := 6, N := 96 } rfl ?_ ?_
 ·repeat' first
   | (refine anyV_one rfl ?_; (conv => whnf))
   | (refine anyV_two rfl ?_ ?_ <;> (conv => whnf))
   | (refine anyV_three rfl ?_ ?_ ?_ <;> (conv => whnf))
   | (refine anyV_four rfl ?_ ?_ ?_ ?_ <;> (conv => whnf))
   | (refine And.intro (by simp [eL_length, dLen_len]; omega) ?_; (conv => whnf))
   | (refine anyV_end rfl ?_; (conv => whnf); simp only [dApp_nil, partOf_none]; first | done | rfl)
 conv => whnf
 refine tri_nn 2 2 t_Lint 1 [t_int] ?_
 conv => whnf
 refine tri_nl 2 3 t_int 1 ?_
 conv => whnf
 refine tri_nn 4 2 t_Lint 1 [t_int] ?_
 conv => whnf
 refine tri_nl 4 3 t_int 1 ?_
 conv => whnf
 refine tri_loop hTn [1, 2, 3, 6, 7, 8, 9, 10] (α := Nat) (fun r => { t := [(1, ai k), (2, ai i), (3, rpTb t), (6, .c (.ptr 0 0)), (7, .c (.ptr 1 0)), (8, .c (.ptr 2 0)), (9, .c (.ptr 6 0)), (10, ai r)], h := [(0, .box t_impl_Table [.nl 1, .d (.str ByteArray.empty), .nl 1, .nl 1]), (1, .box t_impl_Table [.nl 1, .d (.str ByteArray.empty), .nl 1, .nl 1]), (2, .box t_impl_Table [.ref 3 0 none, .d (.str t.target), .ref 4 0 none, .ref 5 0 none]), (3, .arr t_string 1 0 .own (eL cS t.names)), (4, rowIs (selL (outB k i) (t.rows.take r) 0)), (5, .arr t_int 1 0 .own (eL cI (selL (outB k i) (t.ys.take r) 0))), (6, .box t_impl_Table [.ref 7 0 none, .d (.str t.target), .ref 8 0 none, .ref 9 0 none]), (7, .arr t_string 1 0 .own (eL cS t.names)), (8, rowIs (selL (inB k i) (t.rows.take r) 0)), (9, .arr t_int 1 0 .own (eL cI (selL (inB k i) (t.ys.take r) 0)))], n := 10, N := 96 })
  (fun r => r ≤ t.rows.length) (fun r => t.rows.length - r) 0 (by (conv => whnf); simp only [rowIs, List.take_zero, selL, eL_nil]; first | done | rfl) (Nat.zero_le _) ?_
 intro r hr
 conv => whnf
 refine ifB_i (fun q => ?_) (fun q => ?_) <;> (conv => whnf) <;> simp only [eH] at q
 ·obtain ⟨row, hrow⟩ := get_lt (show r < t.rows.length by omega)
  obtain ⟨y, hy⟩ := get_lt (show r < t.ys.length by omega)
  have hrc := hv.cols row (List.mem_of_getElem? hrow)
  have e1 := selL_take (p := outB k i) hrow
  have e2 := selL_take (p := outB k i) hy
  have e3 := selL_take (p := inB k i) hrow
  have e4 := selL_take (p := inB k i) hy
  have l1 := selL_len (outB k i) (t.rows.take r) 0
  have l2 := selL_len (outB k i) (t.ys.take r) 0
  have l3 := selL_len (inB k i) (t.rows.take r) 0
  have l4 := selL_len (inB k i) (t.ys.take r) 0
  rw [List.length_take] at l1 l2 l3 l4
  generalize selL (outB k i) (t.rows.take r) 0 = ra at *
  generalize selL (outB k i) (t.ys.take r) 0 = ya at *
  generalize selL (inB k i) (t.rows.take r) 0 = rb at *
  generalize selL (inB k i) (t.ys.take r) 0 = yb at *
  refine idx_at (k := r) rfl hrow ?_
  conv => whnf
  refine And.intro (by simp [eL_length, dLen_len]; omega) ?_
  conv => whnf
  simp only [dApp_nil, partOf_none]
  refine And.intro (by unfold NZ; omega) ?_
  conv => whnf
  rw [wRem_nat (by omega) (by omega) (by omega), show iEq ((r % k : Nat) : Int) (i : Int) = inB k i r from by unfold iEq inB; rw [decide_eq_decide]; omega]
  rw [show outB k i r = !inB k i r from rfl] at e1 e2
  cases hin : inB k i r with
  | true =>
   rw [hin] at e1 e2 e3 e4
   simp only [Bool.not_true, if_true, List.append_nil, if_neg (show ¬ (false = true) by decide)] at e1 e2 e3 e4
   conv => whnf
   refine ⟨flat_cI _, ?_⟩
   conv => whnf
   refine And.intro (by simp [eL_length, dLen_len]; omega) ?_
   conv => whnf
   refine tri_every hTn hmix [1, 2, 3, 6, 7, 8, 9, 10] { t := [(1, ai k), (2, ai i), (3, rpTb t), (6, .c (.ptr 0 0)), (7, .c (.ptr 1 0)), (8, .c (.ptr 2 0)), (9, .c (.ptr 6 0)), (10, ai r)], h := [(0, .box t_impl_Table [.nl 1, .d (.str ByteArray.empty), .nl 1, .nl 1]), (1, .box t_impl_Table [.nl 1, .d (.str ByteArray.empty), .nl 1, .nl 1]), (2, .box t_impl_Table [.ref 3 0 none, .d (.str t.target), .ref 4 0 none, .ref 5 0 none]), (3, .arr t_string 1 0 .own (eL cS t.names)), (4, rowIs ra), (5, .arr t_int 1 0 .own (eL cI ya)), (6, .box t_impl_Table [.ref 7 0 none, .d (.str t.target), .ref 8 0 none, .ref 9 0 none]), (7, .arr t_string 1 0 .own (eL cS t.names)), (8, rowIs (rb ++ [row])), (9, .arr t_int 1 0 .own (eL cI (yb ++ [y])))], n := 10, N := 96 } rfl ?_ ?_
   ·repeat' first
     | (refine anyV_one rfl ?_; (conv => whnf))
     | (refine anyV_two rfl ?_ ?_ <;> (conv => whnf))
     | (refine anyV_three rfl ?_ ?_ ?_ <;> (conv => whnf))
     | (refine idx_at (k := r) rfl hy ?_; (conv => whnf))
     | (refine And.intro (by simp [partOf_none, eL_length, dLen_len]; omega) ?_; (conv => whnf))
     | (refine anyV_end rfl ?_; (conv => whnf); simp only [partOf_none]; rw [show dApp (eL cIs rb) [[D.sl 1 (eL cI row)]] = eL cIs (rb ++ [row]) from eL_app cIs rb row, show dApp (eL cI yb) [[D.int IntKind.i64 y]] = eL cI (yb ++ [y]) from eL_app cI yb y]; first | done | rfl)
   conv => whnf
   refine ⟨r + 1, by omega, by omega, ?_⟩
   ((conv => whnf); simp only [eS, wI (show r < t.rows.length by omega) (by omega)])
   rw [e1, e2, e3, e4]
   first | done | rfl | exact ⟨rfl, rfl, rfl, rfl⟩
  | false =>
   rw [hin] at e1 e2 e3 e4
   simp only [Bool.not_false, if_true, List.append_nil, if_neg (show ¬ (false = true) by decide)] at e1 e2 e3 e4
   conv => whnf
   refine ⟨flat_cI _, ?_⟩
   conv => whnf
   refine And.intro (by simp [eL_length, dLen_len]; omega) ?_
   conv => whnf
   refine tri_every hTn hmix [1, 2, 3, 6, 7, 8, 9, 10] { t := [(1, ai k), (2, ai i), (3, rpTb t), (6, .c (.ptr 0 0)), (7, .c (.ptr 1 0)), (8, .c (.ptr 2 0)), (9, .c (.ptr 6 0)), (10, ai r)], h := [(0, .box t_impl_Table [.nl 1, .d (.str ByteArray.empty), .nl 1, .nl 1]), (1, .box t_impl_Table [.nl 1, .d (.str ByteArray.empty), .nl 1, .nl 1]), (2, .box t_impl_Table [.ref 3 0 none, .d (.str t.target), .ref 4 0 none, .ref 5 0 none]), (3, .arr t_string 1 0 .own (eL cS t.names)), (4, rowIs (ra ++ [row])), (5, .arr t_int 1 0 .own (eL cI (ya ++ [y]))), (6, .box t_impl_Table [.ref 7 0 none, .d (.str t.target), .ref 8 0 none, .ref 9 0 none]), (7, .arr t_string 1 0 .own (eL cS t.names)), (8, rowIs rb), (9, .arr t_int 1 0 .own (eL cI yb))], n := 10, N := 96 } rfl ?_ ?_
   ·repeat' first
     | (refine anyV_one rfl ?_; (conv => whnf))
     | (refine anyV_two rfl ?_ ?_ <;> (conv => whnf))
     | (refine anyV_three rfl ?_ ?_ ?_ <;> (conv => whnf))
     | (refine idx_at (k := r) rfl hy ?_; (conv => whnf))
     | (refine And.intro (by simp [partOf_none, eL_length, dLen_len]; omega) ?_; (conv => whnf))
     | (refine anyV_end rfl ?_; (conv => whnf); simp only [partOf_none]; rw [show dApp (eL cIs ra) [[D.sl 1 (eL cI row)]] = eL cIs (ra ++ [row]) from eL_app cIs ra row, show dApp (eL cI ya) [[D.int IntKind.i64 y]] = eL cI (ya ++ [y]) from eL_app cI ya y]; first | done | rfl)
   conv => whnf
   refine ⟨r + 1, by omega, by omega, ?_⟩
   ((conv => whnf); simp only [eS, wI (show r < t.rows.length by omega) (by omega)])
   rw [e1, e2, e3, e4]
   first | done | rfl | exact ⟨rfl, rfl, rfl, rfl⟩
 ·obtain rfl : r = t.rows.length := by omega
  rw [List.take_length, ← hyl, List.take_length]
  refine tri_every hTn hmix [6, 7] { t := [(6, .c (.ptr 0 0)), (7, .c (.ptr 4 0))], h := [(0, .box t_impl_Table [.ref 1 0 none, .d (.str t.target), .ref 2 0 none, .ref 3 0 none]), (1, .arr t_string 1 0 .own (eL cS t.names)), (2, rowIs (selL (outB k i) t.rows 0)), (3, .arr t_int 1 0 .own (eL cI (selL (outB k i) t.ys 0))), (4, .box t_impl_Table [.ref 5 0 none, .d (.str t.target), .ref 6 0 none, .ref 7 0 none]), (5, .arr t_string 1 0 .own (eL cS t.names)), (6, rowIs (selL (inB k i) t.rows 0)), (7, .arr t_int 1 0 .own (eL cI (selL (inB k i) t.ys 0)))], n := 8, N := 96 } rfl ?_ ?_
  ·repeat' first
    | (refine anyV_one rfl ?_; (conv => whnf))
    | (refine anyV_two rfl ?_ ?_ <;> (conv => whnf))
    | (refine anyV_three rfl ?_ ?_ ?_ <;> (conv => whnf))
    | (refine anyV_four rfl ?_ ?_ ?_ ?_ <;> (conv => whnf))
    | (refine anyV_end rfl ?_; (conv => whnf); first | done | rfl)
  ·conv => whnf
   simp only [partOf_none, foldA, foldB, tupTT, cTb]
   first | done | rfl
set_option maxHeartbeats 8000000 in
theorem impl_FoldOf_d (t : Tbl) (k i : Nat) (hk : 2 ≤ k ∧ k ≤ 40) (hi : i < k) (hz : szT t) (ht : tableOk t = true) : FnSpec PR f_impl_FoldOf [aTb t, ai k, ai i] (tupTT (foldA t k i) (foldB t k i)) [] 0 := by
  have hv := tableOk_v ht
  have hr40 := hv.r40
  have hyl := hv.yl
  have hn4 := hv.n4
  have hzn := hz.n
  have hcl := clone_strs_spec t.names (by omega)
  have eR : nInt (dLen (eL cIs t.rows)) = (t.rows.length : Int) := by simp
  refine FnSpec.intro hTn (pf Tryz.func155) rfl (by kernel_rfl) Tryz.ntmps155 rfl ?_
  conv => whnf
  refine .inl ⟨_, _, _, impl_TableOk_spec t hz, rfl, ?_⟩
  rw [ht]
  conv => whnf
  refine .inl ⟨_, _, _, impl_within_spec _ _ _, rfl, ?_⟩
  rw [show decide ((2 : Int) ≤ (k : Int) ∧ (k : Int) ≤ 40) = true from decide_eq_true (by omega)]
  conv => whnf
  rw [show wSub .i64 (k : Int) 1 = (k : Int) - 1 from wSub64 (by omega) (by omega)]
  refine .inl ⟨_, _, _, impl_within_spec _ _ _, rfl, ?_⟩
  rw [show decide ((0 : Int) ≤ (i : Int) ∧ (i : Int) ≤ (k : Int) - 1) = true from decide_eq_true (by omega)]
  conv => whnf
  refine tri_rp 0 ?_
  conv => whnf
  refine tri_loop hTn [1, 2, 3, 6, 7, 8, 31] (α := Nat) (fun q => match q with
    | 0 => { t := [(1, ai k), (2, ai i), (3, rpTb t), (6, .c (.ptr 0 0)), (7, .c (.ptr 1 0)), (8, .c (.ptr 2 0)), (31, .c (.d (.int .i64 0)))], h := [(0, .box t_impl_Table [.nl 1, .d (.str ByteArray.empty), .nl 1, .nl 1]), (1, .box t_impl_Table [.nl 1, .d (.str ByteArray.empty), .nl 1, .nl 1]), (2, .box t_2_impl_Table [.nl 1, .d (.str ByteArray.empty), .nl 1, .nl 1, .nl 1, .d (.str ByteArray.empty), .nl 1, .nl 1])], n := 3, N := 89 }
    | 1 => { t := [(1, ai k), (2, ai i), (3, rpTb t), (6, .c (.ptr 0 0)), (7, .c (.ptr 1 0)), (8, .c (.ptr 2 0)), (31, .c (.d (.int .i64 1)))], h := [(0, .box t_impl_Table [.nl 1, .d (.str ByteArray.empty), .nl 1, .nl 1]), (1, .box t_impl_Table [.nl 1, .d (.str ByteArray.empty), .nl 1, .nl 1]), (2, .box t_2_impl_Table [.ref 3 0 none, .d (.str t.target), .nl 1, .nl 1, .nl 1, .d (.str ByteArray.empty), .nl 1, .nl 1]), (3, .arr t_string 1 0 .own (eL cS t.names))], n := 4, N := 89 }
    | _ => { t := [(1, ai k), (2, ai i), (3, rpTb t), (6, .c (.ptr 0 0)), (7, .c (.ptr 1 0)), (8, .c (.ptr 2 0)), (31, .c (.d (.int .i64 2)))], h := [(0, .box t_impl_Table [.nl 1, .d (.str ByteArray.empty), .nl 1, .nl 1]), (1, .box t_impl_Table [.nl 1, .d (.str ByteArray.empty), .nl 1, .nl 1]), (2, .box t_2_impl_Table [.ref 3 0 none, .d (.str t.target), .nl 1, .nl 1, .ref 4 0 none, .d (.str t.target), .nl 1, .nl 1]), (3, .arr t_string 1 0 .own (eL cS t.names)), (4, .arr t_string 1 0 .own (eL cS t.names))], n := 5, N := 89 })
    (fun q => q ≤ 2) (fun q => 2 - q) 0 (by (conv => whnf); first | done | rfl) (Nat.zero_le _) ?_
  intro q hq
  rcases (show q = 0 ∨ q = 1 ∨ q = 2 by omega) with rfl | rfl | rfl
  · (conv => whnf)
    rw [show iLt 0 2 = true from rfl]
    conv => whnf
    refine tri_every hTn hmix [1, 2, 3, 6, 7, 8, 31] { t := [(1, ai k), (2, ai i), (3, rpTb t), (6, .c (.ptr 0 0)), (7, .c (.ptr 1 0)), (8, .c (.ptr 2 0)), (31, .c (.d (.int .i64 0)))], h := [(0, .box t_impl_Table [.nl 1, .d (.str ByteArray.empty), .nl 1, .nl 1]), (1, .box t_impl_Table [.nl 1, .d (.str ByteArray.empty), .nl 1, .nl 1]), (2, .box t_2_impl_Table [.ref 3 0 none, .d (.str t.target), .nl 1, .nl 1, .nl 1, .d (.str ByteArray.empty), .nl 1, .nl 1]), (3, .arr t_string 1 0 .own (eL cS t.names))], n := 4, N := 89 } rfl ?_ ?_
    · repeat' first
          | (refine anyV_one rfl ?_; (conv => whnf))
          | (refine anyV_two rfl ?_ ?_ <;> (conv => whnf))
          | (refine anyV_three rfl ?_ ?_ ?_ <;> (conv => whnf))
          | (refine anyV_four rfl ?_ ?_ ?_ ?_ <;> (conv => whnf))
          | (refine anyV_five rfl ?_ ?_ ?_ ?_ ?_ <;> (conv => whnf))
          | (refine anyV_six rfl ?_ ?_ ?_ ?_ ?_ ?_ <;> (conv => whnf))
          | (refine .inl ⟨_, _, _, hcl, rfl, ?_⟩; (conv => whnf))
          | (refine And.intro (by unfold InB; omega) ?_; (conv => whnf))
          | (refine anyV_end rfl ?_; (conv => whnf); first | done | rfl)
    conv => whnf
    refine ⟨1, by omega, by omega, ?_⟩
    ((conv => whnf); simp only [eS, show wAdd .i64 0 1 = 1 from wAdd64 (by omega) (by omega)])
    first | done | rfl
  · (conv => whnf)
    rw [show iLt 1 2 = true from rfl]
    conv => whnf
    refine tri_every hTn hmix [1, 2, 3, 6, 7, 8, 31] { t := [(1, ai k), (2, ai i), (3, rpTb t), (6, .c (.ptr 0 0)), (7, .c (.ptr 1 0)), (8, .c (.ptr 2 0)), (31, .c (.d (.int .i64 1)))], h := [(0, .box t_impl_Table [.nl 1, .d (.str ByteArray.empty), .nl 1, .nl 1]), (1, .box t_impl_Table [.nl 1, .d (.str ByteArray.empty), .nl 1, .nl 1]), (2, .box t_2_impl_Table [.ref 3 0 none, .d (.str t.target), .nl 1, .nl 1, .ref 4 0 none, .d (.str t.target), .nl 1, .nl 1]), (3, .arr t_string 1 0 .own (eL cS t.names)), (4, .arr t_string 1 0 .own (eL cS t.names))], n := 5, N := 89 } rfl ?_ ?_
    · repeat' first
          | (refine anyV_one rfl ?_; (conv => whnf))
          | (refine anyV_two rfl ?_ ?_ <;> (conv => whnf))
          | (refine anyV_three rfl ?_ ?_ ?_ <;> (conv => whnf))
          | (refine anyV_four rfl ?_ ?_ ?_ ?_ <;> (conv => whnf))
          | (refine anyV_five rfl ?_ ?_ ?_ ?_ ?_ <;> (conv => whnf))
          | (refine anyV_six rfl ?_ ?_ ?_ ?_ ?_ ?_ <;> (conv => whnf))
          | (refine .inl ⟨_, _, _, hcl, rfl, ?_⟩; (conv => whnf))
          | (refine And.intro (by unfold InB; omega) ?_; (conv => whnf))
          | (refine anyV_end rfl ?_; (conv => whnf); first | done | rfl)
    conv => whnf
    refine ⟨2, by omega, by omega, ?_⟩
    ((conv => whnf); simp only [eS, show wAdd .i64 1 1 = 2 from wAdd64 (by omega) (by omega)])
    first | done | rfl
  · (conv => whnf)
    rw [show iLt 2 2 = false from rfl]
    conv => whnf
    refine tri_nn 2 2 t_Lint 1 [t_int] ?_
    conv => whnf
    refine tri_nl 2 3 t_int 1 ?_
    conv => whnf
    refine tri_nn 2 6 t_Lint 1 [t_int] ?_
    conv => whnf
    refine tri_nl 2 7 t_int 1 ?_
    conv => whnf
    refine tri_loop hTn [1, 2, 3, 6, 7, 8, 47, 48, 49] (α := Nat) (fun r => { t := [(1, ai k), (2, ai i), (3, rpTb t), (6, .c (.ptr 0 0)), (7, .c (.ptr 1 0)), (8, .c (.ptr 2 0)), (47, aIss t.rows), (48, ai t.rows.length), (49, ai r)], h := [(0, .box t_impl_Table [.nl 1, .d (.str ByteArray.empty), .nl 1, .nl 1]), (1, .box t_impl_Table [.nl 1, .d (.str ByteArray.empty), .nl 1, .nl 1]), (2, .box t_2_impl_Table [.ref 3 0 none, .d (.str t.target), .ref 4 0 none, .ref 5 0 none, .ref 6 0 none, .d (.str t.target), .ref 7 0 none, .ref 8 0 none]), (3, .arr t_string 1 0 .own (eL cS t.names)), (4, rowIs (selL (outB k i) (t.rows.take r) 0)), (5, .arr t_int 1 0 .own (eL cI (selL (outB k i) (t.ys.take r) 0))), (6, .arr t_string 1 0 .own (eL cS t.names)), (7, rowIs (selL (inB k i) (t.rows.take r) 0)), (8, .arr t_int 1 0 .own (eL cI (selL (inB k i) (t.ys.take r) 0)))], n := 9, N := 89 })
      (fun r => r ≤ t.rows.length) (fun r => t.rows.length - r) 0 (by (conv => whnf); simp only [rowIs, List.take_zero, selL, eL_nil]; first | done | rfl | (rw [eR]; rfl)) (Nat.zero_le _) ?_
    intro r hr
    conv => whnf
    refine ifB_i (fun q => ?_) (fun q => ?_) <;> (conv => whnf) <;> simp only [eH] at q
    · obtain ⟨row, hrow⟩ := get_lt (show r < t.rows.length by omega)
      obtain ⟨y, hy⟩ := get_lt (show r < t.ys.length by omega)
      have hrc := hv.cols row (List.mem_of_getElem? hrow)
      have hclr := slices_Clone_ints_spec row (by omega)
      have e1 := selL_take (p := outB k i) hrow
      have e2 := selL_take (p := outB k i) hy
      have e3 := selL_take (p := inB k i) hrow
      have e4 := selL_take (p := inB k i) hy
      have l1 := selL_len (outB k i) (t.rows.take r) 0
      have l2 := selL_len (outB k i) (t.ys.take r) 0
      have l3 := selL_len (inB k i) (t.rows.take r) 0
      have l4 := selL_len (inB k i) (t.ys.take r) 0
      rw [List.length_take] at l1 l2 l3 l4
      generalize selL (outB k i) (t.rows.take r) 0 = ra at *
      generalize selL (outB k i) (t.ys.take r) 0 = ya at *
      generalize selL (inB k i) (t.rows.take r) 0 = rb at *
      generalize selL (inB k i) (t.ys.take r) 0 = yb at *
      refine idx_at (by simp) hrow ?_
      conv => whnf
      refine And.intro (by unfold NZ; omega) ?_
      conv => whnf
      rw [wRem_nat (by omega) (by omega) (by omega), show iEq ((r % k : Nat) : Int) (i : Int) = inB k i r from by unfold iEq inB; rw [decide_eq_decide]; omega]
      rw [show outB k i r = !inB k i r from rfl] at e1 e2
      cases hin : inB k i r with
      | true =>
        rw [hin] at e1 e2 e3 e4
        simp only [Bool.not_true, if_true, List.append_nil, if_neg (show ¬ (false = true) by decide)] at e1 e2 e3 e4
        conv => whnf
        refine tri_every hTn hmix [1, 2, 3, 6, 7, 8, 47, 48, 49] { t := [(1, ai k), (2, ai i), (3, rpTb t), (6, .c (.ptr 0 0)), (7, .c (.ptr 1 0)), (8, .c (.ptr 2 0)), (47, aIss t.rows), (48, ai t.rows.length), (49, ai r)], h := [(0, .box t_impl_Table [.nl 1, .d (.str ByteArray.empty), .nl 1, .nl 1]), (1, .box t_impl_Table [.nl 1, .d (.str ByteArray.empty), .nl 1, .nl 1]), (2, .box t_2_impl_Table [.ref 3 0 none, .d (.str t.target), .ref 4 0 none, .ref 5 0 none, .ref 6 0 none, .d (.str t.target), .ref 7 0 none, .ref 8 0 none]), (3, .arr t_string 1 0 .own (eL cS t.names)), (4, rowIs ra), (5, .arr t_int 1 0 .own (eL cI ya)), (6, .arr t_string 1 0 .own (eL cS t.names)), (7, rowIs (rb ++ [row])), (8, .arr t_int 1 0 .own (eL cI (yb ++ [y])))], n := 9, N := 89 } rfl ?_ ?_
        · repeat' first
            | (refine anyV_one rfl ?_; (conv => whnf))
            | (refine anyV_two rfl ?_ ?_ <;> (conv => whnf))
            | (refine anyV_three rfl ?_ ?_ ?_ <;> (conv => whnf))
            | (refine anyV_four rfl ?_ ?_ ?_ ?_ <;> (conv => whnf))
            | (refine anyV_five rfl ?_ ?_ ?_ ?_ ?_ <;> (conv => whnf))
            | (refine anyV_six rfl ?_ ?_ ?_ ?_ ?_ ?_ <;> (conv => whnf))
            | (refine .inl ⟨_, _, _, hclr, rfl, ?_⟩; (conv => whnf))
            | (refine idx_at (k := r) rfl hy ?_; (conv => whnf))
            | (refine ⟨flat_cI _, ?_⟩; (conv => whnf))
            | (refine And.intro (by unfold InB; omega) ?_; (conv => whnf))
            | (refine And.intro (by simp [partOf_none, eL_length, dLen_len]; omega) ?_; (conv => whnf))
            | (refine anyV_end rfl ?_; (conv => whnf); simp only [partOf_none]; rw [show dApp (eL cIs rb) [[D.sl 1 (eL cI row)]] = eL cIs (rb ++ [row]) from eL_app cIs rb row, show dApp (eL cI yb) [[D.int IntKind.i64 y]] = eL cI (yb ++ [y]) from eL_app cI yb y]; first | done | rfl)
        conv => whnf
        refine ⟨r + 1, by omega, by omega, ?_⟩
        ((conv => whnf); simp only [eS, wI (show r < t.rows.length by omega) (by omega)])
        rw [e1, e2, e3, e4]
        first | done | rfl | exact ⟨rfl, rfl, rfl, rfl⟩
      | false =>
        rw [hin] at e1 e2 e3 e4
        simp only [Bool.not_false, if_true, List.append_nil, if_neg (show ¬ (false = true) by decide)] at e1 e2 e3 e4
        conv => whnf
        refine tri_every hTn hmix [1, 2, 3, 6, 7, 8, 47, 48, 49] { t := [(1, ai k), (2, ai i), (3, rpTb t), (6, .c (.ptr 0 0)), (7, .c (.ptr 1 0)), (8, .c (.ptr 2 0)), (47, aIss t.rows), (48, ai t.rows.length), (49, ai r)], h := [(0, .box t_impl_Table [.nl 1, .d (.str ByteArray.empty), .nl 1, .nl 1]), (1, .box t_impl_Table [.nl 1, .d (.str ByteArray.empty), .nl 1, .nl 1]), (2, .box t_2_impl_Table [.ref 3 0 none, .d (.str t.target), .ref 4 0 none, .ref 5 0 none, .ref 6 0 none, .d (.str t.target), .ref 7 0 none, .ref 8 0 none]), (3, .arr t_string 1 0 .own (eL cS t.names)), (4, rowIs (ra ++ [row])), (5, .arr t_int 1 0 .own (eL cI (ya ++ [y]))), (6, .arr t_string 1 0 .own (eL cS t.names)), (7, rowIs rb), (8, .arr t_int 1 0 .own (eL cI yb))], n := 9, N := 89 } rfl ?_ ?_
        · repeat' first
            | (refine anyV_one rfl ?_; (conv => whnf))
            | (refine anyV_two rfl ?_ ?_ <;> (conv => whnf))
            | (refine anyV_three rfl ?_ ?_ ?_ <;> (conv => whnf))
            | (refine anyV_four rfl ?_ ?_ ?_ ?_ <;> (conv => whnf))
            | (refine anyV_five rfl ?_ ?_ ?_ ?_ ?_ <;> (conv => whnf))
            | (refine anyV_six rfl ?_ ?_ ?_ ?_ ?_ ?_ <;> (conv => whnf))
            | (refine .inl ⟨_, _, _, hclr, rfl, ?_⟩; (conv => whnf))
            | (refine idx_at (k := r) rfl hy ?_; (conv => whnf))
            | (refine ⟨flat_cI _, ?_⟩; (conv => whnf))
            | (refine And.intro (by unfold InB; omega) ?_; (conv => whnf))
            | (refine And.intro (by simp [partOf_none, eL_length, dLen_len]; omega) ?_; (conv => whnf))
            | (refine anyV_end rfl ?_; (conv => whnf); simp only [partOf_none]; rw [show dApp (eL cIs ra) [[D.sl 1 (eL cI row)]] = eL cIs (ra ++ [row]) from eL_app cIs ra row, show dApp (eL cI ya) [[D.int IntKind.i64 y]] = eL cI (ya ++ [y]) from eL_app cI ya y]; first | done | rfl)
        conv => whnf
        refine ⟨r + 1, by omega, by omega, ?_⟩
        ((conv => whnf); simp only [eS, wI (show r < t.rows.length by omega) (by omega)])
        rw [e1, e2, e3, e4]
        first | done | rfl | exact ⟨rfl, rfl, rfl, rfl⟩
    · obtain rfl : r = t.rows.length := by omega
      rw [List.take_length, ← hyl, List.take_length]
      refine tri_every hTn hmix [6, 7] { t := [(6, .c (.ptr 0 0)), (7, .c (.ptr 4 0))], h := [(0, .box t_impl_Table [.ref 1 0 none, .d (.str t.target), .ref 2 0 none, .ref 3 0 none]), (1, .arr t_string 1 0 .own (eL cS t.names)), (2, rowIs (selL (outB k i) t.rows 0)), (3, .arr t_int 1 0 .own (eL cI (selL (outB k i) t.ys 0))), (4, .box t_impl_Table [.ref 5 0 none, .d (.str t.target), .ref 6 0 none, .ref 7 0 none]), (5, .arr t_string 1 0 .own (eL cS t.names)), (6, rowIs (selL (inB k i) t.rows 0)), (7, .arr t_int 1 0 .own (eL cI (selL (inB k i) t.ys 0)))], n := 8, N := 89 } rfl ?_ ?_
      · repeat' first
          | (refine anyV_one rfl ?_; (conv => whnf))
          | (refine anyV_two rfl ?_ ?_ <;> (conv => whnf))
          | (refine anyV_three rfl ?_ ?_ ?_ <;> (conv => whnf))
          | (refine anyV_four rfl ?_ ?_ ?_ ?_ <;> (conv => whnf))
          | (refine And.intro (by unfold InB; omega) ?_; (conv => whnf))
          | (refine anyV_end rfl ?_; (conv => whnf); first | done | rfl)
      · (conv => whnf)
        simp only [partOf_none, foldA, foldB, tupTT, cTb]
        first | done | rfl
end Go.H.S
