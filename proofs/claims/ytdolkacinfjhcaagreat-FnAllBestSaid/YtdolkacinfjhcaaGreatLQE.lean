/- Library, part QB: columns, cuts and grids of a table (the reference's). -/
import Derived.Test.YtdolkacinfjhcaaGreatLX
import Derived.Test.YtdolkacinfjhcaaGreatLNI
import Derived.Test.YtdolkacinfjhcaaGreatH31
set_option maxRecDepth 100000
set_option linter.unusedSimpArgs false
set_option linter.unusedVariables false
namespace Go.H.S
open Go Go.Proofs Go.H
attribute [local irreducible] Tri FnSpec FnSpecM FnSpecX FnSpecJ FnSpecB
abbrev rpTb (t : Tbl) : AV := .c (.d (.rp [.sl 1 (eL cS t.names), .str t.target, .sl 1 (eL cIs t.rows), .sl 1 (eL cI t.ys)]))
def columnL (t : Tbl) (f : Nat) : List Int := t.rows.map fun r => (r[f]?).getD 0
theorem column_take {t : Tbl} {f k : Nat} {r : List Int} (h : t.rows[k]? = some r) : (t.rows.take (k + 1)).map (fun r => (r[f]?).getD 0) = (t.rows.take k).map (fun r => (r[f]?).getD 0) ++ [(r[f]?).getD 0] := by
 rw [List.take_add_one, h]; simp
theorem spec_Column_spec (t : Tbl) (f : Nat) (hf : f < t.names.length) (hn : t.names.length ≤ 1000) (hr : t.rows.length ≤ 1048576) (hc : ∀ r ∈ t.rows, r.length ≤ 1048576) : FnSpec PR f_spec_Column [aTb t, ai f] (.c (.ref 0 0 none)) [(0, .arr t_int 1 0 .own (eL cI (columnL t f)))] 1 := by
 have e1 : wSub .i64 (nInt (dLen (eL cS t.names))) 1 = (t.names.length : Int) - 1 := by rw [show nInt (dLen (eL cS t.names)) = (t.names.length : Int) by simp]; exact wSub64 (by omega) (by omega)
 refine FnSpec.intro hT (pf Tryz.func166) rfl (by kernel_rfl) Tryz.ntmps166 rfl ?_
 conv => whnf
 refine tri_rp 0 ?_
 conv => whnf
 refine tri_loop hT [1, 2, 5, 6] (α := Nat) (fun k => { t := [(1, ai f), (2, rpTb t), (5, .c (.ref 0 0 none)), (6, ai k)], h := [(0, .arr t_int 1 0 .own (eL cI ((t.rows.take k).map fun r => (r[f]?).getD 0)))], n := 1, N := 46 })
  (fun k => k ≤ t.rows.length) (fun k => t.rows.length - k) 0 (by ((conv => whnf); simp only [eS, List.take_zero, List.map_nil, eL_nil]); rfl) (Nat.zero_le _) ?_
 intro k hk
 conv => whnf
 cases q1 : iLt (k : Int) (nInt (dLen (eL cIs t.rows)))
 ·simp only [eH] at q1
  obtain rfl : k = t.rows.length := by omega
  conv => whnf
  rw [List.take_length]
  rfl
 ·simp only [eH] at q1
  obtain ⟨r, hrk⟩ := get_lt (show k < t.rows.length by omega)
  have hrl := hc r (List.mem_of_getElem? hrk)
  have hstep := column_take (f := f) hrk
  conv => whnf
  rw [e1]
  refine .inl ⟨_, _, _, spec_l1In_spec _ _ _, rfl, ?_⟩
  rw [show decide ((0 : Int) ≤ (f : Int) ∧ (f : Int) ≤ (t.names.length : Int) - 1) = true from decide_eq_true (by omega)]
  conv => whnf
  refine idx_at (by simp) hrk ?_
  conv => whnf
  refine ifB_i (fun q2 => ?_) (fun q2 => ?_) <;> (conv => whnf) <;> simp only [eH] at q2
  ·obtain ⟨v, hv⟩ := get_lt (show f < r.length by omega)
   refine idx_at (by simp) hrk ?_
   conv => whnf
   refine idx_at (by simp) hv ?_
   conv => whnf
   refine And.intro (by simp [eL_length, dLen_len]; omega) ?_
   conv => whnf
   refine ⟨k + 1, by omega, by omega, ?_⟩
   ((conv => whnf); simp only [eS, wI (show k < t.rows.length by omega) (by omega)])
   rw [hstep, hv, ← eL_app]
   first | exact ⟨rfl, rfl⟩ | rfl
  ·refine And.intro (by simp [eL_length, dLen_len]; omega) ?_
   conv => whnf
   refine ⟨k + 1, by omega, by omega, ?_⟩
   ((conv => whnf); simp only [eS, wI (show k < t.rows.length by omega) (by omega)])
   rw [hstep, List.getElem?_eq_none (by omega), ← eL_app]
   first | exact ⟨rfl, rfl⟩ | rfl
def cutK (s : List Int) (n b k : Nat) : Option Int := if 1 ≤ n * k / b ∧ (s[n * k / b - 1]?).getD 0 < (s[n - 1]?).getD 0 then some ((s[n * k / b - 1]?).getD 0) else none
def cutsAll (s : List Int) (n b k : Nat) : List Int := (List.range k).filterMap (cutK s n b)
def cutsOfL (xs : List Int) (b : Nat) : List Int := distinctL (cutsAll (sortL xs) xs.length b b)
theorem cutsAll_step (s : List Int) (n b k : Nat) : cutsAll s n b (k + 1) = cutsAll s n b k ++ (cutK s n b k).toList := by
 simp only [cutsAll, List.range_succ, List.filterMap_append]
 congr 1
theorem cutsAll_len (s : List Int) (n b k : Nat) : (cutsAll s n b k).length ≤ k := by
 have := List.length_filterMap_le (cutK s n b) (List.range k)
 simpa [cutsAll] using this
theorem spec_CutsOf_spec (xs : List Int) (b : Nat) (hb : 2 ≤ b ∧ b ≤ 8) (hx : 1 ≤ xs.length ∧ xs.length ≤ 40) : FnSpec PR f_spec_CutsOf [aIs xs, ai b] (.c (.ref 0 0 none)) [(0, .arr t_int 1 0 .own (eL cI (cutsOfL xs b)))] 1 := by
 have eX : nInt (dLen (eL cI xs)) = (xs.length : Int) := by simp
 refine FnSpec.intro hT (pf Tryz.func167) rfl (by kernel_rfl) Tryz.ntmps167 rfl ?_
 conv => whnf
 refine .inl ⟨_, _, _, spec_l1In_spec _ _ _, rfl, ?_⟩
 rw [show decide ((2 : Int) ≤ (b : Int) ∧ (b : Int) ≤ 8) = true from decide_eq_true (by omega)]
 conv => whnf
 rw [eX]
 refine .inl ⟨_, _, _, spec_l1In_spec _ _ _, rfl, ?_⟩
 rw [show decide ((1 : Int) ≤ (xs.length : Int) ∧ (xs.length : Int) ≤ 40) = true from decide_eq_true (by omega)]
 conv => whnf
 refine .inl ⟨_, _, _, spec_SortInts_spec xs (by omega), rfl, ?_⟩
 have hsl := sortL_len xs
 have hd : cutsOfL xs b = distinctL (cutsAll (sortL xs) xs.length b b) := rfl
 rw [hd]
 generalize sortL xs = s at *
 generalize xs.length = n at *
 conv => whnf
 have h0 : cutsAll s n b 1 = [] := by simp [cutsAll, cutK]
 refine tri_loop hT [1, 5, 6, 7, 8] (α := Nat) (fun k => { t := [(1, ai b), (5, ai n), (6, aIs s), (7, .c (.ref 0 0 none)), (8, ai k)], h := [(0, .arr t_int 1 0 .own (eL cI (cutsAll s n b k)))], n := 1, N := 59 })
  (fun k => 1 ≤ k ∧ k ≤ b) (fun k => b - k) 1 (by ((conv => whnf); simp only [eS, h0, eL_nil, partOf_none]); first | done | rfl | exact ⟨rfl, rfl⟩) (by omega) ?_
 intro k ⟨hk1, hk⟩
 conv => whnf
 refine ifB_i (fun q1 => ?_) (fun q1 => ?_) <;> (conv => whnf) <;> simp only [eH] at q1
 ·have hnk : n * k ≤ 320 := by
   have : n * k ≤ 40 * 8 := Nat.mul_le_mul hx.2 (by omega)
   omega
  have hnb : n * k / b < n := by
   rw [Nat.div_lt_iff_lt_mul (by omega)]
   exact Nat.mul_lt_mul_of_pos_left (by omega) (by omega)
  have hc : (n : Int) * (k : Int) = ((n * k : Nat) : Int) := (Int.natCast_mul n k).symm
  have e1 : wMul .i64 (n : Int) (k : Int) = ((n * k : Nat) : Int) := by rw [wMul64 (by rw [hc]; omega) (by rw [hc]; omega), hc]
  have e2 : wQuo .i64 ((n * k : Nat) : Int) (b : Int) = ((n * k / b : Nat) : Int) := by rw [wQuo_small (by omega) (by omega)]; rfl
  have hstep := cutsAll_step s n b k
  have hcl := cutsAll_len s n b k
  have hck : cutK s n b k = if 1 ≤ n * k / b ∧ (s[n * k / b - 1]?).getD 0 < (s[n - 1]?).getD 0 then some ((s[n * k / b - 1]?).getD 0) else none := rfl
  refine And.intro (by unfold NZ; omega) ?_
  rw [e1]
  conv => whnf
  rw [e2]
  generalize n * k / b = i at *
  obtain ⟨z, hz⟩ := get_lt (show n - 1 < s.length by omega)
  have e4 : wSub .i64 (n : Int) 1 = ((n - 1 : Nat) : Int) := by rw [wSub64] <;> omega
  refine tri_conf hT hmix (by kernel_rfl) ?_
  conv => whnf
  cases q2 : iLe 1 (i : Int) <;> simp only [eH] at q2 <;> (conv => whnf)
  ·repeat' (first | (refine And.intro (fun q => ?_) (fun q => ?_) <;> cases q <;> (conv => whnf)) | fail)
   refine ⟨k + 1, by omega, by omega, ?_⟩
   rw [if_neg (by omega)] at hck
   rw [hck] at hstep
   simp only [Option.toList_none, List.append_nil] at hstep
   ((conv => whnf); simp only [eS, wI (show k < b by omega) (by omega)])
   rw [hstep]
  ·obtain ⟨y, hy⟩ := get_lt (show i - 1 < s.length by omega)
   have e3 : wSub .i64 (i : Int) 1 = ((i - 1 : Nat) : Int) := by rw [wSub64] <;> omega
   rw [hy, hz] at hck
   simp only [Option.getD_some] at hck
   repeat' first
    | (refine And.intro (fun q => ?_) (fun q => ?_) <;> cases q <;> (conv => whnf))
    | (refine idx_at e3 hy ?_; (conv => whnf))
    | (refine idx_at e4 hz ?_; (conv => whnf))
   refine ifB_i (fun q3 => ?_) (fun q3 => ?_) <;> (conv => whnf) <;> simp only [eH] at q3
   ·refine idx_at e3 hy ?_
    conv => whnf
    refine And.intro (by simp [eL_length, dLen_len]; omega) ?_
    conv => whnf
    rw [if_pos ⟨by omega, q3⟩] at hck
    rw [hck] at hstep
    simp only [Option.toList_some] at hstep
    refine ⟨k + 1, by omega, by omega, ?_⟩
    ((conv => whnf); simp only [eS, wI (show k < b by omega) (by omega)])
    rw [hstep, ← eL_app]
    first | exact ⟨rfl, rfl⟩ | rfl
   ·rw [if_neg (by omega)] at hck
    rw [hck] at hstep
    simp only [Option.toList_none, List.append_nil] at hstep
    refine ⟨k + 1, by omega, by omega, ?_⟩
    ((conv => whnf); simp only [eS, wI (show k < b by omega) (by omega)])
    rw [hstep]
 ·obtain rfl : k = b := by omega
  have hcl := cutsAll_len s n k k
  refine .inr (.inl ⟨_, _, _, spec_Distinct_spec (cutsAll s n k k) (by omega), rfl, ⟨flat_cI _, trivial⟩, ?_⟩)
  conv => whnf
  first | done | rfl
end Go.H.S
namespace Go.H.S
open Go Go.Proofs Go.H
attribute [local irreducible] Tri FnSpec FnSpecM FnSpecX FnSpecJ FnSpecB
def valOk (x : Int) : Bool := decide (-2147483647 ≤ x ∧ x ≤ 2147483647)
def rowsOkL (n : Nat) (ys : List Int) : List (List Int) → Nat → Bool
 | [], _ => true
 | r :: rest, k => (decide (r.length = n) && (valOk ((ys[k]?).getD 0) && r.all valOk)) && rowsOkL n ys rest (k + 1)
def tableOk (t : Tbl) : Bool :=
 decide (1 ≤ (t.names.length : Int) ∧ (t.names.length : Int) ≤ 4) && (nameOk t.target && (!hasS t.target t.names && (decide (1 ≤ (t.rows.length : Int) ∧ (t.rows.length : Int) ≤ 40) && (decide (t.ys.length = t.rows.length) &&
  (namesL t.names t.names 0 && rowsOkL t.names.length t.ys t.rows 0)))))
set_option maxHeartbeats 4000000 in
theorem spec_TableOk_spec (t : Tbl) (hn : t.names.length ≤ 1048576) (hns : ∀ s ∈ t.names, s.size ≤ 9223372036854775807) (htg : t.target.size ≤ 9223372036854775807) (hr : t.rows.length ≤ 1048576) (hc : ∀ r ∈ t.rows, r.length ≤ 1048576) (hy : t.ys.length ≤ 1048576) : FnSpec PR f_spec_TableOk [aTb t] (ab (tableOk t)) [] 0 := by
 have eN : nInt (dLen (eL cS t.names)) = (t.names.length : Int) := by simp
 have eR : nInt (dLen (eL cIs t.rows)) = (t.rows.length : Int) := by simp
 have eY : nInt (dLen (eL cI t.ys)) = (t.ys.length : Int) := by simp
 refine FnSpec.intro hT (pf Tryz.func63) rfl (by kernel_rfl) Tryz.ntmps63 rfl ?_
 conv => whnf
 rw [eN]
 refine .inl ⟨_, _, _, spec_l1In_spec _ _ _, rfl, ?_⟩
 generalize e1 : decide (1 ≤ (t.names.length : Int) ∧ (t.names.length : Int) ≤ 4) = c1
 cases c1 <;> (conv => whnf)
 ·simp [tableOk, e1]
 refine .inl ⟨_, _, _, spec_NameOk_spec t.target htg, rfl, ?_⟩
 generalize e2 : nameOk t.target = c2
 cases c2 <;> (conv => whnf)
 ·simp [tableOk, e2]
 refine .inl ⟨_, _, _, spec_l9Has_spec t.names t.target (by omega), rfl, ?_⟩
 generalize e3 : hasS t.target t.names = c3
 cases c3 with
 | true =>
  conv => whnf
  simp [tableOk, e3]
 | false =>
 conv => whnf
 rw [eR]
 refine .inl ⟨_, _, _, spec_l1In_spec _ _ _, rfl, ?_⟩
 generalize e4 : decide (1 ≤ (t.rows.length : Int) ∧ (t.rows.length : Int) ≤ 40) = c4
 cases c4 <;> (conv => whnf)
 ·simp [tableOk, e4]
 rw [eY, eR]
 generalize e5 : iEq (t.ys.length : Int) (t.rows.length : Int) = c5
 cases c5 <;> (conv => whnf) <;> simp only [eH] at e5
 ·have h5 : ¬ t.ys.length = t.rows.length := by omega
  simp [tableOk, h5]
 have h5 : t.ys.length = t.rows.length := by omega
 have hto : tableOk t = (namesL t.names t.names 0 && rowsOkL t.names.length t.ys t.rows 0) := by
  simp only [tableOk]; rw [e1, e2, e3, e4, decide_eq_true h5]; rfl
 rw [hto]
 refine tri_loop hT [1, 3, 4] (α := Nat) (fun k => { t := [(1, .c (.ptr 0 0)), (3, ai t.names.length), (4, ai k)], h := [(0, .box t_impl_Table (cTb t))], n := 1, N := 105 })
  (fun k => k ≤ t.names.length ∧ namesL t.names (t.names.drop k) k = namesL t.names t.names 0) (fun k => t.names.length - k) 0 (by ((conv => whnf); simp only [eS]); first | done | simp) ⟨Nat.zero_le _, rfl⟩ ?_
 intro k ⟨hk, hi⟩
 conv => whnf
 refine ifB_i (fun g1 => ?_) (fun g1 => ?_) <;> (conv => whnf) <;> simp at g1
 ·obtain ⟨s, hs'⟩ := get_lt g1
  rw [drop_at hs', namesL] at hi
  refine tri_conf hT hmix (by kernel_rfl) ?_
  conv => whnf
  refine idx_at (by simp) hs' ?_
  conv => whnf
  refine ⟨_, _, spec_NameOk_spec s (hns s (List.mem_of_getElem? hs')), rfl, ?_⟩
  cases hb : nameOk s
  ·conv => whnf
   repeat' (first | (refine And.intro (fun q => ?_) (fun q => ?_) <;> cases q <;> (conv => whnf)) | fail)
   rw [hb] at hi
   have : namesL t.names t.names 0 = false := by rw [← hi]; simp
   rw [this]
   conv => whnf
   rfl
  ·rw [hb, Bool.true_and] at hi
   conv => whnf
   repeat' (first | (refine And.intro (fun q => ?_) (fun q => ?_) <;> cases q <;> (conv => whnf)) | fail)
   refine And.intro (by simp; omega) ?_
   rw [dCut_take]
   conv => whnf
   repeat' (first | (refine And.intro (fun q => ?_) (fun q => ?_) <;> cases q <;> (conv => whnf)) | fail)
   refine idx_at (by simp) hs' ?_
   conv => whnf
   repeat' (first | (refine And.intro (fun q => ?_) (fun q => ?_) <;> cases q <;> (conv => whnf)) | fail)
   refine ⟨_, _, spec_l9Has_spec (t.names.take k) s (by simp; omega), rfl, ?_⟩
   cases hh : hasS s (t.names.take k)
   ·conv => whnf
    repeat' (first | (refine And.intro (fun q => ?_) (fun q => ?_) <;> cases q <;> (conv => whnf)) | fail)
    rw [hh] at hi
    refine ⟨k + 1, by omega, ⟨g1, by simpa using hi⟩, ?_⟩
    ((conv => whnf); simp only [eS, wI g1 (by omega)])
   ·conv => whnf
    repeat' (first | (refine And.intro (fun q => ?_) (fun q => ?_) <;> cases q <;> (conv => whnf)) | fail)
    rw [hh] at hi
    have : namesL t.names t.names 0 = false := by rw [← hi]; simp
    rw [this]
    conv => whnf
    rfl
 ·obtain rfl : k = t.names.length := by omega
  simp only [List.drop_length, namesL] at hi
  rw [← hi, Bool.true_and]
  refine tri_loop hT [1, 3, 5] (α := Nat) (fun k => { t := [(1, .c (.ptr 0 0)), (3, ai t.names.length), (5, ai k)], h := [(0, .box t_impl_Table (cTb t))], n := 1, N := 105 })
   (fun k => k ≤ t.rows.length ∧ rowsOkL t.names.length t.ys (t.rows.drop k) k = rowsOkL t.names.length t.ys t.rows 0) (fun k => t.rows.length - k) 0 (by ((conv => whnf); simp only [eS])) ⟨Nat.zero_le _, rfl⟩ ?_
  intro k ⟨hk2, hj⟩
  conv => whnf
  refine ifB_i (fun g2 => ?_) (fun g2 => ?_) <;> (conv => whnf) <;> simp at g2
  ·obtain ⟨r, hx⟩ := get_lt g2
   obtain ⟨y, hyk⟩ := get_lt (show k < t.ys.length by omega)
   rw [drop_at hx, rowsOkL, hyk] at hj
   simp only [Option.getD_some] at hj
   refine idx_at (by simp) hx ?_
   conv => whnf
   rw [show nInt (dLen (eL cI r)) = (r.length : Int) by simp]
   generalize q1 : iEq (r.length : Int) (t.names.length : Int) = c1
   cases c1 <;> (conv => whnf) <;> simp only [eH] at q1
   ·rw [decide_eq_false (show ¬ r.length = t.names.length by omega)] at hj
    rw [← hj]
    rfl
   rw [decide_eq_true (show r.length = t.names.length by omega), Bool.true_and] at hj
   refine idx_at (by simp) hyk ?_
   conv => whnf
   refine .inl ⟨_, _, _, spec_l6Value_spec _, rfl, ?_⟩
   rw [show decide (-2147483647 ≤ y ∧ y ≤ 2147483647) = valOk y from rfl]
   cases hb : valOk y
   ·conv => whnf
    rw [hb] at hj
    rw [← hj]
    rfl
   rw [hb, Bool.true_and] at hj
   conv => whnf
   refine tri_loop hT [1, 3, 5, 6] (α := Nat) (fun j => { t := [(1, .c (.ptr 0 0)), (3, ai t.names.length), (5, ai k), (6, ai j)], h := [(0, .box t_impl_Table (cTb t))], n := 1, N := 105 })
    (fun j => j ≤ r.length ∧ (r.drop j).all valOk = r.all valOk) (fun j => r.length - j) 0 (by ((conv => whnf); simp only [eS])) ⟨Nat.zero_le _, rfl⟩ ?_
   intro j ⟨hj1, hj2⟩
   conv => whnf
   refine ifB_i (fun g3 => ?_) (fun g3 => ?_) <;> (conv => whnf) <;> simp at g3
   ·obtain ⟨v, hv⟩ := get_lt (show j < r.length by omega)
    rw [drop_at hv, List.all_cons] at hj2
    refine idx_at (by simp) hx ?_
    conv => whnf
    refine idx_at (by simp) hv ?_
    conv => whnf
    refine .inl ⟨_, _, _, spec_l6Value_spec _, rfl, ?_⟩
    rw [show decide (-2147483647 ≤ v ∧ v ≤ 2147483647) = valOk v from rfl]
    cases hb2 : valOk v
    ·conv => whnf
     rw [hb2] at hj2
     rw [← hj2] at hj
     rw [← hj]
     rfl
    ·conv => whnf
     rw [hb2] at hj2
     refine ⟨j + 1, by omega, ⟨by omega, by simpa using hj2⟩, ?_⟩
     ((conv => whnf); simp only [eS, wI g3 (by omega)])
   ·obtain rfl : j = r.length := by omega
    simp only [List.drop_length, List.all_nil] at hj2
    rw [← hj2, Bool.true_and] at hj
    refine ⟨k + 1, by omega, ⟨g2, hj⟩, ?_⟩
    ((conv => whnf); simp only [eS, wI g2 (by omega)])
  ·obtain rfl : k = t.rows.length := by omega
   simp only [List.drop_length, rowsOkL] at hj
   rw [← hj]
end Go.H.S
namespace Go.H.S
open Go Go.Proofs Go.H
attribute [local irreducible] Tri FnSpec FnSpecM FnSpecX FnSpecJ FnSpecB
def cutsT (t : Tbl) (b f : Nat) : List Int := cutsOfL (columnL t f) b
def binsT (t : Tbl) (b f : Nat) : List Int := (columnL t f).map fun v => ((binOfL (cutsT t b f) v : Nat) : Int)
def cutsTo (t : Tbl) (b n : Nat) : List (List Int) := (List.range n).map (cutsT t b)
def binsTo (t : Tbl) (b n : Nat) : List (List Int) := (List.range n).map (binsT t b)
def gridT (t : Tbl) (b : Nat) : Grd := ⟨cutsTo t b t.names.length, binsTo t b t.names.length⟩
theorem cutsTo_succ (t : Tbl) (b n : Nat) : cutsTo t b (n + 1) = cutsTo t b n ++ [cutsT t b n] := by simp [cutsTo, List.range_succ]
theorem binsTo_succ (t : Tbl) (b n : Nat) : binsTo t b (n + 1) = binsTo t b n ++ [binsT t b n] := by simp [binsTo, List.range_succ]
theorem cutsTo_len (t : Tbl) (b n : Nat) : (cutsTo t b n).length = n := by simp [cutsTo]
theorem binsTo_len (t : Tbl) (b n : Nat) : (binsTo t b n).length = n := by simp [binsTo]
theorem columnL_len (t : Tbl) (f : Nat) : (columnL t f).length = t.rows.length := by simp [columnL]
theorem cutsT_len (t : Tbl) {b f : Nat} (hb : b ≤ 8) : (cutsT t b f).length ≤ 8 := by
 have h1 := distinctL_len (cutsAll (sortL (columnL t f)) (columnL t f).length b b)
 have h2 := cutsAll_len (sortL (columnL t f)) (columnL t f).length b b
 show (distinctL _).length ≤ 8
 omega
theorem tableOk_p {t : Tbl} (h : tableOk t = true) : (1 ≤ t.names.length ∧ t.names.length ≤ 4) ∧ (1 ≤ t.rows.length ∧ t.rows.length ≤ 40) ∧ t.ys.length = t.rows.length := by
 simp only [tableOk, Bool.and_eq_true, decide_eq_true_eq] at h
 obtain ⟨h1, _, _, h4, h5, _⟩ := h
 exact ⟨by omega, by omega, h5⟩
abbrev aGn : AV := .agg [.ref 0 0 none, .ref 1 0 none]
abbrev rowIs (xs : List (List Int)) : Ent := .arr t_Lint 1 0 (.nest [t_int]) (eL cIs xs)
set_option maxHeartbeats 4000000 in
theorem spec_GridOf_spec (t : Tbl) (b : Nat) (hb : 2 ≤ b ∧ b ≤ 8) (ht : tableOk t = true) (hn : t.names.length ≤ 1048576) (hns : ∀ s ∈ t.names, s.size ≤ 9223372036854775807) (htg : t.target.size ≤ 9223372036854775807) (hr : t.rows.length ≤ 1048576) (hc : ∀ r ∈ t.rows, r.length ≤ 1048576) (hy : t.ys.length ≤ 1048576) : FnSpec PR f_spec_GridOf [aTb t, ai b] aGn [(0, rowIs (gridT t b).cuts), (1, rowIs (gridT t b).bins)] 2 := by
 obtain ⟨hn4, hr40, hyl⟩ := tableOk_p ht
 show FnSpec PR f_spec_GridOf [aTb t, ai b] aGn [(0, rowIs (cutsTo t b t.names.length)), (1, rowIs (binsTo t b t.names.length))] 2
 refine FnSpec.intro hTn (pf Tryz.func66) rfl (by kernel_rfl) Tryz.ntmps66 rfl ?_
 conv => whnf
 refine .inl ⟨_, _, _, spec_TableOk_spec t hn hns htg hr hc hy, rfl, ?_⟩
 rw [ht]
 conv => whnf
 refine .inl ⟨_, _, _, spec_l1In_spec _ _ _, rfl, ?_⟩
 rw [show decide ((2 : Int) ≤ (b : Int) ∧ (b : Int) ≤ 8) = true from decide_eq_true (by omega)]
 conv => whnf
 refine tri_rp 0 ?_
 conv => whnf
 refine tri_nn 2 0 t_Lint 1 [t_int] ?_
 conv => whnf
 refine tri_nn 2 1 t_Lint 1 [t_int] ?_
 conv => whnf
 refine tri_loop hTn [1, 2, 4, 5, 6] (α := Nat) (fun f => { t := [(1, ai b), (2, rpTb t), (4, .c (.ptr 0 0)), (5, .c (.ptr 1 0)), (6, ai f)], h := [(0, .box t_impl_Grid [.nl 1, .nl 1]), (1, .box t_impl_Grid [.ref 2 0 none, .ref 3 0 none]), (2, rowIs (cutsTo t b f)), (3, rowIs (binsTo t b f))], n := 4, N := 63 })
  (fun f => f ≤ t.names.length) (fun f => t.names.length - f) 0 (by (conv => whnf); simp only [rowIs, cutsTo, binsTo, List.range_zero, List.map_nil, eL_nil]; rfl) (Nat.zero_le _) ?_
 intro f hf
 conv => whnf
 refine ifB_i (fun h1 => ?_) (fun h1 => ?_) <;> (conv => whnf) <;> simp at h1
 ·refine .inl ⟨_, _, _, spec_Column_spec t f h1 (by omega) hr hc, rfl, ?_⟩
  conv => whnf
  have hcl := columnL_len t f
  refine .inr (.inl ⟨_, _, _, spec_CutsOf_spec (columnL t f) b hb (by omega), rfl, ⟨flat_cI _, trivial⟩, ?_⟩)
  rw [show cutsOfL (columnL t f) b = cutsT t b f from rfl]
  conv => whnf
  have hkl := cutsT_len t (f := f) hb.2
  refine tri_loop hTn [1, 2, 4, 5, 6, 7, 8, 9, 10] (α := Nat) (fun j => { t := [(1, ai b), (2, rpTb t), (4, .c (.ptr 0 0)), (5, .c (.ptr 1 0)), (6, ai f), (7, aIs (columnL t f)), (8, .c (.ref 4 0 none)), (9, .c (.ref 5 0 none)), (10, ai j)], h := [(0, .box t_impl_Grid [.nl 1, .nl 1]), (1, .box t_impl_Grid [.ref 2 0 none, .ref 3 0 none]), (2, rowIs (cutsTo t b f)), (3, rowIs (binsTo t b f)), (4, .arr t_int 1 0 .own (eL cI (cutsT t b f))), (5, .arr t_int 1 0 .own (eL cI (((columnL t f).take j).map fun v => ((binOfL (cutsT t b f) v : Nat) : Int))))], n := 6, N := 63 })
   (fun j => j ≤ (columnL t f).length) (fun j => (columnL t f).length - j) 0 (by (conv => whnf); simp only [List.take_zero, List.map_nil, eL_nil, partOf_none]; first | done | rfl) (Nat.zero_le _) ?_
  intro j hj
  conv => whnf
  refine ifB_i (fun h2 => ?_) (fun h2 => ?_) <;> (conv => whnf) <;> simp [iLt] at h2
  ·obtain ⟨v, hv⟩ := get_lt (show j < (columnL t f).length by omega)
   refine idx_at (by simp) hv ?_
   conv => whnf
   refine .inr (.inl ⟨_, _, _, spec_BinOf_spec (cutsT t b f) v (by omega), rfl, trivial, ?_⟩)
   conv => whnf
   refine And.intro (by simp [eL_length, dLen_len]; omega) ?_
   conv => whnf
   refine ⟨j + 1, by omega, by omega, ?_⟩
   ((conv => whnf); simp only [eS, wI (show j < (columnL t f).length by omega) (by omega)])
   rw [List.take_add_one, hv, List.map_append, Option.toList_some, List.map_cons, List.map_nil, ← eL_app]
   first | exact ⟨rfl, rfl⟩ | rfl
  ·obtain rfl : j = (columnL t f).length := by omega
   rw [List.take_length, show ((columnL t f).map fun v => ((binOfL (cutsT t b f) v : Nat) : Int)) = binsT t b f from rfl]
   refine ⟨flat_cI _, ?_⟩
   conv => whnf
   refine And.intro (by simp [eL_length, dLen_len, cutsTo_len]; omega) ?_
   conv => whnf
   refine ⟨flat_cI _, ?_⟩
   conv => whnf
   refine And.intro (by simp [eL_length, dLen_len, binsTo_len]; omega) ?_
   conv => whnf
   refine ⟨f + 1, by omega, by omega, ?_⟩
   ((conv => whnf); simp only [eS, wI h1 (by omega)])
   rw [cutsTo_succ, binsTo_succ, ← eL_app, ← eL_app]
   first | exact ⟨rfl, rfl⟩ | rfl
 ·obtain rfl : f = t.names.length := by omega
  first | done | rfl
end Go.H.S
namespace Go.H.S
open Go Go.Proofs Go.H
attribute [local irreducible] Tri FnSpec FnSpecM FnSpecX FnSpecJ FnSpecB
theorem rowsOkL_t {n : Nat} {ys : List Int} (hy : ∀ y ∈ ys, -2147483647 ≤ y ∧ y ≤ 2147483647) : ∀ (rows : List (List Int)) (k : Nat), (∀ r ∈ rows, r.length = n ∧ ∀ x ∈ r, -2147483647 ≤ x ∧ x ≤ 2147483647) → k + rows.length ≤ ys.length → rowsOkL n ys rows k = true
 | [], k, _, _ => rfl
 | r :: rest, k, h, hk => by
  have h1 := h r (by simp)
  simp only [List.length_cons] at hk
  obtain ⟨y, hyk⟩ := get_lt (show k < ys.length by omega)
  have h2 := hy y (List.mem_of_getElem? hyk)
  have h3 : r.all valOk = true := by
   rw [List.all_eq_true]
   intro x hx
   exact decide_eq_true (h1.2 x hx)
  rw [rowsOkL, hyk, h3, decide_eq_true h1.1, rowsOkL_t hy rest (k + 1) (fun q hq => h q (by simp [hq])) (by omega)]
  simp only [Option.getD_some, valOk]
  rw [decide_eq_true h2]
  rfl
theorem drawn_ok {t : Tbl} (h : drawnT t) : tableOk t = true := by
 have hr : rowsOkL t.names.length t.ys t.rows 0 = true := rowsOkL_t h.yv t.rows 0 (fun r hr => ⟨h.cols r hr, h.vals r hr⟩) (by have := h.ys; omega)
 obtain ⟨k, hk1, hk2, hk⟩ := h.nm
 have h4 : decide (1 ≤ (t.rows.length : Int) ∧ (t.rows.length : Int) ≤ 40) = true := decide_eq_true (by have := h.some; have := h.rows; omega)
 unfold tableOk
 rw [hr, h4, decide_eq_true h.ys, h.tg, hk]
 have : k = 1 ∨ k = 2 ∨ k = 3 := by omega
 rcases this with rfl | rfl | rfl <;> decide
def gridD (g : Grd) : Prop := ∃ t b, drawnT t ∧ (2 ≤ b ∧ b ≤ 8) ∧ g = gridT t b
set_option maxHeartbeats 4000000 in
theorem spec_l11Right_spec (code : List Int) (i0 u0 : Int) (hi0 : inCur code (i0, u0)) (hl : code.length ≤ 1048576) : FnSpecB PR f_spec_l11Right [.c (.ptr 0 0)] t_spec_l1Cur (cur code i0 u0) (Grd × Int × Int)
    (fun x => gridD x.1 ∧ inCur code x.2) (fun x => .agg [.ref 1 0 none, .ref 2 0 none]) (fun x => cur code x.2.1 x.2.2)
    (fun x => [(1, rowIs x.1.cuts), (2, rowIs x.1.bins)]) (fun _ => 3) := by
  refine FnSpecB.intro hTn 0 (pf Tryz.func220) rfl (by kernel_rfl) Tryz.ntmps220 rfl rfl ?_
  intro v0
  conv => whnf
  refine .inr (.inr (.inr (.inr (.inl ⟨0, ?_⟩))))
  conv => whnf
  refine ⟨_, _, _, _, _, _, spec_l9Right_spec code i0 u0 hi0 hl, fun ⟨t, i1, u1⟩ ⟨ht, hi1⟩ => ⟨rfl, ?_⟩⟩
  dsimp only at ht hi1
  conv => whnf
  refine .inr (.inr (.inr (.inr (.inl ⟨0, ?_⟩))))
  conv => whnf
  refine ⟨_, _, _, _, _, _, spec_l1Below_spec code i1 u1 5 hi1 hl, fun ⟨x, i2, u2⟩ ⟨hx, hi2⟩ => ⟨rfl, ?_⟩⟩
  dsimp only at hx hi2
  have hx2 := hx.2.1 (by decide)
  obtain ⟨b, hb⟩ : ∃ b : Nat, wAdd .i64 2 x = (b : Int) := ⟨(2 + x).toNat, by rw [wAdd64] <;> omega⟩
  have hbb : 2 ≤ b ∧ b ≤ 8 := by have h2 : wAdd .i64 2 x = 2 + x := wAdd64 (by omega) (by omega)
                                 omega
  conv => whnf
  rw [hb]
  have hrows := ht.rows
  have hnm := ht.names
  refine .inl ⟨_, _, _, spec_GridOf_spec t b hbb (drawn_ok ht) (by omega) (fun s hs => by have := ht.texts s hs; omega) (by have := ht.target; omega) (by omega) (fun r hr => by rw [ht.cols r hr]; omega) (by rw [ht.ys]; omega), rfl, ?_⟩
  conv => whnf
  refine ⟨(gridT t b, i2, u2), ⟨⟨t, b, ht, hbb, rfl⟩, hi2⟩, ?_⟩
  conv => whnf
  first | done | rfl
end Go.H.S
