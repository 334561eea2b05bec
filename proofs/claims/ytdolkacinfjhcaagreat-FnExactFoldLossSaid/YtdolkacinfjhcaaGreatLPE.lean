/- Library, part QR: bent tables drawn. -/
import Derived.Test.YtdolkacinfjhcaaGreatLQO
import Derived.Test.YtdolkacinfjhcaaGreatLY
import Derived.Lib.Mul64
import Derived.Test.YtdolkacinfjhcaaGreatH29
set_option maxRecDepth 100000
set_option linter.unusedSimpArgs false
set_option linter.unusedVariables false
namespace Go.H.S
open Go Go.Proofs Go.H
attribute [local irreducible] Tri FnSpec FnSpecM FnSpecX FnSpecJ FnSpecB
structure smT (t : Tbl) : Prop where
 names : t.names.length ≤ 3
 texts : ∀ s ∈ t.names, s.size ≤ 100
 target : t.target.size ≤ 100
 rows : t.rows.length ≤ 41
 cols : ∀ r ∈ t.rows, r.length ≤ 4
 ys : t.ys.length ≤ 41
end Go.H.S
namespace Go.H.S
open Go Go.Proofs Go.H
attribute [local irreducible] Tri FnSpec FnSpecM FnSpecX FnSpecJ FnSpecB
end Go.H.S
namespace Go.H.S
open Go Go.Proofs Go.H
attribute [local irreducible] Tri FnSpec FnSpecM FnSpecX FnSpecJ
def gAt (grads : List Int) (r : Int) : Int := (grads[r.toNat]?).getD 0
def sumR (grads : List Int) : List Int → Int
 | [] => 0
 | r :: rs => gAt grads r + sumR grads rs
theorem sumR_snoc (grads : List Int) : ∀ (rs : List Int) (r : Int), sumR grads (rs ++ [r]) = sumR grads rs + gAt grads r
 | [], r => by simp [sumR]
 | x :: rs, r => by simp only [List.cons_append, sumR, sumR_snoc grads rs r]; omega
theorem sumR_take {grads rows : List Int} {k : Nat} {x : Int} (h : rows[k]? = some x) : sumR grads (rows.take (k + 1)) = sumR grads (rows.take k) + gAt grads x := by
 rw [List.take_add_one, h, Option.toList_some, sumR_snoc]
def gradsP (grads : List Int) : Prop := ∀ x ∈ grads, -2199023255552 ≤ x ∧ x ≤ 2199023255552
theorem gAt_in {grads : List Int} (h : gradsP grads) (r : Int) : -2199023255552 ≤ gAt grads r ∧ gAt grads r ≤ 2199023255552 := by
 unfold gAt
 cases hr : grads[r.toNat]? with
 | none => simp
 | some x => exact h x (List.mem_of_getElem? hr)
theorem sumR_in {grads : List Int} (h : gradsP grads) : ∀ rs : List Int, -2199023255552 * (rs.length : Int) ≤ sumR grads rs ∧ sumR grads rs ≤ 2199023255552 * (rs.length : Int)
 | [] => by simp [sumR]
 | r :: rs => by
  have h1 := gAt_in h r
  have h2 := sumR_in h rs
  simp only [sumR, List.length_cons]
  omega
theorem spec_l19Sum_spec (grads rows : List Int) (hg : gradsP grads) (hl : rows.length ≤ 40) (hr : ∀ r ∈ rows, 0 ≤ r ∧ r < (grads.length : Int)) :
  FnSpec PR f_spec_l19Sum [aIs grads, aIs rows] (aB (rows.length, sumR grads rows)) [] 0 := by
 refine FnSpec.intro hT (pf Tryz.func91) rfl (by kernel_rfl) Tryz.ntmps91 rfl ?_
 conv => whnf
 refine tri_loop hT [0, 1, 4, 5, 6] (α := Nat) (fun x => { t := [(0, aIs grads), (1, aIs rows), (4, .c (.ptr 0 0)), (5, .c (.ptr 1 0)), (6, ai x)], h := [(0, .box t_impl_Slot (cB (0, 0))), (1, .box t_impl_Slot (cB (x, sumR grads (rows.take x))))], n := 2, N := 29 })
  (fun x => x ≤ rows.length) (fun x => rows.length - x) 0 (by first | ((conv => whnf); done) | ((conv => whnf); rfl)) (Nat.zero_le _) ?_
 intro k hk
 conv => whnf
 rw [show nInt (dLen (eL cI rows)) = (rows.length : Int) by simp]
 refine ifB_i (fun h1 => ?_) (fun h1 => ?_) <;> (conv => whnf) <;> simp only [eH] at h1
 ·obtain ⟨x, hx⟩ := get_lt (show k < rows.length by omega)
  have hxr := hr x (List.mem_of_getElem? hx)
  obtain ⟨y, hy⟩ := get_lt (show x.toNat < grads.length by omega)
  have hxn : x = (x.toNat : Int) := by omega
  have hs := sumR_take (grads := grads) hx
  have hgx : gAt grads x = y := by unfold gAt; rw [hy]; rfl
  have hb := sumR_in hg (rows.take k)
  have hy2 := hg y (List.mem_of_getElem? hy)
  rw [List.length_take] at hb
  have e1 : wAdd .i64 (k : Int) 1 = ((k + 1 : Nat) : Int) := by rw [wAdd64] <;> omega
  have e2 : wAdd .i64 (sumR grads (rows.take k)) y = sumR grads (rows.take (k + 1)) := by rw [hs, hgx, wAdd64] <;> omega
  refine tri_every hT hmix [0, 1, 4, 5, 6] { t := [(0, aIs grads), (1, aIs rows), (4, .c (.ptr 0 0)), (5, .c (.ptr 1 0)), (6, ai k)], h := [(0, .box t_impl_Slot (cB (0, 0))), (1, .box t_impl_Slot (cB ((k + 1 : Nat), sumR grads (rows.take (k + 1)))))], n := 2, N := 29 } rfl ?_ ?_
  ·repeat' first
    | (refine anyV_one rfl ?_; (conv => whnf))
    | (refine anyV_two rfl ?_ ?_ <;> (conv => whnf))
    | (refine anyV_three rfl ?_ ?_ ?_ <;> (conv => whnf))
    | (refine anyV_four rfl ?_ ?_ ?_ ?_ <;> (conv => whnf))
    | (refine idx_at rfl hx ?_; (conv => whnf))
    | (refine idx_at hxn hy ?_; (conv => whnf))
    | (refine anyV_end rfl ?_; (conv => whnf); first | done | rfl | (rw [e1, e2]; done) | (rw [e1, e2]; rfl))
  conv => whnf
  refine ⟨k + 1, by omega, by omega, ?_⟩
  ((conv => whnf); simp only [eS, e1])
 ·obtain rfl : k = rows.length := by omega
  rw [List.take_length]
theorem impl_slotOf_spec (grads rows : List Int) (hg : gradsP grads) (hl : rows.length ≤ 40) (hr : ∀ r ∈ rows, 0 ≤ r ∧ r < (grads.length : Int)) :
  FnSpec PR f_impl_slotOf [aIs grads, aIs rows] (aB (rows.length, sumR grads rows)) [] 0 := by
 refine FnSpec.intro hT (pf Tryz.func99) rfl (by kernel_rfl) Tryz.ntmps99 rfl ?_
 conv => whnf
 refine tri_loop hT [0, 4, 5, 11, 12, 13] (α := Nat) (fun x => { t := [(0, aIs grads), (4, .c (.ptr 0 0)), (5, .c (.ptr 1 0)), (11, aIs rows), (12, ai (nInt (dLen (eL cI rows)))), (13, ai x)], h := [(0, .box t_impl_Slot (cB (0, 0))), (1, .box t_impl_Slot (cB (nInt (dLen (eL cI rows)), sumR grads (rows.take x))))], n := 2, N := 27 })
  (fun x => x ≤ rows.length) (fun x => rows.length - x) 0 (by first | ((conv => whnf); done) | ((conv => whnf); rfl)) (Nat.zero_le _) ?_
 intro k hk
 conv => whnf
 refine ifB_i (fun h1 => ?_) (fun h1 => ?_) <;> (conv => whnf) <;> simp only [eH] at h1
 ·obtain ⟨x, hx⟩ := get_lt (show k < rows.length by omega)
  have hxr := hr x (List.mem_of_getElem? hx)
  obtain ⟨y, hy⟩ := get_lt (show x.toNat < grads.length by omega)
  have hxn : x = (x.toNat : Int) := by omega
  have hs := sumR_take (grads := grads) hx
  have hgx : gAt grads x = y := by unfold gAt; rw [hy]; rfl
  have hb := sumR_in hg (rows.take k)
  have hy2 := hg y (List.mem_of_getElem? hy)
  rw [List.length_take] at hb
  have e1 : wAdd .i64 (k : Int) 1 = ((k + 1 : Nat) : Int) := by rw [wAdd64] <;> omega
  have e2 : wAdd .i64 (sumR grads (rows.take k)) y = sumR grads (rows.take (k + 1)) := by rw [hs, hgx, wAdd64] <;> omega
  refine idx_at rfl hx ?_
  conv => whnf
  refine tri_every hT hmix [0, 4, 5, 11, 12, 13] { t := [(0, aIs grads), (4, .c (.ptr 0 0)), (5, .c (.ptr 1 0)), (11, aIs rows), (12, ai (nInt (dLen (eL cI rows)))), (13, ai k)], h := [(0, .box t_impl_Slot (cB (0, 0))), (1, .box t_impl_Slot (cB (nInt (dLen (eL cI rows)), sumR grads (rows.take (k + 1)))))], n := 2, N := 27 } rfl ?_ ?_
  ·repeat' first
    | (refine anyV_one rfl ?_; (conv => whnf))
    | (refine anyV_two rfl ?_ ?_ <;> (conv => whnf))
    | (refine anyV_three rfl ?_ ?_ ?_ <;> (conv => whnf))
    | (refine anyV_four rfl ?_ ?_ ?_ ?_ <;> (conv => whnf))
    | (refine idx_at hxn hy ?_; (conv => whnf))
    | (refine anyV_end rfl ?_; (conv => whnf); first | done | rfl | (rw [e2]; done) | (rw [e2]; rfl))
  conv => whnf
  refine ⟨k + 1, by omega, by omega, ?_⟩
  ((conv => whnf); simp only [eS, e1])
 ·obtain rfl : k = rows.length := by omega
  rw [List.take_length, show nInt (dLen (eL cI rows)) = (rows.length : Int) by simp]
def cfgNums (c : Cfg) : List Int := [c.rounds, c.depth, c.bins, c.lambda, c.rows]
def cfgLow : List Int := [1, 0, 2, 1, 1]
def cfgHigh : List Int := [8, 4, 8, 100, 20]
def cfgP (c : Cfg) : Prop := (∀ (k : Nat) (x lo hi : Int), (cfgNums c)[k]? = some x → cfgLow[k]? = some lo → cfgHigh[k]? = some hi → lo ≤ x ∧ x ≤ hi) ∧ (∀ s ∈ c.signs, -1 ≤ s ∧ s ≤ 1) ∧ (1 ≤ c.den ∧ c.den ≤ 1000) ∧ (1 ≤ c.num ∧ c.num ≤ c.den) ∧ c.signs.length ≤ 4
noncomputable def cfgOk (c : Cfg) : Bool := @decide (cfgP c) (Classical.propDecidable _)
theorem cfgOk_t {c : Cfg} (h : cfgP c) : cfgOk c = true := by unfold cfgOk; exact @decide_eq_true _ (Classical.propDecidable _) h
theorem cfgOk_f {c : Cfg} (h : ¬ cfgP c) : cfgOk c = false := by unfold cfgOk; exact @decide_eq_false _ (Classical.propDecidable _) h
theorem cfgOk_iff {c : Cfg} : cfgOk c = true ↔ cfgP c := by
 constructor
 ·intro h
  rcases Classical.em (cfgP c) with q | q
  ·exact q
  ·rw [cfgOk_f q] at h; cases h
 ·exact cfgOk_t
theorem cfg_five (c : Cfg) : (∀ (k : Nat) (x lo hi : Int), (cfgNums c)[k]? = some x → cfgLow[k]? = some lo → cfgHigh[k]? = some hi → lo ≤ x ∧ x ≤ hi) ↔ ((1 ≤ c.rounds ∧ c.rounds ≤ 8) ∧ (0 ≤ c.depth ∧ c.depth ≤ 4) ∧ (2 ≤ c.bins ∧ c.bins ≤ 8) ∧ (1 ≤ c.lambda ∧ c.lambda ≤ 100) ∧ (1 ≤ c.rows ∧ c.rows ≤ 20)) := by
 constructor
 ·intro h
  exact ⟨h 0 _ _ _ rfl rfl rfl, h 1 _ _ _ rfl rfl rfl, h 2 _ _ _ rfl rfl rfl, h 3 _ _ _ rfl rfl rfl, h 4 _ _ _ rfl rfl rfl⟩
 ·rintro ⟨h0, h1, h2, h3, h4⟩ k x lo hi hx hl hh
  match k with
  | 0 => cases hx; cases hl; cases hh; exact h0
  | 1 => cases hx; cases hl; cases hh; exact h1
  | 2 => cases hx; cases hl; cases hh; exact h2
  | 3 => cases hx; cases hl; cases hh; exact h3
  | 4 => cases hx; cases hl; cases hh; exact h4
  | k + 5 => simp [cfgNums] at hx
theorem impl_ConfigOk_1_spec (x : Int) : FnSpec PR f_impl_ConfigOk_1 [ai x] (ab (bNot (decide (-1 ≤ x ∧ x ≤ 1)))) [] 0 := by
 refine FnSpec.intro hT (pf Tryz.func231) rfl (by kernel_rfl) Tryz.ntmps231 rfl ?_
 conv => whnf
 refine .inl ⟨_, _, _, impl_isSign_spec _, rfl, ?_⟩
 conv => whnf
theorem impl_ConfigOk_spec (c : Cfg) (hl : c.signs.length ≤ 1048576) : FnSpec PR f_impl_ConfigOk [aCf c] (ab (cfgOk c)) [] 0 := by
 refine FnSpec.intro hT (pf Tryz.func119) rfl (by kernel_rfl) Tryz.ntmps119 rfl ?_
 conv => whnf
 refine .inl ⟨_, _, _, impl_within_spec _ _ _, rfl, ?_⟩
 cases h0 : decide (1 ≤ c.rounds ∧ c.rounds ≤ 8)
 ·conv => whnf
  rw [decide_eq_false_iff_not] at h0
  rw [cfgOk_f (fun q => h0 ((cfg_five c).1 q.1).1)]
 rw [decide_eq_true_iff] at h0
 conv => whnf
 refine .inl ⟨_, _, _, impl_within_spec _ _ _, rfl, ?_⟩
 cases h1 : decide (0 ≤ c.depth ∧ c.depth ≤ 4)
 ·conv => whnf
  rw [decide_eq_false_iff_not] at h1
  rw [cfgOk_f (fun q => h1 ((cfg_five c).1 q.1).2.1)]
 rw [decide_eq_true_iff] at h1
 conv => whnf
 refine .inl ⟨_, _, _, impl_within_spec _ _ _, rfl, ?_⟩
 cases h2 : decide (2 ≤ c.bins ∧ c.bins ≤ 8)
 ·conv => whnf
  rw [decide_eq_false_iff_not] at h2
  rw [cfgOk_f (fun q => h2 ((cfg_five c).1 q.1).2.2.1)]
 rw [decide_eq_true_iff] at h2
 conv => whnf
 refine .inl ⟨_, _, _, impl_within_spec _ _ _, rfl, ?_⟩
 cases h3 : decide (1 ≤ c.lambda ∧ c.lambda ≤ 100)
 ·conv => whnf
  rw [decide_eq_false_iff_not] at h3
  rw [cfgOk_f (fun q => h3 ((cfg_five c).1 q.1).2.2.2.1)]
 rw [decide_eq_true_iff] at h3
 conv => whnf
 refine .inl ⟨_, _, _, impl_within_spec _ _ _, rfl, ?_⟩
 cases h4 : decide (1 ≤ c.rows ∧ c.rows ≤ 20)
 ·conv => whnf
  rw [decide_eq_false_iff_not] at h4
  rw [cfgOk_f (fun q => h4 ((cfg_five c).1 q.1).2.2.2.2)]
 rw [decide_eq_true_iff] at h4
 conv => whnf
 refine .inl ⟨_, _, _, impl_within_spec _ _ _, rfl, ?_⟩
 cases h5 : decide (1 ≤ c.den ∧ c.den ≤ 1000)
 ·conv => whnf
  rw [decide_eq_false_iff_not] at h5
  rw [cfgOk_f (fun q => h5 q.2.2.1)]
 rw [decide_eq_true_iff] at h5
 conv => whnf
 refine .inl ⟨_, _, _, impl_within_spec _ _ _, rfl, ?_⟩
 cases h6 : decide (1 ≤ c.num ∧ c.num ≤ c.den)
 ·conv => whnf
  rw [decide_eq_false_iff_not] at h6
  rw [cfgOk_f (fun q => h6 q.2.2.2.1)]
 rw [decide_eq_true_iff] at h6
 conv => whnf
 rw [show nInt (dLen (eL cI c.signs)) = (c.signs.length : Int) by simp]
 cases h7 : iLe (c.signs.length : Int) 4
 ·conv => whnf
  simp at h7
  rw [cfgOk_f (fun q => by have := q.2.2.2.2; omega)]
 simp at h7
 conv => whnf
 refine .inl ⟨_, _, _, slices_ContainsFunc_Lint_int_0 c.signs f_impl_ConfigOk_1 (fun x => bNot (decide (-1 ≤ x ∧ x ≤ 1))) (fun x _ => impl_ConfigOk_1_spec x) (by omega), rfl, ?_⟩
 conv => whnf
 cases h8 : c.signs.any fun x => bNot (decide (-1 ≤ x ∧ x ≤ 1))
 ·rw [List.any_eq_false] at h8
  rw [cfgOk_t ⟨(cfg_five c).2 ⟨h0, h1, h2, h3, h4⟩, fun s hs => by have := h8 s hs; simpa [bNot] using this, h5, h6, by omega⟩]
  rfl
 ·rw [List.any_eq_true] at h8
  obtain ⟨s, hs1, hs2⟩ := h8
  rw [cfgOk_f (fun q => by have := q.2.1 s hs1; simp [bNot] at hs2; omega)]
  rfl
theorem spec_l8Numbers_spec (c : Cfg) : FnSpec PR f_spec_l8Numbers [aCf c] (.c (.ref 0 0 none)) [(0, .arr t_int 1 0 .own (eL cI (cfgNums c)))] 1 := by
 refine FnSpec.intro hT (pf Tryz.func162) rfl (by kernel_rfl) Tryz.ntmps162 rfl ?_
 conv => whnf
 simp only [cfgNums, eL_cons, eL_nil]
 rfl
theorem spec_l8Least_spec : FnSpec PR f_spec_l8Least [] (.c (.ref 0 0 none)) [(0, .arr t_int 1 0 .own (eL cI cfgLow))] 1 := by
 refine FnSpec.intro hT (pf Tryz.func163) rfl (by kernel_rfl) Tryz.ntmps163 rfl ?_
 conv => whnf
 simp only [cfgLow, eL_cons, eL_nil]
 rfl
theorem spec_l8Most_spec : FnSpec PR f_spec_l8Most [] (.c (.ref 0 0 none)) [(0, .arr t_int 1 0 .own (eL cI cfgHigh))] 1 := by
 refine FnSpec.intro hT (pf Tryz.func164) rfl (by kernel_rfl) Tryz.ntmps164 rfl ?_
 conv => whnf
 simp only [cfgHigh, eL_cons, eL_nil]
 rfl
theorem spec_ConfigOk_spec (c : Cfg) (hl : c.signs.length ≤ 1048576) : FnSpec PR f_spec_ConfigOk [aCf c] (ab (cfgOk c)) [] 0 := by
 refine FnSpec.intro hT (pf Tryz.func64) rfl (by kernel_rfl) Tryz.ntmps64 rfl ?_
 conv => whnf
 refine .inl ⟨_, _, _, spec_l8Numbers_spec c, rfl, ?_⟩
 conv => whnf
 refine tri_rp 0 ?_
 conv => whnf
 have hnl : (cfgNums c).length = 5 := rfl
 have l1 : cfgLow.length = 5 := rfl
 have l2 : cfgHigh.length = 5 := rfl
 refine tri_loop hT [1, 3, 4] (α := Nat) (fun x => { t := [(1, .c (.d (.rp [.int .i64 c.rounds, .int .i64 c.depth, .int .i64 c.bins, .int .i64 c.lambda, .int .i64 c.rows, .int .i64 c.num, .int .i64 c.den, .sl 1 (eL cI c.signs)]))), (3, aIs (cfgNums c)), (4, ai x)], h := [], n := 0, N := 56 })
  (fun x => x ≤ 5 ∧ ∀ (k : Nat) (x' lo hi : Int), k < x → (cfgNums c)[k]? = some x' → cfgLow[k]? = some lo → cfgHigh[k]? = some hi → lo ≤ x' ∧ x' ≤ hi) (fun x => 5 - x) 0 (by first | ((conv => whnf); done) | ((conv => whnf); rfl)) ⟨Nat.zero_le _, fun k _ _ _ h => by omega⟩ ?_
 intro k ⟨hk, hr⟩
 conv => whnf
 refine ifB_i (fun h1 => ?_) (fun h1 => ?_) <;> (conv => whnf) <;> simp only [eH] at h1
 ·obtain ⟨x, hx⟩ := get_lt (show k < (cfgNums c).length by rw [hnl]; omega)
  obtain ⟨lo, hlo⟩ := get_lt (show k < cfgLow.length by rw [show cfgLow.length = 5 from rfl]; omega)
  obtain ⟨hi, hhi⟩ := get_lt (show k < cfgHigh.length by rw [show cfgHigh.length = 5 from rfl]; omega)
  refine tri_every hT hmix [1, 3, 4, 25] { t := [(1, .c (.d (.rp [.int .i64 c.rounds, .int .i64 c.depth, .int .i64 c.bins, .int .i64 c.lambda, .int .i64 c.rows, .int .i64 c.num, .int .i64 c.den, .sl 1 (eL cI c.signs)]))), (3, aIs (cfgNums c)), (4, ai k), (25, ab (bNot (decide (lo ≤ x ∧ x ≤ hi))))], h := [], n := 0, N := 56 } rfl ?_ ?_
  ·repeat' first
    | (refine anyV_one rfl ?_; (conv => whnf))
    | (refine anyV_two rfl ?_ ?_ <;> (conv => whnf))
    | (refine anyV_three rfl ?_ ?_ ?_ <;> (conv => whnf))
    | (refine idx_at rfl hx ?_; (conv => whnf))
    | (refine .inl ⟨_, _, _, spec_l8Least_spec, rfl, ?_⟩; (conv => whnf))
    | (refine .inl ⟨_, _, _, spec_l8Most_spec, rfl, ?_⟩; (conv => whnf))
    | (refine ref_at (k := k) rfl (by first | omega | (simp only [eL_length, l1]; omega) | (simp only [eL_length, l2]; omega) | (simp [l1, l2]; omega)) ?_; (conv => whnf))
    | (refine ld_at (by simp) hlo ?_; (conv => whnf))
    | (refine ld_at (by simp) hhi ?_; (conv => whnf))
    | (refine .inl ⟨_, _, _, spec_l1In_spec _ _ _, rfl, ?_⟩; (conv => whnf))
    | (refine anyV_end rfl ?_; (conv => whnf); first | done | rfl)
  conv => whnf
  cases h2 : decide (lo ≤ x ∧ x ≤ hi)
  ·rw [decide_eq_false_iff_not] at h2
   conv => whnf
   rw [cfgOk_f (fun q => h2 (q.1 k x lo hi hx hlo hhi))]
  ·rw [decide_eq_true_iff] at h2
   conv => whnf
   refine ⟨k + 1, by omega, ⟨by omega, fun j x' lo' hi' hj a1 a2 a3 => ?_⟩, ?_⟩
   ·rcases Nat.lt_or_ge j k with q | q
    ·exact hr j x' lo' hi' q a1 a2 a3
    ·obtain rfl : j = k := by omega
     rw [hx] at a1; rw [hlo] at a2; rw [hhi] at a3
     cases a1; cases a2; cases a3
     exact h2
   have e1 : wAdd .i64 (k : Int) 1 = ((k + 1 : Nat) : Int) := by rw [wAdd64] <;> omega
   ((conv => whnf); simp only [eS, e1])
 ·obtain rfl : k = 5 := by omega
  have h5 := (cfg_five c).1 (fun j x lo hi a1 a2 a3 => hr j x lo hi (by have := (List.getElem?_eq_some_iff.1 a1).1; omega) a1 a2 a3)
  refine tri_loop hT [1, 5] (α := Nat) (fun x => { t := [(1, .c (.d (.rp [.int .i64 c.rounds, .int .i64 c.depth, .int .i64 c.bins, .int .i64 c.lambda, .int .i64 c.rows, .int .i64 c.num, .int .i64 c.den, .sl 1 (eL cI c.signs)]))), (5, ai x)], h := [], n := 0, N := 56 })
   (fun x => x ≤ c.signs.length ∧ ∀ (j : Nat) (y : Int), j < x → c.signs[j]? = some y → -1 ≤ y ∧ y ≤ 1) (fun x => c.signs.length - x) 0 (by first | ((conv => whnf); done) | ((conv => whnf); rfl)) ⟨Nat.zero_le _, fun k _ h => by omega⟩ ?_
  intro i ⟨hi, hq⟩
  conv => whnf
  rw [show nInt (dLen (eL cI c.signs)) = (c.signs.length : Int) by simp]
  refine ifB_i (fun h6 => ?_) (fun h6 => ?_) <;> (conv => whnf) <;> simp only [eH] at h6
  ·obtain ⟨y, hy⟩ := get_lt (show i < c.signs.length by omega)
   refine idx_at rfl hy ?_
   conv => whnf
   refine .inl ⟨_, _, _, spec_l1In_spec _ _ _, rfl, ?_⟩
   conv => whnf
   cases h7 : decide (-1 ≤ y ∧ y ≤ 1)
   ·rw [decide_eq_false_iff_not] at h7
    conv => whnf
    rw [cfgOk_f (fun q => h7 (q.2.1 y (List.mem_of_getElem? hy)))]
   ·rw [decide_eq_true_iff] at h7
    conv => whnf
    refine ⟨i + 1, by omega, ⟨by omega, fun j z hj hz => ?_⟩, ?_⟩
    ·rcases Nat.lt_or_ge j i with q | q
     ·exact hq j z q hz
     ·obtain rfl : j = i := by omega
      rw [hy] at hz; cases hz; exact h7
    have e1 : wAdd .i64 (i : Int) 1 = ((i + 1 : Nat) : Int) := by rw [wAdd64] <;> omega
    ((conv => whnf); simp only [eS, e1])
  ·obtain rfl : i = c.signs.length := by omega
   have h8 : ∀ s ∈ c.signs, -1 ≤ s ∧ s ≤ 1 := fun s hs => by
    obtain ⟨j, hj⟩ := List.mem_iff_getElem?.1 hs
    exact hq j s (List.getElem?_eq_some_iff.1 hj).1 hj
   refine .inl ⟨_, _, _, spec_l1In_spec _ _ _, rfl, ?_⟩
   cases h9 : decide (1 ≤ c.den ∧ c.den ≤ 1000)
   ·rw [decide_eq_false_iff_not] at h9
    conv => whnf
    rw [cfgOk_f (fun q => h9 q.2.2.1)]
   rw [decide_eq_true_iff] at h9
   conv => whnf
   refine .inl ⟨_, _, _, spec_l1In_spec _ _ _, rfl, ?_⟩
   cases h10 : decide (1 ≤ c.num ∧ c.num ≤ c.den)
   ·rw [decide_eq_false_iff_not] at h10
    conv => whnf
    rw [cfgOk_f (fun q => h10 q.2.2.2.1)]
   rw [decide_eq_true_iff] at h10
   conv => whnf
   rw [show nInt (dLen (eL cI c.signs)) = (c.signs.length : Int) by simp]
   cases h11 : iLe (c.signs.length : Int) 4
   ·simp at h11
    rw [cfgOk_f (fun q => by have := q.2.2.2.2; omega)]
   ·simp at h11
    rw [cfgOk_t ⟨(cfg_five c).2 h5, h8, h9, h10, by omega⟩]
def taskP (g : Grd) (grads : List Int) (c : Cfg) : Prop := gridP g ∧ cfgP c ∧ grads.length = rowsIn g ∧ gradsP grads
noncomputable def taskOk (g : Grd) (grads : List Int) (c : Cfg) : Bool := @decide (taskP g grads c) (Classical.propDecidable _)
theorem taskOk_t {g : Grd} {grads : List Int} {c : Cfg} (h : taskP g grads c) : taskOk g grads c = true := by unfold taskOk; exact @decide_eq_true _ (Classical.propDecidable _) h
theorem taskOk_f {g : Grd} {grads : List Int} {c : Cfg} (h : ¬ taskP g grads c) : taskOk g grads c = false := by unfold taskOk; exact @decide_eq_false _ (Classical.propDecidable _) h
theorem impl_TaskOk_1_spec (x : Int) : FnSpec PR f_impl_TaskOk_1 [ai x] (ab (bNot (decide (-2199023255552 ≤ x ∧ x ≤ 2199023255552)))) [] 0 := by
 refine FnSpec.intro hT (pf Tryz.func121) rfl (by kernel_rfl) Tryz.ntmps121 rfl ?_
 conv => whnf
 refine .inl ⟨_, _, _, impl_within_spec _ _ _, rfl, ?_⟩
 conv => whnf
theorem impl_TaskOk_spec (g : Grd) (grads : List Int) (c : Cfg) (hg : smG g) (hr : grads.length ≤ 1048576) (hc : c.signs.length ≤ 1048576) : FnSpec PR f_impl_TaskOk [aG g, aIs grads, aCf c] (ab (taskOk g grads c)) [] 0 := by
 refine FnSpec.intro hT (pf Tryz.func34) rfl (by kernel_rfl) Tryz.ntmps34 rfl ?_
 conv => whnf
 refine .inl ⟨_, _, _, impl_GridOk_spec g hg, rfl, ?_⟩
 cases h1 : gridOk g
 ·conv => whnf
  rw [taskOk_f (fun q => by rw [gridOk_t q.1] at h1; cases h1)]
 rw [gridOk_iff] at h1
 conv => whnf
 refine .inl ⟨_, _, _, impl_ConfigOk_spec c hc, rfl, ?_⟩
 cases h2 : cfgOk c
 ·conv => whnf
  rw [taskOk_f (fun q => by rw [cfgOk_t q.2.1] at h2; cases h2)]
 rw [cfgOk_iff] at h2
 conv => whnf
 refine .inl ⟨_, _, _, impl_RowsIn_spec g, rfl, ?_⟩
 rw [show nInt (dLen (eL cI grads)) = (grads.length : Int) by simp]
 conv => whnf
 cases h3 : iEq (grads.length : Int) (rowsIn g : Int)
 ·conv => whnf
  simp at h3
  rw [taskOk_f (fun q => by have := q.2.2.1; omega)]
 simp at h3
 conv => whnf
 refine .inl ⟨_, _, _, slices_ContainsFunc_Lint_int_0 grads f_impl_TaskOk_1 (fun x => bNot (decide (-2199023255552 ≤ x ∧ x ≤ 2199023255552))) (fun x _ => impl_TaskOk_1_spec x) (by omega), rfl, ?_⟩
 conv => whnf
 cases h8 : grads.any fun x => bNot (decide (-2199023255552 ≤ x ∧ x ≤ 2199023255552))
 ·rw [List.any_eq_false] at h8
  rw [taskOk_t ⟨h1, h2, by omega, fun s hs => by have := h8 s hs; simpa [bNot] using this⟩]
  rfl
 ·rw [List.any_eq_true] at h8
  obtain ⟨s, hs1, hs2⟩ := h8
  rw [taskOk_f (fun q => by have := q.2.2.2 s hs1; simp [bNot] at hs2; omega)]
  rfl
theorem spec_TaskOk_spec (g : Grd) (grads : List Int) (c : Cfg) (hg : smG g) (hr : grads.length ≤ 1048576) (hc : c.signs.length ≤ 1048576) : FnSpec PR f_spec_TaskOk [aG g, aIs grads, aCf c] (ab (taskOk g grads c)) [] 0 := by
 refine FnSpec.intro hT (pf Tryz.func111) rfl (by kernel_rfl) Tryz.ntmps111 rfl ?_
 conv => whnf
 refine .inl ⟨_, _, _, spec_GridOk_spec g hg, rfl, ?_⟩
 cases h1 : gridOk g
 ·conv => whnf
  rw [taskOk_f (fun q => by rw [gridOk_t q.1] at h1; cases h1)]
 rw [gridOk_iff] at h1
 conv => whnf
 refine .inl ⟨_, _, _, spec_ConfigOk_spec c hc, rfl, ?_⟩
 cases h2 : cfgOk c
 ·conv => whnf
  rw [taskOk_f (fun q => by rw [cfgOk_t q.2.1] at h2; cases h2)]
 rw [cfgOk_iff] at h2
 conv => whnf
 refine .inl ⟨_, _, _, spec_RowsIn_spec g, rfl, ?_⟩
 rw [show nInt (dLen (eL cI grads)) = (grads.length : Int) by simp]
 conv => whnf
 cases h3 : iEq (grads.length : Int) (rowsIn g : Int)
 ·conv => whnf
  simp at h3
  rw [taskOk_f (fun q => by have := q.2.2.1; omega)]
 simp at h3
 conv => whnf
 refine tri_loop hT [1, 7] (α := Nat) (fun x => { t := [(1, aIs grads), (7, ai x)], h := [], n := 0, N := 35 })
  (fun x => x ≤ grads.length ∧ ∀ (j : Nat) (y : Int), j < x → grads[j]? = some y → -2199023255552 ≤ y ∧ y ≤ 2199023255552) (fun x => grads.length - x) 0 (by first | ((conv => whnf); done) | ((conv => whnf); rfl)) ⟨Nat.zero_le _, fun k _ h => by omega⟩ ?_
 intro i ⟨hi, hq⟩
 conv => whnf
 rw [show nInt (dLen (eL cI grads)) = (grads.length : Int) by simp]
 refine ifB_i (fun h6 => ?_) (fun h6 => ?_) <;> (conv => whnf) <;> simp only [eH] at h6
 ·obtain ⟨y, hy⟩ := get_lt (show i < grads.length by omega)
  refine idx_at rfl hy ?_
  conv => whnf
  refine .inl ⟨_, _, _, spec_l1In_spec _ _ _, rfl, ?_⟩
  conv => whnf
  cases h7 : decide (-2199023255552 ≤ y ∧ y ≤ 2199023255552)
  ·rw [decide_eq_false_iff_not] at h7
   conv => whnf
   rw [taskOk_f (fun q => h7 (q.2.2.2 y (List.mem_of_getElem? hy)))]
  ·rw [decide_eq_true_iff] at h7
   conv => whnf
   refine ⟨i + 1, by omega, ⟨by omega, fun j z hj hz => ?_⟩, ?_⟩
   ·rcases Nat.lt_or_ge j i with q | q
    ·exact hq j z q hz
    ·obtain rfl : j = i := by omega
     rw [hy] at hz; cases hz; exact h7
   have e1 : wAdd .i64 (i : Int) 1 = ((i + 1 : Nat) : Int) := by rw [wAdd64] <;> omega
   ((conv => whnf); simp only [eS, e1])
 ·obtain rfl : i = grads.length := by omega
  rw [taskOk_t ⟨h1, h2, by omega, fun s hs => by
   obtain ⟨j, hj⟩ := List.mem_iff_getElem?.1 hs
   exact hq j s (List.getElem?_eq_some_iff.1 hj).1 hj⟩]
end Go.H.S
namespace Go.H.S
open Go Go.Proofs Go.H
theorem wrapU (x : Int) : IntKind.wrap .u64 x = x % 18446744073709551616 := by simp [IntKind.wrap, IntKind.bits, IntKind.signed]
theorem wAddU {x y : Int} (h1 : 0 ≤ x + y) (h2 : x + y < 18446744073709551616) : wAdd .u64 x y = x + y := by unfold wAdd; rw [wrapU]; omega
theorem wAddU_mod (x y : Int) : wAdd .u64 x y = (x + y) % 18446744073709551616 := by unfold wAdd; rw [wrapU]
theorem wMulU_mod (x y : Int) : wMul .u64 x y = (x * y) % 18446744073709551616 := by unfold wMul; rw [wrapU]
theorem wNegU_mod (x : Int) : wNeg .u64 x = (0 - x) % 18446744073709551616 := by unfold wNeg; rw [wrapU]
theorem wConvU_mod (x : Int) : wConv .u64 x = x % 18446744073709551616 := by unfold wConv; rw [wrapU]
theorem wAndU32 (x : Nat) (h : x < 18446744073709551616) : wAnd .u64 (x : Int) 4294967295 = ((x % 4294967296 : Nat) : Int) := by
 have h127 : (BitVec.ofInt 64 4294967295).toNat = 2 ^ 32 - 1 := by decide
 have key : (BitVec.ofInt 64 (x : Int) &&& BitVec.ofInt 64 4294967295).toNat = x % 4294967296 := by
  rw [BitVec.toNat_and, BitVec.toNat_ofInt, h127, Nat.and_two_pow_sub_one_eq_mod]
  omega
 unfold wAnd wrapB
 show IntKind.u64.wrap ((BitVec.ofInt 64 (x : Int) &&& BitVec.ofInt 64 4294967295).toNat : Nat) = _
 rw [key, wrapU]
 omega
theorem wShrU32 (x : Nat) : wShr .u64 (x : Int) 32 = ((x / 4294967296 : Nat) : Int) := by
 unfold wShr
 show (x : Int).fdiv (2 ^ 32) = _
 rw [Int.fdiv_eq_ediv_of_nonneg _ (by decide)]; rfl
theorem wShlU32 (x : Nat) : wShl .u64 (x : Int) 32 = ((x * 4294967296 % 18446744073709551616 : Nat) : Int) := by
 unfold wShl
 show IntKind.u64.wrap ((x : Int) * 2 ^ 32) = _
 rw [wrapU]
 omega
theorem wMulU (x y : Nat) (h : x * y < 18446744073709551616) : wMul .u64 (x : Int) (y : Int) = ((x * y : Nat) : Int) := by
 rw [wMulU_mod, show (x : Int) * (y : Int) = ((x * y : Nat) : Int) by simp]; omega
theorem wMulU_nat (x y : Nat) : wMul .u64 (x : Int) (y : Int) = ((x * y % 18446744073709551616 : Nat) : Int) := by
 rw [wMulU_mod, show (x : Int) * (y : Int) = ((x * y : Nat) : Int) by simp]; omega
theorem wAddU_nat (x y : Nat) (h : x + y < 18446744073709551616) : wAdd .u64 (x : Int) (y : Int) = ((x + y : Nat) : Int) := by
 rw [wAddU] <;> omega
theorem mul64_lo (x y : Nat) (hx : x < 18446744073709551616) (hy : y < 18446744073709551616) :
  (((x / 4294967296) * (y % 4294967296) + (x % 4294967296) * (y % 4294967296) / 4294967296) % 4294967296 + (x % 4294967296) * (y / 4294967296)) % 4294967296 * 4294967296 +
   (x % 4294967296) * (y % 4294967296) % 4294967296 = x * y % 18446744073709551616 := by
 have e : x * y = (x / 4294967296) * (y / 4294967296) * (4294967296 * 4294967296) + ((x / 4294967296) * (y % 4294967296) + (x % 4294967296) * (y / 4294967296)) * 4294967296 + (x % 4294967296) * (y % 4294967296) := by
  rw [← Go.Lib.split_mul, Nat.div_add_mod' x 4294967296, Nat.div_add_mod' y 4294967296]
 rw [e]
 generalize (x / 4294967296) * (y / 4294967296) = a at *
 generalize (x / 4294967296) * (y % 4294967296) = b at *
 generalize (x % 4294967296) * (y / 4294967296) = c at *
 generalize (x % 4294967296) * (y % 4294967296) = d at *
 omega
def hiU (n : Int) : Int := ((n.natAbs / 18446744073709551616 : Nat) : Int)
def loU (n : Int) : Int := ((n.natAbs % 18446744073709551616 : Nat) : Int)
theorem hl (n : Int) : (n.natAbs : Int) = hiU n * 18446744073709551616 + loU n ∧ 0 ≤ loU n ∧ loU n < 18446744073709551616 ∧ 0 ≤ hiU n := by unfold hiU loU; omega
theorem hl_eq {n a b : Int} (h : (n.natAbs : Int) = a * 18446744073709551616 + b) (ha : 0 ≤ a) (hb : 0 ≤ b ∧ b < 18446744073709551616) : hiU n = a ∧ loU n = b := by unfold hiU loU; omega
abbrev cW (n : Int) : List CV := [.d (.bool (decide (n < 0))), .d (.int .u64 (hiU n)), .d (.int .u64 (loU n))]
abbrev aW (n : Int) : AV := .agg (cW n)
def sgnI (n : Int) : Int := if n < 0 then -1 else if n = 0 then 0 else 1
abbrev tupUU (a b : Nat) : AV := .tup [(false, [.d (.int .u64 (a : Int))]), (false, [.d (.int .u64 (b : Int))])]
end Go.H.S
namespace Go.H.S
open Go Go.Proofs Go.H
def cSl (s : Int × Int) : List D := [.int .i64 s.1, .int .i64 s.2]
def cHs (h : List (Int × Int)) : List D := [.sl 2 (eL cSl h)]
structure Cd where
 f : Int
 b : Int
 l : Int × Int
 r : Int × Int
 deriving DecidableEq
def cCd (c : Cd) : List D := [.int .i64 c.f, .int .i64 c.b, .int .i64 c.l.1, .int .i64 c.l.2, .int .i64 c.r.1, .int .i64 c.r.2]
abbrev cCV (c : Cd) : List CV := [.d (.int .i64 c.f), .d (.int .i64 c.b), .d (.int .i64 c.l.1), .d (.int .i64 c.l.2), .d (.int .i64 c.r.1), .d (.int .i64 c.r.2)]
abbrev aCd (c : Cd) : AV := .agg (cCV c)
def noCd : Cd := ⟨0, 0, (0, 0), (0, 0)⟩
def addS (a b : Int × Int) : Int × Int := (a.1 + b.1, a.2 + b.2)
def subS (a b : Int × Int) : Int × Int := (a.1 - b.1, a.2 - b.2)
def slB (s : Int × Int) : Prop := (-1152921504606846976 ≤ s.1 ∧ s.1 ≤ 1152921504606846976) ∧ (-1152921504606846976 ≤ s.2 ∧ s.2 ≤ 1152921504606846976)
def slotR (grads rows : List Int) : Int × Int := ((rows.length : Int), sumR grads rows)
def binAt (bins : List Int) (r : Int) : Int := (bins[r.toNat]?).getD 0
def histL (bins grads rows : List Int) (n : Nat) : List (Int × Int) := (List.range n).map fun (b : Nat) => slotR grads (rows.filter fun r => decide (binAt bins r = (b : Int)))
theorem histL_len (bins grads rows : List Int) (n : Nat) : (histL bins grads rows n).length = n := by simp [histL]
theorem histL_nil (bins grads : List Int) (n : Nat) : histL bins grads [] n = List.replicate n (0, 0) := by
 apply List.ext_getElem?
 intro i
 rw [histL, List.getElem?_map, List.getElem?_replicate]
 by_cases h : i < n
 ·rw [List.getElem?_range h, if_pos h]; rfl
 ·rw [List.getElem?_eq_none (by simp; omega), if_neg h]; rfl
theorem slotR_snoc (grads rs : List Int) (r : Int) : slotR grads (rs ++ [r]) = addS (slotR grads rs) (1, gAt grads r) := by
 simp only [slotR, addS, sumR_snoc, List.length_append, List.length_cons, List.length_nil]
 rw [show ((rs.length + (0 + 1) : Nat) : Int) = (rs.length : Int) + 1 by omega]
theorem histL_at (bins grads rows : List Int) {n b : Nat} (h : b < n) : (histL bins grads rows n)[b]? = some (slotR grads (rows.filter fun r => decide (binAt bins r = (b : Int)))) := by
 rw [histL, List.getElem?_map, List.getElem?_range h]; rfl
theorem histL_step {bins grads rows : List Int} {n k b : Nat} {x : Int} (hx : rows[k]? = some x) (hb : binAt bins x = (b : Int)) (h : b < n) :
  histL bins grads (rows.take (k + 1)) n = (histL bins grads (rows.take k) n).set b (addS (slotR grads ((rows.take k).filter fun r => decide (binAt bins r = (b : Int)))) (1, gAt grads x)) := by
 apply List.ext_getElem?
 intro i
 by_cases hi : i < n
 ·rw [histL_at bins grads _ hi, List.getElem?_set]
  have ht : (rows.take (k + 1)).filter (fun r => decide (binAt bins r = (i : Int))) = (rows.take k).filter (fun r => decide (binAt bins r = (i : Int))) ++ (if decide (binAt bins x = (i : Int)) then [x] else []) := by
   rw [List.take_add_one, hx, List.filter_append]
   simp only [Option.toList_some, List.filter_cons, List.filter_nil]
  rw [ht]
  by_cases hbi : b = i
  ·subst hbi
   rw [if_pos (decide_eq_true hb), if_pos rfl, if_pos (by rw [histL_len]; exact h), slotR_snoc]
  ·rw [if_neg hbi, histL_at bins grads _ hi, decide_eq_false (by omega)]
   simp
 ·rw [List.getElem?_eq_none (by rw [histL_len]; omega), List.getElem?_eq_none (by rw [List.length_set, histL_len]; omega)]
theorem slotR_in {grads : List Int} (hg : gradsP grads) (rs : List Int) : 0 ≤ (slotR grads rs).1 ∧ -2199023255552 * (slotR grads rs).1 ≤ (slotR grads rs).2 ∧ (slotR grads rs).2 ≤ 2199023255552 * (slotR grads rs).1 := by
 have := sumR_in hg rs
 simp only [slotR]
 omega
def prefS : Int × Int → List (Int × Int) → List (Int × Int)
 | _, [] => []
 | a, s :: r => addS a s :: prefS (addS a s) r
theorem prefS_len : ∀ (l : List (Int × Int)) (a : Int × Int), (prefS a l).length = l.length
 | [], a => rfl
 | s :: r, a => by simp [prefS, prefS_len r]
def candsF (f : Nat) (least : Int) (sums : List (Int × Int)) (n : Nat) : List Cd := (List.range n).filterMap fun (b : Nat) =>
 let l := (sums[b]?).getD (0, 0)
 let r := subS ((sums[sums.length - 1]?).getD (0, 0)) l
 if least ≤ l.1 ∧ least ≤ r.1 then some ⟨(f : Int), (b : Int), l, r⟩ else none
def candsH (hists : List (List (Int × Int))) (least : Int) (n : Nat) : List Cd := (List.range n).flatMap fun (f : Nat) => let sums := prefS (0, 0) ((hists[f]?).getD []); candsF f least sums (sums.length - 1)
theorem candsF_step (f : Nat) (least : Int) (sums : List (Int × Int)) (b : Nat) {l z : Int × Int} (hl : sums[b]? = some l) (hz : sums[sums.length - 1]? = some z) :
  candsF f least sums (b + 1) = candsF f least sums b ++ (if least ≤ l.1 ∧ least ≤ (subS z l).1 then [⟨(f : Int), (b : Int), l, subS z l⟩] else []) := by
 unfold candsF
 rw [List.range_succ, List.filterMap_append]
 simp only [List.filterMap_cons, List.filterMap_nil, hl, hz, Option.getD_some]
 by_cases q : least ≤ l.1 ∧ least ≤ (subS z l).1
 ·rw [if_pos q, if_pos q]
 ·rw [if_neg q, if_neg q]
theorem candsH_step (hists : List (List (Int × Int))) (least : Int) (f : Nat) {h : List (Int × Int)} (hh : hists[f]? = some h) :
  candsH hists least (f + 1) = candsH hists least f ++ candsF f least (prefS (0, 0) h) ((prefS (0, 0) h).length - 1) := by
 unfold candsH
 rw [List.range_succ, List.flatMap_append]
 simp [hh]
def gainS (s : Int × Int) (lam : Int) : Int × Int := (s.2 * s.2, s.1 + lam)
def gainC (c : Cd) (lam : Int) : Int × Int := (c.l.2 * c.l.2 * (c.r.1 + lam) + c.r.2 * c.r.2 * (c.l.1 + lam), (c.l.1 + lam) * (c.r.1 + lam))
def cmpF (a b : Int × Int) : Int := sgnI (a.1 * b.2 - b.1 * a.2)
def impr (c : Cd) (lam : Int) : Bool := decide (0 < cmpF (gainC c lam) (gainS (addS c.l c.r) lam))
def cdLess (a b : Cd) : Bool := decide (a.f < b.f ∨ a.f = b.f ∧ a.b < b.b)
def better (a b : Cd) (lam : Int) : Bool := decide (0 < cmpF (gainC a lam) (gainC b lam)) || (decide (cmpF (gainC a lam) (gainC b lam) = 0) && cdLess a b)
def agrees (sign x y : Int) : Bool := decide ((sign = 1 → x ≤ y) ∧ (sign = -1 → y ≤ x))
def sideL (cfg : Cfg) (b : Int × Int) (c : Cd) : Int := leafV c.l.1 c.l.2 cfg.lambda b
def sideR (cfg : Cfg) (b : Int × Int) (c : Cd) : Int := leafV c.r.1 c.r.2 cfg.lambda b
def mayPart (cfg : Cfg) (b : Int × Int) (c : Cd) : Bool := decide (cfg.rows ≤ c.l.1) && (decide (cfg.rows ≤ c.r.1) && (agrees (signFor cfg c.f) (sideL cfg b c) (sideR cfg b c) && impr c cfg.lambda))
def bestL (cfg : Cfg) (b : Int × Int) (list : List Cd) : Option Cd := (list.filter (mayPart cfg b)).find? fun c => (list.filter (mayPart cfg b)).all fun o => !better o c cfg.lambda
theorem better_self (c : Cd) (lam : Int) : better c c lam = false := by
 unfold better cmpF
 rw [Int.sub_self]
 simp [sgnI, cdLess]
def slP (s : Int × Int) : Prop := (0 ≤ s.1 ∧ s.1 ≤ 40) ∧ (-140737488355328 ≤ s.2 ∧ s.2 ≤ 140737488355328)
def cdP (c : Cd) : Prop := slP c.l ∧ slP c.r ∧ slP (addS c.l c.r) ∧ (0 ≤ c.f ∧ c.f ≤ 1000) ∧ (0 ≤ c.b ∧ c.b ≤ 1000)
theorem sq_in {x A : Int} (h : -A ≤ x ∧ x ≤ A) : 0 ≤ x * x ∧ x * x ≤ A * A := by
 have h1 : 0 ≤ x * x := by
  rcases Int.le_total 0 x with q | q
  ·exact Int.mul_nonneg q q
  ·exact Int.mul_nonneg_of_nonpos_of_nonpos q q
 refine ⟨h1, ?_⟩
 rcases Int.le_total 0 x with q | q
 ·exact Int.mul_le_mul h.2 h.2 q (by omega)
 ·rw [show x * x = (-x) * (-x) by rw [Int.neg_mul_neg]]
  exact Int.mul_le_mul (by omega) (by omega) (by omega) (by omega)
theorem mul_in {x y A B : Int} (hx : 0 ≤ x ∧ x ≤ A) (hy : 0 ≤ y ∧ y ≤ B) : 0 ≤ x * y ∧ x * y ≤ A * B :=
 ⟨Int.mul_nonneg hx.1 hy.1, Int.mul_le_mul hx.2 hy.2 hy.1 (by omega)⟩
def frP (f : Int × Int) : Prop := (0 ≤ f.1 ∧ f.1 ≤ 20282409603651670423947251286016) ∧ (1 ≤ f.2 ∧ f.2 ≤ 19600)
theorem gainS_in {s : Int × Int} {lam : Int} (hs : slP s) (hl : 1 ≤ lam ∧ lam ≤ 100) : (0 ≤ s.2 * s.2 ∧ s.2 * s.2 ≤ 19807040628566084398385987584) ∧ (1 ≤ s.1 + lam ∧ s.1 + lam ≤ 140) := by
 have := sq_in (x := s.2) (A := 140737488355328) hs.2
 have := hs.1
 omega
theorem gainS_fr {s : Int × Int} {lam : Int} (hs : slP s) (hl : 1 ≤ lam ∧ lam ≤ 100) : frP (gainS s lam) := by
 have := gainS_in hs hl
 unfold frP gainS
 dsimp only
 omega
theorem gainC_in {c : Cd} {lam : Int} (hs : slP c.l) (ht : slP c.r) (hl : 1 ≤ lam ∧ lam ≤ 100) : (0 ≤ c.l.2 * c.l.2 * (c.r.1 + lam) ∧ c.l.2 * c.l.2 * (c.r.1 + lam) ≤ 2772985687999251815774038261760) ∧ (0 ≤ c.r.2 * c.r.2 * (c.l.1 + lam) ∧ c.r.2 * c.r.2 * (c.l.1 + lam) ≤ 2772985687999251815774038261760) ∧ (1 ≤ (c.l.1 + lam) * (c.r.1 + lam) ∧ (c.l.1 + lam) * (c.r.1 + lam) ≤ 19600) := by
 have h1 := gainS_in hs hl
 have h2 := gainS_in ht hl
 have h3 := mul_in (x := c.l.2 * c.l.2) (y := c.r.1 + lam) h1.1 ⟨by omega, h2.2.2⟩
 have h4 := mul_in (x := c.r.2 * c.r.2) (y := c.l.1 + lam) h2.1 ⟨by omega, h1.2.2⟩
 have h5 := mul_in (x := c.l.1 + lam) (y := c.r.1 + lam) ⟨by omega, h1.2.2⟩ ⟨by omega, h2.2.2⟩
 have h6 : 0 < (c.l.1 + lam) * (c.r.1 + lam) := Int.mul_pos (by omega) (by omega)
 omega
theorem gainC_fr {c : Cd} {lam : Int} (hs : slP c.l) (ht : slP c.r) (hl : 1 ≤ lam ∧ lam ≤ 100) : frP (gainC c lam) := by
 have := gainC_in hs ht hl
 unfold frP gainC
 dsimp only
 omega
end Go.H.S
namespace Go.H.S
open Go Go.Proofs Go.H
attribute [local irreducible] Tri FnSpec FnSpecM FnSpecX FnSpecJ FnSpecB
theorem halves (x y : Nat) (hx : x < 18446744073709551616) (hy : y < 18446744073709551616) : (x % 4294967296) * (y % 4294967296) < 18446744073709551616 ∧ (x / 4294967296) * (y % 4294967296) < 18446744073709551616 ∧ (x % 4294967296) * (y / 4294967296) < 18446744073709551616 ∧
  (x / 4294967296) * (y / 4294967296) < 18446744073709551616 ∧ x * y / 18446744073709551616 < 18446744073709551616 := by
 have ha := Go.Lib.half_mul_le (a := x / 4294967296) (b := y / 4294967296) (by omega) (by omega)
 have hb := Go.Lib.half_mul_le (a := x / 4294967296) (b := y % 4294967296) (by omega) (by omega)
 have hc := Go.Lib.half_mul_le (a := x % 4294967296) (b := y / 4294967296) (by omega) (by omega)
 have hd := Go.Lib.half_mul_le (a := x % 4294967296) (b := y % 4294967296) (by omega) (by omega)
 have he : x * y ≤ 18446744073709551615 * 18446744073709551615 := Nat.mul_le_mul (by omega) (by omega)
 omega
theorem bits_Mul64_spec (x y : Nat) (hx : x < 18446744073709551616) (hy : y < 18446744073709551616) : FnSpec PR f_math_bits_Mul64 [.c (.d (.int .u64 x)), .c (.d (.int .u64 y))] (tupUU (x * y / 18446744073709551616) (x * y % 18446744073709551616)) [] 0 := by
 have ⟨h1, h2, h3, h4⟩ := Go.Lib.mul64_hi x y hx hy
 have ⟨g1, g2, g3, g4, g5⟩ := halves x y hx hy
 refine FnSpec.intro hT (pf Tryz.func265) rfl (by kernel_rfl) Tryz.ntmps265 rfl ?_
 conv => whnf
 repeat (refine And.intro (by unfold NN; omega) ?_; (conv => whnf))
 rw [wShrU32 x, wShrU32 y, wAndU32 x hx, wAndU32 y hy, wMulU _ _ g1, wShrU32, wMulU _ _ g2, wAddU_nat _ _ h2, wShrU32, wAndU32 _ h2, wMulU _ _ g3, wAddU_nat _ _ h3, wShrU32, wMulU _ _ g4, wAddU_nat _ _ (by omega), wAddU_nat _ _ (by omega), wMulU_nat, h4]
theorem impl_size_spec (n : Int) (h : i64 n) : FnSpec PR f_impl_size [ai n] (.c (.d (.int .u64 (n.natAbs : Int)))) [] 0 := by
 have h' : -9223372036854775808 ≤ n ∧ n ≤ 9223372036854775807 := h
 refine FnSpec.intro hT (pf Tryz.func264) rfl (by kernel_rfl) Tryz.ntmps264 rfl ?_
 conv => whnf
 refine ifB_i (fun g => ?_) (fun g => ?_) <;> (conv => whnf) <;> simp only [eH] at g
 ·rw [wNegU_mod, wConvU_mod, show (0 - n % 18446744073709551616) % 18446744073709551616 = (n.natAbs : Int) by omega]
 ·rw [wConvU_mod, show n % 18446744073709551616 = (n.natAbs : Int) by omega]
theorem spec_l3Abs_spec (n : Int) (h : i64 n) : FnSpec PR f_spec_l3Abs [ai n] (.c (.d (.int .u64 (n.natAbs : Int)))) [] 0 := by
 have h' : -9223372036854775808 ≤ n ∧ n ≤ 9223372036854775807 := h
 refine FnSpec.intro hT (pf Tryz.func300) rfl (by kernel_rfl) Tryz.ntmps300 rfl ?_
 conv => whnf
 refine ifB_i (fun g => ?_) (fun g => ?_) <;> (conv => whnf) <;> simp only [eH] at g
 ·have e1 : wNeg .i64 (wAdd .i64 n 1) = -(n + 1) := by rw [wAdd64 (by omega) (by omega)]; unfold wNeg; rw [wrap64 (by omega) (by omega)]; omega
  rw [e1, wAddU_mod, wConvU_mod, show (-(n + 1) % 18446744073709551616 + 1) % 18446744073709551616 = (n.natAbs : Int) by omega]
 ·rw [wConvU_mod, show n % 18446744073709551616 = (n.natAbs : Int) by omega]
theorem spec_l3Product_spec (x y : Nat) (hx : x < 18446744073709551616) (hy : y < 18446744073709551616) : FnSpec PR f_spec_l3Product [.c (.d (.int .u64 x)), .c (.d (.int .u64 y))] (tupUU (x * y / 18446744073709551616) (x * y % 18446744073709551616)) [] 0 := by
 have ⟨h1, h2, h3, h4⟩ := Go.Lib.mul64_hi x y hx hy
 have ⟨g1, g2, g3, g4, g5⟩ := halves x y hx hy
 have h5 := mul64_lo x y hx hy
 refine FnSpec.intro hT (pf Tryz.func299) rfl (by kernel_rfl) Tryz.ntmps299 rfl ?_
 conv => whnf
 repeat (refine And.intro (by unfold NN; omega) ?_; (conv => whnf))
 rw [wShrU32 x, wShrU32 y, wAndU32 x hx, wAndU32 y hy, wMulU _ _ g1, wShrU32, wMulU _ _ g2, wAddU_nat _ _ h2, wShrU32, wAndU32 _ h2, wMulU _ _ g3, wAddU_nat _ _ (by omega), wShrU32, wMulU _ _ g4, wAddU_nat _ _ (by omega), wAddU_nat _ _ (by omega), wShlU32, wAndU32 _ g1, wAddU_nat _ _ (by omega)]
 rw [show x % 4294967296 * (y / 4294967296) + (x / 4294967296 * (y % 4294967296) + x % 4294967296 * (y % 4294967296) / 4294967296) % 4294967296 = (x / 4294967296 * (y % 4294967296) + x % 4294967296 * (y % 4294967296) / 4294967296) % 4294967296 + x % 4294967296 * (y / 4294967296) from Nat.add_comm _ _, h4]
 rw [show ∀ m : Nat, m * 4294967296 % 18446744073709551616 = m % 4294967296 * 4294967296 from fun m => by omega, h5]
theorem impl_wideOf_spec (n : Int) (b : Bool) (a c : Int) (hb : n ≠ 0 → b = decide (n < 0)) (ha : a = hiU n) (hc : c = loU n) : FnSpec PR f_impl_wideOf [ab b, .c (.d (.int .u64 a)), .c (.d (.int .u64 c))] (aW n) [] 0 := by
 have h := hl n
 subst ha; subst hc
 have h0 : n = 0 → decide (n < 0) = false := fun q => by subst q; rfl
 show FnSpec PR f_impl_wideOf [ab b, .c (.d (.int .u64 (hiU n))), .c (.d (.int .u64 (loU n)))] (.agg [.d (.bool (decide (n < 0))), .d (.int .u64 (hiU n)), .d (.int .u64 (loU n))]) [] 0
 generalize decide (n < 0) = d at *
 refine FnSpec.intro hT (pf Tryz.func262) rfl (by kernel_rfl) Tryz.ntmps262 rfl ?_
 conv => whnf
 cases b <;> (conv => whnf)
 ·have : d = false := by
   rcases Int.lt_trichotomy n 0 with q | q | q
   ·exact (hb (by omega)).symm
   ·exact h0 q
   ·exact (hb (by omega)).symm
  rw [this]
 ·cases h1 : iLt 0 (hiU n)
  ·conv => whnf
   simp only [eH] at h1
   cases h2 : iLt 0 (loU n)
   ·simp only [eH] at h2
    conv => whnf
    rw [h0 (by omega)]
   ·simp only [eH] at h2
    conv => whnf
    rw [← hb (by omega)]
  ·simp only [eH] at h1
   conv => whnf
   rw [← hb (by omega)]
theorem natAbs_mul_lt {a b : Int} (ha : i64 a) (hb : i64 b) : a.natAbs < 18446744073709551616 ∧ b.natAbs < 18446744073709551616 := by
 have ha : -9223372036854775808 ≤ a ∧ a ≤ 9223372036854775807 := ha
 have hb : -9223372036854775808 ≤ b ∧ b ≤ 9223372036854775807 := hb
 omega
theorem hl_mul (a b : Int) : hiU (a * b) = ((a.natAbs * b.natAbs / 18446744073709551616 : Nat) : Int) ∧ loU (a * b) = ((a.natAbs * b.natAbs % 18446744073709551616 : Nat) : Int) := by
 unfold hiU loU
 rw [Int.natAbs_mul]; exact ⟨rfl, rfl⟩
theorem args3 {w : World} {F : Nat → Prop} {vals : List Value} {x y z : Int} {k : IntKind} (h : ArgsRep w F [.c (.d (.int k x)), .c (.d (.int k y)), .c (.d (.int k z))] vals) : vals = [.int k x, .int k y, .int k z] := by
 obtain ⟨hl, hv⟩ := h
 match vals, hl with
 | [a, b, c], _ =>
  have h0 := hv 0 _ a rfl rfl
  have h1 := hv 1 _ b rfl rfl
  have h2 := hv 2 _ c rfl rfl
  cases h0; cases h1; cases h2; rfl
theorem bits_Add64_spec (x y c : Nat) (hc : c ≤ 1) : FnSpecX PR f_math_bits_Add64 [.c (.d (.int .u64 x)), .c (.d (.int .u64 y)), .c (.d (.int .u64 c))] Unit (fun _ => True) (fun _ => tupUU ((x + y + c) % 18446744073709551616) ((x + y + c) / 18446744073709551616)) (fun _ => []) (fun _ => 0) := by
 refine FnSpecX.ext fun F w vals h => ?_
 rw [args3 h]
 refine ⟨(), .tuple #[.int .u64 (((x + y + c) % 18446744073709551616 : Nat) : Int), .int .u64 (((x + y + c) / 18446744073709551616 : Nat) : Int)], trivial, ?_, rfl, rfl, rfl, ?_⟩
 ·refine (run_callFunc_extern (pf Tryz.func263) (by kernel_rfl) (by kernel_rfl) (by kernel_rfl) (e := add64Entry) (by kernel_rfl) _ w).trans ?_
  have e := run_add64 (P := PR) (x : Int) (y : Int) (c : Int) (by omega) (by omega) (by omega) (by omega) w
  rw [e]
  simp only [Result.andThen]
  congr 5 <;> omega
 ·refine ⟨[.int .u64 _, .int .u64 _], rfl, rfl, fun j p u hj hu => ?_⟩
  match j, hj, hu with
  | 0, hj, hu => cases hj; cases hu; exact ⟨rfl, fun j c u hj hu => by match j, hj, hu with | 0, hj, hu => (cases hj; cases hu; exact .int _ _)⟩
  | 1, hj, hu => cases hj; cases hu; exact ⟨rfl, fun j c u hj hu => by match j, hj, hu with | 0, hj, hu => (cases hj; cases hu; exact .int _ _)⟩
abbrev cV (n : Int) : List CV := [.d (.bool false), .d (.int .u64 (hiU n)), .d (.int .u64 (loU n))]
abbrev aV (n : Int) : AV := .agg (cV n)
theorem aW_pos {n : Int} (h : 0 ≤ n) : aW n = aV n := by
 show AV.agg [.d (.bool (decide (n < 0))), .d (.int .u64 (hiU n)), .d (.int .u64 (loU n))] = _
 rw [decide_eq_false (by omega)]
abbrev tupVB (n : Int) (b : Bool) : AV := .tup [(true, cV n), (false, [.d (.bool b)])]
theorem hlp {n : Int} (h : 0 ≤ n) : n = hiU n * 18446744073709551616 + loU n ∧ 0 ≤ loU n ∧ loU n < 18446744073709551616 ∧ 0 ≤ hiU n := by
 have := hl n; omega
theorem impl_wideOf_pos (n : Int) (h : 0 ≤ n) (a c : Int) (ha : a = hiU n) (hc : c = loU n) : FnSpec PR f_impl_wideOf [ab false, .c (.d (.int .u64 a)), .c (.d (.int .u64 c))] (aV n) [] 0 := by
 have := impl_wideOf_spec n false a c (fun _ => (decide_eq_false (by omega)).symm) ha hc
 rwa [aW_pos h] at this
theorem impl_MulWide_sq (a : Int) (ha : i64 a) : FnSpec PR f_impl_MulWide [ai a, ai a] (aV (a * a)) [] 0 := by
 have hn := (natAbs_mul_lt ha ha).1
 have hh := hl_mul a a
 have hp : 0 ≤ a * a := (sq_in (A := 9223372036854775808) (by have : -9223372036854775808 ≤ a ∧ a ≤ 9223372036854775807 := ha; omega)).1
 refine FnSpec.intro hT (pf Tryz.func257) rfl (by kernel_rfl) Tryz.ntmps257 rfl ?_
 conv => whnf
 refine .inl ⟨_, _, _, impl_size_spec a ha, rfl, ?_⟩
 conv => whnf
 refine .inl ⟨_, _, _, impl_size_spec a ha, rfl, ?_⟩
 conv => whnf
 refine .inl ⟨_, _, _, bits_Mul64_spec _ _ hn hn, rfl, ?_⟩
 conv => whnf
 rw [show bNot (bEq (iLt a 0) (iLt a 0)) = false by cases iLt a 0 <;> rfl]
 conv => whnf
 refine .inl ⟨_, _, _, impl_wideOf_pos (a * a) hp _ _ hh.1.symm hh.2.symm, rfl, ?_⟩
 conv => whnf
theorem spec_MulWide_sq (a : Int) (ha : i64 a) : FnSpec PR f_spec_MulWide [ai a, ai a] (aV (a * a)) [] 0 := by
 have hn := (natAbs_mul_lt ha ha).1
 have hh := hl_mul a a
 refine FnSpec.intro hT (pf Tryz.func250) rfl (by kernel_rfl) Tryz.ntmps250 rfl ?_
 conv => whnf
 refine .inl ⟨_, _, _, spec_l3Abs_spec a ha, rfl, ?_⟩
 conv => whnf
 refine .inl ⟨_, _, _, spec_l3Abs_spec a ha, rfl, ?_⟩
 conv => whnf
 refine .inl ⟨_, _, _, spec_l3Product_spec _ _ hn hn, rfl, ?_⟩
 conv => whnf
 rw [show bNot (bEq (iLt a 0) (iLt a 0)) = false by cases iLt a 0 <;> rfl]
 conv => whnf
 rw [← hh.1, ← hh.2]
theorem hi_lt {n : Int} (h : 0 ≤ n) (h2 : n < 170141183460469231731687303715884105728) : hiU n < 9223372036854775808 := by
 have := hlp h
 omega
abbrev rawW (hi lo : Int) : AV := .agg [.d (.bool false), .d (.int .u64 hi), .d (.int .u64 lo)]
theorem hn_of {n : Int} (h : 0 ≤ n) (h2 : n < 170141183460469231731687303715884105728) : ∃ hi lo : Nat, hiU n = hi ∧ loU n = lo ∧ n = (hi : Int) * 18446744073709551616 + lo ∧ lo < 18446744073709551616 ∧ hi < 9223372036854775808 := by
 have h3 := hlp h
 have h4 := hi_lt h h2
 exact ⟨(hiU n).toNat, (loU n).toNat, by omega, by omega, by omega, by omega, by omega⟩
theorem hn_eq {n : Int} {hi lo : Nat} (h : n = (hi : Int) * 18446744073709551616 + lo) (hl : lo < 18446744073709551616) : hiU n = hi ∧ loU n = lo := by unfold hiU loU; omega
theorem impl_WideOk_raw (hi lo : Int) (h : hi < 9223372036854775808) : FnSpec PR f_impl_WideOk [rawW hi lo] (ab true) [] 0 := by
 refine FnSpec.intro hT (pf Tryz.func259) rfl (by kernel_rfl) Tryz.ntmps259 rfl ?_
 conv => whnf
 rw [show iLt hi 9223372036854775808 = true from decide_eq_true (by omega)]
 conv => whnf
theorem spec_WideOk_raw (hi lo : Int) (h : hi < 9223372036854775808) : FnSpec PR f_spec_WideOk [rawW hi lo] (ab true) [] 0 := by
 refine FnSpec.intro hT (pf Tryz.func180) rfl (by kernel_rfl) Tryz.ntmps180 rfl ?_
 conv => whnf
 rw [show iLt hi 9223372036854775808 = true from decide_eq_true (by omega)]
 conv => whnf
theorem impl_wideOf_raw (hi lo : Int) : FnSpec PR f_impl_wideOf [ab false, .c (.d (.int .u64 hi)), .c (.d (.int .u64 lo))] (rawW hi lo) [] 0 := by
 refine FnSpec.intro hT (pf Tryz.func262) rfl (by kernel_rfl) Tryz.ntmps262 rfl ?_
 conv => whnf
theorem impl_AddWide_raw (ah al bh bl : Nat) (h1 : ah < 9223372036854775808) (h2 : al < 18446744073709551616) (h3 : bh < 9223372036854775808) (h4 : bl < 18446744073709551616) (h5 : (ah + bh + (al + bl) / 18446744073709551616) < 9223372036854775808) :
  FnSpec PR f_impl_AddWide [rawW ah al, rawW bh bl] (.tup [(true, [.d (.bool false), .d (.int .u64 ((ah + bh + (al + bl) / 18446744073709551616 : Nat) : Int)), .d (.int .u64 (((al + bl) % 18446744073709551616 : Nat) : Int))]), (false, [.d (.bool true)])]) [] 0 := by
 refine FnSpec.intro hT (pf Tryz.func170) rfl (by kernel_rfl) Tryz.ntmps170 rfl ?_
 conv => whnf
 refine .inl ⟨_, _, _, impl_WideOk_raw _ _ (by omega), rfl, ?_⟩
 conv => whnf
 refine .inl ⟨_, _, _, impl_WideOk_raw _ _ (by omega), rfl, ?_⟩
 conv => whnf
 refine .inr ⟨_, _, _, _, _, bits_Add64_spec al bl 0 (by omega), fun _ _ => ⟨rfl, ?_⟩⟩
 conv => whnf
 rw [Nat.add_zero]
 refine .inr ⟨_, _, _, _, _, bits_Add64_spec ah bh ((al + bl) / 18446744073709551616) (by omega), fun _ _ => ⟨rfl, ?_⟩⟩
 conv => whnf
 rw [Nat.mod_eq_of_lt (show ah + bh + (al + bl) / 18446744073709551616 < 18446744073709551616 by omega)]
 refine .inl ⟨_, _, _, impl_wideOf_raw _ _, rfl, ?_⟩
 conv => whnf
 refine .inl ⟨_, _, _, impl_WideOk_raw _ _ (by omega), rfl, ?_⟩
 conv => whnf
theorem impl_AddWide_pos (a b : Int) (ha : 0 ≤ a) (hb : 0 ≤ b) (h : a + b < 170141183460469231731687303715884105728) : FnSpec PR f_impl_AddWide [aV a, aV b] (tupVB (a + b) true) [] 0 := by
 obtain ⟨ah, al, a1, a2, a3, a4, a5⟩ := hn_of ha (by omega)
 obtain ⟨bh, bl, b1, b2, b3, b4, b5⟩ := hn_of hb (by omega)
 have hs : a + b = ((ah + bh + (al + bl) / 18446744073709551616 : Nat) : Int) * 18446744073709551616 + ((al + bl) % 18446744073709551616 : Nat) := by omega
 have hq := hn_eq hs (by omega)
 have := impl_AddWide_raw ah al bh bl a5 a4 b5 b4 (by omega)
 rw [← a1, ← a2, ← b1, ← b2, ← hq.1, ← hq.2] at this
 exact this
theorem spec_AddWide_raw (ah al bh bl : Nat) (h1 : ah < 9223372036854775808) (h2 : al < 18446744073709551616) (h3 : bh < 9223372036854775808) (h4 : bl < 18446744073709551616) (h5 : (ah + bh + (al + bl) / 18446744073709551616) < 9223372036854775808) :
  FnSpec PR f_spec_AddWide [rawW ah al, rawW bh bl] (.tup [(true, [.d (.bool false), .d (.int .u64 ((ah + bh + (al + bl) / 18446744073709551616 : Nat) : Int)), .d (.int .u64 (((al + bl) % 18446744073709551616 : Nat) : Int))]), (false, [.d (.bool true)])]) [] 0 := by
 have e1 : wAdd .u64 (al : Int) (bl : Int) = (((al + bl) % 18446744073709551616 : Nat) : Int) := by rw [wAddU_mod]; omega
 have e2 : wAdd .u64 (ah : Int) (bh : Int) = ((ah + bh : Nat) : Int) := by rw [wAddU_mod]; omega
 have e3 : wAdd .u64 ((ah + bh : Nat) : Int) 1 = ((ah + bh + 1 : Nat) : Int) := by rw [wAddU_mod]; omega
 refine FnSpec.intro hT (pf Tryz.func71) rfl (by kernel_rfl) Tryz.ntmps71 rfl ?_
 conv => whnf
 refine .inl ⟨_, _, _, spec_WideOk_raw _ _ (by omega), rfl, ?_⟩
 conv => whnf
 refine .inl ⟨_, _, _, spec_WideOk_raw _ _ (by omega), rfl, ?_⟩
 conv => whnf
 rw [e1, e2]
 refine ifB_i (fun g => ?_) (fun g => ?_) <;> (conv => whnf) <;> simp only [eH] at g
 ·rw [e3]
  rw [show ah + bh + (al + bl) / 18446744073709551616 = ah + bh + 1 by omega]
  refine .inl ⟨_, _, _, spec_WideOk_raw _ _ (by omega), rfl, ?_⟩
  conv => whnf
 ·rw [show ah + bh + (al + bl) / 18446744073709551616 = ah + bh by omega]
  refine .inl ⟨_, _, _, spec_WideOk_raw _ _ (by omega), rfl, ?_⟩
  conv => whnf
theorem spec_AddWide_pos (a b : Int) (ha : 0 ≤ a) (hb : 0 ≤ b) (h : a + b < 170141183460469231731687303715884105728) : FnSpec PR f_spec_AddWide [aV a, aV b] (tupVB (a + b) true) [] 0 := by
 obtain ⟨ah, al, a1, a2, a3, a4, a5⟩ := hn_of ha (by omega)
 obtain ⟨bh, bl, b1, b2, b3, b4, b5⟩ := hn_of hb (by omega)
 have hs : a + b = ((ah + bh + (al + bl) / 18446744073709551616 : Nat) : Int) * 18446744073709551616 + ((al + bl) % 18446744073709551616 : Nat) := by omega
 have hq := hn_eq hs (by omega)
 have := spec_AddWide_raw ah al bh bl a5 a4 b5 b4 (by omega)
 rw [← a1, ← a2, ← b1, ← b2, ← hq.1, ← hq.2] at this
 exact this
end Go.H.S
namespace Go.H.S
open Go Go.Proofs Go.H
attribute [local irreducible] Tri FnSpec FnSpecM FnSpecX FnSpecJ FnSpecB
structure Scaled (hi lo k : Nat) : Prop where
 lo_lt : lo < 18446744073709551616
 k_lt : k < 18446744073709551616
 hi_lt : hi < 9223372036854775808
 room : hi * k + lo * k / 18446744073709551616 < 9223372036854775808
abbrev scaledR (hi lo k : Nat) : AV := .tup [(true, [.d (.bool false), .d (.int .u64 ((hi * k + lo * k / 18446744073709551616 : Nat) : Int)), .d (.int .u64 ((lo * k % 18446744073709551616 : Nat) : Int))]), (false, [.d (.bool true)])]
theorem scaled_of {n k : Int} (hn : 0 ≤ n) (hk : 0 ≤ k ∧ k ≤ 9223372036854775807) (h : n * k < 170141183460469231731687303715884105728) (h2 : n < 170141183460469231731687303715884105728) :
  ∃ hi lo k' : Nat, hiU n = hi ∧ loU n = lo ∧ k = k' ∧ Scaled hi lo k' ∧ hiU (n * k) = ((hi * k' + lo * k' / 18446744073709551616 : Nat) : Int) ∧ loU (n * k) = ((lo * k' % 18446744073709551616 : Nat) : Int) := by
 obtain ⟨hi, lo, e1, e2, e3, e4, e5⟩ := hn_of hn h2
 obtain ⟨k', rfl⟩ : ∃ k' : Nat, k = k' := ⟨k.toNat, by omega⟩
 have hp : n * (k' : Int) = ((hi * k' : Nat) : Int) * 18446744073709551616 + ((lo * k' : Nat) : Int) := by
  rw [e3, Int.add_mul, Int.natCast_mul, Int.natCast_mul, Int.mul_right_comm]
 have hs : n * (k' : Int) = ((hi * k' + lo * k' / 18446744073709551616 : Nat) : Int) * 18446744073709551616 + ((lo * k' % 18446744073709551616 : Nat) : Int) := by
  rw [hp]; generalize hi * k' = p; generalize lo * k' = q; omega
 have hq := hn_eq hs (by generalize lo * k' = q; omega)
 refine ⟨hi, lo, k', e1, e2, rfl, ⟨e4, by omega, e5, ?_⟩, hq.1, hq.2⟩
 rw [hs] at h
 generalize hi * k' + lo * k' / 18446744073709551616 = p at *
 generalize lo * k' % 18446744073709551616 = q at *
 omega
theorem impl_ScaleWide_raw (hi lo k : Nat) (hk : k ≤ 9223372036854775807) (h : Scaled hi lo k) : FnSpec PR f_impl_ScaleWide [rawW hi lo, ai k] (scaledR hi lo k) [] 0 := by
 have r := h.room
 have e1 : hi * k / 18446744073709551616 = 0 := by generalize hi * k = p at *; omega
 have e2 : hi * k % 18446744073709551616 = hi * k := by generalize hi * k = p at *; omega
 have hi1 := h.hi_lt; have lo1 := h.lo_lt; have k1 := h.k_lt
 have hlo : lo * k / 18446744073709551616 < 18446744073709551616 := (halves lo k lo1 k1).2.2.2.2
 refine FnSpec.intro hT (pf Tryz.func173) rfl (by kernel_rfl) Tryz.ntmps173 rfl ?_
 conv => whnf
 refine .inl ⟨_, _, _, impl_WideOk_raw _ _ (by omega), rfl, ?_⟩
 conv => whnf
 refine .inl ⟨_, _, _, impl_size_spec k (show i64 k from ⟨by omega, by omega⟩), rfl, ?_⟩
 conv => whnf
 rw [Int.natAbs_natCast]
 refine .inl ⟨_, _, _, bits_Mul64_spec hi k (by omega) k1, rfl, ?_⟩
 conv => whnf
 refine .inl ⟨_, _, _, bits_Mul64_spec lo k lo1 k1, rfl, ?_⟩
 conv => whnf
 refine .inr ⟨_, _, _, _, _, bits_Add64_spec (hi * k % 18446744073709551616) (lo * k / 18446744073709551616) 0 (by omega), fun _ _ => ⟨rfl, ?_⟩⟩
 conv => whnf
 rw [show iLt (k : Int) 0 = false from decide_eq_false (by omega)]
 conv => whnf
 have e3 : (hi * k % 18446744073709551616 + lo * k / 18446744073709551616 + 0) % 18446744073709551616 = hi * k + lo * k / 18446744073709551616 := by
  rw [e2]; generalize hi * k = p at *; generalize lo * k / 18446744073709551616 = q at *; omega
 have e4 : (hi * k % 18446744073709551616 + lo * k / 18446744073709551616 + 0) / 18446744073709551616 = 0 := by
  rw [e2]; generalize hi * k = p at *; generalize lo * k / 18446744073709551616 = q at *; omega
 rw [e3, e4, e1]
 refine .inl ⟨_, _, _, impl_wideOf_raw _ _, rfl, ?_⟩
 conv => whnf
 refine .inl ⟨_, _, _, impl_WideOk_raw _ _ (by omega), rfl, ?_⟩
 conv => whnf
theorem impl_ScaleWide_pos (n k : Int) (hn : 0 ≤ n) (hk : 0 ≤ k ∧ k ≤ 9223372036854775807) (h : n * k < 170141183460469231731687303715884105728) (h2 : n < 170141183460469231731687303715884105728) :
  FnSpec PR f_impl_ScaleWide [aV n, ai k] (tupVB (n * k) true) [] 0 := by
 obtain ⟨hi, lo, k', e1, e2, rfl, hs, e3, e4⟩ := scaled_of hn hk h h2
 have := impl_ScaleWide_raw hi lo k' (by omega) hs
 rw [← e1, ← e2] at this
 show FnSpec PR f_impl_ScaleWide [aV n, ai k'] (.tup [(true, [.d (.bool false), .d (.int .u64 (hiU (n * k'))), .d (.int .u64 (loU (n * k')))]), (false, [.d (.bool true)])]) [] 0
 rw [e3, e4]
 exact this
theorem spec_l3Zero_raw (hi lo : Int) : FnSpec PR f_spec_l3Zero [rawW hi lo] (ab (decide (hi = 0 ∧ lo = 0))) [] 0 := by
 refine FnSpec.intro hT (pf Tryz.func182) rfl (by kernel_rfl) Tryz.ntmps182 rfl ?_
 conv => whnf
 cases h : iEq hi 0
 ·conv => whnf
  simp only [eH] at h
  rw [decide_eq_false (fun q : hi = 0 ∧ lo = 0 => h q.1)]
 ·simp only [eH] at h
  conv => whnf
  rw [show decide (hi = 0 ∧ lo = 0) = iEq lo 0 from decide_eq_decide.2 (show (hi = 0 ∧ lo = 0) ↔ lo = 0 from ⟨fun q => q.2, fun q => ⟨h, q⟩⟩)]
theorem spec_ScaleWide_raw (hi lo k : Nat) (hk : k ≤ 9223372036854775807) (h : Scaled hi lo k) : FnSpec PR f_spec_ScaleWide [rawW hi lo, ai k] (scaledR hi lo k) [] 0 := by
 have r := h.room
 have e1 : hi * k / 18446744073709551616 = 0 := by generalize hi * k = p at *; omega
 have e2 : hi * k % 18446744073709551616 = hi * k := by generalize hi * k = p at *; omega
 have hi1 := h.hi_lt; have lo1 := h.lo_lt; have k1 := h.k_lt
 have hlo : lo * k / 18446744073709551616 < 18446744073709551616 := (halves lo k lo1 k1).2.2.2.2
 have e3 : wAdd .u64 ((hi * k : Nat) : Int) ((lo * k / 18446744073709551616 : Nat) : Int) = ((hi * k + lo * k / 18446744073709551616 : Nat) : Int) := by
  rw [wAddU_nat]; generalize hi * k = p at *; generalize lo * k / 18446744073709551616 = q at *; omega
 refine FnSpec.intro hT (pf Tryz.func365) rfl (by kernel_rfl) Tryz.ntmps365 rfl ?_
 conv => whnf
 refine .inl ⟨_, _, _, spec_WideOk_raw _ _ (by omega), rfl, ?_⟩
 conv => whnf
 refine .inl ⟨_, _, _, spec_l3Abs_spec k (show i64 k from ⟨by omega, by omega⟩), rfl, ?_⟩
 conv => whnf
 rw [Int.natAbs_natCast]
 refine .inl ⟨_, _, _, spec_l3Product_spec hi k (by omega) k1, rfl, ?_⟩
 conv => whnf
 refine .inl ⟨_, _, _, spec_l3Product_spec lo k lo1 k1, rfl, ?_⟩
 conv => whnf
 rw [show iLt (k : Int) 0 = false from decide_eq_false (by omega), e1, e2, e3]
 conv => whnf
 refine .inl ⟨_, _, _, spec_l3Zero_raw _ _, rfl, ?_⟩
 conv => whnf
 have e5 : iLt ((hi * k + lo * k / 18446744073709551616 : Nat) : Int) ((hi * k : Nat) : Int) = false := decide_eq_false (by generalize hi * k = p at *; generalize lo * k / 18446744073709551616 = q at *; omega)
 refine ifB_i (fun g => ?_) (fun g => ?_) <;> (conv => whnf)
 ·rw [e5]
  conv => whnf
  refine .inl ⟨_, _, _, spec_WideOk_raw _ _ (by omega), rfl, ?_⟩
  conv => whnf
 ·rw [e5]
  conv => whnf
  rw [show bNot (bEq false false) = false from rfl]
  refine .inl ⟨_, _, _, spec_WideOk_raw _ _ (by omega), rfl, ?_⟩
  conv => whnf
theorem spec_ScaleWide_pos (n k : Int) (hn : 0 ≤ n) (hk : 0 ≤ k ∧ k ≤ 9223372036854775807) (h : n * k < 170141183460469231731687303715884105728) (h2 : n < 170141183460469231731687303715884105728) :
  FnSpec PR f_spec_ScaleWide [aV n, ai k] (tupVB (n * k) true) [] 0 := by
 obtain ⟨hi, lo, k', e1, e2, rfl, hs, e3, e4⟩ := scaled_of hn hk h h2
 have := spec_ScaleWide_raw hi lo k' (by omega) hs
 rw [← e1, ← e2] at this
 show FnSpec PR f_spec_ScaleWide [aV n, ai k'] (.tup [(true, [.d (.bool false), .d (.int .u64 (hiU (n * k'))), .d (.int .u64 (loU (n * k')))]), (false, [.d (.bool true)])]) [] 0
 rw [e3, e4]
 exact this
def cmpI (x y : Int) : Int := if x < y then -1 else if y < x then 1 else 0
def lexI (ah al bh bl : Int) : Int := if cmpI ah bh ≠ 0 then cmpI ah bh else cmpI al bl
theorem lex_sgn {a b : Int} (ha : 0 ≤ a) (hb : 0 ≤ b) : lexI (hiU a) (loU a) (hiU b) (loU b) = sgnI (a - b) := by
 have ga := hlp ha
 have gb := hlp hb
 generalize hiU a = ah at *
 generalize loU a = al at *
 generalize hiU b = bh at *
 generalize loU b = bl at *
 unfold lexI sgnI
 rcases Int.lt_trichotomy ah bh with q | q | q
 ·rw [show cmpI ah bh = -1 from if_pos q, if_pos (by decide), if_pos (by omega)]
 ·subst q
  rw [show cmpI ah ah = 0 by unfold cmpI; rw [if_neg (Int.lt_irrefl _), if_neg (Int.lt_irrefl _)], if_neg (by simp)]
  unfold cmpI
  split
  ·rw [if_pos (by omega)]
  ·split
   ·rw [if_neg (by omega), if_neg (by omega)]
   ·rw [if_neg (by omega), if_pos (by omega)]
 ·rw [show cmpI ah bh = 1 by unfold cmpI; rw [if_neg (by omega), if_pos q], if_pos (by decide), if_neg (by omega), if_neg (by omega)]
theorem cmp_isNaN_uint64_spec (x : Int) : FnSpec PR f_cmp_isNaN_uint64 [.c (.d (.int .u64 x))] (ab false) [] 0 := by
 refine FnSpec.intro hT (pf Tryz.func334) rfl (by kernel_rfl) Tryz.ntmps334 rfl ?_
 conv => whnf
 rw [show iEq x x = true from decide_eq_true rfl]
 rfl
theorem cmp_Compare_uint64_spec (x y : Int) : FnSpec PR f_cmp_Compare_uint64 [.c (.d (.int .u64 x)), .c (.d (.int .u64 y))] (ai (cmpI x y)) [] 0 := by
 refine FnSpec.intro hT (pf Tryz.func306) rfl (by kernel_rfl) Tryz.ntmps306 rfl ?_
 conv => whnf
 refine .inl ⟨_, _, _, cmp_isNaN_uint64_spec x, rfl, ?_⟩
 conv => whnf
 refine .inl ⟨_, _, _, cmp_isNaN_uint64_spec y, rfl, ?_⟩
 conv => whnf
 unfold cmpI
 refine ifB_i (fun g => ?_) (fun g => ?_) <;> (conv => whnf) <;> simp only [eH] at g
 ·rw [if_pos g]
 ·refine ifB_i (fun g2 => ?_) (fun g2 => ?_) <;> (conv => whnf) <;> simp only [eH] at g2
  ·rw [if_neg (by omega), if_pos g2]
  ·rw [if_neg (by omega), if_neg (by omega)]
theorem cmp_Or_int_two (x y : Int) : FnSpec PR f_cmp_Or_int [aIs [x, y]] (ai (if x ≠ 0 then x else y)) [] 0 := by
 refine FnSpec.intro hT (pf Tryz.func305) rfl (by kernel_rfl) Tryz.ntmps305 rfl ?_
 conv => whnf
 refine tri_loop hT [3, 6, 7, 8] (α := Nat) (fun k => { t := [(3, ai 0), (6, aIs [x, y]), (7, ai 2), (8, ai k)], h := [], n := 0, N := 18 })
  (fun k => k ≤ 2 ∧ (1 ≤ k → x = 0) ∧ (2 ≤ k → y = 0)) (fun k => 2 - k) 0 (by (conv => whnf); simp [eL]) ⟨Nat.zero_le _, fun h => by omega, fun h => by omega⟩ ?_
 intro k ⟨hk, h1, h2⟩
 conv => whnf
 refine ifB_i (fun g => ?_) (fun g => ?_) <;> (conv => whnf) <;> simp only [eH] at g
 ·have hz : ∃ z, [x, y][k]? = some z ∧ (k = 0 → z = x) ∧ (k = 1 → z = y) := by
   match k, g with
   | 0, _ => exact ⟨x, rfl, fun _ => rfl, fun q => (by omega)⟩
   | 1, _ => exact ⟨y, rfl, fun q => (by omega), fun _ => rfl⟩
   | k + 2, g => omega
  obtain ⟨z, hz, z0, z1⟩ := hz
  refine idx_at (by simp) hz ?_
  conv => whnf
  refine ifB_i (fun g2 => ?_) (fun g2 => ?_) <;> (conv => whnf) <;> simp only [eH] at g2
  ·rcases (show k = 0 ∨ k = 1 by omega) with q | q
   ·rw [if_pos (by rw [← z0 q]; exact g2), z0 q]
   ·rw [if_neg (by simp [h1 (by omega)]), z1 q]
  ·refine ⟨k + 1, by omega, ⟨by omega, fun q => ?_, fun q => ?_⟩, ?_⟩
   ·rcases (show k = 0 ∨ k = 1 by omega) with q | q
    ·rw [← z0 q]; exact g2
    ·exact h1 (by omega)
   ·rw [← z1 (by omega)]; exact g2
   ·((conv => whnf); simp only [eS, wI (show k < 2 by omega) (by omega)])
 ·rw [if_neg (by simp [h1 (by omega)]), h2 (by omega)]
theorem cmp_Or_int_lit (x y : Int) : FnSpec PR f_cmp_Or_int [.c (.d (.sl 1 [[.int .i64 x], [.int .i64 y]]))] (ai (if x ≠ 0 then x else y)) [] 0 := by
 have := cmp_Or_int_two x y
 have e : eL cI [x, y] = [[D.int .i64 x], [D.int .i64 y]] := by simp [eL, cI]
 unfold aIs at this
 rw [e] at this
 exact this
theorem impl_compareSizes_raw (ah al bh bl : Int) : FnSpec PR f_impl_compareSizes [rawW ah al, rawW bh bl] (ai (lexI ah al bh bl)) [] 0 := by
 refine FnSpec.intro hT (pf Tryz.func260) rfl (by kernel_rfl) Tryz.ntmps260 rfl ?_
 conv => whnf
 refine tri_rp 0 ?_
 conv => whnf
 refine tri_rp 1 ?_
 conv => whnf
 refine tri_every hT hmix [4] { t := [(4, ai (lexI ah al bh bl))], h := [], n := 0, N := 17 } rfl ?_ ?_
 ·repeat' first
   | (refine anyV_one rfl ?_; (conv => whnf))
   | (refine anyV_two rfl ?_ ?_ <;> (conv => whnf))
   | (refine anyV_three rfl ?_ ?_ ?_ <;> (conv => whnf))
   | (refine .inl ⟨_, _, _, cmp_Compare_uint64_spec _ _, rfl, ?_⟩; (conv => whnf))
   | (refine .inl ⟨_, _, _, cmp_Or_int_lit _ _, rfl, ?_⟩; (conv => whnf))
   | (refine anyV_end rfl ?_; (conv => whnf); first | done | rfl)
 conv => whnf
theorem lexI_lt {ah al bh bl : Int} (h : ah < bh) : lexI ah al bh bl = -1 := by unfold lexI; rw [show cmpI ah bh = -1 from if_pos h, if_pos (by decide)]
theorem lexI_gt {ah al bh bl : Int} (h : bh < ah) : lexI ah al bh bl = 1 := by unfold lexI; rw [show cmpI ah bh = 1 by unfold cmpI; rw [if_neg (by omega), if_pos h], if_pos (by decide)]
theorem lexI_eq {a al bl : Int} : lexI a al a bl = cmpI al bl := by unfold lexI; rw [show cmpI a a = 0 by unfold cmpI; rw [if_neg (Int.lt_irrefl _), if_neg (Int.lt_irrefl _)], if_neg (by simp)]
theorem spec_l3Order_raw (ah al bh bl : Int) : FnSpec PR f_spec_l3Order [rawW ah al, rawW bh bl] (ai (lexI ah al bh bl)) [] 0 := by
 refine FnSpec.intro hT (pf Tryz.func181) rfl (by kernel_rfl) Tryz.ntmps181 rfl ?_
 conv => whnf
 cases g1 : iLt ah bh <;> simp only [eH] at g1 <;> (conv => whnf)
 ·cases g2 : iEq ah bh <;> simp only [eH] at g2 <;> (conv => whnf)
  ·rw [show iLt bh ah = true from decide_eq_true (by omega)]
   conv => whnf
   rw [lexI_gt (by omega)]
  ·subst g2
   rw [lexI_eq]
   unfold cmpI
   cases g3 : iLt al bl <;> simp only [eH] at g3 <;> (conv => whnf)
   ·rw [show iLt ah ah = false from decide_eq_false (by omega)]
    conv => whnf
    cases g4 : iLt bl al <;> simp only [eH] at g4 <;> (conv => whnf)
    ·rw [if_neg (by omega), if_neg (by omega)]
    ·rw [if_neg (by omega), if_pos g4]
   ·rw [if_pos g3]
 ·rw [lexI_lt g1]
theorem spec_CompareWide_raw (ah al bh bl : Int) : FnSpec PR f_spec_CompareWide [rawW ah al, rawW bh bl] (ai (lexI ah al bh bl)) [] 0 := by
 refine FnSpec.intro hT (pf Tryz.func72) rfl (by kernel_rfl) Tryz.ntmps72 rfl ?_
 conv => whnf
 refine .inl ⟨_, _, _, spec_l3Order_raw _ _ _ _, rfl, ?_⟩
 conv => whnf
theorem spec_CompareWide_pos (a b : Int) (ha : 0 ≤ a) (hb : 0 ≤ b) : FnSpec PR f_spec_CompareWide [aV a, aV b] (ai (sgnI (a - b))) [] 0 := by
 rw [← lex_sgn ha hb]
 exact spec_CompareWide_raw _ _ _ _
abbrev cFr (f : Int × Int) : List CV := [.d (.bool false), .d (.int .u64 (hiU f.1)), .d (.int .u64 (loU f.1)), .d (.int .i64 f.2)]
abbrev aFr (f : Int × Int) : AV := .agg (cFr f)
abbrev rawF (hi lo d : Int) : AV := .agg [.d (.bool false), .d (.int .u64 hi), .d (.int .u64 lo), .d (.int .i64 d)]
abbrev tupFr (f : Int × Int) (b : Bool) : AV := .tup [(true, cFr f), (false, [.d (.bool b)])]
theorem impl_FracOk_raw (hi lo d : Int) (h : hi < 9223372036854775808) (hd : 1 ≤ d ∧ d ≤ 1000000) : FnSpec PR f_impl_FracOk [rawF hi lo d] (ab true) [] 0 := by
 refine FnSpec.intro hT (pf Tryz.func368) rfl (by kernel_rfl) Tryz.ntmps368 rfl ?_
 conv => whnf
 refine .inl ⟨_, _, _, impl_WideOk_raw _ _ h, rfl, ?_⟩
 conv => whnf
 refine .inl ⟨_, _, _, impl_within_spec _ _ _, rfl, ?_⟩
 conv => whnf
 rw [decide_eq_true hd]
theorem spec_FracOk_raw (hi lo d : Int) (h : hi < 9223372036854775808) (hd : 1 ≤ d ∧ d ≤ 1000000) : FnSpec PR f_spec_FracOk [rawF hi lo d] (ab true) [] 0 := by
 refine FnSpec.intro hT (pf Tryz.func364) rfl (by kernel_rfl) Tryz.ntmps364 rfl ?_
 conv => whnf
 refine .inl ⟨_, _, _, spec_WideOk_raw _ _ h, rfl, ?_⟩
 conv => whnf
 refine .inl ⟨_, _, _, spec_l1In_spec _ _ _, rfl, ?_⟩
 conv => whnf
 rw [decide_eq_true hd]
end Go.H.S
