/- Library, part SG: impl.CutsOf, impl.Column, the law's helpers. -/
import Derived.Test.YtdolkacinfjhcaaGreatLSF
import Derived.Test.YtdolkacinfjhcaaGreatLY
import Derived.Test.YtdolkacinfjhcaaGreatLPE
import Derived.Test.YtdolkacinfjhcaaGreatLNC
set_option maxRecDepth 100000
set_option linter.unusedSimpArgs false
set_option linter.unusedVariables false
namespace Go.H.S
open Go Go.Proofs Go.H
attribute [local irreducible] Tri FnSpec FnSpecM FnSpecX FnSpecJ FnSpecB
theorem impl_Column_spec (t : Tbl) (f : Nat) (hf : f < t.names.length) (hn : t.names.length ≤ 1000) (hr : t.rows.length ≤ 1048576) (hc : ∀ r ∈ t.rows, r.length ≤ 1048576) : FnSpec PR f_impl_Column [aTb t, ai f] (.c (.ref 0 0 none)) [(0, .arr t_int 1 0 .own (eL cI (columnL t f)))] 1 := by
 have e1 : wSub .i64 (nInt (dLen (eL cS t.names))) 1 = (t.names.length : Int) - 1 := by rw [show nInt (dLen (eL cS t.names)) = (t.names.length : Int) by simp]; exact wSub64 (by omega) (by omega)
 refine FnSpec.intro hT (pf Tryz.func83) rfl (by kernel_rfl) Tryz.ntmps83 rfl ?_
 conv => whnf
 rw [e1]
 refine .inl ⟨_, _, _, impl_within_spec _ _ _, rfl, ?_⟩
 rw [show decide ((0 : Int) ≤ (f : Int) ∧ (f : Int) ≤ (t.names.length : Int) - 1) = true from decide_eq_true (by omega)]
 conv => whnf
 refine tri_loop hT [1, 5, 19, 20, 21] (α := Nat) (fun k => { t := [(1, ai f), (5, .c (.ref 0 0 none)), (19, aIss t.rows), (20, ai t.rows.length), (21, ai k)], h := [(0, .arr t_int 1 0 .own (eL cI ((t.rows.take k).map fun r => (r[f]?).getD 0)))], n := 1, N := 39 })
  (fun k => k ≤ t.rows.length) (fun k => t.rows.length - k) 0 (by (conv => whnf); simp only [List.take_zero, List.map_nil, eL_nil]; first | done | rfl | (rw [show nInt (dLen (eL cIs t.rows)) = (t.rows.length : Int) by simp]; rfl)) (Nat.zero_le _) ?_
 intro k hk
 conv => whnf
 refine ifB_i (fun h1 => ?_) (fun h1 => ?_) <;> (conv => whnf) <;> simp only [eH] at h1
 ·obtain ⟨r, hrk⟩ := get_lt (show k < t.rows.length by omega)
  have hrl := hc r (List.mem_of_getElem? hrk)
  have hstep := column_take (f := f) hrk
  refine idx_at (by simp) hrk ?_
  conv => whnf
  refine ifB_i (fun h2 => ?_) (fun h2 => ?_) <;> (conv => whnf) <;> simp only [eH] at h2
  ·obtain ⟨v, hv⟩ := get_lt (show f < r.length by omega)
   refine idx_at (k := f) rfl hv ?_
   conv => whnf
   refine And.intro (by simp [eL_length, dLen_len]; omega) ?_
   conv => whnf
   refine ⟨k + 1, by omega, by omega, ?_⟩
   ((conv => whnf); simp only [eS, wI (show k < t.rows.length by omega) (by omega)])
   rw [hstep, hv, ← eL_app]
   first | exact ⟨rfl, rfl⟩ | rfl
  ·refine And.intro (by simp [eL_length, dLen_len]; omega) ?_
   conv => whnf
   refine ⟨k + 1, by omega, by omega, ?_⟩
   ((conv => whnf); simp only [eS, wI (show k < t.rows.length by omega) (by omega)])
   rw [hstep, List.getElem?_eq_none (by omega), ← eL_app]
   first | exact ⟨rfl, rfl⟩ | rfl
 ·obtain rfl : k = t.rows.length := by omega
  rw [List.take_length]
  first | done | rfl
theorem sorted_at {s : List Int} (h : s.Pairwise (· ≤ ·)) {i j : Nat} {y z : Int} (hij : i ≤ j) (hy : s[i]? = some y) (hz : s[j]? = some z) : y ≤ z := by
 obtain ⟨h1, h2⟩ := List.getElem?_eq_some_iff.1 hy
 obtain ⟨h3, h4⟩ := List.getElem?_eq_some_iff.1 hz
 rcases Nat.lt_or_ge i j with q | q
 ·rw [← h2, ← h4]
  exact List.pairwise_iff_getElem.1 h i j h1 h3 q
 ·obtain rfl : i = j := by omega
  rw [hy] at hz
  cases hz
  exact Int.le_refl _
theorem cutsAll_sorted {s : List Int} (h : s.Pairwise (· ≤ ·)) (n b : Nat) (hb : 1 ≤ b) (hn : s.length = n) : ∀ k, k ≤ b → (cutsAll s n b k).Pairwise (· ≤ ·) ∧ ∀ x ∈ cutsAll s n b k, ∃ j, j ≤ n * (k - 1) / b - 1 ∧ s[j]? = some x
 | 0, _ => by simp [cutsAll]
 | k + 1, hk => by
  obtain ⟨h1, h2⟩ := cutsAll_sorted h n b hb hn k (by omega)
  rw [cutsAll_step]
  have hmono : n * (k - 1) / b - 1 ≤ n * k / b - 1 := by
   have : n * (k - 1) / b ≤ n * k / b := Nat.div_le_div_right (Nat.mul_le_mul_left n (by omega))
   omega
  cases hc : cutK s n b k with
  | none =>
   simp only [Option.toList_none, List.append_nil, Nat.add_sub_cancel]
   refine ⟨h1, fun x hx => ?_⟩
   obtain ⟨j, hj, hx2⟩ := h2 x hx
   exact ⟨j, by omega, hx2⟩
  | some v =>
   have hv : s[n * k / b - 1]? = some v := by
    unfold cutK at hc
    split at hc
    ·rename_i q
     have hlt : n * k / b - 1 < s.length := by
      have : n * k / b ≤ n := by
       rw [Nat.div_le_iff_le_mul_add_pred (by omega)]
       have := Nat.mul_le_mul_left n (show k ≤ b by omega)
       rw [Nat.mul_comm b n]
       omega
      omega
     obtain ⟨y, hy⟩ := get_lt hlt
     rw [hy] at hc
     simp at hc
     rw [hy, hc]
    ·cases hc
   simp only [Option.toList_some, Nat.add_sub_cancel]
   refine ⟨List.pairwise_append.2 ⟨h1, by simp, fun a ha c hcv => ?_⟩, fun x hx => ?_⟩
   ·simp at hcv
    subst hcv
    obtain ⟨j, hj, hx2⟩ := h2 a ha
    exact sorted_at h (show j ≤ n * k / b - 1 by omega) hx2 hv
   ·rcases List.mem_append.1 hx with hx | hx
    ·obtain ⟨j, hj, hx2⟩ := h2 x hx
     exact ⟨j, by omega, hx2⟩
    ·simp at hx
     subst hx
     exact ⟨_, Nat.le_refl _, hv⟩
theorem sortL_of {s : List Int} (h : s.Pairwise (· ≤ ·)) : sortL s = s := (sortL_uniq h (List.Perm.refl _)).symm
set_option maxHeartbeats 4000000 in
theorem impl_CutsOf_spec (xs : List Int) (b : Nat) (hb : 2 ≤ b ∧ b ≤ 8) (hx : 1 ≤ xs.length ∧ xs.length ≤ 40) : FnSpec PR f_impl_CutsOf [aIs xs, ai b] (.c (.ref 0 0 none)) [(0, .arr t_int 1 0 .own (eL cI (cutsOfL xs b)))] 1 := by
 have eX : nInt (dLen (eL cI xs)) = (xs.length : Int) := by simp
 have hso := sortL_sorted xs
 refine FnSpec.intro hT (pf Tryz.func82) rfl (by kernel_rfl) Tryz.ntmps82 rfl ?_
 conv => whnf
 refine .inl ⟨_, _, _, impl_within_spec _ _ _, rfl, ?_⟩
 rw [show decide ((2 : Int) ≤ (b : Int) ∧ (b : Int) ≤ 8) = true from decide_eq_true (by omega)]
 conv => whnf
 rw [eX]
 refine .inl ⟨_, _, _, impl_within_spec _ _ _, rfl, ?_⟩
 rw [show decide ((1 : Int) ≤ (xs.length : Int) ∧ (xs.length : Int) ≤ 40) = true from decide_eq_true (by omega)]
 conv => whnf
 refine .inl ⟨_, _, _, impl_SortInts_spec xs (by omega), rfl, ?_⟩
 have hsl := sortL_len xs
 have hd : cutsOfL xs b = distinctL (cutsAll (sortL xs) xs.length b b) := rfl
 rw [hd]
 clear hd
 generalize sortL xs = s at *
 generalize hnn : xs.length = n at *
 conv => whnf
 have h0 : cutsAll s n b 1 = [] := by simp [cutsAll, cutK]
 have heD : distinctL (cutsAll s n b b) = Go.Lib.compact (cutsAll s n b b) := by
  show Go.Lib.compact (sortL (cutsAll s n b b)) = _
  rw [sortL_of (cutsAll_sorted hso n b (by omega) hsl b (Nat.le_refl _)).1]
 refine tri_loop hT [0, 1, 5, 6, 7] (α := Nat) (fun k => { t := [(0, aIs xs), (1, ai b), (5, .c (.ref 0 0 none)), (6, aIs s), (7, ai k)], h := [(0, .arr t_int 1 0 .own (eL cI (cutsAll s n b k)))], n := 1, N := 59 })
  (fun k => 1 ≤ k ∧ k ≤ b) (fun k => b - k) 1 (by ((conv => whnf); simp only [eS, h0, eL_nil, partOf_none]); first | done | rfl | exact ⟨rfl, rfl⟩) (by omega) ?_
 intro k ⟨hk1, hk⟩
 conv => whnf
 refine ifB_i (fun q1 => ?_) (fun q1 => ?_) <;> (conv => whnf) <;> simp only [eH] at q1
 ·have hnk : n * k ≤ 320 := by
   have : n * k ≤ 40 * 8 := Nat.mul_le_mul hx.2 (by omega)
   omega
  have hnb : n * k / b < n := by
   rw [Nat.div_lt_iff_lt_mul (by omega)]
   exact Nat.mul_lt_mul_of_pos_left (by omega) (by omega)
  have hc : (n : Int) * (k : Int) = ((n * k : Nat) : Int) := (Int.natCast_mul n k).symm
  have e1 : wMul .i64 (n : Int) (k : Int) = ((n * k : Nat) : Int) := by rw [wMul64 (by rw [hc]; omega) (by rw [hc]; omega), hc]
  have e2 : wQuo .i64 ((n * k : Nat) : Int) (b : Int) = ((n * k / b : Nat) : Int) := by rw [wQuo_small (by omega) (by omega)]; rfl
  have hstep := cutsAll_step s n b k
  have hcl := cutsAll_len s n b k
  have hck : cutK s n b k = if 1 ≤ n * k / b ∧ (s[n * k / b - 1]?).getD 0 < (s[n - 1]?).getD 0 then some ((s[n * k / b - 1]?).getD 0) else none := rfl
  rw [eX]
  refine And.intro (by unfold NZ; omega) ?_
  rw [e1]
  conv => whnf
  rw [e2]
  generalize n * k / b = i at *
  obtain ⟨z, hz⟩ := get_lt (show n - 1 < s.length by omega)
  have e4 : wSub .i64 (nInt (dLen (eL cI s))) 1 = ((n - 1 : Nat) : Int) := by rw [show nInt (dLen (eL cI s)) = (n : Int) by simp [hsl], wSub64] <;> omega
  refine tri_conf hT hmix (by kernel_rfl) ?_
  conv => whnf
  cases q2 : iLe 1 (i : Int) <;> simp only [eH] at q2 <;> (conv => whnf)
  ·repeat' (first | (refine And.intro (fun q => ?_) (fun q => ?_) <;> cases q <;> (conv => whnf)) | fail)
   refine ⟨k + 1, by omega, by omega, ?_⟩
   rw [if_neg (by omega)] at hck
   rw [hck] at hstep
   simp only [Option.toList_none, List.append_nil] at hstep
   ((conv => whnf); simp only [eS, wI (show k < b by omega) (by omega)])
   rw [hstep]
  ·obtain ⟨y, hy⟩ := get_lt (show i - 1 < s.length by omega)
   have hyz := sorted_at hso (show i - 1 ≤ n - 1 by omega) hy hz
   have e3 : wSub .i64 (i : Int) 1 = ((i - 1 : Nat) : Int) := by rw [wSub64] <;> omega
   rw [hy, hz] at hck
   simp only [Option.getD_some] at hck
   repeat' first
    | (refine And.intro (fun q => ?_) (fun q => ?_) <;> cases q <;> (conv => whnf))
    | (refine idx_at e3 hy ?_; (conv => whnf))
    | (refine idx_at e4 hz ?_; (conv => whnf))
   refine ifB_i (fun q3 => ?_) (fun q3 => ?_) <;> (conv => whnf) <;> simp only [eH] at q3
   ·refine idx_at e3 hy ?_
    conv => whnf
    refine And.intro (by simp [eL_length, dLen_len]; omega) ?_
    conv => whnf
    rw [if_pos ⟨by omega, by omega⟩] at hck
    rw [hck] at hstep
    simp only [Option.toList_some] at hstep
    refine ⟨k + 1, by omega, by omega, ?_⟩
    ((conv => whnf); simp only [eS, wI (show k < b by omega) (by omega)])
    rw [hstep, ← eL_app]
    first | exact ⟨rfl, rfl⟩ | rfl
   ·rw [if_neg (by omega)] at hck
    rw [hck] at hstep
    simp only [Option.toList_none, List.append_nil] at hstep
    refine ⟨k + 1, by omega, by omega, ?_⟩
    ((conv => whnf); simp only [eS, wI (show k < b by omega) (by omega)])
    rw [hstep]
 ·obtain rfl : k = b := by omega
  have hcl := cutsAll_len s n k k
  rw [heD]
  refine .inr (.inr (.inl ⟨0, ?_⟩))
  conv => whnf
  refine .inr ⟨_, slices_Compact_spec (cutsAll s n k k) (by omega), ?_⟩
  conv => whnf
  first | done | rfl
def timesL (xs : List Int) (x : Int) : Nat := (xs.filter fun y => decide (y = x)).length
theorem timesL_take {xs : List Int} {x y : Int} {k : Nat} (h : xs[k]? = some y) : timesL (xs.take (k + 1)) x = timesL (xs.take k) x + (if y = x then 1 else 0) := by
 unfold timesL
 rw [filter_take_step h, List.length_append]
 split <;> simp_all
theorem timesL_le (xs : List Int) (x : Int) : timesL xs x ≤ xs.length := List.length_filter_le _ _
theorem laws_times_spec (xs : List Int) (x : Int) (hl : xs.length ≤ 1048576) : FnSpec PR f_laws_times [aIs xs, ai x] (ai (timesL xs x)) [] 0 := by
 refine FnSpec.intro hT (pf Tryz.func202) rfl (by kernel_rfl) Tryz.ntmps202 rfl ?_
 conv => whnf
 refine tri_loop hT [0, 1, 5, 6] (α := Nat) (fun k => { t := [(0, aIs xs), (1, ai x), (5, ai (timesL (xs.take k) x)), (6, ai k)], h := [], n := 0, N := 22 })
  (fun k => k ≤ xs.length) (fun k => xs.length - k) 0 (by (conv => whnf); first | done | rfl) (Nat.zero_le _) ?_
 intro k hk
 conv => whnf
 refine ifB_i (fun h1 => ?_) (fun h1 => ?_) <;> (conv => whnf) <;> simp only [eH] at h1
 ·obtain ⟨y, hy⟩ := get_lt (show k < xs.length by omega)
  have hs := timesL_take (x := x) hy
  have hle := timesL_le (xs.take k) x
  rw [List.length_take] at hle
  refine idx_at (k := k) rfl hy ?_
  conv => whnf
  refine ifB_i (fun h2 => ?_) (fun h2 => ?_) <;> (conv => whnf) <;> simp only [eH] at h2
  ·refine ⟨k + 1, by omega, by omega, ?_⟩
   rw [if_pos h2] at hs
   ((conv => whnf); simp only [eS, wI (show k < xs.length by omega) (by omega)])
   rw [hs, wAdd64 (by omega) (by omega)]
   rfl
  ·refine ⟨k + 1, by omega, by omega, ?_⟩
   rw [if_neg h2] at hs
   ((conv => whnf); simp only [eS, wI (show k < xs.length by omega) (by omega)])
   rw [hs]
   rfl
 ·obtain rfl : k = xs.length := by omega
  rw [List.take_length]
  first | done | rfl
theorem laws_has_spec (xs : List Int) (x : Int) (hl : xs.length ≤ 1048576) (hm : x ∈ xs) : FnSpec PR f_laws_has [aIs xs, ai x] (ab true) [] 0 := by
 have h1 : 1 ≤ timesL xs x := by
  unfold timesL
  have : x ∈ xs.filter fun y => decide (y = x) := List.mem_filter.2 ⟨hm, by simp⟩
  exact List.length_pos_of_mem this
 refine FnSpec.intro hT (pf Tryz.func84) rfl (by kernel_rfl) Tryz.ntmps84 rfl ?_
 conv => whnf
 refine .inl ⟨_, _, _, laws_times_spec xs x hl, rfl, ?_⟩
 conv => whnf
 rw [show iLt 0 ((timesL xs x : Nat) : Int) = true from decide_eq_true (by omega)]
end Go.H.S
namespace Go.H.S
open Go Go.Proofs Go.H
attribute [local irreducible] Tri FnSpec FnSpecM FnSpecX FnSpecJ FnSpecB
abbrev tupMI (x : Mdl × Int) : AV := .tup [(true, cM x.1), (false, [.d (.int .i64 x.2)])]
theorem spec_DrawUsesOf_spec (code : List Int) (hl : code.length ≤ 1048576) : FnSpecX PR f_spec_DrawUsesOf [.c (.d (.sl 1 (eL cU code)))] (Mdl × Int) (fun x => drawn x.1) tupMI (fun _ => []) (fun _ => 0) := by
 refine FnSpecX.intro hT (pf Tryz.func195) rfl (by kernel_rfl) Tryz.ntmps195 rfl ?_
 conv => whnf
 refine .inr ⟨_, _, _, _, _, spec_l1New_spec code hl, fun h0 _ => ⟨rfl, ?_⟩⟩
 conv => whnf
 refine .inr (.inr (.inr (.inr (.inl ⟨1, ?_⟩))))
 conv => whnf
 refine ⟨_, _, _, _, _, _, spec_l24Bent_spec code 0 h0 ⟨by omega, by omega⟩ hl, fun ⟨m, i1, h1⟩ ⟨hm, hi1⟩ => ⟨rfl, ?_⟩⟩
 dsimp only at hm hi1
 conv => whnf
 refine .inr (.inr (.inr (.inr (.inl ⟨1, ?_⟩))))
 conv => whnf
 refine ⟨_, _, _, _, _, _, spec_l1Below_spec code i1 h1 _ hi1 hl, fun ⟨x, i2, h2⟩ ⟨hx, hi2⟩ => ⟨rfl, ?_⟩⟩
 dsimp only at hx hi2
 conv => whnf
 refine ⟨(m, wSub .i64 x 2), hm, ?_⟩
 conv => whnf
theorem spec_DrawCutsIn_spec (code : List Int) (hl : code.length ≤ 1048576) : FnSpecX PR f_spec_DrawCutsIn [.c (.d (.sl 1 (eL cU code)))] (Mdl × Int) (fun x => drawn x.1) tupMI (fun _ => []) (fun _ => 0) := by
 refine FnSpecX.intro hT (pf Tryz.func79) rfl (by kernel_rfl) Tryz.ntmps79 rfl ?_
 conv => whnf
 refine .inr ⟨_, _, _, _, _, spec_DrawUsesOf_spec code hl, fun ⟨m, f⟩ hm => ⟨rfl, ?_⟩⟩
 conv => whnf
 refine ⟨(m, f), hm, ?_⟩
 conv => whnf
abbrev rpMo (m : Mdl) : AV := .c (.d (.rp [.sl 1 (eL cS m.names), .sl 1 (eL cI m.signs), .int .i64 m.base, .sl 1 (eL cT m.trees)]))
structure trainedP (t : Tbl) (c : Cfg) (m : Mdl) : Prop where
 tv : tabV t
 cfg : cfgP c
 names : m.names = t.names
 signs : m.signs = c.signs
 base : m.base = baseL t.ys
 trees : m.trees = (boostT t c).2
 ok : modelOk m = true
theorem trained_of {t : Tbl} {c : Cfg} {m : Mdl} (h : trainR t c = (m, true)) : trainedP t c m := by
 unfold trainR at h
 split at h
 ·rename_i q
  unfold modelR at h
  split at h
  ·rename_i q2
   have e := (Prod.mk.inj h).1
   subst e
   exact ⟨tableOk_v q.1, cfgOk_iff.1 q.2, rfl, rfl, rfl, rfl, q2⟩
  ·exact absurd (Prod.mk.inj h).2 (by decide)
 ·exact absurd (Prod.mk.inj h).2 (by decide)
theorem trained_no {t : Tbl} {c : Cfg} {m : Mdl} (h : trainR t c = (m, false)) : m = emptyM := by
 unfold trainR at h
 split at h
 ·unfold modelR at h
  split at h
  ·exact absurd (Prod.mk.inj h).2 (by decide)
  ·exact (Prod.mk.inj h).1.symm
 ·exact (Prod.mk.inj h).1.symm
theorem cost_small {k : Nat} : ∀ {ts : List (List Nd)}, (∀ x ∈ ts, x.length ≤ k) → costL List.length ts ≤ ts.length * (k + 1)
 | [], _ => by simp [costL]
 | x :: r, h => by
  have h1 := h x (by simp)
  have ih := cost_small (ts := r) fun y hy => h y (List.mem_cons_of_mem _ hy)
  simp only [costL, List.length_cons, Nat.add_mul]
  omega
set_option maxHeartbeats 4000000 in
theorem law_FnCutsIn (code : List Int) (hm : code.length ≤ 9223372036854775807 ∧ ∀ y ∈ code, 0 ≤ y ∧ y ≤ 255) : FnSpec PR f_laws_FnCutsIn [.c (.d (.sl 1 (eL cU code)))] (ab true) [] 0 := by
 refine FnSpec.intro hT (pf Tryz.func13) rfl (by kernel_rfl) Tryz.ntmps13 rfl ?_
 conv => whnf
 refine .inl ⟨_, _, _, laws_big_spec code, rfl, ?_⟩
 conv => whnf
 refine ifB_i (fun h => ?_) (fun h => ?_) <;> (conv => whnf) <;> simp only [eH] at h
 have hl : code.length ≤ 1048576 := by omega
 refine .inr ⟨_, _, _, _, _, spec_DrawTrainModel_spec code hl, fun ⟨t, c⟩ ⟨hst, hcl⟩ => ⟨rfl, ?_⟩⟩
 dsimp only at hst hcl
 conv => whnf
 have hz := smT_sz hst
 have htm := spec_TrainModel_spec t c hz (by omega)
 have hfin := @trained_of t c
 have hno := @trained_no t c
 generalize trainR t c = r at *
 obtain ⟨m, ok⟩ := r
 refine .inl ⟨_, _, _, htm, rfl, ?_⟩
 conv => whnf
 refine .inr ⟨_, _, _, _, _, spec_DrawCutsIn_spec code hl, fun ⟨n, f⟩ hd => ⟨rfl, ?_⟩⟩
 dsimp only at hd
 conv => whnf
 have hnc : costL List.length n.trees ≤ 1048576 := by
  have := cost_small hd.nodes
  have := hd.trees
  omega
 have hns := cutsInL_len n f
 refine tri_rp 0 ?_
 conv => whnf
 refine tri_rp 1 ?_
 conv => whnf
 refine tri_rp 2 ?_
 conv => whnf
 refine tri_rp 3 ?_
 conv => whnf
 refine tri_every hT hmix [3, 4, 5, 6, 38] { t := [(3, rpTb t), (4, rpCf c), (5, rpMo m), (6, ab ok), (38, ab false)], h := [], n := 0, N := 71 } rfl ?_ ?_
 ·repeat' first
   | (refine anyV_one rfl ?_; (conv => whnf))
   | (refine anyV_two rfl ?_ ?_ <;> (conv => whnf))
   | (refine anyV_three rfl ?_ ?_ ?_ <;> (conv => whnf))
   | (refine anyV_four rfl ?_ ?_ ?_ ?_ <;> (conv => whnf))
   | (refine .inl ⟨_, _, _, impl_CutsIn_spec n f (by have := hd.trees; omega) hnc, rfl, ?_⟩; (conv => whnf))
   | (refine .inl ⟨_, _, _, spec_CutsIn_spec n f (by have := hd.trees; omega) hnc, rfl, ?_⟩; (conv => whnf))
   | (refine .inl ⟨_, _, _, laws_sameInts_self (cutsInL n f) (by omega), rfl, ?_⟩; (conv => whnf))
   | (refine anyV_end rfl ?_; (conv => whnf); first | done | rfl)
 conv => whnf
 cases ok with
 | false =>
  refine tri_loop hT [3, 4, 5, 6, 9] (α := Nat) (fun k => { t := [(3, rpTb t), (4, rpCf c), (5, rpMo m), (6, ab false), (9, ai k)], h := [], n := 0, N := 71 })
   (fun k => k = 0) (fun k => 0) 0 (by (conv => whnf); first | done | rfl) rfl ?_
  intro k hk
  conv => whnf
  refine ifB_i (fun q1 => ?_) (fun q1 => ?_) <;> (conv => whnf)
 | true =>
  have hp := hfin rfl
  obtain ⟨⟨hb, hbb⟩, hn, hn1, hn8⟩ := cfg_nats hp.cfg
  have hmn : m.names.length = t.names.length := by rw [hp.names]
  have hn4 := hp.tv.n4
  have hmt : m.trees.length ≤ 8 := by rw [hp.trees]; unfold boostT; rw [trainK_trees]; exact hn8
  have hml : ∀ x ∈ m.trees, x.length ≤ 31 := by rw [hp.trees]; exact train_tlen hp.tv hbb hp.cfg hn8
  have hmc : costL List.length m.trees ≤ 1048576 := by
   have := cost_small hml
   omega
  have hcut : ∀ f : Nat, f < t.names.length → ∀ x ∈ cutsInL m f, x ∈ cutsT t c.bins.toNat f := fun f hf x hx => train_cut hp.tv hbb hp.cfg hn8 hp.trees hf hx
  have hrl := hp.tv.r40
  have hr1 := hp.tv.r1
  clear hfin hno htm hp
  refine tri_loop hT [3, 4, 5, 6, 9] (α := Nat) (fun k => { t := [(3, rpTb t), (4, rpCf c), (5, rpMo m), (6, ab true), (9, ai k)], h := [], n := 0, N := 71 })
   (fun k => k ≤ m.names.length) (fun k => m.names.length - k) 0 (by (conv => whnf); first | done | rfl) (Nat.zero_le _) ?_
  intro k hk
  conv => whnf
  refine ifB_i (fun q1 => ?_) (fun q1 => ?_) <;> (conv => whnf) <;> simp only [eH] at q1
  have hkt : k < t.names.length := by omega
  have hci := cutsInL_len m k
  have hcl2 := columnL_len t k
  have hct := cutsT_len t (f := k) hbb.2
  have hco : cutsOfL (columnL t k) c.bins.toNat = cutsT t c.bins.toNat k := rfl
  have hcx := hcut k hkt
  have hcutof := impl_CutsOf_spec (columnL t k) c.bins.toNat hbb (by omega)
  rw [hco, ← hb] at hcutof
  refine .inl ⟨_, _, _, impl_CutsIn_spec m k (by omega) hmc, rfl, ?_⟩
  generalize cutsInL m k = us at *
  generalize cutsT t c.bins.toNat k = vs at *
  conv => whnf
  refine tri_every hT hmix [3, 4, 5, 6, 9, 10, 11] { t := [(3, rpTb t), (4, rpCf c), (5, rpMo m), (6, ab true), (9, ai k), (10, aIs us), (11, .c (.ref 0 0 none))], h := [(0, .arr t_int 1 0 .own (eL cI vs))], n := 1, N := 71 } rfl ?_ ?_
  ·repeat' first
    | (refine anyV_one rfl ?_; (conv => whnf))
    | (refine anyV_two rfl ?_ ?_ <;> (conv => whnf))
    | (refine anyV_three rfl ?_ ?_ ?_ <;> (conv => whnf))
    | (refine .inl ⟨_, _, _, impl_Column_spec t k hkt (by omega) (by omega) hz.c, rfl, ?_⟩; (conv => whnf))
    | (refine .inl ⟨_, _, _, hcutof, rfl, ?_⟩; (conv => whnf))
    | (refine anyV_end rfl ?_; (conv => whnf); first | done | rfl)
  conv => whnf
  refine tri_loop hT [3, 4, 5, 6, 9, 10, 11, 12] (α := Nat) (fun j => { t := [(3, rpTb t), (4, rpCf c), (5, rpMo m), (6, ab true), (9, ai k), (10, aIs us), (11, aIs vs), (12, ai j)], h := [], n := 0, N := 71 })
   (fun j => j ≤ us.length) (fun j => us.length - j) 0 (by (conv => whnf); first | done | rfl) (Nat.zero_le _) ?_
  intro j hj
  conv => whnf
  refine ifB_i (fun q2 => ?_) (fun q2 => ?_) <;> (conv => whnf) <;> simp only [eH] at q2
  ·obtain ⟨u, hu⟩ := get_lt (show j < us.length by omega)
   refine idx_at (k := j) rfl hu ?_
   conv => whnf
   refine .inl ⟨_, _, _, laws_has_spec vs u (by omega) (hcx u (List.mem_of_getElem? hu)), rfl, ?_⟩
   conv => whnf
   refine ⟨j + 1, by omega, by omega, ?_⟩
   ((conv => whnf); simp only [eS, wI (show j < us.length by omega) (by omega)])
   first | done | rfl
  ·refine ⟨k + 1, by omega, by omega, ?_⟩
   ((conv => whnf); simp only [eS, wI (show k < m.names.length by omega) (by omega)])
   first | done | rfl
end Go.H.S
