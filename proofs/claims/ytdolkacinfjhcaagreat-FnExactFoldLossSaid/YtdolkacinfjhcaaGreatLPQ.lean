/- Library, part PN: is a node what would be grown there: contracts. -/
import Derived.Test.YtdolkacinfjhcaaGreatLPM
import Derived.Test.YtdolkacinfjhcaaGreatLNL
set_option maxRecDepth 100000
set_option linter.unusedSimpArgs false
set_option linter.unusedVariables false
namespace Go.H.S
open Go Go.Proofs Go.H
attribute [local irreducible] Tri FnSpec FnSpecM FnSpecX FnSpecJ FnSpecB hiU loU
def boundL (g : Grd) (grads : List Int) (c : Cfg) (t : List Nd) (node : Int) : Int × Int := bWay g grads c t freeB (wayL t node)
def cutAt (g : Grd) (f b : Int) : Int := ((cutsF g f.toNat)[b.toNat]?).getD 0
theorem partL_in {g : Grd} {grads : List Int} {c : Cfg} {rows : List Int} {b : Int × Int} {x : Cd} (h : partL g grads c rows b = some x) : ∃ f k : Nat, f < g.cuts.length ∧ k < (cutsF g f).length ∧ x = candAt g grads rows f k := by
 obtain ⟨f, k, h1, h2, h3, _⟩ := candL_mem (bestL_mem h).1
 exact ⟨f, k, h1, h2, h3⟩
end Go.H.S
namespace Go.H.S
open Go Go.Proofs Go.H
structure Itm where
 rows : List Int
 bd : Int × Int
 lev : Int
def cIt (x : Itm) : List D := [.sl 1 (eL cI x.rows), .int .i64 x.bd.1, .int .i64 x.bd.2, .int .i64 x.lev]
def kidL (g : Grd) (c : Cfg) (x : Itm) (z : Cd) : Itm := ⟨(splitL (binsF g z.f.toNat) x.rows z.b).1, (sidesL (signFor c z.f) x.bd (sideL c x.bd z) (sideR c x.bd z)).1, x.lev + 1⟩
def kidR (g : Grd) (c : Cfg) (x : Itm) (z : Cd) : Itm := ⟨(splitL (binsF g z.f.toNat) x.rows z.b).2, (sidesL (signFor c z.f) x.bd (sideL c x.bd z) (sideR c x.bd z)).2, x.lev + 1⟩
def partI (g : Grd) (grads : List Int) (c : Cfg) (x : Itm) : Option Cd := if x.lev < c.depth then partL g grads c x.rows x.bd else none
def leafI (grads : List Int) (c : Cfg) (x : Itm) : Nd := ⟨-1, 0, 0, 0, leafV x.rows.length (sumR grads x.rows) c.lambda x.bd⟩
def innerI (g : Grd) (z : Cd) (n : Nat) : Nd := ⟨z.f, cutAt g z.f z.b, (n : Int), ((n + 1 : Nat) : Int), 0⟩
def stepG (g : Grd) (grads : List Int) (c : Cfg) (q : List Itm) (o : List Nd) (x : Itm) : List Itm × List Nd :=
 match partI g grads c x with
 | none => (q, o ++ [leafI grads c x])
 | some z => (q ++ [kidL g c x z, kidR g c x z], o ++ [innerI g z q.length])
def growK (g : Grd) (grads : List Int) (c : Cfg) : Nat → List Itm × List Nd
 | 0 => ([⟨allRowsL grads.length, freeB, 0⟩], [])
 | k + 1 => match (growK g grads c k).1[k]? with
  | none => growK g grads c k
  | some x => stepG g grads c (growK g grads c k).1 (growK g grads c k).2 x
def growL (g : Grd) (grads : List Int) (c : Cfg) : List Nd := (growK g grads c 31).2
def itmP (g : Grd) (c : Cfg) (x : Itm) : Prop := rowsP g x.rows ∧ boundP x.bd ∧ 0 ≤ x.lev ∧ x.lev ≤ c.depth
def wtI (c : Cfg) (x : Itm) : Nat := 2 ^ ((c.depth - x.lev).toNat + 1) - 1
def wtL (c : Cfg) : List Itm → Nat
 | [] => 0
 | x :: r => wtI c x + wtL c r
theorem wtI_pos (c : Cfg) (x : Itm) : 1 ≤ wtI c x := by
 unfold wtI
 have : 2 ^ 1 ≤ 2 ^ ((c.depth - x.lev).toNat + 1) := Nat.pow_le_pow_right (by decide) (by omega)
 omega
theorem wtL_app (c : Cfg) : ∀ a b : List Itm, wtL c (a ++ b) = wtL c a + wtL c b
 | [], b => by simp [wtL]
 | x :: r, b => by simp only [List.cons_append, wtL, wtL_app c r b]; omega
theorem wtL_len (c : Cfg) : ∀ l : List Itm, l.length ≤ wtL c l
 | [] => Nat.le_refl _
 | x :: r => by have := wtL_len c r; have := wtI_pos c x; simp only [List.length_cons, wtL]; omega
theorem wt_kids {g : Grd} {c : Cfg} {x : Itm} (z : Cd) (h : x.lev < c.depth) : wtI c (kidL g c x z) + wtI c (kidR g c x z) + 1 = wtI c x := by
 unfold wtI kidL kidR
 dsimp only
 obtain ⟨n, hn⟩ : ∃ n : Nat, (c.depth - x.lev).toNat = n + 1 := ⟨(c.depth - x.lev).toNat - 1, by omega⟩
 have h2 : (c.depth - (x.lev + 1)).toNat = n := by omega
 rw [hn, h2]
 have : 2 ^ (n + 1 + 1) = 2 * 2 ^ (n + 1) := by rw [Nat.pow_succ 2 (n + 1)]; omega
 have h1 : 1 ≤ 2 ^ (n + 1) := Nat.one_le_two_pow
 omega
theorem kid_p {g : Grd} {c : Cfg} {x : Itm} {z : Cd} (hx : itmP g c x) (h : x.lev < c.depth) : itmP g c (kidL g c x z) ∧ itmP g c (kidR g c x z) := by
 obtain ⟨h1, h2, h3, h4⟩ := hx
 have hs := sidesL_ok (sign := signFor c z.f) (p := sideL c x.bd z) (q := sideR c x.bd z) h2
 have hl := splitL_len (binsF g z.f.toNat) x.rows z.b
 have := h1.len
 refine ⟨⟨⟨by dsimp only [kidL]; omega, fun r hr => h1.mem r ((List.mem_filter.1 hr).1)⟩, hs.1, by dsimp only [kidL]; omega, by dsimp only [kidL]; omega⟩, ⟨⟨by dsimp only [kidR]; omega, fun r hr => h1.mem r ((List.mem_filter.1 hr).1)⟩, hs.2, by dsimp only [kidR]; omega, by dsimp only [kidR]; omega⟩⟩
theorem freeB_p : boundP freeB := by unfold boundP; decide
theorem root_p {g : Grd} {grads : List Int} {c : Cfg} (ht : taskP g grads c) : itmP g c ⟨allRowsL grads.length, freeB, 0⟩ := by
 have hd := ((cfg_five c).1 ht.2.1.1).2.1
 have hgl : grads.length = rowsIn g := ht.2.2.1
 refine ⟨⟨?_, fun r hr => ?_⟩, freeB_p, Int.le_refl _, hd.1⟩
 ·dsimp only; unfold allRowsL
  split
  ·rw [upTo_len]; omega
  ·simp
 ·dsimp only at hr
  unfold allRowsL at hr
  split at hr
  ·simp only [upTo, List.mem_map, List.mem_range] at hr
   obtain ⟨i, hi, rfl⟩ := hr
   omega
  ·cases hr
structure grP (g : Grd) (grads : List Int) (c : Cfg) (k : Nat) : Prop where
 it : ∀ x ∈ (growK g grads c k).1, itmP g c x
 out : (growK g grads c k).2.length = k
 wt : k + wtL c ((growK g grads c k).1.drop k) ≤ 31
theorem grow_step {g : Grd} {grads : List Int} {c : Cfg} {k : Nat} {x : Itm} (hx : (growK g grads c k).1[k]? = some x) : growK g grads c (k + 1) = stepG g grads c (growK g grads c k).1 (growK g grads c k).2 x := by
 rw [growK, hx]
theorem grow_zero {g : Grd} {grads : List Int} {c : Cfg} (ht : taskP g grads c) : grP g grads c 0 := by
 have hd := ((cfg_five c).1 ht.2.1.1).2.1
 refine ⟨fun x hx => ?_, rfl, ?_⟩
 ·simp only [growK, List.mem_singleton] at hx
  subst hx
  exact root_p ht
 ·simp only [growK, List.drop_zero, wtL, wtI]
  have : 2 ^ ((c.depth - 0).toNat + 1) ≤ 2 ^ 5 := Nat.pow_le_pow_right (by decide) (by omega)
  omega
theorem grow_next {g : Grd} {grads : List Int} {c : Cfg} {k : Nat} {x : Itm} (h : grP g grads c k) (hx : (growK g grads c k).1[k]? = some x) : grP g grads c (k + 1) := by
 have hlt : k < (growK g grads c k).1.length := by
  rcases Nat.lt_or_ge k (growK g grads c k).1.length with q | q
  ·exact q
  ·rw [List.getElem?_eq_none q] at hx; cases hx
 have hdr : (growK g grads c k).1.drop k = x :: (growK g grads c k).1.drop (k + 1) := by
  rw [List.drop_eq_getElem_cons hlt]
  rw [List.getElem?_eq_getElem hlt] at hx
  cases hx; rfl
 have hw := h.wt
 rw [hdr] at hw
 simp only [wtL] at hw
 have hip := h.it x (List.mem_of_getElem? hx)
 have hp := wtI_pos c x
 have e := grow_step hx
 cases hz : partI g grads c x with
 | none =>
  have e2 : growK g grads c (k + 1) = ((growK g grads c k).1, (growK g grads c k).2 ++ [leafI grads c x]) := by rw [e, stepG, hz]
  refine ⟨?_, ?_, ?_⟩ <;> rw [e2]
  ·exact h.it
  ·simp [h.out]
  ·dsimp only; omega
 | some z =>
  have hlv : x.lev < c.depth := by
   unfold partI at hz
   split at hz
   ·assumption
   ·cases hz
  have e2 : growK g grads c (k + 1) = ((growK g grads c k).1 ++ [kidL g c x z, kidR g c x z], (growK g grads c k).2 ++ [innerI g z (growK g grads c k).1.length]) := by rw [e, stepG, hz]
  have hk := kid_p (g := g) (z := z) hip hlv
  have hwk := wt_kids (g := g) z hlv
  refine ⟨?_, ?_, ?_⟩ <;> rw [e2]
  ·intro y hy
   rcases List.mem_append.1 hy with hy | hy
   ·exact h.it y hy
   ·simp only [List.mem_cons, List.not_mem_nil, or_false] at hy
    rcases hy with rfl | rfl
    ·exact hk.1
    ·exact hk.2
  ·simp [h.out]
  ·dsimp only
   rw [List.drop_append_of_le_length (by omega), wtL_app]
   simp only [wtL]
   omega
theorem grow_len {g : Grd} {grads : List Int} {c : Cfg} {k : Nat} (h : grP g grads c k) (hk : k ≤ (growK g grads c k).1.length) : (growK g grads c k).1.length ≤ 31 := by
 have h1 := wtL_len c ((growK g grads c k).1.drop k)
 rw [List.length_drop] at h1
 have := h.wt
 omega
theorem grow_stop {g : Grd} {grads : List Int} {c : Cfg} {k : Nat} (h : (growK g grads c k).1.length ≤ k) : ∀ j, growK g grads c (k + j) = growK g grads c k
 | 0 => rfl
 | j + 1 => by
  have ih := grow_stop h j
  rw [← Nat.add_assoc, growK, ih, List.getElem?_eq_none (by omega)]
theorem grow_end {g : Grd} {grads : List Int} {c : Cfg} {k : Nat} (h : grP g grads c k) (hk : k = (growK g grads c k).1.length) : (growK g grads c k).2 = growL g grads c := by
 have h1 := grow_len h (by omega)
 have h2 := grow_stop (g := g) (grads := grads) (c := c) (k := k) (by omega) (31 - k)
 unfold growL
 rw [show 31 = k + (31 - k) by omega, h2]
end Go.H.S
namespace Go.H.S
open Go Go.Proofs Go.H
attribute [local irreducible] Tri FnSpec FnSpecM FnSpecX FnSpecJ FnSpecB hiU loU
abbrev tupRD (x : List Int × List Int) : AV := .tup [(false, [.d (.sl 1 (eL cI x.1))]), (false, [.d (.sl 1 (eL cI x.2))])]
theorem impl_AllRows_d (n : Int) : FnSpec PR f_impl_AllRows [ai n] (aIs (allRowsL n)) [] 0 := by
 refine FnSpec.intro hT (pf Tryz.func104) rfl (by kernel_rfl) Tryz.ntmps104 rfl ?_
 conv => whnf
 refine .inl ⟨_, _, _, impl_within_spec _ _ _, rfl, ?_⟩
 conv => whnf
 by_cases h : 1 ≤ n ∧ n ≤ 40
 ·rw [show decide (1 ≤ n ∧ n ≤ 40) = true from decide_eq_true h]
  conv => whnf
  have he : allRowsL n = upTo n.toNat := by rw [allRowsL, if_pos h]
  rw [he]
  obtain ⟨m, rfl⟩ : ∃ m : Nat, n = m := ⟨n.toNat, by omega⟩
  simp only [Int.toNat_natCast]
  refine tri_loop hT [3, 10, 11] (α := Nat) (fun x => { t := [(3, .c (.ref 0 0 none)), (10, ai m), (11, ai x)], h := [(0, .arr t_int 1 0 .own (eL cI (upTo x)))], n := 1, N := 20 })
   (fun x => x ≤ m) (fun x => m - x) 0 (by (conv => whnf); rw [show upTo 0 = [] from rfl, eL_nil]; rfl) (Nat.zero_le _) ?_
  intro k hk
  conv => whnf
  refine ifB_i (fun h1 => ?_) (fun h1 => ?_) <;> (conv => whnf) <;> simp at h1
  ·refine And.intro (by simp [eL_length, dLen_len, upTo_len]; omega) ?_
   conv => whnf
   refine ⟨k + 1, by omega, h1, ?_⟩
   ((conv => whnf); simp only [eS, wI h1 (by omega)])
   rw [upTo_succ, ← eL_app]
   rfl
  ·obtain rfl : k = m := by omega
   conv => whnf
   simp only [partOf_none]
 ·rw [show decide (1 ≤ n ∧ n ≤ 40) = false from decide_eq_false h]
  conv => whnf
  rw [allRowsL, if_neg h, partOf_none, ← eL_nil cI]
theorem spec_AllRows_d (n : Int) : FnSpec PR f_spec_AllRows [ai n] (aIs (allRowsL n)) [] 0 := by
 refine FnSpec.intro hT (pf Tryz.func112) rfl (by kernel_rfl) Tryz.ntmps112 rfl ?_
 conv => whnf
 refine tri_loop hT [0, 3, 4] (α := Nat) (fun x => { t := [(0, ai n), (3, .c (.ref 0 0 none)), (4, ai x)], h := [(0, .arr t_int 1 0 .own (eL cI (upTo x)))], n := 1, N := 20 })
  (fun x => x = 0 ∨ (n ≤ 40 ∧ x ≤ n)) (fun x => 40 - x) 0 (by (conv => whnf); rw [show upTo 0 = [] from rfl, eL_nil]; rfl) (.inl rfl) ?_
 intro k hk
 conv => whnf
 refine ifB_i (fun h1 => ?_) (fun h1 => ?_) <;> (conv => whnf) <;> simp only [eH] at h1
 ·refine ifB_i (fun h2 => ?_) (fun h2 => ?_) <;> (conv => whnf) <;> simp only [eH] at h2
  ·refine And.intro (by simp [eL_length, dLen_len, upTo_len]; omega) ?_
   conv => whnf
   refine ⟨k + 1, by omega, .inr (by omega), ?_⟩
   ((conv => whnf); simp only [eS, wI (show k < 40 by omega) (by omega)])
   rw [upTo_succ, ← eL_app]
   rfl
  ·obtain rfl : k = 0 := by omega
   rw [allRowsL, if_neg (by omega)]
   rfl
 ·rcases hk with rfl | hk
  ·rw [allRowsL, if_neg (by omega)]
   rfl
  ·have : n = k := by omega
   subst this
   by_cases h0 : 1 ≤ (k : Int)
   ·rw [allRowsL, if_pos (by omega), Int.toNat_natCast, partOf_none]
   ·obtain rfl : k = 0 := by omega
    rw [allRowsL, if_neg (by omega)]
    rfl
theorem impl_SplitRows_d (bins rows : List Int) (b : Int) (hb : bins.length ≤ 1048576) (hr : rows.length ≤ 1048576) : FnSpec PR f_impl_SplitRows [aIs bins, aIs rows, ai b] (tupRD (splitL bins rows b)) [] 0 := by
 have e1 : wSub .i64 (nInt (dLen (eL cI bins))) 1 = (bins.length : Int) - 1 := by rw [show nInt (dLen (eL cI bins)) = (bins.length : Int) by simp]; exact wSub64 (by omega) (by omega)
 refine FnSpec.intro hT (pf Tryz.func110) rfl (by kernel_rfl) Tryz.ntmps110 rfl ?_
 conv => whnf
 refine tri_loop hT [0, 2, 8, 9, 14, 15, 16] (α := Nat) (fun x => { t := [(0, aIs bins), (2, ai b), (8, .c (.ref 0 0 none)), (9, .c (.ref 1 0 none)), (14, aIs rows), (15, ai rows.length), (16, ai x)], h := [(0, .arr t_int 1 0 .own (eL cI (splitL bins (rows.take x) b).1)), (1, .arr t_int 1 0 .own (eL cI (splitL bins (rows.take x) b).2))], n := 2, N := 45 })
  (fun x => x ≤ rows.length) (fun x => rows.length - x) 0 (by ((conv => whnf); simp only [eS, splitL, List.take_zero, List.filter_nil, eL_nil])) (Nat.zero_le _) ?_
 intro k hk
 conv => whnf
 refine ifB_i (fun h1 => ?_) (fun h1 => ?_) <;> (conv => whnf) <;> simp at h1
 ·obtain ⟨x, hx⟩ := get_lt h1
  have hl := splitL_len bins (rows.take k) b
  have htl : (rows.take k).length = k := by simp; omega
  refine idx_at (by simp) hx ?_
  conv => whnf
  rw [e1]
  refine .inl ⟨_, _, _, impl_within_spec _ _ _, rfl, ?_⟩
  conv => whnf
  have f1 : (splitL bins (rows.take (k + 1)) b).1 = (splitL bins (rows.take k) b).1 ++ (if decide (atBin bins b x = some true) then [x] else []) := filter_take_step hx
  have f2 : (splitL bins (rows.take (k + 1)) b).2 = (splitL bins (rows.take k) b).2 ++ (if decide (atBin bins b x = some false) then [x] else []) := filter_take_step hx
  by_cases hin : 0 ≤ x ∧ x ≤ (bins.length : Int) - 1
  ·rw [show decide (0 ≤ x ∧ x ≤ (bins.length : Int) - 1) = true from decide_eq_true hin]
   conv => whnf
   obtain ⟨i, rfl⟩ : ∃ i : Nat, x = i := ⟨x.toNat, by omega⟩
   obtain ⟨y, hy⟩ := get_lt (show i < bins.length by omega)
   refine idx_at (by simp) hy ?_
   conv => whnf
   refine ifB_i (fun h2 => ?_) (fun h2 => ?_) <;> (conv => whnf) <;> simp only [eH] at h2
   ·have ha : atBin bins b i = some true := by simp [atBin, hin, hy, h2]
    rw [ha] at f1 f2
    simp at f1 f2
    refine And.intro (by simp [eL_length, dLen_len]; omega) ?_
    conv => whnf
    refine ⟨k + 1, by omega, h1, ?_⟩
    ((conv => whnf); simp only [eS, wI h1 (by omega)])
    rw [f1, f2, ← eL_app]
    exact ⟨rfl, rfl⟩
   ·have ha : atBin bins b i = some false := by simp [atBin, hin, hy]; omega
    rw [ha] at f1 f2
    simp at f1 f2
    refine And.intro (by simp [eL_length, dLen_len]; omega) ?_
    conv => whnf
    refine ⟨k + 1, by omega, h1, ?_⟩
    ((conv => whnf); simp only [eS, wI h1 (by omega)])
    rw [f1, f2, ← eL_app]
    exact ⟨rfl, rfl⟩
  ·rw [show decide (0 ≤ x ∧ x ≤ (bins.length : Int) - 1) = false from decide_eq_false hin]
   conv => whnf
   have ha : atBin bins b x = none := by simp only [atBin]; rw [if_neg hin]
   rw [ha] at f1 f2
   simp at f1 f2
   refine ⟨k + 1, by omega, h1, ?_⟩
   ((conv => whnf); simp only [eS, wI h1 (by omega)])
   rw [f1, f2]
   exact ⟨rfl, rfl⟩
 ·obtain rfl : k = rows.length := by omega
  rw [List.take_length, partOf_none, partOf_none]
theorem spec_SplitRows_d (bins rows : List Int) (b : Int) (hb : bins.length ≤ 1048576) (hr : rows.length ≤ 1048576) : FnSpec PR f_spec_SplitRows [aIs bins, aIs rows, ai b] (tupRD (splitL bins rows b)) [] 0 := by
 have e1 : wSub .i64 (nInt (dLen (eL cI bins))) 1 = (bins.length : Int) - 1 := by rw [show nInt (dLen (eL cI bins)) = (bins.length : Int) by simp]; exact wSub64 (by omega) (by omega)
 refine FnSpec.intro hT (pf Tryz.func114) rfl (by kernel_rfl) Tryz.ntmps114 rfl ?_
 conv => whnf
 refine tri_loop hT [0, 1, 2, 8, 9, 10] (α := Nat) (fun x => { t := [(0, aIs bins), (1, aIs rows), (2, ai b), (8, .c (.ref 0 0 none)), (9, .c (.ref 1 0 none)), (10, ai x)], h := [(0, .arr t_int 1 0 .own (eL cI (splitL bins (rows.take x) b).1)), (1, .arr t_int 1 0 .own (eL cI (splitL bins (rows.take x) b).2))], n := 2, N := 55 })
  (fun x => x ≤ rows.length) (fun x => rows.length - x) 0 (by ((conv => whnf); simp only [eS, splitL, List.take_zero, List.filter_nil, eL_nil])) (Nat.zero_le _) ?_
 intro k hk
 conv => whnf
 refine ifB_i (fun h1 => ?_) (fun h1 => ?_) <;> (conv => whnf) <;> simp at h1
 ·obtain ⟨x, hx⟩ := get_lt h1
  have hl := splitL_len bins (rows.take k) b
  have htl : (rows.take k).length = k := by simp; omega
  refine idx_at (by simp) hx ?_
  conv => whnf
  rw [e1]
  refine .inl ⟨_, _, _, spec_l1In_spec _ _ _, rfl, ?_⟩
  conv => whnf
  have f1 : (splitL bins (rows.take (k + 1)) b).1 = (splitL bins (rows.take k) b).1 ++ (if decide (atBin bins b x = some true) then [x] else []) := filter_take_step hx
  have f2 : (splitL bins (rows.take (k + 1)) b).2 = (splitL bins (rows.take k) b).2 ++ (if decide (atBin bins b x = some false) then [x] else []) := filter_take_step hx
  by_cases hin : 0 ≤ x ∧ x ≤ (bins.length : Int) - 1
  ·rw [show decide (0 ≤ x ∧ x ≤ (bins.length : Int) - 1) = true from decide_eq_true hin]
   conv => whnf
   obtain ⟨i, rfl⟩ : ∃ i : Nat, x = i := ⟨x.toNat, by omega⟩
   obtain ⟨y, hy⟩ := get_lt (show i < bins.length by omega)
   refine idx_at (by simp) hx ?_
   conv => whnf
   refine idx_at (by simp) hy ?_
   conv => whnf
   refine ifB_i (fun h2 => ?_) (fun h2 => ?_) <;> (conv => whnf) <;> simp only [eH] at h2
   ·have ha : atBin bins b i = some true := by simp [atBin, hin, hy, h2]
    rw [ha] at f1 f2
    simp at f1 f2
    refine idx_at (by simp) hx ?_
    conv => whnf
    refine And.intro (by simp [eL_length, dLen_len]; omega) ?_
    conv => whnf
    refine ⟨k + 1, by omega, h1, ?_⟩
    ((conv => whnf); simp only [eS, wI h1 (by omega)])
    rw [f1, f2, ← eL_app]
    exact ⟨rfl, rfl⟩
   ·have ha : atBin bins b i = some false := by simp [atBin, hin, hy]; omega
    rw [ha] at f1 f2
    simp at f1 f2
    refine idx_at (by simp) hx ?_
    conv => whnf
    refine And.intro (by simp [eL_length, dLen_len]; omega) ?_
    conv => whnf
    refine ⟨k + 1, by omega, h1, ?_⟩
    ((conv => whnf); simp only [eS, wI h1 (by omega)])
    rw [f1, f2, ← eL_app]
    exact ⟨rfl, rfl⟩
  ·rw [show decide (0 ≤ x ∧ x ≤ (bins.length : Int) - 1) = false from decide_eq_false hin]
   conv => whnf
   have ha : atBin bins b x = none := by simp only [atBin]; rw [if_neg hin]
   rw [ha] at f1 f2
   simp at f1 f2
   refine ⟨k + 1, by omega, h1, ?_⟩
   ((conv => whnf); simp only [eS, wI h1 (by omega)])
   rw [f1, f2]
   exact ⟨rfl, rfl⟩
 ·obtain rfl : k = rows.length := by omega
  rw [List.take_length, partOf_none, partOf_none]
end Go.H.S
