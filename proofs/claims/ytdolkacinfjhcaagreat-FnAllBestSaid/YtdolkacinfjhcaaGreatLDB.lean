/- Library, part A: how data are laid; sizes. -/
import Derived.Test.YtdolkacinfjhcaaGreatNm
set_option maxRecDepth 100000
set_option linter.unusedSimpArgs false
set_option linter.unusedVariables false
namespace Go.H.S
open Go Go.Proofs Go.H
attribute [local irreducible] Tri FnSpec FnSpecM
abbrev ai (n : Int) : AV := .c (.d (.int .i64 n))
abbrev ab (b : Bool) : AV := .c (.d (.bool b))
abbrev aS (s : ByteArray) : AV := .c (.d (.str s))
structure Nd where
 f : Int
 c : Int
 l : Int
 r : Int
 v : Int
 deriving DecidableEq, Inhabited
def cS (s : ByteArray) : List D := [.str s]
def cI (n : Int) : List D := [.int .i64 n]
def cN (n : Nd) : List D := [.int .i64 n.f, .int .i64 n.c, .int .i64 n.l, .int .i64 n.r, .int .i64 n.v]
def cT (t : List Nd) : List D := [.sl 5 (eL cN t)]
abbrev aSs (xs : List ByteArray) : AV := .c (.d (.sl 1 (eL cS xs)))
abbrev aIs (xs : List Int) : AV := .c (.d (.sl 1 (eL cI xs)))
abbrev aNs (xs : List Nd) : AV := .c (.d (.sl 5 (eL cN xs)))
abbrev aTs (xs : List (List Nd)) : AV := .c (.d (.sl 1 (eL cT xs)))
abbrev cNd (n : Nd) : List CV := [.d (.int .i64 n.f), .d (.int .i64 n.c), .d (.int .i64 n.l), .d (.int .i64 n.r), .d (.int .i64 n.v)]
abbrev aN (n : Nd) : AV := .agg (cNd n)
abbrev cTr (t : List Nd) : List CV := [.d (.sl 5 (eL cN t))]
abbrev aT (t : List Nd) : AV := .agg (cTr t)
def cIs (xs : List Int) : List D := [.sl 1 (eL cI xs)]
def cSs (xs : List ByteArray) : List D := [.sl 1 (eL cS xs)]
abbrev aIss (xs : List (List Int)) : AV := .c (.d (.sl 1 (eL cIs xs)))
structure Mdl where
 names : List ByteArray
 signs : List Int
 base : Int
 trees : List (List Nd)
structure Tbl where
 names : List ByteArray
 target : ByteArray
 rows : List (List Int)
 ys : List Int
structure Cfg where
 rounds : Int
 depth : Int
 bins : Int
 lambda : Int
 rows : Int
 num : Int
 den : Int
 signs : List Int
structure Grd where
 cuts : List (List Int)
 bins : List (List Int)
abbrev cM (m : Mdl) : List CV := [.d (.sl 1 (eL cS m.names)), .d (.sl 1 (eL cI m.signs)), .d (.int .i64 m.base), .d (.sl 1 (eL cT m.trees))]
abbrev aM (m : Mdl) : AV := .agg (cM m)
abbrev cTb (t : Tbl) : List CV := [.d (.sl 1 (eL cS t.names)), .d (.str t.target), .d (.sl 1 (eL cIs t.rows)), .d (.sl 1 (eL cI t.ys))]
abbrev aTb (t : Tbl) : AV := .agg (cTb t)
abbrev cCf (c : Cfg) : List CV := [.d (.int .i64 c.rounds), .d (.int .i64 c.depth), .d (.int .i64 c.bins), .d (.int .i64 c.lambda), .d (.int .i64 c.rows), .d (.int .i64 c.num), .d (.int .i64 c.den), .d (.sl 1 (eL cI c.signs))]
abbrev aCf (c : Cfg) : AV := .agg (cCf c)
abbrev cG (g : Grd) : List CV := [.d (.sl 1 (eL cIs g.cuts)), .d (.sl 1 (eL cIs g.bins))]
abbrev aG (g : Grd) : AV := .agg (cG g)
theorem idx_at {α : Type} {f : α → List D} {xs : List α} {n : Int} {k : Nat} {x : α} {K : List D → Prop} (hn : n = (k : Int)) (hx : xs[k]? = some x) (h : K (f x)) : InB n (dLen (eL f xs)) ∧ ∀ c, AtD (eL f xs) (nOf n) c → K c := by
 subst hn
 have hlt := (List.getElem?_eq_some_iff.1 hx).1
 refine ⟨by simp; omega, fun c hc => ?_⟩
 obtain ⟨y, hy, rfl⟩ := at_eL hc
 simp only [nOf_eq, Int.toNat_natCast] at hy
 rw [hx] at hy
 cases hy
 exact h
theorem eL_length {α : Type} (f : α → List D) (xs : List α) : (eL f xs).length = xs.length := by rw [← dLen_len]; simp
theorem eL_get {α : Type} (f : α → List D) (xs : List α) (k : Nat) : (eL f xs)[k]? = (xs[k]?).map f := by rw [eL]; simp
theorem eL_nil {α : Type} (f : α → List D) : eL f [] = [] := by rw [eL]; rfl
theorem eL_cons {α : Type} (f : α → List D) (x : α) (xs : List α) : eL f (x :: xs) = f x :: eL f xs := by rw [eL, eL]; rfl
theorem dApp_eq (es fs : List (List D)) : dApp es fs = es ++ fs := by rw [dApp]
theorem dApp_nil (es : List (List D)) : dApp [] es = es := by rw [dApp_eq]; rfl
theorem dApp_cons (c : List D) (es fs : List (List D)) : dApp (c :: es) fs = c :: dApp es fs := by rw [dApp_eq, dApp_eq]; rfl
theorem iMin_eq (x y : Int) : iMin x y = min x y := by unfold iMin; split <;> omega
theorem iMax_eq (x y : Int) : iMax x y = max x y := by unfold iMax; split <;> omega
theorem ref_at {n : Int} {k m : Nat} {K : Prop} (hn : n = (k : Int)) (hk : k < m) (h : K) : InB n m ∧ K := ⟨by subst hn; simp; omega, h⟩
theorem ld_at {α : Type} {f : α → List D} {xs : List α} {k' k : Nat} {x : α} {K : List D → Prop} (hk : k' = k) (hx : xs[k]? = some x) (h : K (f x)) : ∀ c, (eL f xs)[k']? = some c → K c := fun c hc => by
 rw [hk, eL_get, hx] at hc
 cases hc
 exact h
theorem st_at {α : Type} {f : α → List D} {xs : List α} {k' k j n : Nat} {x : α} {K : List D → Prop} (hk : k' = k) (hx : xs[k]? = some x) (hr : j + n ≤ (f x).length) (h : K (f x)) : ∀ c, AtD (eL f xs) k' c → dRoom j n c ∧ K c := fun c hc => by
 have hc' : (eL f xs)[k']? = some c := by unfold AtD at hc; exact hc
 rw [hk, eL_get, hx] at hc'
 cases hc'
 exact ⟨by simpa using hr, h⟩
theorem cI_set (xs : List Int) (k : Nat) (x y : Int) : dSet (eL cI xs) k (dOver (cI x) 0 [.int .i64 y]) = eL cI (xs.set k y) := by
 rw [dOver_all (by rfl)]; exact eL_set cI xs k y
theorem flat_cI (xs : List Int) : FlatR (eL cI xs) := fun c hc d hd => by
 rw [eL] at hc
 obtain ⟨x, _, rfl⟩ := List.mem_map.1 hc
 simp [cI] at hd
 subst hd; rfl
theorem get_lt {α : Type} {l : List α} {k : Nat} (h : k < l.length) : ∃ x, l[k]? = some x := ⟨_, List.getElem?_eq_getElem h⟩
@[irreducible] def bud (m : Int) (c : Nat) : Int := if (c : Int) ≤ m then m - c else -1
theorem bud_lt {m : Int} {c : Nat} (h : m < c) : bud m c = -1 := by simp only [bud]; rw [if_neg (by omega)]
theorem bud_le {m : Int} {c : Nat} (h : (c : Int) ≤ m) : bud m c = m - c := by simp only [bud]; rw [if_pos h]
theorem bud_step {m : Int} {c r : Nat} (h : (c : Int) ≤ m) : bud m (c + r) = bud (m - c) r := by
 simp only [bud]
 by_cases h' : ((c + r : Nat) : Int) ≤ m
 ·rw [if_pos h', if_pos (by omega)]; omega
 ·rw [if_neg h', if_neg (by omega)]
theorem bud_zero {m : Int} (h : 0 ≤ m) : bud m 0 = m := by simp [bud, h]
theorem bud_neg {m : Int} {c r : Nat} (h : bud m c < 0) : bud m (c + r) = -1 := by
 simp only [bud] at *
 split at h
 ·omega
 ·rw [if_neg (by omega)]
theorem bud_pos {m : Int} {c : Nat} (h : 0 ≤ bud m c) : (c : Int) ≤ m ∧ bud m c = m - c := by
 simp only [bud] at *
 split at h
 ·rename_i hc; exact ⟨hc, by rw [if_pos hc]⟩
 ·omega
theorem bud_m1 {m : Int} {c : Nat} (h : bud m c < 0) : bud m c = -1 := by
 simp only [bud] at *
 split at h
 ·omega
 ·rename_i hc; rw [if_neg hc]
theorem bud_mono {m : Int} {c : Nat} (h : m ≤ 1048576) : bud m c ≤ 1048576 := by
 simp only [bud]
 split <;> omega
theorem bud_bud {m : Int} {a b : Nat} (h : 0 ≤ bud m a) : bud (bud m a) b = bud m (a + b) := by
 obtain ⟨h1, h2⟩ := bud_pos h
 rw [h2, bud_step h1]
def costL {α : Type} (f : α → Nat) : List α → Nat
 | [] => 0
 | x :: r => f x + costL f r
@[irreducible] def cost {α : Type} (f : α → Nat) (l : List α) : Nat := l.length + costL f l
theorem cost_eq {α : Type} (f : α → Nat) (l : List α) : cost f l = l.length + costL f l := by rw [cost]
theorem bud_more {m : Int} {c d : Nat} (h : bud m c = -1) (hd : c ≤ d) : bud m d = -1 := by
 simp only [bud] at *
 split at h
 ·omega
 ·rw [if_neg (by omega)]
theorem bud_slt {m : Int} {c s : Nat} (h : bud m c - s < 0) (g : 0 ≤ bud m c) : bud m (c + s) = -1 := by
 obtain ⟨h1, h2⟩ := bud_pos g
 exact bud_lt (by omega)
theorem bud_sle {m : Int} {c s : Nat} (h : 0 ≤ bud m c - s) (g : 0 ≤ bud m c) : bud m c - s = bud m (c + s) := by
 obtain ⟨h1, h2⟩ := bud_pos g
 rw [bud_le (show ((c + s : Nat) : Int) ≤ m by omega)]; omega
theorem wI {k n : Nat} (h : k < n) (hn : n ≤ 9223372036854775807) : wAdd .i64 (k : Int) 1 = ((k + 1 : Nat) : Int) := by
 have := wInc h hn
 simpa using this
end Go.H.S
namespace Go.H.S
open Go Go.Proofs Go.H
attribute [local irreducible] Tri FnSpec FnSpecM
def costTree (x : List Nd) : Nat := x.length
end Go.H.S
namespace Go.H.S
open Go Go.Proofs Go.H
attribute [local irreducible] Tri FnSpec FnSpecM
def usesL (p : Nd → Bool) : List (List Nd) → Nat
 | [] => 0
 | t :: r => t.countP p + usesL p r
def isF (f : Int) (n : Nd) : Bool := decide (n.f ≠ -1) && decide (n.f = f)
theorem countP_le (p : Nd → Bool) (t : List Nd) : t.countP p ≤ t.length := List.countP_le_length
theorem usesL_le (p : Nd → Bool) : ∀ ts : List (List Nd), usesL p ts ≤ costL List.length ts
 | [] => Nat.le_refl _
 | t :: r => by have h1 := usesL_le p r; have h2 := countP_le p t; simp only [usesL, costL]; omega
theorem costL_mem {α : Type} (f : α → Nat) : ∀ {l : List α} {x : α}, x ∈ l → f x ≤ costL f l
 | y :: r, x, h => by
  simp only [costL]
  rcases List.mem_cons.1 h with rfl | h
  ·omega
  ·have := costL_mem f h; omega
theorem costTree_len : ∀ ts : List (List Nd), costL costTree ts = costL List.length ts
 | [] => rfl
 | t :: r => by simp only [costL, costTree_len r, costTree]
theorem spec_l17Inner_spec (n : Nd) : FnSpec PR f_spec_l17Inner [aN n] (ab (bNot (iEq n.f (-1)))) [] 0 := by
 refine FnSpec.intro hT (pf Tryz.func92) rfl (by kernel_rfl) Tryz.ntmps92 rfl ?_
 conv => whnf
theorem impl_isLeaf_spec (n : Nd) : FnSpec PR f_impl_isLeaf [aN n] (ab (iEq n.f (-1))) [] 0 := by
 refine FnSpec.intro hT (pf Tryz.func100) rfl (by kernel_rfl) Tryz.ntmps100 rfl ?_
 conv => whnf
theorem impl_within_spec (x lo hi : Int) : FnSpec PR f_impl_within [ai x, ai lo, ai hi] (ab (decide (lo ≤ x ∧ x ≤ hi))) [] 0 := by
 refine FnSpec.intro hT (pf Tryz.func122) rfl (by kernel_rfl) Tryz.ntmps122 rfl ?_
 conv => whnf
 refine ifB_i (fun h => ?_) (fun h => ?_) <;> (conv => whnf) <;> simp only [eH] at h
 ·((conv => whnf); simp only [eS])
  simp [iLe, h]
 ·((conv => whnf); simp only [eS])
  simp
  omega
theorem spec_l1In_spec (x lo hi : Int) : FnSpec PR f_spec_l1In [ai x, ai lo, ai hi] (ab (decide (lo ≤ x ∧ x ≤ hi))) [] 0 := by
 refine FnSpec.intro hT (pf Tryz.func125) rfl (by kernel_rfl) Tryz.ntmps125 rfl ?_
 conv => whnf
 refine ifB_i (fun h => ?_) (fun h => ?_) <;> (conv => whnf) <;> simp only [eH] at h
 ·((conv => whnf); simp only [eS])
  simp [iLe, h]
 ·((conv => whnf); simp only [eS])
  simp
  omega
theorem spec_l1Max_spec (x y : Int) : FnSpec PR f_spec_l1Max [ai x, ai y] (ai (max x y)) [] 0 := by
 refine FnSpec.intro hT (pf Tryz.func238) rfl (by kernel_rfl) Tryz.ntmps238 rfl ?_
 conv => whnf
 refine ifB_i (fun h => ?_) (fun h => ?_) <;> (conv => whnf) <;> simp only [eH] at h <;> ((conv => whnf); simp only [eS]) <;> omega
end Go.H.S
namespace Go.H.S
open Go Go.Proofs Go.H
attribute [local irreducible] Tri FnSpec FnSpecM
def idxL {α : Type} (p : α → Bool) : List α → Nat → Int
 | [], _ => -1
 | x :: r, k => if p x then k else idxL p r (k + 1)
theorem idxL_lt {α : Type} (p : α → Bool) : ∀ (l : List α) (k : Nat), -1 ≤ idxL p l k ∧ (idxL p l k < (k + l.length : Nat)) ∧ (0 ≤ idxL p l k → (k : Int) ≤ idxL p l k)
 | [], k => by simp only [idxL, List.length_nil]; omega
 | x :: r, k => by
  simp only [idxL, List.length_cons]
  split
  ·omega
  ·have := idxL_lt p r (k + 1); omega
theorem idxL_mem (x : Int) : ∀ (l : List Int) (k : Nat), (0 ≤ idxL (fun y => decide (x = y)) l k) ↔ x ∈ l
 | [], k => by simp [idxL]
 | y :: r, k => by
  simp only [idxL, List.mem_cons]
  have ih := idxL_mem x r (k + 1)
  by_cases h : x = y
  ·simp [h]
  ·simp [h, ih]
def pUp (node : Int) (n : Nd) : Bool := decide (n.f ≠ -1) && (decide (n.l = node) || decide (n.r = node))
def up (t : List Nd) (node : Int) : Int := idxL (pUp node) t 0
theorem up_lt (t : List Nd) (node : Int) : -1 ≤ up t node ∧ up t node < t.length := by have := idxL_lt (pUp node) t 0; unfold up; omega
def steps (t : List Nd) : Nat → Int → Option (List Int)
 | 0, _ => none
 | n + 1, x => (if up t x < 0 then some [] else steps t n (up t x)).map (x :: ·)
def wayL (t : List Nd) (node : Int) : List Int :=
 if 0 ≤ node ∧ node ≤ (t.length : Int) - 1 then (match steps t 32 node with | some l => l.reverse | none => []) else []
theorem steps_len (t : List Nd) : ∀ (n : Nat) (x : Int) (l : List Int), steps t n x = some l → l.length ≤ n
 | 0, x, l, h => by simp [steps] at h
 | n + 1, x, l, h => by
  simp only [steps, Option.map_eq_some_iff] at h
  obtain ⟨r, h1, rfl⟩ := h
  split at h1
  ·cases h1; simp
  ·have := steps_len t n _ r h1; simp; omega
theorem steps_lt (t : List Nd) : ∀ (n : Nat) (x : Int) (l : List Int), 0 ≤ x ∧ x < t.length → steps t n x = some l → ∀ y ∈ l, 0 ≤ y ∧ y < t.length
 | 0, x, l, hx, h => by simp [steps] at h
 | n + 1, x, l, hx, h => by
  simp only [steps, Option.map_eq_some_iff] at h
  obtain ⟨r, h1, rfl⟩ := h
  intro y hy
  rcases List.mem_cons.1 hy with rfl | hy
  ·exact hx
  ·split at h1
   ·cases h1; cases hy
   ·exact steps_lt t n _ r (by have := up_lt t x; omega) h1 y hy
theorem wayL_len (t : List Nd) (x : Int) : (wayL t x).length ≤ 32 := by
 unfold wayL
 split
 ·split
  ·rename_i l h; have := steps_len t 32 x l h; simpa using this
  ·simp
 ·simp
theorem spec_l17Up_spec (t : List Nd) (node : Int) (hl : t.length ≤ 9223372036854775807) : FnSpec PR f_spec_l17Up [aT t, ai node] (ai (up t node)) [] 0 := by
 refine FnSpec.intro hT (pf Tryz.func206) rfl (by kernel_rfl) Tryz.ntmps206 rfl ?_
 conv => whnf
 refine tri_loop hT [1, 2, 5] (α := Nat) (fun k => { t := [(1, ai node), (2, .c (.ptr 0 0)), (5, ai k)], h := [(0, .box t_impl_Tree (cTr t))], n := 1, N := 40 })
  (fun k => k ≤ t.length ∧ idxL (pUp node) (t.drop k) k = up t node) (fun k => t.length - k) 0 (by ((conv => whnf); simp only [eS])) ⟨Nat.zero_le _, rfl⟩ ?_
 intro k ⟨hk, hi⟩
 conv => whnf
 refine ifB_i (fun h1 => ?_) (fun h1 => ?_) <;> (conv => whnf) <;> simp at h1
 ·obtain ⟨s, hs⟩ := get_lt h1
  rw [drop_at hs, idxL] at hi
  refine idx_at (by simp) hs ?_
  conv => whnf
  refine .inl ⟨_, _, _, spec_l17Inner_spec s, rfl, ?_⟩
  conv => whnf
  refine ifB_i (fun h2 => ?_) (fun h2 => ?_) <;> (conv => whnf)
  ·refine idx_at (by simp) hs ?_
   conv => whnf
   refine ifB_i (fun h3 => ?_) (fun h3 => ?_) <;> (conv => whnf)
   ·rw [if_pos (by simp_all [pUp, iEq, bNot])] at hi
    ((conv => whnf); simp only [eS, hi])
   ·refine idx_at (by simp) hs ?_
    conv => whnf
    refine ifB_i (fun h4 => ?_) (fun h4 => ?_) <;> (conv => whnf)
    ·rw [if_pos (by simp_all [pUp, iEq, bNot])] at hi
     ((conv => whnf); simp only [eS, hi])
    ·rw [if_neg (by simp_all [pUp, iEq, bNot])] at hi
     refine ⟨k + 1, by omega, ⟨h1, hi⟩, ?_⟩
     ((conv => whnf); simp only [eS, wI h1 hl])
  ·rw [if_neg (by simp_all [pUp, iEq, bNot])] at hi
   refine ⟨k + 1, by omega, ⟨h1, hi⟩, ?_⟩
   ((conv => whnf); simp only [eS, wI h1 hl])
 ·obtain rfl : k = t.length := by omega
  simp only [List.drop_length, idxL] at hi
  ((conv => whnf); simp only [eS, ← hi])
theorem impl_parent_1_spec (n : Nd) (node : Int) : FnSpec PR f_impl_parent_1 [aN n, .c (.d (.rp [.int .i64 node]))] (ab (pUp node n)) [] 0 := by
 refine FnSpec.intro hT (pf Tryz.func294) rfl (by kernel_rfl) Tryz.ntmps294 rfl ?_
 conv => whnf
 refine .inl ⟨_, _, _, impl_isLeaf_spec n, rfl, ?_⟩
 conv => whnf
 refine ifB_i (fun h1 => ?_) (fun h1 => ?_) <;> (conv => whnf)
 ·refine ifB_i (fun h2 => ?_) (fun h2 => ?_) <;> (conv => whnf) <;> ((conv => whnf); simp only [eS]) <;> simp_all [pUp, iEq, bNot]
 ·((conv => whnf); simp only [eS])
  simp_all [pUp, iEq, bNot]
theorem slices_IndexFunc_Node_spec (t : List Nd) (g : FuncId) (d : D) (p : Nd → Bool) (hp : ∀ n, FnSpec PR g [aN n, .c (.d d)] (ab (p n)) [] 0) (hl : t.length ≤ 9223372036854775807) :
  FnSpec PR f_slices_IndexFunc_Limpl_Node_impl_Node [aNs t, .c (.d (.fn g [d]))] (ai (idxL p t 0)) [] 0 := by
 refine FnSpec.intro hT (pf Tryz.func293) rfl (by kernel_rfl) Tryz.ntmps293 rfl ?_
 conv => whnf
 refine tri_loop hT [0, 1, 7, 8] (α := Nat) (fun k => { t := [(0, aNs t), (1, .c (.d (.fn g [d]))), (7, ai t.length), (8, ai k)], h := [], n := 0, N := 19 })
  (fun k => k ≤ t.length ∧ idxL p (t.drop k) k = idxL p t 0) (fun k => t.length - k) 0 (by ((conv => whnf); simp only [eS])) ⟨Nat.zero_le _, rfl⟩ ?_
 intro k ⟨hk, hi⟩
 conv => whnf
 refine ifB_i (fun h1 => ?_) (fun h1 => ?_) <;> (conv => whnf) <;> simp at h1
 ·obtain ⟨s, hs⟩ := get_lt h1
  rw [drop_at hs, idxL] at hi
  refine idx_at (by simp) hs ?_
  conv => whnf
  refine .inl ⟨_, _, _, hp s, rfl, ?_⟩
  conv => whnf
  refine ifB_i (fun h2 => ?_) (fun h2 => ?_) <;> (conv => whnf)
  ·rw [if_pos h2] at hi
   ((conv => whnf); simp only [eS, hi])
  ·rw [if_neg (by simp [h2])] at hi
   refine ⟨k + 1, by omega, ⟨h1, hi⟩, ?_⟩
   ((conv => whnf); simp only [eS, wI h1 hl])
 ·obtain rfl : k = t.length := by omega
  simp only [List.drop_length, idxL] at hi
  ((conv => whnf); simp only [eS, ← hi])
theorem impl_parent_spec (t : List Nd) (node : Int) (hl : t.length ≤ 9223372036854775807) : FnSpec PR f_impl_parent [aT t, ai node] (ai (up t node)) [] 0 := by
 refine FnSpec.intro hT (pf Tryz.func236) rfl (by kernel_rfl) Tryz.ntmps236 rfl ?_
 conv => whnf
 refine .inr (.inl ⟨_, _, _, slices_IndexFunc_Node_spec t f_impl_parent_1 (.rp [.int .i64 node]) (pUp node) (fun n => impl_parent_1_spec n node) hl, rfl, trivial, ?_⟩)
 conv => whnf
 rfl
def lvl (t : List Nd) (n : Nat) (x : Int) (k : Int) : Int := match steps t n x with | some l => (l.length : Int) - 1 + k | none => -1
def levelL (t : List Nd) (node : Int) : Int := if 0 ≤ node ∧ node ≤ (t.length : Int) - 1 then lvl t 32 node 0 else -1
theorem lvl_lt {t : List Nd} {n : Nat} {x : Int} (k : Int) (h : up t x < 0) : lvl t (n + 1) x k = k := by simp [lvl, steps, h]
theorem lvl_ge {t : List Nd} {n : Nat} {x : Int} (k : Int) (h : ¬ up t x < 0) : lvl t (n + 1) x k = lvl t n (up t x) (k + 1) := by
 simp only [lvl, steps, if_neg h]
 cases steps t n (up t x) with
 | none => rfl
 | some l => simp only [Option.map_some, List.length_cons]; omega
theorem spec_LevelOf_spec (t : List Nd) (node : Int) (hl : t.length ≤ 9223372036854775807) : FnSpec PR f_spec_LevelOf [aT t, ai node] (ai (levelL t node)) [] 0 := by
 have e : wSub .i64 t.length 1 = (t.length : Int) - 1 := wSub64 (by omega) (by omega)
 refine FnSpec.intro hT (pf Tryz.func89) rfl (by kernel_rfl) Tryz.ntmps89 rfl ?_
 conv => whnf
 refine .inl ⟨_, _, _, spec_l1In_spec _ _ _, rfl, ?_⟩
 conv => whnf
 refine ifB_i (fun h1 => ?_) (fun h1 => ?_) <;> (conv => whnf) <;> simp only [eH, e, decide_eq_true_eq, decide_eq_false_iff_not] at h1
 ·rw [levelL, if_neg h1]
 rw [levelL, if_pos h1]
 refine tri_loop hT [1, 2, 5] (α := Nat × Int) (fun x => { t := [(1, ai x.2), (2, .c (.ptr 0 0)), (5, ai x.1)], h := [(0, .box t_impl_Tree (cTr t))], n := 1, N := 23 })
  (fun x => x.1 ≤ 32 ∧ lvl t (32 - x.1) x.2 x.1 = lvl t 32 node 0) (fun x => 32 - x.1) (0, node) (by ((conv => whnf); simp only [eS])) ⟨by omega, rfl⟩ ?_
 intro ⟨k, x⟩ ⟨hk, hi⟩
 dsimp only at hk hi
 conv => whnf
 refine ifB_i (fun h2 => ?_) (fun h2 => ?_) <;> (conv => whnf) <;> simp only [eH] at h2
 ·refine .inl ⟨_, _, _, spec_l17Up_spec t x hl, rfl, ?_⟩
  conv => whnf
  rw [show 32 - k = (31 - k) + 1 by omega] at hi
  refine ifB_i (fun h3 => ?_) (fun h3 => ?_) <;> (conv => whnf) <;> simp only [eH] at h3
  ·rw [lvl_lt _ h3] at hi
   ((conv => whnf); simp only [eS, ← hi])
  ·rw [lvl_ge _ (by omega)] at hi
   refine ⟨(k + 1, up t x), by dsimp only; omega, ⟨by dsimp only; omega, ?_⟩, ?_⟩
   ·dsimp only
    rw [← hi, show 32 - (k + 1) = 31 - k by omega, Int.natCast_add]
    rfl
   ·((conv => whnf); simp only [eS, wI (show k < 33 by omega) (by omega)])
 ·obtain rfl : k = 32 := by omega
  have hi' : lvl t 0 x 32 = lvl t 32 node 0 := hi
  rw [← hi']
  ((conv => whnf); simp only [eS, lvl, steps])
def revK (l : List Int) (i : Nat) : List Int := (l.reverse.take i) ++ ((l.drop i).take (l.length - 2 * i)) ++ l.reverse.drop (l.length - i)
theorem revK_len (l : List Int) (i : Nat) (h : 2 * i ≤ l.length) : (revK l i).length = l.length := by simp [revK]; omega
theorem revK_get (l : List Int) (i k : Nat) (h : 2 * i ≤ l.length) : (revK l i)[k]? = if k < i ∨ (l.length - i ≤ k ∧ k < l.length) then l.reverse[k]? else l[k]? := by
 simp only [revK]
 by_cases h1 : k < i
 ·rw [if_pos (.inl h1), List.append_assoc, List.getElem?_append_left (by simp; omega), List.getElem?_take, if_pos h1]
 ·by_cases h2 : k < l.length - i
  ·rw [if_neg (by omega), List.getElem?_append_left (by simp; omega), List.getElem?_append_right (by simp; omega), List.getElem?_take, List.getElem?_drop]
   simp only [List.length_take, List.length_reverse]
   rw [Nat.min_eq_left (by omega), if_pos (by omega), show i + (k - i) = k by omega]
  ·rw [List.getElem?_append_right (by simp; omega)]
   simp only [List.length_append, List.length_take, List.length_reverse, List.length_drop, List.getElem?_drop]
   by_cases h3 : k < l.length
   ·rw [if_pos (by omega)]
    congr 1; omega
   ·have e1 : l[k]? = none := List.getElem?_eq_none (by omega)
    rw [if_neg (by omega), e1]
    apply List.getElem?_eq_none
    simp only [List.length_reverse]
    omega
theorem revK_end (l : List Int) (i : Nat) (h : l.length ≤ 2 * i + 1) (h2 : 2 * i ≤ l.length) : revK l i = l.reverse := by
 apply List.ext_getElem?
 intro k
 rw [revK_get l i k h2]
 split
 ·rfl
 ·rename_i hn
  by_cases hk : k < l.length
  ·have : l.length = 2 * i + 1 ∧ k = i := by omega
   rw [List.getElem?_reverse (by omega)]
   congr 1; omega
  ·rw [List.getElem?_eq_none (by omega), List.getElem?_eq_none (by simp; omega)]
theorem revK_step (l : List Int) (i : Nat) (a b : Int) (h : 2 * i + 1 < l.length) (ha : (revK l i)[i]? = some a) (hb : (revK l i)[l.length - 1 - i]? = some b) :
  ((revK l i).set i b).set (l.length - 1 - i) a = revK l (i + 1) := by
 rw [revK_get l i _ (by omega)] at ha hb
 rw [if_neg (by omega)] at ha hb
 apply List.ext_getElem?
 intro k
 rw [List.getElem?_set, List.getElem?_set, revK_get l i k (by omega), revK_get l (i + 1) k (by omega)]
 simp only [List.length_set, revK_len l i (by omega)]
 by_cases h1 : l.length - 1 - i = k
 ·subst h1
  rw [if_pos rfl, if_pos (by omega), if_pos (by omega), List.getElem?_reverse (by omega), show l.length - 1 - (l.length - 1 - i) = i by omega, ha]
 ·rw [if_neg h1]
  by_cases h2 : i = k
  ·subst h2
   rw [if_pos rfl, if_pos (by omega), if_pos (by omega), List.getElem?_reverse (by omega), hb]
  ·rw [if_neg h2]
   by_cases h3 : k < i ∨ l.length - i ≤ k ∧ k < l.length
   ·rw [if_pos h3, if_pos (by omega)]
   ·rw [if_neg h3, if_neg (by omega)]
theorem revK_zero (l : List Int) : revK l 0 = l := by simp [revK]
theorem slices_Reverse_spec (l : List Int) (hl : l.length ≤ 1048576) : FnSpecM PR f_slices_Reverse_Lint_int [.c (.ref 0 0 none)] t_int 1 (eL cI l) (.tup []) (eL cI l.reverse) := by
 refine FnSpecM.intro hT 0 (pf Tryz.func237) rfl (by kernel_rfl) Tryz.ntmps237 rfl rfl (by simp [eL_length]) rfl (flat_cI _) ?_
 intro v0
 conv => whnf
 have e : wSub .i64 l.length 1 = (l.length : Int) - 1 := wSub64 (by omega) (by omega)
 refine tri_loop hT [0, 2, 3] (α := Nat) (fun i => { t := [(0, .w (.ref 0 0 none) v0), (2, ai i), (3, ai ((l.length : Int) - 1 - i))], h := [(0, .arr t_int 1 0 .own (eL cI (revK l i)))], n := 1, N := 28 })
  (fun i => 2 * i ≤ l.length) (fun i => l.length - i) 0 (by ((conv => whnf); simp only [eS, e, revK_zero, Int.sub_zero, lenRE_none])) (by omega) ?_
 intro i hi
 conv => whnf
 refine ifB_i (fun h1 => ?_) (fun h1 => ?_) <;> (conv => whnf) <;> simp only [eH] at h1
 ·have hlen := revK_len l i hi
  obtain ⟨a, ha⟩ := get_lt (l := revK l i) (k := i) (by omega)
  obtain ⟨b, hb⟩ := get_lt (l := revK l i) (k := l.length - 1 - i) (by omega)
  have ej : (l.length : Int) - 1 - i = ((l.length - 1 - i : Nat) : Int) := by omega
  rw [ej]
  refine tri_each hT hmix [0, 2, 3] { t := [(0, .w (.ref 0 0 none) v0), (2, ai i), (3, ai ((l.length - 1 - i : Nat) : Int))], h := [(0, .arr t_int 1 0 .own (eL cI (revK l (i + 1))))], n := 1, N := 28 } rfl ?_ ?_
  ·have hb2 : ((revK l i).set i b)[l.length - 1 - i]? = some b := by rw [List.getElem?_set_ne (by omega)]; exact hb
   have hst := revK_step l i a b (by omega) ha hb
   have ki : nAdd (offR none) (nOf (i : Int)) = i := by simp
   have kj : nAdd (offR none) (nOf ((l.length - 1 - i : Nat) : Int)) = l.length - 1 - i := by simp
   conv => whnf
   repeat' first
    | (refine ref_at rfl (by simp; omega) ?_; (conv => whnf))
    | (refine ld_at ki ha ?_; (conv => whnf))
    | (refine ld_at kj hb ?_; (conv => whnf))
    | (refine st_at ki ha (Nat.le_refl 1) ?_; simp only [cI_set, offR_none, nAdd_eq, nOf_eq, Int.toNat_natCast, Nat.zero_add]; (conv => whnf))
    | (refine st_at kj hb2 (Nat.le_refl 1) ?_; simp only [cI_set, offR_none, nAdd_eq, nOf_eq, Int.toNat_natCast, Nat.zero_add]; (conv => whnf))
    | (refine And.intro ?_ ?_ <;> (conv => whnf))
    | (((conv => whnf); simp only [eS, hst]); done)
    | (rw [hst]; done)
  ·conv => whnf
   refine ⟨i + 1, by omega, by omega, ?_⟩
   ((conv => whnf); simp only [eS, wI (show i < l.length by omega) (by omega), wSub64 (show -9223372036854775808 ≤ ((l.length - 1 - i : Nat) : Int) - 1 by omega) (by omega)])
   omega
 ·((conv => whnf); simp only [eS, revK_end l i (by omega) hi])
end Go.H.S
namespace Go.H.S
open Go Go.Proofs Go.H
attribute [local irreducible] Tri FnSpec FnSpecM
theorem spec_WayTo_spec (t : List Nd) (node : Int) (hl : t.length ≤ 9223372036854775807) : FnSpec PR f_spec_WayTo [aT t, ai node] (.c (.ref 0 0 none)) [(0, .arr t_int 1 0 .own (eL cI (wayL t node)))] 1 := by
 refine FnSpec.intro hT (pf Tryz.func130) rfl (by kernel_rfl) Tryz.ntmps130 rfl ?_
 conv => whnf
 refine .inl ⟨_, _, _, spec_LevelOf_spec t node hl, rfl, ?_⟩
 conv => whnf
 refine ifB_i (fun h1 => ?_) (fun h1 => ?_) <;> (conv => whnf) <;> simp only [eH] at h1
 ·have : wayL t node = [] := by
   unfold levelL lvl at h1
   unfold wayL
   split at h1
   ·rename_i hn
    split at h1
    ·rename_i l hs
     cases l with
     | nil =>
      have : steps t 32 node = some [] := hs
      simp [steps] at this
     | cons x r => simp at h1; omega
    ·rename_i hs
     have : steps t 32 node = none := hs
     simp [hn, this]
   ·rename_i hn; rw [if_neg hn]
  rw [this]
  ((conv => whnf); simp only [eS, eL_nil])
 ·obtain ⟨hn, l, hs⟩ : (0 ≤ node ∧ node ≤ (t.length : Int) - 1) ∧ ∃ l, steps t 32 node = some l := by
   unfold levelL lvl at h1
   split at h1
   ·rename_i hn
    split at h1
    ·rename_i l hs; exact ⟨hn, l, hs⟩
    ·omega
   ·omega
  have hway : wayL t node = l.reverse := by unfold wayL; rw [if_pos hn, hs]
  have hlen := steps_len t 32 node l hs
  refine tri_loop hT [1, 2, 5] (α := Int × List Int × List Int) (fun x => { t := [(1, ai x.1), (2, .c (.ptr 0 0)), (5, .c (.ref 1 0 none))], h := [(0, .box t_impl_Tree (cTr t)), (1, .arr t_int 1 0 .own (eL cI x.2.1))], n := 2, N := 22 })
   (fun x => x.2.2.reverse ++ x.2.1 = l.reverse ∧ ((x.1 < 0 ∧ x.2.2 = []) ∨ (0 ≤ x.1 ∧ ∃ k, steps t k x.1 = some x.2.2))) (fun x => x.2.2.length) (node, [], l) (by ((conv => whnf); simp only [eS, eL_nil])) ⟨by simp, .inr ⟨hn.1, 32, hs⟩⟩ ?_
  intro ⟨x, out, rem⟩ ⟨h2, h3⟩
  dsimp only at h2 h3
  have hol : out.length ≤ 32 := by
   have := congrArg List.length h2
   simp at this; omega
  conv => whnf
  refine ifB_i (fun h4 => ?_) (fun h4 => ?_) <;> (conv => whnf) <;> simp only [eH] at h4
  ·rcases h3 with ⟨h3, _⟩ | ⟨_, k, h3⟩
   ·omega
   refine ⟨by simp [eL_length, dLen_len]; omega, ?_⟩
   conv => whnf
   refine .inl ⟨_, _, _, spec_l17Up_spec t x hl, rfl, ?_⟩
   conv => whnf
   cases k with
   | zero => simp [steps] at h3
   | succ k =>
    simp only [steps, Option.map_eq_some_iff] at h3
    obtain ⟨r, h5, rfl⟩ := h3
    refine ⟨(up t x, x :: out, r), by simp, ⟨by rw [← h2]; simp, ?_⟩, ?_⟩
    ·by_cases hu : up t x < 0
     ·rw [if_pos hu] at h5; cases h5; exact .inl ⟨hu, rfl⟩
     ·rw [if_neg hu] at h5; exact .inr ⟨by dsimp only; omega, k, h5⟩
    ·((conv => whnf); simp only [eS, partOf_none, eL_cons, dApp_cons, dApp_nil, cI])
  ·rcases h3 with ⟨_, h3⟩ | ⟨h3, _⟩
   ·subst h3
    simp at h2
    rw [hway, ← h2]
   ·omega
theorem impl_wayTo_spec (t : List Nd) (node : Int) (hl : t.length ≤ 9223372036854775807) : FnSpec PR f_impl_wayTo [aT t, ai node] (.c (.ref 0 0 none)) [(0, .arr t_int 1 0 .own (eL cI (wayL t node)))] 1 := by
 have e : wSub .i64 t.length 1 = (t.length : Int) - 1 := wSub64 (by omega) (by omega)
 refine FnSpec.intro hT (pf Tryz.func124) rfl (by kernel_rfl) Tryz.ntmps124 rfl ?_
 conv => whnf
 refine .inl ⟨_, _, _, impl_within_spec _ _ _, rfl, ?_⟩
 conv => whnf
 refine ifB_i (fun h1 => ?_) (fun h1 => ?_) <;> (conv => whnf) <;> simp only [eH, e, decide_eq_true_eq, decide_eq_false_iff_not] at h1
 ·have : wayL t node = [] := by unfold wayL; rw [if_neg h1]
  rw [this]
  ((conv => whnf); simp only [eS, eL_nil])
 refine .inl ⟨_, _, _, impl_parent_spec t node hl, rfl, ?_⟩
 conv => whnf
 refine tri_loop hT [2, 5, 6] (α := Int × List Int) (fun x => { t := [(2, .c (.ptr 0 0)), (5, .c (.ref 1 0 none)), (6, ai x.1)], h := [(0, .box t_impl_Tree (cTr t)), (1, .arr t_int 1 0 .own (eL cI x.2))], n := 2, N := 34 })
  (fun x => 1 ≤ x.2.length ∧ x.2.length ≤ 32 ∧ steps t 32 node = (if x.1 < 0 then some [] else steps t (32 - x.2.length) x.1).map (x.2 ++ ·)) (fun x => 33 - x.2.length) (up t node, [node]) (by ((conv => whnf); simp only [eS, eL_nil, eL_cons, cI])) ⟨by simp, by simp, rfl⟩ ?_
 intro ⟨x, out⟩ ⟨h2, h3, h4⟩
 dsimp only at h2 h3 h4
 conv => whnf
 refine ifB_i (fun h5 => ?_) (fun h5 => ?_) <;> (conv => whnf) <;> simp only [eH] at h5
 ·rw [if_neg (by omega)] at h4
  refine ifB_i (fun h6 => ?_) (fun h6 => ?_) <;> (conv => whnf) <;> simp only [eH, lenRE_none] at h6
  ·have : out.length = 32 := by omega
   rw [this] at h4
   have h4 : steps t 32 node = none := h4
   have : wayL t node = [] := by unfold wayL; rw [if_pos h1]; rw [h4]
   rw [this]
   ((conv => whnf); simp only [eS, eL_nil])
  ·refine ⟨by simp [eL_length, dLen_len]; omega, ?_⟩
   conv => whnf
   refine .inl ⟨_, _, _, impl_parent_spec t x hl, rfl, ?_⟩
   conv => whnf
   have hst : steps t (32 - out.length) x = (if up t x < 0 then some [] else steps t (31 - out.length) (up t x)).map (x :: ·) := by rw [show 32 - out.length = (31 - out.length) + 1 by omega, steps]
   rw [hst] at h4
   refine ⟨(up t x, out ++ [x]), by simp; omega, ⟨by simp, by simp; omega, ?_⟩, ?_⟩
   ·dsimp only
    rw [h4, Option.map_map]
    simp only [List.length_append, List.length_cons, List.length_nil]
    rw [show 32 - (out.length + (0 + 1)) = 31 - out.length by omega]
    congr 1
    funext y
    simp
   ·((conv => whnf); simp only [eS, partOf_none])
    rw [← eL_app]
    rfl
 ·rw [if_pos h5] at h4
  simp at h4
  have hway : wayL t node = out.reverse := by unfold wayL; rw [if_pos h1, h4]
  refine .inr (.inr (.inl ⟨1, ?_⟩))
  conv => whnf
  refine .inl ⟨_, _, slices_Reverse_spec out (by omega), ?_⟩
  conv => whnf
  rw [hway]
def leavesK (t : List Nd) (k : Nat) : List Int :=
 match t with
 | [] => []
 | n :: r => if n.f = -1 then (k : Int) :: leavesK r (k + 1) else leavesK r (k + 1)
theorem leavesK_lt : ∀ (t : List Nd) (k : Nat) (x : Int), x ∈ leavesK t k → (k : Int) ≤ x ∧ x < (k + t.length : Nat)
 | [], k, x, h => by simp [leavesK] at h
 | n :: r, k, x, h => by
  simp only [leavesK] at h
  simp only [List.length_cons]
  split at h
  ·rcases List.mem_cons.1 h with rfl | h
   ·omega
   ·have := leavesK_lt r (k + 1) x h; omega
  ·have := leavesK_lt r (k + 1) x h; omega
theorem leavesK_len : ∀ (t : List Nd) (k : Nat), (leavesK t k).length ≤ t.length
 | [], k => by simp [leavesK]
 | n :: r, k => by
  simp only [leavesK]
  have := leavesK_len r (k + 1)
  split <;> simp <;> omega
theorem spec_LeavesOf_spec (t : List Nd) (hl : t.length ≤ 1048576) : FnSpec PR f_spec_LeavesOf [aT t] (.c (.ref 0 0 none)) [(0, .arr t_int 1 0 .own (eL cI (leavesK t 0)))] 1 := by
 refine FnSpec.intro hT (pf Tryz.func330) rfl (by kernel_rfl) Tryz.ntmps330 rfl ?_
 conv => whnf
 refine tri_loop hT [1, 3, 4] (α := Nat × List Int) (fun x => { t := [(1, .c (.ptr 0 0)), (3, .c (.ref 1 0 none)), (4, ai x.1)], h := [(0, .box t_impl_Tree (cTr t)), (1, .arr t_int 1 0 .own (eL cI x.2))], n := 2, N := 25 })
  (fun x => x.1 ≤ t.length ∧ x.2.length ≤ x.1 ∧ x.2 ++ leavesK (t.drop x.1) x.1 = leavesK t 0) (fun x => t.length - x.1) (0, []) (by ((conv => whnf); simp only [eS, eL_nil])) ⟨Nat.zero_le _, by simp, rfl⟩ ?_
 intro ⟨k, out⟩ ⟨hk, hol, ho⟩
 dsimp only at hk hol ho
 conv => whnf
 refine ifB_i (fun h1 => ?_) (fun h1 => ?_) <;> (conv => whnf) <;> simp at h1
 ·obtain ⟨n, hn⟩ := get_lt h1
  refine idx_at (by simp) hn ?_
  conv => whnf
  refine .inl ⟨_, _, _, spec_l17Inner_spec n, rfl, ?_⟩
  conv => whnf
  rw [drop_at hn, leavesK] at ho
  refine ifB_i (fun h2 => ?_) (fun h2 => ?_) <;> (conv => whnf) <;> simp only [eH] at h2
  ·rw [if_pos h2] at ho
   refine ⟨by simp [eL_length, dLen_len]; omega, ?_⟩
   conv => whnf
   refine ⟨(k + 1, out ++ [(k : Int)]), by dsimp only; omega, ⟨h1, by simp; omega, by rw [← ho]; simp⟩, ?_⟩
   ((conv => whnf); simp only [eS, partOf_none, wI h1 (by omega)])
   rw [← eL_app]
   rfl
  ·rw [if_neg h2] at ho
   refine ⟨(k + 1, out), by dsimp only; omega, ⟨h1, by dsimp only; omega, ho⟩, ?_⟩
   ((conv => whnf); simp only [eS, wI h1 (by omega)])
 ·obtain rfl : k = t.length := by omega
  simp [leavesK] at ho
  rw [ho]
end Go.H.S
namespace Go.H.S
open Go Go.Proofs Go.H
attribute [local irreducible] Tri FnSpec FnSpecM
def vAt (t : List Nd) (x : Int) : Int := match t[x.toNat]? with | some n => n.v | none => 0
def spanStep (t : List Nd) (node : Int) (acc : Int × Int × Bool) (i : Int) : Int × Int × Bool :=
 if node ∈ wayL t i then (if acc.2.2 then (min acc.1 (vAt t i), max acc.2.1 (vAt t i), true) else (vAt t i, vAt t i, true)) else acc
def spanL (t : List Nd) (node : Int) : Int × Int × Bool := (leavesK t 0).foldl (spanStep t node) (0, 0, false)
def badN (t : List Nd) (f sign : Int) (n : Nd) : Bool :=
 isF f n && ((spanL t n.l).2.2 && (spanL t n.r).2.2 && ((decide (sign = 1) && decide ((spanL t n.r).1 < (spanL t n.l).2.1)) || (decide (sign = -1) && decide ((spanL t n.l).1 < (spanL t n.r).2.1))))
def followsL (t : List Nd) (f sign : Int) : Bool := t.all fun n => !badN t f sign n
abbrev tup3 (x : Int × Int × Bool) : AV := .tup [(false, [.d (.int .i64 x.1)]), (false, [.d (.int .i64 x.2.1)]), (false, [.d (.bool x.2.2)])]
end Go.H.S
namespace Go.H.S
open Go Go.Proofs Go.H
attribute [local irreducible] Tri FnSpec FnSpecM
def brought (x lo hi : Int) : Int := if x < lo then lo else if hi < x then hi else x
theorem spec_Brought_spec (x lo hi : Int) : FnSpec PR f_spec_Brought [ai x, ai lo, ai hi] (ai (brought x lo hi)) [] 0 := by
 refine FnSpec.intro hT (pf Tryz.func208) rfl (by kernel_rfl) Tryz.ntmps208 rfl ?_
 conv => whnf
 refine ifB_i (fun h => ?_) (fun h => ?_) <;> (conv => whnf) <;> simp only [eH] at h
 ·((conv => whnf); simp only [eS])
  simp only [brought]
  rw [if_pos (by omega)]
 ·refine ifB_i (fun h2 => ?_) (fun h2 => ?_) <;> (conv => whnf) <;> simp only [eH] at h2 <;> ((conv => whnf); simp only [eS]) <;> simp only [brought]
  ·rw [if_neg (by omega), if_pos (by omega)]
  ·rw [if_neg (by omega), if_neg (by omega)]
def depthK (t : List Nd) : Nat → Int
 | 0 => -1
 | k + 1 => max (depthK t k) (levelL t k)
theorem spec_DepthOf_spec (t : List Nd) (hl : t.length ≤ 1048576) : FnSpec PR f_spec_DepthOf [aT t] (ai (depthK t t.length)) [] 0 := by
 refine FnSpec.intro hT (pf Tryz.func127) rfl (by kernel_rfl) Tryz.ntmps127 rfl ?_
 conv => whnf
 refine tri_loop hT [1, 3, 4] (α := Nat) (fun x => { t := [(1, .c (.ptr 0 0)), (3, ai (depthK t x)), (4, ai x)], h := [(0, .box t_impl_Tree (cTr t))], n := 1, N := 18 })
  (fun x => x ≤ t.length) (fun x => t.length - x) 0 (by ((conv => whnf); simp only [eS, depthK])) (Nat.zero_le _) ?_
 intro k hk
 conv => whnf
 refine ifB_i (fun h1 => ?_) (fun h1 => ?_) <;> (conv => whnf) <;> simp at h1
 ·refine .inl ⟨_, _, _, spec_LevelOf_spec t k (by omega), rfl, ?_⟩
  conv => whnf
  refine .inl ⟨_, _, _, spec_l1Max_spec _ _, rfl, ?_⟩
  conv => whnf
  refine ⟨k + 1, by omega, h1, ?_⟩
  ((conv => whnf); simp only [eS, wI h1 (by omega), depthK])
 ·obtain rfl : k = t.length := by omega
  conv => whnf
theorem spec_l6Value_spec (x : Int) : FnSpec PR f_spec_l6Value [ai x] (ab (decide (-2147483647 ≤ x ∧ x ≤ 2147483647))) [] 0 := by
 refine FnSpec.intro hT (pf Tryz.func161) rfl (by kernel_rfl) Tryz.ntmps161 rfl ?_
 conv => whnf
 refine .inl ⟨_, _, _, spec_l1In_spec _ _ _, rfl, ?_⟩
 conv => whnf
theorem spec_l14Leaf_spec (x : Int) : FnSpec PR f_spec_l14Leaf [ai x] (ab (decide (-1099511627776 ≤ x ∧ x ≤ 1099511627776))) [] 0 := by
 refine FnSpec.intro hT (pf Tryz.func131) rfl (by kernel_rfl) Tryz.ntmps131 rfl ?_
 conv => whnf
 refine .inl ⟨_, _, _, spec_l1In_spec _ _ _, rfl, ?_⟩
 conv => whnf
end Go.H.S
namespace Go.H.S
open Go Go.Proofs Go.H
attribute [local irreducible] Tri FnSpec FnSpecM
def leafBad (n : Nd) : Bool := decide (n ≠ ⟨-1, 0, 0, 0, n.v⟩) || !decide (-1099511627776 ≤ n.v ∧ n.v ≤ 1099511627776)
def innerBad (n : Nd) (ft i next : Int) : Bool := decide (¬ (0 ≤ n.f ∧ n.f ≤ ft - 1)) || decide (¬ (-2147483647 ≤ n.c ∧ n.c ≤ 2147483647)) || decide (n.v ≠ 0) || decide (n.l ≠ next) || decide (n.r ≠ next + 1) || decide (n.l ≤ i)
def shapeL (ft : Int) : List Nd → Int → Int → Option Int
 | [], i, next => some next
 | n :: r, i, next => if n.f = -1 then (if leafBad n then none else shapeL ft r (i + 1) next) else if innerBad n ft i next then none else shapeL ft r (i + 1) (next + 2)
def shapeOk (t : List Nd) (ft : Int) : Bool := decide (shapeL ft t 0 1 = some (t.length : Int))
theorem shape_bad {t : List Nd} {ft : Int} (h : none = shapeL ft t 0 1) : shapeOk t ft = false := by simp [shapeOk, ← h]
theorem spec_l17Shape_spec (t : List Nd) (ft : Int) (hft : 0 ≤ ft ∧ ft ≤ 4) (hl : t.length ≤ 1048576) : FnSpec PR f_spec_l17Shape [aT t, ai ft] (ab (shapeOk t ft)) [] 0 := by
 refine FnSpec.intro hT (pf Tryz.func126) rfl (by kernel_rfl) Tryz.ntmps126 rfl ?_
 conv => whnf
 refine tri_loop hT [1, 2, 5, 6] (α := Nat × Nat) (fun x => { t := [(1, ai ft), (2, .c (.ptr 0 0)), (5, ai x.2), (6, ai x.1)], h := [(0, .box t_impl_Tree (cTr t))], n := 1, N := 77 })
  (fun x => x.1 ≤ t.length ∧ x.2 ≤ 2 * x.1 + 1 ∧ shapeL ft (t.drop x.1) x.1 x.2 = shapeL ft t 0 1) (fun x => t.length - x.1) (0, 1) (by ((conv => whnf); simp only [eS]); rfl) ⟨Nat.zero_le _, by simp, by simp⟩ ?_
 intro ⟨k, nx⟩ ⟨hk, hx, hs⟩
 dsimp only at hk hx hs
 conv => whnf
 refine ifB_i (fun h1 => ?_) (fun h1 => ?_) <;> (conv => whnf) <;> simp at h1
 ·obtain ⟨n, hn⟩ := get_lt h1
  rw [drop_at hn, shapeL] at hs
  refine idx_at (by simp) hn ?_
  conv => whnf
  refine .inl ⟨_, _, _, spec_l17Inner_spec n, rfl, ?_⟩
  conv => whnf
  refine ifB_i (fun h2 => ?_) (fun h2 => ?_) <;> (conv => whnf) <;> simp only [eH] at h2
  ·have hf : n.f = -1 := by simpa [bNot, iEq] using h2
   rw [if_pos hf] at hs
   generalize hb : bNot (bAnd (iEq n.f (-1)) (bAnd (iEq n.c 0) (bAnd (iEq n.l 0) (bAnd (iEq n.r 0) (bAnd (iEq n.v n.v) true))))) = b
   cases b <;> (conv => whnf)
   ·refine .inl ⟨_, _, _, spec_l14Leaf_spec n.v, rfl, ?_⟩
    conv => whnf
    generalize hb2 : decide (-1099511627776 ≤ n.v ∧ n.v ≤ 1099511627776) = b2
    cases b2 <;> (conv => whnf)
    ·have hlb : leafBad n = true := by simp [leafBad, hb2]
     rw [if_pos hlb] at hs
     rw [shape_bad hs]
    ·have hlb : leafBad n = false := by
      obtain ⟨f, c, l, r, v⟩ := n
      simp only [leafBad, hb2]
      simp_all [bNot, bAnd, iEq]
     rw [hlb] at hs
     refine ⟨(k + 1, nx), by dsimp only; omega, ⟨h1, by dsimp only; omega, by simpa using hs⟩, ?_⟩
     ((conv => whnf); simp only [eS, wI h1 (by omega)])
   ·have hlb : leafBad n = true := by
     obtain ⟨f, c, l, r, v⟩ := n
     simp only [leafBad]
     simp_all [bNot, bAnd, iEq]
    rw [if_pos hlb] at hs
    rw [shape_bad hs]
  ·have hf : ¬ n.f = -1 := by simpa [bNot, iEq] using h2
   rw [if_neg hf] at hs
   refine .inl ⟨_, _, _, spec_l1In_spec _ _ _, rfl, ?_⟩
   rw [show wSub .i64 ft 1 = ft - 1 from wSub64 (by omega) (by omega)]
   conv => whnf
   generalize hb1 : decide (0 ≤ n.f ∧ n.f ≤ ft - 1) = b1
   cases b1 <;> (conv => whnf)
   ·have hib : innerBad n ft k nx = true := by
     have : ¬ (0 ≤ n.f ∧ n.f ≤ ft - 1) := by simpa using hb1
     simp [innerBad, this]
    rw [if_pos hib] at hs
    rw [shape_bad hs]
   ·refine .inl ⟨_, _, _, spec_l6Value_spec _, rfl, ?_⟩
    conv => whnf
    generalize hb2 : decide (-2147483647 ≤ n.c ∧ n.c ≤ 2147483647) = b2
    cases b2 <;> (conv => whnf)
    ·have hib : innerBad n ft k nx = true := by
      have : ¬ (-2147483647 ≤ n.c ∧ n.c ≤ 2147483647) := by simpa using hb2
      simp [innerBad, this]
     rw [if_pos hib] at hs
     rw [shape_bad hs]
    ·generalize hb3 : iEq n.v 0 = b3
     cases b3 <;> (conv => whnf)
     ·have hib : innerBad n ft k nx = true := by
       have : ¬ n.v = 0 := by simpa [iEq] using hb3
       simp [innerBad, this]
      rw [if_pos hib] at hs
      rw [shape_bad hs]
     generalize hb4 : iEq n.l (nx : Int) = b4
     cases b4 <;> (conv => whnf)
     ·have hib : innerBad n ft k nx = true := by
       have : ¬ n.l = nx := by simpa [iEq] using hb4
       simp [innerBad, this]
      rw [if_pos hib] at hs
      rw [shape_bad hs]
     rw [show wAdd .i64 (nx : Int) 1 = nx + 1 from wAdd64 (by omega) (by omega)]
     generalize hb5 : iEq n.r ((nx : Int) + 1) = b5
     cases b5 <;> (conv => whnf)
     ·have hib : innerBad n ft k nx = true := by
       have : ¬ n.r = nx + 1 := by simpa [iEq] using hb5
       simp [innerBad, this]
      rw [if_pos hib] at hs
      rw [shape_bad hs]
     generalize hb6 : iLe n.l ((k, nx).fst : Int) = b6
     dsimp only at hb6
     cases b6 <;> (conv => whnf)
     rotate_left
     ·have hib : innerBad n ft k nx = true := by
       have : n.l ≤ k := by simpa [iLe] using hb6
       simp [innerBad, this]
      rw [if_pos hib] at hs
      rw [shape_bad hs]
     have hib : innerBad n ft k nx = false := by
      have q3 : n.v = 0 := by simpa [iEq] using hb3
      have q4 : n.l = nx := by simpa [iEq] using hb4
      have q5 : n.r = nx + 1 := by simpa [iEq] using hb5
      have q6 : ¬ n.l ≤ k := by simpa [iLe] using hb6
      have q1 : 0 ≤ n.f ∧ n.f ≤ ft - 1 := by simpa using hb1
      have q2 : -2147483647 ≤ n.c ∧ n.c ≤ 2147483647 := by simpa using hb2
      simp [innerBad, q1, q2, q3, q4, q5]
      omega
     rw [hib] at hs
     refine ⟨(k + 1, nx + 2), by dsimp only; omega, ⟨h1, by dsimp only; omega, by simpa using hs⟩, ?_⟩
     ((conv => whnf); simp only [eS, wI h1 (by omega), wAdd64 (show -9223372036854775808 ≤ (nx : Int) + 2 by omega) (by omega), Int.natCast_add, Int.cast_ofNat_Int])
 ·obtain rfl : k = t.length := by omega
  simp only [List.drop_length, shapeL] at hs
  ((conv => whnf); simp only [eS])
  simp only [shapeOk, ← hs, iEq, Option.some.injEq]
end Go.H.S
namespace Go.H.S
open Go Go.Proofs Go.H
theorem shape_leaf {ft : Int} : ∀ {l : List Nd} {i next m : Int}, shapeL ft l i next = some m → ∀ {j : Nat} {n : Nd}, l[j]? = some n → n.f = -1 → leafBad n = false
 | [], i, next, m, h, j, n, hj, hf => by simp at hj
 | x :: r, i, next, m, h, j, n, hj, hf => by
  simp only [shapeL] at h
  cases j with
  | zero =>
   simp at hj
   subst hj
   rw [if_pos hf] at h
   cases hb : leafBad x with
   | false => rfl
   | true => simp [hb] at h
  | succ j =>
   rw [List.getElem?_cons_succ] at hj
   split at h
   ·split at h
    ·cases h
    ·exact shape_leaf h hj hf
   ·split at h
    ·cases h
    ·exact shape_leaf h hj hf
theorem shape_inner {ft : Int} : ∀ {l : List Nd} {i next m : Int}, shapeL ft l i next = some m → ∀ {j : Nat} {n : Nd}, l[j]? = some n → n.f ≠ -1 → ∃ nx, next ≤ nx ∧ nx + 2 ≤ m ∧ innerBad n ft (i + j) nx = false
 | [], i, next, m, h, j, n, hj, hf => by simp at hj
 | x :: r, i, next, m, h, j, n, hj, hf => by
  have mono : ∀ {l : List Nd} {i a b : Int}, shapeL ft l i a = some b → a ≤ b := by
   intro l
   induction l with
   | nil => intro i a b h; simp [shapeL] at h; omega
   | cons y s ih =>
    intro i a b h
    simp only [shapeL] at h
    split at h
    ·split at h
     ·cases h
     ·exact ih h
    ·split at h
     ·cases h
     ·have := ih h; omega
  simp only [shapeL] at h
  cases j with
  | zero =>
   simp at hj
   subst hj
   rw [if_neg hf] at h
   cases hb : innerBad x ft i next with
   | false =>
    rw [hb] at h
    simp at h
    exact ⟨next, Int.le_refl _, mono h, by simpa using hb⟩
   | true => simp [hb] at h
  | succ j =>
   rw [List.getElem?_cons_succ] at hj
   split at h
   ·split at h
    ·cases h
    ·obtain ⟨nx, h1, h2, h3⟩ := shape_inner h hj hf
     exact ⟨nx, h1, h2, by rw [show i + ((j + 1 : Nat) : Int) = i + 1 + j by omega]; exact h3⟩
   ·split at h
    ·cases h
    ·obtain ⟨nx, h1, h2, h3⟩ := shape_inner h hj hf
     exact ⟨nx, by omega, h2, by rw [show i + ((j + 1 : Nat) : Int) = i + 1 + j by omega]; exact h3⟩
theorem shape_kids {t : List Nd} {ft : Int} (h : shapeOk t ft = true) {j : Nat} {n : Nd} (hj : t[j]? = some n) (hf : n.f ≠ -1) :
  0 ≤ n.f ∧ n.f < ft ∧ n.v = 0 ∧ (j : Int) < n.l ∧ n.r = n.l + 1 ∧ n.r < t.length ∧ -2147483647 ≤ n.c ∧ n.c ≤ 2147483647 := by
 have hs : shapeL ft t 0 1 = some (t.length : Int) := by simpa [shapeOk] using h
 obtain ⟨nx, h1, h2, h3⟩ := shape_inner hs hj hf
 simp [innerBad] at h3
 omega
theorem shape_value {t : List Nd} {ft : Int} (h : shapeOk t ft = true) {j : Nat} {n : Nd} (hj : t[j]? = some n) (hf : n.f = -1) :
  -1099511627776 ≤ n.v ∧ n.v ≤ 1099511627776 := by
 have hs : shapeL ft t 0 1 = some (t.length : Int) := by simpa [shapeOk] using h
 have h3 := shape_leaf hs hj hf
 simp [leafBad] at h3
 omega
theorem shape_order {ft : Int} : ∀ {l : List Nd} {i next m : Int}, shapeL ft l i next = some m → ∀ {j j' : Nat} {n n' : Nd}, l[j]? = some n → l[j']? = some n' → n.f ≠ -1 → n'.f ≠ -1 → j < j' → n.l + 2 ≤ n'.l
 | [], i, next, m, h, j, j', n, n', hj, hj', hf, hf', hlt => by simp at hj
 | x :: r, i, next, m, h, j, j', n, n', hj, hj', hf, hf', hlt => by
  obtain ⟨k, rfl⟩ : ∃ k, j' = k + 1 := ⟨j' - 1, by omega⟩
  rw [List.getElem?_cons_succ] at hj'
  simp only [shapeL] at h
  cases j with
  | zero =>
   simp at hj
   subst hj
   rw [if_neg hf] at h
   cases hb : innerBad x ft i next with
   | true => simp [hb] at h
   | false =>
    rw [hb] at h
    simp at h
    obtain ⟨nx, h1, h2, h3⟩ := shape_inner h hj' hf'
    simp [innerBad] at h3 hb
    omega
  | succ j =>
   rw [List.getElem?_cons_succ] at hj
   split at h
   ·split at h
    ·cases h
    ·exact shape_order h hj hj' hf hf' (by omega)
   ·split at h
    ·cases h
    ·exact shape_order h hj hj' hf hf' (by omega)
theorem shape_once {t : List Nd} {ft : Int} (h : shapeOk t ft = true) {j j' : Nat} {n n' : Nd} (hj : t[j]? = some n) (hj' : t[j']? = some n') (hf : n.f ≠ -1) (hf' : n'.f ≠ -1) {x : Int}
  (hx : n.l = x ∨ n.r = x) (hx' : n'.l = x ∨ n'.r = x) : j = j' := by
 have hs : shapeL ft t 0 1 = some (t.length : Int) := by simpa [shapeOk] using h
 have k1 := shape_kids h hj hf
 have k2 := shape_kids h hj' hf'
 rcases Nat.lt_trichotomy j j' with q | q | q
 ·have := shape_order hs hj hj' hf hf' q
  omega
 ·exact q
 ·have := shape_order hs hj' hj hf' hf q
  omega
theorem idxL_at {α : Type} (p : α → Bool) : ∀ (l : List α) (k : Nat), 0 ≤ idxL p l k → ∃ (j : Nat) (x : α), idxL p l k = k + j ∧ l[j]? = some x ∧ p x = true
 | [], k, h => by simp [idxL] at h
 | x :: r, k, h => by
  simp only [idxL] at h ⊢
  split
  ·exact ⟨0, x, by simp, rfl, by assumption⟩
  ·rename_i hp
   rw [if_neg hp] at h
   obtain ⟨j, y, h1, h2, h3⟩ := idxL_at p r (k + 1) h
   exact ⟨j + 1, y, by rw [h1]; omega, by rw [List.getElem?_cons_succ]; exact h2, h3⟩
theorem idxL_ge {α : Type} (p : α → Bool) : ∀ (l : List α) (k : Nat) {j : Nat} {x : α}, l[j]? = some x → p x = true → 0 ≤ idxL p l k
 | [], k, j, x, h, hp => by simp at h
 | y :: r, k, j, x, h, hp => by
  simp only [idxL]
  split
  ·omega
  ·cases j with
   | zero => simp at h; subst h; contradiction
   | succ j => rw [List.getElem?_cons_succ] at h; exact idxL_ge p r (k + 1) h hp
theorem up_at {t : List Nd} {ft : Int} (h : shapeOk t ft = true) {x : Int} (hx : 0 ≤ up t x) : ∃ (j : Nat) (n : Nd), up t x = j ∧ t[j]? = some n ∧ n.f ≠ -1 ∧ (n.l = x ∨ n.r = x) ∧ up t x < x := by
 obtain ⟨j, n, h1, h2, h3⟩ := idxL_at _ _ _ hx
 have h3' : n.f ≠ -1 ∧ (n.l = x ∨ n.r = x) := by simpa [pUp] using h3
 have hk := shape_kids h h2 h3'.1
 have hu : up t x = j := by unfold up; rw [h1]; simp
 exact ⟨j, n, hu, h2, h3'.1, h3'.2, by omega⟩
theorem up_kid {t : List Nd} {ft : Int} (h : shapeOk t ft = true) {j : Nat} {n : Nd} (hj : t[j]? = some n) (hf : n.f ≠ -1) {x : Int} (hx : n.l = x ∨ n.r = x) : up t x = j := by
 have h0 : 0 ≤ up t x := idxL_ge _ _ _ hj (by simp only [pUp, Bool.and_eq_true, Bool.or_eq_true, decide_eq_true_eq]; exact ⟨hf, hx⟩)
 obtain ⟨j', n', h1, h2, h3, h4, _⟩ := up_at h h0
 rw [h1, shape_once h h2 hj h3 hf h4 hx]
inductive Anc (t : List Nd) : Int → Int → Prop
 | refl (x : Int) : Anc t x x
 | up {z x : Int} : 0 ≤ up t x → Anc t z (up t x) → Anc t z x
theorem steps_anc {t : List Nd} {ft : Int} (h : shapeOk t ft = true) : ∀ (n : Nat) (x : Int), x < n → ∃ l, steps t (n + 1) x = some l ∧ ∀ z, z ∈ l ↔ Anc t z x := by
 intro n
 induction n with
 | zero =>
  intro x hx
  have hneg : up t x < 0 := by
   rcases Int.lt_or_le (up t x) 0 with q | q
   ·exact q
   ·obtain ⟨_, _, _, _, _, _, q2⟩ := up_at h q
    omega
  refine ⟨[x], by simp [steps, hneg], fun z => ?_⟩
  constructor
  ·intro hz; simp at hz; subst hz; exact .refl _
  ·intro hz
   cases hz with
   | refl => simp
   | up q _ => omega
 | succ n ih =>
  intro x hx
  rcases Int.lt_or_le (up t x) 0 with q | q
  ·refine ⟨[x], by simp [steps, q], fun z => ?_⟩
   constructor
   ·intro hz; simp at hz; subst hz; exact .refl _
   ·intro hz
    cases hz with
    | refl => simp
    | up q' _ => omega
  ·obtain ⟨_, _, _, _, _, _, q2⟩ := up_at h q
   obtain ⟨l, h1, h2⟩ := ih (up t x) (by omega)
   refine ⟨x :: l, ?_, fun z => ?_⟩
   ·rw [steps, if_neg (by omega), h1]; rfl
   ·rw [List.mem_cons, h2]
    constructor
    ·rintro (rfl | hz)
     ·exact .refl _
     ·exact .up q hz
    ·intro hz
     cases hz with
     | refl => exact .inl rfl
     | up _ hz => exact .inr hz
theorem Anc.trans {t : List Nd} {a b c : Int} (h1 : Anc t a b) (h2 : Anc t b c) : Anc t a c := by
 induction h2 with
 | refl => exact h1
 | up q _ ih => exact .up q ih
theorem anc_below {t : List Nd} {x y : Int} (h : Anc t x y) : x = y ∨ ∃ c, 0 ≤ up t c ∧ up t c = x ∧ Anc t c y := by
 induction h with
 | refl => exact .inl rfl
 | @up y q h ih =>
  rcases ih with e | ⟨c, h1, h2, h3⟩
  ·exact .inr ⟨y, q, e.symm, .refl _⟩
  ·exact .inr ⟨c, h1, h2, .up q h3⟩
theorem anc_kid {t : List Nd} {ft : Int} (h : shapeOk t ft = true) {j : Nat} {n : Nd} (hj : t[j]? = some n) (hf : n.f ≠ -1) {y : Int} (hy : y ≠ j) : Anc t j y ↔ Anc t n.l y ∨ Anc t n.r y := by
 constructor
 ·intro ha
  rcases anc_below ha with e | ⟨c, h1, h2, h3⟩
  ·exact absurd e.symm hy
  ·obtain ⟨j', n', q1, q2, q3, q4, _⟩ := up_at h h1
   obtain rfl : j' = j := by omega
   rw [hj] at q2
   cases q2
   rcases q4 with rfl | rfl
   ·exact .inl h3
   ·exact .inr h3
 ·have hl : Anc t j n.l := .up (by rw [up_kid h hj hf (.inl rfl)]; omega) (by rw [up_kid h hj hf (.inl rfl)]; exact .refl _)
  have hr : Anc t j n.r := .up (by rw [up_kid h hj hf (.inr rfl)]; omega) (by rw [up_kid h hj hf (.inr rfl)]; exact .refl _)
  rintro (ha | ha)
  ·exact hl.trans ha
  ·exact hr.trans ha
theorem way_anc {t : List Nd} {ft : Int} (h : shapeOk t ft = true) (hl : t.length ≤ 31) {x : Int} (hx : 0 ≤ x ∧ x < t.length) (z : Int) : z ∈ wayL t x ↔ Anc t z x := by
 obtain ⟨l, h1, h2⟩ := steps_anc h 31 x (by omega)
 unfold wayL
 rw [if_pos (by omega), h1]
 simp [h2]
end Go.H.S
namespace Go.H.S
open Go Go.Proofs Go.H
attribute [local irreducible] Tri FnSpec FnSpecM FnSpecX
def badP (t : List Nd) (n : Nd) (b a : Int) : Bool :=
 match t[b.toNat]? with
 | some x => iEq x.f n.f && (iEq x.r a && iLe n.c x.c || iEq x.l a && iLe x.c n.c)
 | none => false
def chainBad (t : List Nd) (n : Nd) : List Int → Bool
 | a :: b :: r => badP t n b a || chainBad t n (b :: r)
 | _ => false
def nodeBad (t : List Nd) (k : Int) (n : Nd) : Bool :=
 match steps t 32 k with
 | some l => bAnd (bNot (iEq n.f (-1))) (chainBad t n l)
 | none => false
def waysBad (t : List Nd) : List Nd → Nat → Bool
 | [], _ => false
 | n :: r, k => nodeBad t k n || waysBad t r (k + 1)
set_option maxHeartbeats 1000000 in
theorem spec_l17Ways_spec (t : List Nd) (ft : Int) (h : shapeOk t ft = true) (hl : t.length ≤ 31) : FnSpec PR f_spec_l17Ways [aT t] (ab (!waysBad t t 0)) [] 0 := by
 refine FnSpec.intro hT (pf Tryz.func128) rfl (by kernel_rfl) Tryz.ntmps128 rfl ?_
 conv => whnf
 refine tri_loop hT [1, 3] (α := Nat) (fun x => { t := [(1, .c (.ptr 0 0)), (3, ai x)], h := [(0, .box t_impl_Tree (cTr t))], n := 1, N := 79 })
  (fun x => x ≤ t.length ∧ waysBad t (t.drop x) x = waysBad t t 0) (fun x => t.length - x) 0 (by ((conv => whnf); simp only [eS])) ⟨Nat.zero_le _, by simp⟩ ?_
 intro k ⟨hk, hw⟩
 conv => whnf
 refine ifB_i (fun h1 => ?_) (fun h1 => ?_) <;> (conv => whnf) <;> simp at h1
 ·obtain ⟨n, hn⟩ := get_lt h1
  rw [drop_at hn, waysBad] at hw
  obtain ⟨l0, hl0, _⟩ := steps_anc h 31 k (by omega)
  have hnb : nodeBad t k n = bAnd (bNot (iEq n.f (-1))) (chainBad t n l0) := by unfold nodeBad; rw [hl0]
  rw [hnb] at hw
  refine idx_at (by simp) hn ?_
  conv => whnf
  refine .inl ⟨_, _, _, spec_l17Inner_spec n, rfl, ?_⟩
  conv => whnf
  generalize hb : iEq n.f (-1) = b at hw
  cases b <;> (conv => whnf)
  ·refine .inl ⟨_, _, _, spec_l17Up_spec t k (by omega), rfl, ?_⟩
   conv => whnf
   refine tri_loop hT [1, 3, 4, 5] (α := Int × Nat × List Int) (fun x => { t := [(1, .c (.ptr 0 0)), (3, ai k), (4, ai x.1), (5, ai (up t x.1))], h := [(0, .box t_impl_Tree (cTr t))], n := 1, N := 79 })
    (fun x => 0 ≤ x.1 ∧ x.1 < t.length ∧ steps t (x.2.1 + 1) x.1 = some x.2.2 ∧ chainBad t n x.2.2 = chainBad t n l0) (fun x => x.2.1) (k, 31, l0) (by (conv => whnf)) ⟨by simp, by simpa using h1, hl0, rfl⟩ ?_
   intro ⟨fr, j, l⟩ ⟨g0, g1, g2, g3⟩
   dsimp only at g0 g1 g2 g3
   conv => whnf
   refine ifB_i (fun h2 => ?_) (fun h2 => ?_) <;> (conv => whnf) <;> simp only [eH] at h2
   ·generalize hup : up t fr = at' at *
    obtain ⟨m, rfl⟩ : ∃ m : Nat, at' = m := ⟨at'.toNat, by omega⟩
    have hmlt := up_lt t fr
    rw [hup] at hmlt
    obtain ⟨x, hx⟩ := get_lt (show m < t.length by omega)
    rw [steps, hup, if_neg (by omega)] at g2
    simp only [Option.map_eq_some_iff] at g2
    obtain ⟨l', g2, rfl⟩ := g2
    cases j with
    | zero => simp [steps] at g2
    | succ j =>
    have hl2 : ∃ l2, l' = (m : Int) :: l2 := by
     rw [steps] at g2
     simp only [Option.map_eq_some_iff] at g2
     obtain ⟨l2, _, rfl⟩ := g2
     exact ⟨l2, rfl⟩
    obtain ⟨l2, rfl⟩ := hl2
    have hcb : chainBad t n (fr :: (m : Int) :: l2) = (badP t n m fr || chainBad t n ((m : Int) :: l2)) := rfl
    rw [hcb] at g3
    refine idx_at (by simp) hx ?_
    conv => whnf
    refine tri_conf hT hmix (by kernel_rfl) ?_
    conv => whnf
    refine idx_at (by simp) hn ?_
    conv => whnf
    have hin : ∀ v0, x.f = n.f ∧ (x.r = fr ∧ n.c ≤ x.c ∨ x.l = fr ∧ x.c ≤ n.c) ∧ v0 = true ∨ ¬ (x.f = n.f ∧ (x.r = fr ∧ n.c ≤ x.c ∨ x.l = fr ∧ x.c ≤ n.c)) ∧ v0 = false → badP t n m fr = v0 := by
     intro v0 hv
     have hb : badP t n m fr = (iEq x.f n.f && (iEq x.r fr && iLe n.c x.c || iEq x.l fr && iLe x.c n.c)) := by simp [badP, hx]
     rw [hb, Bool.eq_iff_iff]
     simp only [Bool.and_eq_true, Bool.or_eq_true, iEq, iLe, decide_eq_true_eq]
     rcases hv with ⟨h1, h2, rfl⟩ | ⟨h1, rfl⟩
     ·simp [h1, h2]
     ·simp only [Bool.false_eq_true, iff_false]; exact h1
    generalize e1 : iEq x.f n.f = c1
    generalize e2 : iEq x.r fr = c2
    generalize e3 : iEq x.l fr = c3
    generalize e4 : iLe n.c x.c = c4
    generalize e5 : iLe x.c n.c = c5
    cases c1
    ·repeat' (first | (refine And.intro (fun q => ?_) (fun q => ?_) <;> cases q <;> (conv => whnf)) | (refine idx_at (by simp) hn ?_; (conv => whnf)) | fail)
     refine .inl ⟨_, _, _, spec_l17Up_spec t m (by omega), rfl, ?_⟩
     conv => whnf
     have hbp := hin false (.inr ⟨by simp_all [iEq, iLe], rfl⟩)
     rw [hbp] at g3
     refine ⟨(m, j, (m : Int) :: l2), by dsimp only; omega, ⟨by dsimp only; omega, by dsimp only; omega, g2, g3⟩, ?_⟩
     conv => whnf
    ·repeat' (first | (refine And.intro (fun q => ?_) (fun q => ?_) <;> cases q <;> (conv => whnf)) | (refine idx_at (by simp) hn ?_; (conv => whnf)) | fail)
     rw [e2]
     cases c2
     ·repeat' (first | (refine And.intro (fun q => ?_) (fun q => ?_) <;> cases q <;> (conv => whnf)) | (refine idx_at (by simp) hn ?_; (conv => whnf)) | fail)
      rw [e3]
      cases c3
      ·repeat' (first | (refine And.intro (fun q => ?_) (fun q => ?_) <;> cases q <;> (conv => whnf)) | (refine idx_at (by simp) hn ?_; (conv => whnf)) | fail)
       refine .inl ⟨_, _, _, spec_l17Up_spec t m (by omega), rfl, ?_⟩
       conv => whnf
       have hbp := hin false (.inr ⟨by simp_all [iEq, iLe], rfl⟩)
       rw [hbp] at g3
       refine ⟨(m, j, (m : Int) :: l2), by dsimp only; omega, ⟨by dsimp only; omega, by dsimp only; omega, g2, g3⟩, ?_⟩
       conv => whnf
      ·repeat' (first | (refine And.intro (fun q => ?_) (fun q => ?_) <;> cases q <;> (conv => whnf)) | (refine idx_at (by simp) hn ?_; (conv => whnf)) | fail)
       rw [e5]
       cases c5
       ·repeat' (first | (refine And.intro (fun q => ?_) (fun q => ?_) <;> cases q <;> (conv => whnf)) | (refine idx_at (by simp) hn ?_; (conv => whnf)) | fail)
        refine .inl ⟨_, _, _, spec_l17Up_spec t m (by omega), rfl, ?_⟩
        conv => whnf
        have hbp := hin false (.inr ⟨by simp_all [iEq, iLe], rfl⟩)
        rw [hbp] at g3
        refine ⟨(m, j, (m : Int) :: l2), by dsimp only; omega, ⟨by dsimp only; omega, by dsimp only; omega, g2, g3⟩, ?_⟩
        conv => whnf
       ·repeat' (first | (refine And.intro (fun q => ?_) (fun q => ?_) <;> cases q <;> (conv => whnf)) | (refine idx_at (by simp) hn ?_; (conv => whnf)) | fail)
        have hbp := hin true (.inl ⟨by simp_all [iEq, iLe], by simp_all [iEq, iLe], rfl⟩)
        rw [hbp] at g3
        rw [← g3] at hw
        (try (conv => whnf))
        rw [← hw]
        rfl
     ·repeat' (first | (refine And.intro (fun q => ?_) (fun q => ?_) <;> cases q <;> (conv => whnf)) | (refine idx_at (by simp) hn ?_; (conv => whnf)) | fail)
      rw [e4]
      cases c4
      ·repeat' (first | (refine And.intro (fun q => ?_) (fun q => ?_) <;> cases q <;> (conv => whnf)) | (refine idx_at (by simp) hn ?_; (conv => whnf)) | fail)
       rw [e3]
       cases c3
       ·repeat' (first | (refine And.intro (fun q => ?_) (fun q => ?_) <;> cases q <;> (conv => whnf)) | (refine idx_at (by simp) hn ?_; (conv => whnf)) | fail)
        refine .inl ⟨_, _, _, spec_l17Up_spec t m (by omega), rfl, ?_⟩
        conv => whnf
        have hbp := hin false (.inr ⟨by simp_all [iEq, iLe], rfl⟩)
        rw [hbp] at g3
        refine ⟨(m, j, (m : Int) :: l2), by dsimp only; omega, ⟨by dsimp only; omega, by dsimp only; omega, g2, g3⟩, ?_⟩
        conv => whnf
       ·repeat' (first | (refine And.intro (fun q => ?_) (fun q => ?_) <;> cases q <;> (conv => whnf)) | (refine idx_at (by simp) hn ?_; (conv => whnf)) | fail)
        rw [e5]
        cases c5
        ·repeat' (first | (refine And.intro (fun q => ?_) (fun q => ?_) <;> cases q <;> (conv => whnf)) | (refine idx_at (by simp) hn ?_; (conv => whnf)) | fail)
         refine .inl ⟨_, _, _, spec_l17Up_spec t m (by omega), rfl, ?_⟩
         conv => whnf
         have hbp := hin false (.inr ⟨by simp_all [iEq, iLe], rfl⟩)
         rw [hbp] at g3
         refine ⟨(m, j, (m : Int) :: l2), by dsimp only; omega, ⟨by dsimp only; omega, by dsimp only; omega, g2, g3⟩, ?_⟩
         conv => whnf
        ·repeat' (first | (refine And.intro (fun q => ?_) (fun q => ?_) <;> cases q <;> (conv => whnf)) | (refine idx_at (by simp) hn ?_; (conv => whnf)) | fail)
         have hbp := hin true (.inl ⟨by simp_all [iEq, iLe], by simp_all [iEq, iLe], rfl⟩)
         rw [hbp] at g3
         rw [← g3] at hw
         (try (conv => whnf))
         rw [← hw]
         rfl
      ·repeat' (first | (refine And.intro (fun q => ?_) (fun q => ?_) <;> cases q <;> (conv => whnf)) | (refine idx_at (by simp) hn ?_; (conv => whnf)) | fail)
       have hbp := hin true (.inl ⟨by simp_all [iEq, iLe], by simp_all [iEq, iLe], rfl⟩)
       rw [hbp] at g3
       rw [← g3] at hw
       (try (conv => whnf))
       rw [← hw]
       rfl
   ·have hl : l = [fr] := by
     rw [steps, if_pos h2] at g2
     simpa using g2.symm
    rw [hl] at g3
    rw [← g3] at hw
    refine ⟨k + 1, by omega, ⟨h1, hw⟩, ?_⟩
    ((conv => whnf); simp only [eS, wI h1 (by omega)])
  ·refine ⟨k + 1, by omega, ⟨h1, hw⟩, ?_⟩
   ((conv => whnf); simp only [eS, wI h1 (by omega)])
 ·obtain rfl : k = t.length := by omega
  simp only [List.drop_length, waysBad] at hw
  conv => whnf
  rw [← hw]
  rfl
def treeOk (t : List Nd) (ft : Int) : Bool :=
 decide (1 ≤ (t.length : Int) ∧ (t.length : Int) ≤ 31) && (decide (0 ≤ ft ∧ ft ≤ 4) && (shapeOk t ft && (decide (depthK t t.length ≤ 4) && !waysBad t t 0)))
theorem spec_TreeOk_spec (t : List Nd) (ft : Int) (hl : t.length ≤ 1048576) : FnSpec PR f_spec_TreeOk [aT t, ai ft] (ab (treeOk t ft)) [] 0 := by
 refine FnSpec.intro hT (pf Tryz.func37) rfl (by kernel_rfl) Tryz.ntmps37 rfl ?_
 conv => whnf
 refine .inl ⟨_, _, _, spec_l1In_spec _ _ _, rfl, ?_⟩
 conv => whnf
 refine ifB_i (fun h1 => ?_) (fun h1 => ?_) <;> (conv => whnf) <;> simp only [eH] at h1
 rotate_left
 ·simp [treeOk, h1]
 refine .inl ⟨_, _, _, spec_l1In_spec _ _ _, rfl, ?_⟩
 conv => whnf
 refine ifB_i (fun h2 => ?_) (fun h2 => ?_) <;> (conv => whnf)
 rotate_left
 ·simp [treeOk, h2]
 have h1' := of_decide_eq_true h1
 have h2' := of_decide_eq_true h2
 refine .inl ⟨_, _, _, spec_l17Shape_spec t ft h2' (by omega), rfl, ?_⟩
 conv => whnf
 refine ifB_i (fun h3 => ?_) (fun h3 => ?_) <;> (conv => whnf)
 rotate_left
 ·simp [treeOk, h3]
 refine .inl ⟨_, _, _, spec_DepthOf_spec t (by omega), rfl, ?_⟩
 conv => whnf
 refine ifB_i (fun h4 => ?_) (fun h4 => ?_) <;> (conv => whnf) <;> simp only [eH] at h4
 rotate_left
 ·have : ¬ depthK t t.length ≤ 4 := by omega
  simp [treeOk, this]
 refine .inl ⟨_, _, _, spec_l17Ways_spec t ft h3 (by omega), rfl, ?_⟩
 conv => whnf
 simp [treeOk, h1, h2, h3, h4]
end Go.H.S
namespace Go.H.S
open Go Go.Proofs Go.H
attribute [local irreducible] Tri FnSpec FnSpecM FnSpecX
theorem impl_isDecimal_spec (x : Int) : FnSpec PR f_impl_isDecimal [ai x] (ab (decide (-2147483647 ≤ x ∧ x ≤ 2147483647))) [] 0 := by
 refine FnSpec.intro hT (pf Tryz.func235) rfl (by kernel_rfl) Tryz.ntmps235 rfl ?_
 conv => whnf
 refine .inl ⟨_, _, _, impl_within_spec _ _ _, rfl, ?_⟩
 conv => whnf
theorem impl_isLeafValue_spec (x : Int) : FnSpec PR f_impl_isLeafValue [ai x] (ab (decide (-1099511627776 ≤ x ∧ x ≤ 1099511627776))) [] 0 := by
 refine FnSpec.intro hT (pf Tryz.func234) rfl (by kernel_rfl) Tryz.ntmps234 rfl ?_
 conv => whnf
 refine .inl ⟨_, _, _, impl_within_spec _ _ _, rfl, ?_⟩
 conv => whnf
theorem impl_LevelOf_spec (t : List Nd) (node : Int) (hl : t.length ≤ 9223372036854775807) : FnSpec PR f_impl_LevelOf [aT t, ai node] (ai ((wayL t node).length - 1)) [] 0 := by
 have hw := wayL_len t node
 refine FnSpec.intro hT (pf Tryz.func96) rfl (by kernel_rfl) Tryz.ntmps96 rfl ?_
 conv => whnf
 refine .inl ⟨_, _, _, impl_wayTo_spec t node hl, rfl, ?_⟩
 ((conv => whnf); simp only [eS, lenRE_none])
 exact wSub64 (by omega) (by omega)
theorem impl_shapeOk_spec (t : List Nd) (ft : Int) (hft : 0 ≤ ft ∧ ft ≤ 4) (hl : t.length ≤ 1048576) : FnSpec PR f_impl_shapeOk [aT t, ai ft] (ab (shapeOk t ft)) [] 0 := by
 refine FnSpec.intro hT (pf Tryz.func123) rfl (by kernel_rfl) Tryz.ntmps123 rfl ?_
 conv => whnf
 refine tri_loop hT [1, 2, 5, 9, 10, 11] (α := Nat × Nat) (fun x => { t := [(1, ai ft), (2, .c (.ptr 0 0)), (5, ai x.2), (9, aNs t), (10, ai t.length), (11, ai x.1)], h := [(0, .box t_impl_Tree (cTr t))], n := 1, N := 72 })
  (fun x => x.1 ≤ t.length ∧ x.2 ≤ 2 * x.1 + 1 ∧ shapeL ft (t.drop x.1) x.1 x.2 = shapeL ft t 0 1) (fun x => t.length - x.1) (0, 1) (by ((conv => whnf); simp only [eS]); rfl) ⟨Nat.zero_le _, by simp, by simp⟩ ?_
 intro ⟨k, nx⟩ ⟨hk, hx, hs⟩
 dsimp only at hk hx hs
 conv => whnf
 refine ifB_i (fun h1 => ?_) (fun h1 => ?_) <;> (conv => whnf) <;> simp at h1
 ·obtain ⟨n, hn⟩ := get_lt h1
  rw [drop_at hn, shapeL] at hs
  refine idx_at (by simp) hn ?_
  conv => whnf
  refine .inl ⟨_, _, _, impl_isLeaf_spec n, rfl, ?_⟩
  conv => whnf
  refine ifB_i (fun h2 => ?_) (fun h2 => ?_) <;> (conv => whnf) <;> simp only [eH] at h2
  ·rw [if_pos h2] at hs
   generalize hb : bNot (bAnd (iEq n.f (-1)) (bAnd (iEq n.c 0) (bAnd (iEq n.l 0) (bAnd (iEq n.r 0) (bAnd (iEq n.v n.v) true))))) = b
   cases b <;> (conv => whnf)
   ·refine .inl ⟨_, _, _, impl_isLeafValue_spec n.v, rfl, ?_⟩
    conv => whnf
    generalize hb2 : decide (-1099511627776 ≤ n.v ∧ n.v ≤ 1099511627776) = b2
    cases b2 <;> (conv => whnf)
    ·have hlb : leafBad n = true := by simp [leafBad, hb2]
     rw [if_pos hlb] at hs
     rw [shape_bad hs]
    ·have hlb : leafBad n = false := by
      obtain ⟨f, c, l, r, v⟩ := n
      simp only [leafBad, hb2]
      simp_all [bNot, bAnd, iEq]
     rw [hlb] at hs
     refine ⟨(k + 1, nx), by dsimp only; omega, ⟨h1, by dsimp only; omega, by simpa using hs⟩, ?_⟩
     ((conv => whnf); simp only [eS, wI h1 (by omega)])
   ·have hlb : leafBad n = true := by
     obtain ⟨f, c, l, r, v⟩ := n
     simp only [leafBad]
     simp_all [bNot, bAnd, iEq]
    rw [if_pos hlb] at hs
    rw [shape_bad hs]
  ·rw [if_neg h2] at hs
   refine .inl ⟨_, _, _, impl_within_spec _ _ _, rfl, ?_⟩
   rw [show wSub .i64 ft 1 = ft - 1 from wSub64 (by omega) (by omega)]
   conv => whnf
   generalize hb1 : decide (0 ≤ n.f ∧ n.f ≤ ft - 1) = b1
   cases b1 <;> (conv => whnf)
   ·have hib : innerBad n ft k nx = true := by
     have : ¬ (0 ≤ n.f ∧ n.f ≤ ft - 1) := by simpa using hb1
     simp [innerBad, this]
    rw [if_pos hib] at hs
    rw [shape_bad hs]
   ·refine .inl ⟨_, _, _, impl_isDecimal_spec _, rfl, ?_⟩
    conv => whnf
    generalize hb2 : decide (-2147483647 ≤ n.c ∧ n.c ≤ 2147483647) = b2
    cases b2 <;> (conv => whnf)
    ·have hib : innerBad n ft k nx = true := by
      have : ¬ (-2147483647 ≤ n.c ∧ n.c ≤ 2147483647) := by simpa using hb2
      simp [innerBad, this]
     rw [if_pos hib] at hs
     rw [shape_bad hs]
    ·generalize hb3 : iEq n.v 0 = b3
     cases b3 <;> (conv => whnf)
     ·have hib : innerBad n ft k nx = true := by
       have : ¬ n.v = 0 := by simpa [iEq] using hb3
       simp [innerBad, this]
      rw [if_pos hib] at hs
      rw [shape_bad hs]
     generalize hb4 : iEq n.l (nx : Int) = b4
     cases b4 <;> (conv => whnf)
     ·have hib : innerBad n ft k nx = true := by
       have : ¬ n.l = nx := by simpa [iEq] using hb4
       simp [innerBad, this]
      rw [if_pos hib] at hs
      rw [shape_bad hs]
     rw [show wAdd .i64 (nx : Int) 1 = nx + 1 from wAdd64 (by omega) (by omega)]
     generalize hb5 : iEq n.r ((nx : Int) + 1) = b5
     cases b5 <;> (conv => whnf)
     ·have hib : innerBad n ft k nx = true := by
       have : ¬ n.r = nx + 1 := by simpa [iEq] using hb5
       simp [innerBad, this]
      rw [if_pos hib] at hs
      rw [shape_bad hs]
     have q4 : n.l = nx := by simpa [iEq] using hb4
     generalize hb6 : iLe (nx : Int) ((k, nx).fst : Int) = b6
     dsimp only at hb6
     cases b6 <;> (conv => whnf)
     rotate_left
     ·have hib : innerBad n ft k nx = true := by
       have : (nx : Int) ≤ k := by simpa [iLe] using hb6
       simp [innerBad, q4]
       omega
      rw [if_pos hib] at hs
      rw [shape_bad hs]
     have hib : innerBad n ft k nx = false := by
      have q3 : n.v = 0 := by simpa [iEq] using hb3
      have q5 : n.r = nx + 1 := by simpa [iEq] using hb5
      have q6 : ¬ (nx : Int) ≤ k := by simpa [iLe] using hb6
      have q1 : 0 ≤ n.f ∧ n.f ≤ ft - 1 := by simpa using hb1
      have q2 : -2147483647 ≤ n.c ∧ n.c ≤ 2147483647 := by simpa using hb2
      simp [innerBad, q1, q2, q3, q4, q5]
      omega
     rw [hib] at hs
     refine ⟨(k + 1, nx + 2), by dsimp only; omega, ⟨h1, by dsimp only; omega, by simpa using hs⟩, ?_⟩
     ((conv => whnf); simp only [eS, wI h1 (by omega), wAdd64 (show -9223372036854775808 ≤ (nx : Int) + 2 by omega) (by omega), Int.natCast_add, Int.cast_ofNat_Int])
 ·obtain rfl : k = t.length := by omega
  simp only [List.drop_length, shapeL] at hs
  ((conv => whnf); simp only [eS])
  simp only [shapeOk, ← hs, iEq, Option.some.injEq]
def wayBad (t : List Nd) (n : Nd) : List Int → Bool
 | a :: b :: r => badP t n a b || wayBad t n (b :: r)
 | _ => false
def implBad (t : List Nd) (k : Int) (n : Nd) : Bool :=
 if n.f = -1 then decide (4 < ((wayL t k).length : Int) - 1) else wayBad t n (wayL t k)
def implBads (t : List Nd) : List Nd → Nat → Bool
 | [], _ => false
 | n :: r, k => implBad t k n || implBads t r (k + 1)
def treeOkI (t : List Nd) (ft : Int) : Bool :=
 decide (1 ≤ (t.length : Int) ∧ (t.length : Int) ≤ 31) && (decide (0 ≤ ft ∧ ft ≤ 4) && (shapeOk t ft && !implBads t t 0))
set_option maxHeartbeats 1000000 in
theorem impl_TreeOk_one (t : List Nd) (ft : Int) (hl : t.length ≤ 1048576) : FnSpec PR f_impl_TreeOk [aT t, ai ft] (ab (treeOkI t ft)) [] 0 := by
 refine FnSpec.intro hT (pf Tryz.func36) rfl (by kernel_rfl) Tryz.ntmps36 rfl ?_
 conv => whnf
 refine .inl ⟨_, _, _, impl_within_spec _ _ _, rfl, ?_⟩
 conv => whnf
 refine ifB_i (fun h2 => ?_) (fun h2 => ?_) <;> (conv => whnf) <;> simp only [eH] at h2
 ·have : decide (0 ≤ ft ∧ ft ≤ 4) = false := by simpa using h2
  simp [treeOkI, this]
 refine .inl ⟨_, _, _, impl_within_spec _ _ _, rfl, ?_⟩
 conv => whnf
 refine ifB_i (fun h1 => ?_) (fun h1 => ?_) <;> (conv => whnf) <;> simp only [eH] at h1
 ·simp [treeOkI, h1]
 have h1' := of_decide_eq_true h1
 have h2' := of_decide_eq_true h2
 refine .inl ⟨_, _, _, impl_shapeOk_spec t ft h2' (by omega), rfl, ?_⟩
 conv => whnf
 refine ifB_i (fun h3 => ?_) (fun h3 => ?_) <;> (conv => whnf) <;> simp only [eH] at h3
 ·simp [treeOkI, h3]
 have hto : treeOkI t ft = !implBads t t 0 := by simp [treeOkI, h1, h2, h3]
 rw [hto]
 refine tri_loop hT [2, 28, 29, 30] (α := Nat) (fun x => { t := [(2, .c (.ptr 0 0)), (28, aNs t), (29, ai t.length), (30, ai x)], h := [(0, .box t_impl_Tree (cTr t))], n := 1, N := 99 })
  (fun x => x ≤ t.length ∧ implBads t (t.drop x) x = implBads t t 0) (fun x => t.length - x) 0 (by ((conv => whnf); simp only [eS])) ⟨Nat.zero_le _, by simp⟩ ?_
 intro k ⟨hk, hw⟩
 conv => whnf
 refine ifB_i (fun h4 => ?_) (fun h4 => ?_) <;> (conv => whnf) <;> simp at h4
 ·obtain ⟨n, hn⟩ := get_lt h4
  rw [drop_at hn, implBads] at hw
  refine idx_at (by simp) hn ?_
  conv => whnf
  refine .inl ⟨_, _, _, impl_isLeaf_spec n, rfl, ?_⟩
  conv => whnf
  refine ifB_i (fun h5 => ?_) (fun h5 => ?_) <;> (conv => whnf) <;> simp only [eH] at h5
  ·refine .inl ⟨_, _, _, impl_LevelOf_spec t k (by omega), rfl, ?_⟩
   conv => whnf
   refine ifB_i (fun h6 => ?_) (fun h6 => ?_) <;> (conv => whnf) <;> simp only [eH] at h6
   ·have : implBad t k n = true := by simp only [implBad, if_pos h5]; exact decide_eq_true h6
    rw [← hw, this]
    rfl
   ·have : implBad t k n = false := by simp only [implBad, if_pos h5]; exact decide_eq_false (by omega)
    rw [this, Bool.false_or] at hw
    refine ⟨k + 1, by omega, ⟨h4, hw⟩, ?_⟩
    ((conv => whnf); simp only [eS, wI h4 (by omega)])
  ·have hib : implBad t k n = wayBad t n (wayL t k) := by simp only [implBad, if_neg h5]
   rw [hib] at hw
   obtain ⟨l0, hl0, _⟩ := steps_anc h3 31 k (by omega)
   have hway : wayL t k = l0.reverse := by unfold wayL; rw [if_pos (by omega), hl0]
   have hlen : 1 ≤ (wayL t k).length := by
    rw [hway, steps] at *
    simp only [Option.map_eq_some_iff] at hl0
    obtain ⟨r, _, rfl⟩ := hl0
    simp
   have hlt : ∀ y ∈ wayL t k, 0 ≤ y ∧ y < t.length := fun y hy => steps_lt t 32 k l0 (by omega) hl0 y (by rw [hway] at hy; simpa using hy)
   refine .inl ⟨_, _, _, impl_wayTo_spec t k (by omega), rfl, ?_⟩
   generalize wayL t k = w at *
   conv => whnf
   have hwl : w.length ≤ 32 := by rw [hway]; have := steps_len t 32 k l0 hl0; simpa using this
   obtain ⟨m, hm⟩ : ∃ m, w.length = m + 1 := ⟨w.length - 1, by omega⟩
   have e1 : wSub .i64 (nInt (lenRE (eL cI w) none)) 1 = (m : Int) := by
    rw [wSub64] <;> simp <;> omega
   rw [e1]
   refine ⟨by simp [InS]; omega, ?_⟩
   conv => whnf
   refine tri_loop hT [2, 6, 7, 28, 29, 30, 48, 49, 50] (α := Nat) (fun x => { t := [(2, .c (.ptr 0 0)), (6, .c (.ptr 1 0)), (7, .c (.ref 2 0 none)), (28, aNs t), (29, ai t.length), (30, ai k), (48, .c (.ref 2 0 (some (true, 0, m)))), (49, ai m), (50, ai x)], h := [(0, .box t_impl_Tree (cTr t)), (1, .box t_impl_Node (cNd n)), (2, .arr t_int 1 0 .own (eL cI w))], n := 3, N := 99 })
    (fun x => x ≤ m ∧ wayBad t n (w.drop x) = wayBad t n w) (fun x => m - x) 0 (by ((conv => whnf); simp only [eS]); simp) ⟨Nat.zero_le _, by simp⟩ ?_
   intro j ⟨g1, g2⟩
   conv => whnf
   refine ifB_i (fun g3 => ?_) (fun g3 => ?_) <;> (conv => whnf) <;> simp at g3
   ·obtain ⟨a, ha⟩ := get_lt (show j < w.length by omega)
    obtain ⟨b, hb⟩ := get_lt (show j + 1 < w.length by omega)
    refine ref_at (k := j) (by simp) (by simp; omega) ?_
    conv => whnf
    refine ld_at (by simp) ha ?_
    conv => whnf
    obtain ⟨i, hi⟩ : ∃ i : Nat, a = i := ⟨a.toNat, by have := hlt a (List.mem_of_getElem? ha); omega⟩
    subst hi
    have hil := (hlt _ (List.mem_of_getElem? ha)).2
    obtain ⟨x, hx⟩ := get_lt (show i < t.length by omega)
    refine idx_at (by simp) hx ?_
    conv => whnf
    rw [drop_at ha, drop_at hb, wayBad] at g2
    have hin : ∀ v0, (iEq x.f n.f && (iEq b x.r && iLe n.c x.c || iEq b x.l && iLe x.c n.c)) = v0 → badP t n i b = v0 := by
     rintro _ rfl
     simp only [badP, Int.toNat_natCast, hx, iEq, eq_comm]
    refine ifB_i (fun g4 => ?_) (fun g4 => ?_) <;> (conv => whnf) <;> simp only [eH] at g4
    ·rw [hin false (by simp [iEq, g4]), Bool.false_or] at g2
     refine ⟨j + 1, by omega, ⟨by omega, by rw [← g2, drop_at hb]⟩, ?_⟩
     ((conv => whnf); simp only [eS, wI g3 (by omega)])
    ·have g4' : iEq x.f n.f = true := by simpa [iEq] using g4
     refine tri_conf hT hmix (by kernel_rfl) ?_
     conv => whnf
     repeat' (first | (refine And.intro (fun q => ?_) (fun q => ?_) <;> cases q <;> (conv => whnf)) | (refine ref_at (wI g3 (by omega)) (by simp; omega) ?_; (conv => whnf)) | (refine ld_at (by simp [wI g3 (show m ≤ 9223372036854775807 by omega)]) hb ?_; (conv => whnf)) | fail)
     generalize e3 : iEq b x.l = c3
     cases c3
     ·repeat' (first | (refine And.intro (fun q => ?_) (fun q => ?_) <;> cases q <;> (conv => whnf)) | (refine ref_at (wI g3 (by omega)) (by simp; omega) ?_; (conv => whnf)) | (refine ld_at (by simp [wI g3 (show m ≤ 9223372036854775807 by omega)]) hb ?_; (conv => whnf)) | fail)
      generalize e2 : iEq b x.r = c2
      cases c2
      ·repeat' (first | (refine And.intro (fun q => ?_) (fun q => ?_) <;> cases q <;> (conv => whnf)) | (refine ref_at (wI g3 (by omega)) (by simp; omega) ?_; (conv => whnf)) | (refine ld_at (by simp [wI g3 (show m ≤ 9223372036854775807 by omega)]) hb ?_; (conv => whnf)) | fail)
       rw [hin false (by first | (simp [e2, e3]; done) | (simp [e2, e5]; done) | (simp [e3, e4]; done) | (simp [e4, e5]; done)), Bool.false_or] at g2
       refine ⟨j + 1, by omega, ⟨by omega, by rw [← g2, drop_at hb]⟩, ?_⟩
       ((conv => whnf); simp only [eS, wI g3 (by omega)])
      ·repeat' (first | (refine And.intro (fun q => ?_) (fun q => ?_) <;> cases q <;> (conv => whnf)) | (refine ref_at (wI g3 (by omega)) (by simp; omega) ?_; (conv => whnf)) | (refine ld_at (by simp [wI g3 (show m ≤ 9223372036854775807 by omega)]) hb ?_; (conv => whnf)) | fail)
       generalize e4 : iLe n.c x.c = c4
       cases c4
       ·repeat' (first | (refine And.intro (fun q => ?_) (fun q => ?_) <;> cases q <;> (conv => whnf)) | (refine ref_at (wI g3 (by omega)) (by simp; omega) ?_; (conv => whnf)) | (refine ld_at (by simp [wI g3 (show m ≤ 9223372036854775807 by omega)]) hb ?_; (conv => whnf)) | fail)
        rw [hin false (by first | (simp [e2, e3]; done) | (simp [e2, e5]; done) | (simp [e3, e4]; done) | (simp [e4, e5]; done)), Bool.false_or] at g2
        refine ⟨j + 1, by omega, ⟨by omega, by rw [← g2, drop_at hb]⟩, ?_⟩
        ((conv => whnf); simp only [eS, wI g3 (by omega)])
       ·repeat' (first | (refine And.intro (fun q => ?_) (fun q => ?_) <;> cases q <;> (conv => whnf)) | (refine ref_at (wI g3 (by omega)) (by simp; omega) ?_; (conv => whnf)) | (refine ld_at (by simp [wI g3 (show m ≤ 9223372036854775807 by omega)]) hb ?_; (conv => whnf)) | fail)
        rw [hin true (by first | (simp [g4', e2, e4]; done) | (simp [g4', e3, e5]; done))] at g2
        rw [← g2] at hw
        rw [← hw]
        rfl
     ·repeat' (first | (refine And.intro (fun q => ?_) (fun q => ?_) <;> cases q <;> (conv => whnf)) | (refine ref_at (wI g3 (by omega)) (by simp; omega) ?_; (conv => whnf)) | (refine ld_at (by simp [wI g3 (show m ≤ 9223372036854775807 by omega)]) hb ?_; (conv => whnf)) | fail)
      generalize e5 : iLe x.c n.c = c5
      cases c5
      ·repeat' (first | (refine And.intro (fun q => ?_) (fun q => ?_) <;> cases q <;> (conv => whnf)) | (refine ref_at (wI g3 (by omega)) (by simp; omega) ?_; (conv => whnf)) | (refine ld_at (by simp [wI g3 (show m ≤ 9223372036854775807 by omega)]) hb ?_; (conv => whnf)) | fail)
       generalize e2 : iEq b x.r = c2
       cases c2
       ·repeat' (first | (refine And.intro (fun q => ?_) (fun q => ?_) <;> cases q <;> (conv => whnf)) | (refine ref_at (wI g3 (by omega)) (by simp; omega) ?_; (conv => whnf)) | (refine ld_at (by simp [wI g3 (show m ≤ 9223372036854775807 by omega)]) hb ?_; (conv => whnf)) | fail)
        rw [hin false (by first | (simp [e2, e3]; done) | (simp [e2, e5]; done) | (simp [e3, e4]; done) | (simp [e4, e5]; done)), Bool.false_or] at g2
        refine ⟨j + 1, by omega, ⟨by omega, by rw [← g2, drop_at hb]⟩, ?_⟩
        ((conv => whnf); simp only [eS, wI g3 (by omega)])
       ·repeat' (first | (refine And.intro (fun q => ?_) (fun q => ?_) <;> cases q <;> (conv => whnf)) | (refine ref_at (wI g3 (by omega)) (by simp; omega) ?_; (conv => whnf)) | (refine ld_at (by simp [wI g3 (show m ≤ 9223372036854775807 by omega)]) hb ?_; (conv => whnf)) | fail)
        generalize e4 : iLe n.c x.c = c4
        cases c4
        ·repeat' (first | (refine And.intro (fun q => ?_) (fun q => ?_) <;> cases q <;> (conv => whnf)) | (refine ref_at (wI g3 (by omega)) (by simp; omega) ?_; (conv => whnf)) | (refine ld_at (by simp [wI g3 (show m ≤ 9223372036854775807 by omega)]) hb ?_; (conv => whnf)) | fail)
         rw [hin false (by first | (simp [e2, e3]; done) | (simp [e2, e5]; done) | (simp [e3, e4]; done) | (simp [e4, e5]; done)), Bool.false_or] at g2
         refine ⟨j + 1, by omega, ⟨by omega, by rw [← g2, drop_at hb]⟩, ?_⟩
         ((conv => whnf); simp only [eS, wI g3 (by omega)])
        ·repeat' (first | (refine And.intro (fun q => ?_) (fun q => ?_) <;> cases q <;> (conv => whnf)) | (refine ref_at (wI g3 (by omega)) (by simp; omega) ?_; (conv => whnf)) | (refine ld_at (by simp [wI g3 (show m ≤ 9223372036854775807 by omega)]) hb ?_; (conv => whnf)) | fail)
         rw [hin true (by first | (simp [g4', e2, e4]; done) | (simp [g4', e3, e5]; done))] at g2
         rw [← g2] at hw
         rw [← hw]
         rfl
      ·repeat' (first | (refine And.intro (fun q => ?_) (fun q => ?_) <;> cases q <;> (conv => whnf)) | (refine ref_at (wI g3 (by omega)) (by simp; omega) ?_; (conv => whnf)) | (refine ld_at (by simp [wI g3 (show m ≤ 9223372036854775807 by omega)]) hb ?_; (conv => whnf)) | fail)
       rw [hin true (by first | (simp [g4', e2, e4]; done) | (simp [g4', e3, e5]; done))] at g2
       rw [← g2] at hw
       rw [← hw]
       rfl
   ·refine ⟨k + 1, by omega, ⟨h4, ?_⟩, ?_⟩
    ·obtain rfl : j = m := by omega
     obtain ⟨a, ha⟩ := get_lt (show j < w.length by omega)
     have hd : w.drop (j + 1) = [] := List.drop_eq_nil_of_le (by omega)
     rw [drop_at ha, hd] at g2
     rw [← g2] at hw
     exact hw
    ·((conv => whnf); simp only [eS, wI h4 (by omega)])
 ·obtain rfl : k = t.length := by omega
  simp only [List.drop_length, implBads] at hw
  conv => whnf
  rw [← hw]
  rfl
theorem steps_more {t : List Nd} : ∀ {n : Nat} {x : Int} {l : List Int}, steps t n x = some l → steps t (n + 1) x = some l
 | 0, x, l, h => by simp [steps] at h
 | n + 1, x, l, h => by
  rw [steps] at h ⊢
  split
  ·rw [if_pos (by assumption)] at h; exact h
  ·rw [if_neg (by assumption)] at h
   simp only [Option.map_eq_some_iff] at h ⊢
   obtain ⟨r, h1, h2⟩ := h
   exact ⟨r, steps_more h1, h2⟩
theorem chain_iff (t : List Nd) (n : Nd) : ∀ l : List Int, chainBad t n l = true ↔ ∃ (j : Nat) (a b : Int), l[j]? = some a ∧ l[j + 1]? = some b ∧ badP t n b a = true
 | [] => by simp [chainBad]
 | [a] => by simp [chainBad]
 | a :: b :: r => by
  simp only [chainBad, Bool.or_eq_true, chain_iff t n (b :: r)]
  constructor
  ·rintro (h | ⟨j, x, y, h1, h2, h3⟩)
   ·exact ⟨0, a, b, rfl, rfl, h⟩
   ·exact ⟨j + 1, x, y, by simpa using h1, by simpa using h2, h3⟩
  ·rintro ⟨j, x, y, h1, h2, h3⟩
   cases j with
   | zero => simp at h1 h2; subst h1; subst h2; exact .inl h3
   | succ j => exact .inr ⟨j, x, y, by simpa using h1, by simpa using h2, h3⟩
theorem way_iff (t : List Nd) (n : Nd) : ∀ l : List Int, wayBad t n l = true ↔ ∃ (j : Nat) (a b : Int), l[j]? = some a ∧ l[j + 1]? = some b ∧ badP t n a b = true
 | [] => by simp [wayBad]
 | [a] => by simp [wayBad]
 | a :: b :: r => by
  simp only [wayBad, Bool.or_eq_true, way_iff t n (b :: r)]
  constructor
  ·rintro (h | ⟨j, x, y, h1, h2, h3⟩)
   ·exact ⟨0, a, b, rfl, rfl, h⟩
   ·exact ⟨j + 1, x, y, by simpa using h1, by simpa using h2, h3⟩
  ·rintro ⟨j, x, y, h1, h2, h3⟩
   cases j with
   | zero => simp at h1 h2; subst h1; subst h2; exact .inl h3
   | succ j => exact .inr ⟨j, x, y, by simpa using h1, by simpa using h2, h3⟩
theorem way_rev (t : List Nd) (n : Nd) (l : List Int) : wayBad t n l.reverse = chainBad t n l := by
 rw [Bool.eq_iff_iff, way_iff, chain_iff]
 constructor
 ·rintro ⟨j, a, b, h1, h2, h3⟩
  have hj : j + 1 < l.length := by simpa using (List.getElem?_eq_some_iff.1 h2).1
  rw [List.getElem?_reverse (by omega)] at h1
  rw [List.getElem?_reverse (by omega)] at h2
  exact ⟨l.length - 1 - (j + 1), b, a, h2, by rw [← h1]; congr 1; omega, h3⟩
 ·rintro ⟨j, a, b, h1, h2, h3⟩
  have hj : j + 1 < l.length := (List.getElem?_eq_some_iff.1 h2).1
  refine ⟨l.length - 1 - (j + 1), b, a, ?_, ?_, h3⟩
  ·rw [List.getElem?_reverse (by omega), ← h2]; congr 1; omega
  ·rw [List.getElem?_reverse (by omega), ← h1]; congr 1; omega
theorem implBads_iff (t : List Nd) : ∀ (l : List Nd) (k : Nat), implBads t l k = true ↔ ∃ (j : Nat) (n : Nd), l[j]? = some n ∧ implBad t ((k + j : Nat) : Int) n = true
 | [], k => by simp [implBads]
 | n :: r, k => by
  simp only [implBads, Bool.or_eq_true, implBads_iff t r (k + 1)]
  constructor
  ·rintro (h | ⟨j, x, h1, h2⟩)
   ·exact ⟨0, n, rfl, h⟩
   ·exact ⟨j + 1, x, by simpa using h1, by rw [show k + (j + 1) = k + 1 + j by omega]; exact h2⟩
  ·rintro ⟨j, x, h1, h2⟩
   cases j with
   | zero => simp at h1; subst h1; exact .inl h2
   | succ j => exact .inr ⟨j, x, by simpa using h1, by rw [show k + 1 + j = k + (j + 1) by omega]; exact h2⟩
theorem waysBad_iff (t : List Nd) : ∀ (l : List Nd) (k : Nat), waysBad t l k = true ↔ ∃ (j : Nat) (n : Nd), l[j]? = some n ∧ nodeBad t ((k + j : Nat) : Int) n = true
 | [], k => by simp [waysBad]
 | n :: r, k => by
  simp only [waysBad, Bool.or_eq_true, waysBad_iff t r (k + 1)]
  constructor
  ·rintro (h | ⟨j, x, h1, h2⟩)
   ·exact ⟨0, n, rfl, h⟩
   ·exact ⟨j + 1, x, by simpa using h1, by rw [show k + (j + 1) = k + 1 + j by omega]; exact h2⟩
  ·rintro ⟨j, x, h1, h2⟩
   cases j with
   | zero => simp at h1; subst h1; exact .inl h2
   | succ j => exact .inr ⟨j, x, by simpa using h1, by rw [show k + 1 + j = k + (j + 1) by omega]; exact h2⟩
theorem depthK_le (t : List Nd) (c : Int) (hc : -1 ≤ c) : ∀ m : Nat, depthK t m ≤ c ↔ ∀ j : Nat, j < m → levelL t j ≤ c
 | 0 => by simp [depthK, hc]
 | m + 1 => by
  simp only [depthK]
  rw [show max (depthK t m) (levelL t m) ≤ c ↔ depthK t m ≤ c ∧ levelL t m ≤ c by omega, depthK_le t c hc m]
  constructor
  ·rintro ⟨h1, h2⟩ j hj
   rcases Nat.lt_or_ge j m with q | q
   ·exact h1 j q
   ·obtain rfl : j = m := by omega
    exact h2
  ·intro h
   exact ⟨fun j hj => h j (by omega), h m (by omega)⟩
theorem level_way {t : List Nd} {j : Nat} {l : List Int} (hj : j < t.length) (hs : steps t 32 j = some l) : levelL t j = (l.length : Int) - 1 := by
 unfold levelL lvl
 rw [if_pos (by omega)]
 simp only [hs, Int.add_zero]
theorem level_kid {t : List Nd} {ft : Int} (h : shapeOk t ft = true) (hl : t.length ≤ 31) {j c : Nat} (hj : j < t.length) (hc : c < t.length) (hu : up t c = j) : levelL t c = levelL t j + 1 := by
 obtain ⟨lc, h1, _⟩ := steps_anc h 31 c (by omega)
 obtain ⟨lj, h2, _⟩ := steps_anc h 31 j (by omega)
 have h1' := h1
 rw [steps, if_neg (by omega), hu] at h1'
 simp only [Option.map_eq_some_iff] at h1'
 obtain ⟨r, h3, rfl⟩ := h1'
 have h4 := steps_more h3
 rw [h2] at h4
 cases h4
 rw [level_way hc h1, level_way hj h2]
 simp
theorem levels_leaf {t : List Nd} {ft : Int} (h : shapeOk t ft = true) (hl : t.length ≤ 31) (hleaf : ∀ (j : Nat) (n : Nd), t[j]? = some n → n.f = -1 → levelL t j ≤ 4) : ∀ (d : Nat) (j : Nat), t.length - j = d → j < t.length → levelL t j ≤ 4 := by
 intro d
 induction d using Nat.strongRecOn with
 | _ d ih =>
  intro j hd hj
  obtain ⟨n, hn⟩ := get_lt hj
  by_cases hf : n.f = -1
  ·exact hleaf j n hn hf
  ·have hk := shape_kids h hn hf
   have hu := up_kid h hn hf (.inl rfl)
   obtain ⟨c, hc⟩ : ∃ c : Nat, n.l = c := ⟨n.l.toNat, by omega⟩
   rw [hc] at hu hk
   have := level_kid h hl hj (show c < t.length by omega) hu
   have := ih (t.length - c) (by omega) c rfl (by omega)
   omega
theorem treeOk_same (t : List Nd) (ft : Int) : treeOkI t ft = treeOk t ft := by
 unfold treeOkI treeOk
 by_cases h1 : 1 ≤ (t.length : Int) ∧ (t.length : Int) ≤ 31
 ·rw [decide_eq_true h1, Bool.true_and, Bool.true_and]
  congr 1
  cases h3 : shapeOk t ft with
  | false => rfl
  | true =>
   rw [Bool.true_and, Bool.true_and]
   have hst : ∀ j : Nat, j < t.length → ∃ l, steps t 32 j = some l ∧ wayL t j = l.reverse := fun j hj => by
    obtain ⟨l, hl, _⟩ := steps_anc h3 31 j (by omega)
    exact ⟨l, hl, by unfold wayL; rw [if_pos (by omega), hl]⟩
   rw [Bool.eq_iff_iff]
   simp only [Bool.not_eq_true', Bool.and_eq_true, decide_eq_true_eq]
   rw [depthK_le t 4 (by omega)]
   have n1 := implBads_iff t t 0
   have n2 := waysBad_iff t t 0
   simp only [Nat.zero_add] at n1 n2
   constructor
   ·intro hb
    have hno : ∀ (j : Nat) (n : Nd), t[j]? = some n → implBad t j n = false := fun j n hn => by
     cases hq : implBad t j n with
     | false => rfl
     | true => rw [n1.2 ⟨j, n, hn, hq⟩] at hb; cases hb
    refine ⟨fun j hj => levels_leaf h3 (by omega) (fun j n hn hf => ?_) _ j rfl hj, ?_⟩
    ·have := hno j n hn
     simp only [implBad, if_pos hf, decide_eq_false_iff_not] at this
     have hj := (List.getElem?_eq_some_iff.1 hn).1
     obtain ⟨l, hl, hw⟩ := hst j hj
     rw [level_way hj hl]
     rw [hw] at this
     simp at this
     omega
    ·cases hq : waysBad t t 0 with
     | false => rfl
     | true =>
      obtain ⟨j, n, hn, hbad⟩ := n2.1 hq
      have hj := (List.getElem?_eq_some_iff.1 hn).1
      obtain ⟨l, hl, hw⟩ := hst j hj
      simp only [nodeBad, hl, bAnd, Bool.and_eq_true, bNot, Bool.not_eq_true', iEq, decide_eq_false_iff_not] at hbad
      have := hno j n hn
      simp only [implBad, if_neg hbad.1, hw, way_rev] at this
      rw [hbad.2] at this
      cases this
   ·rintro ⟨hd, hw⟩
    cases hq : implBads t t 0 with
    | false => rfl
    | true =>
     obtain ⟨j, n, hn, hbad⟩ := n1.1 hq
     have hj := (List.getElem?_eq_some_iff.1 hn).1
     obtain ⟨l, hl, hwy⟩ := hst j hj
     have hlev := hd j hj
     rw [level_way hj hl] at hlev
     by_cases hf : n.f = -1
     ·simp only [implBad, if_pos hf, decide_eq_true_eq, hwy, List.length_reverse] at hbad
      omega
     ·simp only [implBad, if_neg hf, hwy, way_rev] at hbad
      have : nodeBad t j n = true := by simp [nodeBad, hl, bAnd, bNot, iEq, hf, hbad]
      rw [n2.2 ⟨j, n, hn, this⟩] at hw
      cases hw
 ·rw [decide_eq_false h1]; rfl
theorem impl_TreeOk_spec (t : List Nd) (ft : Int) (hl : t.length ≤ 1048576) : FnSpec PR f_impl_TreeOk [aT t, ai ft] (ab (treeOk t ft)) [] 0 := treeOk_same t ft ▸ impl_TreeOk_one t ft hl
end Go.H.S
namespace Go.H.S
open Go Go.Proofs Go.H
attribute [local irreducible] Tri FnSpec FnSpecM FnSpecX FnSpecJ FnSpecB
def cU (n : Int) : List D := [.int .u8 n]
abbrev cur (code : List Int) (i h : Int) : List CV := [.d (.sl 1 (eL cU code)), .d (.int .i64 i), .d (.int .i64 h)]
theorem wAnd255 (x : Int) : 0 ≤ wAnd .i64 x 255 ∧ wAnd .i64 x 255 ≤ 255 := by
 unfold wAnd wrapB
 have h : ((BitVec.ofInt IntKind.i64.bits x &&& BitVec.ofInt IntKind.i64.bits 255).toNat) ≤ 255 := by
  rw [BitVec.toNat_and]
  exact Nat.and_le_right
 rw [wrap64] <;> omega
set_option maxHeartbeats 4000000 in
theorem spec_l1Byte_spec (code : List Int) (i h : Int) (hi : 0 ≤ i ∧ i ≤ code.length) (hl : code.length ≤ 1048576) : FnSpecB PR f_spec_l1Byte [.c (.ptr 0 0)] t_spec_l1Cur (cur code i h) (Int × Int × Int) (fun x => (0 ≤ x.1 ∧ x.1 ≤ 255) ∧ 0 ≤ x.2.1 ∧ x.2.1 ≤ code.length) (fun x => ai x.1) (fun x => cur code x.2.1 x.2.2) (fun _ => []) (fun _ => 1) := by
 refine FnSpecB.intro hT 0 (pf Tryz.func290) rfl (by kernel_rfl) Tryz.ntmps290 rfl rfl ?_
 intro v0
 conv => whnf
 refine tri_conf hT hmix (by kernel_rfl) ?_
 conv => whnf
 refine And.intro (by simp) ?_
 conv => whnf
 refine And.intro (by simp) ?_
 conv => whnf
 refine tri_conf hT hmix (by kernel_rfl) ?_
 conv => whnf
 generalize hh : wAdd .i64 (wMul .i64 h 6364136223846793005) 1442695040888963407 = h1
 have hb := wAnd255 (wXor .i64 (wShr .i64 h1 33) (wShr .i64 h1 45))
 generalize wAnd .i64 (wXor .i64 (wShr .i64 h1 33) (wShr .i64 h1 45)) 255 = x at *
 refine ifB_i (fun h2 => ?_) (fun h2 => ?_) <;> (conv => whnf) <;> simp only [eH] at h2
 ·obtain ⟨k, rfl⟩ : ∃ k : Nat, i = k := ⟨i.toNat, by omega⟩
  obtain ⟨y, hy⟩ := get_lt (show k < code.length by omega)
  refine tri_every hT hmix [0, 3] { t := [(0, .w (.ptr 0 0) v0), (3, ai (wAnd .i64 (wAdd .i64 x (wConv .i64 y)) 255))], h := [(0, .box t_spec_l1Cur (cur code k h1))], n := 1, N := 58 } rfl ?_ ?_
  ·repeat' first
    | (refine anyV_one rfl ?_; (conv => whnf))
    | (refine anyV_two rfl ?_ ?_ <;> (conv => whnf))
    | (refine anyV_three rfl ?_ ?_ ?_ <;> (conv => whnf))
    | (refine anyV_end rfl ?_; (conv => whnf))
    | (refine idx_at (by simp) hy ?_; (conv => whnf))
  conv => whnf
  have hb2 := wAnd255 (wAdd .i64 x (wConv .i64 y))
  refine ⟨(wAnd .i64 (wAdd .i64 x (wConv .i64 y)) 255, (k : Int) + 1, h1), ⟨hb2, by dsimp only; omega, by dsimp only; omega⟩, ?_⟩
  ((conv => whnf); simp only [eS, wAdd64 (show -9223372036854775808 ≤ (k : Int) + 1 by omega) (by omega)])
 ·refine ⟨(x, i, h1), ⟨hb, hi⟩, ?_⟩
  conv => whnf
theorem wRem_mod {x n : Int} (hx : 0 ≤ x) (hn : 0 < n) : 0 ≤ wRem x n ∧ wRem x n < n := by
 unfold wRem
 rw [Int.tmod_eq_emod_of_nonneg hx]
 exact ⟨Int.emod_nonneg _ (by omega), Int.emod_lt_of_pos _ hn⟩
def inCur (code : List Int) (x : Int × Int) : Prop := 0 ≤ x.1 ∧ x.1 ≤ code.length
theorem spec_l1Below_spec (code : List Int) (i h n : Int) (hi : 0 ≤ i ∧ i ≤ code.length) (hl : code.length ≤ 1048576) : FnSpecB PR f_spec_l1Below [.c (.ptr 0 0), ai n] t_spec_l1Cur (cur code i h) (Int × Int × Int)
  (fun x => (0 ≤ x.1 ∧ (0 < n → x.1 < n) ∧ (n ≤ 0 → x.1 = 0)) ∧ inCur code x.2) (fun x => ai x.1) (fun x => cur code x.2.1 x.2.2) (fun _ => []) (fun _ => 1) := by
 refine FnSpecB.intro hT 0 (pf Tryz.func221) rfl (by kernel_rfl) Tryz.ntmps221 rfl rfl ?_
 intro v0
 conv => whnf
 refine ifB_i (fun h1 => ?_) (fun h1 => ?_) <;> (conv => whnf) <;> simp only [eH] at h1
 ·refine ⟨(0, i, h), ⟨⟨by omega, fun q => by omega, fun _ => rfl⟩, hi⟩, ?_⟩
  conv => whnf
 refine ifB_i (fun h2 => ?_) (fun h2 => ?_) <;> (conv => whnf) <;> simp only [eH] at h2
 ·refine .inr (.inr (.inr (.inr (.inl ⟨0, ?_⟩))))
  conv => whnf
  refine ⟨_, _, _, _, _, _, spec_l1Byte_spec code i h hi hl, fun ⟨x, i1, h1'⟩ ⟨hx, hi1⟩ => ⟨rfl, ?_⟩⟩
  dsimp only at hx hi1
  conv => whnf
  refine And.intro (by simp; omega) ?_
  conv => whnf
  have hm := wRem_mod hx.1 (show 0 < n by omega)
  refine ⟨(wRem x n, i1, h1'), ⟨⟨hm.1, fun _ => hm.2, fun q => by omega⟩, hi1⟩, ?_⟩
  conv => whnf
 refine .inr (.inr (.inr (.inr (.inl ⟨0, ?_⟩))))
 conv => whnf
 refine ⟨_, _, _, _, _, _, spec_l1Byte_spec code i h hi hl, fun ⟨x, i1, h1'⟩ ⟨hx, hi1⟩ => ⟨rfl, ?_⟩⟩
 dsimp only at hx hi1
 conv => whnf
 refine .inr (.inr (.inr (.inr (.inl ⟨0, ?_⟩))))
 conv => whnf
 refine ⟨_, _, _, _, _, _, spec_l1Byte_spec code i1 h1' hi1 hl, fun ⟨y, i2, h2'⟩ ⟨hy, hi2⟩ => ⟨rfl, ?_⟩⟩
 dsimp only at hy hi2
 conv => whnf
 refine .inr (.inr (.inr (.inr (.inl ⟨0, ?_⟩))))
 conv => whnf
 refine ⟨_, _, _, _, _, _, spec_l1Byte_spec code i2 h2' hi2 hl, fun ⟨z, i3, h3'⟩ ⟨hz, hi3⟩ => ⟨rfl, ?_⟩⟩
 dsimp only at hz hi3
 conv => whnf
 refine .inr (.inr (.inr (.inr (.inl ⟨0, ?_⟩))))
 conv => whnf
 refine ⟨_, _, _, _, _, _, spec_l1Byte_spec code i3 h3' hi3 hl, fun ⟨w, i4, h4'⟩ ⟨hw, hi4⟩ => ⟨rfl, ?_⟩⟩
 dsimp only at hw hi4
 conv => whnf
 refine And.intro (by simp; omega) ?_
 conv => whnf
 have e1 : wMul .i64 x 16777216 = x * 16777216 := wMul64 (by omega) (by omega)
 have e2 : wMul .i64 y 65536 = y * 65536 := wMul64 (by omega) (by omega)
 have e3 : wMul .i64 z 256 = z * 256 := wMul64 (by omega) (by omega)
 rw [e1, e2, e3]
 rw [wAdd64 (x := x * 16777216) (y := y * 65536) (by omega) (by omega)]
 rw [wAdd64 (x := x * 16777216 + y * 65536) (y := z * 256) (by omega) (by omega)]
 rw [wAdd64 (x := x * 16777216 + y * 65536 + z * 256) (y := w) (by omega) (by omega)]
 have hm := wRem_mod (x := x * 16777216 + y * 65536 + z * 256 + w) (by omega) (show 0 < n by omega)
 refine ⟨(wRem (x * 16777216 + y * 65536 + z * 256 + w) n, i4, h4'), ⟨⟨hm.1, fun _ => hm.2, fun q => by omega⟩, hi4⟩, ?_⟩
 conv => whnf
theorem spec_l1PickInt_spec (code : List Int) (i h : Int) (l : List Int) (hi : 0 ≤ i ∧ i ≤ code.length) (hl : code.length ≤ 1048576) (hne : 0 < l.length) (hll : l.length ≤ 1048576) : FnSpecB PR f_spec_l1PickInt [.c (.ptr 0 0), aIs l] t_spec_l1Cur (cur code i h) (Int × Int × Int)
  (fun x => x.1 ∈ l ∧ inCur code x.2) (fun x => ai x.1) (fun x => cur code x.2.1 x.2.2) (fun _ => []) (fun _ => 1) := by
 refine FnSpecB.intro hT 0 (pf Tryz.func223) rfl (by kernel_rfl) Tryz.ntmps223 rfl rfl ?_
 intro v0
 conv => whnf
 refine .inr (.inr (.inr (.inr (.inl ⟨0, ?_⟩))))
 conv => whnf
 rw [show nInt (dLen (eL cI l)) = (l.length : Int) by simp]
 refine ⟨_, _, _, _, _, _, spec_l1Below_spec code i h l.length hi hl, fun ⟨x, i1, h1'⟩ ⟨hx, hi1⟩ => ⟨rfl, ?_⟩⟩
 dsimp only at hx hi1
 conv => whnf
 obtain ⟨k, rfl⟩ : ∃ k : Nat, x = k := ⟨x.toNat, by omega⟩
 obtain ⟨y, hy⟩ := get_lt (show k < l.length by have := hx.2.1 (by omega); omega)
 refine idx_at (by simp) hy ?_
 conv => whnf
 refine ⟨(y, i1, h1'), ⟨List.mem_of_getElem? hy, hi1⟩, ?_⟩
 conv => whnf
end Go.H.S
namespace Go.H.S
open Go Go.Proofs Go.H
attribute [local irreducible] Tri FnSpec FnSpecM FnSpecX FnSpecJ FnSpecB
theorem spec_l1New_spec (code : List Int) (hl : code.length ≤ 1048576) : FnSpecX PR f_spec_l1New [.c (.d (.sl 1 (eL cU code)))] Int (fun _ => True) (fun _ => .c (.ptr 0 0)) (fun h => [(0, .box t_spec_l1Cur (cur code 0 h))]) (fun _ => 1) := by
 refine FnSpecX.intro hT (pf Tryz.func219) rfl (by kernel_rfl) Tryz.ntmps219 rfl ?_
 conv => whnf
 refine tri_loop hT [0, 3, 4] (α := Nat × Int) (fun x => { t := [(0, .c (.d (.sl 1 (eL cU code)))), (3, ai x.2), (4, ai x.1)], h := [], n := 0, N := 32 })
  (fun x => x.1 ≤ code.length) (fun x => code.length - x.1) (0, wAdd .i64 28507 code.length) (by ((conv => whnf); simp only [eS])) (Nat.zero_le _) ?_
 intro ⟨k, h⟩ hk
 dsimp only at hk
 conv => whnf
 refine ifB_i (fun h1 => ?_) (fun h1 => ?_) <;> (conv => whnf) <;> simp only [eH] at h1
 ·obtain ⟨y, hy⟩ := get_lt (show k < code.length by simpa using h1)
  refine ifB_i (fun h2 => ?_) (fun h2 => ?_) <;> (conv => whnf)
  ·refine idx_at (by simp) hy ?_
   conv => whnf
   refine ⟨(k + 1, wAnd .i64 (wAdd .i64 (wAdd .i64 (wMul .i64 h 131) (wConv .i64 y)) 7) 1073741823), by dsimp only; omega, by dsimp only; omega, ?_⟩
   ((conv => whnf); simp only [eS, wI (show k < code.length by omega) (by omega)])
  ·refine ⟨h, trivial, ?_⟩
   conv => whnf
 ·refine ⟨h, trivial, ?_⟩
  conv => whnf
theorem spec_OneLeaf_spec (v : Int) : FnSpec PR f_spec_OneLeaf [ai v] (.agg [.ref 0 0 none]) [(0, .arr t_impl_Node 5 0 .own (eL cN [⟨-1, 0, 0, 0, v⟩]))] 1 := by
 refine FnSpec.intro hT (pf Tryz.func315) rfl (by kernel_rfl) Tryz.ntmps315 rfl ?_
 conv => whnf
 ((conv => whnf); simp only [eS, eL_cons, eL_nil, cN])
structure KidsOk (N : List Nd) : Prop where
 kid : ∀ {j : Nat} {n : Nd}, N[j]? = some n → n.f ≠ -1 → (j : Int) < n.l ∧ n.r = n.l + 1 ∧ n.r < N.length
 one : ∀ {j j' : Nat} {n n' : Nd}, N[j]? = some n → N[j']? = some n' → n.f ≠ -1 → n'.f ≠ -1 → ∀ x : Int, (n.l = x ∨ n.r = x) → (n'.l = x ∨ n'.r = x) → j = j'
theorem nodup_len : ∀ (M : Nat) (l : List Int), l.Nodup → (∀ x ∈ l, 0 ≤ x ∧ x < M) → l.length ≤ M
 | 0, l, hn, hl => by
  cases l with
  | nil => simp
  | cons x r => have := hl x (by simp); omega
 | M + 1, l, hn, hl => by
  have h1 := nodup_len M (l.erase (M : Int)) (hn.erase _) (fun x hx => by
   have hm := List.mem_of_mem_erase hx
   have hne : x ≠ (M : Int) := fun e => by
    subst e
    exact (List.Nodup.not_mem_erase hn) hx
   have := hl x hm
   omega)
  have h2 : l.length ≤ (l.erase (M : Int)).length + 1 := by
   rw [List.length_erase]
   split <;> omega
  omega
theorem eL_join {α : Type} (f : α → List D) (l r : List α) : dApp (eL f l) (eL f r) = eL f (l ++ r) := by simp [dApp, eL]
structure LvInv (N : List Nd) (i : Nat) (R : List Int) : Prop where
 le : i ≤ R.length
 nd : R.Nodup
 mem : ∀ x ∈ R, 0 ≤ x ∧ x < N.length
 src : ∀ x ∈ R, x = 0 ∨ ∃ (j p : Nat) (n : Nd), j < i ∧ R[j]? = some (p : Int) ∧ N[p]? = some n ∧ n.f ≠ -1 ∧ (n.l = x ∨ n.r = x)
theorem LvInv.len {N : List Nd} {i : Nat} {R : List Int} (h : LvInv N i R) : R.length ≤ N.length := nodup_len _ _ h.nd h.mem
theorem LvInv.leaf {N : List Nd} {i : Nat} {R : List Int} (h : LvInv N i R) (hi : i < R.length) : LvInv N (i + 1) R :=
 ⟨hi, h.nd, h.mem, fun x hx => (h.src x hx).imp id fun ⟨j, p, n, h1, h2⟩ => ⟨j, p, n, by omega, h2⟩⟩
theorem LvInv.inner {N : List Nd} (hk : KidsOk N) {i p : Nat} {R : List Int} {n : Nd} (h : LvInv N i R) (hi : R[i]? = some (p : Int)) (hn : N[p]? = some n) (hf : n.f ≠ -1) : LvInv N (i + 1) (R ++ [n.l, n.r]) := by
 obtain ⟨k1, k2, k3⟩ := hk.kid hn hf
 have hil := (List.getElem?_eq_some_iff.1 hi).1
 have hfresh : ∀ x, (n.l = x ∨ n.r = x) → x ∉ R := fun x hx hm => by
  rcases h.src x hm with h0 | ⟨j, q, n', g1, g2, g3, g4, g5⟩
  ·subst h0; omega
  ·have := hk.one g3 hn g4 hf x g5 hx
   subst this
   have hj := (List.getElem?_eq_some_iff.1 g2).1
   have := (List.getElem?_inj hj h.nd).1 (g2.trans hi.symm)
   omega
 refine ⟨by simp; omega, ?_, fun x hx => ?_, fun x hx => ?_⟩
 ·rw [List.nodup_append]
  refine ⟨h.nd, by simp; omega, fun a ha b hb => ?_⟩
  intro e
  subst e
  simp at hb
  rcases hb with rfl | rfl
  ·exact hfresh _ (.inl rfl) ha
  ·exact hfresh _ (.inr rfl) ha
 ·rcases List.mem_append.1 hx with hx | hx
  ·exact h.mem x hx
  ·simp at hx
   rcases hx with rfl | rfl <;> omega
 ·rcases List.mem_append.1 hx with hx | hx
  ·rcases h.src x hx with h0 | ⟨j, q, n', g1, g2, g3⟩
   ·exact .inl h0
   ·exact .inr ⟨j, q, n', by omega, by rw [List.getElem?_append_left (by omega)]; exact g2, g3⟩
  ·simp at hx
   exact .inr ⟨i, p, n, by omega, by rw [List.getElem?_append_left hil]; exact hi, hn, hf, by rcases hx with rfl | rfl <;> simp⟩
theorem spec_l17Levels_spec (N : List Nd) (hk : KidsOk N) (h1 : 0 < N.length) (hl : N.length ≤ 1048576) : FnSpecX PR f_spec_l17Levels [aNs N] (List Nd) (fun t => 0 < t.length ∧ t.length ≤ N.length) (fun _ => .agg [.ref 0 0 none]) (fun t => [(0, .arr t_impl_Node 5 0 .own (eL cN t))]) (fun _ => 1) := by
 refine FnSpecX.intro hT (pf Tryz.func356) rfl (by kernel_rfl) Tryz.ntmps356 rfl ?_
 conv => whnf
 refine tri_loop hT [0, 2, 3, 4, 5, 6] (α := Nat × List Int × List Nd × Int) (fun x => match x.1 with
   | 0 => { t := [(0, aNs N), (2, .c (.ptr 0 0)), (3, .c (.ptr 1 0)), (4, .c (.ref 2 0 none)), (5, ai x.2.2.2), (6, ai (0 : Nat))], h := [(0, .box t_impl_Tree [.nl 5]), (1, .box t_impl_Tree [.nl 5]), (2, .arr t_int 1 0 .own (eL cI x.2.1))], n := 3, N := 46 }
   | i + 1 => { t := [(0, aNs N), (2, .c (.ptr 0 0)), (3, .c (.ptr 1 0)), (4, .c (.ref 3 0 none)), (5, ai x.2.2.2), (6, ai (i + 1 : Nat))], h := [(0, .box t_impl_Tree [.nl 5]), (1, .box t_impl_Tree [.ref 2 0 none]), (2, .arr t_impl_Node 5 0 .own (eL cN x.2.2.1)), (3, .arr t_int 1 0 .own (eL cI x.2.1))], n := 4, N := 46 })
  (fun x => LvInv N x.1 x.2.1 ∧ x.2.2.1.length = x.1 ∧ 0 < x.2.1.length) (fun x => N.length - x.1) (0, [0], [], 1) (by ((conv => whnf); simp only [eS, eL_cons, eL_nil, cI]))
  ⟨⟨by simp, by simp, by simp; omega, by simp⟩, rfl, by simp⟩ ?_
 intro ⟨i, R, O, nx⟩ ⟨hi, hO, hR⟩
 dsimp only at hi hO hR
 have hRl := hi.len
 cases i with
 | zero =>
  obtain rfl := List.eq_nil_of_length_eq_zero hO
  conv => whnf
  refine ifB_i (fun h2 => ?_) (fun h2 => ?_) <;> (conv => whnf)
  ·dsimp only at h2
   simp only [eH] at h2
   rw [show lenRE (eL cI R) none = R.length by simp [lenRE]] at h2
   obtain ⟨y, hy⟩ := get_lt (show 0 < R.length by omega)
   obtain ⟨p, rfl⟩ : ∃ p : Nat, y = p := ⟨y.toNat, by have := hi.mem _ (List.mem_of_getElem? hy); omega⟩
   obtain ⟨n, hn⟩ := get_lt (show p < N.length by have := hi.mem _ (List.mem_of_getElem? hy); omega)
   have hz := hi.inner hk hy hn
   have hz2 := hi.leaf (show 0 < R.length by omega)
   refine ref_at rfl (by simp; omega) ?_
   conv => whnf
   refine ld_at (by simp) hy ?_
   conv => whnf
   refine idx_at (by simp) hn ?_
   conv => whnf
   refine .inl ⟨_, _, _, spec_l17Inner_spec n, rfl, ?_⟩
   conv => whnf
   refine ifB_i (fun h3 => ?_) (fun h3 => ?_) <;> (conv => whnf) <;> simp only [eH] at h3
   ·have hz' := (hz h3).len
    refine And.intro (by unfold Fits; simp at hz' ⊢; omega) ?_
    conv => whnf
    refine And.intro (by unfold Fits; simp at hz' ⊢ <;> omega) ?_
    conv => whnf
    refine ⟨(0 + 1, R ++ [n.l, n.r], [⟨n.f, n.c, nx, wAdd .i64 nx 1, n.v⟩], wAdd .i64 nx 2), by dsimp only; omega, ⟨hz h3, by simp [hO], by simp⟩, ?_⟩
    ((conv => whnf); simp only [eS, partOf_none])
    refine ⟨wI (show 0 < R.length by omega) (by omega), ?_⟩
    exact ⟨by simp [eL, cN], by rw [← eL_join]; simp [eL, cI]⟩
   ·refine And.intro (by unfold Fits; simp at hRl ⊢ <;> omega) ?_
    conv => whnf
    refine ⟨(0 + 1, R, [n], nx), by dsimp only; omega, ⟨hz2, by simp [hO], hR⟩, ?_⟩
    ((conv => whnf); simp only [eS, partOf_none])
    refine ⟨wI (show 0 < R.length by omega) (by omega), ?_⟩
    simp [eL, cN]
  ·dsimp only at h2
   simp only [eH] at h2
   rw [show lenRE (eL cI R) none = R.length by simp [lenRE]] at h2
   omega
 | succ i =>
  conv => whnf
  refine ifB_i (fun h2 => ?_) (fun h2 => ?_) <;> (conv => whnf)
  ·dsimp only at h2
   simp only [eH] at h2
   rw [show lenRE (eL cI R) none = R.length by simp [lenRE]] at h2
   obtain ⟨y, hy⟩ := get_lt (show (i + 1) < R.length by omega)
   obtain ⟨p, rfl⟩ : ∃ p : Nat, y = p := ⟨y.toNat, by have := hi.mem _ (List.mem_of_getElem? hy); omega⟩
   obtain ⟨n, hn⟩ := get_lt (show p < N.length by have := hi.mem _ (List.mem_of_getElem? hy); omega)
   have hz := hi.inner hk hy hn
   have hz2 := hi.leaf (show (i + 1) < R.length by omega)
   refine ref_at rfl (by simp; omega) ?_
   conv => whnf
   refine ld_at (by simp) hy ?_
   conv => whnf
   refine idx_at (by simp) hn ?_
   conv => whnf
   refine .inl ⟨_, _, _, spec_l17Inner_spec n, rfl, ?_⟩
   conv => whnf
   refine ifB_i (fun h3 => ?_) (fun h3 => ?_) <;> (conv => whnf) <;> simp only [eH] at h3
   ·have hz' := (hz h3).len
    refine And.intro (by unfold Fits; simp at hz' ⊢; omega) ?_
    conv => whnf
    refine And.intro (by unfold Fits; simp at hz' ⊢ <;> omega) ?_
    conv => whnf
    refine ⟨((i + 1) + 1, R ++ [n.l, n.r], O ++ [⟨n.f, n.c, nx, wAdd .i64 nx 1, n.v⟩], wAdd .i64 nx 2), by dsimp only; omega, ⟨hz h3, by simp [hO], by simp⟩, ?_⟩
    ((conv => whnf); simp only [eS, partOf_none])
    refine ⟨wI (show i + 1 < R.length by omega) (by omega), ?_⟩
    exact ⟨by rw [← eL_app]; rfl, by rw [← eL_join]; simp [eL, cI]⟩
   ·refine And.intro (by unfold Fits; simp at hRl ⊢ <;> omega) ?_
    conv => whnf
    refine ⟨((i + 1) + 1, R, O ++ [n], nx), by dsimp only; omega, ⟨hz2, by simp [hO], hR⟩, ?_⟩
    ((conv => whnf); simp only [eS, partOf_none])
    refine ⟨wI (show i + 1 < R.length by omega) (by omega), ?_⟩
    rw [← eL_app]; rfl
  ·dsimp only at h2
   simp only [eH] at h2
   rw [show lenRE (eL cI R) none = R.length by simp [lenRE]] at h2
   have h4 := hi.le
   refine ⟨O, by omega, ?_⟩
   conv => whnf
theorem grown_kids {t : List Nd} {ft : Int} (h : shapeOk t ft = true) {k : Nat} (hk : k < t.length) (f c a b : Int) : KidsOk (t.set k ⟨f, c, t.length, t.length + 1, 0⟩ ++ [⟨-1, 0, 0, 0, a⟩, ⟨-1, 0, 0, 0, b⟩]) := by
 have key : ∀ {j : Nat} {n : Nd}, (t.set k ⟨f, c, t.length, t.length + 1, 0⟩ ++ [⟨-1, 0, 0, 0, a⟩, ⟨-1, 0, 0, 0, b⟩])[j]? = some n → n.f ≠ -1 → (j = k ∧ n = ⟨f, c, t.length, t.length + 1, 0⟩) ∨ (j < t.length ∧ t[j]? = some n) := by
  intro j n hj hf
  by_cases hl : j < t.length
  ·rw [List.getElem?_append_left (by simpa using hl), List.getElem?_set] at hj
   split at hj
   ·rename_i e
    subst e
    exact .inl ⟨rfl, (Option.some.inj hj).symm⟩
   ·exact .inr ⟨hl, hj⟩
  ·rw [List.getElem?_append_right (by simpa using hl)] at hj
   rcases hd : j - (t.set k ⟨f, c, t.length, t.length + 1, 0⟩).length with _ | _ | d <;> rw [hd] at hj <;> simp at hj <;> subst hj <;> exact absurd rfl hf
 constructor
 ·intro j n hj hf
  rcases key hj hf with ⟨rfl, rfl⟩ | ⟨hl, hj'⟩
  ·simp; omega
  ·have := shape_kids h hj' hf
   simp
   omega
 ·intro j j' n n' hj hj' hf hf' x hx hx'
  rcases key hj hf with ⟨rfl, rfl⟩ | ⟨hl, g⟩ <;> rcases key hj' hf' with ⟨rfl, rfl⟩ | ⟨hl', g'⟩
  ·rfl
  ·have := shape_kids h g' hf'
   dsimp only at hx
   omega
  ·have := shape_kids h g hf
   dsimp only at hx'
   omega
  ·exact shape_once h g g' hf hf' hx hx'
theorem spec_l17Grown_spec (t : List Nd) (ft : Int) (h : shapeOk t ft = true) (hl : t.length ≤ 31) (k : Nat) (hk : k < t.length) (x : Nd) (a b : Int) : FnSpecX PR f_spec_l17Grown [aT t, ai k, aN x, ai a, ai b] (List Nd) (fun t' => 0 < t'.length ∧ t'.length ≤ t.length + 2) (fun _ => .agg [.ref 0 0 none]) (fun t => [(0, .arr t_impl_Node 5 0 .own (eL cN t))]) (fun _ => 1) := by
 refine FnSpecX.intro hT (pf Tryz.func331) rfl (by kernel_rfl) Tryz.ntmps331 rfl ?_
 conv => whnf
 refine And.intro (by unfold Fits; simp; omega) ?_
 rw [show dApp [] (eL cN t) = eL cN t by simp [dApp]]
 conv => whnf
 obtain ⟨y, hy⟩ := get_lt hk
 refine ref_at rfl (by simpa using hk) ?_
 conv => whnf
 refine st_at (k := k) (by simp) hy (by simp [cN]) ?_
 conv => whnf
 have e1 : nInt (lenRE (eL cN t) none) = (t.length : Int) := by simp [lenRE]
 have e2 : wAdd .i64 (t.length : Int) 1 = (t.length : Int) + 1 := wAdd64 (by omega) (by omega)
 rw [e1, e2]
 rw [show dSet (eL cN t) (nAdd (offR none) (nOf (k : Int))) (dOver (cN y) 0 [.int .i64 x.f, .int .i64 x.c, .int .i64 (t.length : Int), .int .i64 ((t.length : Int) + 1), .int .i64 0]) = eL cN (t.set k ⟨x.f, x.c, t.length, t.length + 1, 0⟩) by
  rw [dOver_all (by simp [cN]), show nAdd (offR none) (nOf (k : Int)) = k by simp]
  exact eL_set cN t k ⟨x.f, x.c, t.length, t.length + 1, 0⟩]
 refine And.intro (by unfold Fits; simp; omega) ?_
 rw [show dApp (eL cN (t.set k ⟨x.f, x.c, t.length, t.length + 1, 0⟩)) (partOf [[D.int IntKind.i64 (-1), D.int IntKind.i64 0, D.int IntKind.i64 0, D.int IntKind.i64 0, D.int IntKind.i64 a], [D.int IntKind.i64 (-1), D.int IntKind.i64 0, D.int IntKind.i64 0, D.int IntKind.i64 0, D.int IntKind.i64 b]] none) = eL cN (t.set k ⟨x.f, x.c, t.length, t.length + 1, 0⟩ ++ [⟨-1, 0, 0, 0, a⟩, ⟨-1, 0, 0, 0, b⟩]) by
  rw [← eL_join]; simp [eL, cN]]
 conv => whnf
 refine .inr (.inr (.inr (.inr (.inr (.inl ⟨_, _, _, _, _, spec_l17Levels_spec _ (grown_kids h hk x.f x.c a b) (by simp) (by simp; omega), fun t' ht' => ⟨rfl, ?_⟩⟩)))))
 simp at ht'
 refine ⟨t', by omega, ?_⟩
 conv => whnf
end Go.H.S
