/- Library, part A: how data are laid; sizes. -/
import Derived.Test.YtbclkplebkencaaNm
namespace Go.H.S
open Go Go.Proofs Go.H
attribute [local irreducible] Tri FnSpec FnSpecM
set_option maxRecDepth 100000
set_option linter.unusedSimpArgs false
set_option linter.unusedVariables false

abbrev ai (n : Int) : AV := .c (.d (.int .i64 n))
abbrev ab (b : Bool) : AV := .c (.d (.bool b))
abbrev aS (s : ByteArray) : AV := .c (.d (.str s))
structure Nd where
  f : Int
  c : Int
  l : Int
  r : Int
  v : Int
  deriving DecidableEq, Inhabited
def cS (s : ByteArray) : List D := [.str s]
def cI (n : Int) : List D := [.int .i64 n]
def cN (n : Nd) : List D := [.int .i64 n.f, .int .i64 n.c, .int .i64 n.l, .int .i64 n.r, .int .i64 n.v]
def cT (t : List Nd) : List D := [.sl 5 (eL cN t)]
abbrev aSs (xs : List ByteArray) : AV := .c (.d (.sl 1 (eL cS xs)))
abbrev aIs (xs : List Int) : AV := .c (.d (.sl 1 (eL cI xs)))
abbrev aNs (xs : List Nd) : AV := .c (.d (.sl 5 (eL cN xs)))
abbrev aTs (xs : List (List Nd)) : AV := .c (.d (.sl 1 (eL cT xs)))
abbrev cNd (n : Nd) : List CV := [.d (.int .i64 n.f), .d (.int .i64 n.c), .d (.int .i64 n.l), .d (.int .i64 n.r), .d (.int .i64 n.v)]
abbrev aN (n : Nd) : AV := .agg (cNd n)
abbrev cTr (t : List Nd) : List CV := [.d (.sl 5 (eL cN t))]
abbrev aT (t : List Nd) : AV := .agg (cTr t)

def cIs (xs : List Int) : List D := [.sl 1 (eL cI xs)]
def cSs (xs : List ByteArray) : List D := [.sl 1 (eL cS xs)]
abbrev aIss (xs : List (List Int)) : AV := .c (.d (.sl 1 (eL cIs xs)))
structure Mdl where
  names : List ByteArray
  signs : List Int
  base : Int
  trees : List (List Nd)
structure Tbl where
  names : List ByteArray
  target : ByteArray
  rows : List (List Int)
  ys : List Int
structure Cfg where
  rounds : Int
  depth : Int
  bins : Int
  lambda : Int
  rows : Int
  num : Int
  den : Int
  signs : List Int
structure Grd where
  cuts : List (List Int)
  bins : List (List Int)
abbrev cM (m : Mdl) : List CV := [.d (.sl 1 (eL cS m.names)), .d (.sl 1 (eL cI m.signs)), .d (.int .i64 m.base), .d (.sl 1 (eL cT m.trees))]
abbrev aM (m : Mdl) : AV := .agg (cM m)
abbrev cTb (t : Tbl) : List CV := [.d (.sl 1 (eL cS t.names)), .d (.str t.target), .d (.sl 1 (eL cIs t.rows)), .d (.sl 1 (eL cI t.ys))]
abbrev aTb (t : Tbl) : AV := .agg (cTb t)
abbrev cCf (c : Cfg) : List CV := [.d (.int .i64 c.rounds), .d (.int .i64 c.depth), .d (.int .i64 c.bins), .d (.int .i64 c.lambda), .d (.int .i64 c.rows), .d (.int .i64 c.num), .d (.int .i64 c.den), .d (.sl 1 (eL cI c.signs))]
abbrev aCf (c : Cfg) : AV := .agg (cCf c)
abbrev cG (g : Grd) : List CV := [.d (.sl 1 (eL cIs g.cuts)), .d (.sl 1 (eL cIs g.bins))]
abbrev aG (g : Grd) : AV := .agg (cG g)

/-- Behind a test of an index: the element. -/
theorem idx_at {α : Type} {f : α → List D} {xs : List α} {n : Int} {k : Nat} {x : α} {K : List D → Prop} (hn : n = (k : Int)) (hx : xs[k]? = some x) (h : K (f x)) : InB n (dLen (eL f xs)) ∧ ∀ c, AtD (eL f xs) (nOf n) c → K c := by
  subst hn
  have hlt := (List.getElem?_eq_some_iff.1 hx).1
  refine ⟨by simp; omega, fun c hc => ?_⟩
  obtain ⟨y, hy, rfl⟩ := at_eL hc
  simp only [nOf_eq, Int.toNat_natCast] at hy
  rw [hx] at hy
  cases hy
  exact h
theorem eL_length {α : Type} (f : α → List D) (xs : List α) : (eL f xs).length = xs.length := by rw [← dLen_len]; simp
theorem eL_get {α : Type} (f : α → List D) (xs : List α) (k : Nat) : (eL f xs)[k]? = (xs[k]?).map f := by rw [eL]; simp
theorem eL_nil {α : Type} (f : α → List D) : eL f [] = [] := by rw [eL]; rfl
theorem eL_cons {α : Type} (f : α → List D) (x : α) (xs : List α) : eL f (x :: xs) = f x :: eL f xs := by rw [eL, eL]; rfl
theorem dApp_eq (es fs : List (List D)) : dApp es fs = es ++ fs := by rw [dApp]
theorem dApp_nil (es : List (List D)) : dApp [] es = es := by rw [dApp_eq]; rfl
theorem dApp_cons (c : List D) (es fs : List (List D)) : dApp (c :: es) fs = c :: dApp es fs := by rw [dApp_eq, dApp_eq]; rfl
theorem iMin_eq (x y : Int) : iMin x y = min x y := by unfold iMin; split <;> omega
theorem iMax_eq (x y : Int) : iMax x y = max x y := by unfold iMax; split <;> omega
/-- The same for a row of the frame's own: an index, a read, a store. -/
theorem ref_at {n : Int} {k m : Nat} {K : Prop} (hn : n = (k : Int)) (hk : k < m) (h : K) : InB n m ∧ K := ⟨by subst hn; simp; omega, h⟩
theorem ld_at {α : Type} {f : α → List D} {xs : List α} {k' k : Nat} {x : α} {K : List D → Prop} (hk : k' = k) (hx : xs[k]? = some x) (h : K (f x)) : ∀ c, (eL f xs)[k']? = some c → K c := fun c hc => by
  rw [hk, eL_get, hx] at hc
  cases hc
  exact h
theorem st_at {α : Type} {f : α → List D} {xs : List α} {k' k j n : Nat} {x : α} {K : List D → Prop} (hk : k' = k) (hx : xs[k]? = some x) (hr : j + n ≤ (f x).length) (h : K (f x)) : ∀ c, AtD (eL f xs) k' c → dRoom j n c ∧ K c := fun c hc => by
  have hc' : (eL f xs)[k']? = some c := by unfold AtD at hc; exact hc
  rw [hk, eL_get, hx] at hc'
  cases hc'
  exact ⟨by simpa using hr, h⟩
theorem cI_set (xs : List Int) (k : Nat) (x y : Int) : dSet (eL cI xs) k (dOver (cI x) 0 [.int .i64 y]) = eL cI (xs.set k y) := by
  rw [dOver_all (by rfl)]; exact eL_set cI xs k y
theorem flat_cI (xs : List Int) : FlatR (eL cI xs) := fun c hc d hd => by
  rw [eL] at hc
  obtain ⟨x, _, rfl⟩ := List.mem_map.1 hc
  simp [cI] at hd
  subst hd; rfl
theorem get_lt {α : Type} {l : List α} {k : Nat} (h : k < l.length) : ∃ x, l[k]? = some x := ⟨_, List.getElem?_eq_getElem h⟩

/-- What is left of a budget. -/
@[irreducible] def bud (m : Int) (c : Nat) : Int := if (c : Int) ≤ m then m - c else -1
theorem bud_lt {m : Int} {c : Nat} (h : m < c) : bud m c = -1 := by simp only [bud]; rw [if_neg (by omega)]
theorem bud_le {m : Int} {c : Nat} (h : (c : Int) ≤ m) : bud m c = m - c := by simp only [bud]; rw [if_pos h]
theorem bud_step {m : Int} {c r : Nat} (h : (c : Int) ≤ m) : bud m (c + r) = bud (m - c) r := by
  simp only [bud]
  by_cases h' : ((c + r : Nat) : Int) ≤ m
  · rw [if_pos h', if_pos (by omega)]; omega
  · rw [if_neg h', if_neg (by omega)]
theorem bud_zero {m : Int} (h : 0 ≤ m) : bud m 0 = m := by simp [bud, h]
theorem bud_neg {m : Int} {c r : Nat} (h : bud m c < 0) : bud m (c + r) = -1 := by
  simp only [bud] at *
  split at h
  · omega
  · rw [if_neg (by omega)]
theorem bud_pos {m : Int} {c : Nat} (h : 0 ≤ bud m c) : (c : Int) ≤ m ∧ bud m c = m - c := by
  simp only [bud] at *
  split at h
  · rename_i hc; exact ⟨hc, by rw [if_pos hc]⟩
  · omega
theorem bud_m1 {m : Int} {c : Nat} (h : bud m c < 0) : bud m c = -1 := by
  simp only [bud] at *
  split at h
  · omega
  · rename_i hc; rw [if_neg hc]
theorem bud_mono {m : Int} {c : Nat} (h : m ≤ 1048576) : bud m c ≤ 1048576 := by
  simp only [bud]
  split <;> omega
theorem bud_bud {m : Int} {a b : Nat} (h : 0 ≤ bud m a) : bud (bud m a) b = bud m (a + b) := by
  obtain ⟨h1, h2⟩ := bud_pos h
  rw [h2, bud_step h1]

def costL {α : Type} (f : α → Nat) : List α → Nat
  | [] => 0
  | x :: r => f x + costL f r
/-- A slice's size: its length and its elements' sizes. -/
@[irreducible] def cost {α : Type} (f : α → Nat) (l : List α) : Nat := l.length + costL f l
theorem cost_eq {α : Type} (f : α → Nat) (l : List α) : cost f l = l.length + costL f l := by rw [cost]

theorem bud_more {m : Int} {c d : Nat} (h : bud m c = -1) (hd : c ≤ d) : bud m d = -1 := by
  simp only [bud] at *
  split at h
  · omega
  · rw [if_neg (by omega)]
theorem bud_slt {m : Int} {c s : Nat} (h : bud m c - s < 0) (g : 0 ≤ bud m c) : bud m (c + s) = -1 := by
  obtain ⟨h1, h2⟩ := bud_pos g
  exact bud_lt (by omega)
theorem bud_sle {m : Int} {c s : Nat} (h : 0 ≤ bud m c - s) (g : 0 ≤ bud m c) : bud m c - s = bud m (c + s) := by
  obtain ⟨h1, h2⟩ := bud_pos g
  rw [bud_le (show ((c + s : Nat) : Int) ≤ m by omega)]; omega
theorem wI {k n : Nat} (h : k < n) (hn : n ≤ 9223372036854775807) : wAdd .i64 (k : Int) 1 = ((k + 1 : Nat) : Int) := by
  have := wInc h hn
  simpa using this
theorem toNode_spec (n : Nd) : FnSpec PR f_laws_toNode [aN n] (aN n) [] 0 := by
  refine FnSpec.intro hT p_laws_toNode rfl (by kernel_rfl) n_laws_toNode rfl ?_
  conv => whnf
theorem eqNode_spec (n : Nd) : FnSpec PR f_laws_eqNode [aN n, aN n] (ab true) [] 0 := by
  refine FnSpec.intro hT p_laws_eqNode rfl (by kernel_rfl) n_laws_eqNode rfl ?_
  conv => whnf
  iterate 5
    refine ifB_i (fun hb => ?_) (fun hb => ?_)
    · simp at hb
    (conv => whnf)
end Go.H.S
