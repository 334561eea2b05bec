/- Library, part A: how data are laid; sizes. -/
import Derived.Test.YtdolkacinfjhcaaGreatNm
set_option maxRecDepth 100000
set_option linter.unusedSimpArgs false
set_option linter.unusedVariables false
namespace Go.H.S
open Go Go.Proofs Go.H
attribute [local irreducible] Tri z6 zV
abbrev ai (n : Int) : AV := .c (.d (.int .i64 n))
abbrev ab (b : Bool) : AV := .c (.d (.bool b))
abbrev aS (s : ByteArray) : AV := .c (.d (.str s))
structure Nd where
 f : Int
 c : Int
 l : Int
 r : Int
 v : Int
 deriving DecidableEq, Inhabited
def cS (s : ByteArray) : List D := [.str s]
def cI (n : Int) : List D := [.int .i64 n]
def cN (n : Nd) : List D := [.int .i64 n.f, .int .i64 n.c, .int .i64 n.l, .int .i64 n.r, .int .i64 n.v]
def cT (t : List Nd) : List D := [.sl 5 (eL cN t)]
abbrev aSs (xs : List ByteArray) : AV := .c (.d (.sl 1 (eL cS xs)))
abbrev aIs (xs : List Int) : AV := .c (.d (.sl 1 (eL cI xs)))
abbrev aNs (xs : List Nd) : AV := .c (.d (.sl 5 (eL cN xs)))
abbrev aTs (xs : List (List Nd)) : AV := .c (.d (.sl 1 (eL cT xs)))
abbrev cNd (n : Nd) : List CV := [.d (.int .i64 n.f), .d (.int .i64 n.c), .d (.int .i64 n.l), .d (.int .i64 n.r), .d (.int .i64 n.v)]
abbrev aN (n : Nd) : AV := .agg (cNd n)
abbrev cTr (t : List Nd) : List CV := [.d (.sl 5 (eL cN t))]
abbrev aT (t : List Nd) : AV := .agg (cTr t)
def cIs (xs : List Int) : List D := [.sl 1 (eL cI xs)]
abbrev aIss (xs : List (List Int)) : AV := .c (.d (.sl 1 (eL cIs xs)))
structure Mdl where
 names : List ByteArray
 signs : List Int
 base : Int
 trees : List (List Nd)
structure Tbl where
 names : List ByteArray
 target : ByteArray
 rows : List (List Int)
 ys : List Int
structure Cfg where
 rounds : Int
 depth : Int
 bins : Int
 lambda : Int
 rows : Int
 num : Int
 den : Int
 signs : List Int
structure Grd where
 cuts : List (List Int)
 bins : List (List Int)
abbrev cM (m : Mdl) : List CV := [.d (.sl 1 (eL cS m.names)), .d (.sl 1 (eL cI m.signs)), .d (.int .i64 m.base), .d (.sl 1 (eL cT m.trees))]
abbrev aM (m : Mdl) : AV := .agg (cM m)
abbrev cTb (t : Tbl) : List CV := [.d (.sl 1 (eL cS t.names)), .d (.str t.target), .d (.sl 1 (eL cIs t.rows)), .d (.sl 1 (eL cI t.ys))]
abbrev aTb (t : Tbl) : AV := .agg (cTb t)
abbrev cCf (c : Cfg) : List CV := [.d (.int .i64 c.rounds), .d (.int .i64 c.depth), .d (.int .i64 c.bins), .d (.int .i64 c.lambda), .d (.int .i64 c.rows), .d (.int .i64 c.num), .d (.int .i64 c.den), .d (.sl 1 (eL cI c.signs))]
abbrev aCf (c : Cfg) : AV := .agg (cCf c)
abbrev cG (g : Grd) : List CV := [.d (.sl 1 (eL cIs g.cuts)), .d (.sl 1 (eL cIs g.bins))]
abbrev aG (g : Grd) : AV := .agg (cG g)
theorem zE {α : Type} {f : α → List D} {xs : List α} {n : Int} {k : Nat} {x : α} {K : List D → Prop} (hn : n = (k : Int)) (hx : xs[k]? = some x) (h : K (f x)) : InB n (dLen (eL f xs)) ∧ ∀ c, AtD (eL f xs) (nOf n) c → K c := by
 subst hn
 have hlt := (List.getElem?_eq_some_iff.1 hx).1
 refine ⟨by simp; omega, fun c hc => ?_⟩
 obtain ⟨y, hy, rfl⟩ := at_eL hc
 simp only [z2E, Int.toNat_natCast] at hy
 rw [hx] at hy
 cases hy
 exact h
theorem zF {α : Type} (f : α → List D) (xs : List α) : (eL f xs).length = xs.length := by rw [← zS]; simp
theorem z5F {α : Type} (f : α → List D) (xs : List α) (k : Nat) : (eL f xs)[k]? = (xs[k]?).map f := by rw [eL]; simp
theorem zg {α : Type} (f : α → List D) : eL f [] = [] := by rw [eL]; rfl
theorem z4L {α : Type} (f : α → List D) (x : α) (xs : List α) : eL f (x :: xs) = f x :: eL f xs := by rw [eL, eL]; rfl
theorem zEM (es fs : List (List D)) : dApp es fs = es ++ fs := by rw [dApp]
theorem wE (es : List (List D)) : dApp [] es = es := by rw [zEM]; rfl
theorem zJF (c : List D) (es fs : List (List D)) : dApp (c :: es) fs = c :: dApp es fs := by rw [zEM, zEM]; rfl
theorem zLd (x y : Int) : iMin x y = min x y := by unfold iMin; split <;> omega
theorem yF {n : Int} {k m : Nat} {K : Prop} (hn : n = (k : Int)) (hk : k < m) (h : K) : InB n m ∧ K := ⟨by subst hn; simp; omega, h⟩
theorem wK {α : Type} {f : α → List D} {xs : List α} {k' k : Nat} {x : α} {K : List D → Prop} (hk : k' = k) (hx : xs[k]? = some x) (h : K (f x)) : ∀ c, (eL f xs)[k']? = some c → K c := fun c hc => by
 rw [hk, z5F, hx] at hc
 cases hc
 exact h
theorem zCq {α : Type} {f : α → List D} {xs : List α} {k' k j n : Nat} {x : α} {K : List D → Prop} (hk : k' = k) (hx : xs[k]? = some x) (hr : j + n ≤ (f x).length) (h : K (f x)) : ∀ c, AtD (eL f xs) k' c → zEK j n c ∧ K c := fun c hc => by
 have hc' : (eL f xs)[k']? = some c := by unfold AtD at hc; exact hc
 rw [hk, z5F, hx] at hc'
 cases hc'
 exact ⟨by simpa using hr, h⟩
theorem zL6 (xs : List Int) (k : Nat) (x y : Int) : dSet (eL cI xs) k (z0s (cI x) 0 [.int .i64 y]) = eL cI (xs.set k y) := by
 rw [zFU (by rfl)]; exact z5E cI xs k y
theorem z0j (xs : List Int) : z9S (eL cI xs) := fun c hc d hd => by
 rw [eL] at hc
 obtain ⟨x, _, rfl⟩ := List.mem_map.1 hc
 simp [cI] at hd
 subst hd; rfl
theorem zH {α : Type} {l : List α} {k : Nat} (h : k < l.length) : ∃ x, l[k]? = some x := ⟨_, List.getElem?_eq_getElem h⟩
theorem wI {k n : Nat} (h : k < n) (hn : n ≤ 9223372036854775807) : wAdd .i64 (k : Int) 1 = ((k + 1 : Nat) : Int) := by
 have := wInc h hn
 simpa using this
end Go.H.S
namespace Go.H.S
open Go Go.Proofs Go.H
attribute [local irreducible] Tri z6 zV
end Go.H.S
namespace Go.H.S
open Go Go.Proofs Go.H
attribute [local irreducible] Tri z6 zV
theorem yw (n : Nd) : z6 PR zAS [aN n] (ab (bNot (iEq n.f (-1)))) [] 0 := by
 refine z6.intro hT (pf Tryz.func92) rfl (by kernel_rfl) Tryz.ntmps92 rfl ?_
 conv => whnf
theorem wL (n : Nd) : z6 PR zDt [aN n] (ab (iEq n.f (-1))) [] 0 := by
 refine z6.intro hT (pf Tryz.func100) rfl (by kernel_rfl) Tryz.ntmps100 rfl ?_
 conv => whnf
theorem zG (x lo hi : Int) : z6 PR zDp [ai x, ai lo, ai hi] (ab (decide (lo ≤ x ∧ x ≤ hi))) [] 0 := by
 refine z6.intro hT (pf Tryz.func122) rfl (by kernel_rfl) Tryz.ntmps122 rfl ?_
 conv => whnf
 refine zK (fun h => ?_) (fun h => ?_) <;> (conv => whnf) <;> simp only [eH] at h
 ·((conv => whnf); simp only [eS])
  simp [iLe, h]
 ·((conv => whnf); simp only [eS])
  simp
  omega
theorem zM (x lo hi : Int) : z6 PR zG5 [ai x, ai lo, ai hi] (ab (decide (lo ≤ x ∧ x ≤ hi))) [] 0 := by
 refine z6.intro hT (pf Tryz.func125) rfl (by kernel_rfl) Tryz.ntmps125 rfl ?_
 conv => whnf
 refine zK (fun h => ?_) (fun h => ?_) <;> (conv => whnf) <;> simp only [eH] at h
 ·((conv => whnf); simp only [eS])
  simp [iLe, h]
 ·((conv => whnf); simp only [eS])
  simp
  omega
theorem z9l (x y : Int) : z6 PR zFJ [ai x, ai y] (ai (max x y)) [] 0 := by
 refine z6.intro hT (pf Tryz.func238) rfl (by kernel_rfl) Tryz.ntmps238 rfl ?_
 conv => whnf
 refine zK (fun h => ?_) (fun h => ?_) <;> (conv => whnf) <;> simp only [eH] at h <;> ((conv => whnf); simp only [eS]) <;> omega
end Go.H.S
namespace Go.H.S
open Go Go.Proofs Go.H
attribute [local irreducible] Tri z6 zV
def idxL {α : Type} (p : α → Bool) : List α → Nat → Int
 | [], _ => -1
 | x :: r, k => if p x then k else idxL p r (k + 1)
theorem zIs {α : Type} (p : α → Bool) : ∀ (l : List α) (k : Nat), -1 ≤ idxL p l k ∧ (idxL p l k < (k + l.length : Nat)) ∧ (0 ≤ idxL p l k → (k : Int) ≤ idxL p l k)
 | [], k => by simp only [idxL, List.length_nil]; omega
 | x :: r, k => by
  simp only [idxL, List.length_cons]
  split
  ·omega
  ·have := zIs p r (k + 1); omega
theorem zGy (x : Int) : ∀ (l : List Int) (k : Nat), (0 ≤ idxL (fun y => decide (x = y)) l k) ↔ x ∈ l
 | [], k => by simp [idxL]
 | y :: r, k => by
  simp only [idxL, List.mem_cons]
  have ih := zGy x r (k + 1)
  by_cases h : x = y
  ·simp [h]
  ·simp [h, ih]
def pUp (node : Int) (n : Nd) : Bool := decide (n.f ≠ -1) && (decide (n.l = node) || decide (n.r = node))
def up (t : List Nd) (node : Int) : Int := idxL (pUp node) t 0
theorem up_lt (t : List Nd) (node : Int) : -1 ≤ up t node ∧ up t node < t.length := by have := zIs (pUp node) t 0; unfold up; omega
def yN (t : List Nd) : Nat → Int → Option (List Int)
 | 0, _ => none
 | n + 1, x => (if up t x < 0 then some [] else yN t n (up t x)).map (x :: ·)
def wayL (t : List Nd) (node : Int) : List Int :=
 if 0 ≤ node ∧ node ≤ (t.length : Int) - 1 then (match yN t 32 node with | some l => l.reverse | none => []) else []
theorem z63 (t : List Nd) : ∀ (n : Nat) (x : Int) (l : List Int), yN t n x = some l → l.length ≤ n
 | 0, x, l, h => by simp [yN] at h
 | n + 1, x, l, h => by
  simp only [yN, Option.map_eq_some_iff] at h
  obtain ⟨r, h1, rfl⟩ := h
  split at h1
  ·cases h1; simp
  ·have := z63 t n _ r h1; simp; omega
theorem zGf (t : List Nd) : ∀ (n : Nat) (x : Int) (l : List Int), 0 ≤ x ∧ x < t.length → yN t n x = some l → ∀ y ∈ l, 0 ≤ y ∧ y < t.length
 | 0, x, l, hx, h => by simp [yN] at h
 | n + 1, x, l, hx, h => by
  simp only [yN, Option.map_eq_some_iff] at h
  obtain ⟨r, h1, rfl⟩ := h
  intro y hy
  rcases List.mem_cons.1 hy with rfl | hy
  ·exact hx
  ·split at h1
   ·cases h1; cases hy
   ·exact zGf t n _ r (by have := up_lt t x; omega) h1 y hy
theorem zCi (t : List Nd) (x : Int) : (wayL t x).length ≤ 32 := by
 unfold wayL
 split
 ·split
  ·rename_i l h; have := z63 t 32 x l h; simpa using this
  ·simp
 ·simp
theorem z7S (l : List Int) (x : Int) (hl : l.length ≤ 9223372036854775807) : z6 PR z3I [aIs l, ai x] (ai (idxL (fun y => decide (x = y)) l 0)) [] 0 := by
 refine z6.intro hT (pf Tryz.func277) rfl (by kernel_rfl) Tryz.ntmps277 rfl ?_
 conv => whnf
 refine zB hT [0, 1, 7, 8] (α := Nat) (fun k => { t := [(0, aIs l), (1, ai x), (7, ai l.length), (8, ai k)], h := [], n := 0, N := 19 })
  (fun k => k ≤ l.length ∧ idxL (fun y => decide (x = y)) (l.drop k) k = idxL (fun y => decide (x = y)) l 0) (fun k => l.length - k) 0 (by ((conv => whnf); simp only [eS])) ⟨Nat.zero_le _, rfl⟩ ?_
 intro k ⟨hk, hi⟩
 conv => whnf
 refine zK (fun h1 => ?_) (fun h1 => ?_) <;> (conv => whnf) <;> simp at h1
 ·obtain ⟨s, hs⟩ := zH h1
  refine zE (by simp) hs ?_
  conv => whnf
  rw [zy hs, idxL] at hi
  refine zK (fun h2 => ?_) (fun h2 => ?_) <;> (conv => whnf) <;> simp only [eH] at h2
  ·rw [if_pos (by simpa using h2)] at hi
   ((conv => whnf); simp only [eS, hi])
  ·rw [if_neg (by simpa using h2)] at hi
   refine ⟨k + 1, by omega, ⟨h1, hi⟩, ?_⟩
   ((conv => whnf); simp only [eS, wI h1 hl])
 ·obtain rfl : k = l.length := by omega
  simp only [List.drop_length, idxL] at hi
  ((conv => whnf); simp only [eS, ← hi])
theorem z4p (l : List Int) (x : Int) (hl : l.length ≤ 9223372036854775807) : z6 PR z23 [aIs l, ai x] (ab (decide (x ∈ l))) [] 0 := by
 refine z6.intro hT (pf Tryz.func191) rfl (by kernel_rfl) Tryz.ntmps191 rfl ?_
 conv => whnf
 refine .inl ⟨_, _, _, z7S l x hl, rfl, ?_⟩
 ((conv => whnf); simp only [eS, iLe])
 rw [decide_eq_decide]
 exact zGy x l 0
theorem yW (t : List Nd) (node : Int) (hl : t.length ≤ 9223372036854775807) : z6 PR zFK [aT t, ai node] (ai (up t node)) [] 0 := by
 refine z6.intro hT (pf Tryz.func206) rfl (by kernel_rfl) Tryz.ntmps206 rfl ?_
 conv => whnf
 refine zB hT [1, 2, 5] (α := Nat) (fun k => { t := [(1, ai node), (2, .c (.ptr 0 0)), (5, ai k)], h := [(0, .box zL (cTr t))], n := 1, N := 40 })
  (fun k => k ≤ t.length ∧ idxL (pUp node) (t.drop k) k = up t node) (fun k => t.length - k) 0 (by ((conv => whnf); simp only [eS])) ⟨Nat.zero_le _, rfl⟩ ?_
 intro k ⟨hk, hi⟩
 conv => whnf
 refine zK (fun h1 => ?_) (fun h1 => ?_) <;> (conv => whnf) <;> simp at h1
 ·obtain ⟨s, hs⟩ := zH h1
  rw [zy hs, idxL] at hi
  refine zE (by simp) hs ?_
  conv => whnf
  refine .inl ⟨_, _, _, yw s, rfl, ?_⟩
  conv => whnf
  refine zK (fun h2 => ?_) (fun h2 => ?_) <;> (conv => whnf)
  ·refine zE (by simp) hs ?_
   conv => whnf
   refine zK (fun h3 => ?_) (fun h3 => ?_) <;> (conv => whnf)
   ·rw [if_pos (by simp_all [pUp, iEq, bNot])] at hi
    ((conv => whnf); simp only [eS, hi])
   ·refine zE (by simp) hs ?_
    conv => whnf
    refine zK (fun h4 => ?_) (fun h4 => ?_) <;> (conv => whnf)
    ·rw [if_pos (by simp_all [pUp, iEq, bNot])] at hi
     ((conv => whnf); simp only [eS, hi])
    ·rw [if_neg (by simp_all [pUp, iEq, bNot])] at hi
     refine ⟨k + 1, by omega, ⟨h1, hi⟩, ?_⟩
     ((conv => whnf); simp only [eS, wI h1 hl])
  ·rw [if_neg (by simp_all [pUp, iEq, bNot])] at hi
   refine ⟨k + 1, by omega, ⟨h1, hi⟩, ?_⟩
   ((conv => whnf); simp only [eS, wI h1 hl])
 ·obtain rfl : k = t.length := by omega
  simp only [List.drop_length, idxL] at hi
  ((conv => whnf); simp only [eS, ← hi])
theorem z6X (n : Nd) (node : Int) : z6 PR z4F [aN n, .c (.d (.rp [.int .i64 node]))] (ab (pUp node n)) [] 0 := by
 refine z6.intro hT (pf Tryz.func294) rfl (by kernel_rfl) Tryz.ntmps294 rfl ?_
 conv => whnf
 refine .inl ⟨_, _, _, wL n, rfl, ?_⟩
 conv => whnf
 refine zK (fun h1 => ?_) (fun h1 => ?_) <;> (conv => whnf)
 ·refine zK (fun h2 => ?_) (fun h2 => ?_) <;> (conv => whnf) <;> ((conv => whnf); simp only [eS]) <;> simp_all [pUp, iEq, bNot]
 ·((conv => whnf); simp only [eS])
  simp_all [pUp, iEq, bNot]
theorem z1z (t : List Nd) (g : FuncId) (d : D) (p : Nd → Bool) (hp : ∀ n, z6 PR g [aN n, .c (.d d)] (ab (p n)) [] 0) (hl : t.length ≤ 9223372036854775807) :
  z6 PR wd [aNs t, .c (.d (.fn g [d]))] (ai (idxL p t 0)) [] 0 := by
 refine z6.intro hT (pf Tryz.func293) rfl (by kernel_rfl) Tryz.ntmps293 rfl ?_
 conv => whnf
 refine zB hT [0, 1, 7, 8] (α := Nat) (fun k => { t := [(0, aNs t), (1, .c (.d (.fn g [d]))), (7, ai t.length), (8, ai k)], h := [], n := 0, N := 19 })
  (fun k => k ≤ t.length ∧ idxL p (t.drop k) k = idxL p t 0) (fun k => t.length - k) 0 (by ((conv => whnf); simp only [eS])) ⟨Nat.zero_le _, rfl⟩ ?_
 intro k ⟨hk, hi⟩
 conv => whnf
 refine zK (fun h1 => ?_) (fun h1 => ?_) <;> (conv => whnf) <;> simp at h1
 ·obtain ⟨s, hs⟩ := zH h1
  rw [zy hs, idxL] at hi
  refine zE (by simp) hs ?_
  conv => whnf
  refine .inl ⟨_, _, _, hp s, rfl, ?_⟩
  conv => whnf
  refine zK (fun h2 => ?_) (fun h2 => ?_) <;> (conv => whnf)
  ·rw [if_pos h2] at hi
   ((conv => whnf); simp only [eS, hi])
  ·rw [if_neg (by simp [h2])] at hi
   refine ⟨k + 1, by omega, ⟨h1, hi⟩, ?_⟩
   ((conv => whnf); simp only [eS, wI h1 hl])
 ·obtain rfl : k = t.length := by omega
  simp only [List.drop_length, idxL] at hi
  ((conv => whnf); simp only [eS, ← hi])
theorem z3U (t : List Nd) (node : Int) (hl : t.length ≤ 9223372036854775807) : z6 PR zDr [aT t, ai node] (ai (up t node)) [] 0 := by
 refine z6.intro hT (pf Tryz.func236) rfl (by kernel_rfl) Tryz.ntmps236 rfl ?_
 conv => whnf
 refine .inr (.inl ⟨_, _, _, z1z t z4F (.rp [.int .i64 node]) (pUp node) (fun n => z6X n node) hl, rfl, trivial, ?_⟩)
 conv => whnf
 rfl
def lvl (t : List Nd) (n : Nat) (x : Int) (k : Int) : Int := match yN t n x with | some l => (l.length : Int) - 1 + k | none => -1
def z0p (t : List Nd) (node : Int) : Int := if 0 ≤ node ∧ node ≤ (t.length : Int) - 1 then lvl t 32 node 0 else -1
theorem lvl_lt {t : List Nd} {n : Nat} {x : Int} (k : Int) (h : up t x < 0) : lvl t (n + 1) x k = k := by simp [lvl, yN, h]
theorem lvl_ge {t : List Nd} {n : Nat} {x : Int} (k : Int) (h : ¬ up t x < 0) : lvl t (n + 1) x k = lvl t n (up t x) (k + 1) := by
 simp only [lvl, yN, if_neg h]
 cases yN t n (up t x) with
 | none => rfl
 | some l => simp only [Option.map_some, List.length_cons]; omega
theorem z2f (t : List Nd) (node : Int) (hl : t.length ≤ 9223372036854775807) : z6 PR zBe [aT t, ai node] (ai (z0p t node)) [] 0 := by
 have e : wSub .i64 t.length 1 = (t.length : Int) - 1 := yB (by omega) (by omega)
 refine z6.intro hT (pf Tryz.func89) rfl (by kernel_rfl) Tryz.ntmps89 rfl ?_
 conv => whnf
 refine .inl ⟨_, _, _, zM _ _ _, rfl, ?_⟩
 conv => whnf
 refine zK (fun h1 => ?_) (fun h1 => ?_) <;> (conv => whnf) <;> simp only [eH, e, decide_eq_true_eq, decide_eq_false_iff_not] at h1
 ·rw [z0p, if_neg h1]
 rw [z0p, if_pos h1]
 refine zB hT [1, 2, 5] (α := Nat × Int) (fun x => { t := [(1, ai x.2), (2, .c (.ptr 0 0)), (5, ai x.1)], h := [(0, .box zL (cTr t))], n := 1, N := 23 })
  (fun x => x.1 ≤ 32 ∧ lvl t (32 - x.1) x.2 x.1 = lvl t 32 node 0) (fun x => 32 - x.1) (0, node) (by ((conv => whnf); simp only [eS])) ⟨by omega, rfl⟩ ?_
 intro ⟨k, x⟩ ⟨hk, hi⟩
 dsimp only at hk hi
 conv => whnf
 refine zK (fun h2 => ?_) (fun h2 => ?_) <;> (conv => whnf) <;> simp only [eH] at h2
 ·refine .inl ⟨_, _, _, yW t x hl, rfl, ?_⟩
  conv => whnf
  rw [show 32 - k = (31 - k) + 1 by omega] at hi
  refine zK (fun h3 => ?_) (fun h3 => ?_) <;> (conv => whnf) <;> simp only [eH] at h3
  ·rw [lvl_lt _ h3] at hi
   ((conv => whnf); simp only [eS, ← hi])
  ·rw [lvl_ge _ (by omega)] at hi
   refine ⟨(k + 1, up t x), by dsimp only; omega, ⟨by dsimp only; omega, ?_⟩, ?_⟩
   ·dsimp only
    rw [← hi, show 32 - (k + 1) = 31 - k by omega, Int.natCast_add]
    rfl
   ·((conv => whnf); simp only [eS, wI (show k < 33 by omega) (by omega)])
 ·obtain rfl : k = 32 := by omega
  have hi' : lvl t 0 x 32 = lvl t 32 node 0 := hi
  rw [← hi']
  ((conv => whnf); simp only [eS, lvl, yN])
def revK (l : List Int) (i : Nat) : List Int := (l.reverse.take i) ++ ((l.drop i).take (l.length - 2 * i)) ++ l.reverse.drop (l.length - i)
theorem zGl (l : List Int) (i : Nat) (h : 2 * i ≤ l.length) : (revK l i).length = l.length := by simp [revK]; omega
theorem z9W (l : List Int) (i k : Nat) (h : 2 * i ≤ l.length) : (revK l i)[k]? = if k < i ∨ (l.length - i ≤ k ∧ k < l.length) then l.reverse[k]? else l[k]? := by
 simp only [revK]
 by_cases h1 : k < i
 ·rw [if_pos (.inl h1), List.append_assoc, List.getElem?_append_left (by simp; omega), List.getElem?_take, if_pos h1]
 ·by_cases h2 : k < l.length - i
  ·rw [if_neg (by omega), List.getElem?_append_left (by simp; omega), List.getElem?_append_right (by simp; omega), List.getElem?_take, List.getElem?_drop]
   simp only [List.length_take, List.length_reverse]
   rw [Nat.min_eq_left (by omega), if_pos (by omega), show i + (k - i) = k by omega]
  ·rw [List.getElem?_append_right (by simp; omega)]
   simp only [List.length_append, List.length_take, List.length_reverse, List.length_drop, List.getElem?_drop]
   by_cases h3 : k < l.length
   ·rw [if_pos (by omega)]
    congr 1; omega
   ·have e1 : l[k]? = none := List.getElem?_eq_none (by omega)
    rw [if_neg (by omega), e1]
    apply List.getElem?_eq_none
    simp only [List.length_reverse]
    omega
theorem zKC (l : List Int) (i : Nat) (h : l.length ≤ 2 * i + 1) (h2 : 2 * i ≤ l.length) : revK l i = l.reverse := by
 apply List.ext_getElem?
 intro k
 rw [z9W l i k h2]
 split
 ·rfl
 ·rename_i hn
  by_cases hk : k < l.length
  ·have : l.length = 2 * i + 1 ∧ k = i := by omega
   rw [List.getElem?_reverse (by omega)]
   congr 1; omega
  ·rw [List.getElem?_eq_none (by omega), List.getElem?_eq_none (by simp; omega)]
theorem zIQ (l : List Int) (i : Nat) (a b : Int) (h : 2 * i + 1 < l.length) (ha : (revK l i)[i]? = some a) (hb : (revK l i)[l.length - 1 - i]? = some b) :
  ((revK l i).set i b).set (l.length - 1 - i) a = revK l (i + 1) := by
 rw [z9W l i _ (by omega)] at ha hb
 rw [if_neg (by omega)] at ha hb
 apply List.ext_getElem?
 intro k
 rw [List.getElem?_set, List.getElem?_set, z9W l i k (by omega), z9W l (i + 1) k (by omega)]
 simp only [List.length_set, zGl l i (by omega)]
 by_cases h1 : l.length - 1 - i = k
 ·subst h1
  rw [if_pos rfl, if_pos (by omega), if_pos (by omega), List.getElem?_reverse (by omega), show l.length - 1 - (l.length - 1 - i) = i by omega, ha]
 ·rw [if_neg h1]
  by_cases h2 : i = k
  ·subst h2
   rw [if_pos rfl, if_pos (by omega), if_pos (by omega), List.getElem?_reverse (by omega), hb]
  ·rw [if_neg h2]
   by_cases h3 : k < i ∨ l.length - i ≤ k ∧ k < l.length
   ·rw [if_pos h3, if_pos (by omega)]
   ·rw [if_neg h3, if_neg (by omega)]
theorem zIP (l : List Int) : revK l 0 = l := by simp [revK]
theorem z5X (l : List Int) (hl : l.length ≤ 1048576) : zV PR z2T [.c (.ref 0 0 none)] zW 1 (eL cI l) (.tup []) (eL cI l.reverse) := by
 refine zV.intro hT 0 (pf Tryz.func237) rfl (by kernel_rfl) Tryz.ntmps237 rfl rfl (by simp [zF]) rfl (z0j _) ?_
 intro v0
 conv => whnf
 have e : wSub .i64 l.length 1 = (l.length : Int) - 1 := yB (by omega) (by omega)
 refine zB hT [0, 2, 3] (α := Nat) (fun i => { t := [(0, .w (.ref 0 0 none) v0), (2, ai i), (3, ai ((l.length : Int) - 1 - i))], h := [(0, .arr zW 1 0 .own (eL cI (revK l i)))], n := 1, N := 28 })
  (fun i => 2 * i ≤ l.length) (fun i => l.length - i) 0 (by ((conv => whnf); simp only [eS, e, zIP, Int.sub_zero, z0C])) (by omega) ?_
 intro i hi
 conv => whnf
 refine zK (fun h1 => ?_) (fun h1 => ?_) <;> (conv => whnf) <;> simp only [eH] at h1
 ·have hlen := zGl l i hi
  obtain ⟨a, ha⟩ := zH (l := revK l i) (k := i) (by omega)
  obtain ⟨b, hb⟩ := zH (l := revK l i) (k := l.length - 1 - i) (by omega)
  have ej : (l.length : Int) - 1 - i = ((l.length - 1 - i : Nat) : Int) := by omega
  rw [ej]
  refine zGa hT hmix [0, 2, 3] { t := [(0, .w (.ref 0 0 none) v0), (2, ai i), (3, ai ((l.length - 1 - i : Nat) : Int))], h := [(0, .arr zW 1 0 .own (eL cI (revK l (i + 1))))], n := 1, N := 28 } rfl ?_ ?_
  ·have hb2 : ((revK l i).set i b)[l.length - 1 - i]? = some b := by rw [List.getElem?_set_ne (by omega)]; exact hb
   have hst := zIQ l i a b (by omega) ha hb
   have ki : nAdd (offR none) (nOf (i : Int)) = i := by simp
   have kj : nAdd (offR none) (nOf ((l.length - 1 - i : Nat) : Int)) = l.length - 1 - i := by simp
   conv => whnf
   repeat' first
    | (refine yF rfl (by simp; omega) ?_; (conv => whnf))
    | (refine wK ki ha ?_; (conv => whnf))
    | (refine wK kj hb ?_; (conv => whnf))
    | (refine zCq ki ha (Nat.le_refl 1) ?_; simp only [zL6, z6L, wr, z2E, Int.toNat_natCast, Nat.zero_add]; (conv => whnf))
    | (refine zCq kj hb2 (Nat.le_refl 1) ?_; simp only [zL6, z6L, wr, z2E, Int.toNat_natCast, Nat.zero_add]; (conv => whnf))
    | (refine And.intro ?_ ?_ <;> (conv => whnf))
    | (((conv => whnf); simp only [eS, hst]); done)
    | (rw [hst]; done)
  ·conv => whnf
   refine ⟨i + 1, by omega, by omega, ?_⟩
   ((conv => whnf); simp only [eS, wI (show i < l.length by omega) (by omega), yB (show -9223372036854775808 ≤ ((l.length - 1 - i : Nat) : Int) - 1 by omega) (by omega)])
   omega
 ·((conv => whnf); simp only [eS, zKC l i (by omega) hi])
end Go.H.S
namespace Go.H.S
open Go Go.Proofs Go.H
attribute [local irreducible] Tri z6 zV
theorem z9m (t : List Nd) (node : Int) (hl : t.length ≤ 9223372036854775807) : z6 PR zFL [aT t, ai node] (.c (.ref 0 0 none)) [(0, .arr zW 1 0 .own (eL cI (wayL t node)))] 1 := by
 refine z6.intro hT (pf Tryz.func130) rfl (by kernel_rfl) Tryz.ntmps130 rfl ?_
 conv => whnf
 refine .inl ⟨_, _, _, z2f t node hl, rfl, ?_⟩
 conv => whnf
 refine zK (fun h1 => ?_) (fun h1 => ?_) <;> (conv => whnf) <;> simp only [eH] at h1
 ·have : wayL t node = [] := by
   unfold z0p lvl at h1
   unfold wayL
   split at h1
   ·rename_i hn
    split at h1
    ·rename_i l hs
     cases l with
     | nil =>
      have : yN t 32 node = some [] := hs
      simp [yN] at this
     | cons x r => simp at h1; omega
    ·rename_i hs
     have : yN t 32 node = none := hs
     simp [hn, this]
   ·rename_i hn; rw [if_neg hn]
  rw [this]
  ((conv => whnf); simp only [eS, zg])
 ·obtain ⟨hn, l, hs⟩ : (0 ≤ node ∧ node ≤ (t.length : Int) - 1) ∧ ∃ l, yN t 32 node = some l := by
   unfold z0p lvl at h1
   split at h1
   ·rename_i hn
    split at h1
    ·rename_i l hs; exact ⟨hn, l, hs⟩
    ·omega
   ·omega
  have hway : wayL t node = l.reverse := by unfold wayL; rw [if_pos hn, hs]
  have hlen := z63 t 32 node l hs
  refine zB hT [1, 2, 5] (α := Int × List Int × List Int) (fun x => { t := [(1, ai x.1), (2, .c (.ptr 0 0)), (5, .c (.ref 1 0 none))], h := [(0, .box zL (cTr t)), (1, .arr zW 1 0 .own (eL cI x.2.1))], n := 2, N := 22 })
   (fun x => x.2.2.reverse ++ x.2.1 = l.reverse ∧ ((x.1 < 0 ∧ x.2.2 = []) ∨ (0 ≤ x.1 ∧ ∃ k, yN t k x.1 = some x.2.2))) (fun x => x.2.2.length) (node, [], l) (by ((conv => whnf); simp only [eS, zg])) ⟨by simp, .inr ⟨hn.1, 32, hs⟩⟩ ?_
  intro ⟨x, out, rem⟩ ⟨h2, h3⟩
  dsimp only at h2 h3
  have hol : out.length ≤ 32 := by
   have := congrArg List.length h2
   simp at this; omega
  conv => whnf
  refine zK (fun h4 => ?_) (fun h4 => ?_) <;> (conv => whnf) <;> simp only [eH] at h4
  ·rcases h3 with ⟨h3, _⟩ | ⟨_, k, h3⟩
   ·omega
   refine ⟨by simp [zF, zS]; omega, ?_⟩
   conv => whnf
   refine .inl ⟨_, _, _, yW t x hl, rfl, ?_⟩
   conv => whnf
   cases k with
   | zero => simp [yN] at h3
   | succ k =>
    simp only [yN, Option.map_eq_some_iff] at h3
    obtain ⟨r, h5, rfl⟩ := h3
    refine ⟨(up t x, x :: out, r), by simp, ⟨by rw [← h2]; simp, ?_⟩, ?_⟩
    ·by_cases hu : up t x < 0
     ·rw [if_pos hu] at h5; cases h5; exact .inl ⟨hu, rfl⟩
     ·rw [if_neg hu] at h5; exact .inr ⟨by dsimp only; omega, k, h5⟩
    ·((conv => whnf); simp only [eS, z7, z4L, zJF, wE, cI])
  ·rcases h3 with ⟨_, h3⟩ | ⟨h3, _⟩
   ·subst h3
    simp at h2
    rw [hway, ← h2]
   ·omega
theorem z1l (t : List Nd) (node : Int) (hl : t.length ≤ 9223372036854775807) : z6 PR zFN [aT t, ai node] (.c (.ref 0 0 none)) [(0, .arr zW 1 0 .own (eL cI (wayL t node)))] 1 := by
 have e : wSub .i64 t.length 1 = (t.length : Int) - 1 := yB (by omega) (by omega)
 refine z6.intro hT (pf Tryz.func124) rfl (by kernel_rfl) Tryz.ntmps124 rfl ?_
 conv => whnf
 refine .inl ⟨_, _, _, zG _ _ _, rfl, ?_⟩
 conv => whnf
 refine zK (fun h1 => ?_) (fun h1 => ?_) <;> (conv => whnf) <;> simp only [eH, e, decide_eq_true_eq, decide_eq_false_iff_not] at h1
 ·have : wayL t node = [] := by unfold wayL; rw [if_neg h1]
  rw [this]
  ((conv => whnf); simp only [eS, zg])
 refine .inl ⟨_, _, _, z3U t node hl, rfl, ?_⟩
 conv => whnf
 refine zB hT [2, 5, 6] (α := Int × List Int) (fun x => { t := [(2, .c (.ptr 0 0)), (5, .c (.ref 1 0 none)), (6, ai x.1)], h := [(0, .box zL (cTr t)), (1, .arr zW 1 0 .own (eL cI x.2))], n := 2, N := 34 })
  (fun x => 1 ≤ x.2.length ∧ x.2.length ≤ 32 ∧ yN t 32 node = (if x.1 < 0 then some [] else yN t (32 - x.2.length) x.1).map (x.2 ++ ·)) (fun x => 33 - x.2.length) (up t node, [node]) (by ((conv => whnf); simp only [eS, zg, z4L, cI])) ⟨by simp, by simp, rfl⟩ ?_
 intro ⟨x, out⟩ ⟨h2, h3, h4⟩
 dsimp only at h2 h3 h4
 conv => whnf
 refine zK (fun h5 => ?_) (fun h5 => ?_) <;> (conv => whnf) <;> simp only [eH] at h5
 ·rw [if_neg (by omega)] at h4
  refine zK (fun h6 => ?_) (fun h6 => ?_) <;> (conv => whnf) <;> simp only [eH, z0C] at h6
  ·have : out.length = 32 := by omega
   rw [this] at h4
   have h4 : yN t 32 node = none := h4
   have : wayL t node = [] := by unfold wayL; rw [if_pos h1]; rw [h4]
   rw [this]
   ((conv => whnf); simp only [eS, zg])
  ·refine ⟨by simp [zF, zS]; omega, ?_⟩
   conv => whnf
   refine .inl ⟨_, _, _, z3U t x hl, rfl, ?_⟩
   conv => whnf
   have hst : yN t (32 - out.length) x = (if up t x < 0 then some [] else yN t (31 - out.length) (up t x)).map (x :: ·) := by rw [show 32 - out.length = (31 - out.length) + 1 by omega, yN]
   rw [hst] at h4
   refine ⟨(up t x, out ++ [x]), by simp; omega, ⟨by simp, by simp; omega, ?_⟩, ?_⟩
   ·dsimp only
    rw [h4, Option.map_map]
    simp only [List.length_append, List.length_cons, List.length_nil]
    rw [show 32 - (out.length + (0 + 1)) = 31 - out.length by omega]
    congr 1
    funext y
    simp
   ·((conv => whnf); simp only [eS, z7])
    rw [← zY]
    rfl
 ·rw [if_pos h5] at h4
  simp at h4
  have hway : wayL t node = out.reverse := by unfold wayL; rw [if_pos h1, h4]
  refine .inr (.inr (.inl ⟨1, ?_⟩))
  conv => whnf
  refine .inl ⟨_, _, z5X out (by omega), ?_⟩
  conv => whnf
  rw [hway]
def z05 (t : List Nd) (k : Nat) : List Int :=
 match t with
 | [] => []
 | n :: r => if n.f = -1 then (k : Int) :: z05 r (k + 1) else z05 r (k + 1)
theorem zA5 : ∀ (t : List Nd) (k : Nat), (z05 t k).length ≤ t.length
 | [], k => by simp [z05]
 | n :: r, k => by
  simp only [z05]
  have := zA5 r (k + 1)
  split <;> simp <;> omega
theorem z6f (t : List Nd) (hl : t.length ≤ 1048576) : z6 PR zAi [aT t] (.c (.ref 0 0 none)) [(0, .arr zW 1 0 .own (eL cI (z05 t 0)))] 1 := by
 refine z6.intro hT (pf Tryz.func268) rfl (by kernel_rfl) Tryz.ntmps268 rfl ?_
 conv => whnf
 refine zB hT [3, 8, 9, 10] (α := Nat × List Int) (fun x => { t := [(3, .c (.ref 0 0 none)), (8, aNs t), (9, ai t.length), (10, ai x.1)], h := [(0, .arr zW 1 0 .own (eL cI x.2))], n := 1, N := 23 })
  (fun x => x.1 ≤ t.length ∧ x.2.length ≤ x.1 ∧ x.2 ++ z05 (t.drop x.1) x.1 = z05 t 0) (fun x => t.length - x.1) (0, []) (by ((conv => whnf); simp only [eS, zg])) ⟨Nat.zero_le _, by simp, rfl⟩ ?_
 intro ⟨k, out⟩ ⟨hk, hol, ho⟩
 dsimp only at hk hol ho
 conv => whnf
 refine zK (fun h1 => ?_) (fun h1 => ?_) <;> (conv => whnf) <;> simp at h1
 ·obtain ⟨n, hn⟩ := zH h1
  refine zE (by simp) hn ?_
  conv => whnf
  refine .inl ⟨_, _, _, wL n, rfl, ?_⟩
  conv => whnf
  rw [zy hn, z05] at ho
  refine zK (fun h2 => ?_) (fun h2 => ?_) <;> (conv => whnf) <;> simp only [eH] at h2
  ·rw [if_pos h2] at ho
   refine ⟨by simp [zF, zS]; omega, ?_⟩
   conv => whnf
   refine ⟨(k + 1, out ++ [(k : Int)]), by dsimp only; omega, ⟨h1, by simp; omega, by rw [← ho]; simp⟩, ?_⟩
   ((conv => whnf); simp only [eS, z7, wI h1 (by omega)])
   rw [← zY]
   rfl
  ·rw [if_neg h2] at ho
   refine ⟨(k + 1, out), by dsimp only; omega, ⟨h1, by dsimp only; omega, ho⟩, ?_⟩
   ((conv => whnf); simp only [eS, wI h1 (by omega)])
 ·obtain rfl : k = t.length := by omega
  simp [z05] at ho
  rw [ho]
end Go.H.S
namespace Go.H.S
open Go Go.Proofs Go.H
attribute [local irreducible] Tri z6 zV
end Go.H.S
namespace Go.H.S
open Go Go.Proofs Go.H
attribute [local irreducible] Tri z6 zV
def z1F (x lo hi : Int) : Int := if x < lo then lo else if hi < x then hi else x
theorem z2h (x lo hi : Int) : z6 PR zBi [ai x, ai lo, ai hi] (ai (z1F x lo hi)) [] 0 := by
 refine z6.intro hT (pf Tryz.func208) rfl (by kernel_rfl) Tryz.ntmps208 rfl ?_
 conv => whnf
 refine zK (fun h => ?_) (fun h => ?_) <;> (conv => whnf) <;> simp only [eH] at h
 ·((conv => whnf); simp only [eS])
  simp only [z1F]
  rw [if_pos (by omega)]
 ·refine zK (fun h2 => ?_) (fun h2 => ?_) <;> (conv => whnf) <;> simp only [eH] at h2 <;> ((conv => whnf); simp only [eS]) <;> simp only [z1F]
  ·rw [if_neg (by omega), if_pos (by omega)]
  ·rw [if_neg (by omega), if_neg (by omega)]
def z3g (t : List Nd) : Nat → Int
 | 0 => -1
 | k + 1 => max (z3g t k) (z0p t k)
theorem z7O (t : List Nd) (hl : t.length ≤ 1048576) : z6 PR zBg [aT t] (ai (z3g t t.length)) [] 0 := by
 refine z6.intro hT (pf Tryz.func127) rfl (by kernel_rfl) Tryz.ntmps127 rfl ?_
 conv => whnf
 refine zB hT [1, 3, 4] (α := Nat) (fun x => { t := [(1, .c (.ptr 0 0)), (3, ai (z3g t x)), (4, ai x)], h := [(0, .box zL (cTr t))], n := 1, N := 18 })
  (fun x => x ≤ t.length) (fun x => t.length - x) 0 (by ((conv => whnf); simp only [eS, z3g])) (Nat.zero_le _) ?_
 intro k hk
 conv => whnf
 refine zK (fun h1 => ?_) (fun h1 => ?_) <;> (conv => whnf) <;> simp at h1
 ·refine .inl ⟨_, _, _, z2f t k (by omega), rfl, ?_⟩
  conv => whnf
  refine .inl ⟨_, _, _, z9l _ _, rfl, ?_⟩
  conv => whnf
  refine ⟨k + 1, by omega, h1, ?_⟩
  ((conv => whnf); simp only [eS, wI h1 (by omega), z3g])
 ·obtain rfl : k = t.length := by omega
  conv => whnf
theorem yh (x : Int) : z6 PR zBO [ai x] (ab (decide (-2147483647 ≤ x ∧ x ≤ 2147483647))) [] 0 := by
 refine z6.intro hT (pf Tryz.func161) rfl (by kernel_rfl) Tryz.ntmps161 rfl ?_
 conv => whnf
 refine .inl ⟨_, _, _, zM _ _ _, rfl, ?_⟩
 conv => whnf
theorem wh (x : Int) : z6 PR zBW [ai x] (ab (decide (-1099511627776 ≤ x ∧ x ≤ 1099511627776))) [] 0 := by
 refine z6.intro hT (pf Tryz.func131) rfl (by kernel_rfl) Tryz.ntmps131 rfl ?_
 conv => whnf
 refine .inl ⟨_, _, _, zM _ _ _, rfl, ?_⟩
 conv => whnf
end Go.H.S
namespace Go.H.S
open Go Go.Proofs Go.H
attribute [local irreducible] Tri z6 zV
def wR (n : Nd) : Bool := decide (n ≠ ⟨-1, 0, 0, 0, n.v⟩) || !decide (-1099511627776 ≤ n.v ∧ n.v ≤ 1099511627776)
def zw (n : Nd) (ft i next : Int) : Bool := decide (¬ (0 ≤ n.f ∧ n.f ≤ ft - 1)) || decide (¬ (-2147483647 ≤ n.c ∧ n.c ≤ 2147483647)) || decide (n.v ≠ 0) || decide (n.l ≠ next) || decide (n.r ≠ next + 1) || decide (n.l ≤ i)
def yK (ft : Int) : List Nd → Int → Int → Option Int
 | [], i, next => some next
 | n :: r, i, next => if n.f = -1 then (if wR n then none else yK ft r (i + 1) next) else if zw n ft i next then none else yK ft r (i + 1) (next + 2)
def yC (t : List Nd) (ft : Int) : Bool := decide (yK ft t 0 1 = some (t.length : Int))
theorem yd {t : List Nd} {ft : Int} (h : none = yK ft t 0 1) : yC t ft = false := by simp [yC, ← h]
theorem z65 (t : List Nd) (ft : Int) (hft : 0 ≤ ft ∧ ft ≤ 4) (hl : t.length ≤ 1048576) : z6 PR zAR [aT t, ai ft] (ab (yC t ft)) [] 0 := by
 refine z6.intro hT (pf Tryz.func126) rfl (by kernel_rfl) Tryz.ntmps126 rfl ?_
 conv => whnf
 refine zB hT [1, 2, 5, 6] (α := Nat × Nat) (fun x => { t := [(1, ai ft), (2, .c (.ptr 0 0)), (5, ai x.2), (6, ai x.1)], h := [(0, .box zL (cTr t))], n := 1, N := 77 })
  (fun x => x.1 ≤ t.length ∧ x.2 ≤ 2 * x.1 + 1 ∧ yK ft (t.drop x.1) x.1 x.2 = yK ft t 0 1) (fun x => t.length - x.1) (0, 1) (by ((conv => whnf); simp only [eS]); rfl) ⟨Nat.zero_le _, by simp, by simp⟩ ?_
 intro ⟨k, nx⟩ ⟨hk, hx, hs⟩
 dsimp only at hk hx hs
 conv => whnf
 refine zK (fun h1 => ?_) (fun h1 => ?_) <;> (conv => whnf) <;> simp at h1
 ·obtain ⟨n, hn⟩ := zH h1
  rw [zy hn, yK] at hs
  refine zE (by simp) hn ?_
  conv => whnf
  refine .inl ⟨_, _, _, yw n, rfl, ?_⟩
  conv => whnf
  refine zK (fun h2 => ?_) (fun h2 => ?_) <;> (conv => whnf) <;> simp only [eH] at h2
  ·have hf : n.f = -1 := by simpa [bNot, iEq] using h2
   rw [if_pos hf] at hs
   generalize hb : bNot (bAnd (iEq n.f (-1)) (bAnd (iEq n.c 0) (bAnd (iEq n.l 0) (bAnd (iEq n.r 0) (bAnd (iEq n.v n.v) true))))) = b
   cases b <;> (conv => whnf)
   ·refine .inl ⟨_, _, _, wh n.v, rfl, ?_⟩
    conv => whnf
    generalize hb2 : decide (-1099511627776 ≤ n.v ∧ n.v ≤ 1099511627776) = b2
    cases b2 <;> (conv => whnf)
    ·have hlb : wR n = true := by simp [wR, hb2]
     rw [if_pos hlb] at hs
     rw [yd hs]
    ·have hlb : wR n = false := by
      obtain ⟨f, c, l, r, v⟩ := n
      simp only [wR, hb2]
      simp_all [bNot, bAnd, iEq]
     rw [hlb] at hs
     refine ⟨(k + 1, nx), by dsimp only; omega, ⟨h1, by dsimp only; omega, by simpa using hs⟩, ?_⟩
     ((conv => whnf); simp only [eS, wI h1 (by omega)])
   ·have hlb : wR n = true := by
     obtain ⟨f, c, l, r, v⟩ := n
     simp only [wR]
     simp_all [bNot, bAnd, iEq]
    rw [if_pos hlb] at hs
    rw [yd hs]
  ·have hf : ¬ n.f = -1 := by simpa [bNot, iEq] using h2
   rw [if_neg hf] at hs
   refine .inl ⟨_, _, _, zM _ _ _, rfl, ?_⟩
   rw [show wSub .i64 ft 1 = ft - 1 from yB (by omega) (by omega)]
   conv => whnf
   generalize hb1 : decide (0 ≤ n.f ∧ n.f ≤ ft - 1) = b1
   cases b1 <;> (conv => whnf)
   ·have hib : zw n ft k nx = true := by
     have : ¬ (0 ≤ n.f ∧ n.f ≤ ft - 1) := by simpa using hb1
     simp [zw, this]
    rw [if_pos hib] at hs
    rw [yd hs]
   ·refine .inl ⟨_, _, _, yh _, rfl, ?_⟩
    conv => whnf
    generalize hb2 : decide (-2147483647 ≤ n.c ∧ n.c ≤ 2147483647) = b2
    cases b2 <;> (conv => whnf)
    ·have hib : zw n ft k nx = true := by
      have : ¬ (-2147483647 ≤ n.c ∧ n.c ≤ 2147483647) := by simpa using hb2
      simp [zw, this]
     rw [if_pos hib] at hs
     rw [yd hs]
    ·generalize hb3 : iEq n.v 0 = b3
     cases b3 <;> (conv => whnf)
     ·have hib : zw n ft k nx = true := by
       have : ¬ n.v = 0 := by simpa [iEq] using hb3
       simp [zw, this]
      rw [if_pos hib] at hs
      rw [yd hs]
     generalize hb4 : iEq n.l (nx : Int) = b4
     cases b4 <;> (conv => whnf)
     ·have hib : zw n ft k nx = true := by
       have : ¬ n.l = nx := by simpa [iEq] using hb4
       simp [zw, this]
      rw [if_pos hib] at hs
      rw [yd hs]
     rw [show wAdd .i64 (nx : Int) 1 = nx + 1 from y1 (by omega) (by omega)]
     generalize hb5 : iEq n.r ((nx : Int) + 1) = b5
     cases b5 <;> (conv => whnf)
     ·have hib : zw n ft k nx = true := by
       have : ¬ n.r = nx + 1 := by simpa [iEq] using hb5
       simp [zw, this]
      rw [if_pos hib] at hs
      rw [yd hs]
     generalize hb6 : iLe n.l ((k, nx).fst : Int) = b6
     dsimp only at hb6
     cases b6 <;> (conv => whnf)
     rotate_left
     ·have hib : zw n ft k nx = true := by
       have : n.l ≤ k := by simpa [iLe] using hb6
       simp [zw, this]
      rw [if_pos hib] at hs
      rw [yd hs]
     have hib : zw n ft k nx = false := by
      have q3 : n.v = 0 := by simpa [iEq] using hb3
      have q4 : n.l = nx := by simpa [iEq] using hb4
      have q5 : n.r = nx + 1 := by simpa [iEq] using hb5
      have q6 : ¬ n.l ≤ k := by simpa [iLe] using hb6
      have q1 : 0 ≤ n.f ∧ n.f ≤ ft - 1 := by simpa using hb1
      have q2 : -2147483647 ≤ n.c ∧ n.c ≤ 2147483647 := by simpa using hb2
      simp [zw, q1, q2, q3, q4, q5]
      omega
     rw [hib] at hs
     refine ⟨(k + 1, nx + 2), by dsimp only; omega, ⟨h1, by dsimp only; omega, by simpa using hs⟩, ?_⟩
     ((conv => whnf); simp only [eS, wI h1 (by omega), y1 (show -9223372036854775808 ≤ (nx : Int) + 2 by omega) (by omega), Int.natCast_add, Int.cast_ofNat_Int])
 ·obtain rfl : k = t.length := by omega
  simp only [List.drop_length, yK] at hs
  ((conv => whnf); simp only [eS])
  simp only [yC, ← hs, iEq, Option.some.injEq]
end Go.H.S
namespace Go.H.S
open Go Go.Proofs Go.H
theorem z7T {ft : Int} : ∀ {l : List Nd} {i next m : Int}, yK ft l i next = some m → ∀ {j : Nat} {n : Nd}, l[j]? = some n → n.f = -1 → wR n = false
 | [], i, next, m, h, j, n, hj, hf => by simp at hj
 | x :: r, i, next, m, h, j, n, hj, hf => by
  simp only [yK] at h
  cases j with
  | zero =>
   simp at hj
   subst hj
   rw [if_pos hf] at h
   cases hb : wR x with
   | false => rfl
   | true => simp [hb] at h
  | succ j =>
   rw [List.getElem?_cons_succ] at hj
   split at h
   ·split at h
    ·cases h
    ·exact z7T h hj hf
   ·split at h
    ·cases h
    ·exact z7T h hj hf
theorem z36 {ft : Int} : ∀ {l : List Nd} {i next m : Int}, yK ft l i next = some m → ∀ {j : Nat} {n : Nd}, l[j]? = some n → n.f ≠ -1 → ∃ nx, next ≤ nx ∧ nx + 2 ≤ m ∧ zw n ft (i + j) nx = false
 | [], i, next, m, h, j, n, hj, hf => by simp at hj
 | x :: r, i, next, m, h, j, n, hj, hf => by
  have mono : ∀ {l : List Nd} {i a b : Int}, yK ft l i a = some b → a ≤ b := by
   intro l
   induction l with
   | nil => intro i a b h; simp [yK] at h; omega
   | cons y s ih =>
    intro i a b h
    simp only [yK] at h
    split at h
    ·split at h
     ·cases h
     ·exact ih h
    ·split at h
     ·cases h
     ·have := ih h; omega
  simp only [yK] at h
  cases j with
  | zero =>
   simp at hj
   subst hj
   rw [if_neg hf] at h
   cases hb : zw x ft i next with
   | false =>
    rw [hb] at h
    simp at h
    exact ⟨next, Int.le_refl _, mono h, by simpa using hb⟩
   | true => simp [hb] at h
  | succ j =>
   rw [List.getElem?_cons_succ] at hj
   split at h
   ·split at h
    ·cases h
    ·obtain ⟨nx, h1, h2, h3⟩ := z36 h hj hf
     exact ⟨nx, h1, h2, by rw [show i + ((j + 1 : Nat) : Int) = i + 1 + j by omega]; exact h3⟩
   ·split at h
    ·cases h
    ·obtain ⟨nx, h1, h2, h3⟩ := z36 h hj hf
     exact ⟨nx, by omega, h2, by rw [show i + ((j + 1 : Nat) : Int) = i + 1 + j by omega]; exact h3⟩
theorem w6 {t : List Nd} {ft : Int} (h : yC t ft = true) {j : Nat} {n : Nd} (hj : t[j]? = some n) (hf : n.f ≠ -1) :
  0 ≤ n.f ∧ n.f < ft ∧ n.v = 0 ∧ (j : Int) < n.l ∧ n.r = n.l + 1 ∧ n.r < t.length ∧ -2147483647 ≤ n.c ∧ n.c ≤ 2147483647 := by
 have hs : yK ft t 0 1 = some (t.length : Int) := by simpa [yC] using h
 obtain ⟨nx, h1, h2, h3⟩ := z36 hs hj hf
 simp [zw] at h3
 omega
theorem z9p {t : List Nd} {ft : Int} (h : yC t ft = true) {j : Nat} {n : Nd} (hj : t[j]? = some n) (hf : n.f = -1) :
  -1099511627776 ≤ n.v ∧ n.v ≤ 1099511627776 := by
 have hs : yK ft t 0 1 = some (t.length : Int) := by simpa [yC] using h
 have h3 := z7T hs hj hf
 simp [wR] at h3
 omega
theorem z35 {ft : Int} : ∀ {l : List Nd} {i next m : Int}, yK ft l i next = some m → ∀ {j j' : Nat} {n n' : Nd}, l[j]? = some n → l[j']? = some n' → n.f ≠ -1 → n'.f ≠ -1 → j < j' → n.l + 2 ≤ n'.l
 | [], i, next, m, h, j, j', n, n', hj, hj', hf, hf', hlt => by simp at hj
 | x :: r, i, next, m, h, j, j', n, n', hj, hj', hf, hf', hlt => by
  obtain ⟨k, rfl⟩ : ∃ k, j' = k + 1 := ⟨j' - 1, by omega⟩
  rw [List.getElem?_cons_succ] at hj'
  simp only [yK] at h
  cases j with
  | zero =>
   simp at hj
   subst hj
   rw [if_neg hf] at h
   cases hb : zw x ft i next with
   | true => simp [hb] at h
   | false =>
    rw [hb] at h
    simp at h
    obtain ⟨nx, h1, h2, h3⟩ := z36 h hj' hf'
    simp [zw] at h3 hb
    omega
  | succ j =>
   rw [List.getElem?_cons_succ] at hj
   split at h
   ·split at h
    ·cases h
    ·exact z35 h hj hj' hf hf' (by omega)
   ·split at h
    ·cases h
    ·exact z35 h hj hj' hf hf' (by omega)
theorem zCG {t : List Nd} {ft : Int} (h : yC t ft = true) {j j' : Nat} {n n' : Nd} (hj : t[j]? = some n) (hj' : t[j']? = some n') (hf : n.f ≠ -1) (hf' : n'.f ≠ -1) {x : Int}
  (hx : n.l = x ∨ n.r = x) (hx' : n'.l = x ∨ n'.r = x) : j = j' := by
 have hs : yK ft t 0 1 = some (t.length : Int) := by simpa [yC] using h
 have k1 := w6 h hj hf
 have k2 := w6 h hj' hf'
 rcases Nat.lt_trichotomy j j' with q | q | q
 ·have := z35 hs hj hj' hf hf' q
  omega
 ·exact q
 ·have := z35 hs hj' hj hf' hf q
  omega
theorem zIu {α : Type} (p : α → Bool) : ∀ (l : List α) (k : Nat), 0 ≤ idxL p l k → ∃ (j : Nat) (x : α), idxL p l k = k + j ∧ l[j]? = some x ∧ p x = true
 | [], k, h => by simp [idxL] at h
 | x :: r, k, h => by
  simp only [idxL] at h ⊢
  split
  ·exact ⟨0, x, by simp, rfl, by assumption⟩
  ·rename_i hp
   rw [if_neg hp] at h
   obtain ⟨j, y, h1, h2, h3⟩ := zIu p r (k + 1) h
   exact ⟨j + 1, y, by rw [h1]; omega, by rw [List.getElem?_cons_succ]; exact h2, h3⟩
theorem zIt {α : Type} (p : α → Bool) : ∀ (l : List α) (k : Nat) {j : Nat} {x : α}, l[j]? = some x → p x = true → 0 ≤ idxL p l k
 | [], k, j, x, h, hp => by simp at h
 | y :: r, k, j, x, h, hp => by
  simp only [idxL]
  split
  ·omega
  ·cases j with
   | zero => simp at h; subst h; contradiction
   | succ j => rw [List.getElem?_cons_succ] at h; exact zIt p r (k + 1) h hp
theorem zI0 {t : List Nd} {ft : Int} (h : yC t ft = true) {x : Int} (hx : 0 ≤ up t x) : ∃ (j : Nat) (n : Nd), up t x = j ∧ t[j]? = some n ∧ n.f ≠ -1 ∧ (n.l = x ∨ n.r = x) ∧ up t x < x := by
 obtain ⟨j, n, h1, h2, h3⟩ := zIu _ _ _ hx
 have h3' : n.f ≠ -1 ∧ (n.l = x ∨ n.r = x) := by simpa [pUp] using h3
 have hk := w6 h h2 h3'.1
 have hu : up t x = j := by unfold up; rw [h1]; simp
 exact ⟨j, n, hu, h2, h3'.1, h3'.2, by omega⟩
theorem zKp {t : List Nd} {ft : Int} (h : yC t ft = true) {j : Nat} {n : Nd} (hj : t[j]? = some n) (hf : n.f ≠ -1) {x : Int} (hx : n.l = x ∨ n.r = x) : up t x = j := by
 have h0 : 0 ≤ up t x := zIt _ _ _ hj (by simp only [pUp, Bool.and_eq_true, Bool.or_eq_true, decide_eq_true_eq]; exact ⟨hf, hx⟩)
 obtain ⟨j', n', h1, h2, h3, h4, _⟩ := zI0 h h0
 rw [h1, zCG h h2 hj h3 hf h4 hx]
inductive Anc (t : List Nd) : Int → Int → Prop
 | refl (x : Int) : Anc t x x
 | up {z x : Int} : 0 ≤ up t x → Anc t z (up t x) → Anc t z x
theorem z1b {t : List Nd} {ft : Int} (h : yC t ft = true) : ∀ (n : Nat) (x : Int), x < n → ∃ l, yN t (n + 1) x = some l ∧ ∀ z, z ∈ l ↔ Anc t z x := by
 intro n
 induction n with
 | zero =>
  intro x hx
  have hneg : up t x < 0 := by
   rcases Int.lt_or_le (up t x) 0 with q | q
   ·exact q
   ·obtain ⟨_, _, _, _, _, _, q2⟩ := zI0 h q
    omega
  refine ⟨[x], by simp [yN, hneg], fun z => ?_⟩
  constructor
  ·intro hz; simp at hz; subst hz; exact .refl _
  ·intro hz
   cases hz with
   | refl => simp
   | up q _ => omega
 | succ n ih =>
  intro x hx
  rcases Int.lt_or_le (up t x) 0 with q | q
  ·refine ⟨[x], by simp [yN, q], fun z => ?_⟩
   constructor
   ·intro hz; simp at hz; subst hz; exact .refl _
   ·intro hz
    cases hz with
    | refl => simp
    | up q' _ => omega
  ·obtain ⟨_, _, _, _, _, _, q2⟩ := zI0 h q
   obtain ⟨l, h1, h2⟩ := ih (up t x) (by omega)
   refine ⟨x :: l, ?_, fun z => ?_⟩
   ·rw [yN, if_neg (by omega), h1]; rfl
   ·rw [List.mem_cons, h2]
    constructor
    ·rintro (rfl | hz)
     ·exact .refl _
     ·exact .up q hz
    ·intro hz
     cases hz with
     | refl => exact .inl rfl
     | up _ hz => exact .inr hz
theorem Anc.trans {t : List Nd} {a b c : Int} (h1 : Anc t a b) (h2 : Anc t b c) : Anc t a c := by
 induction h2 with
 | refl => exact h1
 | up q _ ih => exact .up q ih
end Go.H.S
namespace Go.H.S
open Go Go.Proofs Go.H
attribute [local irreducible] Tri z6 zV zU
def badP (t : List Nd) (n : Nd) (b a : Int) : Bool :=
 match t[b.toNat]? with
 | some x => iEq x.f n.f && (iEq x.r a && iLe n.c x.c || iEq x.l a && iLe x.c n.c)
 | none => false
def z01 (t : List Nd) (n : Nd) : List Int → Bool
 | a :: b :: r => badP t n b a || z01 t n (b :: r)
 | _ => false
def z5e (t : List Nd) (k : Int) (n : Nd) : Bool :=
 match yN t 32 k with
 | some l => bAnd (bNot (iEq n.f (-1))) (z01 t n l)
 | none => false
def z1Y (t : List Nd) : List Nd → Nat → Bool
 | [], _ => false
 | n :: r, k => z5e t k n || z1Y t r (k + 1)
set_option maxHeartbeats 1000000 in
theorem z7H (t : List Nd) (ft : Int) (h : yC t ft = true) (hl : t.length ≤ 31) : z6 PR zBV [aT t] (ab (!z1Y t t 0)) [] 0 := by
 refine z6.intro hT (pf Tryz.func128) rfl (by kernel_rfl) Tryz.ntmps128 rfl ?_
 conv => whnf
 refine zB hT [1, 3] (α := Nat) (fun x => { t := [(1, .c (.ptr 0 0)), (3, ai x)], h := [(0, .box zL (cTr t))], n := 1, N := 79 })
  (fun x => x ≤ t.length ∧ z1Y t (t.drop x) x = z1Y t t 0) (fun x => t.length - x) 0 (by ((conv => whnf); simp only [eS])) ⟨Nat.zero_le _, by simp⟩ ?_
 intro k ⟨hk, hw⟩
 conv => whnf
 refine zK (fun h1 => ?_) (fun h1 => ?_) <;> (conv => whnf) <;> simp at h1
 ·obtain ⟨n, hn⟩ := zH h1
  rw [zy hn, z1Y] at hw
  obtain ⟨l0, hl0, _⟩ := z1b h 31 k (by omega)
  have hnb : z5e t k n = bAnd (bNot (iEq n.f (-1))) (z01 t n l0) := by unfold z5e; rw [hl0]
  rw [hnb] at hw
  refine zE (by simp) hn ?_
  conv => whnf
  refine .inl ⟨_, _, _, yw n, rfl, ?_⟩
  conv => whnf
  generalize hb : iEq n.f (-1) = b at hw
  cases b <;> (conv => whnf)
  ·refine .inl ⟨_, _, _, yW t k (by omega), rfl, ?_⟩
   conv => whnf
   refine zB hT [1, 3, 4, 5] (α := Int × Nat × List Int) (fun x => { t := [(1, .c (.ptr 0 0)), (3, ai k), (4, ai x.1), (5, ai (up t x.1))], h := [(0, .box zL (cTr t))], n := 1, N := 79 })
    (fun x => 0 ≤ x.1 ∧ x.1 < t.length ∧ yN t (x.2.1 + 1) x.1 = some x.2.2 ∧ z01 t n x.2.2 = z01 t n l0) (fun x => x.2.1) (k, 31, l0) (by (conv => whnf)) ⟨by simp, by simpa using h1, hl0, rfl⟩ ?_
   intro ⟨fr, j, l⟩ ⟨g0, g1, g2, g3⟩
   dsimp only at g0 g1 g2 g3
   conv => whnf
   refine zK (fun h2 => ?_) (fun h2 => ?_) <;> (conv => whnf) <;> simp only [eH] at h2
   ·generalize hup : up t fr = at' at *
    obtain ⟨m, rfl⟩ : ∃ m : Nat, at' = m := ⟨at'.toNat, by omega⟩
    have hmlt := up_lt t fr
    rw [hup] at hmlt
    obtain ⟨x, hx⟩ := zH (show m < t.length by omega)
    rw [yN, hup, if_neg (by omega)] at g2
    simp only [Option.map_eq_some_iff] at g2
    obtain ⟨l', g2, rfl⟩ := g2
    cases j with
    | zero => simp [yN] at g2
    | succ j =>
    have hl2 : ∃ l2, l' = (m : Int) :: l2 := by
     rw [yN] at g2
     simp only [Option.map_eq_some_iff] at g2
     obtain ⟨l2, _, rfl⟩ := g2
     exact ⟨l2, rfl⟩
    obtain ⟨l2, rfl⟩ := hl2
    have hcb : z01 t n (fr :: (m : Int) :: l2) = (badP t n m fr || z01 t n ((m : Int) :: l2)) := rfl
    rw [hcb] at g3
    refine zE (by simp) hx ?_
    conv => whnf
    refine yR hT hmix (by kernel_rfl) ?_
    conv => whnf
    refine zE (by simp) hn ?_
    conv => whnf
    have hin : ∀ v0, x.f = n.f ∧ (x.r = fr ∧ n.c ≤ x.c ∨ x.l = fr ∧ x.c ≤ n.c) ∧ v0 = true ∨ ¬ (x.f = n.f ∧ (x.r = fr ∧ n.c ≤ x.c ∨ x.l = fr ∧ x.c ≤ n.c)) ∧ v0 = false → badP t n m fr = v0 := by
     intro v0 hv
     have hb : badP t n m fr = (iEq x.f n.f && (iEq x.r fr && iLe n.c x.c || iEq x.l fr && iLe x.c n.c)) := by simp [badP, hx]
     rw [hb, Bool.eq_iff_iff]
     simp only [Bool.and_eq_true, Bool.or_eq_true, iEq, iLe, decide_eq_true_eq]
     rcases hv with ⟨h1, h2, rfl⟩ | ⟨h1, rfl⟩
     ·simp [h1, h2]
     ·simp only [Bool.false_eq_true, iff_false]; exact h1
    generalize e1 : iEq x.f n.f = c1
    generalize e2 : iEq x.r fr = c2
    generalize e3 : iEq x.l fr = c3
    generalize e4 : iLe n.c x.c = c4
    generalize e5 : iLe x.c n.c = c5
    cases c1
    ·repeat' (first | (refine And.intro (fun q => ?_) (fun q => ?_) <;> cases q <;> (conv => whnf)) | (refine zE (by simp) hn ?_; (conv => whnf)) | fail)
     refine .inl ⟨_, _, _, yW t m (by omega), rfl, ?_⟩
     conv => whnf
     have hbp := hin false (.inr ⟨by simp_all [iEq, iLe], rfl⟩)
     rw [hbp] at g3
     refine ⟨(m, j, (m : Int) :: l2), by dsimp only; omega, ⟨by dsimp only; omega, by dsimp only; omega, g2, g3⟩, ?_⟩
     conv => whnf
    ·repeat' (first | (refine And.intro (fun q => ?_) (fun q => ?_) <;> cases q <;> (conv => whnf)) | (refine zE (by simp) hn ?_; (conv => whnf)) | fail)
     rw [e2]
     cases c2
     ·repeat' (first | (refine And.intro (fun q => ?_) (fun q => ?_) <;> cases q <;> (conv => whnf)) | (refine zE (by simp) hn ?_; (conv => whnf)) | fail)
      rw [e3]
      cases c3
      ·repeat' (first | (refine And.intro (fun q => ?_) (fun q => ?_) <;> cases q <;> (conv => whnf)) | (refine zE (by simp) hn ?_; (conv => whnf)) | fail)
       refine .inl ⟨_, _, _, yW t m (by omega), rfl, ?_⟩
       conv => whnf
       have hbp := hin false (.inr ⟨by simp_all [iEq, iLe], rfl⟩)
       rw [hbp] at g3
       refine ⟨(m, j, (m : Int) :: l2), by dsimp only; omega, ⟨by dsimp only; omega, by dsimp only; omega, g2, g3⟩, ?_⟩
       conv => whnf
      ·repeat' (first | (refine And.intro (fun q => ?_) (fun q => ?_) <;> cases q <;> (conv => whnf)) | (refine zE (by simp) hn ?_; (conv => whnf)) | fail)
       rw [e5]
       cases c5
       ·repeat' (first | (refine And.intro (fun q => ?_) (fun q => ?_) <;> cases q <;> (conv => whnf)) | (refine zE (by simp) hn ?_; (conv => whnf)) | fail)
        refine .inl ⟨_, _, _, yW t m (by omega), rfl, ?_⟩
        conv => whnf
        have hbp := hin false (.inr ⟨by simp_all [iEq, iLe], rfl⟩)
        rw [hbp] at g3
        refine ⟨(m, j, (m : Int) :: l2), by dsimp only; omega, ⟨by dsimp only; omega, by dsimp only; omega, g2, g3⟩, ?_⟩
        conv => whnf
       ·repeat' (first | (refine And.intro (fun q => ?_) (fun q => ?_) <;> cases q <;> (conv => whnf)) | (refine zE (by simp) hn ?_; (conv => whnf)) | fail)
        have hbp := hin true (.inl ⟨by simp_all [iEq, iLe], by simp_all [iEq, iLe], rfl⟩)
        rw [hbp] at g3
        rw [← g3] at hw
        (try (conv => whnf))
        rw [← hw]
        rfl
     ·repeat' (first | (refine And.intro (fun q => ?_) (fun q => ?_) <;> cases q <;> (conv => whnf)) | (refine zE (by simp) hn ?_; (conv => whnf)) | fail)
      rw [e4]
      cases c4
      ·repeat' (first | (refine And.intro (fun q => ?_) (fun q => ?_) <;> cases q <;> (conv => whnf)) | (refine zE (by simp) hn ?_; (conv => whnf)) | fail)
       rw [e3]
       cases c3
       ·repeat' (first | (refine And.intro (fun q => ?_) (fun q => ?_) <;> cases q <;> (conv => whnf)) | (refine zE (by simp) hn ?_; (conv => whnf)) | fail)
        refine .inl ⟨_, _, _, yW t m (by omega), rfl, ?_⟩
        conv => whnf
        have hbp := hin false (.inr ⟨by simp_all [iEq, iLe], rfl⟩)
        rw [hbp] at g3
        refine ⟨(m, j, (m : Int) :: l2), by dsimp only; omega, ⟨by dsimp only; omega, by dsimp only; omega, g2, g3⟩, ?_⟩
        conv => whnf
       ·repeat' (first | (refine And.intro (fun q => ?_) (fun q => ?_) <;> cases q <;> (conv => whnf)) | (refine zE (by simp) hn ?_; (conv => whnf)) | fail)
        rw [e5]
        cases c5
        ·repeat' (first | (refine And.intro (fun q => ?_) (fun q => ?_) <;> cases q <;> (conv => whnf)) | (refine zE (by simp) hn ?_; (conv => whnf)) | fail)
         refine .inl ⟨_, _, _, yW t m (by omega), rfl, ?_⟩
         conv => whnf
         have hbp := hin false (.inr ⟨by simp_all [iEq, iLe], rfl⟩)
         rw [hbp] at g3
         refine ⟨(m, j, (m : Int) :: l2), by dsimp only; omega, ⟨by dsimp only; omega, by dsimp only; omega, g2, g3⟩, ?_⟩
         conv => whnf
        ·repeat' (first | (refine And.intro (fun q => ?_) (fun q => ?_) <;> cases q <;> (conv => whnf)) | (refine zE (by simp) hn ?_; (conv => whnf)) | fail)
         have hbp := hin true (.inl ⟨by simp_all [iEq, iLe], by simp_all [iEq, iLe], rfl⟩)
         rw [hbp] at g3
         rw [← g3] at hw
         (try (conv => whnf))
         rw [← hw]
         rfl
      ·repeat' (first | (refine And.intro (fun q => ?_) (fun q => ?_) <;> cases q <;> (conv => whnf)) | (refine zE (by simp) hn ?_; (conv => whnf)) | fail)
       have hbp := hin true (.inl ⟨by simp_all [iEq, iLe], by simp_all [iEq, iLe], rfl⟩)
       rw [hbp] at g3
       rw [← g3] at hw
       (try (conv => whnf))
       rw [← hw]
       rfl
   ·have hl : l = [fr] := by
     rw [yN, if_pos h2] at g2
     simpa using g2.symm
    rw [hl] at g3
    rw [← g3] at hw
    refine ⟨k + 1, by omega, ⟨h1, hw⟩, ?_⟩
    ((conv => whnf); simp only [eS, wI h1 (by omega)])
  ·refine ⟨k + 1, by omega, ⟨h1, hw⟩, ?_⟩
   ((conv => whnf); simp only [eS, wI h1 (by omega)])
 ·obtain rfl : k = t.length := by omega
  simp only [List.drop_length, z1Y] at hw
  conv => whnf
  rw [← hw]
  rfl
def yZ (t : List Nd) (ft : Int) : Bool :=
 decide (1 ≤ (t.length : Int) ∧ (t.length : Int) ≤ 31) && (decide (0 ≤ ft ∧ ft ≤ 4) && (yC t ft && (decide (z3g t t.length ≤ 4) && !z1Y t t 0)))
theorem z11 (t : List Nd) (ft : Int) (hl : t.length ≤ 1048576) : z6 PR zDV [aT t, ai ft] (ab (yZ t ft)) [] 0 := by
 refine z6.intro hT (pf Tryz.func37) rfl (by kernel_rfl) Tryz.ntmps37 rfl ?_
 conv => whnf
 refine .inl ⟨_, _, _, zM _ _ _, rfl, ?_⟩
 conv => whnf
 refine zK (fun h1 => ?_) (fun h1 => ?_) <;> (conv => whnf) <;> simp only [eH] at h1
 rotate_left
 ·simp [yZ, h1]
 refine .inl ⟨_, _, _, zM _ _ _, rfl, ?_⟩
 conv => whnf
 refine zK (fun h2 => ?_) (fun h2 => ?_) <;> (conv => whnf)
 rotate_left
 ·simp [yZ, h2]
 have h1' := of_decide_eq_true h1
 have h2' := of_decide_eq_true h2
 refine .inl ⟨_, _, _, z65 t ft h2' (by omega), rfl, ?_⟩
 conv => whnf
 refine zK (fun h3 => ?_) (fun h3 => ?_) <;> (conv => whnf)
 rotate_left
 ·simp [yZ, h3]
 refine .inl ⟨_, _, _, z7O t (by omega), rfl, ?_⟩
 conv => whnf
 refine zK (fun h4 => ?_) (fun h4 => ?_) <;> (conv => whnf) <;> simp only [eH] at h4
 rotate_left
 ·have : ¬ z3g t t.length ≤ 4 := by omega
  simp [yZ, this]
 refine .inl ⟨_, _, _, z7H t ft h3 (by omega), rfl, ?_⟩
 conv => whnf
 simp [yZ, h1, h2, h3, h4]
end Go.H.S
