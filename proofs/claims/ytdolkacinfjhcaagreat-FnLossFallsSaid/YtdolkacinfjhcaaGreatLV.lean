/- Library, part A: how data are laid; sizes. -/
import Derived.Test.YtdolkacinfjhcaaGreatNm
set_option maxRecDepth 100000
set_option linter.unusedSimpArgs false
set_option linter.unusedVariables false
namespace Go.H.S
open Go Go.Proofs Go.H
attribute [local irreducible] Tri z6 zR
abbrev ai (n : Int) : AV := .c (.d (.int .i64 n))
abbrev ab (b : Bool) : AV := .c (.d (.bool b))
abbrev aS (s : ByteArray) : AV := .c (.d (.str s))
structure Nd where
 f : Int
 c : Int
 l : Int
 r : Int
 v : Int
 deriving DecidableEq, Inhabited
def cS (s : ByteArray) : List D := [.str s]
def cI (n : Int) : List D := [.int .i64 n]
def cN (n : Nd) : List D := [.int .i64 n.f, .int .i64 n.c, .int .i64 n.l, .int .i64 n.r, .int .i64 n.v]
def cT (t : List Nd) : List D := [.sl 5 (eL cN t)]
abbrev aSs (xs : List ByteArray) : AV := .c (.d (.sl 1 (eL cS xs)))
abbrev aIs (xs : List Int) : AV := .c (.d (.sl 1 (eL cI xs)))
abbrev aNs (xs : List Nd) : AV := .c (.d (.sl 5 (eL cN xs)))
abbrev aTs (xs : List (List Nd)) : AV := .c (.d (.sl 1 (eL cT xs)))
abbrev cNd (n : Nd) : List CV := [.d (.int .i64 n.f), .d (.int .i64 n.c), .d (.int .i64 n.l), .d (.int .i64 n.r), .d (.int .i64 n.v)]
abbrev aN (n : Nd) : AV := .agg (cNd n)
abbrev cTr (t : List Nd) : List CV := [.d (.sl 5 (eL cN t))]
abbrev aT (t : List Nd) : AV := .agg (cTr t)
def cIs (xs : List Int) : List D := [.sl 1 (eL cI xs)]
def cSs (xs : List ByteArray) : List D := [.sl 1 (eL cS xs)]
abbrev aIss (xs : List (List Int)) : AV := .c (.d (.sl 1 (eL cIs xs)))
structure Mdl where
 names : List ByteArray
 signs : List Int
 base : Int
 trees : List (List Nd)
structure Tbl where
 names : List ByteArray
 target : ByteArray
 rows : List (List Int)
 ys : List Int
structure Cfg where
 rounds : Int
 depth : Int
 bins : Int
 lambda : Int
 rows : Int
 num : Int
 den : Int
 signs : List Int
structure Grd where
 cuts : List (List Int)
 bins : List (List Int)
abbrev cTb (t : Tbl) : List CV := [.d (.sl 1 (eL cS t.names)), .d (.str t.target), .d (.sl 1 (eL cIs t.rows)), .d (.sl 1 (eL cI t.ys))]
abbrev aTb (t : Tbl) : AV := .agg (cTb t)
abbrev cCf (c : Cfg) : List CV := [.d (.int .i64 c.rounds), .d (.int .i64 c.depth), .d (.int .i64 c.bins), .d (.int .i64 c.lambda), .d (.int .i64 c.rows), .d (.int .i64 c.num), .d (.int .i64 c.den), .d (.sl 1 (eL cI c.signs))]
abbrev aCf (c : Cfg) : AV := .agg (cCf c)
abbrev cG (g : Grd) : List CV := [.d (.sl 1 (eL cIs g.cuts)), .d (.sl 1 (eL cIs g.bins))]
abbrev aG (g : Grd) : AV := .agg (cG g)
theorem zG {α : Type} {f : α → List D} {xs : List α} {n : Int} {k : Nat} {x : α} {K : List D → Prop} (hn : n = (k : Int)) (hx : xs[k]? = some x) (h : K (f x)) : InB n (dLen (eL f xs)) ∧ ∀ c, AtD (eL f xs) (nOf n) c → K c := by
 subst hn
 have hlt := (List.getElem?_eq_some_iff.1 hx).1
 refine ⟨by simp; omega, fun c hc => ?_⟩
 obtain ⟨y, hy, rfl⟩ := at_eL hc
 simp only [z1B, Int.toNat_natCast] at hy
 rw [hx] at hy
 cases hy
 exact h
theorem zE {α : Type} (f : α → List D) (xs : List α) : (eL f xs).length = xs.length := by rw [← zQ]; simp
theorem z48 {α : Type} (f : α → List D) (xs : List α) (k : Nat) : (eL f xs)[k]? = (xs[k]?).map f := by rw [eL]; simp
theorem zp {α : Type} (f : α → List D) : eL f [] = [] := by rw [eL]; rfl
theorem z7l {α : Type} (f : α → List D) (x : α) (xs : List α) : eL f (x :: xs) = f x :: eL f xs := by rw [eL, eL]; rfl
theorem zJn (es fs : List (List D)) : dApp es fs = es ++ fs := by rw [dApp]
theorem wo (es : List (List D)) : dApp [] es = es := by rw [zJn]; rfl
theorem zJP (x y : Int) : iMin x y = min x y := by unfold iMin; split <;> omega
theorem zML (x y : Int) : iMax x y = max x y := by unfold iMax; split <;> omega
theorem ye {n : Int} {k m : Nat} {K : Prop} (hn : n = (k : Int)) (hk : k < m) (h : K) : InB n m ∧ K := ⟨by subst hn; simp; omega, h⟩
theorem z33 {α : Type} {f : α → List D} {xs : List α} {k' k : Nat} {x : α} {K : List D → Prop} (hk : k' = k) (hx : xs[k]? = some x) (h : K (f x)) : ∀ c, (eL f xs)[k']? = some c → K c := fun c hc => by
 rw [hk, z48, hx] at hc
 cases hc
 exact h
theorem z88 {α : Type} {f : α → List D} {xs : List α} {k' k j n : Nat} {x : α} {K : List D → Prop} (hk : k' = k) (hx : xs[k]? = some x) (hr : j + n ≤ (f x).length) (h : K (f x)) : ∀ c, AtD (eL f xs) k' c → zEW j n c ∧ K c := fun c hc => by
 have hc' : (eL f xs)[k']? = some c := by unfold AtD at hc; exact hc
 rw [hk, z48, hx] at hc'
 cases hc'
 exact ⟨by simpa using hr, h⟩
theorem cI_set (xs : List Int) (k : Nat) (x y : Int) : dSet (eL cI xs) k (wb (cI x) 0 [.int .i64 y]) = eL cI (xs.set k y) := by
 rw [z1n (by rfl)]; exact z1m cI xs k y
theorem z0G (xs : List Int) : z6s (eL cI xs) := fun c hc d hd => by
 rw [eL] at hc
 obtain ⟨x, _, rfl⟩ := List.mem_map.1 hc
 simp [cI] at hd
 subst hd; rfl
theorem zI {α : Type} {l : List α} {k : Nat} (h : k < l.length) : ∃ x, l[k]? = some x := ⟨_, List.getElem?_eq_getElem h⟩
@[irreducible] def bud (m : Int) (c : Nat) : Int := if (c : Int) ≤ m then m - c else -1
theorem zFp {m : Int} {c : Nat} (h : m < c) : bud m c = -1 := by simp only [bud]; rw [if_neg (by omega)]
theorem zKB {m : Int} {c : Nat} (h : (c : Int) ≤ m) : bud m c = m - c := by simp only [bud]; rw [if_pos h]
theorem z9U {m : Int} {c r : Nat} (h : (c : Int) ≤ m) : bud m (c + r) = bud (m - c) r := by
 simp only [bud]
 by_cases h' : ((c + r : Nat) : Int) ≤ m
 ·rw [if_pos h', if_pos (by omega)]; omega
 ·rw [if_neg h', if_neg (by omega)]
theorem zHc {m : Int} (h : 0 ≤ m) : bud m 0 = m := by simp [bud, h]
theorem zMj {m : Int} {c r : Nat} (h : bud m c < 0) : bud m (c + r) = -1 := by
 simp only [bud] at *
 split at h
 ·omega
 ·rw [if_neg (by omega)]
theorem z7r {m : Int} {c : Nat} (h : 0 ≤ bud m c) : (c : Int) ≤ m ∧ bud m c = m - c := by
 simp only [bud] at *
 split at h
 ·rename_i hc; exact ⟨hc, by rw [if_pos hc]⟩
 ·omega
theorem zHd {m : Int} {c : Nat} (h : bud m c < 0) : bud m c = -1 := by
 simp only [bud] at *
 split at h
 ·omega
 ·rename_i hc; rw [if_neg hc]
theorem z9V {m : Int} {c : Nat} (h : m ≤ 1048576) : bud m c ≤ 1048576 := by
 simp only [bud]
 split <;> omega
theorem zGf {m : Int} {a b : Nat} (h : 0 ≤ bud m a) : bud (bud m a) b = bud m (a + b) := by
 obtain ⟨h1, h2⟩ := z7r h
 rw [h2, z9U h1]
def wh {α : Type} (f : α → Nat) : List α → Nat
 | [] => 0
 | x :: r => f x + wh f r
@[irreducible] def cost {α : Type} (f : α → Nat) (l : List α) : Nat := l.length + wh f l
theorem z7n {α : Type} (f : α → Nat) (l : List α) : cost f l = l.length + wh f l := by rw [cost]
theorem zEb {m : Int} {c d : Nat} (h : bud m c = -1) (hd : c ≤ d) : bud m d = -1 := by
 simp only [bud] at *
 split at h
 ·omega
 ·rw [if_neg (by omega)]
theorem zMh {m : Int} {c s : Nat} (h : bud m c - s < 0) (g : 0 ≤ bud m c) : bud m (c + s) = -1 := by
 obtain ⟨h1, h2⟩ := z7r g
 exact zFp (by omega)
theorem zMi {m : Int} {c s : Nat} (h : 0 ≤ bud m c - s) (g : 0 ≤ bud m c) : bud m c - s = bud m (c + s) := by
 obtain ⟨h1, h2⟩ := z7r g
 rw [zKB (show ((c + s : Nat) : Int) ≤ m by omega)]; omega
theorem wI {k n : Nat} (h : k < n) (hn : n ≤ 9223372036854775807) : wAdd .i64 (k : Int) 1 = ((k + 1 : Nat) : Int) := by
 have := wInc h hn
 simpa using this
end Go.H.S
namespace Go.H.S
open Go Go.Proofs Go.H
attribute [local irreducible] Tri z6 zR
theorem zB7 (xs : List (ByteArray)) (n : Int) (h0 : 0 ≤ n) (hn : n ≤ 1048576) (hx : xs.length ≤ 9223372036854775807) (hs : ∀ s ∈ xs, s.size ≤ 9223372036854775807) :
  z6 PR z91 [.c (.d (.sl 1 (eL cS xs))), ai n] (ai (bud n (cost ByteArray.size xs))) [] 0 := by
 refine z6.intro hT (pf Tryz.func133) rfl (by kernel_rfl) Tryz.ntmps133 rfl ?_
 conv => whnf
 have e : wSub .i64 n xs.length = n - xs.length := yB (by omega) (by omega)
 refine zK (fun hb => ?_) (fun hb => ?_) <;> (conv => whnf) <;> simp only [eH, e] at hb
 ·rw [z7n, zFp (by omega)]
 ·refine zB hT [0, 1, 5] (α := Nat × Int) (fun x => { t := [(0, .c (.d (.sl 1 (eL cS xs)))), (1, ai x.2), (5, ai (nInt x.1))], h := [], n := 0, N := 28 })
   (fun x => x.1 ≤ xs.length ∧ 0 ≤ x.2 ∧ x.2 ≤ 1048576 ∧ bud x.2 (wh ByteArray.size (xs.drop x.1)) = bud n (cost ByteArray.size xs)) (fun x => xs.length - x.1) (0, n - xs.length) (by ((conv => whnf); simp only [eS, e]))
   ⟨by omega, by dsimp only; omega, by dsimp only; omega, by rw [z7n, z9U (by omega)]; rfl⟩ ?_
  intro ⟨k, m⟩ ⟨hk, hm0, hm1, hm⟩
  dsimp only at hk hm hm0 hm1
  conv => whnf
  refine zK (fun h1 => ?_) (fun h1 => ?_) <;> (conv => whnf) <;> simp at h1
  ·obtain ⟨s, hs'⟩ := zI h1
   refine zG (by simp) hs' ?_
   conv => whnf
   have hss := hs s (List.mem_of_getElem? hs')
   have e2 : wSub .i64 m s.size = m - s.size := yB (by omega) (by omega)
   rw [yj hs', wh] at hm
   refine zK (fun h2 => ?_) (fun h2 => ?_) <;> (conv => whnf) <;> simp only [eH, e2] at h2
   ·rw [zFp (by omega)] at hm
    rw [← hm]
   ·rw [z9U (by omega)] at hm
    refine ⟨(k + 1, m - s.size), by dsimp only; omega, ⟨h1, h2, by dsimp only; omega, hm⟩, ?_⟩
    ((conv => whnf); simp only [eS, wI h1 hx, e2])
  ·obtain rfl : k = xs.length := by omega
   simp only [List.drop_length, wh] at hm
   rw [zHc hm0] at hm
   rw [hm]
theorem z4m (xs : List (ByteArray)) (hx : xs.length ≤ 4000000000) :
  z6 PR z90 [.c (.d (.sl 1 (eL cS xs)))] (.c (.ref 0 0 none)) [(0, .arr zy 1 0 .own (eL cS xs))] 1 := by
 refine z6.intro hT (pf Tryz.func135) rfl (by kernel_rfl) Tryz.ntmps135 rfl ?_
 conv => whnf
 refine ⟨by simp; omega, ?_⟩
 conv => whnf
 refine zB hT [0, 3, 4] (α := Nat × List (List D)) (fun x => { t := [(0, .c (.d (.sl 1 (eL cS xs)))), (3, .c (.ref 0 0 none)), (4, ai (nInt x.1))], h := [(0, .arr zy 1 0 .own x.2)], n := 1, N := 22 })
  (fun x => x.1 ≤ xs.length ∧ Fill cS 1 xs x.1 x.2) (fun x => xs.length - x.1) (0, _) (by ((conv => whnf); simp only [eS]); rfl) ⟨by omega, Fill.start cS xs rfl⟩ ?_
 intro ⟨k, es⟩ ⟨hk, hf⟩
 dsimp only at hk hf
 have hl := hf.len
 conv => whnf
 refine zK (fun h1 => ?_) (fun h1 => ?_) <;> (conv => whnf) <;> simp at h1
 ·obtain ⟨s, hs'⟩ := zI h1
  refine zG (by simp) hs' ?_
  conv => whnf
  refine ⟨by simp only [z0Z, zQ, hl, zHl, z3q]; omega, ?_⟩
  conv => whnf
  intro c' hc'
  have hr := hf.room hc'
  refine ⟨by simp; omega, ?_⟩
  rw [z1n (by rw [hr]; rfl)]
  conv => whnf
  refine ⟨(k + 1, dSet es k (cS s)), by dsimp only; omega, ⟨h1, hf.step hs' rfl⟩, ?_⟩
  ((conv => whnf); simp only [eS, wI h1 (by omega), wD, z1B, Int.toNat_natCast, offR, Nat.zero_add])
  rfl
 ·obtain rfl : k = xs.length := by omega
  rw [hf.done]
theorem zBz (xs : List (ByteArray)) (hx : xs.length ≤ 9223372036854775807) : z6 PR z96 [.c (.d (.sl 1 (eL cS xs))), .c (.d (.sl 1 (eL cS xs)))] (ab true) [] 0 := by
 refine z6.intro hT (pf Tryz.func138) rfl (by kernel_rfl) Tryz.ntmps138 rfl ?_
 conv => whnf
 refine zK (fun hb => ?_) (fun hb => ?_)
 ·simp at hb
 conv => whnf
 refine zB hT [0, 1, 5] (α := Nat) (fun x => { t := [(0, .c (.d (.sl 1 (eL cS xs)))), (1, .c (.d (.sl 1 (eL cS xs)))), (5, ai (nInt x))], h := [], n := 0, N := 26 })
   (fun x => x ≤ xs.length) (fun x => xs.length - x) 0 (by ((conv => whnf); simp only [eS])) (Nat.zero_le _) ?_
 intro k hk
 conv => whnf
 refine zK (fun h1 => ?_) (fun h1 => ?_)
 ·conv => whnf
  simp at h1
  obtain ⟨s, hs'⟩ := zI h1
  refine yN hT hmix (by kernel_rfl) ?_
  conv => whnf
  refine zG (by simp) hs' ?_
  conv => whnf
  refine zG (by simp) hs' ?_
  conv => whnf
  refine zK (fun h2 => ?_) (fun h2 => ?_)
  ·simp at h2
  conv => whnf
  refine ⟨k + 1, by omega, h1, ?_⟩
  ((conv => whnf); simp only [eS, wI h1 hx])
 ·conv => whnf
theorem z5B (xs : List Int) (n : Int) (h0 : 0 ≤ n) (hn : n ≤ 1048576) (hx : xs.length ≤ 9223372036854775807) :
  z6 PR zDw [.c (.d (.sl 1 (eL cI xs))), ai n] (ai (bud n xs.length)) [] 0 := by
 refine z6.intro hT (pf Tryz.func86) rfl (by kernel_rfl) Tryz.ntmps86 rfl ?_
 conv => whnf
 have e : wSub .i64 n xs.length = n - xs.length := yB (by omega) (by omega)
 refine zK (fun hb => ?_) (fun hb => ?_) <;> (conv => whnf) <;> simp only [eH, e] at hb
 ·rw [zFp (by omega)]
 ·((conv => whnf); simp only [eS, e, zKB (show (xs.length : Int) ≤ n by omega)])
theorem z1T (xs : List (Int)) (hx : xs.length ≤ 4000000000) :
  z6 PR zDv [.c (.d (.sl 1 (eL cI xs)))] (.c (.ref 0 0 none)) [(0, .arr zZ 1 0 .own (eL cI xs))] 1 := by
 refine z6.intro hT (pf Tryz.func19) rfl (by kernel_rfl) Tryz.ntmps19 rfl ?_
 conv => whnf
 refine ⟨by simp; omega, ?_⟩
 conv => whnf
 refine zB hT [0, 3, 4] (α := Nat × List (List D)) (fun x => { t := [(0, .c (.d (.sl 1 (eL cI xs)))), (3, .c (.ref 0 0 none)), (4, ai (nInt x.1))], h := [(0, .arr zZ 1 0 .own x.2)], n := 1, N := 22 })
  (fun x => x.1 ≤ xs.length ∧ Fill cI 1 xs x.1 x.2) (fun x => xs.length - x.1) (0, _) (by ((conv => whnf); simp only [eS]); rfl) ⟨by omega, Fill.start cI xs rfl⟩ ?_
 intro ⟨k, es⟩ ⟨hk, hf⟩
 dsimp only at hk hf
 have hl := hf.len
 conv => whnf
 refine zK (fun h1 => ?_) (fun h1 => ?_) <;> (conv => whnf) <;> simp at h1
 ·obtain ⟨s, hs'⟩ := zI h1
  refine zG (by simp) hs' ?_
  conv => whnf
  refine ⟨by simp only [z0Z, zQ, hl, zHl, z3q]; omega, ?_⟩
  conv => whnf
  intro c' hc'
  have hr := hf.room hc'
  refine ⟨by simp; omega, ?_⟩
  rw [z1n (by rw [hr]; rfl)]
  conv => whnf
  refine ⟨(k + 1, dSet es k (cI s)), by dsimp only; omega, ⟨h1, hf.step hs' rfl⟩, ?_⟩
  ((conv => whnf); simp only [eS, wI h1 (by omega), wD, z1B, Int.toNat_natCast, offR, Nat.zero_add])
  rfl
 ·obtain rfl : k = xs.length := by omega
  rw [hf.done]
theorem z5W (xs : List (Int)) (hx : xs.length ≤ 9223372036854775807) : z6 PR zDy [.c (.d (.sl 1 (eL cI xs))), .c (.d (.sl 1 (eL cI xs)))] (ab true) [] 0 := by
 refine z6.intro hT (pf Tryz.func24) rfl (by kernel_rfl) Tryz.ntmps24 rfl ?_
 conv => whnf
 refine zK (fun hb => ?_) (fun hb => ?_)
 ·simp at hb
 conv => whnf
 refine zB hT [0, 1, 5] (α := Nat) (fun x => { t := [(0, .c (.d (.sl 1 (eL cI xs)))), (1, .c (.d (.sl 1 (eL cI xs)))), (5, ai (nInt x))], h := [], n := 0, N := 26 })
   (fun x => x ≤ xs.length) (fun x => xs.length - x) 0 (by ((conv => whnf); simp only [eS])) (Nat.zero_le _) ?_
 intro k hk
 conv => whnf
 refine zK (fun h1 => ?_) (fun h1 => ?_)
 ·conv => whnf
  simp at h1
  obtain ⟨s, hs'⟩ := zI h1
  refine yN hT hmix (by kernel_rfl) ?_
  conv => whnf
  refine zG (by simp) hs' ?_
  conv => whnf
  refine zG (by simp) hs' ?_
  conv => whnf
  refine zK (fun h2 => ?_) (fun h2 => ?_)
  ·simp at h2
  conv => whnf
  refine ⟨k + 1, by omega, h1, ?_⟩
  ((conv => whnf); simp only [eS, wI h1 hx])
 ·conv => whnf
def z9L (x : Cfg) : Prop := (x.signs.length ≤ 9223372036854775807)
def zD0 (x : Cfg) : Prop := (x.signs.length ≤ 4000000000)
def z4S (x : Cfg) : Nat := x.signs.length
theorem zCt (x : Cfg) (n : Int) (h0 : 0 ≤ n) (hn : n ≤ 1048576) (ho : z9L x) : z6 PR zAV [aCf x, ai n] (ai (bud n (z4S x))) [] 0 := by
 have o0 := ho
 refine z6.intro hT (pf Tryz.func15) rfl (by kernel_rfl) Tryz.ntmps15 rfl ?_
 conv => whnf
 refine .inl ⟨_, _, _, z5B x.signs _ h0 hn o0, rfl, ?_⟩
 conv => whnf
 refine zK (fun h => ?_) (fun h => ?_) <;> (conv => whnf) <;> simp only [eH] at h
 ·rw [z4S]
  rw [zHd h]
 have g0 : 0 ≤ bud n (x.signs.length) := h
 rw [z4S]
theorem z1F (x : Cfg) (ho : zD0 x) : z6 PR zAU [aCf x] (.agg [.d (.int .i64 x.rounds), .d (.int .i64 x.depth), .d (.int .i64 x.bins), .d (.int .i64 x.lambda), .d (.int .i64 x.rows), .d (.int .i64 x.num), .d (.int .i64 x.den), .ref 0 0 none]) [(0, .arr zZ 1 0 .own (eL cI x.signs))] 1 := by
 have o0 := ho
 refine z6.intro hT (pf Tryz.func20) rfl (by kernel_rfl) Tryz.ntmps20 rfl ?_
 conv => whnf
 refine .inl ⟨_, _, _, z1T x.signs o0, rfl, ?_⟩
 conv => whnf
theorem zES (x : Cfg) (ho : z9L x) : z6 PR zAY [aCf x, aCf x] (ab true) [] 0 := by
 have o0 := ho
 refine z6.intro hT (pf Tryz.func25) rfl (by kernel_rfl) Tryz.ntmps25 rfl ?_
 conv => whnf
 refine zK (fun hb => ?_) (fun hb => ?_)
 ·simp at hb
 conv => whnf
 refine zK (fun hb => ?_) (fun hb => ?_)
 ·simp at hb
 conv => whnf
 refine zK (fun hb => ?_) (fun hb => ?_)
 ·simp at hb
 conv => whnf
 refine zK (fun hb => ?_) (fun hb => ?_)
 ·simp at hb
 conv => whnf
 refine zK (fun hb => ?_) (fun hb => ?_)
 ·simp at hb
 conv => whnf
 refine zK (fun hb => ?_) (fun hb => ?_)
 ·simp at hb
 conv => whnf
 refine zK (fun hb => ?_) (fun hb => ?_)
 ·simp at hb
 conv => whnf
 refine .inl ⟨_, _, _, z5W x.signs o0, rfl, ?_⟩
 conv => whnf
theorem zEt (xs : List (List Int)) (n : Int) (h0 : 0 ≤ n) (hn : n ≤ 1048576) (hx : xs.length ≤ 9223372036854775807) (hs : ∀ s ∈ xs, s.length ≤ 9223372036854775807) :
  z6 PR zBh [.c (.d (.sl 1 (eL cIs xs))), ai n] (ai (bud n (cost List.length xs))) [] 0 := by
 refine z6.intro hT (pf Tryz.func85) rfl (by kernel_rfl) Tryz.ntmps85 rfl ?_
 conv => whnf
 have e : wSub .i64 n xs.length = n - xs.length := yB (by omega) (by omega)
 refine zK (fun hb => ?_) (fun hb => ?_) <;> (conv => whnf) <;> simp only [eH, e] at hb
 ·rw [z7n, zFp (by omega)]
 ·refine zB hT [0, 1, 5] (α := Nat × Int) (fun x => { t := [(0, .c (.d (.sl 1 (eL cIs xs)))), (1, ai x.2), (5, ai (nInt x.1))], h := [], n := 0, N := 27 })
   (fun x => x.1 ≤ xs.length ∧ 0 ≤ x.2 ∧ x.2 ≤ 1048576 ∧ bud x.2 (wh List.length (xs.drop x.1)) = bud n (cost List.length xs)) (fun x => xs.length - x.1) (0, n - xs.length) (by ((conv => whnf); simp only [eS, e]))
   ⟨by omega, by dsimp only; omega, by dsimp only; omega, by rw [z7n, z9U (by omega)]; rfl⟩ ?_
  intro ⟨k, m⟩ ⟨hk, hm0, hm1, hm⟩
  dsimp only at hk hm hm0 hm1
  conv => whnf
  refine zK (fun h1 => ?_) (fun h1 => ?_) <;> (conv => whnf) <;> simp at h1
  ·obtain ⟨s, hs'⟩ := zI h1
   refine zG (by simp) hs' ?_
   conv => whnf
   refine .inl ⟨_, _, _, z5B s m hm0 hm1 (hs s (List.mem_of_getElem? hs')), rfl, ?_⟩
   conv => whnf
   rw [yj hs', wh] at hm
   refine zK (fun h2 => ?_) (fun h2 => ?_) <;> (conv => whnf) <;> simp only [eH] at h2
   ·rw [zMj h2] at hm
    rw [← hm]
   ·have hb2 := z7r h2
    refine ⟨(k + 1, bud m s.length), by dsimp only; omega, ⟨h1, h2, z9V hm1, by dsimp only; rw [zGf h2]; exact hm⟩, ?_⟩
    ((conv => whnf); simp only [eS, wI h1 hx])
  ·obtain rfl : k = xs.length := by omega
   simp only [List.drop_length, wh] at hm
   rw [zHc hm0] at hm
   rw [hm]
theorem zEm (xs : List (List Int)) (hx : xs.length ≤ 4000000000) (hs : ∀ s ∈ xs, s.length ≤ 4000000000) :
  z6 PR z4u [.c (.d (.sl 1 (eL cIs xs)))] (.c (.ref 0 0 none)) [(0, .arr yS 1 0 .own (eL cIs xs))] 1 := by
 refine z6.intro hT (pf Tryz.func93) rfl (by kernel_rfl) Tryz.ntmps93 rfl ?_
 conv => whnf
 refine ⟨by simp; omega, ?_⟩
 conv => whnf
 refine zB hT [0, 3, 4] (α := Nat × List (List D)) (fun x => { t := [(0, .c (.d (.sl 1 (eL cIs xs)))), (3, .c (.ref 0 0 none)), (4, ai (nInt x.1))], h := [(0, .arr yS 1 0 .own x.2)], n := 1, N := 23 })
  (fun x => x.1 ≤ xs.length ∧ Fill cIs 1 xs x.1 x.2) (fun x => xs.length - x.1) (0, _) (by ((conv => whnf); simp only [eS]); rfl) ⟨by omega, Fill.start cIs xs rfl⟩ ?_
 intro ⟨k, es⟩ ⟨hk, hf⟩
 dsimp only at hk hf
 have hl := hf.len
 conv => whnf
 refine zK (fun h1 => ?_) (fun h1 => ?_) <;> (conv => whnf) <;> simp at h1
 ·obtain ⟨s, hs'⟩ := zI h1
  refine zG (by simp) hs' ?_
  conv => whnf
  refine .inl ⟨_, _, _, z1T s (hs s (List.mem_of_getElem? hs')), rfl, ?_⟩
  conv => whnf
  refine ⟨by simp only [z0Z, zQ, hl, zHl, z3q]; omega, ?_⟩
  conv => whnf
  intro c' hc'
  have hr := hf.room hc'
  refine ⟨by simp; omega, ?_⟩
  rw [z1n (by rw [hr]; rfl)]
  conv => whnf
  refine ⟨(k + 1, dSet es k (cIs s)), by dsimp only; omega, ⟨h1, hf.step hs' rfl⟩, ?_⟩
  ((conv => whnf); simp only [eS, wI h1 (by omega), wD, z1B, Int.toNat_natCast, offR, Nat.zero_add])
  rfl
 ·obtain rfl : k = xs.length := by omega
  rw [hf.done]
theorem zFc (xs : List (List Int)) (hx : xs.length ≤ 9223372036854775807) (hs : ∀ s ∈ xs, s.length ≤ 9223372036854775807) : z6 PR zBk [.c (.d (.sl 1 (eL cIs xs))), .c (.d (.sl 1 (eL cIs xs)))] (ab true) [] 0 := by
 refine z6.intro hT (pf Tryz.func101) rfl (by kernel_rfl) Tryz.ntmps101 rfl ?_
 conv => whnf
 refine zK (fun hb => ?_) (fun hb => ?_)
 ·simp at hb
 conv => whnf
 refine zB hT [0, 1, 5] (α := Nat) (fun x => { t := [(0, .c (.d (.sl 1 (eL cIs xs)))), (1, .c (.d (.sl 1 (eL cIs xs)))), (5, ai (nInt x))], h := [], n := 0, N := 27 })
   (fun x => x ≤ xs.length) (fun x => xs.length - x) 0 (by ((conv => whnf); simp only [eS])) (Nat.zero_le _) ?_
 intro k hk
 conv => whnf
 refine zK (fun h1 => ?_) (fun h1 => ?_)
 ·conv => whnf
  simp at h1
  obtain ⟨s, hs'⟩ := zI h1
  refine yN hT hmix (by kernel_rfl) ?_
  conv => whnf
  refine zG (by simp) hs' ?_
  conv => whnf
  refine zG (by simp) hs' ?_
  conv => whnf
  refine ⟨_, _, z5W s (hs s (List.mem_of_getElem? hs')), rfl, ?_⟩
  conv => whnf
  refine ⟨k + 1, by omega, h1, ?_⟩
  ((conv => whnf); simp only [eS, wI h1 hx])
 ·conv => whnf
def z9r (x : Tbl) : Prop := (x.names.length ≤ 9223372036854775807 ∧ ∀ s ∈ x.names, s.size ≤ 9223372036854775807) ∧ (x.target.size ≤ 9223372036854775807) ∧ (x.rows.length ≤ 9223372036854775807 ∧ ∀ s ∈ x.rows, s.length ≤ 9223372036854775807) ∧ (x.ys.length ≤ 9223372036854775807)
def zG3 (x : Tbl) : Prop := (x.names.length ≤ 4000000000) ∧ (x.rows.length ≤ 4000000000 ∧ ∀ s ∈ x.rows, s.length ≤ 4000000000) ∧ (x.ys.length ≤ 4000000000)
def wg (x : Tbl) : Nat := (cost ByteArray.size x.names) + x.target.size + (cost List.length x.rows) + x.ys.length
theorem zEs (x : Tbl) (n : Int) (h0 : 0 ≤ n) (hn : n ≤ 1048576) (ho : z9r x) : z6 PR zBg [aTb x, ai n] (ai (bud n (wg x))) [] 0 := by
 obtain ⟨o0, o1, o2, o3⟩ := ho
 refine z6.intro hT (pf Tryz.func45) rfl (by kernel_rfl) Tryz.ntmps45 rfl ?_
 conv => whnf
 refine .inl ⟨_, _, _, zB7 x.names _ h0 hn o0.1 o0.2, rfl, ?_⟩
 conv => whnf
 refine zK (fun h => ?_) (fun h => ?_) <;> (conv => whnf) <;> simp only [eH] at h
 ·rw [wg]
  rw [zEb (zHd h) (by omega)]
 have g0 : 0 ≤ bud n ((cost ByteArray.size x.names)) := h
 have l1 : (bud n ((cost ByteArray.size x.names))) ≤ 1048576 := (z9V hn)
 have e1 : wSub .i64 (bud n ((cost ByteArray.size x.names))) x.target.size = (bud n ((cost ByteArray.size x.names))) - x.target.size := yB (by omega) (by omega)
 refine zK (fun h => ?_) (fun h => ?_) <;> (conv => whnf) <;> simp only [eH, e1] at h
 ·rw [wg, zEb (c := (cost ByteArray.size x.names) + x.target.size) (zMh h g0) (by omega)]
 have k1 : wSub .i64 (bud n ((cost ByteArray.size x.names))) x.target.size = bud n ((cost ByteArray.size x.names) + x.target.size) := by rw [e1]; exact zMi h g0
 have g1 : 0 ≤ bud n ((cost ByteArray.size x.names) + x.target.size) := by rw [← k1, e1]; exact h
 simp only [zD4, k1]
 have s2 := zEt x.rows _ g1 (z9V hn) o2.1 o2.2
 rw [zGf g1] at s2
 refine .inl ⟨_, _, _, s2, rfl, ?_⟩
 conv => whnf
 refine zK (fun h => ?_) (fun h => ?_) <;> (conv => whnf) <;> simp only [eH] at h
 ·rw [wg]
  rw [zEb (zHd h) (by omega)]
 have g2 : 0 ≤ bud n ((cost ByteArray.size x.names) + x.target.size + (cost List.length x.rows)) := h
 have s3 := z5B x.ys _ g2 (z9V hn) o3
 rw [zGf g2] at s3
 refine .inl ⟨_, _, _, s3, rfl, ?_⟩
 conv => whnf
 refine zK (fun h => ?_) (fun h => ?_) <;> (conv => whnf) <;> simp only [eH] at h
 ·rw [wg]
  rw [zHd h]
 have g3 : 0 ≤ bud n ((cost ByteArray.size x.names) + x.target.size + (cost List.length x.rows) + x.ys.length) := h
 rw [wg]
theorem z3e (x : Tbl) (ho : zG3 x) : z6 PR z4t [aTb x] (.agg [.ref 0 0 none, .d (.str x.target), .ref 1 0 none, .ref 2 0 none]) [(0, .arr zy 1 0 .own (eL cS x.names)), (1, .arr yS 1 0 .own (eL cIs x.rows)), (2, .arr zZ 1 0 .own (eL cI x.ys))] 3 := by
 obtain ⟨o0, o1, o2⟩ := ho
 refine z6.intro hT (pf Tryz.func47) rfl (by kernel_rfl) Tryz.ntmps47 rfl ?_
 conv => whnf
 refine .inl ⟨_, _, _, z4m x.names o0, rfl, ?_⟩
 conv => whnf
 refine .inl ⟨_, _, _, zEm x.rows o1.1 o1.2, rfl, ?_⟩
 conv => whnf
 refine .inl ⟨_, _, _, z1T x.ys o2, rfl, ?_⟩
 conv => whnf
theorem zFb (x : Tbl) (ho : z9r x) : z6 PR zBj [aTb x, aTb x] (ab true) [] 0 := by
 obtain ⟨o0, o1, o2, o3⟩ := ho
 refine z6.intro hT (pf Tryz.func50) rfl (by kernel_rfl) Tryz.ntmps50 rfl ?_
 conv => whnf
 refine .inl ⟨_, _, _, zBz x.names o0.1, rfl, ?_⟩
 conv => whnf
 refine zK (fun hb => ?_) (fun hb => ?_)
 ·simp at hb
 conv => whnf
 refine .inl ⟨_, _, _, zFc x.rows o2.1 o2.2, rfl, ?_⟩
 conv => whnf
 refine .inl ⟨_, _, _, z5W x.ys o3, rfl, ?_⟩
 conv => whnf
end Go.H.S
namespace Go.H.S
open Go Go.Proofs Go.H
attribute [local irreducible] Tri z6 zR
theorem zAn {α : Type} (f : α → Nat) : ∀ {l : List α} {x : α}, x ∈ l → f x ≤ wh f l
 | y :: r, x, h => by
  simp only [wh]
  rcases List.mem_cons.1 h with rfl | h
  ·omega
  ·have := zAn f h; omega
theorem z20 (n : Nd) : z6 PR zAK [aN n] (ab (bNot (iEq n.f (-1)))) [] 0 := by
 refine z6.intro hT (pf Tryz.func92) rfl (by kernel_rfl) Tryz.ntmps92 rfl ?_
 conv => whnf
theorem z3N (n : Nd) : z6 PR zE2 [aN n] (ab (iEq n.f (-1))) [] 0 := by
 refine z6.intro hT (pf Tryz.func100) rfl (by kernel_rfl) Tryz.ntmps100 rfl ?_
 conv => whnf
theorem zP (x lo hi : Int) : z6 PR zDz [ai x, ai lo, ai hi] (ab (decide (lo ≤ x ∧ x ≤ hi))) [] 0 := by
 refine z6.intro hT (pf Tryz.func122) rfl (by kernel_rfl) Tryz.ntmps122 rfl ?_
 conv => whnf
 refine zK (fun h => ?_) (fun h => ?_) <;> (conv => whnf) <;> simp only [eH] at h
 ·((conv => whnf); simp only [eS])
  simp [iLe, h]
 ·((conv => whnf); simp only [eS])
  simp
  omega
theorem zS (x lo hi : Int) : z6 PR zGJ [ai x, ai lo, ai hi] (ab (decide (lo ≤ x ∧ x ≤ hi))) [] 0 := by
 refine z6.intro hT (pf Tryz.func125) rfl (by kernel_rfl) Tryz.ntmps125 rfl ?_
 conv => whnf
 refine zK (fun h => ?_) (fun h => ?_) <;> (conv => whnf) <;> simp only [eH] at h
 ·((conv => whnf); simp only [eS])
  simp [iLe, h]
 ·((conv => whnf); simp only [eS])
  simp
  omega
end Go.H.S
namespace Go.H.S
open Go Go.Proofs Go.H
attribute [local irreducible] Tri z6 zR
def idxL {α : Type} (p : α → Bool) : List α → Nat → Int
 | [], _ => -1
 | x :: r, k => if p x then k else idxL p r (k + 1)
def pUp (node : Int) (n : Nd) : Bool := decide (n.f ≠ -1) && (decide (n.l = node) || decide (n.r = node))
def up (t : List Nd) (node : Int) : Int := idxL (pUp node) t 0
def z4Z (t : List Nd) : Nat → Int → Option (List Int)
 | 0, _ => none
 | n + 1, x => (if up t x < 0 then some [] else z4Z t n (up t x)).map (x :: ·)
def wayL (t : List Nd) (node : Int) : List Int :=
 if 0 ≤ node ∧ node ≤ (t.length : Int) - 1 then (match z4Z t 32 node with | some l => l.reverse | none => []) else []
def lvl (t : List Nd) (n : Nat) (x : Int) (k : Int) : Int := match z4Z t n x with | some l => (l.length : Int) - 1 + k | none => -1
def zLd (t : List Nd) (node : Int) : Int := if 0 ≤ node ∧ node ≤ (t.length : Int) - 1 then lvl t 32 node 0 else -1
end Go.H.S
namespace Go.H.S
open Go Go.Proofs Go.H
attribute [local irreducible] Tri z6 zR
def wu (t : List Nd) (k : Nat) : List Int :=
 match t with
 | [] => []
 | n :: r => if n.f = -1 then (k : Int) :: wu r (k + 1) else wu r (k + 1)
theorem zA1 : ∀ (t : List Nd) (k : Nat), (wu t k).length ≤ t.length
 | [], k => by simp [wu]
 | n :: r, k => by
  simp only [wu]
  have := zA1 r (k + 1)
  split <;> simp <;> omega
theorem z6J (t : List Nd) (hl : t.length ≤ 1048576) : z6 PR zAb [aT t] (.c (.ref 0 0 none)) [(0, .arr zZ 1 0 .own (eL cI (wu t 0)))] 1 := by
 refine z6.intro hT (pf Tryz.func268) rfl (by kernel_rfl) Tryz.ntmps268 rfl ?_
 conv => whnf
 refine zB hT [3, 8, 9, 10] (α := Nat × List Int) (fun x => { t := [(3, .c (.ref 0 0 none)), (8, aNs t), (9, ai t.length), (10, ai x.1)], h := [(0, .arr zZ 1 0 .own (eL cI x.2))], n := 1, N := 23 })
  (fun x => x.1 ≤ t.length ∧ x.2.length ≤ x.1 ∧ x.2 ++ wu (t.drop x.1) x.1 = wu t 0) (fun x => t.length - x.1) (0, []) (by ((conv => whnf); simp only [eS, zp])) ⟨Nat.zero_le _, by simp, rfl⟩ ?_
 intro ⟨k, out⟩ ⟨hk, hol, ho⟩
 dsimp only at hk hol ho
 conv => whnf
 refine zK (fun h1 => ?_) (fun h1 => ?_) <;> (conv => whnf) <;> simp at h1
 ·obtain ⟨n, hn⟩ := zI h1
  refine zG (by simp) hn ?_
  conv => whnf
  refine .inl ⟨_, _, _, z3N n, rfl, ?_⟩
  conv => whnf
  rw [yj hn, wu] at ho
  refine zK (fun h2 => ?_) (fun h2 => ?_) <;> (conv => whnf) <;> simp only [eH] at h2
  ·rw [if_pos h2] at ho
   refine ⟨by simp [zE, zQ]; omega, ?_⟩
   conv => whnf
   refine ⟨(k + 1, out ++ [(k : Int)]), by dsimp only; omega, ⟨h1, by simp; omega, by rw [← ho]; simp⟩, ?_⟩
   ((conv => whnf); simp only [eS, z7, wI h1 (by omega)])
   rw [← zX]
   rfl
  ·rw [if_neg h2] at ho
   refine ⟨(k + 1, out), by dsimp only; omega, ⟨h1, by dsimp only; omega, ho⟩, ?_⟩
   ((conv => whnf); simp only [eS, wI h1 (by omega)])
 ·obtain rfl : k = t.length := by omega
  simp [wu] at ho
  rw [ho]
end Go.H.S
namespace Go.H.S
open Go Go.Proofs Go.H
attribute [local irreducible] Tri z6 zR
end Go.H.S
namespace Go.H.S
open Go Go.Proofs Go.H
attribute [local irreducible] Tri z6 zR
def z0f (x lo hi : Int) : Int := if x < lo then lo else if hi < x then hi else x
theorem z2T (x lo hi : Int) : z6 PR zBc [ai x, ai lo, ai hi] (ai (z0f x lo hi)) [] 0 := by
 refine z6.intro hT (pf Tryz.func208) rfl (by kernel_rfl) Tryz.ntmps208 rfl ?_
 conv => whnf
 refine zK (fun h => ?_) (fun h => ?_) <;> (conv => whnf) <;> simp only [eH] at h
 ·((conv => whnf); simp only [eS])
  simp only [z0f]
  rw [if_pos (by omega)]
 ·refine zK (fun h2 => ?_) (fun h2 => ?_) <;> (conv => whnf) <;> simp only [eH] at h2 <;> ((conv => whnf); simp only [eS]) <;> simp only [z0f]
  ·rw [if_neg (by omega), if_pos (by omega)]
  ·rw [if_neg (by omega), if_neg (by omega)]
theorem z0W (x : Int) : z6 PR zBM [ai x] (ab (decide (-2147483647 ≤ x ∧ x ≤ 2147483647))) [] 0 := by
 refine z6.intro hT (pf Tryz.func161) rfl (by kernel_rfl) Tryz.ntmps161 rfl ?_
 conv => whnf
 refine .inl ⟨_, _, _, zS _ _ _, rfl, ?_⟩
 conv => whnf
theorem z0X (x : Int) : z6 PR zBT [ai x] (ab (decide (-1099511627776 ≤ x ∧ x ≤ 1099511627776))) [] 0 := by
 refine z6.intro hT (pf Tryz.func131) rfl (by kernel_rfl) Tryz.ntmps131 rfl ?_
 conv => whnf
 refine .inl ⟨_, _, _, zS _ _ _, rfl, ?_⟩
 conv => whnf
end Go.H.S
namespace Go.H.S
open Go Go.Proofs Go.H
attribute [local irreducible] Tri z6 zR
def z7O (n : Nd) : Bool := decide (n ≠ ⟨-1, 0, 0, 0, n.v⟩) || !decide (-1099511627776 ≤ n.v ∧ n.v ≤ 1099511627776)
def z1J (n : Nd) (ft i next : Int) : Bool := decide (¬ (0 ≤ n.f ∧ n.f ≤ ft - 1)) || decide (¬ (-2147483647 ≤ n.c ∧ n.c ≤ 2147483647)) || decide (n.v ≠ 0) || decide (n.l ≠ next) || decide (n.r ≠ next + 1) || decide (n.l ≤ i)
def yT (ft : Int) : List Nd → Int → Int → Option Int
 | [], i, next => some next
 | n :: r, i, next => if n.f = -1 then (if z7O n then none else yT ft r (i + 1) next) else if z1J n ft i next then none else yT ft r (i + 1) (next + 2)
def yn (t : List Nd) (ft : Int) : Bool := decide (yT ft t 0 1 = some (t.length : Int))
end Go.H.S
namespace Go.H.S
open Go Go.Proofs Go.H
theorem z79 {ft : Int} : ∀ {l : List Nd} {i next m : Int}, yT ft l i next = some m → ∀ {j : Nat} {n : Nd}, l[j]? = some n → n.f = -1 → z7O n = false
 | [], i, next, m, h, j, n, hj, hf => by simp at hj
 | x :: r, i, next, m, h, j, n, hj, hf => by
  simp only [yT] at h
  cases j with
  | zero =>
   simp at hj
   subst hj
   rw [if_pos hf] at h
   cases hb : z7O x with
   | false => rfl
   | true => simp [hb] at h
  | succ j =>
   rw [List.getElem?_cons_succ] at hj
   split at h
   ·split at h
    ·cases h
    ·exact z79 h hj hf
   ·split at h
    ·cases h
    ·exact z79 h hj hf
theorem z2x {ft : Int} : ∀ {l : List Nd} {i next m : Int}, yT ft l i next = some m → ∀ {j : Nat} {n : Nd}, l[j]? = some n → n.f ≠ -1 → ∃ nx, next ≤ nx ∧ nx + 2 ≤ m ∧ z1J n ft (i + j) nx = false
 | [], i, next, m, h, j, n, hj, hf => by simp at hj
 | x :: r, i, next, m, h, j, n, hj, hf => by
  have mono : ∀ {l : List Nd} {i a b : Int}, yT ft l i a = some b → a ≤ b := by
   intro l
   induction l with
   | nil => intro i a b h; simp [yT] at h; omega
   | cons y s ih =>
    intro i a b h
    simp only [yT] at h
    split at h
    ·split at h
     ·cases h
     ·exact ih h
    ·split at h
     ·cases h
     ·have := ih h; omega
  simp only [yT] at h
  cases j with
  | zero =>
   simp at hj
   subst hj
   rw [if_neg hf] at h
   cases hb : z1J x ft i next with
   | false =>
    rw [hb] at h
    simp at h
    exact ⟨next, Int.le_refl _, mono h, by simpa using hb⟩
   | true => simp [hb] at h
  | succ j =>
   rw [List.getElem?_cons_succ] at hj
   split at h
   ·split at h
    ·cases h
    ·obtain ⟨nx, h1, h2, h3⟩ := z2x h hj hf
     exact ⟨nx, h1, h2, by rw [show i + ((j + 1 : Nat) : Int) = i + 1 + j by omega]; exact h3⟩
   ·split at h
    ·cases h
    ·obtain ⟨nx, h1, h2, h3⟩ := z2x h hj hf
     exact ⟨nx, by omega, h2, by rw [show i + ((j + 1 : Nat) : Int) = i + 1 + j by omega]; exact h3⟩
theorem z00 {t : List Nd} {ft : Int} (h : yn t ft = true) {j : Nat} {n : Nd} (hj : t[j]? = some n) (hf : n.f ≠ -1) :
  0 ≤ n.f ∧ n.f < ft ∧ n.v = 0 ∧ (j : Int) < n.l ∧ n.r = n.l + 1 ∧ n.r < t.length ∧ -2147483647 ≤ n.c ∧ n.c ≤ 2147483647 := by
 have hs : yT ft t 0 1 = some (t.length : Int) := by simpa [yn] using h
 obtain ⟨nx, h1, h2, h3⟩ := z2x hs hj hf
 simp [z1J] at h3
 omega
theorem z9f {t : List Nd} {ft : Int} (h : yn t ft = true) {j : Nat} {n : Nd} (hj : t[j]? = some n) (hf : n.f = -1) :
  -1099511627776 ≤ n.v ∧ n.v ≤ 1099511627776 := by
 have hs : yT ft t 0 1 = some (t.length : Int) := by simpa [yn] using h
 have h3 := z79 hs hj hf
 simp [z7O] at h3
 omega
theorem z2w {ft : Int} : ∀ {l : List Nd} {i next m : Int}, yT ft l i next = some m → ∀ {j j' : Nat} {n n' : Nd}, l[j]? = some n → l[j']? = some n' → n.f ≠ -1 → n'.f ≠ -1 → j < j' → n.l + 2 ≤ n'.l
 | [], i, next, m, h, j, j', n, n', hj, hj', hf, hf', hlt => by simp at hj
 | x :: r, i, next, m, h, j, j', n, n', hj, hj', hf, hf', hlt => by
  obtain ⟨k, rfl⟩ : ∃ k, j' = k + 1 := ⟨j' - 1, by omega⟩
  rw [List.getElem?_cons_succ] at hj'
  simp only [yT] at h
  cases j with
  | zero =>
   simp at hj
   subst hj
   rw [if_neg hf] at h
   cases hb : z1J x ft i next with
   | true => simp [hb] at h
   | false =>
    rw [hb] at h
    simp at h
    obtain ⟨nx, h1, h2, h3⟩ := z2x h hj' hf'
    simp [z1J] at h3 hb
    omega
  | succ j =>
   rw [List.getElem?_cons_succ] at hj
   split at h
   ·split at h
    ·cases h
    ·exact z2w h hj hj' hf hf' (by omega)
   ·split at h
    ·cases h
    ·exact z2w h hj hj' hf hf' (by omega)
theorem zCE {t : List Nd} {ft : Int} (h : yn t ft = true) {j j' : Nat} {n n' : Nd} (hj : t[j]? = some n) (hj' : t[j']? = some n') (hf : n.f ≠ -1) (hf' : n'.f ≠ -1) {x : Int}
  (hx : n.l = x ∨ n.r = x) (hx' : n'.l = x ∨ n'.r = x) : j = j' := by
 have hs : yT ft t 0 1 = some (t.length : Int) := by simpa [yn] using h
 have k1 := z00 h hj hf
 have k2 := z00 h hj' hf'
 rcases Nat.lt_trichotomy j j' with q | q | q
 ·have := z2w hs hj hj' hf hf' q
  omega
 ·exact q
 ·have := z2w hs hj' hj hf' hf q
  omega
theorem zJO {α : Type} (p : α → Bool) : ∀ (l : List α) (k : Nat), 0 ≤ idxL p l k → ∃ (j : Nat) (x : α), idxL p l k = k + j ∧ l[j]? = some x ∧ p x = true
 | [], k, h => by simp [idxL] at h
 | x :: r, k, h => by
  simp only [idxL] at h ⊢
  split
  ·exact ⟨0, x, by simp, rfl, by assumption⟩
  ·rename_i hp
   rw [if_neg hp] at h
   obtain ⟨j, y, h1, h2, h3⟩ := zJO p r (k + 1) h
   exact ⟨j + 1, y, by rw [h1]; omega, by rw [List.getElem?_cons_succ]; exact h2, h3⟩
theorem zJN {α : Type} (p : α → Bool) : ∀ (l : List α) (k : Nat) {j : Nat} {x : α}, l[j]? = some x → p x = true → 0 ≤ idxL p l k
 | [], k, j, x, h, hp => by simp at h
 | y :: r, k, j, x, h, hp => by
  simp only [idxL]
  split
  ·omega
  ·cases j with
   | zero => simp at h; subst h; contradiction
   | succ j => rw [List.getElem?_cons_succ] at h; exact zJN p r (k + 1) h hp
theorem zKZ {t : List Nd} {ft : Int} (h : yn t ft = true) {x : Int} (hx : 0 ≤ up t x) : ∃ (j : Nat) (n : Nd), up t x = j ∧ t[j]? = some n ∧ n.f ≠ -1 ∧ (n.l = x ∨ n.r = x) ∧ up t x < x := by
 obtain ⟨j, n, h1, h2, h3⟩ := zJO _ _ _ hx
 have h3' : n.f ≠ -1 ∧ (n.l = x ∨ n.r = x) := by simpa [pUp] using h3
 have hk := z00 h h2 h3'.1
 have hu : up t x = j := by unfold up; rw [h1]; simp
 exact ⟨j, n, hu, h2, h3'.1, h3'.2, by omega⟩
theorem up_kid {t : List Nd} {ft : Int} (h : yn t ft = true) {j : Nat} {n : Nd} (hj : t[j]? = some n) (hf : n.f ≠ -1) {x : Int} (hx : n.l = x ∨ n.r = x) : up t x = j := by
 have h0 : 0 ≤ up t x := zJN _ _ _ hj (by simp only [pUp, Bool.and_eq_true, Bool.or_eq_true, decide_eq_true_eq]; exact ⟨hf, hx⟩)
 obtain ⟨j', n', h1, h2, h3, h4, _⟩ := zKZ h h0
 rw [h1, zCE h h2 hj h3 hf h4 hx]
inductive Anc (t : List Nd) : Int → Int → Prop
 | refl (x : Int) : Anc t x x
 | up {z x : Int} : 0 ≤ up t x → Anc t z (up t x) → Anc t z x
theorem zEx {t : List Nd} {ft : Int} (h : yn t ft = true) : ∀ (n : Nat) (x : Int), x < n → ∃ l, z4Z t (n + 1) x = some l ∧ ∀ z, z ∈ l ↔ Anc t z x := by
 intro n
 induction n with
 | zero =>
  intro x hx
  have hneg : up t x < 0 := by
   rcases Int.lt_or_le (up t x) 0 with q | q
   ·exact q
   ·obtain ⟨_, _, _, _, _, _, q2⟩ := zKZ h q
    omega
  refine ⟨[x], by simp [z4Z, hneg], fun z => ?_⟩
  constructor
  ·intro hz; simp at hz; subst hz; exact .refl _
  ·intro hz
   cases hz with
   | refl => simp
   | up q _ => omega
 | succ n ih =>
  intro x hx
  rcases Int.lt_or_le (up t x) 0 with q | q
  ·refine ⟨[x], by simp [z4Z, q], fun z => ?_⟩
   constructor
   ·intro hz; simp at hz; subst hz; exact .refl _
   ·intro hz
    cases hz with
    | refl => simp
    | up q' _ => omega
  ·obtain ⟨_, _, _, _, _, _, q2⟩ := zKZ h q
   obtain ⟨l, h1, h2⟩ := ih (up t x) (by omega)
   refine ⟨x :: l, ?_, fun z => ?_⟩
   ·rw [z4Z, if_neg (by omega), h1]; rfl
   ·rw [List.mem_cons, h2]
    constructor
    ·rintro (rfl | hz)
     ·exact .refl _
     ·exact .up q hz
    ·intro hz
     cases hz with
     | refl => exact .inl rfl
     | up _ hz => exact .inr hz
theorem Anc.trans {t : List Nd} {a b c : Int} (h1 : Anc t a b) (h2 : Anc t b c) : Anc t a c := by
 induction h2 with
 | refl => exact h1
 | up q _ ih => exact .up q ih
end Go.H.S
namespace Go.H.S
open Go Go.Proofs Go.H
attribute [local irreducible] Tri z6 zR zV
end Go.H.S
