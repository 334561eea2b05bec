/- Library, part A: how data are laid; sizes. -/
import Derived.Test.YtbclkplebkencaaNm
namespace Go.H.S
open Go Go.Proofs Go.H
attribute [local irreducible] Tri FnSpec FnSpecM
set_option maxRecDepth 100000
set_option linter.unusedSimpArgs false
set_option linter.unusedVariables false

abbrev ai (n : Int) : AV := .c (.d (.int .i64 n))
abbrev ab (b : Bool) : AV := .c (.d (.bool b))
abbrev aS (s : ByteArray) : AV := .c (.d (.str s))
structure Nd where
  f : Int
  c : Int
  l : Int
  r : Int
  v : Int
  deriving DecidableEq, Inhabited
def cS (s : ByteArray) : List D := [.str s]
def cI (n : Int) : List D := [.int .i64 n]
def cN (n : Nd) : List D := [.int .i64 n.f, .int .i64 n.c, .int .i64 n.l, .int .i64 n.r, .int .i64 n.v]
def cT (t : List Nd) : List D := [.sl 5 (eL cN t)]
abbrev aSs (xs : List ByteArray) : AV := .c (.d (.sl 1 (eL cS xs)))
abbrev aIs (xs : List Int) : AV := .c (.d (.sl 1 (eL cI xs)))
abbrev aNs (xs : List Nd) : AV := .c (.d (.sl 5 (eL cN xs)))
abbrev aTs (xs : List (List Nd)) : AV := .c (.d (.sl 1 (eL cT xs)))
abbrev cNd (n : Nd) : List CV := [.d (.int .i64 n.f), .d (.int .i64 n.c), .d (.int .i64 n.l), .d (.int .i64 n.r), .d (.int .i64 n.v)]
abbrev aN (n : Nd) : AV := .agg (cNd n)
abbrev cTr (t : List Nd) : List CV := [.d (.sl 5 (eL cN t))]
abbrev aT (t : List Nd) : AV := .agg (cTr t)

def cIs (xs : List Int) : List D := [.sl 1 (eL cI xs)]
def cSs (xs : List ByteArray) : List D := [.sl 1 (eL cS xs)]
abbrev aIss (xs : List (List Int)) : AV := .c (.d (.sl 1 (eL cIs xs)))
structure Mdl where
  names : List ByteArray
  signs : List Int
  base : Int
  trees : List (List Nd)
structure Tbl where
  names : List ByteArray
  target : ByteArray
  rows : List (List Int)
  ys : List Int
structure Cfg where
  rounds : Int
  depth : Int
  bins : Int
  lambda : Int
  rows : Int
  num : Int
  den : Int
  signs : List Int
structure Grd where
  cuts : List (List Int)
  bins : List (List Int)
abbrev cM (m : Mdl) : List CV := [.d (.sl 1 (eL cS m.names)), .d (.sl 1 (eL cI m.signs)), .d (.int .i64 m.base), .d (.sl 1 (eL cT m.trees))]
abbrev aM (m : Mdl) : AV := .agg (cM m)
abbrev cTb (t : Tbl) : List CV := [.d (.sl 1 (eL cS t.names)), .d (.str t.target), .d (.sl 1 (eL cIs t.rows)), .d (.sl 1 (eL cI t.ys))]
abbrev aTb (t : Tbl) : AV := .agg (cTb t)
abbrev cCf (c : Cfg) : List CV := [.d (.int .i64 c.rounds), .d (.int .i64 c.depth), .d (.int .i64 c.bins), .d (.int .i64 c.lambda), .d (.int .i64 c.rows), .d (.int .i64 c.num), .d (.int .i64 c.den), .d (.sl 1 (eL cI c.signs))]
abbrev aCf (c : Cfg) : AV := .agg (cCf c)
abbrev cG (g : Grd) : List CV := [.d (.sl 1 (eL cIs g.cuts)), .d (.sl 1 (eL cIs g.bins))]
abbrev aG (g : Grd) : AV := .agg (cG g)

/-- Behind a test of an index: the element. -/
theorem idx_at {α : Type} {f : α → List D} {xs : List α} {n : Int} {k : Nat} {x : α} {K : List D → Prop} (hn : n = (k : Int)) (hx : xs[k]? = some x) (h : K (f x)) : InB n (dLen (eL f xs)) ∧ ∀ c, AtD (eL f xs) (nOf n) c → K c := by
  subst hn
  have hlt := (List.getElem?_eq_some_iff.1 hx).1
  refine ⟨by simp; omega, fun c hc => ?_⟩
  obtain ⟨y, hy, rfl⟩ := at_eL hc
  simp only [nOf_eq, Int.toNat_natCast] at hy
  rw [hx] at hy
  cases hy
  exact h
theorem eL_length {α : Type} (f : α → List D) (xs : List α) : (eL f xs).length = xs.length := by rw [← dLen_len]; simp
theorem eL_get {α : Type} (f : α → List D) (xs : List α) (k : Nat) : (eL f xs)[k]? = (xs[k]?).map f := by rw [eL]; simp
theorem eL_nil {α : Type} (f : α → List D) : eL f [] = [] := by rw [eL]; rfl
theorem eL_cons {α : Type} (f : α → List D) (x : α) (xs : List α) : eL f (x :: xs) = f x :: eL f xs := by rw [eL, eL]; rfl
theorem dApp_eq (es fs : List (List D)) : dApp es fs = es ++ fs := by rw [dApp]
theorem dApp_nil (es : List (List D)) : dApp [] es = es := by rw [dApp_eq]; rfl
theorem dApp_cons (c : List D) (es fs : List (List D)) : dApp (c :: es) fs = c :: dApp es fs := by rw [dApp_eq, dApp_eq]; rfl
theorem iMin_eq (x y : Int) : iMin x y = min x y := by unfold iMin; split <;> omega
theorem iMax_eq (x y : Int) : iMax x y = max x y := by unfold iMax; split <;> omega
/-- The same for a row of the frame's own: an index, a read, a store. -/
theorem ref_at {n : Int} {k m : Nat} {K : Prop} (hn : n = (k : Int)) (hk : k < m) (h : K) : InB n m ∧ K := ⟨by subst hn; simp; omega, h⟩
theorem ld_at {α : Type} {f : α → List D} {xs : List α} {k' k : Nat} {x : α} {K : List D → Prop} (hk : k' = k) (hx : xs[k]? = some x) (h : K (f x)) : ∀ c, (eL f xs)[k']? = some c → K c := fun c hc => by
  rw [hk, eL_get, hx] at hc
  cases hc
  exact h
theorem st_at {α : Type} {f : α → List D} {xs : List α} {k' k j n : Nat} {x : α} {K : List D → Prop} (hk : k' = k) (hx : xs[k]? = some x) (hr : j + n ≤ (f x).length) (h : K (f x)) : ∀ c, AtD (eL f xs) k' c → dRoom j n c ∧ K c := fun c hc => by
  have hc' : (eL f xs)[k']? = some c := by unfold AtD at hc; exact hc
  rw [hk, eL_get, hx] at hc'
  cases hc'
  exact ⟨by simpa using hr, h⟩
theorem cI_set (xs : List Int) (k : Nat) (x y : Int) : dSet (eL cI xs) k (dOver (cI x) 0 [.int .i64 y]) = eL cI (xs.set k y) := by
  rw [dOver_all (by rfl)]; exact eL_set cI xs k y
theorem flat_cI (xs : List Int) : FlatR (eL cI xs) := fun c hc d hd => by
  rw [eL] at hc
  obtain ⟨x, _, rfl⟩ := List.mem_map.1 hc
  simp [cI] at hd
  subst hd; rfl
theorem get_lt {α : Type} {l : List α} {k : Nat} (h : k < l.length) : ∃ x, l[k]? = some x := ⟨_, List.getElem?_eq_getElem h⟩

/-- What is left of a budget. -/
@[irreducible] def bud (m : Int) (c : Nat) : Int := if (c : Int) ≤ m then m - c else -1
theorem bud_lt {m : Int} {c : Nat} (h : m < c) : bud m c = -1 := by simp only [bud]; rw [if_neg (by omega)]
theorem bud_le {m : Int} {c : Nat} (h : (c : Int) ≤ m) : bud m c = m - c := by simp only [bud]; rw [if_pos h]
theorem bud_step {m : Int} {c r : Nat} (h : (c : Int) ≤ m) : bud m (c + r) = bud (m - c) r := by
  simp only [bud]
  by_cases h' : ((c + r : Nat) : Int) ≤ m
  · rw [if_pos h', if_pos (by omega)]; omega
  · rw [if_neg h', if_neg (by omega)]
theorem bud_zero {m : Int} (h : 0 ≤ m) : bud m 0 = m := by simp [bud, h]
theorem bud_neg {m : Int} {c r : Nat} (h : bud m c < 0) : bud m (c + r) = -1 := by
  simp only [bud] at *
  split at h
  · omega
  · rw [if_neg (by omega)]
theorem bud_pos {m : Int} {c : Nat} (h : 0 ≤ bud m c) : (c : Int) ≤ m ∧ bud m c = m - c := by
  simp only [bud] at *
  split at h
  · rename_i hc; exact ⟨hc, by rw [if_pos hc]⟩
  · omega
theorem bud_m1 {m : Int} {c : Nat} (h : bud m c < 0) : bud m c = -1 := by
  simp only [bud] at *
  split at h
  · omega
  · rename_i hc; rw [if_neg hc]
theorem bud_mono {m : Int} {c : Nat} (h : m ≤ 1048576) : bud m c ≤ 1048576 := by
  simp only [bud]
  split <;> omega
theorem bud_bud {m : Int} {a b : Nat} (h : 0 ≤ bud m a) : bud (bud m a) b = bud m (a + b) := by
  obtain ⟨h1, h2⟩ := bud_pos h
  rw [h2, bud_step h1]

def costL {α : Type} (f : α → Nat) : List α → Nat
  | [] => 0
  | x :: r => f x + costL f r
/-- A slice's size: its length and its elements' sizes. -/
@[irreducible] def cost {α : Type} (f : α → Nat) (l : List α) : Nat := l.length + costL f l
theorem cost_eq {α : Type} (f : α → Nat) (l : List α) : cost f l = l.length + costL f l := by rw [cost]

theorem bud_more {m : Int} {c d : Nat} (h : bud m c = -1) (hd : c ≤ d) : bud m d = -1 := by
  simp only [bud] at *
  split at h
  · omega
  · rw [if_neg (by omega)]
theorem bud_slt {m : Int} {c s : Nat} (h : bud m c - s < 0) (g : 0 ≤ bud m c) : bud m (c + s) = -1 := by
  obtain ⟨h1, h2⟩ := bud_pos g
  exact bud_lt (by omega)
theorem bud_sle {m : Int} {c s : Nat} (h : 0 ≤ bud m c - s) (g : 0 ≤ bud m c) : bud m c - s = bud m (c + s) := by
  obtain ⟨h1, h2⟩ := bud_pos g
  rw [bud_le (show ((c + s : Nat) : Int) ≤ m by omega)]; omega
theorem wI {k n : Nat} (h : k < n) (hn : n ≤ 9223372036854775807) : wAdd .i64 (k : Int) 1 = ((k + 1 : Nat) : Int) := by
  have := wInc h hn
  simpa using this
theorem toNode_spec (n : Nd) : FnSpec PR f_laws_toNode [aN n] (aN n) [] 0 := by
  refine FnSpec.intro hT p_laws_toNode rfl (by kernel_rfl) n_laws_toNode rfl ?_
  conv => whnf
theorem eqNode_spec (n : Nd) : FnSpec PR f_laws_eqNode [aN n, aN n] (ab true) [] 0 := by
  refine FnSpec.intro hT p_laws_eqNode rfl (by kernel_rfl) n_laws_eqNode rfl ?_
  conv => whnf
  iterate 5
    refine ifB_i (fun hb => ?_) (fun hb => ?_)
    · simp at hb
    (conv => whnf)
end Go.H.S
namespace Go.H.S
open Go Go.Proofs Go.H
attribute [local irreducible] Tri FnSpec FnSpecM
set_option maxRecDepth 100000
set_option linter.unusedSimpArgs false
set_option linter.unusedVariables false


theorem szStringS_spec (xs : List (ByteArray)) (n : Int) (h0 : 0 ≤ n) (hn : n ≤ 1048576) (hx : xs.length ≤ 9223372036854775807) (hs : ∀ s ∈ xs, s.size ≤ 9223372036854775807) :
    FnSpec PR f_laws_szStringS [.c (.d (.sl 1 (eL cS xs))), ai n] (ai (bud n (cost ByteArray.size xs))) [] 0 := by
  refine FnSpec.intro hT p_laws_szStringS rfl (by kernel_rfl) n_laws_szStringS rfl ?_
  conv => whnf
  have e : wSub .i64 n xs.length = n - xs.length := wSub64 (by omega) (by omega)
  refine ifB_i (fun hb => ?_) (fun hb => ?_) <;> (conv => whnf) <;> simp only [nInt_eq, Int.natCast_zero, dLen_eL, sLen_eq, nOf_eq, Int.toNat_natCast, nAdd_eq, nSub_eq, dLen_nil, dLen_cons, iLt_t, iLt_f, iLe_t, iLe_f, iEq_t, iEq_f, sEq_t, sEq_f, bNot_t, bNot_f, bAnd_t, bEq_t, bEq_f, Bool.not_eq_true, Bool.not_eq_false, Bool.true_eq_false, Bool.false_eq_true, e] at hb
  · rw [cost_eq, bud_lt (by omega)]
  · refine tri_loop hT [0, 1, 5] (α := Nat × Int) (fun x => { t := [(0, .c (.d (.sl 1 (eL cS xs)))), (1, ai x.2), (5, ai (nInt x.1))], h := [], n := 0, N := 28 })
      (fun x => x.1 ≤ xs.length ∧ 0 ≤ x.2 ∧ x.2 ≤ 1048576 ∧ bud x.2 (costL ByteArray.size (xs.drop x.1)) = bud n (cost ByteArray.size xs)) (fun x => xs.length - x.1) (0, n - xs.length) (by ((conv => whnf); simp only [St.mk.injEq, List.cons.injEq, Prod.mk.injEq, AV.c.injEq, AV.agg.injEq, AV.tup.injEq, CV.d.injEq, D.int.injEq, D.bool.injEq, D.str.injEq, D.sl.injEq, Ent.arr.injEq, Ent.box.injEq, true_and, and_true, and_self, nInt_eq, Int.natCast_zero, dLen_eL, sLen_eq, e]))
      ⟨by omega, by dsimp only; omega, by dsimp only; omega, by rw [cost_eq, bud_step (by omega)]; rfl⟩ ?_
    intro ⟨k, m⟩ ⟨hk, hm0, hm1, hm⟩
    dsimp only at hk hm hm0 hm1
    (conv => whnf)
    refine ifB_i (fun h1 => ?_) (fun h1 => ?_) <;> (conv => whnf) <;> simp at h1
    · obtain ⟨s, hs'⟩ := get_lt h1
      refine idx_at (by simp) hs' ?_
      (conv => whnf)
      have hss := hs s (List.mem_of_getElem? hs')
      have e2 : wSub .i64 m s.size = m - s.size := wSub64 (by omega) (by omega)
      rw [drop_at hs', costL] at hm
      refine ifB_i (fun h2 => ?_) (fun h2 => ?_) <;> (conv => whnf) <;> simp only [nInt_eq, Int.natCast_zero, dLen_eL, sLen_eq, nOf_eq, Int.toNat_natCast, nAdd_eq, nSub_eq, dLen_nil, dLen_cons, iLt_t, iLt_f, iLe_t, iLe_f, iEq_t, iEq_f, sEq_t, sEq_f, bNot_t, bNot_f, bAnd_t, bEq_t, bEq_f, Bool.not_eq_true, Bool.not_eq_false, Bool.true_eq_false, Bool.false_eq_true, e2] at h2
      · rw [bud_lt (by omega)] at hm
        rw [← hm]
      · rw [bud_step (by omega)] at hm
        refine ⟨(k + 1, m - s.size), by dsimp only; omega, ⟨h1, h2, by dsimp only; omega, hm⟩, ?_⟩
        ((conv => whnf); simp only [St.mk.injEq, List.cons.injEq, Prod.mk.injEq, AV.c.injEq, AV.agg.injEq, AV.tup.injEq, CV.d.injEq, D.int.injEq, D.bool.injEq, D.str.injEq, D.sl.injEq, Ent.arr.injEq, Ent.box.injEq, true_and, and_true, and_self, nInt_eq, Int.natCast_zero, dLen_eL, sLen_eq, wI h1 hx, e2])
    · obtain rfl : k = xs.length := by omega
      simp only [List.drop_length, costL] at hm
      rw [bud_zero hm0] at hm
      rw [hm]


theorem toStringS_spec (xs : List (ByteArray)) (hx : xs.length ≤ 4000000000) :
    FnSpec PR f_laws_toStringS [.c (.d (.sl 1 (eL cS xs)))] (.c (.ref 0 0 none)) [(0, .arr t_string 1 0 .own (eL cS xs))] 1 := by
  refine FnSpec.intro hT p_laws_toStringS rfl (by kernel_rfl) n_laws_toStringS rfl ?_
  conv => whnf
  refine ⟨by simp; omega, ?_⟩
  (conv => whnf)
  refine tri_loop hT [0, 3, 4] (α := Nat × List (List D)) (fun x => { t := [(0, .c (.d (.sl 1 (eL cS xs)))), (3, .c (.ref 0 0 none)), (4, ai (nInt x.1))], h := [(0, .arr t_string 1 0 .own x.2)], n := 1, N := 22 })
    (fun x => x.1 ≤ xs.length ∧ Fill cS 1 xs x.1 x.2) (fun x => xs.length - x.1) (0, _) (by ((conv => whnf); simp only [St.mk.injEq, List.cons.injEq, Prod.mk.injEq, AV.c.injEq, AV.agg.injEq, AV.tup.injEq, CV.d.injEq, D.int.injEq, D.bool.injEq, D.str.injEq, D.sl.injEq, Ent.arr.injEq, Ent.box.injEq, true_and, and_true, and_self, nInt_eq, Int.natCast_zero, dLen_eL, sLen_eq]); rfl) ⟨by omega, Fill.start cS xs rfl⟩ ?_
  intro ⟨k, es⟩ ⟨hk, hf⟩
  dsimp only at hk hf
  have hl := hf.len
  (conv => whnf)
  refine ifB_i (fun h1 => ?_) (fun h1 => ?_) <;> (conv => whnf) <;> simp at h1
  · obtain ⟨s, hs'⟩ := get_lt h1
    refine idx_at (by simp) hs' ?_
    (conv => whnf)
    refine ⟨by simp only [lenRE_none, dLen_len, hl, InB_eq, nInt_eq]; omega, ?_⟩
    (conv => whnf)
    intro c' hc'
    have hr := hf.room hc'
    refine ⟨by simp; omega, ?_⟩
    rw [dOver_all (by rw [hr]; rfl)]
    (conv => whnf)
    refine ⟨(k + 1, dSet es k (cS s)), by dsimp only; omega, ⟨h1, hf.step hs' rfl⟩, ?_⟩
    ((conv => whnf); simp only [St.mk.injEq, List.cons.injEq, Prod.mk.injEq, AV.c.injEq, AV.agg.injEq, AV.tup.injEq, CV.d.injEq, D.int.injEq, D.bool.injEq, D.str.injEq, D.sl.injEq, Ent.arr.injEq, Ent.box.injEq, true_and, and_true, and_self, nInt_eq, Int.natCast_zero, dLen_eL, sLen_eq, wI h1 (by omega), nAdd_eq, nOf_eq, Int.toNat_natCast, offR, Nat.zero_add])
    rfl
  · obtain rfl : k = xs.length := by omega
    rw [hf.done]


theorem eqStringS_spec (xs : List (ByteArray)) (hx : xs.length ≤ 9223372036854775807) : FnSpec PR f_laws_eqStringS [.c (.d (.sl 1 (eL cS xs))), .c (.d (.sl 1 (eL cS xs)))] (ab true) [] 0 := by
  refine FnSpec.intro hT p_laws_eqStringS rfl (by kernel_rfl) n_laws_eqStringS rfl ?_
  conv => whnf
  refine ifB_i (fun hb => ?_) (fun hb => ?_)
  · simp at hb
  (conv => whnf)
  refine tri_loop hT [0, 1, 5] (α := Nat) (fun x => { t := [(0, .c (.d (.sl 1 (eL cS xs)))), (1, .c (.d (.sl 1 (eL cS xs)))), (5, ai (nInt x))], h := [], n := 0, N := 26 })
      (fun x => x ≤ xs.length) (fun x => xs.length - x) 0 (by ((conv => whnf); simp only [St.mk.injEq, List.cons.injEq, Prod.mk.injEq, AV.c.injEq, AV.agg.injEq, AV.tup.injEq, CV.d.injEq, D.int.injEq, D.bool.injEq, D.str.injEq, D.sl.injEq, Ent.arr.injEq, Ent.box.injEq, true_and, and_true, and_self, nInt_eq, Int.natCast_zero, dLen_eL, sLen_eq])) (Nat.zero_le _) ?_
  intro k hk
  (conv => whnf)
  refine ifB_i (fun h1 => ?_) (fun h1 => ?_)
  · (conv => whnf)
    simp at h1
    obtain ⟨s, hs'⟩ := get_lt h1
    refine tri_conf hT hmix (by kernel_rfl) ?_
    (conv => whnf)
    refine idx_at (by simp) hs' ?_
    (conv => whnf)
    refine idx_at (by simp) hs' ?_
    (conv => whnf)
    refine ifB_i (fun h2 => ?_) (fun h2 => ?_)
    · simp at h2
    (conv => whnf)
    refine ⟨k + 1, by omega, h1, ?_⟩
    ((conv => whnf); simp only [St.mk.injEq, List.cons.injEq, Prod.mk.injEq, AV.c.injEq, AV.agg.injEq, AV.tup.injEq, CV.d.injEq, D.int.injEq, D.bool.injEq, D.str.injEq, D.sl.injEq, Ent.arr.injEq, Ent.box.injEq, true_and, and_true, and_self, nInt_eq, Int.natCast_zero, dLen_eL, sLen_eq, wI h1 hx])
  · (conv => whnf)


theorem szIntS_spec (xs : List Int) (n : Int) (h0 : 0 ≤ n) (hn : n ≤ 1048576) (hx : xs.length ≤ 9223372036854775807) :
    FnSpec PR f_laws_szIntS [.c (.d (.sl 1 (eL cI xs))), ai n] (ai (bud n xs.length)) [] 0 := by
  refine FnSpec.intro hT p_laws_szIntS rfl (by kernel_rfl) n_laws_szIntS rfl ?_
  conv => whnf
  have e : wSub .i64 n xs.length = n - xs.length := wSub64 (by omega) (by omega)
  refine ifB_i (fun hb => ?_) (fun hb => ?_) <;> (conv => whnf) <;> simp only [nInt_eq, Int.natCast_zero, dLen_eL, sLen_eq, nOf_eq, Int.toNat_natCast, nAdd_eq, nSub_eq, dLen_nil, dLen_cons, iLt_t, iLt_f, iLe_t, iLe_f, iEq_t, iEq_f, sEq_t, sEq_f, bNot_t, bNot_f, bAnd_t, bEq_t, bEq_f, Bool.not_eq_true, Bool.not_eq_false, Bool.true_eq_false, Bool.false_eq_true, e] at hb
  · rw [bud_lt (by omega)]
  · ((conv => whnf); simp only [St.mk.injEq, List.cons.injEq, Prod.mk.injEq, AV.c.injEq, AV.agg.injEq, AV.tup.injEq, CV.d.injEq, D.int.injEq, D.bool.injEq, D.str.injEq, D.sl.injEq, Ent.arr.injEq, Ent.box.injEq, true_and, and_true, and_self, nInt_eq, Int.natCast_zero, dLen_eL, sLen_eq, e, bud_le (show (xs.length : Int) ≤ n by omega)])


theorem toIntS_spec (xs : List (Int)) (hx : xs.length ≤ 4000000000) :
    FnSpec PR f_laws_toIntS [.c (.d (.sl 1 (eL cI xs)))] (.c (.ref 0 0 none)) [(0, .arr t_int 1 0 .own (eL cI xs))] 1 := by
  refine FnSpec.intro hT p_laws_toIntS rfl (by kernel_rfl) n_laws_toIntS rfl ?_
  conv => whnf
  refine ⟨by simp; omega, ?_⟩
  (conv => whnf)
  refine tri_loop hT [0, 3, 4] (α := Nat × List (List D)) (fun x => { t := [(0, .c (.d (.sl 1 (eL cI xs)))), (3, .c (.ref 0 0 none)), (4, ai (nInt x.1))], h := [(0, .arr t_int 1 0 .own x.2)], n := 1, N := 22 })
    (fun x => x.1 ≤ xs.length ∧ Fill cI 1 xs x.1 x.2) (fun x => xs.length - x.1) (0, _) (by ((conv => whnf); simp only [St.mk.injEq, List.cons.injEq, Prod.mk.injEq, AV.c.injEq, AV.agg.injEq, AV.tup.injEq, CV.d.injEq, D.int.injEq, D.bool.injEq, D.str.injEq, D.sl.injEq, Ent.arr.injEq, Ent.box.injEq, true_and, and_true, and_self, nInt_eq, Int.natCast_zero, dLen_eL, sLen_eq]); rfl) ⟨by omega, Fill.start cI xs rfl⟩ ?_
  intro ⟨k, es⟩ ⟨hk, hf⟩
  dsimp only at hk hf
  have hl := hf.len
  (conv => whnf)
  refine ifB_i (fun h1 => ?_) (fun h1 => ?_) <;> (conv => whnf) <;> simp at h1
  · obtain ⟨s, hs'⟩ := get_lt h1
    refine idx_at (by simp) hs' ?_
    (conv => whnf)
    refine ⟨by simp only [lenRE_none, dLen_len, hl, InB_eq, nInt_eq]; omega, ?_⟩
    (conv => whnf)
    intro c' hc'
    have hr := hf.room hc'
    refine ⟨by simp; omega, ?_⟩
    rw [dOver_all (by rw [hr]; rfl)]
    (conv => whnf)
    refine ⟨(k + 1, dSet es k (cI s)), by dsimp only; omega, ⟨h1, hf.step hs' rfl⟩, ?_⟩
    ((conv => whnf); simp only [St.mk.injEq, List.cons.injEq, Prod.mk.injEq, AV.c.injEq, AV.agg.injEq, AV.tup.injEq, CV.d.injEq, D.int.injEq, D.bool.injEq, D.str.injEq, D.sl.injEq, Ent.arr.injEq, Ent.box.injEq, true_and, and_true, and_self, nInt_eq, Int.natCast_zero, dLen_eL, sLen_eq, wI h1 (by omega), nAdd_eq, nOf_eq, Int.toNat_natCast, offR, Nat.zero_add])
    rfl
  · obtain rfl : k = xs.length := by omega
    rw [hf.done]


theorem eqIntS_spec (xs : List (Int)) (hx : xs.length ≤ 9223372036854775807) : FnSpec PR f_laws_eqIntS [.c (.d (.sl 1 (eL cI xs))), .c (.d (.sl 1 (eL cI xs)))] (ab true) [] 0 := by
  refine FnSpec.intro hT p_laws_eqIntS rfl (by kernel_rfl) n_laws_eqIntS rfl ?_
  conv => whnf
  refine ifB_i (fun hb => ?_) (fun hb => ?_)
  · simp at hb
  (conv => whnf)
  refine tri_loop hT [0, 1, 5] (α := Nat) (fun x => { t := [(0, .c (.d (.sl 1 (eL cI xs)))), (1, .c (.d (.sl 1 (eL cI xs)))), (5, ai (nInt x))], h := [], n := 0, N := 26 })
      (fun x => x ≤ xs.length) (fun x => xs.length - x) 0 (by ((conv => whnf); simp only [St.mk.injEq, List.cons.injEq, Prod.mk.injEq, AV.c.injEq, AV.agg.injEq, AV.tup.injEq, CV.d.injEq, D.int.injEq, D.bool.injEq, D.str.injEq, D.sl.injEq, Ent.arr.injEq, Ent.box.injEq, true_and, and_true, and_self, nInt_eq, Int.natCast_zero, dLen_eL, sLen_eq])) (Nat.zero_le _) ?_
  intro k hk
  (conv => whnf)
  refine ifB_i (fun h1 => ?_) (fun h1 => ?_)
  · (conv => whnf)
    simp at h1
    obtain ⟨s, hs'⟩ := get_lt h1
    refine tri_conf hT hmix (by kernel_rfl) ?_
    (conv => whnf)
    refine idx_at (by simp) hs' ?_
    (conv => whnf)
    refine idx_at (by simp) hs' ?_
    (conv => whnf)
    refine ifB_i (fun h2 => ?_) (fun h2 => ?_)
    · simp at h2
    (conv => whnf)
    refine ⟨k + 1, by omega, h1, ?_⟩
    ((conv => whnf); simp only [St.mk.injEq, List.cons.injEq, Prod.mk.injEq, AV.c.injEq, AV.agg.injEq, AV.tup.injEq, CV.d.injEq, D.int.injEq, D.bool.injEq, D.str.injEq, D.sl.injEq, Ent.arr.injEq, Ent.box.injEq, true_and, and_true, and_self, nInt_eq, Int.natCast_zero, dLen_eL, sLen_eq, wI h1 hx])
  · (conv => whnf)


def okConfig (x : Cfg) : Prop := (x.signs.length ≤ 9223372036854775807)
def smConfig (x : Cfg) : Prop := (x.signs.length ≤ 4000000000)


def costConfig (x : Cfg) : Nat := x.signs.length


theorem szConfig_spec (x : Cfg) (n : Int) (h0 : 0 ≤ n) (hn : n ≤ 1048576) (ho : okConfig x) : FnSpec PR f_laws_szConfig [aCf x, ai n] (ai (bud n (costConfig x))) [] 0 := by
  have o0 := ho
  refine FnSpec.intro hT p_laws_szConfig rfl (by kernel_rfl) n_laws_szConfig rfl ?_
  conv => whnf
  refine .inl ⟨_, _, _, szIntS_spec x.signs _ h0 hn o0, rfl, ?_⟩
  (conv => whnf)
  refine ifB_i (fun h => ?_) (fun h => ?_) <;> (conv => whnf) <;> simp only [nInt_eq, Int.natCast_zero, dLen_eL, sLen_eq, nOf_eq, Int.toNat_natCast, nAdd_eq, nSub_eq, dLen_nil, dLen_cons, iLt_t, iLt_f, iLe_t, iLe_f, iEq_t, iEq_f, sEq_t, sEq_f, bNot_t, bNot_f, bAnd_t, bEq_t, bEq_f, Bool.not_eq_true, Bool.not_eq_false, Bool.true_eq_false, Bool.false_eq_true] at h
  · rw [costConfig]
    rw [bud_m1 h]
  have g0 : 0 ≤ bud n (x.signs.length) := h
  rw [costConfig]


theorem toConfig_spec (x : Cfg) (ho : smConfig x) : FnSpec PR f_laws_toConfig [aCf x] (.agg [.d (.int .i64 x.rounds), .d (.int .i64 x.depth), .d (.int .i64 x.bins), .d (.int .i64 x.lambda), .d (.int .i64 x.rows), .d (.int .i64 x.num), .d (.int .i64 x.den), .ref 0 0 none]) [(0, .arr t_int 1 0 .own (eL cI x.signs))] 1 := by
  have o0 := ho
  refine FnSpec.intro hT p_laws_toConfig rfl (by kernel_rfl) n_laws_toConfig rfl ?_
  conv => whnf
  refine .inl ⟨_, _, _, toIntS_spec x.signs o0, rfl, ?_⟩
  (conv => whnf)


theorem eqConfig_spec (x : Cfg) (ho : okConfig x) : FnSpec PR f_laws_eqConfig [aCf x, aCf x] (ab true) [] 0 := by
  have o0 := ho
  refine FnSpec.intro hT p_laws_eqConfig rfl (by kernel_rfl) n_laws_eqConfig rfl ?_
  conv => whnf
  refine ifB_i (fun hb => ?_) (fun hb => ?_)
  · simp at hb
  (conv => whnf)
  refine ifB_i (fun hb => ?_) (fun hb => ?_)
  · simp at hb
  (conv => whnf)
  refine ifB_i (fun hb => ?_) (fun hb => ?_)
  · simp at hb
  (conv => whnf)
  refine ifB_i (fun hb => ?_) (fun hb => ?_)
  · simp at hb
  (conv => whnf)
  refine ifB_i (fun hb => ?_) (fun hb => ?_)
  · simp at hb
  (conv => whnf)
  refine ifB_i (fun hb => ?_) (fun hb => ?_)
  · simp at hb
  (conv => whnf)
  refine ifB_i (fun hb => ?_) (fun hb => ?_)
  · simp at hb
  (conv => whnf)
  refine .inl ⟨_, _, _, eqIntS_spec x.signs o0, rfl, ?_⟩
  (conv => whnf)


theorem szNodeS_spec (xs : List Nd) (n : Int) (h0 : 0 ≤ n) (hn : n ≤ 1048576) (hx : xs.length ≤ 9223372036854775807) :
    FnSpec PR f_laws_szNodeS [.c (.d (.sl 5 (eL cN xs))), ai n] (ai (bud n xs.length)) [] 0 := by
  refine FnSpec.intro hT p_laws_szNodeS rfl (by kernel_rfl) n_laws_szNodeS rfl ?_
  conv => whnf
  have e : wSub .i64 n xs.length = n - xs.length := wSub64 (by omega) (by omega)
  refine ifB_i (fun hb => ?_) (fun hb => ?_) <;> (conv => whnf) <;> simp only [nInt_eq, Int.natCast_zero, dLen_eL, sLen_eq, nOf_eq, Int.toNat_natCast, nAdd_eq, nSub_eq, dLen_nil, dLen_cons, iLt_t, iLt_f, iLe_t, iLe_f, iEq_t, iEq_f, sEq_t, sEq_f, bNot_t, bNot_f, bAnd_t, bEq_t, bEq_f, Bool.not_eq_true, Bool.not_eq_false, Bool.true_eq_false, Bool.false_eq_true, e] at hb
  · rw [bud_lt (by omega)]
  · ((conv => whnf); simp only [St.mk.injEq, List.cons.injEq, Prod.mk.injEq, AV.c.injEq, AV.agg.injEq, AV.tup.injEq, CV.d.injEq, D.int.injEq, D.bool.injEq, D.str.injEq, D.sl.injEq, Ent.arr.injEq, Ent.box.injEq, true_and, and_true, and_self, nInt_eq, Int.natCast_zero, dLen_eL, sLen_eq, e, bud_le (show (xs.length : Int) ≤ n by omega)])


theorem toNodeS_spec (xs : List (Nd)) (hx : xs.length ≤ 4000000000) :
    FnSpec PR f_laws_toNodeS [.c (.d (.sl 5 (eL cN xs)))] (.c (.ref 0 0 none)) [(0, .arr t_impl_Node 5 0 .own (eL cN xs))] 1 := by
  refine FnSpec.intro hT p_laws_toNodeS rfl (by kernel_rfl) n_laws_toNodeS rfl ?_
  conv => whnf
  refine ⟨by simp; omega, ?_⟩
  (conv => whnf)
  refine tri_loop hT [0, 3, 4] (α := Nat × List (List D)) (fun x => { t := [(0, .c (.d (.sl 5 (eL cN xs)))), (3, .c (.ref 0 0 none)), (4, ai (nInt x.1))], h := [(0, .arr t_impl_Node 5 0 .own x.2)], n := 1, N := 23 })
    (fun x => x.1 ≤ xs.length ∧ Fill cN 5 xs x.1 x.2) (fun x => xs.length - x.1) (0, _) (by ((conv => whnf); simp only [St.mk.injEq, List.cons.injEq, Prod.mk.injEq, AV.c.injEq, AV.agg.injEq, AV.tup.injEq, CV.d.injEq, D.int.injEq, D.bool.injEq, D.str.injEq, D.sl.injEq, Ent.arr.injEq, Ent.box.injEq, true_and, and_true, and_self, nInt_eq, Int.natCast_zero, dLen_eL, sLen_eq]); rfl) ⟨by omega, Fill.start cN xs rfl⟩ ?_
  intro ⟨k, es⟩ ⟨hk, hf⟩
  dsimp only at hk hf
  have hl := hf.len
  (conv => whnf)
  refine ifB_i (fun h1 => ?_) (fun h1 => ?_) <;> (conv => whnf) <;> simp at h1
  · obtain ⟨s, hs'⟩ := get_lt h1
    refine idx_at (by simp) hs' ?_
    (conv => whnf)
    refine .inl ⟨_, _, _, toNode_spec s, rfl, ?_⟩
    (conv => whnf)
    refine ⟨by simp only [lenRE_none, dLen_len, hl, InB_eq, nInt_eq]; omega, ?_⟩
    (conv => whnf)
    intro c' hc'
    have hr := hf.room hc'
    refine ⟨by simp; omega, ?_⟩
    rw [dOver_all (by rw [hr]; rfl)]
    (conv => whnf)
    refine ⟨(k + 1, dSet es k (cN s)), by dsimp only; omega, ⟨h1, hf.step hs' rfl⟩, ?_⟩
    ((conv => whnf); simp only [St.mk.injEq, List.cons.injEq, Prod.mk.injEq, AV.c.injEq, AV.agg.injEq, AV.tup.injEq, CV.d.injEq, D.int.injEq, D.bool.injEq, D.str.injEq, D.sl.injEq, Ent.arr.injEq, Ent.box.injEq, true_and, and_true, and_self, nInt_eq, Int.natCast_zero, dLen_eL, sLen_eq, wI h1 (by omega), nAdd_eq, nOf_eq, Int.toNat_natCast, offR, Nat.zero_add])
    rfl
  · obtain rfl : k = xs.length := by omega
    rw [hf.done]


theorem eqNodeS_spec (xs : List (Nd)) (hx : xs.length ≤ 9223372036854775807) : FnSpec PR f_laws_eqNodeS [.c (.d (.sl 5 (eL cN xs))), .c (.d (.sl 5 (eL cN xs)))] (ab true) [] 0 := by
  refine FnSpec.intro hT p_laws_eqNodeS rfl (by kernel_rfl) n_laws_eqNodeS rfl ?_
  conv => whnf
  refine ifB_i (fun hb => ?_) (fun hb => ?_)
  · simp at hb
  (conv => whnf)
  refine tri_loop hT [0, 1, 5] (α := Nat) (fun x => { t := [(0, .c (.d (.sl 5 (eL cN xs)))), (1, .c (.d (.sl 5 (eL cN xs)))), (5, ai (nInt x))], h := [], n := 0, N := 27 })
      (fun x => x ≤ xs.length) (fun x => xs.length - x) 0 (by ((conv => whnf); simp only [St.mk.injEq, List.cons.injEq, Prod.mk.injEq, AV.c.injEq, AV.agg.injEq, AV.tup.injEq, CV.d.injEq, D.int.injEq, D.bool.injEq, D.str.injEq, D.sl.injEq, Ent.arr.injEq, Ent.box.injEq, true_and, and_true, and_self, nInt_eq, Int.natCast_zero, dLen_eL, sLen_eq])) (Nat.zero_le _) ?_
  intro k hk
  (conv => whnf)
  refine ifB_i (fun h1 => ?_) (fun h1 => ?_)
  · (conv => whnf)
    simp at h1
    obtain ⟨s, hs'⟩ := get_lt h1
    refine tri_conf hT hmix (by kernel_rfl) ?_
    (conv => whnf)
    refine idx_at (by simp) hs' ?_
    (conv => whnf)
    refine idx_at (by simp) hs' ?_
    (conv => whnf)
    refine ⟨_, _, eqNode_spec s, rfl, ?_⟩
    (conv => whnf)
    refine ⟨k + 1, by omega, h1, ?_⟩
    ((conv => whnf); simp only [St.mk.injEq, List.cons.injEq, Prod.mk.injEq, AV.c.injEq, AV.agg.injEq, AV.tup.injEq, CV.d.injEq, D.int.injEq, D.bool.injEq, D.str.injEq, D.sl.injEq, Ent.arr.injEq, Ent.box.injEq, true_and, and_true, and_self, nInt_eq, Int.natCast_zero, dLen_eL, sLen_eq, wI h1 hx])
  · (conv => whnf)


def okTree (x : List Nd) : Prop := (x.length ≤ 9223372036854775807)
def smTree (x : List Nd) : Prop := (x.length ≤ 4000000000)


def costTree (x : List Nd) : Nat := x.length


theorem szTree_spec (x : List Nd) (n : Int) (h0 : 0 ≤ n) (hn : n ≤ 1048576) (ho : okTree x) : FnSpec PR f_laws_szTree [aT x, ai n] (ai (bud n (costTree x))) [] 0 := by
  have o0 := ho
  refine FnSpec.intro hT p_laws_szTree rfl (by kernel_rfl) n_laws_szTree rfl ?_
  conv => whnf
  refine .inl ⟨_, _, _, szNodeS_spec x _ h0 hn o0, rfl, ?_⟩
  (conv => whnf)
  refine ifB_i (fun h => ?_) (fun h => ?_) <;> (conv => whnf) <;> simp only [nInt_eq, Int.natCast_zero, dLen_eL, sLen_eq, nOf_eq, Int.toNat_natCast, nAdd_eq, nSub_eq, dLen_nil, dLen_cons, iLt_t, iLt_f, iLe_t, iLe_f, iEq_t, iEq_f, sEq_t, sEq_f, bNot_t, bNot_f, bAnd_t, bEq_t, bEq_f, Bool.not_eq_true, Bool.not_eq_false, Bool.true_eq_false, Bool.false_eq_true] at h
  · rw [costTree]
    rw [bud_m1 h]
  have g0 : 0 ≤ bud n (x.length) := h
  rw [costTree]


theorem toTree_spec (x : List Nd) (ho : smTree x) : FnSpec PR f_laws_toTree [aT x] (.agg [.ref 0 0 none]) [(0, .arr t_impl_Node 5 0 .own (eL cN x))] 1 := by
  have o0 := ho
  refine FnSpec.intro hT p_laws_toTree rfl (by kernel_rfl) n_laws_toTree rfl ?_
  conv => whnf
  refine .inl ⟨_, _, _, toNodeS_spec x o0, rfl, ?_⟩
  (conv => whnf)


theorem eqTree_spec (x : List Nd) (ho : okTree x) : FnSpec PR f_laws_eqTree [aT x, aT x] (ab true) [] 0 := by
  have o0 := ho
  refine FnSpec.intro hT p_laws_eqTree rfl (by kernel_rfl) n_laws_eqTree rfl ?_
  conv => whnf
  refine .inl ⟨_, _, _, eqNodeS_spec x o0, rfl, ?_⟩
  (conv => whnf)


theorem szIntSS_spec (xs : List (List Int)) (n : Int) (h0 : 0 ≤ n) (hn : n ≤ 1048576) (hx : xs.length ≤ 9223372036854775807) (hs : ∀ s ∈ xs, s.length ≤ 9223372036854775807) :
    FnSpec PR f_laws_szIntSS [.c (.d (.sl 1 (eL cIs xs))), ai n] (ai (bud n (cost List.length xs))) [] 0 := by
  refine FnSpec.intro hT p_laws_szIntSS rfl (by kernel_rfl) n_laws_szIntSS rfl ?_
  conv => whnf
  have e : wSub .i64 n xs.length = n - xs.length := wSub64 (by omega) (by omega)
  refine ifB_i (fun hb => ?_) (fun hb => ?_) <;> (conv => whnf) <;> simp only [nInt_eq, Int.natCast_zero, dLen_eL, sLen_eq, nOf_eq, Int.toNat_natCast, nAdd_eq, nSub_eq, dLen_nil, dLen_cons, iLt_t, iLt_f, iLe_t, iLe_f, iEq_t, iEq_f, sEq_t, sEq_f, bNot_t, bNot_f, bAnd_t, bEq_t, bEq_f, Bool.not_eq_true, Bool.not_eq_false, Bool.true_eq_false, Bool.false_eq_true, e] at hb
  · rw [cost_eq, bud_lt (by omega)]
  · refine tri_loop hT [0, 1, 5] (α := Nat × Int) (fun x => { t := [(0, .c (.d (.sl 1 (eL cIs xs)))), (1, ai x.2), (5, ai (nInt x.1))], h := [], n := 0, N := 27 })
      (fun x => x.1 ≤ xs.length ∧ 0 ≤ x.2 ∧ x.2 ≤ 1048576 ∧ bud x.2 (costL List.length (xs.drop x.1)) = bud n (cost List.length xs)) (fun x => xs.length - x.1) (0, n - xs.length) (by ((conv => whnf); simp only [St.mk.injEq, List.cons.injEq, Prod.mk.injEq, AV.c.injEq, AV.agg.injEq, AV.tup.injEq, CV.d.injEq, D.int.injEq, D.bool.injEq, D.str.injEq, D.sl.injEq, Ent.arr.injEq, Ent.box.injEq, true_and, and_true, and_self, nInt_eq, Int.natCast_zero, dLen_eL, sLen_eq, e]))
      ⟨by omega, by dsimp only; omega, by dsimp only; omega, by rw [cost_eq, bud_step (by omega)]; rfl⟩ ?_
    intro ⟨k, m⟩ ⟨hk, hm0, hm1, hm⟩
    dsimp only at hk hm hm0 hm1
    (conv => whnf)
    refine ifB_i (fun h1 => ?_) (fun h1 => ?_) <;> (conv => whnf) <;> simp at h1
    · obtain ⟨s, hs'⟩ := get_lt h1
      refine idx_at (by simp) hs' ?_
      (conv => whnf)
      refine .inl ⟨_, _, _, szIntS_spec s m hm0 hm1 (hs s (List.mem_of_getElem? hs')), rfl, ?_⟩
      (conv => whnf)
      rw [drop_at hs', costL] at hm
      refine ifB_i (fun h2 => ?_) (fun h2 => ?_) <;> (conv => whnf) <;> simp only [nInt_eq, Int.natCast_zero, dLen_eL, sLen_eq, nOf_eq, Int.toNat_natCast, nAdd_eq, nSub_eq, dLen_nil, dLen_cons, iLt_t, iLt_f, iLe_t, iLe_f, iEq_t, iEq_f, sEq_t, sEq_f, bNot_t, bNot_f, bAnd_t, bEq_t, bEq_f, Bool.not_eq_true, Bool.not_eq_false, Bool.true_eq_false, Bool.false_eq_true] at h2
      · rw [bud_neg h2] at hm
        rw [← hm]
      · have hb2 := bud_pos h2
        refine ⟨(k + 1, bud m s.length), by dsimp only; omega, ⟨h1, h2, bud_mono hm1, by dsimp only; rw [bud_bud h2]; exact hm⟩, ?_⟩
        ((conv => whnf); simp only [St.mk.injEq, List.cons.injEq, Prod.mk.injEq, AV.c.injEq, AV.agg.injEq, AV.tup.injEq, CV.d.injEq, D.int.injEq, D.bool.injEq, D.str.injEq, D.sl.injEq, Ent.arr.injEq, Ent.box.injEq, true_and, and_true, and_self, nInt_eq, Int.natCast_zero, dLen_eL, sLen_eq, wI h1 hx])
    · obtain rfl : k = xs.length := by omega
      simp only [List.drop_length, costL] at hm
      rw [bud_zero hm0] at hm
      rw [hm]


theorem toIntSS_spec (xs : List (List Int)) (hx : xs.length ≤ 4000000000) (hs : ∀ s ∈ xs, s.length ≤ 4000000000) :
    FnSpec PR f_laws_toIntSS [.c (.d (.sl 1 (eL cIs xs)))] (.c (.ref 0 0 none)) [(0, .arr t_Lint 1 0 .own (eL cIs xs))] 1 := by
  refine FnSpec.intro hT p_laws_toIntSS rfl (by kernel_rfl) n_laws_toIntSS rfl ?_
  conv => whnf
  refine ⟨by simp; omega, ?_⟩
  (conv => whnf)
  refine tri_loop hT [0, 3, 4] (α := Nat × List (List D)) (fun x => { t := [(0, .c (.d (.sl 1 (eL cIs xs)))), (3, .c (.ref 0 0 none)), (4, ai (nInt x.1))], h := [(0, .arr t_Lint 1 0 .own x.2)], n := 1, N := 23 })
    (fun x => x.1 ≤ xs.length ∧ Fill cIs 1 xs x.1 x.2) (fun x => xs.length - x.1) (0, _) (by ((conv => whnf); simp only [St.mk.injEq, List.cons.injEq, Prod.mk.injEq, AV.c.injEq, AV.agg.injEq, AV.tup.injEq, CV.d.injEq, D.int.injEq, D.bool.injEq, D.str.injEq, D.sl.injEq, Ent.arr.injEq, Ent.box.injEq, true_and, and_true, and_self, nInt_eq, Int.natCast_zero, dLen_eL, sLen_eq]); rfl) ⟨by omega, Fill.start cIs xs rfl⟩ ?_
  intro ⟨k, es⟩ ⟨hk, hf⟩
  dsimp only at hk hf
  have hl := hf.len
  (conv => whnf)
  refine ifB_i (fun h1 => ?_) (fun h1 => ?_) <;> (conv => whnf) <;> simp at h1
  · obtain ⟨s, hs'⟩ := get_lt h1
    refine idx_at (by simp) hs' ?_
    (conv => whnf)
    refine .inl ⟨_, _, _, toIntS_spec s (hs s (List.mem_of_getElem? hs')), rfl, ?_⟩
    (conv => whnf)
    refine ⟨by simp only [lenRE_none, dLen_len, hl, InB_eq, nInt_eq]; omega, ?_⟩
    (conv => whnf)
    intro c' hc'
    have hr := hf.room hc'
    refine ⟨by simp; omega, ?_⟩
    rw [dOver_all (by rw [hr]; rfl)]
    (conv => whnf)
    refine ⟨(k + 1, dSet es k (cIs s)), by dsimp only; omega, ⟨h1, hf.step hs' rfl⟩, ?_⟩
    ((conv => whnf); simp only [St.mk.injEq, List.cons.injEq, Prod.mk.injEq, AV.c.injEq, AV.agg.injEq, AV.tup.injEq, CV.d.injEq, D.int.injEq, D.bool.injEq, D.str.injEq, D.sl.injEq, Ent.arr.injEq, Ent.box.injEq, true_and, and_true, and_self, nInt_eq, Int.natCast_zero, dLen_eL, sLen_eq, wI h1 (by omega), nAdd_eq, nOf_eq, Int.toNat_natCast, offR, Nat.zero_add])
    rfl
  · obtain rfl : k = xs.length := by omega
    rw [hf.done]


theorem eqIntSS_spec (xs : List (List Int)) (hx : xs.length ≤ 9223372036854775807) (hs : ∀ s ∈ xs, s.length ≤ 9223372036854775807) : FnSpec PR f_laws_eqIntSS [.c (.d (.sl 1 (eL cIs xs))), .c (.d (.sl 1 (eL cIs xs)))] (ab true) [] 0 := by
  refine FnSpec.intro hT p_laws_eqIntSS rfl (by kernel_rfl) n_laws_eqIntSS rfl ?_
  conv => whnf
  refine ifB_i (fun hb => ?_) (fun hb => ?_)
  · simp at hb
  (conv => whnf)
  refine tri_loop hT [0, 1, 5] (α := Nat) (fun x => { t := [(0, .c (.d (.sl 1 (eL cIs xs)))), (1, .c (.d (.sl 1 (eL cIs xs)))), (5, ai (nInt x))], h := [], n := 0, N := 27 })
      (fun x => x ≤ xs.length) (fun x => xs.length - x) 0 (by ((conv => whnf); simp only [St.mk.injEq, List.cons.injEq, Prod.mk.injEq, AV.c.injEq, AV.agg.injEq, AV.tup.injEq, CV.d.injEq, D.int.injEq, D.bool.injEq, D.str.injEq, D.sl.injEq, Ent.arr.injEq, Ent.box.injEq, true_and, and_true, and_self, nInt_eq, Int.natCast_zero, dLen_eL, sLen_eq])) (Nat.zero_le _) ?_
  intro k hk
  (conv => whnf)
  refine ifB_i (fun h1 => ?_) (fun h1 => ?_)
  · (conv => whnf)
    simp at h1
    obtain ⟨s, hs'⟩ := get_lt h1
    refine tri_conf hT hmix (by kernel_rfl) ?_
    (conv => whnf)
    refine idx_at (by simp) hs' ?_
    (conv => whnf)
    refine idx_at (by simp) hs' ?_
    (conv => whnf)
    refine ⟨_, _, eqIntS_spec s (hs s (List.mem_of_getElem? hs')), rfl, ?_⟩
    (conv => whnf)
    refine ⟨k + 1, by omega, h1, ?_⟩
    ((conv => whnf); simp only [St.mk.injEq, List.cons.injEq, Prod.mk.injEq, AV.c.injEq, AV.agg.injEq, AV.tup.injEq, CV.d.injEq, D.int.injEq, D.bool.injEq, D.str.injEq, D.sl.injEq, Ent.arr.injEq, Ent.box.injEq, true_and, and_true, and_self, nInt_eq, Int.natCast_zero, dLen_eL, sLen_eq, wI h1 hx])
  · (conv => whnf)


def okTable (x : Tbl) : Prop := (x.names.length ≤ 9223372036854775807 ∧ ∀ s ∈ x.names, s.size ≤ 9223372036854775807) ∧ (x.target.size ≤ 9223372036854775807) ∧ (x.rows.length ≤ 9223372036854775807 ∧ ∀ s ∈ x.rows, s.length ≤ 9223372036854775807) ∧ (x.ys.length ≤ 9223372036854775807)
def smTable (x : Tbl) : Prop := (x.names.length ≤ 4000000000) ∧ (x.rows.length ≤ 4000000000 ∧ ∀ s ∈ x.rows, s.length ≤ 4000000000) ∧ (x.ys.length ≤ 4000000000)


def costTable (x : Tbl) : Nat := (cost ByteArray.size x.names) + x.target.size + (cost List.length x.rows) + x.ys.length


def okGrid (x : Grd) : Prop := (x.cuts.length ≤ 9223372036854775807 ∧ ∀ s ∈ x.cuts, s.length ≤ 9223372036854775807) ∧ (x.bins.length ≤ 9223372036854775807 ∧ ∀ s ∈ x.bins, s.length ≤ 9223372036854775807)
def smGrid (x : Grd) : Prop := (x.cuts.length ≤ 4000000000 ∧ ∀ s ∈ x.cuts, s.length ≤ 4000000000) ∧ (x.bins.length ≤ 4000000000 ∧ ∀ s ∈ x.bins, s.length ≤ 4000000000)


def costGrid (x : Grd) : Nat := (cost List.length x.cuts) + (cost List.length x.bins)


theorem szGrid_spec (x : Grd) (n : Int) (h0 : 0 ≤ n) (hn : n ≤ 1048576) (ho : okGrid x) : FnSpec PR f_laws_szGrid [aG x, ai n] (ai (bud n (costGrid x))) [] 0 := by
  obtain ⟨o0, o1⟩ := ho
  refine FnSpec.intro hT p_laws_szGrid rfl (by kernel_rfl) n_laws_szGrid rfl ?_
  conv => whnf
  refine .inl ⟨_, _, _, szIntSS_spec x.cuts _ h0 hn o0.1 o0.2, rfl, ?_⟩
  (conv => whnf)
  refine ifB_i (fun h => ?_) (fun h => ?_) <;> (conv => whnf) <;> simp only [nInt_eq, Int.natCast_zero, dLen_eL, sLen_eq, nOf_eq, Int.toNat_natCast, nAdd_eq, nSub_eq, dLen_nil, dLen_cons, iLt_t, iLt_f, iLe_t, iLe_f, iEq_t, iEq_f, sEq_t, sEq_f, bNot_t, bNot_f, bAnd_t, bEq_t, bEq_f, Bool.not_eq_true, Bool.not_eq_false, Bool.true_eq_false, Bool.false_eq_true] at h
  · rw [costGrid]
    rw [bud_more (bud_m1 h) (by omega)]
  have g0 : 0 ≤ bud n ((cost List.length x.cuts)) := h
  have s1 := szIntSS_spec x.bins _ g0 (bud_mono hn) o1.1 o1.2
  rw [bud_bud g0] at s1
  refine .inl ⟨_, _, _, s1, rfl, ?_⟩
  (conv => whnf)
  refine ifB_i (fun h => ?_) (fun h => ?_) <;> (conv => whnf) <;> simp only [nInt_eq, Int.natCast_zero, dLen_eL, sLen_eq, nOf_eq, Int.toNat_natCast, nAdd_eq, nSub_eq, dLen_nil, dLen_cons, iLt_t, iLt_f, iLe_t, iLe_f, iEq_t, iEq_f, sEq_t, sEq_f, bNot_t, bNot_f, bAnd_t, bEq_t, bEq_f, Bool.not_eq_true, Bool.not_eq_false, Bool.true_eq_false, Bool.false_eq_true] at h
  · rw [costGrid]
    rw [bud_m1 h]
  have g1 : 0 ≤ bud n ((cost List.length x.cuts) + (cost List.length x.bins)) := h
  rw [costGrid]


theorem toGrid_spec (x : Grd) (ho : smGrid x) : FnSpec PR f_laws_toGrid [aG x] (.agg [.ref 0 0 none, .ref 1 0 none]) [(0, .arr t_Lint 1 0 .own (eL cIs x.cuts)), (1, .arr t_Lint 1 0 .own (eL cIs x.bins))] 2 := by
  obtain ⟨o0, o1⟩ := ho
  refine FnSpec.intro hT p_laws_toGrid rfl (by kernel_rfl) n_laws_toGrid rfl ?_
  conv => whnf
  refine .inl ⟨_, _, _, toIntSS_spec x.cuts o0.1 o0.2, rfl, ?_⟩
  (conv => whnf)
  refine .inl ⟨_, _, _, toIntSS_spec x.bins o1.1 o1.2, rfl, ?_⟩
  (conv => whnf)


theorem eqGrid_spec (x : Grd) (ho : okGrid x) : FnSpec PR f_laws_eqGrid [aG x, aG x] (ab true) [] 0 := by
  obtain ⟨o0, o1⟩ := ho
  refine FnSpec.intro hT p_laws_eqGrid rfl (by kernel_rfl) n_laws_eqGrid rfl ?_
  conv => whnf
  refine .inl ⟨_, _, _, eqIntSS_spec x.cuts o0.1 o0.2, rfl, ?_⟩
  (conv => whnf)
  refine .inl ⟨_, _, _, eqIntSS_spec x.bins o1.1 o1.2, rfl, ?_⟩
  (conv => whnf)


theorem szTreeS_spec (xs : List (List Nd)) (n : Int) (h0 : 0 ≤ n) (hn : n ≤ 1048576) (hx : xs.length ≤ 9223372036854775807) (hs : ∀ s ∈ xs, s.length ≤ 9223372036854775807) :
    FnSpec PR f_laws_szTreeS [.c (.d (.sl 1 (eL cT xs))), ai n] (ai (bud n (cost costTree xs))) [] 0 := by
  refine FnSpec.intro hT p_laws_szTreeS rfl (by kernel_rfl) n_laws_szTreeS rfl ?_
  conv => whnf
  have e : wSub .i64 n xs.length = n - xs.length := wSub64 (by omega) (by omega)
  refine ifB_i (fun hb => ?_) (fun hb => ?_) <;> (conv => whnf) <;> simp only [nInt_eq, Int.natCast_zero, dLen_eL, sLen_eq, nOf_eq, Int.toNat_natCast, nAdd_eq, nSub_eq, dLen_nil, dLen_cons, iLt_t, iLt_f, iLe_t, iLe_f, iEq_t, iEq_f, sEq_t, sEq_f, bNot_t, bNot_f, bAnd_t, bEq_t, bEq_f, Bool.not_eq_true, Bool.not_eq_false, Bool.true_eq_false, Bool.false_eq_true, e] at hb
  · rw [cost_eq, bud_lt (by omega)]
  · refine tri_loop hT [0, 1, 5] (α := Nat × Int) (fun x => { t := [(0, .c (.d (.sl 1 (eL cT xs)))), (1, ai x.2), (5, ai (nInt x.1))], h := [], n := 0, N := 27 })
      (fun x => x.1 ≤ xs.length ∧ 0 ≤ x.2 ∧ x.2 ≤ 1048576 ∧ bud x.2 (costL costTree (xs.drop x.1)) = bud n (cost costTree xs)) (fun x => xs.length - x.1) (0, n - xs.length) (by ((conv => whnf); simp only [St.mk.injEq, List.cons.injEq, Prod.mk.injEq, AV.c.injEq, AV.agg.injEq, AV.tup.injEq, CV.d.injEq, D.int.injEq, D.bool.injEq, D.str.injEq, D.sl.injEq, Ent.arr.injEq, Ent.box.injEq, true_and, and_true, and_self, nInt_eq, Int.natCast_zero, dLen_eL, sLen_eq, e]))
      ⟨by omega, by dsimp only; omega, by dsimp only; omega, by rw [cost_eq, bud_step (by omega)]; rfl⟩ ?_
    intro ⟨k, m⟩ ⟨hk, hm0, hm1, hm⟩
    dsimp only at hk hm hm0 hm1
    (conv => whnf)
    refine ifB_i (fun h1 => ?_) (fun h1 => ?_) <;> (conv => whnf) <;> simp at h1
    · obtain ⟨s, hs'⟩ := get_lt h1
      refine idx_at (by simp) hs' ?_
      (conv => whnf)
      refine .inl ⟨_, _, _, szTree_spec s m hm0 hm1 (hs s (List.mem_of_getElem? hs')), rfl, ?_⟩
      (conv => whnf)
      rw [drop_at hs', costL] at hm
      refine ifB_i (fun h2 => ?_) (fun h2 => ?_) <;> (conv => whnf) <;> simp only [nInt_eq, Int.natCast_zero, dLen_eL, sLen_eq, nOf_eq, Int.toNat_natCast, nAdd_eq, nSub_eq, dLen_nil, dLen_cons, iLt_t, iLt_f, iLe_t, iLe_f, iEq_t, iEq_f, sEq_t, sEq_f, bNot_t, bNot_f, bAnd_t, bEq_t, bEq_f, Bool.not_eq_true, Bool.not_eq_false, Bool.true_eq_false, Bool.false_eq_true] at h2
      · rw [bud_neg h2] at hm
        rw [← hm]
      · have hb2 := bud_pos h2
        refine ⟨(k + 1, bud m (costTree s)), by dsimp only; omega, ⟨h1, h2, bud_mono hm1, by dsimp only; rw [bud_bud h2]; exact hm⟩, ?_⟩
        ((conv => whnf); simp only [St.mk.injEq, List.cons.injEq, Prod.mk.injEq, AV.c.injEq, AV.agg.injEq, AV.tup.injEq, CV.d.injEq, D.int.injEq, D.bool.injEq, D.str.injEq, D.sl.injEq, Ent.arr.injEq, Ent.box.injEq, true_and, and_true, and_self, nInt_eq, Int.natCast_zero, dLen_eL, sLen_eq, wI h1 hx])
    · obtain rfl : k = xs.length := by omega
      simp only [List.drop_length, costL] at hm
      rw [bud_zero hm0] at hm
      rw [hm]


theorem toTreeS_spec (xs : List (List Nd)) (hx : xs.length ≤ 4000000000) (hs : ∀ s ∈ xs, s.length ≤ 4000000000) :
    FnSpec PR f_laws_toTreeS [.c (.d (.sl 1 (eL cT xs)))] (.c (.ref 0 0 none)) [(0, .arr t_impl_Tree 1 0 .own (eL cT xs))] 1 := by
  refine FnSpec.intro hT p_laws_toTreeS rfl (by kernel_rfl) n_laws_toTreeS rfl ?_
  conv => whnf
  refine ⟨by simp; omega, ?_⟩
  (conv => whnf)
  refine tri_loop hT [0, 3, 4] (α := Nat × List (List D)) (fun x => { t := [(0, .c (.d (.sl 1 (eL cT xs)))), (3, .c (.ref 0 0 none)), (4, ai (nInt x.1))], h := [(0, .arr t_impl_Tree 1 0 .own x.2)], n := 1, N := 23 })
    (fun x => x.1 ≤ xs.length ∧ Fill cT 1 xs x.1 x.2) (fun x => xs.length - x.1) (0, _) (by ((conv => whnf); simp only [St.mk.injEq, List.cons.injEq, Prod.mk.injEq, AV.c.injEq, AV.agg.injEq, AV.tup.injEq, CV.d.injEq, D.int.injEq, D.bool.injEq, D.str.injEq, D.sl.injEq, Ent.arr.injEq, Ent.box.injEq, true_and, and_true, and_self, nInt_eq, Int.natCast_zero, dLen_eL, sLen_eq]); rfl) ⟨by omega, Fill.start cT xs rfl⟩ ?_
  intro ⟨k, es⟩ ⟨hk, hf⟩
  dsimp only at hk hf
  have hl := hf.len
  (conv => whnf)
  refine ifB_i (fun h1 => ?_) (fun h1 => ?_) <;> (conv => whnf) <;> simp at h1
  · obtain ⟨s, hs'⟩ := get_lt h1
    refine idx_at (by simp) hs' ?_
    (conv => whnf)
    refine .inl ⟨_, _, _, toTree_spec s (hs s (List.mem_of_getElem? hs')), rfl, ?_⟩
    (conv => whnf)
    refine ⟨by simp only [lenRE_none, dLen_len, hl, InB_eq, nInt_eq]; omega, ?_⟩
    (conv => whnf)
    intro c' hc'
    have hr := hf.room hc'
    refine ⟨by simp; omega, ?_⟩
    rw [dOver_all (by rw [hr]; rfl)]
    (conv => whnf)
    refine ⟨(k + 1, dSet es k (cT s)), by dsimp only; omega, ⟨h1, hf.step hs' rfl⟩, ?_⟩
    ((conv => whnf); simp only [St.mk.injEq, List.cons.injEq, Prod.mk.injEq, AV.c.injEq, AV.agg.injEq, AV.tup.injEq, CV.d.injEq, D.int.injEq, D.bool.injEq, D.str.injEq, D.sl.injEq, Ent.arr.injEq, Ent.box.injEq, true_and, and_true, and_self, nInt_eq, Int.natCast_zero, dLen_eL, sLen_eq, wI h1 (by omega), nAdd_eq, nOf_eq, Int.toNat_natCast, offR, Nat.zero_add])
    rfl
  · obtain rfl : k = xs.length := by omega
    rw [hf.done]


theorem eqTreeS_spec (xs : List (List Nd)) (hx : xs.length ≤ 9223372036854775807) (hs : ∀ s ∈ xs, s.length ≤ 9223372036854775807) : FnSpec PR f_laws_eqTreeS [.c (.d (.sl 1 (eL cT xs))), .c (.d (.sl 1 (eL cT xs)))] (ab true) [] 0 := by
  refine FnSpec.intro hT p_laws_eqTreeS rfl (by kernel_rfl) n_laws_eqTreeS rfl ?_
  conv => whnf
  refine ifB_i (fun hb => ?_) (fun hb => ?_)
  · simp at hb
  (conv => whnf)
  refine tri_loop hT [0, 1, 5] (α := Nat) (fun x => { t := [(0, .c (.d (.sl 1 (eL cT xs)))), (1, .c (.d (.sl 1 (eL cT xs)))), (5, ai (nInt x))], h := [], n := 0, N := 27 })
      (fun x => x ≤ xs.length) (fun x => xs.length - x) 0 (by ((conv => whnf); simp only [St.mk.injEq, List.cons.injEq, Prod.mk.injEq, AV.c.injEq, AV.agg.injEq, AV.tup.injEq, CV.d.injEq, D.int.injEq, D.bool.injEq, D.str.injEq, D.sl.injEq, Ent.arr.injEq, Ent.box.injEq, true_and, and_true, and_self, nInt_eq, Int.natCast_zero, dLen_eL, sLen_eq])) (Nat.zero_le _) ?_
  intro k hk
  (conv => whnf)
  refine ifB_i (fun h1 => ?_) (fun h1 => ?_)
  · (conv => whnf)
    simp at h1
    obtain ⟨s, hs'⟩ := get_lt h1
    refine tri_conf hT hmix (by kernel_rfl) ?_
    (conv => whnf)
    refine idx_at (by simp) hs' ?_
    (conv => whnf)
    refine idx_at (by simp) hs' ?_
    (conv => whnf)
    refine ⟨_, _, eqTree_spec s (hs s (List.mem_of_getElem? hs')), rfl, ?_⟩
    (conv => whnf)
    refine ⟨k + 1, by omega, h1, ?_⟩
    ((conv => whnf); simp only [St.mk.injEq, List.cons.injEq, Prod.mk.injEq, AV.c.injEq, AV.agg.injEq, AV.tup.injEq, CV.d.injEq, D.int.injEq, D.bool.injEq, D.str.injEq, D.sl.injEq, Ent.arr.injEq, Ent.box.injEq, true_and, and_true, and_self, nInt_eq, Int.natCast_zero, dLen_eL, sLen_eq, wI h1 hx])
  · (conv => whnf)


def okModel (x : Mdl) : Prop := (x.names.length ≤ 9223372036854775807 ∧ ∀ s ∈ x.names, s.size ≤ 9223372036854775807) ∧ (x.signs.length ≤ 9223372036854775807) ∧ (x.trees.length ≤ 9223372036854775807 ∧ ∀ s ∈ x.trees, s.length ≤ 9223372036854775807)
def smModel (x : Mdl) : Prop := (x.names.length ≤ 4000000000) ∧ (x.signs.length ≤ 4000000000) ∧ (x.trees.length ≤ 4000000000 ∧ ∀ s ∈ x.trees, s.length ≤ 4000000000)


def costModel (x : Mdl) : Nat := (cost ByteArray.size x.names) + x.signs.length + (cost costTree x.trees)


theorem szModel_spec (x : Mdl) (n : Int) (h0 : 0 ≤ n) (hn : n ≤ 1048576) (ho : okModel x) : FnSpec PR f_laws_szModel [aM x, ai n] (ai (bud n (costModel x))) [] 0 := by
  obtain ⟨o0, o1, o2⟩ := ho
  refine FnSpec.intro hT p_laws_szModel rfl (by kernel_rfl) n_laws_szModel rfl ?_
  conv => whnf
  refine .inl ⟨_, _, _, szStringS_spec x.names _ h0 hn o0.1 o0.2, rfl, ?_⟩
  (conv => whnf)
  refine ifB_i (fun h => ?_) (fun h => ?_) <;> (conv => whnf) <;> simp only [nInt_eq, Int.natCast_zero, dLen_eL, sLen_eq, nOf_eq, Int.toNat_natCast, nAdd_eq, nSub_eq, dLen_nil, dLen_cons, iLt_t, iLt_f, iLe_t, iLe_f, iEq_t, iEq_f, sEq_t, sEq_f, bNot_t, bNot_f, bAnd_t, bEq_t, bEq_f, Bool.not_eq_true, Bool.not_eq_false, Bool.true_eq_false, Bool.false_eq_true] at h
  · rw [costModel]
    rw [bud_more (bud_m1 h) (by omega)]
  have g0 : 0 ≤ bud n ((cost ByteArray.size x.names)) := h
  have s1 := szIntS_spec x.signs _ g0 (bud_mono hn) o1
  rw [bud_bud g0] at s1
  refine .inl ⟨_, _, _, s1, rfl, ?_⟩
  (conv => whnf)
  refine ifB_i (fun h => ?_) (fun h => ?_) <;> (conv => whnf) <;> simp only [nInt_eq, Int.natCast_zero, dLen_eL, sLen_eq, nOf_eq, Int.toNat_natCast, nAdd_eq, nSub_eq, dLen_nil, dLen_cons, iLt_t, iLt_f, iLe_t, iLe_f, iEq_t, iEq_f, sEq_t, sEq_f, bNot_t, bNot_f, bAnd_t, bEq_t, bEq_f, Bool.not_eq_true, Bool.not_eq_false, Bool.true_eq_false, Bool.false_eq_true] at h
  · rw [costModel]
    rw [bud_more (bud_m1 h) (by omega)]
  have g1 : 0 ≤ bud n ((cost ByteArray.size x.names) + x.signs.length) := h
  have s2 := szTreeS_spec x.trees _ g1 (bud_mono hn) o2.1 o2.2
  rw [bud_bud g1] at s2
  refine .inl ⟨_, _, _, s2, rfl, ?_⟩
  (conv => whnf)
  refine ifB_i (fun h => ?_) (fun h => ?_) <;> (conv => whnf) <;> simp only [nInt_eq, Int.natCast_zero, dLen_eL, sLen_eq, nOf_eq, Int.toNat_natCast, nAdd_eq, nSub_eq, dLen_nil, dLen_cons, iLt_t, iLt_f, iLe_t, iLe_f, iEq_t, iEq_f, sEq_t, sEq_f, bNot_t, bNot_f, bAnd_t, bEq_t, bEq_f, Bool.not_eq_true, Bool.not_eq_false, Bool.true_eq_false, Bool.false_eq_true] at h
  · rw [costModel]
    rw [bud_m1 h]
  have g2 : 0 ≤ bud n ((cost ByteArray.size x.names) + x.signs.length + (cost costTree x.trees)) := h
  rw [costModel]


theorem toModel_spec (x : Mdl) (ho : smModel x) : FnSpec PR f_laws_toModel [aM x] (.agg [.ref 0 0 none, .ref 1 0 none, .d (.int .i64 x.base), .ref 2 0 none]) [(0, .arr t_string 1 0 .own (eL cS x.names)), (1, .arr t_int 1 0 .own (eL cI x.signs)), (2, .arr t_impl_Tree 1 0 .own (eL cT x.trees))] 3 := by
  obtain ⟨o0, o1, o2⟩ := ho
  refine FnSpec.intro hT p_laws_toModel rfl (by kernel_rfl) n_laws_toModel rfl ?_
  conv => whnf
  refine .inl ⟨_, _, _, toStringS_spec x.names o0, rfl, ?_⟩
  (conv => whnf)
  refine .inl ⟨_, _, _, toIntS_spec x.signs o1, rfl, ?_⟩
  (conv => whnf)
  refine .inl ⟨_, _, _, toTreeS_spec x.trees o2.1 o2.2, rfl, ?_⟩
  (conv => whnf)


theorem eqModel_spec (x : Mdl) (ho : okModel x) : FnSpec PR f_laws_eqModel [aM x, aM x] (ab true) [] 0 := by
  obtain ⟨o0, o1, o2⟩ := ho
  refine FnSpec.intro hT p_laws_eqModel rfl (by kernel_rfl) n_laws_eqModel rfl ?_
  conv => whnf
  refine .inl ⟨_, _, _, eqStringS_spec x.names o0.1, rfl, ?_⟩
  (conv => whnf)
  refine .inl ⟨_, _, _, eqIntS_spec x.signs o1, rfl, ?_⟩
  (conv => whnf)
  refine ifB_i (fun hb => ?_) (fun hb => ?_)
  · simp at hb
  (conv => whnf)
  refine .inl ⟨_, _, _, eqTreeS_spec x.trees o2.1 o2.2, rfl, ?_⟩
  (conv => whnf)
end Go.H.S
namespace Go.H.S
open Go Go.Proofs Go.H
attribute [local irreducible] Tri FnSpec FnSpecM
set_option maxRecDepth 100000
set_option linter.unusedSimpArgs false
set_option linter.unusedVariables false


def usesL (p : Nd → Bool) : List (List Nd) → Nat
  | [] => 0
  | t :: r => t.countP p + usesL p r
def isF (f : Int) (n : Nd) : Bool := decide (n.f ≠ -1) && decide (n.f = f)
theorem countP_le (p : Nd → Bool) (t : List Nd) : t.countP p ≤ t.length := List.countP_le_length
theorem usesL_le (p : Nd → Bool) : ∀ ts : List (List Nd), usesL p ts ≤ costL List.length ts
  | [] => Nat.le_refl _
  | t :: r => by have h1 := usesL_le p r; have h2 := countP_le p t; simp only [usesL, costL]; omega
theorem costL_mem {α : Type} (f : α → Nat) : ∀ {l : List α} {x : α}, x ∈ l → f x ≤ costL f l
  | y :: r, x, h => by
    simp only [costL]
    rcases List.mem_cons.1 h with rfl | h
    · omega
    · have := costL_mem f h; omega
theorem costTree_len : ∀ ts : List (List Nd), costL costTree ts = costL List.length ts
  | [] => rfl
  | t :: r => by simp only [costL, costTree_len r, costTree]


theorem spec_l17Inner_spec (n : Nd) : FnSpec PR f_spec_l17Inner [aN n] (ab (bNot (iEq n.f (-1)))) [] 0 := by
  refine FnSpec.intro hT p_spec_l17Inner rfl (by kernel_rfl) n_spec_l17Inner rfl ?_
  conv => whnf

theorem impl_isLeaf_spec (n : Nd) : FnSpec PR f_impl_isLeaf [aN n] (ab (iEq n.f (-1))) [] 0 := by
  refine FnSpec.intro hT p_impl_isLeaf rfl (by kernel_rfl) n_impl_isLeaf rfl ?_
  conv => whnf

theorem impl_within_spec (x lo hi : Int) : FnSpec PR f_impl_within [ai x, ai lo, ai hi] (ab (decide (lo ≤ x ∧ x ≤ hi))) [] 0 := by
  refine FnSpec.intro hT p_impl_within rfl (by kernel_rfl) n_impl_within rfl ?_
  conv => whnf
  refine ifB_i (fun h => ?_) (fun h => ?_) <;> (conv => whnf) <;> simp only [nInt_eq, Int.natCast_zero, dLen_eL, sLen_eq, nOf_eq, Int.toNat_natCast, nAdd_eq, nSub_eq, dLen_nil, dLen_cons, iLt_t, iLt_f, iLe_t, iLe_f, iEq_t, iEq_f, sEq_t, sEq_f, bNot_t, bNot_f, bAnd_t, bEq_t, bEq_f, Bool.not_eq_true, Bool.not_eq_false, Bool.true_eq_false, Bool.false_eq_true] at h
  · ((conv => whnf); simp only [St.mk.injEq, List.cons.injEq, Prod.mk.injEq, AV.c.injEq, AV.agg.injEq, AV.tup.injEq, CV.d.injEq, D.int.injEq, D.bool.injEq, D.str.injEq, D.sl.injEq, Ent.arr.injEq, Ent.box.injEq, true_and, and_true, and_self, nInt_eq, Int.natCast_zero, dLen_eL, sLen_eq])
    simp [iLe, h]
  · ((conv => whnf); simp only [St.mk.injEq, List.cons.injEq, Prod.mk.injEq, AV.c.injEq, AV.agg.injEq, AV.tup.injEq, CV.d.injEq, D.int.injEq, D.bool.injEq, D.str.injEq, D.sl.injEq, Ent.arr.injEq, Ent.box.injEq, true_and, and_true, and_self, nInt_eq, Int.natCast_zero, dLen_eL, sLen_eq])
    simp
    omega

theorem spec_l1In_spec (x lo hi : Int) : FnSpec PR f_spec_l1In [ai x, ai lo, ai hi] (ab (decide (lo ≤ x ∧ x ≤ hi))) [] 0 := by
  refine FnSpec.intro hT p_spec_l1In rfl (by kernel_rfl) n_spec_l1In rfl ?_
  conv => whnf
  refine ifB_i (fun h => ?_) (fun h => ?_) <;> (conv => whnf) <;> simp only [nInt_eq, Int.natCast_zero, dLen_eL, sLen_eq, nOf_eq, Int.toNat_natCast, nAdd_eq, nSub_eq, dLen_nil, dLen_cons, iLt_t, iLt_f, iLe_t, iLe_f, iEq_t, iEq_f, sEq_t, sEq_f, bNot_t, bNot_f, bAnd_t, bEq_t, bEq_f, Bool.not_eq_true, Bool.not_eq_false, Bool.true_eq_false, Bool.false_eq_true] at h
  · ((conv => whnf); simp only [St.mk.injEq, List.cons.injEq, Prod.mk.injEq, AV.c.injEq, AV.agg.injEq, AV.tup.injEq, CV.d.injEq, D.int.injEq, D.bool.injEq, D.str.injEq, D.sl.injEq, Ent.arr.injEq, Ent.box.injEq, true_and, and_true, and_self, nInt_eq, Int.natCast_zero, dLen_eL, sLen_eq])
    simp [iLe, h]
  · ((conv => whnf); simp only [St.mk.injEq, List.cons.injEq, Prod.mk.injEq, AV.c.injEq, AV.agg.injEq, AV.tup.injEq, CV.d.injEq, D.int.injEq, D.bool.injEq, D.str.injEq, D.sl.injEq, Ent.arr.injEq, Ent.box.injEq, true_and, and_true, and_self, nInt_eq, Int.natCast_zero, dLen_eL, sLen_eq])
    simp
    omega

theorem spec_l1Max_spec (x y : Int) : FnSpec PR f_spec_l1Max [ai x, ai y] (ai (max x y)) [] 0 := by
  refine FnSpec.intro hT p_spec_l1Max rfl (by kernel_rfl) n_spec_l1Max rfl ?_
  conv => whnf
  refine ifB_i (fun h => ?_) (fun h => ?_) <;> (conv => whnf) <;> simp only [nInt_eq, Int.natCast_zero, dLen_eL, sLen_eq, nOf_eq, Int.toNat_natCast, nAdd_eq, nSub_eq, dLen_nil, dLen_cons, iLt_t, iLt_f, iLe_t, iLe_f, iEq_t, iEq_f, sEq_t, sEq_f, bNot_t, bNot_f, bAnd_t, bEq_t, bEq_f, Bool.not_eq_true, Bool.not_eq_false, Bool.true_eq_false, Bool.false_eq_true] at h <;> ((conv => whnf); simp only [St.mk.injEq, List.cons.injEq, Prod.mk.injEq, AV.c.injEq, AV.agg.injEq, AV.tup.injEq, CV.d.injEq, D.int.injEq, D.bool.injEq, D.str.injEq, D.sl.injEq, Ent.arr.injEq, Ent.box.injEq, true_and, and_true, and_self, nInt_eq, Int.natCast_zero, dLen_eL, sLen_eq]) <;> omega
end Go.H.S
