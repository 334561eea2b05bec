/- Library, part A: how data are laid; sizes. -/
import Derived.Test.YtbclkplebkencaaNm
namespace Go.H.S
open Go Go.Proofs Go.H
attribute [local irreducible] Tri FnSpec FnSpecM
set_option maxRecDepth 100000
set_option linter.unusedSimpArgs false
set_option linter.unusedVariables false

abbrev ai (n : Int) : AV := .c (.d (.int .i64 n))
abbrev ab (b : Bool) : AV := .c (.d (.bool b))
abbrev aS (s : ByteArray) : AV := .c (.d (.str s))
structure Nd where
  f : Int
  c : Int
  l : Int
  r : Int
  v : Int
  deriving DecidableEq, Inhabited
def cS (s : ByteArray) : List D := [.str s]
def cI (n : Int) : List D := [.int .i64 n]
def cN (n : Nd) : List D := [.int .i64 n.f, .int .i64 n.c, .int .i64 n.l, .int .i64 n.r, .int .i64 n.v]
def cT (t : List Nd) : List D := [.sl 5 (eL cN t)]
abbrev aSs (xs : List ByteArray) : AV := .c (.d (.sl 1 (eL cS xs)))
abbrev aIs (xs : List Int) : AV := .c (.d (.sl 1 (eL cI xs)))
abbrev aNs (xs : List Nd) : AV := .c (.d (.sl 5 (eL cN xs)))
abbrev aTs (xs : List (List Nd)) : AV := .c (.d (.sl 1 (eL cT xs)))
abbrev cNd (n : Nd) : List CV := [.d (.int .i64 n.f), .d (.int .i64 n.c), .d (.int .i64 n.l), .d (.int .i64 n.r), .d (.int .i64 n.v)]
abbrev aN (n : Nd) : AV := .agg (cNd n)
abbrev cTr (t : List Nd) : List CV := [.d (.sl 5 (eL cN t))]
abbrev aT (t : List Nd) : AV := .agg (cTr t)

def cIs (xs : List Int) : List D := [.sl 1 (eL cI xs)]
def cSs (xs : List ByteArray) : List D := [.sl 1 (eL cS xs)]
abbrev aIss (xs : List (List Int)) : AV := .c (.d (.sl 1 (eL cIs xs)))
structure Mdl where
  names : List ByteArray
  signs : List Int
  base : Int
  trees : List (List Nd)
structure Tbl where
  names : List ByteArray
  target : ByteArray
  rows : List (List Int)
  ys : List Int
structure Cfg where
  rounds : Int
  depth : Int
  bins : Int
  lambda : Int
  rows : Int
  num : Int
  den : Int
  signs : List Int
structure Grd where
  cuts : List (List Int)
  bins : List (List Int)
abbrev cM (m : Mdl) : List CV := [.d (.sl 1 (eL cS m.names)), .d (.sl 1 (eL cI m.signs)), .d (.int .i64 m.base), .d (.sl 1 (eL cT m.trees))]
abbrev aM (m : Mdl) : AV := .agg (cM m)
abbrev cTb (t : Tbl) : List CV := [.d (.sl 1 (eL cS t.names)), .d (.str t.target), .d (.sl 1 (eL cIs t.rows)), .d (.sl 1 (eL cI t.ys))]
abbrev aTb (t : Tbl) : AV := .agg (cTb t)
abbrev cCf (c : Cfg) : List CV := [.d (.int .i64 c.rounds), .d (.int .i64 c.depth), .d (.int .i64 c.bins), .d (.int .i64 c.lambda), .d (.int .i64 c.rows), .d (.int .i64 c.num), .d (.int .i64 c.den), .d (.sl 1 (eL cI c.signs))]
abbrev aCf (c : Cfg) : AV := .agg (cCf c)
abbrev cG (g : Grd) : List CV := [.d (.sl 1 (eL cIs g.cuts)), .d (.sl 1 (eL cIs g.bins))]
abbrev aG (g : Grd) : AV := .agg (cG g)

/-- Behind a test of an index: the element. -/
theorem idx_at {α : Type} {f : α → List D} {xs : List α} {n : Int} {k : Nat} {x : α} {K : List D → Prop} (hn : n = (k : Int)) (hx : xs[k]? = some x) (h : K (f x)) : InB n (dLen (eL f xs)) ∧ ∀ c, AtD (eL f xs) (nOf n) c → K c := by
  subst hn
  have hlt := (List.getElem?_eq_some_iff.1 hx).1
  refine ⟨by simp; omega, fun c hc => ?_⟩
  obtain ⟨y, hy, rfl⟩ := at_eL hc
  simp only [nOf_eq, Int.toNat_natCast] at hy
  rw [hx] at hy
  cases hy
  exact h
theorem eL_length {α : Type} (f : α → List D) (xs : List α) : (eL f xs).length = xs.length := by rw [← dLen_len]; simp
theorem eL_get {α : Type} (f : α → List D) (xs : List α) (k : Nat) : (eL f xs)[k]? = (xs[k]?).map f := by rw [eL]; simp
theorem eL_nil {α : Type} (f : α → List D) : eL f [] = [] := by rw [eL]; rfl
theorem eL_cons {α : Type} (f : α → List D) (x : α) (xs : List α) : eL f (x :: xs) = f x :: eL f xs := by rw [eL, eL]; rfl
theorem dApp_eq (es fs : List (List D)) : dApp es fs = es ++ fs := by rw [dApp]
theorem dApp_nil (es : List (List D)) : dApp [] es = es := by rw [dApp_eq]; rfl
theorem dApp_cons (c : List D) (es fs : List (List D)) : dApp (c :: es) fs = c :: dApp es fs := by rw [dApp_eq, dApp_eq]; rfl
theorem iMin_eq (x y : Int) : iMin x y = min x y := by unfold iMin; split <;> omega
theorem iMax_eq (x y : Int) : iMax x y = max x y := by unfold iMax; split <;> omega
/-- The same for a row of the frame's own: an index, a read, a store. -/
theorem ref_at {n : Int} {k m : Nat} {K : Prop} (hn : n = (k : Int)) (hk : k < m) (h : K) : InB n m ∧ K := ⟨by subst hn; simp; omega, h⟩
theorem ld_at {α : Type} {f : α → List D} {xs : List α} {k' k : Nat} {x : α} {K : List D → Prop} (hk : k' = k) (hx : xs[k]? = some x) (h : K (f x)) : ∀ c, (eL f xs)[k']? = some c → K c := fun c hc => by
  rw [hk, eL_get, hx] at hc
  cases hc
  exact h
theorem st_at {α : Type} {f : α → List D} {xs : List α} {k' k j n : Nat} {x : α} {K : List D → Prop} (hk : k' = k) (hx : xs[k]? = some x) (hr : j + n ≤ (f x).length) (h : K (f x)) : ∀ c, AtD (eL f xs) k' c → dRoom j n c ∧ K c := fun c hc => by
  have hc' : (eL f xs)[k']? = some c := by unfold AtD at hc; exact hc
  rw [hk, eL_get, hx] at hc'
  cases hc'
  exact ⟨by simpa using hr, h⟩
theorem cI_set (xs : List Int) (k : Nat) (x y : Int) : dSet (eL cI xs) k (dOver (cI x) 0 [.int .i64 y]) = eL cI (xs.set k y) := by
  rw [dOver_all (by rfl)]; exact eL_set cI xs k y
theorem flat_cI (xs : List Int) : FlatR (eL cI xs) := fun c hc d hd => by
  rw [eL] at hc
  obtain ⟨x, _, rfl⟩ := List.mem_map.1 hc
  simp [cI] at hd
  subst hd; rfl
theorem get_lt {α : Type} {l : List α} {k : Nat} (h : k < l.length) : ∃ x, l[k]? = some x := ⟨_, List.getElem?_eq_getElem h⟩

/-- What is left of a budget. -/
@[irreducible] def bud (m : Int) (c : Nat) : Int := if (c : Int) ≤ m then m - c else -1
theorem bud_lt {m : Int} {c : Nat} (h : m < c) : bud m c = -1 := by simp only [bud]; rw [if_neg (by omega)]
theorem bud_le {m : Int} {c : Nat} (h : (c : Int) ≤ m) : bud m c = m - c := by simp only [bud]; rw [if_pos h]
theorem bud_step {m : Int} {c r : Nat} (h : (c : Int) ≤ m) : bud m (c + r) = bud (m - c) r := by
  simp only [bud]
  by_cases h' : ((c + r : Nat) : Int) ≤ m
  · rw [if_pos h', if_pos (by omega)]; omega
  · rw [if_neg h', if_neg (by omega)]
theorem bud_zero {m : Int} (h : 0 ≤ m) : bud m 0 = m := by simp [bud, h]
theorem bud_neg {m : Int} {c r : Nat} (h : bud m c < 0) : bud m (c + r) = -1 := by
  simp only [bud] at *
  split at h
  · omega
  · rw [if_neg (by omega)]
theorem bud_pos {m : Int} {c : Nat} (h : 0 ≤ bud m c) : (c : Int) ≤ m ∧ bud m c = m - c := by
  simp only [bud] at *
  split at h
  · rename_i hc; exact ⟨hc, by rw [if_pos hc]⟩
  · omega
theorem bud_m1 {m : Int} {c : Nat} (h : bud m c < 0) : bud m c = -1 := by
  simp only [bud] at *
  split at h
  · omega
  · rename_i hc; rw [if_neg hc]
theorem bud_mono {m : Int} {c : Nat} (h : m ≤ 1048576) : bud m c ≤ 1048576 := by
  simp only [bud]
  split <;> omega
theorem bud_bud {m : Int} {a b : Nat} (h : 0 ≤ bud m a) : bud (bud m a) b = bud m (a + b) := by
  obtain ⟨h1, h2⟩ := bud_pos h
  rw [h2, bud_step h1]

def costL {α : Type} (f : α → Nat) : List α → Nat
  | [] => 0
  | x :: r => f x + costL f r
/-- A slice's size: its length and its elements' sizes. -/
@[irreducible] def cost {α : Type} (f : α → Nat) (l : List α) : Nat := l.length + costL f l
theorem cost_eq {α : Type} (f : α → Nat) (l : List α) : cost f l = l.length + costL f l := by rw [cost]

theorem bud_more {m : Int} {c d : Nat} (h : bud m c = -1) (hd : c ≤ d) : bud m d = -1 := by
  simp only [bud] at *
  split at h
  · omega
  · rw [if_neg (by omega)]
theorem bud_slt {m : Int} {c s : Nat} (h : bud m c - s < 0) (g : 0 ≤ bud m c) : bud m (c + s) = -1 := by
  obtain ⟨h1, h2⟩ := bud_pos g
  exact bud_lt (by omega)
theorem bud_sle {m : Int} {c s : Nat} (h : 0 ≤ bud m c - s) (g : 0 ≤ bud m c) : bud m c - s = bud m (c + s) := by
  obtain ⟨h1, h2⟩ := bud_pos g
  rw [bud_le (show ((c + s : Nat) : Int) ≤ m by omega)]; omega
theorem wI {k n : Nat} (h : k < n) (hn : n ≤ 9223372036854775807) : wAdd .i64 (k : Int) 1 = ((k + 1 : Nat) : Int) := by
  have := wInc h hn
  simpa using this
theorem toNode_spec (n : Nd) : FnSpec PR f_laws_toNode [aN n] (aN n) [] 0 := by
  refine FnSpec.intro hT p_laws_toNode rfl (by kernel_rfl) n_laws_toNode rfl ?_
  conv => whnf
theorem eqNode_spec (n : Nd) : FnSpec PR f_laws_eqNode [aN n, aN n] (ab true) [] 0 := by
  refine FnSpec.intro hT p_laws_eqNode rfl (by kernel_rfl) n_laws_eqNode rfl ?_
  conv => whnf
  iterate 5
    refine ifB_i (fun hb => ?_) (fun hb => ?_)
    · simp at hb
    (conv => whnf)
end Go.H.S
namespace Go.H.S
open Go Go.Proofs Go.H
attribute [local irreducible] Tri FnSpec FnSpecM
set_option maxRecDepth 100000
set_option linter.unusedSimpArgs false
set_option linter.unusedVariables false


theorem szStringS_spec (xs : List (ByteArray)) (n : Int) (h0 : 0 ≤ n) (hn : n ≤ 1048576) (hx : xs.length ≤ 9223372036854775807) (hs : ∀ s ∈ xs, s.size ≤ 9223372036854775807) :
    FnSpec PR f_laws_szStringS [.c (.d (.sl 1 (eL cS xs))), ai n] (ai (bud n (cost ByteArray.size xs))) [] 0 := by
  refine FnSpec.intro hT p_laws_szStringS rfl (by kernel_rfl) n_laws_szStringS rfl ?_
  conv => whnf
  have e : wSub .i64 n xs.length = n - xs.length := wSub64 (by omega) (by omega)
  refine ifB_i (fun hb => ?_) (fun hb => ?_) <;> (conv => whnf) <;> simp only [nInt_eq, Int.natCast_zero, dLen_eL, sLen_eq, nOf_eq, Int.toNat_natCast, nAdd_eq, nSub_eq, dLen_nil, dLen_cons, iLt_t, iLt_f, iLe_t, iLe_f, iEq_t, iEq_f, sEq_t, sEq_f, bNot_t, bNot_f, bAnd_t, bEq_t, bEq_f, Bool.not_eq_true, Bool.not_eq_false, Bool.true_eq_false, Bool.false_eq_true, e] at hb
  · rw [cost_eq, bud_lt (by omega)]
  · refine tri_loop hT [0, 1, 5] (α := Nat × Int) (fun x => { t := [(0, .c (.d (.sl 1 (eL cS xs)))), (1, ai x.2), (5, ai (nInt x.1))], h := [], n := 0, N := 28 })
      (fun x => x.1 ≤ xs.length ∧ 0 ≤ x.2 ∧ x.2 ≤ 1048576 ∧ bud x.2 (costL ByteArray.size (xs.drop x.1)) = bud n (cost ByteArray.size xs)) (fun x => xs.length - x.1) (0, n - xs.length) (by ((conv => whnf); simp only [St.mk.injEq, List.cons.injEq, Prod.mk.injEq, AV.c.injEq, AV.agg.injEq, AV.tup.injEq, CV.d.injEq, D.int.injEq, D.bool.injEq, D.str.injEq, D.sl.injEq, Ent.arr.injEq, Ent.box.injEq, true_and, and_true, and_self, nInt_eq, Int.natCast_zero, dLen_eL, sLen_eq, e]))
      ⟨by omega, by dsimp only; omega, by dsimp only; omega, by rw [cost_eq, bud_step (by omega)]; rfl⟩ ?_
    intro ⟨k, m⟩ ⟨hk, hm0, hm1, hm⟩
    dsimp only at hk hm hm0 hm1
    (conv => whnf)
    refine ifB_i (fun h1 => ?_) (fun h1 => ?_) <;> (conv => whnf) <;> simp at h1
    · obtain ⟨s, hs'⟩ := get_lt h1
      refine idx_at (by simp) hs' ?_
      (conv => whnf)
      have hss := hs s (List.mem_of_getElem? hs')
      have e2 : wSub .i64 m s.size = m - s.size := wSub64 (by omega) (by omega)
      rw [drop_at hs', costL] at hm
      refine ifB_i (fun h2 => ?_) (fun h2 => ?_) <;> (conv => whnf) <;> simp only [nInt_eq, Int.natCast_zero, dLen_eL, sLen_eq, nOf_eq, Int.toNat_natCast, nAdd_eq, nSub_eq, dLen_nil, dLen_cons, iLt_t, iLt_f, iLe_t, iLe_f, iEq_t, iEq_f, sEq_t, sEq_f, bNot_t, bNot_f, bAnd_t, bEq_t, bEq_f, Bool.not_eq_true, Bool.not_eq_false, Bool.true_eq_false, Bool.false_eq_true, e2] at h2
      · rw [bud_lt (by omega)] at hm
        rw [← hm]
      · rw [bud_step (by omega)] at hm
        refine ⟨(k + 1, m - s.size), by dsimp only; omega, ⟨h1, h2, by dsimp only; omega, hm⟩, ?_⟩
        ((conv => whnf); simp only [St.mk.injEq, List.cons.injEq, Prod.mk.injEq, AV.c.injEq, AV.agg.injEq, AV.tup.injEq, CV.d.injEq, D.int.injEq, D.bool.injEq, D.str.injEq, D.sl.injEq, Ent.arr.injEq, Ent.box.injEq, true_and, and_true, and_self, nInt_eq, Int.natCast_zero, dLen_eL, sLen_eq, wI h1 hx, e2])
    · obtain rfl : k = xs.length := by omega
      simp only [List.drop_length, costL] at hm
      rw [bud_zero hm0] at hm
      rw [hm]


theorem toStringS_spec (xs : List (ByteArray)) (hx : xs.length ≤ 4000000000) :
    FnSpec PR f_laws_toStringS [.c (.d (.sl 1 (eL cS xs)))] (.c (.ref 0 0 none)) [(0, .arr t_string 1 0 .own (eL cS xs))] 1 := by
  refine FnSpec.intro hT p_laws_toStringS rfl (by kernel_rfl) n_laws_toStringS rfl ?_
  conv => whnf
  refine ⟨by simp; omega, ?_⟩
  (conv => whnf)
  refine tri_loop hT [0, 3, 4] (α := Nat × List (List D)) (fun x => { t := [(0, .c (.d (.sl 1 (eL cS xs)))), (3, .c (.ref 0 0 none)), (4, ai (nInt x.1))], h := [(0, .arr t_string 1 0 .own x.2)], n := 1, N := 22 })
    (fun x => x.1 ≤ xs.length ∧ Fill cS 1 xs x.1 x.2) (fun x => xs.length - x.1) (0, _) (by ((conv => whnf); simp only [St.mk.injEq, List.cons.injEq, Prod.mk.injEq, AV.c.injEq, AV.agg.injEq, AV.tup.injEq, CV.d.injEq, D.int.injEq, D.bool.injEq, D.str.injEq, D.sl.injEq, Ent.arr.injEq, Ent.box.injEq, true_and, and_true, and_self, nInt_eq, Int.natCast_zero, dLen_eL, sLen_eq]); rfl) ⟨by omega, Fill.start cS xs rfl⟩ ?_
  intro ⟨k, es⟩ ⟨hk, hf⟩
  dsimp only at hk hf
  have hl := hf.len
  (conv => whnf)
  refine ifB_i (fun h1 => ?_) (fun h1 => ?_) <;> (conv => whnf) <;> simp at h1
  · obtain ⟨s, hs'⟩ := get_lt h1
    refine idx_at (by simp) hs' ?_
    (conv => whnf)
    refine ⟨by simp only [lenRE_none, dLen_len, hl, InB_eq, nInt_eq]; omega, ?_⟩
    (conv => whnf)
    intro c' hc'
    have hr := hf.room hc'
    refine ⟨by simp; omega, ?_⟩
    rw [dOver_all (by rw [hr]; rfl)]
    (conv => whnf)
    refine ⟨(k + 1, dSet es k (cS s)), by dsimp only; omega, ⟨h1, hf.step hs' rfl⟩, ?_⟩
    ((conv => whnf); simp only [St.mk.injEq, List.cons.injEq, Prod.mk.injEq, AV.c.injEq, AV.agg.injEq, AV.tup.injEq, CV.d.injEq, D.int.injEq, D.bool.injEq, D.str.injEq, D.sl.injEq, Ent.arr.injEq, Ent.box.injEq, true_and, and_true, and_self, nInt_eq, Int.natCast_zero, dLen_eL, sLen_eq, wI h1 (by omega), nAdd_eq, nOf_eq, Int.toNat_natCast, offR, Nat.zero_add])
    rfl
  · obtain rfl : k = xs.length := by omega
    rw [hf.done]


theorem eqStringS_spec (xs : List (ByteArray)) (hx : xs.length ≤ 9223372036854775807) : FnSpec PR f_laws_eqStringS [.c (.d (.sl 1 (eL cS xs))), .c (.d (.sl 1 (eL cS xs)))] (ab true) [] 0 := by
  refine FnSpec.intro hT p_laws_eqStringS rfl (by kernel_rfl) n_laws_eqStringS rfl ?_
  conv => whnf
  refine ifB_i (fun hb => ?_) (fun hb => ?_)
  · simp at hb
  (conv => whnf)
  refine tri_loop hT [0, 1, 5] (α := Nat) (fun x => { t := [(0, .c (.d (.sl 1 (eL cS xs)))), (1, .c (.d (.sl 1 (eL cS xs)))), (5, ai (nInt x))], h := [], n := 0, N := 26 })
      (fun x => x ≤ xs.length) (fun x => xs.length - x) 0 (by ((conv => whnf); simp only [St.mk.injEq, List.cons.injEq, Prod.mk.injEq, AV.c.injEq, AV.agg.injEq, AV.tup.injEq, CV.d.injEq, D.int.injEq, D.bool.injEq, D.str.injEq, D.sl.injEq, Ent.arr.injEq, Ent.box.injEq, true_and, and_true, and_self, nInt_eq, Int.natCast_zero, dLen_eL, sLen_eq])) (Nat.zero_le _) ?_
  intro k hk
  (conv => whnf)
  refine ifB_i (fun h1 => ?_) (fun h1 => ?_)
  · (conv => whnf)
    simp at h1
    obtain ⟨s, hs'⟩ := get_lt h1
    refine tri_conf hT hmix (by kernel_rfl) ?_
    (conv => whnf)
    refine idx_at (by simp) hs' ?_
    (conv => whnf)
    refine idx_at (by simp) hs' ?_
    (conv => whnf)
    refine ifB_i (fun h2 => ?_) (fun h2 => ?_)
    · simp at h2
    (conv => whnf)
    refine ⟨k + 1, by omega, h1, ?_⟩
    ((conv => whnf); simp only [St.mk.injEq, List.cons.injEq, Prod.mk.injEq, AV.c.injEq, AV.agg.injEq, AV.tup.injEq, CV.d.injEq, D.int.injEq, D.bool.injEq, D.str.injEq, D.sl.injEq, Ent.arr.injEq, Ent.box.injEq, true_and, and_true, and_self, nInt_eq, Int.natCast_zero, dLen_eL, sLen_eq, wI h1 hx])
  · (conv => whnf)


theorem szIntS_spec (xs : List Int) (n : Int) (h0 : 0 ≤ n) (hn : n ≤ 1048576) (hx : xs.length ≤ 9223372036854775807) :
    FnSpec PR f_laws_szIntS [.c (.d (.sl 1 (eL cI xs))), ai n] (ai (bud n xs.length)) [] 0 := by
  refine FnSpec.intro hT p_laws_szIntS rfl (by kernel_rfl) n_laws_szIntS rfl ?_
  conv => whnf
  have e : wSub .i64 n xs.length = n - xs.length := wSub64 (by omega) (by omega)
  refine ifB_i (fun hb => ?_) (fun hb => ?_) <;> (conv => whnf) <;> simp only [nInt_eq, Int.natCast_zero, dLen_eL, sLen_eq, nOf_eq, Int.toNat_natCast, nAdd_eq, nSub_eq, dLen_nil, dLen_cons, iLt_t, iLt_f, iLe_t, iLe_f, iEq_t, iEq_f, sEq_t, sEq_f, bNot_t, bNot_f, bAnd_t, bEq_t, bEq_f, Bool.not_eq_true, Bool.not_eq_false, Bool.true_eq_false, Bool.false_eq_true, e] at hb
  · rw [bud_lt (by omega)]
  · ((conv => whnf); simp only [St.mk.injEq, List.cons.injEq, Prod.mk.injEq, AV.c.injEq, AV.agg.injEq, AV.tup.injEq, CV.d.injEq, D.int.injEq, D.bool.injEq, D.str.injEq, D.sl.injEq, Ent.arr.injEq, Ent.box.injEq, true_and, and_true, and_self, nInt_eq, Int.natCast_zero, dLen_eL, sLen_eq, e, bud_le (show (xs.length : Int) ≤ n by omega)])


theorem toIntS_spec (xs : List (Int)) (hx : xs.length ≤ 4000000000) :
    FnSpec PR f_laws_toIntS [.c (.d (.sl 1 (eL cI xs)))] (.c (.ref 0 0 none)) [(0, .arr t_int 1 0 .own (eL cI xs))] 1 := by
  refine FnSpec.intro hT p_laws_toIntS rfl (by kernel_rfl) n_laws_toIntS rfl ?_
  conv => whnf
  refine ⟨by simp; omega, ?_⟩
  (conv => whnf)
  refine tri_loop hT [0, 3, 4] (α := Nat × List (List D)) (fun x => { t := [(0, .c (.d (.sl 1 (eL cI xs)))), (3, .c (.ref 0 0 none)), (4, ai (nInt x.1))], h := [(0, .arr t_int 1 0 .own x.2)], n := 1, N := 22 })
    (fun x => x.1 ≤ xs.length ∧ Fill cI 1 xs x.1 x.2) (fun x => xs.length - x.1) (0, _) (by ((conv => whnf); simp only [St.mk.injEq, List.cons.injEq, Prod.mk.injEq, AV.c.injEq, AV.agg.injEq, AV.tup.injEq, CV.d.injEq, D.int.injEq, D.bool.injEq, D.str.injEq, D.sl.injEq, Ent.arr.injEq, Ent.box.injEq, true_and, and_true, and_self, nInt_eq, Int.natCast_zero, dLen_eL, sLen_eq]); rfl) ⟨by omega, Fill.start cI xs rfl⟩ ?_
  intro ⟨k, es⟩ ⟨hk, hf⟩
  dsimp only at hk hf
  have hl := hf.len
  (conv => whnf)
  refine ifB_i (fun h1 => ?_) (fun h1 => ?_) <;> (conv => whnf) <;> simp at h1
  · obtain ⟨s, hs'⟩ := get_lt h1
    refine idx_at (by simp) hs' ?_
    (conv => whnf)
    refine ⟨by simp only [lenRE_none, dLen_len, hl, InB_eq, nInt_eq]; omega, ?_⟩
    (conv => whnf)
    intro c' hc'
    have hr := hf.room hc'
    refine ⟨by simp; omega, ?_⟩
    rw [dOver_all (by rw [hr]; rfl)]
    (conv => whnf)
    refine ⟨(k + 1, dSet es k (cI s)), by dsimp only; omega, ⟨h1, hf.step hs' rfl⟩, ?_⟩
    ((conv => whnf); simp only [St.mk.injEq, List.cons.injEq, Prod.mk.injEq, AV.c.injEq, AV.agg.injEq, AV.tup.injEq, CV.d.injEq, D.int.injEq, D.bool.injEq, D.str.injEq, D.sl.injEq, Ent.arr.injEq, Ent.box.injEq, true_and, and_true, and_self, nInt_eq, Int.natCast_zero, dLen_eL, sLen_eq, wI h1 (by omega), nAdd_eq, nOf_eq, Int.toNat_natCast, offR, Nat.zero_add])
    rfl
  · obtain rfl : k = xs.length := by omega
    rw [hf.done]


theorem eqIntS_spec (xs : List (Int)) (hx : xs.length ≤ 9223372036854775807) : FnSpec PR f_laws_eqIntS [.c (.d (.sl 1 (eL cI xs))), .c (.d (.sl 1 (eL cI xs)))] (ab true) [] 0 := by
  refine FnSpec.intro hT p_laws_eqIntS rfl (by kernel_rfl) n_laws_eqIntS rfl ?_
  conv => whnf
  refine ifB_i (fun hb => ?_) (fun hb => ?_)
  · simp at hb
  (conv => whnf)
  refine tri_loop hT [0, 1, 5] (α := Nat) (fun x => { t := [(0, .c (.d (.sl 1 (eL cI xs)))), (1, .c (.d (.sl 1 (eL cI xs)))), (5, ai (nInt x))], h := [], n := 0, N := 26 })
      (fun x => x ≤ xs.length) (fun x => xs.length - x) 0 (by ((conv => whnf); simp only [St.mk.injEq, List.cons.injEq, Prod.mk.injEq, AV.c.injEq, AV.agg.injEq, AV.tup.injEq, CV.d.injEq, D.int.injEq, D.bool.injEq, D.str.injEq, D.sl.injEq, Ent.arr.injEq, Ent.box.injEq, true_and, and_true, and_self, nInt_eq, Int.natCast_zero, dLen_eL, sLen_eq])) (Nat.zero_le _) ?_
  intro k hk
  (conv => whnf)
  refine ifB_i (fun h1 => ?_) (fun h1 => ?_)
  · (conv => whnf)
    simp at h1
    obtain ⟨s, hs'⟩ := get_lt h1
    refine tri_conf hT hmix (by kernel_rfl) ?_
    (conv => whnf)
    refine idx_at (by simp) hs' ?_
    (conv => whnf)
    refine idx_at (by simp) hs' ?_
    (conv => whnf)
    refine ifB_i (fun h2 => ?_) (fun h2 => ?_)
    · simp at h2
    (conv => whnf)
    refine ⟨k + 1, by omega, h1, ?_⟩
    ((conv => whnf); simp only [St.mk.injEq, List.cons.injEq, Prod.mk.injEq, AV.c.injEq, AV.agg.injEq, AV.tup.injEq, CV.d.injEq, D.int.injEq, D.bool.injEq, D.str.injEq, D.sl.injEq, Ent.arr.injEq, Ent.box.injEq, true_and, and_true, and_self, nInt_eq, Int.natCast_zero, dLen_eL, sLen_eq, wI h1 hx])
  · (conv => whnf)


def okConfig (x : Cfg) : Prop := (x.signs.length ≤ 9223372036854775807)
def smConfig (x : Cfg) : Prop := (x.signs.length ≤ 4000000000)


def costConfig (x : Cfg) : Nat := x.signs.length


theorem szConfig_spec (x : Cfg) (n : Int) (h0 : 0 ≤ n) (hn : n ≤ 1048576) (ho : okConfig x) : FnSpec PR f_laws_szConfig [aCf x, ai n] (ai (bud n (costConfig x))) [] 0 := by
  have o0 := ho
  refine FnSpec.intro hT p_laws_szConfig rfl (by kernel_rfl) n_laws_szConfig rfl ?_
  conv => whnf
  refine .inl ⟨_, _, _, szIntS_spec x.signs _ h0 hn o0, rfl, ?_⟩
  (conv => whnf)
  refine ifB_i (fun h => ?_) (fun h => ?_) <;> (conv => whnf) <;> simp only [nInt_eq, Int.natCast_zero, dLen_eL, sLen_eq, nOf_eq, Int.toNat_natCast, nAdd_eq, nSub_eq, dLen_nil, dLen_cons, iLt_t, iLt_f, iLe_t, iLe_f, iEq_t, iEq_f, sEq_t, sEq_f, bNot_t, bNot_f, bAnd_t, bEq_t, bEq_f, Bool.not_eq_true, Bool.not_eq_false, Bool.true_eq_false, Bool.false_eq_true] at h
  · rw [costConfig]
    rw [bud_m1 h]
  have g0 : 0 ≤ bud n (x.signs.length) := h
  rw [costConfig]


theorem toConfig_spec (x : Cfg) (ho : smConfig x) : FnSpec PR f_laws_toConfig [aCf x] (.agg [.d (.int .i64 x.rounds), .d (.int .i64 x.depth), .d (.int .i64 x.bins), .d (.int .i64 x.lambda), .d (.int .i64 x.rows), .d (.int .i64 x.num), .d (.int .i64 x.den), .ref 0 0 none]) [(0, .arr t_int 1 0 .own (eL cI x.signs))] 1 := by
  have o0 := ho
  refine FnSpec.intro hT p_laws_toConfig rfl (by kernel_rfl) n_laws_toConfig rfl ?_
  conv => whnf
  refine .inl ⟨_, _, _, toIntS_spec x.signs o0, rfl, ?_⟩
  (conv => whnf)


theorem eqConfig_spec (x : Cfg) (ho : okConfig x) : FnSpec PR f_laws_eqConfig [aCf x, aCf x] (ab true) [] 0 := by
  have o0 := ho
  refine FnSpec.intro hT p_laws_eqConfig rfl (by kernel_rfl) n_laws_eqConfig rfl ?_
  conv => whnf
  refine ifB_i (fun hb => ?_) (fun hb => ?_)
  · simp at hb
  (conv => whnf)
  refine ifB_i (fun hb => ?_) (fun hb => ?_)
  · simp at hb
  (conv => whnf)
  refine ifB_i (fun hb => ?_) (fun hb => ?_)
  · simp at hb
  (conv => whnf)
  refine ifB_i (fun hb => ?_) (fun hb => ?_)
  · simp at hb
  (conv => whnf)
  refine ifB_i (fun hb => ?_) (fun hb => ?_)
  · simp at hb
  (conv => whnf)
  refine ifB_i (fun hb => ?_) (fun hb => ?_)
  · simp at hb
  (conv => whnf)
  refine ifB_i (fun hb => ?_) (fun hb => ?_)
  · simp at hb
  (conv => whnf)
  refine .inl ⟨_, _, _, eqIntS_spec x.signs o0, rfl, ?_⟩
  (conv => whnf)


theorem szNodeS_spec (xs : List Nd) (n : Int) (h0 : 0 ≤ n) (hn : n ≤ 1048576) (hx : xs.length ≤ 9223372036854775807) :
    FnSpec PR f_laws_szNodeS [.c (.d (.sl 5 (eL cN xs))), ai n] (ai (bud n xs.length)) [] 0 := by
  refine FnSpec.intro hT p_laws_szNodeS rfl (by kernel_rfl) n_laws_szNodeS rfl ?_
  conv => whnf
  have e : wSub .i64 n xs.length = n - xs.length := wSub64 (by omega) (by omega)
  refine ifB_i (fun hb => ?_) (fun hb => ?_) <;> (conv => whnf) <;> simp only [nInt_eq, Int.natCast_zero, dLen_eL, sLen_eq, nOf_eq, Int.toNat_natCast, nAdd_eq, nSub_eq, dLen_nil, dLen_cons, iLt_t, iLt_f, iLe_t, iLe_f, iEq_t, iEq_f, sEq_t, sEq_f, bNot_t, bNot_f, bAnd_t, bEq_t, bEq_f, Bool.not_eq_true, Bool.not_eq_false, Bool.true_eq_false, Bool.false_eq_true, e] at hb
  · rw [bud_lt (by omega)]
  · ((conv => whnf); simp only [St.mk.injEq, List.cons.injEq, Prod.mk.injEq, AV.c.injEq, AV.agg.injEq, AV.tup.injEq, CV.d.injEq, D.int.injEq, D.bool.injEq, D.str.injEq, D.sl.injEq, Ent.arr.injEq, Ent.box.injEq, true_and, and_true, and_self, nInt_eq, Int.natCast_zero, dLen_eL, sLen_eq, e, bud_le (show (xs.length : Int) ≤ n by omega)])


theorem toNodeS_spec (xs : List (Nd)) (hx : xs.length ≤ 4000000000) :
    FnSpec PR f_laws_toNodeS [.c (.d (.sl 5 (eL cN xs)))] (.c (.ref 0 0 none)) [(0, .arr t_impl_Node 5 0 .own (eL cN xs))] 1 := by
  refine FnSpec.intro hT p_laws_toNodeS rfl (by kernel_rfl) n_laws_toNodeS rfl ?_
  conv => whnf
  refine ⟨by simp; omega, ?_⟩
  (conv => whnf)
  refine tri_loop hT [0, 3, 4] (α := Nat × List (List D)) (fun x => { t := [(0, .c (.d (.sl 5 (eL cN xs)))), (3, .c (.ref 0 0 none)), (4, ai (nInt x.1))], h := [(0, .arr t_impl_Node 5 0 .own x.2)], n := 1, N := 23 })
    (fun x => x.1 ≤ xs.length ∧ Fill cN 5 xs x.1 x.2) (fun x => xs.length - x.1) (0, _) (by ((conv => whnf); simp only [St.mk.injEq, List.cons.injEq, Prod.mk.injEq, AV.c.injEq, AV.agg.injEq, AV.tup.injEq, CV.d.injEq, D.int.injEq, D.bool.injEq, D.str.injEq, D.sl.injEq, Ent.arr.injEq, Ent.box.injEq, true_and, and_true, and_self, nInt_eq, Int.natCast_zero, dLen_eL, sLen_eq]); rfl) ⟨by omega, Fill.start cN xs rfl⟩ ?_
  intro ⟨k, es⟩ ⟨hk, hf⟩
  dsimp only at hk hf
  have hl := hf.len
  (conv => whnf)
  refine ifB_i (fun h1 => ?_) (fun h1 => ?_) <;> (conv => whnf) <;> simp at h1
  · obtain ⟨s, hs'⟩ := get_lt h1
    refine idx_at (by simp) hs' ?_
    (conv => whnf)
    refine .inl ⟨_, _, _, toNode_spec s, rfl, ?_⟩
    (conv => whnf)
    refine ⟨by simp only [lenRE_none, dLen_len, hl, InB_eq, nInt_eq]; omega, ?_⟩
    (conv => whnf)
    intro c' hc'
    have hr := hf.room hc'
    refine ⟨by simp; omega, ?_⟩
    rw [dOver_all (by rw [hr]; rfl)]
    (conv => whnf)
    refine ⟨(k + 1, dSet es k (cN s)), by dsimp only; omega, ⟨h1, hf.step hs' rfl⟩, ?_⟩
    ((conv => whnf); simp only [St.mk.injEq, List.cons.injEq, Prod.mk.injEq, AV.c.injEq, AV.agg.injEq, AV.tup.injEq, CV.d.injEq, D.int.injEq, D.bool.injEq, D.str.injEq, D.sl.injEq, Ent.arr.injEq, Ent.box.injEq, true_and, and_true, and_self, nInt_eq, Int.natCast_zero, dLen_eL, sLen_eq, wI h1 (by omega), nAdd_eq, nOf_eq, Int.toNat_natCast, offR, Nat.zero_add])
    rfl
  · obtain rfl : k = xs.length := by omega
    rw [hf.done]


theorem eqNodeS_spec (xs : List (Nd)) (hx : xs.length ≤ 9223372036854775807) : FnSpec PR f_laws_eqNodeS [.c (.d (.sl 5 (eL cN xs))), .c (.d (.sl 5 (eL cN xs)))] (ab true) [] 0 := by
  refine FnSpec.intro hT p_laws_eqNodeS rfl (by kernel_rfl) n_laws_eqNodeS rfl ?_
  conv => whnf
  refine ifB_i (fun hb => ?_) (fun hb => ?_)
  · simp at hb
  (conv => whnf)
  refine tri_loop hT [0, 1, 5] (α := Nat) (fun x => { t := [(0, .c (.d (.sl 5 (eL cN xs)))), (1, .c (.d (.sl 5 (eL cN xs)))), (5, ai (nInt x))], h := [], n := 0, N := 27 })
      (fun x => x ≤ xs.length) (fun x => xs.length - x) 0 (by ((conv => whnf); simp only [St.mk.injEq, List.cons.injEq, Prod.mk.injEq, AV.c.injEq, AV.agg.injEq, AV.tup.injEq, CV.d.injEq, D.int.injEq, D.bool.injEq, D.str.injEq, D.sl.injEq, Ent.arr.injEq, Ent.box.injEq, true_and, and_true, and_self, nInt_eq, Int.natCast_zero, dLen_eL, sLen_eq])) (Nat.zero_le _) ?_
  intro k hk
  (conv => whnf)
  refine ifB_i (fun h1 => ?_) (fun h1 => ?_)
  · (conv => whnf)
    simp at h1
    obtain ⟨s, hs'⟩ := get_lt h1
    refine tri_conf hT hmix (by kernel_rfl) ?_
    (conv => whnf)
    refine idx_at (by simp) hs' ?_
    (conv => whnf)
    refine idx_at (by simp) hs' ?_
    (conv => whnf)
    refine ⟨_, _, eqNode_spec s, rfl, ?_⟩
    (conv => whnf)
    refine ⟨k + 1, by omega, h1, ?_⟩
    ((conv => whnf); simp only [St.mk.injEq, List.cons.injEq, Prod.mk.injEq, AV.c.injEq, AV.agg.injEq, AV.tup.injEq, CV.d.injEq, D.int.injEq, D.bool.injEq, D.str.injEq, D.sl.injEq, Ent.arr.injEq, Ent.box.injEq, true_and, and_true, and_self, nInt_eq, Int.natCast_zero, dLen_eL, sLen_eq, wI h1 hx])
  · (conv => whnf)


def okTree (x : List Nd) : Prop := (x.length ≤ 9223372036854775807)
def smTree (x : List Nd) : Prop := (x.length ≤ 4000000000)


def costTree (x : List Nd) : Nat := x.length


theorem szTree_spec (x : List Nd) (n : Int) (h0 : 0 ≤ n) (hn : n ≤ 1048576) (ho : okTree x) : FnSpec PR f_laws_szTree [aT x, ai n] (ai (bud n (costTree x))) [] 0 := by
  have o0 := ho
  refine FnSpec.intro hT p_laws_szTree rfl (by kernel_rfl) n_laws_szTree rfl ?_
  conv => whnf
  refine .inl ⟨_, _, _, szNodeS_spec x _ h0 hn o0, rfl, ?_⟩
  (conv => whnf)
  refine ifB_i (fun h => ?_) (fun h => ?_) <;> (conv => whnf) <;> simp only [nInt_eq, Int.natCast_zero, dLen_eL, sLen_eq, nOf_eq, Int.toNat_natCast, nAdd_eq, nSub_eq, dLen_nil, dLen_cons, iLt_t, iLt_f, iLe_t, iLe_f, iEq_t, iEq_f, sEq_t, sEq_f, bNot_t, bNot_f, bAnd_t, bEq_t, bEq_f, Bool.not_eq_true, Bool.not_eq_false, Bool.true_eq_false, Bool.false_eq_true] at h
  · rw [costTree]
    rw [bud_m1 h]
  have g0 : 0 ≤ bud n (x.length) := h
  rw [costTree]


theorem toTree_spec (x : List Nd) (ho : smTree x) : FnSpec PR f_laws_toTree [aT x] (.agg [.ref 0 0 none]) [(0, .arr t_impl_Node 5 0 .own (eL cN x))] 1 := by
  have o0 := ho
  refine FnSpec.intro hT p_laws_toTree rfl (by kernel_rfl) n_laws_toTree rfl ?_
  conv => whnf
  refine .inl ⟨_, _, _, toNodeS_spec x o0, rfl, ?_⟩
  (conv => whnf)


theorem eqTree_spec (x : List Nd) (ho : okTree x) : FnSpec PR f_laws_eqTree [aT x, aT x] (ab true) [] 0 := by
  have o0 := ho
  refine FnSpec.intro hT p_laws_eqTree rfl (by kernel_rfl) n_laws_eqTree rfl ?_
  conv => whnf
  refine .inl ⟨_, _, _, eqNodeS_spec x o0, rfl, ?_⟩
  (conv => whnf)


theorem szIntSS_spec (xs : List (List Int)) (n : Int) (h0 : 0 ≤ n) (hn : n ≤ 1048576) (hx : xs.length ≤ 9223372036854775807) (hs : ∀ s ∈ xs, s.length ≤ 9223372036854775807) :
    FnSpec PR f_laws_szIntSS [.c (.d (.sl 1 (eL cIs xs))), ai n] (ai (bud n (cost List.length xs))) [] 0 := by
  refine FnSpec.intro hT p_laws_szIntSS rfl (by kernel_rfl) n_laws_szIntSS rfl ?_
  conv => whnf
  have e : wSub .i64 n xs.length = n - xs.length := wSub64 (by omega) (by omega)
  refine ifB_i (fun hb => ?_) (fun hb => ?_) <;> (conv => whnf) <;> simp only [nInt_eq, Int.natCast_zero, dLen_eL, sLen_eq, nOf_eq, Int.toNat_natCast, nAdd_eq, nSub_eq, dLen_nil, dLen_cons, iLt_t, iLt_f, iLe_t, iLe_f, iEq_t, iEq_f, sEq_t, sEq_f, bNot_t, bNot_f, bAnd_t, bEq_t, bEq_f, Bool.not_eq_true, Bool.not_eq_false, Bool.true_eq_false, Bool.false_eq_true, e] at hb
  · rw [cost_eq, bud_lt (by omega)]
  · refine tri_loop hT [0, 1, 5] (α := Nat × Int) (fun x => { t := [(0, .c (.d (.sl 1 (eL cIs xs)))), (1, ai x.2), (5, ai (nInt x.1))], h := [], n := 0, N := 27 })
      (fun x => x.1 ≤ xs.length ∧ 0 ≤ x.2 ∧ x.2 ≤ 1048576 ∧ bud x.2 (costL List.length (xs.drop x.1)) = bud n (cost List.length xs)) (fun x => xs.length - x.1) (0, n - xs.length) (by ((conv => whnf); simp only [St.mk.injEq, List.cons.injEq, Prod.mk.injEq, AV.c.injEq, AV.agg.injEq, AV.tup.injEq, CV.d.injEq, D.int.injEq, D.bool.injEq, D.str.injEq, D.sl.injEq, Ent.arr.injEq, Ent.box.injEq, true_and, and_true, and_self, nInt_eq, Int.natCast_zero, dLen_eL, sLen_eq, e]))
      ⟨by omega, by dsimp only; omega, by dsimp only; omega, by rw [cost_eq, bud_step (by omega)]; rfl⟩ ?_
    intro ⟨k, m⟩ ⟨hk, hm0, hm1, hm⟩
    dsimp only at hk hm hm0 hm1
    (conv => whnf)
    refine ifB_i (fun h1 => ?_) (fun h1 => ?_) <;> (conv => whnf) <;> simp at h1
    · obtain ⟨s, hs'⟩ := get_lt h1
      refine idx_at (by simp) hs' ?_
      (conv => whnf)
      refine .inl ⟨_, _, _, szIntS_spec s m hm0 hm1 (hs s (List.mem_of_getElem? hs')), rfl, ?_⟩
      (conv => whnf)
      rw [drop_at hs', costL] at hm
      refine ifB_i (fun h2 => ?_) (fun h2 => ?_) <;> (conv => whnf) <;> simp only [nInt_eq, Int.natCast_zero, dLen_eL, sLen_eq, nOf_eq, Int.toNat_natCast, nAdd_eq, nSub_eq, dLen_nil, dLen_cons, iLt_t, iLt_f, iLe_t, iLe_f, iEq_t, iEq_f, sEq_t, sEq_f, bNot_t, bNot_f, bAnd_t, bEq_t, bEq_f, Bool.not_eq_true, Bool.not_eq_false, Bool.true_eq_false, Bool.false_eq_true] at h2
      · rw [bud_neg h2] at hm
        rw [← hm]
      · have hb2 := bud_pos h2
        refine ⟨(k + 1, bud m s.length), by dsimp only; omega, ⟨h1, h2, bud_mono hm1, by dsimp only; rw [bud_bud h2]; exact hm⟩, ?_⟩
        ((conv => whnf); simp only [St.mk.injEq, List.cons.injEq, Prod.mk.injEq, AV.c.injEq, AV.agg.injEq, AV.tup.injEq, CV.d.injEq, D.int.injEq, D.bool.injEq, D.str.injEq, D.sl.injEq, Ent.arr.injEq, Ent.box.injEq, true_and, and_true, and_self, nInt_eq, Int.natCast_zero, dLen_eL, sLen_eq, wI h1 hx])
    · obtain rfl : k = xs.length := by omega
      simp only [List.drop_length, costL] at hm
      rw [bud_zero hm0] at hm
      rw [hm]


theorem toIntSS_spec (xs : List (List Int)) (hx : xs.length ≤ 4000000000) (hs : ∀ s ∈ xs, s.length ≤ 4000000000) :
    FnSpec PR f_laws_toIntSS [.c (.d (.sl 1 (eL cIs xs)))] (.c (.ref 0 0 none)) [(0, .arr t_Lint 1 0 .own (eL cIs xs))] 1 := by
  refine FnSpec.intro hT p_laws_toIntSS rfl (by kernel_rfl) n_laws_toIntSS rfl ?_
  conv => whnf
  refine ⟨by simp; omega, ?_⟩
  (conv => whnf)
  refine tri_loop hT [0, 3, 4] (α := Nat × List (List D)) (fun x => { t := [(0, .c (.d (.sl 1 (eL cIs xs)))), (3, .c (.ref 0 0 none)), (4, ai (nInt x.1))], h := [(0, .arr t_Lint 1 0 .own x.2)], n := 1, N := 23 })
    (fun x => x.1 ≤ xs.length ∧ Fill cIs 1 xs x.1 x.2) (fun x => xs.length - x.1) (0, _) (by ((conv => whnf); simp only [St.mk.injEq, List.cons.injEq, Prod.mk.injEq, AV.c.injEq, AV.agg.injEq, AV.tup.injEq, CV.d.injEq, D.int.injEq, D.bool.injEq, D.str.injEq, D.sl.injEq, Ent.arr.injEq, Ent.box.injEq, true_and, and_true, and_self, nInt_eq, Int.natCast_zero, dLen_eL, sLen_eq]); rfl) ⟨by omega, Fill.start cIs xs rfl⟩ ?_
  intro ⟨k, es⟩ ⟨hk, hf⟩
  dsimp only at hk hf
  have hl := hf.len
  (conv => whnf)
  refine ifB_i (fun h1 => ?_) (fun h1 => ?_) <;> (conv => whnf) <;> simp at h1
  · obtain ⟨s, hs'⟩ := get_lt h1
    refine idx_at (by simp) hs' ?_
    (conv => whnf)
    refine .inl ⟨_, _, _, toIntS_spec s (hs s (List.mem_of_getElem? hs')), rfl, ?_⟩
    (conv => whnf)
    refine ⟨by simp only [lenRE_none, dLen_len, hl, InB_eq, nInt_eq]; omega, ?_⟩
    (conv => whnf)
    intro c' hc'
    have hr := hf.room hc'
    refine ⟨by simp; omega, ?_⟩
    rw [dOver_all (by rw [hr]; rfl)]
    (conv => whnf)
    refine ⟨(k + 1, dSet es k (cIs s)), by dsimp only; omega, ⟨h1, hf.step hs' rfl⟩, ?_⟩
    ((conv => whnf); simp only [St.mk.injEq, List.cons.injEq, Prod.mk.injEq, AV.c.injEq, AV.agg.injEq, AV.tup.injEq, CV.d.injEq, D.int.injEq, D.bool.injEq, D.str.injEq, D.sl.injEq, Ent.arr.injEq, Ent.box.injEq, true_and, and_true, and_self, nInt_eq, Int.natCast_zero, dLen_eL, sLen_eq, wI h1 (by omega), nAdd_eq, nOf_eq, Int.toNat_natCast, offR, Nat.zero_add])
    rfl
  · obtain rfl : k = xs.length := by omega
    rw [hf.done]


theorem eqIntSS_spec (xs : List (List Int)) (hx : xs.length ≤ 9223372036854775807) (hs : ∀ s ∈ xs, s.length ≤ 9223372036854775807) : FnSpec PR f_laws_eqIntSS [.c (.d (.sl 1 (eL cIs xs))), .c (.d (.sl 1 (eL cIs xs)))] (ab true) [] 0 := by
  refine FnSpec.intro hT p_laws_eqIntSS rfl (by kernel_rfl) n_laws_eqIntSS rfl ?_
  conv => whnf
  refine ifB_i (fun hb => ?_) (fun hb => ?_)
  · simp at hb
  (conv => whnf)
  refine tri_loop hT [0, 1, 5] (α := Nat) (fun x => { t := [(0, .c (.d (.sl 1 (eL cIs xs)))), (1, .c (.d (.sl 1 (eL cIs xs)))), (5, ai (nInt x))], h := [], n := 0, N := 27 })
      (fun x => x ≤ xs.length) (fun x => xs.length - x) 0 (by ((conv => whnf); simp only [St.mk.injEq, List.cons.injEq, Prod.mk.injEq, AV.c.injEq, AV.agg.injEq, AV.tup.injEq, CV.d.injEq, D.int.injEq, D.bool.injEq, D.str.injEq, D.sl.injEq, Ent.arr.injEq, Ent.box.injEq, true_and, and_true, and_self, nInt_eq, Int.natCast_zero, dLen_eL, sLen_eq])) (Nat.zero_le _) ?_
  intro k hk
  (conv => whnf)
  refine ifB_i (fun h1 => ?_) (fun h1 => ?_)
  · (conv => whnf)
    simp at h1
    obtain ⟨s, hs'⟩ := get_lt h1
    refine tri_conf hT hmix (by kernel_rfl) ?_
    (conv => whnf)
    refine idx_at (by simp) hs' ?_
    (conv => whnf)
    refine idx_at (by simp) hs' ?_
    (conv => whnf)
    refine ⟨_, _, eqIntS_spec s (hs s (List.mem_of_getElem? hs')), rfl, ?_⟩
    (conv => whnf)
    refine ⟨k + 1, by omega, h1, ?_⟩
    ((conv => whnf); simp only [St.mk.injEq, List.cons.injEq, Prod.mk.injEq, AV.c.injEq, AV.agg.injEq, AV.tup.injEq, CV.d.injEq, D.int.injEq, D.bool.injEq, D.str.injEq, D.sl.injEq, Ent.arr.injEq, Ent.box.injEq, true_and, and_true, and_self, nInt_eq, Int.natCast_zero, dLen_eL, sLen_eq, wI h1 hx])
  · (conv => whnf)


def okTable (x : Tbl) : Prop := (x.names.length ≤ 9223372036854775807 ∧ ∀ s ∈ x.names, s.size ≤ 9223372036854775807) ∧ (x.target.size ≤ 9223372036854775807) ∧ (x.rows.length ≤ 9223372036854775807 ∧ ∀ s ∈ x.rows, s.length ≤ 9223372036854775807) ∧ (x.ys.length ≤ 9223372036854775807)
def smTable (x : Tbl) : Prop := (x.names.length ≤ 4000000000) ∧ (x.rows.length ≤ 4000000000 ∧ ∀ s ∈ x.rows, s.length ≤ 4000000000) ∧ (x.ys.length ≤ 4000000000)


def costTable (x : Tbl) : Nat := (cost ByteArray.size x.names) + x.target.size + (cost List.length x.rows) + x.ys.length


def okGrid (x : Grd) : Prop := (x.cuts.length ≤ 9223372036854775807 ∧ ∀ s ∈ x.cuts, s.length ≤ 9223372036854775807) ∧ (x.bins.length ≤ 9223372036854775807 ∧ ∀ s ∈ x.bins, s.length ≤ 9223372036854775807)
def smGrid (x : Grd) : Prop := (x.cuts.length ≤ 4000000000 ∧ ∀ s ∈ x.cuts, s.length ≤ 4000000000) ∧ (x.bins.length ≤ 4000000000 ∧ ∀ s ∈ x.bins, s.length ≤ 4000000000)


def costGrid (x : Grd) : Nat := (cost List.length x.cuts) + (cost List.length x.bins)


theorem szGrid_spec (x : Grd) (n : Int) (h0 : 0 ≤ n) (hn : n ≤ 1048576) (ho : okGrid x) : FnSpec PR f_laws_szGrid [aG x, ai n] (ai (bud n (costGrid x))) [] 0 := by
  obtain ⟨o0, o1⟩ := ho
  refine FnSpec.intro hT p_laws_szGrid rfl (by kernel_rfl) n_laws_szGrid rfl ?_
  conv => whnf
  refine .inl ⟨_, _, _, szIntSS_spec x.cuts _ h0 hn o0.1 o0.2, rfl, ?_⟩
  (conv => whnf)
  refine ifB_i (fun h => ?_) (fun h => ?_) <;> (conv => whnf) <;> simp only [nInt_eq, Int.natCast_zero, dLen_eL, sLen_eq, nOf_eq, Int.toNat_natCast, nAdd_eq, nSub_eq, dLen_nil, dLen_cons, iLt_t, iLt_f, iLe_t, iLe_f, iEq_t, iEq_f, sEq_t, sEq_f, bNot_t, bNot_f, bAnd_t, bEq_t, bEq_f, Bool.not_eq_true, Bool.not_eq_false, Bool.true_eq_false, Bool.false_eq_true] at h
  · rw [costGrid]
    rw [bud_more (bud_m1 h) (by omega)]
  have g0 : 0 ≤ bud n ((cost List.length x.cuts)) := h
  have s1 := szIntSS_spec x.bins _ g0 (bud_mono hn) o1.1 o1.2
  rw [bud_bud g0] at s1
  refine .inl ⟨_, _, _, s1, rfl, ?_⟩
  (conv => whnf)
  refine ifB_i (fun h => ?_) (fun h => ?_) <;> (conv => whnf) <;> simp only [nInt_eq, Int.natCast_zero, dLen_eL, sLen_eq, nOf_eq, Int.toNat_natCast, nAdd_eq, nSub_eq, dLen_nil, dLen_cons, iLt_t, iLt_f, iLe_t, iLe_f, iEq_t, iEq_f, sEq_t, sEq_f, bNot_t, bNot_f, bAnd_t, bEq_t, bEq_f, Bool.not_eq_true, Bool.not_eq_false, Bool.true_eq_false, Bool.false_eq_true] at h
  · rw [costGrid]
    rw [bud_m1 h]
  have g1 : 0 ≤ bud n ((cost List.length x.cuts) + (cost List.length x.bins)) := h
  rw [costGrid]


theorem toGrid_spec (x : Grd) (ho : smGrid x) : FnSpec PR f_laws_toGrid [aG x] (.agg [.ref 0 0 none, .ref 1 0 none]) [(0, .arr t_Lint 1 0 .own (eL cIs x.cuts)), (1, .arr t_Lint 1 0 .own (eL cIs x.bins))] 2 := by
  obtain ⟨o0, o1⟩ := ho
  refine FnSpec.intro hT p_laws_toGrid rfl (by kernel_rfl) n_laws_toGrid rfl ?_
  conv => whnf
  refine .inl ⟨_, _, _, toIntSS_spec x.cuts o0.1 o0.2, rfl, ?_⟩
  (conv => whnf)
  refine .inl ⟨_, _, _, toIntSS_spec x.bins o1.1 o1.2, rfl, ?_⟩
  (conv => whnf)


theorem eqGrid_spec (x : Grd) (ho : okGrid x) : FnSpec PR f_laws_eqGrid [aG x, aG x] (ab true) [] 0 := by
  obtain ⟨o0, o1⟩ := ho
  refine FnSpec.intro hT p_laws_eqGrid rfl (by kernel_rfl) n_laws_eqGrid rfl ?_
  conv => whnf
  refine .inl ⟨_, _, _, eqIntSS_spec x.cuts o0.1 o0.2, rfl, ?_⟩
  (conv => whnf)
  refine .inl ⟨_, _, _, eqIntSS_spec x.bins o1.1 o1.2, rfl, ?_⟩
  (conv => whnf)


theorem szTreeS_spec (xs : List (List Nd)) (n : Int) (h0 : 0 ≤ n) (hn : n ≤ 1048576) (hx : xs.length ≤ 9223372036854775807) (hs : ∀ s ∈ xs, s.length ≤ 9223372036854775807) :
    FnSpec PR f_laws_szTreeS [.c (.d (.sl 1 (eL cT xs))), ai n] (ai (bud n (cost costTree xs))) [] 0 := by
  refine FnSpec.intro hT p_laws_szTreeS rfl (by kernel_rfl) n_laws_szTreeS rfl ?_
  conv => whnf
  have e : wSub .i64 n xs.length = n - xs.length := wSub64 (by omega) (by omega)
  refine ifB_i (fun hb => ?_) (fun hb => ?_) <;> (conv => whnf) <;> simp only [nInt_eq, Int.natCast_zero, dLen_eL, sLen_eq, nOf_eq, Int.toNat_natCast, nAdd_eq, nSub_eq, dLen_nil, dLen_cons, iLt_t, iLt_f, iLe_t, iLe_f, iEq_t, iEq_f, sEq_t, sEq_f, bNot_t, bNot_f, bAnd_t, bEq_t, bEq_f, Bool.not_eq_true, Bool.not_eq_false, Bool.true_eq_false, Bool.false_eq_true, e] at hb
  · rw [cost_eq, bud_lt (by omega)]
  · refine tri_loop hT [0, 1, 5] (α := Nat × Int) (fun x => { t := [(0, .c (.d (.sl 1 (eL cT xs)))), (1, ai x.2), (5, ai (nInt x.1))], h := [], n := 0, N := 27 })
      (fun x => x.1 ≤ xs.length ∧ 0 ≤ x.2 ∧ x.2 ≤ 1048576 ∧ bud x.2 (costL costTree (xs.drop x.1)) = bud n (cost costTree xs)) (fun x => xs.length - x.1) (0, n - xs.length) (by ((conv => whnf); simp only [St.mk.injEq, List.cons.injEq, Prod.mk.injEq, AV.c.injEq, AV.agg.injEq, AV.tup.injEq, CV.d.injEq, D.int.injEq, D.bool.injEq, D.str.injEq, D.sl.injEq, Ent.arr.injEq, Ent.box.injEq, true_and, and_true, and_self, nInt_eq, Int.natCast_zero, dLen_eL, sLen_eq, e]))
      ⟨by omega, by dsimp only; omega, by dsimp only; omega, by rw [cost_eq, bud_step (by omega)]; rfl⟩ ?_
    intro ⟨k, m⟩ ⟨hk, hm0, hm1, hm⟩
    dsimp only at hk hm hm0 hm1
    (conv => whnf)
    refine ifB_i (fun h1 => ?_) (fun h1 => ?_) <;> (conv => whnf) <;> simp at h1
    · obtain ⟨s, hs'⟩ := get_lt h1
      refine idx_at (by simp) hs' ?_
      (conv => whnf)
      refine .inl ⟨_, _, _, szTree_spec s m hm0 hm1 (hs s (List.mem_of_getElem? hs')), rfl, ?_⟩
      (conv => whnf)
      rw [drop_at hs', costL] at hm
      refine ifB_i (fun h2 => ?_) (fun h2 => ?_) <;> (conv => whnf) <;> simp only [nInt_eq, Int.natCast_zero, dLen_eL, sLen_eq, nOf_eq, Int.toNat_natCast, nAdd_eq, nSub_eq, dLen_nil, dLen_cons, iLt_t, iLt_f, iLe_t, iLe_f, iEq_t, iEq_f, sEq_t, sEq_f, bNot_t, bNot_f, bAnd_t, bEq_t, bEq_f, Bool.not_eq_true, Bool.not_eq_false, Bool.true_eq_false, Bool.false_eq_true] at h2
      · rw [bud_neg h2] at hm
        rw [← hm]
      · have hb2 := bud_pos h2
        refine ⟨(k + 1, bud m (costTree s)), by dsimp only; omega, ⟨h1, h2, bud_mono hm1, by dsimp only; rw [bud_bud h2]; exact hm⟩, ?_⟩
        ((conv => whnf); simp only [St.mk.injEq, List.cons.injEq, Prod.mk.injEq, AV.c.injEq, AV.agg.injEq, AV.tup.injEq, CV.d.injEq, D.int.injEq, D.bool.injEq, D.str.injEq, D.sl.injEq, Ent.arr.injEq, Ent.box.injEq, true_and, and_true, and_self, nInt_eq, Int.natCast_zero, dLen_eL, sLen_eq, wI h1 hx])
    · obtain rfl : k = xs.length := by omega
      simp only [List.drop_length, costL] at hm
      rw [bud_zero hm0] at hm
      rw [hm]


theorem toTreeS_spec (xs : List (List Nd)) (hx : xs.length ≤ 4000000000) (hs : ∀ s ∈ xs, s.length ≤ 4000000000) :
    FnSpec PR f_laws_toTreeS [.c (.d (.sl 1 (eL cT xs)))] (.c (.ref 0 0 none)) [(0, .arr t_impl_Tree 1 0 .own (eL cT xs))] 1 := by
  refine FnSpec.intro hT p_laws_toTreeS rfl (by kernel_rfl) n_laws_toTreeS rfl ?_
  conv => whnf
  refine ⟨by simp; omega, ?_⟩
  (conv => whnf)
  refine tri_loop hT [0, 3, 4] (α := Nat × List (List D)) (fun x => { t := [(0, .c (.d (.sl 1 (eL cT xs)))), (3, .c (.ref 0 0 none)), (4, ai (nInt x.1))], h := [(0, .arr t_impl_Tree 1 0 .own x.2)], n := 1, N := 23 })
    (fun x => x.1 ≤ xs.length ∧ Fill cT 1 xs x.1 x.2) (fun x => xs.length - x.1) (0, _) (by ((conv => whnf); simp only [St.mk.injEq, List.cons.injEq, Prod.mk.injEq, AV.c.injEq, AV.agg.injEq, AV.tup.injEq, CV.d.injEq, D.int.injEq, D.bool.injEq, D.str.injEq, D.sl.injEq, Ent.arr.injEq, Ent.box.injEq, true_and, and_true, and_self, nInt_eq, Int.natCast_zero, dLen_eL, sLen_eq]); rfl) ⟨by omega, Fill.start cT xs rfl⟩ ?_
  intro ⟨k, es⟩ ⟨hk, hf⟩
  dsimp only at hk hf
  have hl := hf.len
  (conv => whnf)
  refine ifB_i (fun h1 => ?_) (fun h1 => ?_) <;> (conv => whnf) <;> simp at h1
  · obtain ⟨s, hs'⟩ := get_lt h1
    refine idx_at (by simp) hs' ?_
    (conv => whnf)
    refine .inl ⟨_, _, _, toTree_spec s (hs s (List.mem_of_getElem? hs')), rfl, ?_⟩
    (conv => whnf)
    refine ⟨by simp only [lenRE_none, dLen_len, hl, InB_eq, nInt_eq]; omega, ?_⟩
    (conv => whnf)
    intro c' hc'
    have hr := hf.room hc'
    refine ⟨by simp; omega, ?_⟩
    rw [dOver_all (by rw [hr]; rfl)]
    (conv => whnf)
    refine ⟨(k + 1, dSet es k (cT s)), by dsimp only; omega, ⟨h1, hf.step hs' rfl⟩, ?_⟩
    ((conv => whnf); simp only [St.mk.injEq, List.cons.injEq, Prod.mk.injEq, AV.c.injEq, AV.agg.injEq, AV.tup.injEq, CV.d.injEq, D.int.injEq, D.bool.injEq, D.str.injEq, D.sl.injEq, Ent.arr.injEq, Ent.box.injEq, true_and, and_true, and_self, nInt_eq, Int.natCast_zero, dLen_eL, sLen_eq, wI h1 (by omega), nAdd_eq, nOf_eq, Int.toNat_natCast, offR, Nat.zero_add])
    rfl
  · obtain rfl : k = xs.length := by omega
    rw [hf.done]


theorem eqTreeS_spec (xs : List (List Nd)) (hx : xs.length ≤ 9223372036854775807) (hs : ∀ s ∈ xs, s.length ≤ 9223372036854775807) : FnSpec PR f_laws_eqTreeS [.c (.d (.sl 1 (eL cT xs))), .c (.d (.sl 1 (eL cT xs)))] (ab true) [] 0 := by
  refine FnSpec.intro hT p_laws_eqTreeS rfl (by kernel_rfl) n_laws_eqTreeS rfl ?_
  conv => whnf
  refine ifB_i (fun hb => ?_) (fun hb => ?_)
  · simp at hb
  (conv => whnf)
  refine tri_loop hT [0, 1, 5] (α := Nat) (fun x => { t := [(0, .c (.d (.sl 1 (eL cT xs)))), (1, .c (.d (.sl 1 (eL cT xs)))), (5, ai (nInt x))], h := [], n := 0, N := 27 })
      (fun x => x ≤ xs.length) (fun x => xs.length - x) 0 (by ((conv => whnf); simp only [St.mk.injEq, List.cons.injEq, Prod.mk.injEq, AV.c.injEq, AV.agg.injEq, AV.tup.injEq, CV.d.injEq, D.int.injEq, D.bool.injEq, D.str.injEq, D.sl.injEq, Ent.arr.injEq, Ent.box.injEq, true_and, and_true, and_self, nInt_eq, Int.natCast_zero, dLen_eL, sLen_eq])) (Nat.zero_le _) ?_
  intro k hk
  (conv => whnf)
  refine ifB_i (fun h1 => ?_) (fun h1 => ?_)
  · (conv => whnf)
    simp at h1
    obtain ⟨s, hs'⟩ := get_lt h1
    refine tri_conf hT hmix (by kernel_rfl) ?_
    (conv => whnf)
    refine idx_at (by simp) hs' ?_
    (conv => whnf)
    refine idx_at (by simp) hs' ?_
    (conv => whnf)
    refine ⟨_, _, eqTree_spec s (hs s (List.mem_of_getElem? hs')), rfl, ?_⟩
    (conv => whnf)
    refine ⟨k + 1, by omega, h1, ?_⟩
    ((conv => whnf); simp only [St.mk.injEq, List.cons.injEq, Prod.mk.injEq, AV.c.injEq, AV.agg.injEq, AV.tup.injEq, CV.d.injEq, D.int.injEq, D.bool.injEq, D.str.injEq, D.sl.injEq, Ent.arr.injEq, Ent.box.injEq, true_and, and_true, and_self, nInt_eq, Int.natCast_zero, dLen_eL, sLen_eq, wI h1 hx])
  · (conv => whnf)


def okModel (x : Mdl) : Prop := (x.names.length ≤ 9223372036854775807 ∧ ∀ s ∈ x.names, s.size ≤ 9223372036854775807) ∧ (x.signs.length ≤ 9223372036854775807) ∧ (x.trees.length ≤ 9223372036854775807 ∧ ∀ s ∈ x.trees, s.length ≤ 9223372036854775807)
def smModel (x : Mdl) : Prop := (x.names.length ≤ 4000000000) ∧ (x.signs.length ≤ 4000000000) ∧ (x.trees.length ≤ 4000000000 ∧ ∀ s ∈ x.trees, s.length ≤ 4000000000)


def costModel (x : Mdl) : Nat := (cost ByteArray.size x.names) + x.signs.length + (cost costTree x.trees)


theorem szModel_spec (x : Mdl) (n : Int) (h0 : 0 ≤ n) (hn : n ≤ 1048576) (ho : okModel x) : FnSpec PR f_laws_szModel [aM x, ai n] (ai (bud n (costModel x))) [] 0 := by
  obtain ⟨o0, o1, o2⟩ := ho
  refine FnSpec.intro hT p_laws_szModel rfl (by kernel_rfl) n_laws_szModel rfl ?_
  conv => whnf
  refine .inl ⟨_, _, _, szStringS_spec x.names _ h0 hn o0.1 o0.2, rfl, ?_⟩
  (conv => whnf)
  refine ifB_i (fun h => ?_) (fun h => ?_) <;> (conv => whnf) <;> simp only [nInt_eq, Int.natCast_zero, dLen_eL, sLen_eq, nOf_eq, Int.toNat_natCast, nAdd_eq, nSub_eq, dLen_nil, dLen_cons, iLt_t, iLt_f, iLe_t, iLe_f, iEq_t, iEq_f, sEq_t, sEq_f, bNot_t, bNot_f, bAnd_t, bEq_t, bEq_f, Bool.not_eq_true, Bool.not_eq_false, Bool.true_eq_false, Bool.false_eq_true] at h
  · rw [costModel]
    rw [bud_more (bud_m1 h) (by omega)]
  have g0 : 0 ≤ bud n ((cost ByteArray.size x.names)) := h
  have s1 := szIntS_spec x.signs _ g0 (bud_mono hn) o1
  rw [bud_bud g0] at s1
  refine .inl ⟨_, _, _, s1, rfl, ?_⟩
  (conv => whnf)
  refine ifB_i (fun h => ?_) (fun h => ?_) <;> (conv => whnf) <;> simp only [nInt_eq, Int.natCast_zero, dLen_eL, sLen_eq, nOf_eq, Int.toNat_natCast, nAdd_eq, nSub_eq, dLen_nil, dLen_cons, iLt_t, iLt_f, iLe_t, iLe_f, iEq_t, iEq_f, sEq_t, sEq_f, bNot_t, bNot_f, bAnd_t, bEq_t, bEq_f, Bool.not_eq_true, Bool.not_eq_false, Bool.true_eq_false, Bool.false_eq_true] at h
  · rw [costModel]
    rw [bud_more (bud_m1 h) (by omega)]
  have g1 : 0 ≤ bud n ((cost ByteArray.size x.names) + x.signs.length) := h
  have s2 := szTreeS_spec x.trees _ g1 (bud_mono hn) o2.1 o2.2
  rw [bud_bud g1] at s2
  refine .inl ⟨_, _, _, s2, rfl, ?_⟩
  (conv => whnf)
  refine ifB_i (fun h => ?_) (fun h => ?_) <;> (conv => whnf) <;> simp only [nInt_eq, Int.natCast_zero, dLen_eL, sLen_eq, nOf_eq, Int.toNat_natCast, nAdd_eq, nSub_eq, dLen_nil, dLen_cons, iLt_t, iLt_f, iLe_t, iLe_f, iEq_t, iEq_f, sEq_t, sEq_f, bNot_t, bNot_f, bAnd_t, bEq_t, bEq_f, Bool.not_eq_true, Bool.not_eq_false, Bool.true_eq_false, Bool.false_eq_true] at h
  · rw [costModel]
    rw [bud_m1 h]
  have g2 : 0 ≤ bud n ((cost ByteArray.size x.names) + x.signs.length + (cost costTree x.trees)) := h
  rw [costModel]


theorem toModel_spec (x : Mdl) (ho : smModel x) : FnSpec PR f_laws_toModel [aM x] (.agg [.ref 0 0 none, .ref 1 0 none, .d (.int .i64 x.base), .ref 2 0 none]) [(0, .arr t_string 1 0 .own (eL cS x.names)), (1, .arr t_int 1 0 .own (eL cI x.signs)), (2, .arr t_impl_Tree 1 0 .own (eL cT x.trees))] 3 := by
  obtain ⟨o0, o1, o2⟩ := ho
  refine FnSpec.intro hT p_laws_toModel rfl (by kernel_rfl) n_laws_toModel rfl ?_
  conv => whnf
  refine .inl ⟨_, _, _, toStringS_spec x.names o0, rfl, ?_⟩
  (conv => whnf)
  refine .inl ⟨_, _, _, toIntS_spec x.signs o1, rfl, ?_⟩
  (conv => whnf)
  refine .inl ⟨_, _, _, toTreeS_spec x.trees o2.1 o2.2, rfl, ?_⟩
  (conv => whnf)


theorem eqModel_spec (x : Mdl) (ho : okModel x) : FnSpec PR f_laws_eqModel [aM x, aM x] (ab true) [] 0 := by
  obtain ⟨o0, o1, o2⟩ := ho
  refine FnSpec.intro hT p_laws_eqModel rfl (by kernel_rfl) n_laws_eqModel rfl ?_
  conv => whnf
  refine .inl ⟨_, _, _, eqStringS_spec x.names o0.1, rfl, ?_⟩
  (conv => whnf)
  refine .inl ⟨_, _, _, eqIntS_spec x.signs o1, rfl, ?_⟩
  (conv => whnf)
  refine ifB_i (fun hb => ?_) (fun hb => ?_)
  · simp at hb
  (conv => whnf)
  refine .inl ⟨_, _, _, eqTreeS_spec x.trees o2.1 o2.2, rfl, ?_⟩
  (conv => whnf)
end Go.H.S
namespace Go.H.S
open Go Go.Proofs Go.H
attribute [local irreducible] Tri FnSpec FnSpecM
set_option maxRecDepth 100000
set_option linter.unusedSimpArgs false
set_option linter.unusedVariables false


def usesL (p : Nd → Bool) : List (List Nd) → Nat
  | [] => 0
  | t :: r => t.countP p + usesL p r
def isF (f : Int) (n : Nd) : Bool := decide (n.f ≠ -1) && decide (n.f = f)
theorem countP_le (p : Nd → Bool) (t : List Nd) : t.countP p ≤ t.length := List.countP_le_length
theorem usesL_le (p : Nd → Bool) : ∀ ts : List (List Nd), usesL p ts ≤ costL List.length ts
  | [] => Nat.le_refl _
  | t :: r => by have h1 := usesL_le p r; have h2 := countP_le p t; simp only [usesL, costL]; omega
theorem costL_mem {α : Type} (f : α → Nat) : ∀ {l : List α} {x : α}, x ∈ l → f x ≤ costL f l
  | y :: r, x, h => by
    simp only [costL]
    rcases List.mem_cons.1 h with rfl | h
    · omega
    · have := costL_mem f h; omega
theorem costTree_len : ∀ ts : List (List Nd), costL costTree ts = costL List.length ts
  | [] => rfl
  | t :: r => by simp only [costL, costTree_len r, costTree]


theorem spec_l17Inner_spec (n : Nd) : FnSpec PR f_spec_l17Inner [aN n] (ab (bNot (iEq n.f (-1)))) [] 0 := by
  refine FnSpec.intro hT p_spec_l17Inner rfl (by kernel_rfl) n_spec_l17Inner rfl ?_
  conv => whnf

theorem impl_isLeaf_spec (n : Nd) : FnSpec PR f_impl_isLeaf [aN n] (ab (iEq n.f (-1))) [] 0 := by
  refine FnSpec.intro hT p_impl_isLeaf rfl (by kernel_rfl) n_impl_isLeaf rfl ?_
  conv => whnf

theorem impl_within_spec (x lo hi : Int) : FnSpec PR f_impl_within [ai x, ai lo, ai hi] (ab (decide (lo ≤ x ∧ x ≤ hi))) [] 0 := by
  refine FnSpec.intro hT p_impl_within rfl (by kernel_rfl) n_impl_within rfl ?_
  conv => whnf
  refine ifB_i (fun h => ?_) (fun h => ?_) <;> (conv => whnf) <;> simp only [nInt_eq, Int.natCast_zero, dLen_eL, sLen_eq, nOf_eq, Int.toNat_natCast, nAdd_eq, nSub_eq, dLen_nil, dLen_cons, iLt_t, iLt_f, iLe_t, iLe_f, iEq_t, iEq_f, sEq_t, sEq_f, bNot_t, bNot_f, bAnd_t, bEq_t, bEq_f, Bool.not_eq_true, Bool.not_eq_false, Bool.true_eq_false, Bool.false_eq_true] at h
  · ((conv => whnf); simp only [St.mk.injEq, List.cons.injEq, Prod.mk.injEq, AV.c.injEq, AV.agg.injEq, AV.tup.injEq, CV.d.injEq, D.int.injEq, D.bool.injEq, D.str.injEq, D.sl.injEq, Ent.arr.injEq, Ent.box.injEq, true_and, and_true, and_self, nInt_eq, Int.natCast_zero, dLen_eL, sLen_eq])
    simp [iLe, h]
  · ((conv => whnf); simp only [St.mk.injEq, List.cons.injEq, Prod.mk.injEq, AV.c.injEq, AV.agg.injEq, AV.tup.injEq, CV.d.injEq, D.int.injEq, D.bool.injEq, D.str.injEq, D.sl.injEq, Ent.arr.injEq, Ent.box.injEq, true_and, and_true, and_self, nInt_eq, Int.natCast_zero, dLen_eL, sLen_eq])
    simp
    omega

theorem spec_l1In_spec (x lo hi : Int) : FnSpec PR f_spec_l1In [ai x, ai lo, ai hi] (ab (decide (lo ≤ x ∧ x ≤ hi))) [] 0 := by
  refine FnSpec.intro hT p_spec_l1In rfl (by kernel_rfl) n_spec_l1In rfl ?_
  conv => whnf
  refine ifB_i (fun h => ?_) (fun h => ?_) <;> (conv => whnf) <;> simp only [nInt_eq, Int.natCast_zero, dLen_eL, sLen_eq, nOf_eq, Int.toNat_natCast, nAdd_eq, nSub_eq, dLen_nil, dLen_cons, iLt_t, iLt_f, iLe_t, iLe_f, iEq_t, iEq_f, sEq_t, sEq_f, bNot_t, bNot_f, bAnd_t, bEq_t, bEq_f, Bool.not_eq_true, Bool.not_eq_false, Bool.true_eq_false, Bool.false_eq_true] at h
  · ((conv => whnf); simp only [St.mk.injEq, List.cons.injEq, Prod.mk.injEq, AV.c.injEq, AV.agg.injEq, AV.tup.injEq, CV.d.injEq, D.int.injEq, D.bool.injEq, D.str.injEq, D.sl.injEq, Ent.arr.injEq, Ent.box.injEq, true_and, and_true, and_self, nInt_eq, Int.natCast_zero, dLen_eL, sLen_eq])
    simp [iLe, h]
  · ((conv => whnf); simp only [St.mk.injEq, List.cons.injEq, Prod.mk.injEq, AV.c.injEq, AV.agg.injEq, AV.tup.injEq, CV.d.injEq, D.int.injEq, D.bool.injEq, D.str.injEq, D.sl.injEq, Ent.arr.injEq, Ent.box.injEq, true_and, and_true, and_self, nInt_eq, Int.natCast_zero, dLen_eL, sLen_eq])
    simp
    omega

theorem spec_l1Max_spec (x y : Int) : FnSpec PR f_spec_l1Max [ai x, ai y] (ai (max x y)) [] 0 := by
  refine FnSpec.intro hT p_spec_l1Max rfl (by kernel_rfl) n_spec_l1Max rfl ?_
  conv => whnf
  refine ifB_i (fun h => ?_) (fun h => ?_) <;> (conv => whnf) <;> simp only [nInt_eq, Int.natCast_zero, dLen_eL, sLen_eq, nOf_eq, Int.toNat_natCast, nAdd_eq, nSub_eq, dLen_nil, dLen_cons, iLt_t, iLt_f, iLe_t, iLe_f, iEq_t, iEq_f, sEq_t, sEq_f, bNot_t, bNot_f, bAnd_t, bEq_t, bEq_f, Bool.not_eq_true, Bool.not_eq_false, Bool.true_eq_false, Bool.false_eq_true] at h <;> ((conv => whnf); simp only [St.mk.injEq, List.cons.injEq, Prod.mk.injEq, AV.c.injEq, AV.agg.injEq, AV.tup.injEq, CV.d.injEq, D.int.injEq, D.bool.injEq, D.str.injEq, D.sl.injEq, Ent.arr.injEq, Ent.box.injEq, true_and, and_true, and_self, nInt_eq, Int.natCast_zero, dLen_eL, sLen_eq]) <;> omega
end Go.H.S
namespace Go.H.S
open Go Go.Proofs Go.H
attribute [local irreducible] Tri FnSpec FnSpecM
set_option maxRecDepth 100000
set_option linter.unusedSimpArgs false
set_option linter.unusedVariables false


/-- The first place, from k on, where p holds: -1: none. -/
def idxL {α : Type} (p : α → Bool) : List α → Nat → Int
  | [], _ => -1
  | x :: r, k => if p x then k else idxL p r (k + 1)
theorem idxL_lt {α : Type} (p : α → Bool) : ∀ (l : List α) (k : Nat), -1 ≤ idxL p l k ∧ (idxL p l k < (k + l.length : Nat)) ∧ (0 ≤ idxL p l k → (k : Int) ≤ idxL p l k)
  | [], k => by simp only [idxL, List.length_nil]; omega
  | x :: r, k => by
    simp only [idxL, List.length_cons]
    split
    · omega
    · have := idxL_lt p r (k + 1); omega
theorem idxL_mem (x : Int) : ∀ (l : List Int) (k : Nat), (0 ≤ idxL (fun y => decide (x = y)) l k) ↔ x ∈ l
  | [], k => by simp [idxL]
  | y :: r, k => by
    simp only [idxL, List.mem_cons]
    have ih := idxL_mem x r (k + 1)
    by_cases h : x = y
    · simp [h]
    · simp [h, ih]
def pUp (node : Int) (n : Nd) : Bool := decide (n.f ≠ -1) && (decide (n.l = node) || decide (n.r = node))
def up (t : List Nd) (node : Int) : Int := idxL (pUp node) t 0
theorem up_lt (t : List Nd) (node : Int) : -1 ≤ up t node ∧ up t node < t.length := by have := idxL_lt (pUp node) t 0; unfold up; omega
/-- The nodes from x upward, at most n of them. -/
def steps (t : List Nd) : Nat → Int → Option (List Int)
  | 0, _ => none
  | n + 1, x => (if up t x < 0 then some [] else steps t n (up t x)).map (x :: ·)
def wayL (t : List Nd) (node : Int) : List Int :=
  if 0 ≤ node ∧ node ≤ (t.length : Int) - 1 then (match steps t 32 node with | some l => l.reverse | none => []) else []
theorem steps_len (t : List Nd) : ∀ (n : Nat) (x : Int) (l : List Int), steps t n x = some l → l.length ≤ n
  | 0, x, l, h => by simp [steps] at h
  | n + 1, x, l, h => by
    simp only [steps, Option.map_eq_some_iff] at h
    obtain ⟨r, h1, rfl⟩ := h
    split at h1
    · cases h1; simp
    · have := steps_len t n _ r h1; simp; omega
theorem steps_lt (t : List Nd) : ∀ (n : Nat) (x : Int) (l : List Int), 0 ≤ x ∧ x < t.length → steps t n x = some l → ∀ y ∈ l, 0 ≤ y ∧ y < t.length
  | 0, x, l, hx, h => by simp [steps] at h
  | n + 1, x, l, hx, h => by
    simp only [steps, Option.map_eq_some_iff] at h
    obtain ⟨r, h1, rfl⟩ := h
    intro y hy
    rcases List.mem_cons.1 hy with rfl | hy
    · exact hx
    · split at h1
      · cases h1; cases hy
      · exact steps_lt t n _ r (by have := up_lt t x; omega) h1 y hy
theorem wayL_len (t : List Nd) (x : Int) : (wayL t x).length ≤ 32 := by
  unfold wayL
  split
  · split
    · rename_i l h; have := steps_len t 32 x l h; simpa using this
    · simp
  · simp


theorem spec_l17Up_spec (t : List Nd) (node : Int) (hl : t.length ≤ 9223372036854775807) : FnSpec PR f_spec_l17Up [aT t, ai node] (ai (up t node)) [] 0 := by
  refine FnSpec.intro hT p_spec_l17Up rfl (by kernel_rfl) n_spec_l17Up rfl ?_
  conv => whnf
  refine tri_loop hT [1, 2, 5] (α := Nat) (fun k => { t := [(1, ai node), (2, .c (.ptr 0 0)), (5, ai k)], h := [(0, .box t_impl_Tree (cTr t))], n := 1, N := 40 })
    (fun k => k ≤ t.length ∧ idxL (pUp node) (t.drop k) k = up t node) (fun k => t.length - k) 0 (by ((conv => whnf); simp only [St.mk.injEq, List.cons.injEq, Prod.mk.injEq, AV.c.injEq, AV.agg.injEq, AV.tup.injEq, CV.d.injEq, D.int.injEq, D.bool.injEq, D.str.injEq, D.sl.injEq, Ent.arr.injEq, Ent.box.injEq, true_and, and_true, and_self, nInt_eq, Int.natCast_zero, dLen_eL, sLen_eq])) ⟨Nat.zero_le _, rfl⟩ ?_
  intro k ⟨hk, hi⟩
  (conv => whnf)
  refine ifB_i (fun h1 => ?_) (fun h1 => ?_) <;> (conv => whnf) <;> simp at h1
  · obtain ⟨s, hs⟩ := get_lt h1
    rw [drop_at hs, idxL] at hi
    refine idx_at (by simp) hs ?_
    (conv => whnf)
    refine .inl ⟨_, _, _, spec_l17Inner_spec s, rfl, ?_⟩
    (conv => whnf)
    refine ifB_i (fun h2 => ?_) (fun h2 => ?_) <;> (conv => whnf)
    · refine idx_at (by simp) hs ?_
      (conv => whnf)
      refine ifB_i (fun h3 => ?_) (fun h3 => ?_) <;> (conv => whnf)
      · rw [if_pos (by simp_all [pUp, iEq, bNot])] at hi
        ((conv => whnf); simp only [St.mk.injEq, List.cons.injEq, Prod.mk.injEq, AV.c.injEq, AV.agg.injEq, AV.tup.injEq, CV.d.injEq, D.int.injEq, D.bool.injEq, D.str.injEq, D.sl.injEq, Ent.arr.injEq, Ent.box.injEq, true_and, and_true, and_self, nInt_eq, Int.natCast_zero, dLen_eL, sLen_eq, hi])
      · refine idx_at (by simp) hs ?_
        (conv => whnf)
        refine ifB_i (fun h4 => ?_) (fun h4 => ?_) <;> (conv => whnf)
        · rw [if_pos (by simp_all [pUp, iEq, bNot])] at hi
          ((conv => whnf); simp only [St.mk.injEq, List.cons.injEq, Prod.mk.injEq, AV.c.injEq, AV.agg.injEq, AV.tup.injEq, CV.d.injEq, D.int.injEq, D.bool.injEq, D.str.injEq, D.sl.injEq, Ent.arr.injEq, Ent.box.injEq, true_and, and_true, and_self, nInt_eq, Int.natCast_zero, dLen_eL, sLen_eq, hi])
        · rw [if_neg (by simp_all [pUp, iEq, bNot])] at hi
          refine ⟨k + 1, by omega, ⟨h1, hi⟩, ?_⟩
          ((conv => whnf); simp only [St.mk.injEq, List.cons.injEq, Prod.mk.injEq, AV.c.injEq, AV.agg.injEq, AV.tup.injEq, CV.d.injEq, D.int.injEq, D.bool.injEq, D.str.injEq, D.sl.injEq, Ent.arr.injEq, Ent.box.injEq, true_and, and_true, and_self, nInt_eq, Int.natCast_zero, dLen_eL, sLen_eq, wI h1 hl])
    · rw [if_neg (by simp_all [pUp, iEq, bNot])] at hi
      refine ⟨k + 1, by omega, ⟨h1, hi⟩, ?_⟩
      ((conv => whnf); simp only [St.mk.injEq, List.cons.injEq, Prod.mk.injEq, AV.c.injEq, AV.agg.injEq, AV.tup.injEq, CV.d.injEq, D.int.injEq, D.bool.injEq, D.str.injEq, D.sl.injEq, Ent.arr.injEq, Ent.box.injEq, true_and, and_true, and_self, nInt_eq, Int.natCast_zero, dLen_eL, sLen_eq, wI h1 hl])
  · obtain rfl : k = t.length := by omega
    simp only [List.drop_length, idxL] at hi
    ((conv => whnf); simp only [St.mk.injEq, List.cons.injEq, Prod.mk.injEq, AV.c.injEq, AV.agg.injEq, AV.tup.injEq, CV.d.injEq, D.int.injEq, D.bool.injEq, D.str.injEq, D.sl.injEq, Ent.arr.injEq, Ent.box.injEq, true_and, and_true, and_self, nInt_eq, Int.natCast_zero, dLen_eL, sLen_eq, ← hi])

theorem impl_parent_1_spec (n : Nd) (node : Int) : FnSpec PR f_impl_parent_1 [aN n, .c (.d (.rp [.int .i64 node]))] (ab (pUp node n)) [] 0 := by
  refine FnSpec.intro hT p_impl_parent_1 rfl (by kernel_rfl) n_impl_parent_1 rfl ?_
  conv => whnf
  refine .inl ⟨_, _, _, impl_isLeaf_spec n, rfl, ?_⟩
  (conv => whnf)
  refine ifB_i (fun h1 => ?_) (fun h1 => ?_) <;> (conv => whnf)
  · refine ifB_i (fun h2 => ?_) (fun h2 => ?_) <;> (conv => whnf) <;> ((conv => whnf); simp only [St.mk.injEq, List.cons.injEq, Prod.mk.injEq, AV.c.injEq, AV.agg.injEq, AV.tup.injEq, CV.d.injEq, D.int.injEq, D.bool.injEq, D.str.injEq, D.sl.injEq, Ent.arr.injEq, Ent.box.injEq, true_and, and_true, and_self, nInt_eq, Int.natCast_zero, dLen_eL, sLen_eq]) <;> simp_all [pUp, iEq, bNot]
  · ((conv => whnf); simp only [St.mk.injEq, List.cons.injEq, Prod.mk.injEq, AV.c.injEq, AV.agg.injEq, AV.tup.injEq, CV.d.injEq, D.int.injEq, D.bool.injEq, D.str.injEq, D.sl.injEq, Ent.arr.injEq, Ent.box.injEq, true_and, and_true, and_self, nInt_eq, Int.natCast_zero, dLen_eL, sLen_eq])
    simp_all [pUp, iEq, bNot]

theorem slices_IndexFunc_Node_spec (t : List Nd) (g : FuncId) (d : D) (p : Nd → Bool) (hp : ∀ n, FnSpec PR g [aN n, .c (.d d)] (ab (p n)) [] 0) (hl : t.length ≤ 9223372036854775807) :
    FnSpec PR f_slices_IndexFunc_Limpl_Node_impl_Node [aNs t, .c (.d (.fn g [d]))] (ai (idxL p t 0)) [] 0 := by
  refine FnSpec.intro hT p_slices_IndexFunc_Limpl_Node_impl_Node rfl (by kernel_rfl) n_slices_IndexFunc_Limpl_Node_impl_Node rfl ?_
  conv => whnf
  refine tri_loop hT [0, 1, 7, 8] (α := Nat) (fun k => { t := [(0, aNs t), (1, .c (.d (.fn g [d]))), (7, ai t.length), (8, ai k)], h := [], n := 0, N := 19 })
    (fun k => k ≤ t.length ∧ idxL p (t.drop k) k = idxL p t 0) (fun k => t.length - k) 0 (by ((conv => whnf); simp only [St.mk.injEq, List.cons.injEq, Prod.mk.injEq, AV.c.injEq, AV.agg.injEq, AV.tup.injEq, CV.d.injEq, D.int.injEq, D.bool.injEq, D.str.injEq, D.sl.injEq, Ent.arr.injEq, Ent.box.injEq, true_and, and_true, and_self, nInt_eq, Int.natCast_zero, dLen_eL, sLen_eq])) ⟨Nat.zero_le _, rfl⟩ ?_
  intro k ⟨hk, hi⟩
  (conv => whnf)
  refine ifB_i (fun h1 => ?_) (fun h1 => ?_) <;> (conv => whnf) <;> simp at h1
  · obtain ⟨s, hs⟩ := get_lt h1
    rw [drop_at hs, idxL] at hi
    refine idx_at (by simp) hs ?_
    (conv => whnf)
    refine .inl ⟨_, _, _, hp s, rfl, ?_⟩
    (conv => whnf)
    refine ifB_i (fun h2 => ?_) (fun h2 => ?_) <;> (conv => whnf)
    · rw [if_pos h2] at hi
      ((conv => whnf); simp only [St.mk.injEq, List.cons.injEq, Prod.mk.injEq, AV.c.injEq, AV.agg.injEq, AV.tup.injEq, CV.d.injEq, D.int.injEq, D.bool.injEq, D.str.injEq, D.sl.injEq, Ent.arr.injEq, Ent.box.injEq, true_and, and_true, and_self, nInt_eq, Int.natCast_zero, dLen_eL, sLen_eq, hi])
    · rw [if_neg (by simp [h2])] at hi
      refine ⟨k + 1, by omega, ⟨h1, hi⟩, ?_⟩
      ((conv => whnf); simp only [St.mk.injEq, List.cons.injEq, Prod.mk.injEq, AV.c.injEq, AV.agg.injEq, AV.tup.injEq, CV.d.injEq, D.int.injEq, D.bool.injEq, D.str.injEq, D.sl.injEq, Ent.arr.injEq, Ent.box.injEq, true_and, and_true, and_self, nInt_eq, Int.natCast_zero, dLen_eL, sLen_eq, wI h1 hl])
  · obtain rfl : k = t.length := by omega
    simp only [List.drop_length, idxL] at hi
    ((conv => whnf); simp only [St.mk.injEq, List.cons.injEq, Prod.mk.injEq, AV.c.injEq, AV.agg.injEq, AV.tup.injEq, CV.d.injEq, D.int.injEq, D.bool.injEq, D.str.injEq, D.sl.injEq, Ent.arr.injEq, Ent.box.injEq, true_and, and_true, and_self, nInt_eq, Int.natCast_zero, dLen_eL, sLen_eq, ← hi])

theorem impl_parent_spec (t : List Nd) (node : Int) (hl : t.length ≤ 9223372036854775807) : FnSpec PR f_impl_parent [aT t, ai node] (ai (up t node)) [] 0 := by
  refine FnSpec.intro hT p_impl_parent rfl (by kernel_rfl) n_impl_parent rfl ?_
  conv => whnf
  refine .inr (.inl ⟨_, _, _, slices_IndexFunc_Node_spec t f_impl_parent_1 (.rp [.int .i64 node]) (pUp node) (fun n => impl_parent_1_spec n node) hl, rfl, trivial, ?_⟩)
  (conv => whnf)
  rfl

def lvl (t : List Nd) (n : Nat) (x : Int) (k : Int) : Int := match steps t n x with | some l => (l.length : Int) - 1 + k | none => -1
def levelL (t : List Nd) (node : Int) : Int := if 0 ≤ node ∧ node ≤ (t.length : Int) - 1 then lvl t 32 node 0 else -1
theorem lvl_lt {t : List Nd} {n : Nat} {x : Int} (k : Int) (h : up t x < 0) : lvl t (n + 1) x k = k := by simp [lvl, steps, h]
theorem lvl_ge {t : List Nd} {n : Nat} {x : Int} (k : Int) (h : ¬ up t x < 0) : lvl t (n + 1) x k = lvl t n (up t x) (k + 1) := by
  simp only [lvl, steps, if_neg h]
  cases steps t n (up t x) with
  | none => rfl
  | some l => simp only [Option.map_some, List.length_cons]; omega
theorem spec_LevelOf_spec (t : List Nd) (node : Int) (hl : t.length ≤ 9223372036854775807) : FnSpec PR f_spec_LevelOf [aT t, ai node] (ai (levelL t node)) [] 0 := by
  have e : wSub .i64 t.length 1 = (t.length : Int) - 1 := wSub64 (by omega) (by omega)
  refine FnSpec.intro hT p_spec_LevelOf rfl (by kernel_rfl) n_spec_LevelOf rfl ?_
  conv => whnf
  refine .inl ⟨_, _, _, spec_l1In_spec _ _ _, rfl, ?_⟩
  (conv => whnf)
  refine ifB_i (fun h1 => ?_) (fun h1 => ?_) <;> (conv => whnf) <;> simp only [nInt_eq, Int.natCast_zero, dLen_eL, sLen_eq, nOf_eq, Int.toNat_natCast, nAdd_eq, nSub_eq, dLen_nil, dLen_cons, iLt_t, iLt_f, iLe_t, iLe_f, iEq_t, iEq_f, sEq_t, sEq_f, bNot_t, bNot_f, bAnd_t, bEq_t, bEq_f, Bool.not_eq_true, Bool.not_eq_false, Bool.true_eq_false, Bool.false_eq_true, e, decide_eq_true_eq, decide_eq_false_iff_not] at h1
  · rw [levelL, if_neg h1]
  rw [levelL, if_pos h1]
  refine tri_loop hT [1, 2, 5] (α := Nat × Int) (fun x => { t := [(1, ai x.2), (2, .c (.ptr 0 0)), (5, ai x.1)], h := [(0, .box t_impl_Tree (cTr t))], n := 1, N := 23 })
    (fun x => x.1 ≤ 32 ∧ lvl t (32 - x.1) x.2 x.1 = lvl t 32 node 0) (fun x => 32 - x.1) (0, node) (by ((conv => whnf); simp only [St.mk.injEq, List.cons.injEq, Prod.mk.injEq, AV.c.injEq, AV.agg.injEq, AV.tup.injEq, CV.d.injEq, D.int.injEq, D.bool.injEq, D.str.injEq, D.sl.injEq, Ent.arr.injEq, Ent.box.injEq, true_and, and_true, and_self, nInt_eq, Int.natCast_zero, dLen_eL, sLen_eq])) ⟨by omega, rfl⟩ ?_
  intro ⟨k, x⟩ ⟨hk, hi⟩
  dsimp only at hk hi
  (conv => whnf)
  refine ifB_i (fun h2 => ?_) (fun h2 => ?_) <;> (conv => whnf) <;> simp only [nInt_eq, Int.natCast_zero, dLen_eL, sLen_eq, nOf_eq, Int.toNat_natCast, nAdd_eq, nSub_eq, dLen_nil, dLen_cons, iLt_t, iLt_f, iLe_t, iLe_f, iEq_t, iEq_f, sEq_t, sEq_f, bNot_t, bNot_f, bAnd_t, bEq_t, bEq_f, Bool.not_eq_true, Bool.not_eq_false, Bool.true_eq_false, Bool.false_eq_true] at h2
  · refine .inl ⟨_, _, _, spec_l17Up_spec t x hl, rfl, ?_⟩
    (conv => whnf)
    rw [show 32 - k = (31 - k) + 1 by omega] at hi
    refine ifB_i (fun h3 => ?_) (fun h3 => ?_) <;> (conv => whnf) <;> simp only [nInt_eq, Int.natCast_zero, dLen_eL, sLen_eq, nOf_eq, Int.toNat_natCast, nAdd_eq, nSub_eq, dLen_nil, dLen_cons, iLt_t, iLt_f, iLe_t, iLe_f, iEq_t, iEq_f, sEq_t, sEq_f, bNot_t, bNot_f, bAnd_t, bEq_t, bEq_f, Bool.not_eq_true, Bool.not_eq_false, Bool.true_eq_false, Bool.false_eq_true] at h3
    · rw [lvl_lt _ h3] at hi
      ((conv => whnf); simp only [St.mk.injEq, List.cons.injEq, Prod.mk.injEq, AV.c.injEq, AV.agg.injEq, AV.tup.injEq, CV.d.injEq, D.int.injEq, D.bool.injEq, D.str.injEq, D.sl.injEq, Ent.arr.injEq, Ent.box.injEq, true_and, and_true, and_self, nInt_eq, Int.natCast_zero, dLen_eL, sLen_eq, ← hi])
    · rw [lvl_ge _ (by omega)] at hi
      refine ⟨(k + 1, up t x), by dsimp only; omega, ⟨by dsimp only; omega, ?_⟩, ?_⟩
      · dsimp only
        rw [← hi, show 32 - (k + 1) = 31 - k by omega, Int.natCast_add]
        rfl
      · ((conv => whnf); simp only [St.mk.injEq, List.cons.injEq, Prod.mk.injEq, AV.c.injEq, AV.agg.injEq, AV.tup.injEq, CV.d.injEq, D.int.injEq, D.bool.injEq, D.str.injEq, D.sl.injEq, Ent.arr.injEq, Ent.box.injEq, true_and, and_true, and_self, nInt_eq, Int.natCast_zero, dLen_eL, sLen_eq, wI (show k < 33 by omega) (by omega)])
  · obtain rfl : k = 32 := by omega
    have hi' : lvl t 0 x 32 = lvl t 32 node 0 := hi
    rw [← hi']
    ((conv => whnf); simp only [St.mk.injEq, List.cons.injEq, Prod.mk.injEq, AV.c.injEq, AV.agg.injEq, AV.tup.injEq, CV.d.injEq, D.int.injEq, D.bool.injEq, D.str.injEq, D.sl.injEq, Ent.arr.injEq, Ent.box.injEq, true_and, and_true, and_self, nInt_eq, Int.natCast_zero, dLen_eL, sLen_eq, lvl, steps])

/-- What Reverse has done with the ends of a list. -/
def revK (l : List Int) (i : Nat) : List Int := (l.reverse.take i) ++ ((l.drop i).take (l.length - 2 * i)) ++ l.reverse.drop (l.length - i)
theorem revK_len (l : List Int) (i : Nat) (h : 2 * i ≤ l.length) : (revK l i).length = l.length := by simp [revK]; omega
theorem revK_get (l : List Int) (i k : Nat) (h : 2 * i ≤ l.length) : (revK l i)[k]? = if k < i ∨ (l.length - i ≤ k ∧ k < l.length) then l.reverse[k]? else l[k]? := by
  simp only [revK]
  by_cases h1 : k < i
  · rw [if_pos (.inl h1), List.append_assoc, List.getElem?_append_left (by simp; omega), List.getElem?_take, if_pos h1]
  · by_cases h2 : k < l.length - i
    · rw [if_neg (by omega), List.getElem?_append_left (by simp; omega), List.getElem?_append_right (by simp; omega), List.getElem?_take, List.getElem?_drop]
      simp only [List.length_take, List.length_reverse]
      rw [Nat.min_eq_left (by omega), if_pos (by omega), show i + (k - i) = k by omega]
    · rw [List.getElem?_append_right (by simp; omega)]
      simp only [List.length_append, List.length_take, List.length_reverse, List.length_drop, List.getElem?_drop]
      by_cases h3 : k < l.length
      · rw [if_pos (by omega)]
        congr 1; omega
      · have e1 : l[k]? = none := List.getElem?_eq_none (by omega)
        rw [if_neg (by omega), e1]
        apply List.getElem?_eq_none
        simp only [List.length_reverse]
        omega
theorem revK_end (l : List Int) (i : Nat) (h : l.length ≤ 2 * i + 1) (h2 : 2 * i ≤ l.length) : revK l i = l.reverse := by
  apply List.ext_getElem?
  intro k
  rw [revK_get l i k h2]
  split
  · rfl
  · rename_i hn
    by_cases hk : k < l.length
    · have : l.length = 2 * i + 1 ∧ k = i := by omega
      rw [List.getElem?_reverse (by omega)]
      congr 1; omega
    · rw [List.getElem?_eq_none (by omega), List.getElem?_eq_none (by simp; omega)]
theorem revK_step (l : List Int) (i : Nat) (a b : Int) (h : 2 * i + 1 < l.length) (ha : (revK l i)[i]? = some a) (hb : (revK l i)[l.length - 1 - i]? = some b) :
    ((revK l i).set i b).set (l.length - 1 - i) a = revK l (i + 1) := by
  rw [revK_get l i _ (by omega)] at ha hb
  rw [if_neg (by omega)] at ha hb
  apply List.ext_getElem?
  intro k
  rw [List.getElem?_set, List.getElem?_set, revK_get l i k (by omega), revK_get l (i + 1) k (by omega)]
  simp only [List.length_set, revK_len l i (by omega)]
  by_cases h1 : l.length - 1 - i = k
  · subst h1
    rw [if_pos rfl, if_pos (by omega), if_pos (by omega), List.getElem?_reverse (by omega), show l.length - 1 - (l.length - 1 - i) = i by omega, ha]
  · rw [if_neg h1]
    by_cases h2 : i = k
    · subst h2
      rw [if_pos rfl, if_pos (by omega), if_pos (by omega), List.getElem?_reverse (by omega), hb]
    · rw [if_neg h2]
      by_cases h3 : k < i ∨ l.length - i ≤ k ∧ k < l.length
      · rw [if_pos h3, if_pos (by omega)]
      · rw [if_neg h3, if_neg (by omega)]
theorem revK_zero (l : List Int) : revK l 0 = l := by simp [revK]
theorem slices_Reverse_spec (l : List Int) (hl : l.length ≤ 1048576) : FnSpecM PR f_slices_Reverse_Lint_int [.c (.ref 0 0 none)] t_int 1 (eL cI l) (.tup []) (eL cI l.reverse) := by
  refine FnSpecM.intro hT 0 p_slices_Reverse_Lint_int rfl (by kernel_rfl) n_slices_Reverse_Lint_int rfl rfl (by simp [eL_length]) rfl (flat_cI _) ?_
  intro v0
  (conv => whnf)
  have e : wSub .i64 l.length 1 = (l.length : Int) - 1 := wSub64 (by omega) (by omega)
  refine tri_loop hT [0, 2, 3] (α := Nat) (fun i => { t := [(0, .w (.ref 0 0 none) v0), (2, ai i), (3, ai ((l.length : Int) - 1 - i))], h := [(0, .arr t_int 1 0 .own (eL cI (revK l i)))], n := 1, N := 28 })
    (fun i => 2 * i ≤ l.length) (fun i => l.length - i) 0 (by ((conv => whnf); simp only [St.mk.injEq, List.cons.injEq, Prod.mk.injEq, AV.c.injEq, AV.agg.injEq, AV.tup.injEq, CV.d.injEq, D.int.injEq, D.bool.injEq, D.str.injEq, D.sl.injEq, Ent.arr.injEq, Ent.box.injEq, true_and, and_true, and_self, nInt_eq, Int.natCast_zero, dLen_eL, sLen_eq, e, revK_zero, Int.sub_zero, lenRE_none])) (by omega) ?_
  intro i hi
  (conv => whnf)
  refine ifB_i (fun h1 => ?_) (fun h1 => ?_) <;> (conv => whnf) <;> simp only [nInt_eq, Int.natCast_zero, dLen_eL, sLen_eq, nOf_eq, Int.toNat_natCast, nAdd_eq, nSub_eq, dLen_nil, dLen_cons, iLt_t, iLt_f, iLe_t, iLe_f, iEq_t, iEq_f, sEq_t, sEq_f, bNot_t, bNot_f, bAnd_t, bEq_t, bEq_f, Bool.not_eq_true, Bool.not_eq_false, Bool.true_eq_false, Bool.false_eq_true] at h1
  · have hlen := revK_len l i hi
    obtain ⟨a, ha⟩ := get_lt (l := revK l i) (k := i) (by omega)
    obtain ⟨b, hb⟩ := get_lt (l := revK l i) (k := l.length - 1 - i) (by omega)
    have ej : (l.length : Int) - 1 - i = ((l.length - 1 - i : Nat) : Int) := by omega
    rw [ej]
    refine tri_each hT hmix [0, 2, 3] { t := [(0, .w (.ref 0 0 none) v0), (2, ai i), (3, ai ((l.length - 1 - i : Nat) : Int))], h := [(0, .arr t_int 1 0 .own (eL cI (revK l (i + 1))))], n := 1, N := 28 } rfl ?_ ?_
    · have hb2 : ((revK l i).set i b)[l.length - 1 - i]? = some b := by rw [List.getElem?_set_ne (by omega)]; exact hb
      have hst := revK_step l i a b (by omega) ha hb
      have ki : nAdd (offR none) (nOf (i : Int)) = i := by simp
      have kj : nAdd (offR none) (nOf ((l.length - 1 - i : Nat) : Int)) = l.length - 1 - i := by simp
      (conv => whnf)
      repeat' first
        | (refine ref_at rfl (by simp; omega) ?_; (conv => whnf))
        | (refine ld_at ki ha ?_; (conv => whnf))
        | (refine ld_at kj hb ?_; (conv => whnf))
        | (refine st_at ki ha (Nat.le_refl 1) ?_; simp only [cI_set, offR_none, nAdd_eq, nOf_eq, Int.toNat_natCast, Nat.zero_add]; (conv => whnf))
        | (refine st_at kj hb2 (Nat.le_refl 1) ?_; simp only [cI_set, offR_none, nAdd_eq, nOf_eq, Int.toNat_natCast, Nat.zero_add]; (conv => whnf))
        | (refine And.intro ?_ ?_ <;> (conv => whnf))
        | (((conv => whnf); simp only [St.mk.injEq, List.cons.injEq, Prod.mk.injEq, AV.c.injEq, AV.agg.injEq, AV.tup.injEq, CV.d.injEq, D.int.injEq, D.bool.injEq, D.str.injEq, D.sl.injEq, Ent.arr.injEq, Ent.box.injEq, true_and, and_true, and_self, nInt_eq, Int.natCast_zero, dLen_eL, sLen_eq, hst]); done)
        | (rw [hst]; done)
    · (conv => whnf)
      refine ⟨i + 1, by omega, by omega, ?_⟩
      ((conv => whnf); simp only [St.mk.injEq, List.cons.injEq, Prod.mk.injEq, AV.c.injEq, AV.agg.injEq, AV.tup.injEq, CV.d.injEq, D.int.injEq, D.bool.injEq, D.str.injEq, D.sl.injEq, Ent.arr.injEq, Ent.box.injEq, true_and, and_true, and_self, nInt_eq, Int.natCast_zero, dLen_eL, sLen_eq, wI (show i < l.length by omega) (by omega), wSub64 (show -9223372036854775808 ≤ ((l.length - 1 - i : Nat) : Int) - 1 by omega) (by omega)])
      omega
  · ((conv => whnf); simp only [St.mk.injEq, List.cons.injEq, Prod.mk.injEq, AV.c.injEq, AV.agg.injEq, AV.tup.injEq, CV.d.injEq, D.int.injEq, D.bool.injEq, D.str.injEq, D.sl.injEq, Ent.arr.injEq, Ent.box.injEq, true_and, and_true, and_self, nInt_eq, Int.natCast_zero, dLen_eL, sLen_eq, revK_end l i (by omega) hi])
end Go.H.S
namespace Go.H.S
open Go Go.Proofs Go.H
attribute [local irreducible] Tri FnSpec FnSpecM
set_option maxRecDepth 100000
set_option linter.unusedSimpArgs false
set_option linter.unusedVariables false


theorem spec_WayTo_spec (t : List Nd) (node : Int) (hl : t.length ≤ 9223372036854775807) : FnSpec PR f_spec_WayTo [aT t, ai node] (.c (.ref 0 0 none)) [(0, .arr t_int 1 0 .own (eL cI (wayL t node)))] 1 := by
  refine FnSpec.intro hT p_spec_WayTo rfl (by kernel_rfl) n_spec_WayTo rfl ?_
  conv => whnf
  refine .inl ⟨_, _, _, spec_LevelOf_spec t node hl, rfl, ?_⟩
  (conv => whnf)
  refine ifB_i (fun h1 => ?_) (fun h1 => ?_) <;> (conv => whnf) <;> simp only [nInt_eq, Int.natCast_zero, dLen_eL, sLen_eq, nOf_eq, Int.toNat_natCast, nAdd_eq, nSub_eq, dLen_nil, dLen_cons, iLt_t, iLt_f, iLe_t, iLe_f, iEq_t, iEq_f, sEq_t, sEq_f, bNot_t, bNot_f, bAnd_t, bEq_t, bEq_f, Bool.not_eq_true, Bool.not_eq_false, Bool.true_eq_false, Bool.false_eq_true] at h1
  · have : wayL t node = [] := by
      unfold levelL lvl at h1
      unfold wayL
      split at h1
      · rename_i hn
        split at h1
        · rename_i l hs
          cases l with
          | nil =>
            have : steps t 32 node = some [] := hs
            simp [steps] at this
          | cons x r => simp at h1; omega
        · rename_i hs
          have : steps t 32 node = none := hs
          simp [hn, this]
      · rename_i hn; rw [if_neg hn]
    rw [this]
    ((conv => whnf); simp only [St.mk.injEq, List.cons.injEq, Prod.mk.injEq, AV.c.injEq, AV.agg.injEq, AV.tup.injEq, CV.d.injEq, D.int.injEq, D.bool.injEq, D.str.injEq, D.sl.injEq, Ent.arr.injEq, Ent.box.injEq, true_and, and_true, and_self, nInt_eq, Int.natCast_zero, dLen_eL, sLen_eq, eL_nil])
  · obtain ⟨hn, l, hs⟩ : (0 ≤ node ∧ node ≤ (t.length : Int) - 1) ∧ ∃ l, steps t 32 node = some l := by
      unfold levelL lvl at h1
      split at h1
      · rename_i hn
        split at h1
        · rename_i l hs; exact ⟨hn, l, hs⟩
        · omega
      · omega
    have hway : wayL t node = l.reverse := by unfold wayL; rw [if_pos hn, hs]
    have hlen := steps_len t 32 node l hs
    refine tri_loop hT [1, 2, 5] (α := Int × List Int × List Int) (fun x => { t := [(1, ai x.1), (2, .c (.ptr 0 0)), (5, .c (.ref 1 0 none))], h := [(0, .box t_impl_Tree (cTr t)), (1, .arr t_int 1 0 .own (eL cI x.2.1))], n := 2, N := 22 })
      (fun x => x.2.2.reverse ++ x.2.1 = l.reverse ∧ ((x.1 < 0 ∧ x.2.2 = []) ∨ (0 ≤ x.1 ∧ ∃ k, steps t k x.1 = some x.2.2))) (fun x => x.2.2.length) (node, [], l) (by ((conv => whnf); simp only [St.mk.injEq, List.cons.injEq, Prod.mk.injEq, AV.c.injEq, AV.agg.injEq, AV.tup.injEq, CV.d.injEq, D.int.injEq, D.bool.injEq, D.str.injEq, D.sl.injEq, Ent.arr.injEq, Ent.box.injEq, true_and, and_true, and_self, nInt_eq, Int.natCast_zero, dLen_eL, sLen_eq, eL_nil])) ⟨by simp, .inr ⟨hn.1, 32, hs⟩⟩ ?_
    intro ⟨x, out, rem⟩ ⟨h2, h3⟩
    dsimp only at h2 h3
    have hol : out.length ≤ 32 := by
      have := congrArg List.length h2
      simp at this; omega
    (conv => whnf)
    refine ifB_i (fun h4 => ?_) (fun h4 => ?_) <;> (conv => whnf) <;> simp only [nInt_eq, Int.natCast_zero, dLen_eL, sLen_eq, nOf_eq, Int.toNat_natCast, nAdd_eq, nSub_eq, dLen_nil, dLen_cons, iLt_t, iLt_f, iLe_t, iLe_f, iEq_t, iEq_f, sEq_t, sEq_f, bNot_t, bNot_f, bAnd_t, bEq_t, bEq_f, Bool.not_eq_true, Bool.not_eq_false, Bool.true_eq_false, Bool.false_eq_true] at h4
    · rcases h3 with ⟨h3, _⟩ | ⟨_, k, h3⟩
      · omega
      refine ⟨by simp [eL_length, dLen_len]; omega, ?_⟩
      (conv => whnf)
      refine .inl ⟨_, _, _, spec_l17Up_spec t x hl, rfl, ?_⟩
      (conv => whnf)
      cases k with
      | zero => simp [steps] at h3
      | succ k =>
        simp only [steps, Option.map_eq_some_iff] at h3
        obtain ⟨r, h5, rfl⟩ := h3
        refine ⟨(up t x, x :: out, r), by simp, ⟨by rw [← h2]; simp, ?_⟩, ?_⟩
        · by_cases hu : up t x < 0
          · rw [if_pos hu] at h5; cases h5; exact .inl ⟨hu, rfl⟩
          · rw [if_neg hu] at h5; exact .inr ⟨by dsimp only; omega, k, h5⟩
        · ((conv => whnf); simp only [St.mk.injEq, List.cons.injEq, Prod.mk.injEq, AV.c.injEq, AV.agg.injEq, AV.tup.injEq, CV.d.injEq, D.int.injEq, D.bool.injEq, D.str.injEq, D.sl.injEq, Ent.arr.injEq, Ent.box.injEq, true_and, and_true, and_self, nInt_eq, Int.natCast_zero, dLen_eL, sLen_eq, partOf_none, eL_cons, dApp_cons, dApp_nil, cI])
    · rcases h3 with ⟨_, h3⟩ | ⟨h3, _⟩
      · subst h3
        simp at h2
        rw [hway, ← h2]
      · omega

theorem impl_wayTo_spec (t : List Nd) (node : Int) (hl : t.length ≤ 9223372036854775807) : FnSpec PR f_impl_wayTo [aT t, ai node] (.c (.ref 0 0 none)) [(0, .arr t_int 1 0 .own (eL cI (wayL t node)))] 1 := by
  have e : wSub .i64 t.length 1 = (t.length : Int) - 1 := wSub64 (by omega) (by omega)
  refine FnSpec.intro hT p_impl_wayTo rfl (by kernel_rfl) n_impl_wayTo rfl ?_
  conv => whnf
  refine .inl ⟨_, _, _, impl_within_spec _ _ _, rfl, ?_⟩
  (conv => whnf)
  refine ifB_i (fun h1 => ?_) (fun h1 => ?_) <;> (conv => whnf) <;> simp only [nInt_eq, Int.natCast_zero, dLen_eL, sLen_eq, nOf_eq, Int.toNat_natCast, nAdd_eq, nSub_eq, dLen_nil, dLen_cons, iLt_t, iLt_f, iLe_t, iLe_f, iEq_t, iEq_f, sEq_t, sEq_f, bNot_t, bNot_f, bAnd_t, bEq_t, bEq_f, Bool.not_eq_true, Bool.not_eq_false, Bool.true_eq_false, Bool.false_eq_true, e, decide_eq_true_eq, decide_eq_false_iff_not] at h1
  · have : wayL t node = [] := by unfold wayL; rw [if_neg h1]
    rw [this]
    ((conv => whnf); simp only [St.mk.injEq, List.cons.injEq, Prod.mk.injEq, AV.c.injEq, AV.agg.injEq, AV.tup.injEq, CV.d.injEq, D.int.injEq, D.bool.injEq, D.str.injEq, D.sl.injEq, Ent.arr.injEq, Ent.box.injEq, true_and, and_true, and_self, nInt_eq, Int.natCast_zero, dLen_eL, sLen_eq, eL_nil])
  refine .inl ⟨_, _, _, impl_parent_spec t node hl, rfl, ?_⟩
  (conv => whnf)
  refine tri_loop hT [2, 5, 6] (α := Int × List Int) (fun x => { t := [(2, .c (.ptr 0 0)), (5, .c (.ref 1 0 none)), (6, ai x.1)], h := [(0, .box t_impl_Tree (cTr t)), (1, .arr t_int 1 0 .own (eL cI x.2))], n := 2, N := 34 })
    (fun x => 1 ≤ x.2.length ∧ x.2.length ≤ 32 ∧ steps t 32 node = (if x.1 < 0 then some [] else steps t (32 - x.2.length) x.1).map (x.2 ++ ·)) (fun x => 33 - x.2.length) (up t node, [node]) (by ((conv => whnf); simp only [St.mk.injEq, List.cons.injEq, Prod.mk.injEq, AV.c.injEq, AV.agg.injEq, AV.tup.injEq, CV.d.injEq, D.int.injEq, D.bool.injEq, D.str.injEq, D.sl.injEq, Ent.arr.injEq, Ent.box.injEq, true_and, and_true, and_self, nInt_eq, Int.natCast_zero, dLen_eL, sLen_eq, eL_nil, eL_cons, cI])) ⟨by simp, by simp, rfl⟩ ?_
  intro ⟨x, out⟩ ⟨h2, h3, h4⟩
  dsimp only at h2 h3 h4
  (conv => whnf)
  refine ifB_i (fun h5 => ?_) (fun h5 => ?_) <;> (conv => whnf) <;> simp only [nInt_eq, Int.natCast_zero, dLen_eL, sLen_eq, nOf_eq, Int.toNat_natCast, nAdd_eq, nSub_eq, dLen_nil, dLen_cons, iLt_t, iLt_f, iLe_t, iLe_f, iEq_t, iEq_f, sEq_t, sEq_f, bNot_t, bNot_f, bAnd_t, bEq_t, bEq_f, Bool.not_eq_true, Bool.not_eq_false, Bool.true_eq_false, Bool.false_eq_true] at h5
  · rw [if_neg (by omega)] at h4
    refine ifB_i (fun h6 => ?_) (fun h6 => ?_) <;> (conv => whnf) <;> simp only [nInt_eq, Int.natCast_zero, dLen_eL, sLen_eq, nOf_eq, Int.toNat_natCast, nAdd_eq, nSub_eq, dLen_nil, dLen_cons, iLt_t, iLt_f, iLe_t, iLe_f, iEq_t, iEq_f, sEq_t, sEq_f, bNot_t, bNot_f, bAnd_t, bEq_t, bEq_f, Bool.not_eq_true, Bool.not_eq_false, Bool.true_eq_false, Bool.false_eq_true, lenRE_none] at h6
    · have : out.length = 32 := by omega
      rw [this] at h4
      have h4 : steps t 32 node = none := h4
      have : wayL t node = [] := by unfold wayL; rw [if_pos h1]; rw [h4]
      rw [this]
      ((conv => whnf); simp only [St.mk.injEq, List.cons.injEq, Prod.mk.injEq, AV.c.injEq, AV.agg.injEq, AV.tup.injEq, CV.d.injEq, D.int.injEq, D.bool.injEq, D.str.injEq, D.sl.injEq, Ent.arr.injEq, Ent.box.injEq, true_and, and_true, and_self, nInt_eq, Int.natCast_zero, dLen_eL, sLen_eq, eL_nil])
    · refine ⟨by simp [eL_length, dLen_len]; omega, ?_⟩
      (conv => whnf)
      refine .inl ⟨_, _, _, impl_parent_spec t x hl, rfl, ?_⟩
      (conv => whnf)
      have hst : steps t (32 - out.length) x = (if up t x < 0 then some [] else steps t (31 - out.length) (up t x)).map (x :: ·) := by rw [show 32 - out.length = (31 - out.length) + 1 by omega, steps]
      rw [hst] at h4
      refine ⟨(up t x, out ++ [x]), by simp; omega, ⟨by simp, by simp; omega, ?_⟩, ?_⟩
      · dsimp only
        rw [h4, Option.map_map]
        simp only [List.length_append, List.length_cons, List.length_nil]
        rw [show 32 - (out.length + (0 + 1)) = 31 - out.length by omega]
        congr 1
        funext y
        simp
      · ((conv => whnf); simp only [St.mk.injEq, List.cons.injEq, Prod.mk.injEq, AV.c.injEq, AV.agg.injEq, AV.tup.injEq, CV.d.injEq, D.int.injEq, D.bool.injEq, D.str.injEq, D.sl.injEq, Ent.arr.injEq, Ent.box.injEq, true_and, and_true, and_self, nInt_eq, Int.natCast_zero, dLen_eL, sLen_eq, partOf_none])
        rw [← eL_app]
        rfl
  · rw [if_pos h5] at h4
    simp at h4
    have hway : wayL t node = out.reverse := by unfold wayL; rw [if_pos h1, h4]
    refine .inr (.inr (.inl ⟨1, ?_⟩))
    (conv => whnf)
    refine .inl ⟨_, _, slices_Reverse_spec out (by omega), ?_⟩
    (conv => whnf)
    rw [hway]

def leavesK (t : List Nd) (k : Nat) : List Int :=
  match t with
  | [] => []
  | n :: r => if n.f = -1 then (k : Int) :: leavesK r (k + 1) else leavesK r (k + 1)
theorem leavesK_lt : ∀ (t : List Nd) (k : Nat) (x : Int), x ∈ leavesK t k → (k : Int) ≤ x ∧ x < (k + t.length : Nat)
  | [], k, x, h => by simp [leavesK] at h
  | n :: r, k, x, h => by
    simp only [leavesK] at h
    simp only [List.length_cons]
    split at h
    · rcases List.mem_cons.1 h with rfl | h
      · omega
      · have := leavesK_lt r (k + 1) x h; omega
    · have := leavesK_lt r (k + 1) x h; omega
theorem leavesK_len : ∀ (t : List Nd) (k : Nat), (leavesK t k).length ≤ t.length
  | [], k => by simp [leavesK]
  | n :: r, k => by
    simp only [leavesK]
    have := leavesK_len r (k + 1)
    split <;> simp <;> omega
theorem spec_LeavesOf_spec (t : List Nd) (hl : t.length ≤ 1048576) : FnSpec PR f_spec_LeavesOf [aT t] (.c (.ref 0 0 none)) [(0, .arr t_int 1 0 .own (eL cI (leavesK t 0)))] 1 := by
  refine FnSpec.intro hT p_spec_LeavesOf rfl (by kernel_rfl) n_spec_LeavesOf rfl ?_
  conv => whnf
  refine tri_loop hT [1, 3, 4] (α := Nat × List Int) (fun x => { t := [(1, .c (.ptr 0 0)), (3, .c (.ref 1 0 none)), (4, ai x.1)], h := [(0, .box t_impl_Tree (cTr t)), (1, .arr t_int 1 0 .own (eL cI x.2))], n := 2, N := 25 })
    (fun x => x.1 ≤ t.length ∧ x.2.length ≤ x.1 ∧ x.2 ++ leavesK (t.drop x.1) x.1 = leavesK t 0) (fun x => t.length - x.1) (0, []) (by ((conv => whnf); simp only [St.mk.injEq, List.cons.injEq, Prod.mk.injEq, AV.c.injEq, AV.agg.injEq, AV.tup.injEq, CV.d.injEq, D.int.injEq, D.bool.injEq, D.str.injEq, D.sl.injEq, Ent.arr.injEq, Ent.box.injEq, true_and, and_true, and_self, nInt_eq, Int.natCast_zero, dLen_eL, sLen_eq, eL_nil])) ⟨Nat.zero_le _, by simp, rfl⟩ ?_
  intro ⟨k, out⟩ ⟨hk, hol, ho⟩
  dsimp only at hk hol ho
  (conv => whnf)
  refine ifB_i (fun h1 => ?_) (fun h1 => ?_) <;> (conv => whnf) <;> simp at h1
  · obtain ⟨n, hn⟩ := get_lt h1
    refine idx_at (by simp) hn ?_
    (conv => whnf)
    refine .inl ⟨_, _, _, spec_l17Inner_spec n, rfl, ?_⟩
    (conv => whnf)
    rw [drop_at hn, leavesK] at ho
    refine ifB_i (fun h2 => ?_) (fun h2 => ?_) <;> (conv => whnf) <;> simp only [nInt_eq, Int.natCast_zero, dLen_eL, sLen_eq, nOf_eq, Int.toNat_natCast, nAdd_eq, nSub_eq, dLen_nil, dLen_cons, iLt_t, iLt_f, iLe_t, iLe_f, iEq_t, iEq_f, sEq_t, sEq_f, bNot_t, bNot_f, bAnd_t, bEq_t, bEq_f, Bool.not_eq_true, Bool.not_eq_false, Bool.true_eq_false, Bool.false_eq_true] at h2
    · rw [if_pos h2] at ho
      refine ⟨by simp [eL_length, dLen_len]; omega, ?_⟩
      (conv => whnf)
      refine ⟨(k + 1, out ++ [(k : Int)]), by dsimp only; omega, ⟨h1, by simp; omega, by rw [← ho]; simp⟩, ?_⟩
      ((conv => whnf); simp only [St.mk.injEq, List.cons.injEq, Prod.mk.injEq, AV.c.injEq, AV.agg.injEq, AV.tup.injEq, CV.d.injEq, D.int.injEq, D.bool.injEq, D.str.injEq, D.sl.injEq, Ent.arr.injEq, Ent.box.injEq, true_and, and_true, and_self, nInt_eq, Int.natCast_zero, dLen_eL, sLen_eq, partOf_none, wI h1 (by omega)])
      rw [← eL_app]
      rfl
    · rw [if_neg h2] at ho
      refine ⟨(k + 1, out), by dsimp only; omega, ⟨h1, by dsimp only; omega, ho⟩, ?_⟩
      ((conv => whnf); simp only [St.mk.injEq, List.cons.injEq, Prod.mk.injEq, AV.c.injEq, AV.agg.injEq, AV.tup.injEq, CV.d.injEq, D.int.injEq, D.bool.injEq, D.str.injEq, D.sl.injEq, Ent.arr.injEq, Ent.box.injEq, true_and, and_true, and_self, nInt_eq, Int.natCast_zero, dLen_eL, sLen_eq, wI h1 (by omega)])
  · obtain rfl : k = t.length := by omega
    simp [leavesK] at ho
    rw [ho]

theorem impl_LeavesOf_spec (t : List Nd) (hl : t.length ≤ 1048576) : FnSpec PR f_impl_LeavesOf [aT t] (.c (.ref 0 0 none)) [(0, .arr t_int 1 0 .own (eL cI (leavesK t 0)))] 1 := by
  refine FnSpec.intro hT p_impl_LeavesOf rfl (by kernel_rfl) n_impl_LeavesOf rfl ?_
  conv => whnf
  refine tri_loop hT [3, 8, 9, 10] (α := Nat × List Int) (fun x => { t := [(3, .c (.ref 0 0 none)), (8, aNs t), (9, ai t.length), (10, ai x.1)], h := [(0, .arr t_int 1 0 .own (eL cI x.2))], n := 1, N := 23 })
    (fun x => x.1 ≤ t.length ∧ x.2.length ≤ x.1 ∧ x.2 ++ leavesK (t.drop x.1) x.1 = leavesK t 0) (fun x => t.length - x.1) (0, []) (by ((conv => whnf); simp only [St.mk.injEq, List.cons.injEq, Prod.mk.injEq, AV.c.injEq, AV.agg.injEq, AV.tup.injEq, CV.d.injEq, D.int.injEq, D.bool.injEq, D.str.injEq, D.sl.injEq, Ent.arr.injEq, Ent.box.injEq, true_and, and_true, and_self, nInt_eq, Int.natCast_zero, dLen_eL, sLen_eq, eL_nil])) ⟨Nat.zero_le _, by simp, rfl⟩ ?_
  intro ⟨k, out⟩ ⟨hk, hol, ho⟩
  dsimp only at hk hol ho
  (conv => whnf)
  refine ifB_i (fun h1 => ?_) (fun h1 => ?_) <;> (conv => whnf) <;> simp at h1
  · obtain ⟨n, hn⟩ := get_lt h1
    refine idx_at (by simp) hn ?_
    (conv => whnf)
    refine .inl ⟨_, _, _, impl_isLeaf_spec n, rfl, ?_⟩
    (conv => whnf)
    rw [drop_at hn, leavesK] at ho
    refine ifB_i (fun h2 => ?_) (fun h2 => ?_) <;> (conv => whnf) <;> simp only [nInt_eq, Int.natCast_zero, dLen_eL, sLen_eq, nOf_eq, Int.toNat_natCast, nAdd_eq, nSub_eq, dLen_nil, dLen_cons, iLt_t, iLt_f, iLe_t, iLe_f, iEq_t, iEq_f, sEq_t, sEq_f, bNot_t, bNot_f, bAnd_t, bEq_t, bEq_f, Bool.not_eq_true, Bool.not_eq_false, Bool.true_eq_false, Bool.false_eq_true] at h2
    · rw [if_pos h2] at ho
      refine ⟨by simp [eL_length, dLen_len]; omega, ?_⟩
      (conv => whnf)
      refine ⟨(k + 1, out ++ [(k : Int)]), by dsimp only; omega, ⟨h1, by simp; omega, by rw [← ho]; simp⟩, ?_⟩
      ((conv => whnf); simp only [St.mk.injEq, List.cons.injEq, Prod.mk.injEq, AV.c.injEq, AV.agg.injEq, AV.tup.injEq, CV.d.injEq, D.int.injEq, D.bool.injEq, D.str.injEq, D.sl.injEq, Ent.arr.injEq, Ent.box.injEq, true_and, and_true, and_self, nInt_eq, Int.natCast_zero, dLen_eL, sLen_eq, partOf_none, wI h1 (by omega)])
      rw [← eL_app]
      rfl
    · rw [if_neg h2] at ho
      refine ⟨(k + 1, out), by dsimp only; omega, ⟨h1, by dsimp only; omega, ho⟩, ?_⟩
      ((conv => whnf); simp only [St.mk.injEq, List.cons.injEq, Prod.mk.injEq, AV.c.injEq, AV.agg.injEq, AV.tup.injEq, CV.d.injEq, D.int.injEq, D.bool.injEq, D.str.injEq, D.sl.injEq, Ent.arr.injEq, Ent.box.injEq, true_and, and_true, and_self, nInt_eq, Int.natCast_zero, dLen_eL, sLen_eq, wI h1 (by omega)])
  · obtain rfl : k = t.length := by omega
    simp [leavesK] at ho
    rw [ho]
end Go.H.S
namespace Go.H.S
open Go Go.Proofs Go.H
attribute [local irreducible] Tri FnSpec FnSpecM
set_option maxRecDepth 100000
set_option linter.unusedSimpArgs false
set_option linter.unusedVariables false


def vAt (t : List Nd) (x : Int) : Int := match t[x.toNat]? with | some n => n.v | none => 0
def spanStep (t : List Nd) (node : Int) (acc : Int × Int × Bool) (i : Int) : Int × Int × Bool :=
  if node ∈ wayL t i then (if acc.2.2 then (min acc.1 (vAt t i), max acc.2.1 (vAt t i), true) else (vAt t i, vAt t i, true)) else acc
def spanL (t : List Nd) (node : Int) : Int × Int × Bool := (leavesK t 0).foldl (spanStep t node) (0, 0, false)
def badN (t : List Nd) (f sign : Int) (n : Nd) : Bool :=
  isF f n && ((spanL t n.l).2.2 && (spanL t n.r).2.2 && ((decide (sign = 1) && decide ((spanL t n.r).1 < (spanL t n.l).2.1)) || (decide (sign = -1) && decide ((spanL t n.l).1 < (spanL t n.r).2.1))))
def followsL (t : List Nd) (f sign : Int) : Bool := t.all fun n => !badN t f sign n
abbrev tup3 (x : Int × Int × Bool) : AV := .tup [(false, [.d (.int .i64 x.1)]), (false, [.d (.int .i64 x.2.1)]), (false, [.d (.bool x.2.2)])]
end Go.H.S
namespace Go.H.S
open Go Go.Proofs Go.H
set_option linter.unusedSimpArgs false
set_option linter.unusedVariables false


theorem hplain : ∀ t ti, Tp t = some ti → plainT Tp ti = true := plain_tab (tab := ptab) (by kernel_rfl)
def i64 (x : Int) : Prop := -9223372036854775808 ≤ x ∧ x ≤ 9223372036854775807
theorem list_of_len {α : Type} {l : List α} {a : α} (h : l.length = 1) (h' : l.take 1 = [a]) : l = [a] := by
  match l, h with
  | [x], _ => simpa using h'
theorem wf_i64 {x : Int} (h : (Lit.int .i64 x).wf = true) : i64 x := by
  unfold Lit.wf at h
  simp only [Bool.and_eq_true, decide_eq_true_eq] at h
  exact ⟨h.1, h.2⟩
theorem ty_str {n : Nat} {c : List D} (h : TyD Tp n t_string c) : ∃ x, c = cS x ∧ x.size ≤ 9223372036854775807 := h.str rfl rfl
theorem ty_int {n : Nat} {c : List D} (h : TyD Tp n t_int c) : ∃ x, c = cI x ∧ i64 x := by
  obtain ⟨x, h1, h2⟩ := h.int rfl rfl
  exact ⟨x, h1, wf_i64 h2⟩
def rgN (n : Nd) : Prop := i64 n.f ∧ i64 n.c ∧ i64 n.l ∧ i64 n.r ∧ i64 n.v
theorem ty_ints {n : Nat} {c : List D} (h : TyD Tp n t_Lint c) : ∃ x, c = cIs x ∧ (x.length ≤ 9223372036854775807 ∧ ∀ y ∈ x, i64 y) := by
  obtain ⟨es, e, b, f⟩ := h.slice rfl rfl rfl
  obtain ⟨l, rfl, q, k⟩ := eL_of (f := cI) (fun c hc => (let ⟨_, hm⟩ := f c hc; ty_int hm))
  exact ⟨l, by rw [e]; rfl, by omega, k⟩
theorem ty_strs {n : Nat} {c : List D} (h : TyD Tp n t_Lstring c) : ∃ x, c = cSs x ∧ (x.length ≤ 9223372036854775807 ∧ ∀ y ∈ x, y.size ≤ 9223372036854775807) := by
  obtain ⟨es, e, b, f⟩ := h.slice rfl rfl rfl
  obtain ⟨l, rfl, q, k⟩ := eL_of (f := cS) (fun c hc => (let ⟨_, hm⟩ := f c hc; ty_str hm))
  exact ⟨l, by rw [e]; rfl, by omega, k⟩

theorem ty_bytes {n : Nat} {c : List D} (h : TyD Tp n t_Luint8 c) : ∃ x : List Int, c = [.sl 1 (eL (fun y => [D.int .u8 y]) x)] ∧ (x.length ≤ 9223372036854775807 ∧ ∀ y ∈ x, 0 ≤ y ∧ y ≤ 255) := by
  obtain ⟨es, e, b, f⟩ := h.slice rfl rfl rfl
  obtain ⟨l, rfl, q, k⟩ := eL_of (f := fun y => [D.int .u8 y]) (ok := fun y => 0 ≤ y ∧ y ≤ 255) (fun c hc => (let ⟨_, hm⟩ := f c hc; by
    obtain ⟨x, h1, h2⟩ := hm.int rfl rfl
    refine ⟨x, h1, ?_⟩
    unfold Lit.wf at h2
    simp only [Bool.and_eq_true, decide_eq_true_eq] at h2
    exact ⟨h2.1, h2.2⟩))
  exact ⟨l, by rw [e], by omega, k⟩

theorem ty_node {n : Nat} {c : List D} (h : TyD Tp n t_laws_Node c) : ∃ x, c = cN x ∧ rgN x := by
  obtain ⟨hl, hf⟩ := h.struct (ti := _) rfl rfl
  obtain ⟨_, g0⟩ := hf (0, t_int) (by simp) _ rfl
  obtain ⟨_, g1⟩ := hf (1, t_int) (by simp) _ rfl
  obtain ⟨_, g2⟩ := hf (2, t_int) (by simp) _ rfl
  obtain ⟨_, g3⟩ := hf (3, t_int) (by simp) _ rfl
  obtain ⟨_, g4⟩ := hf (4, t_int) (by simp) _ rfl
  obtain ⟨x0, e0, r0⟩ := ty_int g0
  obtain ⟨x1, e1, r1⟩ := ty_int g1
  obtain ⟨x2, e2, r2⟩ := ty_int g2
  obtain ⟨x3, e3, r3⟩ := ty_int g3
  obtain ⟨x4, e4, r4⟩ := ty_int g4
  refine ⟨⟨x0, x1, x2, x3, x4⟩, ?_, r0, r1, r2, r3, r4⟩
  match c, hl with
  | [c0, c1, c2, c3, c4], _ =>
    simp [cI] at e0 e1 e2 e3 e4
    simp [cN, e0, e1, e2, e3, e4]
theorem ty_tree {n : Nat} {c : List D} (h : TyD Tp n t_laws_Tree c) : ∃ x, c = cT x ∧ (x.length ≤ 9223372036854775807 ∧ ∀ n ∈ x, rgN n) := by
  obtain ⟨hl, hf⟩ := h.struct (ti := _) rfl rfl
  obtain ⟨_, g0⟩ := hf (0, t_Llaws_Node) (by simp) _ rfl
  obtain ⟨es, e0, e1, e2⟩ := g0.slice rfl rfl rfl
  obtain ⟨l, rfl, l1, k⟩ := eL_of (f := cN) (fun c hc => (let ⟨_, hm⟩ := e2 c hc; ty_node hm))
  exact ⟨l, list_of_len hl (by simpa using e0), by omega, k⟩

def rgModel (m : Mdl) : Prop := (∀ x ∈ m.signs, i64 x) ∧ i64 m.base ∧ ∀ t ∈ m.trees, ∀ n ∈ t, rgN n
theorem ty_model {n : Nat} {c : List D} (h : TyD Tp n t_laws_Model c) : ∃ m : Mdl, (okModel m ∧ rgModel m) ∧ c = [.sl 1 (eL cS m.names), .sl 1 (eL cI m.signs), .int .i64 m.base, .sl 1 (eL cT m.trees)] := by
  obtain ⟨hl, hf⟩ := h.struct (ti := _) rfl rfl
  obtain ⟨_, g0⟩ := hf (0, t_Lstring) (by simp) _ rfl
  obtain ⟨_, g1⟩ := hf (1, t_Lint) (by simp) _ rfl
  obtain ⟨_, g2⟩ := hf (2, t_int) (by simp) _ rfl
  obtain ⟨_, g3⟩ := hf (3, t_Llaws_Tree) (by simp) _ rfl
  obtain ⟨l0, e0, q0, k0⟩ := ty_strs g0
  obtain ⟨l1, e1, q1, k1⟩ := ty_ints g1
  obtain ⟨x2, e2, r2⟩ := ty_int g2
  obtain ⟨es3, e3, b3, f3⟩ := g3.slice rfl rfl rfl
  obtain ⟨l3, rfl, q3, k3⟩ := eL_of (f := cT) (fun c hc => (let ⟨_, hm⟩ := f3 c hc; ty_tree hm))
  refine ⟨⟨l0, l1, x2, l3⟩, ⟨⟨⟨q0, k0⟩, q1, by dsimp only; omega, fun t ht => (k3 t ht).1⟩, k1, r2, fun t ht => (k3 t ht).2⟩, ?_⟩
  match c, hl with
  | [c0, c1, c2, c3], _ =>
    simp [cSs, cIs, cI] at e0 e1 e2 e3
    simp [e0, e1, e2, e3]

def rgGrid (x : Grd) : Prop := (∀ r ∈ x.cuts, ∀ y ∈ r, i64 y) ∧ (∀ r ∈ x.bins, ∀ y ∈ r, i64 y)
theorem ty_grid {n : Nat} {c : List D} (h : TyD Tp n t_laws_Grid c) : ∃ x : Grd, (okGrid x ∧ rgGrid x) ∧ c = [.sl 1 (eL cIs x.cuts), .sl 1 (eL cIs x.bins)] := by
  obtain ⟨hl, hf⟩ := h.struct (ti := _) rfl rfl
  obtain ⟨_, g0⟩ := hf (0, t_LLint) (by simp) _ rfl
  obtain ⟨_, g1⟩ := hf (1, t_LLint) (by simp) _ rfl
  obtain ⟨es0, e0, b0, f0⟩ := g0.slice rfl rfl rfl
  obtain ⟨l0, rfl, q0, k0⟩ := eL_of (f := cIs) (fun c hc => (let ⟨_, hm⟩ := f0 c hc; ty_ints hm))
  obtain ⟨es1, e1, b1, f1⟩ := g1.slice rfl rfl rfl
  obtain ⟨l1, rfl, q1, k1⟩ := eL_of (f := cIs) (fun c hc => (let ⟨_, hm⟩ := f1 c hc; ty_ints hm))
  refine ⟨⟨l0, l1⟩, ⟨⟨⟨by dsimp only; omega, fun t ht => (k0 t ht).1⟩, by dsimp only; omega, fun t ht => (k1 t ht).1⟩, fun t ht => (k0 t ht).2, fun t ht => (k1 t ht).2⟩, ?_⟩
  match c, hl with
  | [c0, c1], _ =>
    simp at e0 e1
    simp [e0, e1]

def rgConfig (x : Cfg) : Prop := i64 x.rounds ∧ i64 x.depth ∧ i64 x.bins ∧ i64 x.lambda ∧ i64 x.rows ∧ i64 x.num ∧ i64 x.den ∧ ∀ y ∈ x.signs, i64 y
theorem ty_config {n : Nat} {c : List D} (h : TyD Tp n t_laws_Config c) : ∃ x : Cfg, (okConfig x ∧ rgConfig x) ∧ c = [.int .i64 x.rounds, .int .i64 x.depth, .int .i64 x.bins, .int .i64 x.lambda, .int .i64 x.rows, .int .i64 x.num, .int .i64 x.den, .sl 1 (eL cI x.signs)] := by
  obtain ⟨hl, hf⟩ := h.struct (ti := _) rfl rfl
  obtain ⟨_, g0⟩ := hf (0, t_int) (by simp) _ rfl
  obtain ⟨_, g1⟩ := hf (1, t_int) (by simp) _ rfl
  obtain ⟨_, g2⟩ := hf (2, t_int) (by simp) _ rfl
  obtain ⟨_, g3⟩ := hf (3, t_int) (by simp) _ rfl
  obtain ⟨_, g4⟩ := hf (4, t_int) (by simp) _ rfl
  obtain ⟨_, g5⟩ := hf (5, t_int) (by simp) _ rfl
  obtain ⟨_, g6⟩ := hf (6, t_int) (by simp) _ rfl
  obtain ⟨_, g7⟩ := hf (7, t_Lint) (by simp) _ rfl
  obtain ⟨x0, e0, r0⟩ := ty_int g0
  obtain ⟨x1, e1, r1⟩ := ty_int g1
  obtain ⟨x2, e2, r2⟩ := ty_int g2
  obtain ⟨x3, e3, r3⟩ := ty_int g3
  obtain ⟨x4, e4, r4⟩ := ty_int g4
  obtain ⟨x5, e5, r5⟩ := ty_int g5
  obtain ⟨x6, e6, r6⟩ := ty_int g6
  obtain ⟨l7, e7, q7, k7⟩ := ty_ints g7
  refine ⟨⟨x0, x1, x2, x3, x4, x5, x6, l7⟩, ⟨q7, r0, r1, r2, r3, r4, r5, r6, k7⟩, ?_⟩
  match c, hl with
  | [c0, c1, c2, c3, c4, c5, c6, c7], _ =>
    simp [cIs, cI] at e0 e1 e2 e3 e4 e5 e6 e7
    simp [e0, e1, e2, e3, e4, e5, e6, e7]
end Go.H.S
namespace Go.H.S
open Go Go.Proofs Go.H
attribute [local irreducible] Tri FnSpec FnSpecM
set_option maxRecDepth 100000
set_option linter.unusedSimpArgs false
set_option linter.unusedVariables false


theorem cost_len {α : Type} (f : α → Nat) (l : List α) : l.length ≤ cost f l := by rw [cost_eq]; omega
theorem cost_costL {α : Type} (f : α → Nat) (l : List α) : costL f l ≤ cost f l := by rw [cost_eq]; omega
theorem model_small {m : Mdl} (h : costModel m ≤ 1048576) : smModel m ∧ m.trees.length ≤ 1048576 ∧ costL List.length m.trees ≤ 1048576 := by
  unfold costModel at h
  have h1 := cost_len ByteArray.size m.names
  have h2 := cost_len costTree m.trees
  have h3 := cost_costL costTree m.trees
  rw [costTree_len] at h3
  refine ⟨⟨by omega, by omega, by omega, fun s hs => ?_⟩, by omega, by omega⟩
  have := costL_mem List.length hs
  omega
theorem bud_ok {c : Nat} (h : 0 ≤ bud 1048576 c) : c ≤ 1048576 := by have := (bud_pos h).1; omega
end Go.H.S
namespace Go.H.S
open Go Go.Proofs Go.H
attribute [local irreducible] Tri FnSpec FnSpecM FnSpecX FnSpecJ
set_option maxRecDepth 100000
set_option linter.unusedSimpArgs false
set_option linter.unusedVariables false


theorem flat_cN (xs : List Nd) : FlatR (eL cN xs) := fun c hc d hd => by
  rw [eL] at hc
  obtain ⟨x, _, rfl⟩ := List.mem_map.1 hc
  simp [cN] at hd
  rcases hd with rfl | rfl | rfl | rfl | rfl <;> rfl
theorem flat_cS (xs : List ByteArray) : FlatR (eL cS xs) := fun c hc d hd => by
  rw [eL] at hc
  obtain ⟨x, _, rfl⟩ := List.mem_map.1 hc
  simp [cS] at hd
  subst hd; rfl
theorem wRem_ten {n : Nat} : wRem (n : Int) 10 = ((n % 10 : Nat) : Int) := by
  unfold wRem
  rw [Int.tmod_eq_emod_of_nonneg (by omega)]
  omega
theorem wQuo_ten {n : Nat} (h : n ≤ 9223372036854775807) : wQuo .i64 (n : Int) 10 = ((n / 10 : Nat) : Int) := by
  unfold wQuo
  rw [Int.tdiv_eq_ediv_of_nonneg (by omega), wrap64 (by omega) (by omega)]
  omega

/-- Marks: k, k + 1, .. -/
def marks (k : Int) : Nat → List Int
  | 0 => []
  | n + 1 => k :: marks (k + 1) n
theorem marks_len : ∀ (n : Nat) (k : Int), (marks k n).length = n
  | 0, _ => rfl
  | n + 1, k => by simp [marks, marks_len n]
theorem marks_get : ∀ (n : Nat) (k : Int) (j : Nat), j < n → (marks k n)[j]? = some (k + j)
  | 0, _, _, h => by omega
  | n + 1, k, 0, _ => by simp [marks]
  | n + 1, k, j + 1, h => by simp only [marks, List.getElem?_cons_succ]; rw [marks_get n (k + 1) j (by omega)]; congr 1; omega
theorem markIntS_spec (xs : List Int) (k : Int) (hk : 0 ≤ k ∧ k ≤ 1000000000000) (hx : xs.length ≤ 1000000000) : FnSpecM PR f_laws_markIntS [.c (.ref 0 0 none), ai k] t_int 1 (eL cI xs) (ai (k + xs.length)) (eL cI (marks k xs.length)) := by
  refine FnSpecM.intro hT 0 p_laws_markIntS rfl (by kernel_rfl) n_laws_markIntS rfl rfl (by simp [eL_length, marks_len]) rfl (flat_cI _) ?_
  intro v0
  (conv => whnf)
  refine tri_loop hT [0, 1, 5] (α := Nat × List Int) (fun x => { t := [(0, .w (.ref 0 0 none) v0), (1, ai (k + x.1)), (5, ai x.1)], h := [(0, .arr t_int 1 0 .own (eL cI x.2))], n := 1, N := 19 })
    (fun x => x.1 ≤ xs.length ∧ x.2.length = xs.length ∧ ∀ j, j < x.1 → x.2[j]? = some (k + j)) (fun x => xs.length - x.1) (0, xs) (by ((conv => whnf); simp only [St.mk.injEq, List.cons.injEq, Prod.mk.injEq, AV.c.injEq, AV.agg.injEq, AV.tup.injEq, CV.d.injEq, D.int.injEq, D.bool.injEq, D.str.injEq, D.sl.injEq, Ent.arr.injEq, Ent.box.injEq, true_and, and_true, and_self, nInt_eq, Int.natCast_zero, dLen_eL, sLen_eq, Int.add_zero])) ⟨Nat.zero_le _, rfl, fun j hj => by omega⟩ ?_
  intro ⟨i, ys⟩ ⟨hi, hl, hj⟩
  dsimp only at hi hl hj
  (conv => whnf)
  refine ifB_i (fun h1 => ?_) (fun h1 => ?_) <;> (conv => whnf) <;> simp at h1
  · obtain ⟨y, hy⟩ := get_lt h1
    refine ref_at (k := i) (by simp) (by simp; omega) ?_
    (conv => whnf)
    refine st_at (by simp) hy (by simp [cI]) ?_
    (conv => whnf)
    refine ⟨(i + 1, ys.set i (k + i)), by dsimp only; omega, ⟨by dsimp only; omega, by simp [hl], fun j hlt => ?_⟩, ?_⟩
    · dsimp only at hlt ⊢
      rw [List.getElem?_set]
      split
      · rename_i he; subst he; simp [hl, h1]
      · exact hj j (by omega)
    · ((conv => whnf); simp only [St.mk.injEq, List.cons.injEq, Prod.mk.injEq, AV.c.injEq, AV.agg.injEq, AV.tup.injEq, CV.d.injEq, D.int.injEq, D.bool.injEq, D.str.injEq, D.sl.injEq, Ent.arr.injEq, Ent.box.injEq, true_and, and_true, and_self, nInt_eq, Int.natCast_zero, dLen_eL, sLen_eq])
      refine ⟨⟨by rw [wAdd64] <;> omega, wI h1 (by omega)⟩, ?_⟩
      have := cI_set ys i y (k + i)
      simpa using this
  · obtain rfl : i = xs.length := by omega
    have : ys = marks k xs.length := by
      apply List.ext_getElem?
      intro j
      rcases Nat.lt_or_ge j xs.length with q | q
      · rw [hj j q, marks_get _ _ _ q]
      · rw [List.getElem?_eq_none (by omega), List.getElem?_eq_none (by rw [marks_len]; omega)]
    subst this
    (conv => whnf)

theorem heldIntS_spec (k : Int) (n : Nat) (hk : 0 ≤ k ∧ k ≤ 1000000000000) (hx : n ≤ 1000000000) : FnSpec PR f_laws_heldIntS [aIs (marks k n), ai k] (ai (k + n)) [] 0 := by
  have hml := marks_len n k
  refine FnSpec.intro hT p_laws_heldIntS rfl (by kernel_rfl) n_laws_heldIntS rfl ?_
  conv => whnf
  refine tri_loop hT [0, 1, 5] (α := Nat) (fun x => { t := [(0, aIs (marks k n)), (1, ai (k + x)), (5, ai x)], h := [], n := 0, N := 21 })
    (fun x => x ≤ n) (fun x => n - x) 0 (by ((conv => whnf); simp only [St.mk.injEq, List.cons.injEq, Prod.mk.injEq, AV.c.injEq, AV.agg.injEq, AV.tup.injEq, CV.d.injEq, D.int.injEq, D.bool.injEq, D.str.injEq, D.sl.injEq, Ent.arr.injEq, Ent.box.injEq, true_and, and_true, and_self, nInt_eq, Int.natCast_zero, dLen_eL, sLen_eq, Int.add_zero])) (Nat.zero_le _) ?_
  intro i hi
  (conv => whnf)
  refine ifB_i (fun h1 => ?_) (fun h1 => ?_) <;> (conv => whnf) <;> simp [hml] at h1
  · have hy := marks_get n k i h1
    refine idx_at (by simp) hy ?_
    (conv => whnf)
    refine ifB_i (fun h2 => ?_) (fun h2 => ?_) <;> (conv => whnf) <;> simp only [nInt_eq, Int.natCast_zero, dLen_eL, sLen_eq, nOf_eq, Int.toNat_natCast, nAdd_eq, nSub_eq, dLen_nil, dLen_cons, iLt_t, iLt_f, iLe_t, iLe_f, iEq_t, iEq_f, sEq_t, sEq_f, bNot_t, bNot_f, bAnd_t, bEq_t, bEq_f, Bool.not_eq_true, Bool.not_eq_false, Bool.true_eq_false, Bool.false_eq_true] at h2
    · exact absurd rfl h2
    · refine ⟨i + 1, by omega, by omega, ?_⟩
      ((conv => whnf); simp only [St.mk.injEq, List.cons.injEq, Prod.mk.injEq, AV.c.injEq, AV.agg.injEq, AV.tup.injEq, CV.d.injEq, D.int.injEq, D.bool.injEq, D.str.injEq, D.sl.injEq, Ent.arr.injEq, Ent.box.injEq, true_and, and_true, and_self, nInt_eq, Int.natCast_zero, dLen_eL, sLen_eq, wI h1 (by omega), wAdd64 (show -9223372036854775808 ≤ k + (i : Int) + 1 by omega) (by omega), Int.natCast_add, Int.cast_ofNat_Int, Int.add_assoc])
  · obtain rfl : i = n := by omega
    (conv => whnf)

theorem cN_set0 (ns : List Nd) (i : Nat) (x : Nd) (v : Int) : dSet (eL cN ns) i (dOver (cN x) 0 [.int .i64 v]) = eL cN (ns.set i ⟨v, x.c, x.l, x.r, x.v⟩) := by
  rw [← eL_set]; congr 1; simp [dOver, cN, over]
theorem cN_set1 (ns : List Nd) (i : Nat) (x : Nd) (v : Int) : dSet (eL cN ns) i (dOver (cN x) 1 [.int .i64 v]) = eL cN (ns.set i ⟨x.f, v, x.l, x.r, x.v⟩) := by
  rw [← eL_set]; congr 1; simp [dOver, cN, over]
theorem cN_set2 (ns : List Nd) (i : Nat) (x : Nd) (v : Int) : dSet (eL cN ns) i (dOver (cN x) 2 [.int .i64 v]) = eL cN (ns.set i ⟨x.f, x.c, v, x.r, x.v⟩) := by
  rw [← eL_set]; congr 1; simp [dOver, cN, over]
theorem cN_set3 (ns : List Nd) (i : Nat) (x : Nd) (v : Int) : dSet (eL cN ns) i (dOver (cN x) 3 [.int .i64 v]) = eL cN (ns.set i ⟨x.f, x.c, x.l, v, x.v⟩) := by
  rw [← eL_set]; congr 1; simp [dOver, cN, over]
theorem cN_set4 (ns : List Nd) (i : Nat) (x : Nd) (v : Int) : dSet (eL cN ns) i (dOver (cN x) 4 [.int .i64 v]) = eL cN (ns.set i ⟨x.f, x.c, x.l, x.r, v⟩) := by
  rw [← eL_set]; congr 1; simp [dOver, cN, over]
theorem markNodeS_lost (ns : List Nd) (k : Int) (hk : 0 ≤ k ∧ k ≤ 1000000000000) (hx : ns.length ≤ 1000000000) : FnSpecJ PR f_laws_markNodeS [.c (.ref 0 0 none), ai k] [(0, .arr t_impl_Node 5 0 .own (eL cN ns))] 1 (ai (k + 5 * ns.length)) := by
  refine FnSpecJ.intro hT p_laws_markNodeS rfl (by kernel_rfl) n_laws_markNodeS rfl rfl rfl ?_
  (conv => whnf)
  refine tri_loop hT [0, 1, 5] (α := Nat × List Nd) (fun x => { t := [(0, .c (.ref 0 0 none)), (1, ai (k + 5 * x.1)), (5, ai x.1)], h := [(0, .arr t_impl_Node 5 0 .own (eL cN x.2))], n := 1, N := 48 })
    (fun x => x.1 ≤ ns.length ∧ x.2.length = ns.length) (fun x => ns.length - x.1) (0, ns) (by ((conv => whnf); simp only [St.mk.injEq, List.cons.injEq, Prod.mk.injEq, AV.c.injEq, AV.agg.injEq, AV.tup.injEq, CV.d.injEq, D.int.injEq, D.bool.injEq, D.str.injEq, D.sl.injEq, Ent.arr.injEq, Ent.box.injEq, true_and, and_true, and_self, nInt_eq, Int.natCast_zero, dLen_eL, sLen_eq]); simp) ⟨Nat.zero_le _, rfl⟩ ?_
  intro ⟨i, ys⟩ ⟨hi, hl⟩
  dsimp only at hi hl
  (conv => whnf)
  refine ifB_i (fun h1 => ?_) (fun h1 => ?_) <;> (conv => whnf) <;> simp at h1
  · obtain ⟨y, hy⟩ := get_lt h1
    have e1 : wAdd .i64 (k + 5 * (i : Int)) 1 = k + 5 * i + 1 := by rw [wAdd64] <;> omega
    have e2 : wAdd .i64 (k + 5 * (i : Int) + 1) 1 = k + 5 * i + 2 := by rw [wAdd64] <;> omega
    have e3 : wAdd .i64 (k + 5 * (i : Int) + 2) 1 = k + 5 * i + 3 := by rw [wAdd64] <;> omega
    have e4 : wAdd .i64 (k + 5 * (i : Int) + 3) 1 = k + 5 * i + 4 := by rw [wAdd64] <;> omega
    have e5 : wAdd .i64 (k + 5 * (i : Int) + 4) 1 = k + 5 * i + 5 := by rw [wAdd64] <;> omega
    have ei : nAdd (offR none) (nOf ((i : Nat) : Int)) = i := by simp
    refine ref_at (k := i) (by simp) (by simp; omega) ?_
    (conv => whnf)
    refine st_at (by simp) hy (by simp [cN]) ?_
    dsimp only
    rw [ei, cN_set0]
    generalize hz0 : ys.set i _ = z0
    have hl0 : z0.length = ns.length := by rw [← hz0]; simp [hl]
    obtain ⟨y0, hy0⟩ := get_lt (show i < z0.length by omega)
    (conv => whnf)
    refine ref_at (k := i) (by simp) (by simp; omega) ?_
    (conv => whnf)
    refine st_at (by simp) hy0 (by simp [cN]) ?_
    dsimp only
    rw [ei, cN_set1]
    generalize hz1 : z0.set i _ = z1
    have hl1 : z1.length = ns.length := by rw [← hz1]; simp [hl0]
    obtain ⟨y1, hy1⟩ := get_lt (show i < z1.length by omega)
    (conv => whnf)
    refine ref_at (k := i) (by simp) (by simp; omega) ?_
    (conv => whnf)
    refine st_at (by simp) hy1 (by simp [cN]) ?_
    dsimp only
    rw [ei, cN_set2]
    generalize hz2 : z1.set i _ = z2
    have hl2 : z2.length = ns.length := by rw [← hz2]; simp [hl1]
    obtain ⟨y2, hy2⟩ := get_lt (show i < z2.length by omega)
    (conv => whnf)
    refine ref_at (k := i) (by simp) (by simp; omega) ?_
    (conv => whnf)
    refine st_at (by simp) hy2 (by simp [cN]) ?_
    dsimp only
    rw [ei, cN_set3]
    generalize hz3 : z2.set i _ = z3
    have hl3 : z3.length = ns.length := by rw [← hz3]; simp [hl2]
    obtain ⟨y3, hy3⟩ := get_lt (show i < z3.length by omega)
    (conv => whnf)
    refine ref_at (k := i) (by simp) (by simp; omega) ?_
    (conv => whnf)
    refine st_at (by simp) hy3 (by simp [cN]) ?_
    dsimp only
    rw [ei, cN_set4]
    generalize hz4 : z3.set i _ = z4
    have hl4 : z4.length = ns.length := by rw [← hz4]; simp [hl3]
    obtain ⟨y4, hy4⟩ := get_lt (show i < z4.length by omega)
    (conv => whnf)
    refine ⟨(i + 1, z4), by dsimp only; omega, ⟨by dsimp only; omega, hl4⟩, ?_⟩
    ((conv => whnf); simp only [St.mk.injEq, List.cons.injEq, Prod.mk.injEq, AV.c.injEq, AV.agg.injEq, AV.tup.injEq, CV.d.injEq, D.int.injEq, D.bool.injEq, D.str.injEq, D.sl.injEq, Ent.arr.injEq, Ent.box.injEq, true_and, and_true, and_self, nInt_eq, Int.natCast_zero, dLen_eL, sLen_eq, e1, e2, e3, e4, e5, wI h1 (by omega)])
    omega
  · obtain rfl : i = ns.length := by omega
    (conv => whnf)

theorem markTree_lost (ns : List Nd) (k : Int) (hk : 0 ≤ k ∧ k ≤ 1000000000000) (hx : ns.length ≤ 1000000000) : FnSpecJ PR f_laws_markTree [.agg [.ref 0 0 none], ai k] [(0, .arr t_impl_Node 5 0 .own (eL cN ns))] 1 (ai (k + 5 * ns.length)) := by
  refine FnSpecJ.intro hT p_laws_markTree rfl (by kernel_rfl) n_laws_markTree rfl rfl rfl ?_
  (conv => whnf)
  refine .inr (.inr (.inr (.inl ⟨[(0, 0)], ?_⟩)))
  (conv => whnf)
  refine ⟨[.c (.ref 0 0 none), ai k], _, ⟨rfl, rfl, rfl⟩, markNodeS_lost ns k hk hx, ?_⟩
  (conv => whnf)


/-- The digits of a number, ahead of what stands. -/
def digs : Nat → Nat → ByteArray → ByteArray
  | 0, _, s => s
  | m + 1, n, s => if n = 0 then s else digs m (n / 10) (sApp ⟨#[UInt8.ofNat (48 + n % 10)]⟩ s)
def mtext (k : Int) : ByteArray := sApp ⟨#[109]⟩ (digs 20 k.toNat ⟨#[]⟩)
theorem markText_spec (k : Int) (hk : 0 < k ∧ k ≤ 1000000000000) : FnSpec PR f_laws_markText [ai k] (aS (mtext k)) [] 0 := by
  refine FnSpec.intro hT p_laws_markText rfl (by kernel_rfl) n_laws_markText rfl ?_
  conv => whnf
  rw [show iLe k 0 = false by simp; omega]
  (conv => whnf)
  obtain ⟨n, rfl⟩ : ∃ n : Nat, k = n := ⟨k.toNat, by omega⟩
  refine tri_loop hT [0, 3] (α := Nat × Nat × ByteArray) (fun x => { t := [(0, ai x.2.1), (3, aS x.2.2)], h := [], n := 0, N := 20 })
    (fun x => x.2.1 < 10 ^ x.1 ∧ x.1 ≤ 20 ∧ x.2.1 ≤ 1000000000000 ∧ x.2.2.size + x.1 ≤ 20 ∧ digs x.1 x.2.1 x.2.2 = digs 20 n ⟨#[]⟩) (fun x => x.1) (20, n, ⟨#[]⟩) (by (conv => whnf)) ⟨Nat.lt_of_le_of_lt (show n ≤ 1000000000000 by omega) (show 1000000000000 < 10 ^ 20 by decide), Nat.le_refl _, by dsimp only; omega, Nat.le_refl _, rfl⟩ ?_
  intro ⟨m, i, s⟩ ⟨h1, h2, h3, h4, h5⟩
  dsimp only at h1 h2 h3 h4 h5
  (conv => whnf)
  refine ifB_i (fun g => ?_) (fun g => ?_) <;> (conv => whnf) <;> simp only [nInt_eq, Int.natCast_zero, dLen_eL, sLen_eq, nOf_eq, Int.toNat_natCast, nAdd_eq, nSub_eq, dLen_nil, dLen_cons, iLt_t, iLt_f, iLe_t, iLe_f, iEq_t, iEq_f, sEq_t, sEq_f, bNot_t, bNot_f, bAnd_t, bEq_t, bEq_f, Bool.not_eq_true, Bool.not_eq_false, Bool.true_eq_false, Bool.false_eq_true] at g
  · obtain ⟨m, rfl⟩ : ∃ m', m = m' + 1 := ⟨m - 1, by rcases m with _ | m <;> simp_all <;> omega⟩
    refine And.intro (by simp [NZ]) ?_
    (conv => whnf)
    rw [wRem_ten]
    have e1 : wAdd .i64 48 ((i % 10 : Nat) : Int) = ((48 + i % 10 : Nat) : Int) := by rw [wAdd64] <;> omega
    rw [e1]
    have e2 : wConv .u8 ((48 + i % 10 : Nat) : Int) = ((48 + i % 10 : Nat) : Int) := by
      unfold wConv
      have : ∀ j, j < 10 → IntKind.u8.wrap ((48 + j : Nat) : Int) = ((48 + j : Nat) : Int) := by decide
      exact this _ (Nat.mod_lt _ (by decide))
    rw [e2]
    (conv => whnf)
    refine ⟨⟨#[UInt8.ofNat (48 + i % 10)]⟩, ?_, ?_⟩
    · simp only [encB, partOf, lenR, offR]
      have : ∀ j, j < 10 → (UInt8.ofNat (48 + j)).toNat = 48 + j := by decide
      have h6 := this (i % 10) (Nat.mod_lt _ (by decide))
      simp [h6]
      try omega
    (conv => whnf)
    refine And.intro (by unfold FitsS; have : (⟨#[UInt8.ofNat (48 + i % 10)]⟩ : ByteArray).size = 1 := rfl; dsimp only; omega) ?_
    (conv => whnf)
    refine And.intro (by simp [NZ]) ?_
    (conv => whnf)
    rw [wQuo_ten (by dsimp only; omega)]
    (conv => whnf)
    refine ⟨(m, i / 10, sApp ⟨#[UInt8.ofNat (48 + i % 10)]⟩ s), by dsimp only; omega, ⟨?_, by dsimp only; omega, by dsimp only; omega, ?_, ?_⟩, ?_⟩
    · dsimp only
      rw [Nat.pow_succ] at h1
      omega
    · dsimp only
      have : (sApp ⟨#[UInt8.ofNat (48 + i % 10)]⟩ s).size = 1 + s.size := by unfold sApp; rw [ByteArray.size_append]; rfl
      omega
    · dsimp only
      rw [← h5, digs, if_neg (by omega)]
    (conv => whnf)
  · have : digs m i s = s := by
      cases m with
      | zero => rfl
      | succ m => rw [digs, if_pos (by omega)]
    rw [this] at h5
    refine And.intro (by unfold FitsS; have : (⟨#[109]⟩ : ByteArray).size = 1 := rfl; dsimp only; omega) ?_
    (conv => whnf)
    rw [show mtext (n : Int) = sApp ⟨#[109]⟩ s by rw [h5]; rfl]

def marksS (k : Int) : Nat → List ByteArray
  | 0 => []
  | n + 1 => mtext k :: marksS (k + 1) n
theorem marksS_len : ∀ (n : Nat) (k : Int), (marksS k n).length = n
  | 0, _ => rfl
  | n + 1, k => by simp [marksS, marksS_len n]
theorem marksS_get : ∀ (n : Nat) (k : Int) (j : Nat), j < n → (marksS k n)[j]? = some (mtext (k + j))
  | 0, _, _, h => by omega
  | n + 1, k, 0, _ => by simp [marksS]
  | n + 1, k, j + 1, h => by simp only [marksS, List.getElem?_cons_succ]; rw [marksS_get n (k + 1) j (by omega)]; congr 2; omega
theorem cS_set (xs : List ByteArray) (k : Nat) (x y : ByteArray) : dSet (eL cS xs) k (dOver (cS x) 0 [.str y]) = eL cS (xs.set k y) := by
  rw [dOver_all (by rfl)]; exact eL_set cS xs k y
theorem markStringS_spec (xs : List ByteArray) (k : Int) (hk : 0 < k ∧ k + xs.length ≤ 1000000000000) (hx : xs.length ≤ 1000000000) : FnSpecM PR f_laws_markStringS [.c (.ref 0 0 none), ai k] t_string 1 (eL cS xs) (ai (k + xs.length)) (eL cS (marksS k xs.length)) := by
  refine FnSpecM.intro hT 0 p_laws_markStringS rfl (by kernel_rfl) n_laws_markStringS rfl rfl (by simp [eL_length, marksS_len]) rfl (flat_cS _) ?_
  intro v0
  (conv => whnf)
  refine tri_loop hT [0, 1, 5] (α := Nat × List ByteArray) (fun x => { t := [(0, .w (.ref 0 0 none) v0), (1, ai (k + x.1)), (5, ai x.1)], h := [(0, .arr t_string 1 0 .own (eL cS x.2))], n := 1, N := 20 })
    (fun x => x.1 ≤ xs.length ∧ x.2.length = xs.length ∧ ∀ j, j < x.1 → x.2[j]? = some (mtext (k + j))) (fun x => xs.length - x.1) (0, xs) (by ((conv => whnf); simp only [St.mk.injEq, List.cons.injEq, Prod.mk.injEq, AV.c.injEq, AV.agg.injEq, AV.tup.injEq, CV.d.injEq, D.int.injEq, D.bool.injEq, D.str.injEq, D.sl.injEq, Ent.arr.injEq, Ent.box.injEq, true_and, and_true, and_self, nInt_eq, Int.natCast_zero, dLen_eL, sLen_eq, Int.add_zero])) ⟨Nat.zero_le _, rfl, fun j hj => by omega⟩ ?_
  intro ⟨i, ys⟩ ⟨hi, hl, hj⟩
  dsimp only at hi hl hj
  (conv => whnf)
  refine ifB_i (fun h1 => ?_) (fun h1 => ?_) <;> (conv => whnf) <;> simp at h1
  · obtain ⟨y, hy⟩ := get_lt h1
    have hms := markText_spec (k + i) (by omega)
    refine .inl ⟨_, _, _, hms, rfl, ?_⟩
    (conv => whnf)
    refine ref_at (k := i) (by simp) (by simp; omega) ?_
    (conv => whnf)
    refine st_at (by simp) hy (by simp [cS]) ?_
    (conv => whnf)
    refine ⟨(i + 1, ys.set i (mtext (k + i))), by dsimp only; omega, ⟨by dsimp only; omega, by simp [hl], fun j hlt => ?_⟩, ?_⟩
    · dsimp only at hlt ⊢
      rw [List.getElem?_set]
      split
      · rename_i he; subst he; simp [hl, h1]
      · exact hj j (by omega)
    · ((conv => whnf); simp only [St.mk.injEq, List.cons.injEq, Prod.mk.injEq, AV.c.injEq, AV.agg.injEq, AV.tup.injEq, CV.d.injEq, D.int.injEq, D.bool.injEq, D.str.injEq, D.sl.injEq, Ent.arr.injEq, Ent.box.injEq, true_and, and_true, and_self, nInt_eq, Int.natCast_zero, dLen_eL, sLen_eq])
      refine ⟨⟨by rw [wAdd64] <;> omega, wI h1 (by omega)⟩, ?_⟩
      have := cS_set ys i y (mtext (k + i))
      simpa using this
  · obtain rfl : i = xs.length := by omega
    have : ys = marksS k xs.length := by
      apply List.ext_getElem?
      intro j
      rcases Nat.lt_or_ge j xs.length with q | q
      · rw [hj j q, marksS_get _ _ _ q]
      · rw [List.getElem?_eq_none (by omega), List.getElem?_eq_none (by rw [marksS_len]; omega)]
    subst this
    (conv => whnf)

def marksN (k : Int) : Nat → List Nd
  | 0 => []
  | n + 1 => ⟨k, k + 1, k + 2, k + 3, k + 4⟩ :: marksN (k + 5) n
theorem marksN_len : ∀ (n : Nat) (k : Int), (marksN k n).length = n
  | 0, _ => rfl
  | n + 1, k => by simp [marksN, marksN_len n]
theorem marksN_get : ∀ (n : Nat) (k : Int) (j : Nat), j < n → (marksN k n)[j]? = some ⟨k + 5 * j, k + 5 * j + 1, k + 5 * j + 2, k + 5 * j + 3, k + 5 * j + 4⟩
  | 0, _, _, h => by omega
  | n + 1, k, 0, _ => by simp [marksN]
  | n + 1, k, j + 1, h => by
    simp only [marksN, List.getElem?_cons_succ]
    rw [marksN_get n (k + 5) j (by omega)]
    simp only [Option.some.injEq, Nd.mk.injEq]
    omega
set_option maxHeartbeats 1000000 in
theorem markNodeS_spec (ns : List Nd) (k : Int) (hk : 0 ≤ k ∧ k ≤ 1000000000000) (hx : ns.length ≤ 1000000000) : FnSpecM PR f_laws_markNodeS [.c (.ref 0 0 none), ai k] t_impl_Node 5 (eL cN ns) (ai (k + 5 * ns.length)) (eL cN (marksN k ns.length)) := by
  refine FnSpecM.intro hT 0 p_laws_markNodeS rfl (by kernel_rfl) n_laws_markNodeS rfl rfl (by simp [eL_length, marksN_len]) rfl (flat_cN _) ?_
  intro v0
  (conv => whnf)
  refine tri_loop hT [0, 1, 5] (α := Nat × List Nd) (fun x => { t := [(0, .w (.ref 0 0 none) v0), (1, ai (k + 5 * x.1)), (5, ai x.1)], h := [(0, .arr t_impl_Node 5 0 .own (eL cN x.2))], n := 1, N := 48 })
    (fun x => x.1 ≤ ns.length ∧ x.2.length = ns.length ∧ ∀ j : Nat, j < x.1 → x.2[j]? = some ⟨k + 5 * j, k + 5 * j + 1, k + 5 * j + 2, k + 5 * j + 3, k + 5 * j + 4⟩) (fun x => ns.length - x.1) (0, ns) (by ((conv => whnf); simp only [St.mk.injEq, List.cons.injEq, Prod.mk.injEq, AV.c.injEq, AV.agg.injEq, AV.tup.injEq, CV.d.injEq, D.int.injEq, D.bool.injEq, D.str.injEq, D.sl.injEq, Ent.arr.injEq, Ent.box.injEq, true_and, and_true, and_self, nInt_eq, Int.natCast_zero, dLen_eL, sLen_eq]); simp) ⟨Nat.zero_le _, rfl, fun j hj => by omega⟩ ?_
  intro ⟨i, ys⟩ ⟨hi, hl, hj⟩
  dsimp only at hi hl hj
  (conv => whnf)
  refine ifB_i (fun h1 => ?_) (fun h1 => ?_) <;> (conv => whnf) <;> simp at h1
  · obtain ⟨y, hy⟩ := get_lt h1
    rw [hl] at h1
    have e1 : wAdd .i64 (k + 5 * (i : Int)) 1 = k + 5 * i + 1 := by rw [wAdd64] <;> omega
    have e2 : wAdd .i64 (k + 5 * (i : Int) + 1) 1 = k + 5 * i + 2 := by rw [wAdd64] <;> omega
    have e3 : wAdd .i64 (k + 5 * (i : Int) + 2) 1 = k + 5 * i + 3 := by rw [wAdd64] <;> omega
    have e4 : wAdd .i64 (k + 5 * (i : Int) + 3) 1 = k + 5 * i + 4 := by rw [wAdd64] <;> omega
    have e5 : wAdd .i64 (k + 5 * (i : Int) + 4) 1 = k + 5 * i + 5 := by rw [wAdd64] <;> omega
    have ei : nAdd (offR none) (nOf ((i : Nat) : Int)) = i := by simp
    dsimp only
    obtain ⟨K, hK⟩ : ∃ K : Int, K = k + 5 * i := ⟨_, rfl⟩
    rw [← hK] at e1 e2 e3 e4 e5 ⊢
    skip
    refine ref_at (k := i) (by simp) (by simp; omega) ?_
    (conv => whnf)
    refine st_at (k := i) (by simp) hy (by simp [cN]) ?_
    dsimp only
    rw [ei, cN_set0]
    have q0 : (ys.set i (⟨K, y.c, y.l, y.r, y.v⟩ : Nd))[i]? = some (⟨K, y.c, y.l, y.r, y.v⟩ : Nd) := by rw [List.getElem?_set]; simp [hl, h1]
    have l0 : (ys.set i (⟨K, y.c, y.l, y.r, y.v⟩ : Nd)).length = ns.length := by simp [hl]
    have r0 : ∀ j, j ≠ i → (ys.set i (⟨K, y.c, y.l, y.r, y.v⟩ : Nd))[j]? = ys[j]? := fun j hj => by rw [List.getElem?_set, if_neg (fun h => hj h.symm)]
    generalize z0e : ys.set i (⟨K, y.c, y.l, y.r, y.v⟩ : Nd) = z0 at *
    (conv => whnf)
    rw [e1]
    refine ref_at (k := i) (by simp) (by simp; omega) ?_
    (conv => whnf)
    refine st_at (k := i) (by simp) q0 (by simp [cN]) ?_
    dsimp only
    rw [ei, cN_set1]
    have q1 : (z0.set i (⟨K, K + 1, y.l, y.r, y.v⟩ : Nd))[i]? = some (⟨K, K + 1, y.l, y.r, y.v⟩ : Nd) := by rw [List.getElem?_set]; simp [l0, h1]
    have l1 : (z0.set i (⟨K, K + 1, y.l, y.r, y.v⟩ : Nd)).length = ns.length := by simp [l0]
    have r1 : ∀ j, j ≠ i → (z0.set i (⟨K, K + 1, y.l, y.r, y.v⟩ : Nd))[j]? = z0[j]? := fun j hj => by rw [List.getElem?_set, if_neg (fun h => hj h.symm)]
    generalize z1e : z0.set i (⟨K, K + 1, y.l, y.r, y.v⟩ : Nd) = z1 at *
    (conv => whnf)
    rw [e2]
    refine ref_at (k := i) (by simp) (by simp; omega) ?_
    (conv => whnf)
    refine st_at (k := i) (by simp) q1 (by simp [cN]) ?_
    dsimp only
    rw [ei, cN_set2]
    have q2 : (z1.set i (⟨K, K + 1, K + 2, y.r, y.v⟩ : Nd))[i]? = some (⟨K, K + 1, K + 2, y.r, y.v⟩ : Nd) := by rw [List.getElem?_set]; simp [l1, h1]
    have l2 : (z1.set i (⟨K, K + 1, K + 2, y.r, y.v⟩ : Nd)).length = ns.length := by simp [l1]
    have r2 : ∀ j, j ≠ i → (z1.set i (⟨K, K + 1, K + 2, y.r, y.v⟩ : Nd))[j]? = z1[j]? := fun j hj => by rw [List.getElem?_set, if_neg (fun h => hj h.symm)]
    generalize z2e : z1.set i (⟨K, K + 1, K + 2, y.r, y.v⟩ : Nd) = z2 at *
    (conv => whnf)
    rw [e3]
    refine ref_at (k := i) (by simp) (by simp; omega) ?_
    (conv => whnf)
    refine st_at (k := i) (by simp) q2 (by simp [cN]) ?_
    dsimp only
    rw [ei, cN_set3]
    have q3 : (z2.set i (⟨K, K + 1, K + 2, K + 3, y.v⟩ : Nd))[i]? = some (⟨K, K + 1, K + 2, K + 3, y.v⟩ : Nd) := by rw [List.getElem?_set]; simp [l2, h1]
    have l3 : (z2.set i (⟨K, K + 1, K + 2, K + 3, y.v⟩ : Nd)).length = ns.length := by simp [l2]
    have r3 : ∀ j, j ≠ i → (z2.set i (⟨K, K + 1, K + 2, K + 3, y.v⟩ : Nd))[j]? = z2[j]? := fun j hj => by rw [List.getElem?_set, if_neg (fun h => hj h.symm)]
    generalize z3e : z2.set i (⟨K, K + 1, K + 2, K + 3, y.v⟩ : Nd) = z3 at *
    (conv => whnf)
    rw [e4]
    refine ref_at (k := i) (by simp) (by simp; omega) ?_
    (conv => whnf)
    refine st_at (k := i) (by simp) q3 (by simp [cN]) ?_
    dsimp only
    rw [ei, cN_set4]
    have q4 : (z3.set i (⟨K, K + 1, K + 2, K + 3, K + 4⟩ : Nd))[i]? = some (⟨K, K + 1, K + 2, K + 3, K + 4⟩ : Nd) := by rw [List.getElem?_set]; simp [l3, h1]
    have l4 : (z3.set i (⟨K, K + 1, K + 2, K + 3, K + 4⟩ : Nd)).length = ns.length := by simp [l3]
    have r4 : ∀ j, j ≠ i → (z3.set i (⟨K, K + 1, K + 2, K + 3, K + 4⟩ : Nd))[j]? = z3[j]? := fun j hj => by rw [List.getElem?_set, if_neg (fun h => hj h.symm)]
    generalize z4e : z3.set i (⟨K, K + 1, K + 2, K + 3, K + 4⟩ : Nd) = z4 at *
    (conv => whnf)
    rw [e5]
    refine ⟨(i + 1, z4), by dsimp only; omega, ⟨by dsimp only; omega, l4, fun j hlt => ?_⟩, ?_⟩
    · dsimp only at hlt ⊢
      rcases Nat.lt_or_ge j i with q | q
      · rw [r4 j (by omega), r3 j (by omega), r2 j (by omega), r1 j (by omega), r0 j (by omega), hj j q]
      · obtain rfl : j = i := by omega
        rw [q4, hK]
    · ((conv => whnf); simp only [St.mk.injEq, List.cons.injEq, Prod.mk.injEq, AV.c.injEq, AV.agg.injEq, AV.tup.injEq, CV.d.injEq, D.int.injEq, D.bool.injEq, D.str.injEq, D.sl.injEq, Ent.arr.injEq, Ent.box.injEq, true_and, and_true, and_self, nInt_eq, Int.natCast_zero, dLen_eL, sLen_eq, wI h1 (by omega)])
      omega
  · obtain rfl : i = ns.length := by omega
    have : ys = marksN k ns.length := by
      apply List.ext_getElem?
      intro j
      rcases Nat.lt_or_ge j ns.length with q | q
      · rw [hj j q, marksN_get _ _ _ q]
      · rw [List.getElem?_eq_none (by omega), List.getElem?_eq_none (by rw [marksN_len]; omega)]
    subst this
    (conv => whnf)
end Go.H.S
namespace Go.H.S
open Go Go.Proofs Go.H
attribute [local irreducible] Tri FnSpec FnSpecM FnSpecX FnSpecJ
set_option maxRecDepth 100000
set_option linter.unusedSimpArgs false
set_option linter.unusedVariables false


theorem eL_set2 {α : Type} (f : α → List D) (xs : List α) (i : Nat) (y : α) : (eL f xs).set i (f y) = eL f (xs.set i y) := by rw [← eL_set]; unfold dSet; rfl
theorem set_keep {α : Type} {xs : List α} {i j : Nat} {y : α} (h : j ≠ i) : (xs.set i y)[j]? = xs[j]? := by rw [List.getElem?_set, if_neg (fun q => h q.symm)]
theorem costL_take {α : Type} (f : α → Nat) : ∀ (xs : List α) (i : Nat) (x : α), xs[i]? = some x → costL f (xs.take (i + 1)) = costL f (xs.take i) + f x
  | [], i, x, h => by simp at h
  | y :: r, 0, x, h => by simp at h; subst h; simp [costL]
  | y :: r, i + 1, x, h => by
    simp only [List.getElem?_cons_succ] at h
    simp only [List.take_succ_cons, costL]
    rw [costL_take f r i x h]
    omega
theorem costL_take_le {α : Type} (f : α → Nat) : ∀ (xs : List α) (i : Nat), costL f (xs.take i) ≤ costL f xs
  | [], i => by simp
  | y :: r, 0 => by simp [costL]
  | y :: r, i + 1 => by
    simp only [List.take_succ_cons, costL]
    have := costL_take_le f r i
    omega

theorem toTreeS_nest (xs : List (List Nd)) (hx : xs.length ≤ 4000000000) (hs : ∀ s ∈ xs, s.length ≤ 4000000000) :
    FnSpec PR f_laws_toTreeS [.c (.d (.sl 1 (eL cT xs)))] (.c (.ref 0 0 none)) [(0, .arr t_impl_Tree 1 0 (.nest [t_impl_Node]) (eL cT xs))] 1 := by
  refine FnSpec.intro hTn p_laws_toTreeS rfl (by kernel_rfl) n_laws_toTreeS rfl ?_
  conv => whnf
  refine ⟨by simp; omega, ?_⟩
  (conv => whnf)
  refine tri_loop hTn [0, 3, 4] (α := Nat × List (List D)) (fun x => { t := [(0, .c (.d (.sl 1 (eL cT xs)))), (3, .c (.ref 0 0 none)), (4, ai (nInt x.1))], h := [(0, .arr t_impl_Tree 1 0 (.nest [t_impl_Node]) x.2)], n := 1, N := 23 })
    (fun x => x.1 ≤ xs.length ∧ Fill cT 1 xs x.1 x.2) (fun x => xs.length - x.1) (0, _) (by ((conv => whnf); simp only [St.mk.injEq, List.cons.injEq, Prod.mk.injEq, AV.c.injEq, AV.agg.injEq, AV.tup.injEq, CV.d.injEq, D.int.injEq, D.bool.injEq, D.str.injEq, D.sl.injEq, Ent.arr.injEq, Ent.box.injEq, true_and, and_true, and_self, nInt_eq, Int.natCast_zero, dLen_eL, sLen_eq]); rfl) ⟨by omega, Fill.start cT xs rfl⟩ ?_
  intro ⟨k, es⟩ ⟨hk, hf⟩
  dsimp only at hk hf
  have hl := hf.len
  (conv => whnf)
  refine ifB_i (fun h1 => ?_) (fun h1 => ?_) <;> (conv => whnf) <;> simp at h1
  · obtain ⟨s, hs'⟩ := get_lt h1
    refine idx_at (by simp) hs' ?_
    (conv => whnf)
    refine .inl ⟨_, _, _, toTree_spec s (hs s (List.mem_of_getElem? hs')), rfl, ?_⟩
    (conv => whnf)
    refine ⟨by simp only [lenRE_none, dLen_len, hl, InB_eq, nInt_eq]; omega, ?_⟩
    (conv => whnf)
    refine ⟨flat_cN s, fun c' hc' => ?_⟩
    have hr := hf.room hc'
    refine ⟨by simp; omega, ?_⟩
    rw [dOver_all (by rw [hr]; rfl)]
    (conv => whnf)
    refine ⟨(k + 1, dSet es k (cT s)), by dsimp only; omega, ⟨h1, hf.step hs' rfl⟩, ?_⟩
    ((conv => whnf); simp only [St.mk.injEq, List.cons.injEq, Prod.mk.injEq, AV.c.injEq, AV.agg.injEq, AV.tup.injEq, CV.d.injEq, D.int.injEq, D.bool.injEq, D.str.injEq, D.sl.injEq, Ent.arr.injEq, Ent.box.injEq, true_and, and_true, and_self, nInt_eq, Int.natCast_zero, dLen_eL, sLen_eq, wI h1 (by omega), nAdd_eq, nOf_eq, Int.toNat_natCast, offR, Nat.zero_add])
    rfl
  · obtain rfl : k = xs.length := by omega
    rw [hf.done]

theorem toIntSS_nest (xs : List (List Int)) (hx : xs.length ≤ 4000000000) (hs : ∀ s ∈ xs, s.length ≤ 4000000000) :
    FnSpec PR f_laws_toIntSS [.c (.d (.sl 1 (eL cIs xs)))] (.c (.ref 0 0 none)) [(0, .arr t_Lint 1 0 (.nest [t_int]) (eL cIs xs))] 1 := by
  refine FnSpec.intro hTn p_laws_toIntSS rfl (by kernel_rfl) n_laws_toIntSS rfl ?_
  conv => whnf
  refine ⟨by simp; omega, ?_⟩
  (conv => whnf)
  refine tri_loop hTn [0, 3, 4] (α := Nat × List (List D)) (fun x => { t := [(0, .c (.d (.sl 1 (eL cIs xs)))), (3, .c (.ref 0 0 none)), (4, ai (nInt x.1))], h := [(0, .arr t_Lint 1 0 (.nest [t_int]) x.2)], n := 1, N := 23 })
    (fun x => x.1 ≤ xs.length ∧ Fill cIs 1 xs x.1 x.2) (fun x => xs.length - x.1) (0, _) (by ((conv => whnf); simp only [St.mk.injEq, List.cons.injEq, Prod.mk.injEq, AV.c.injEq, AV.agg.injEq, AV.tup.injEq, CV.d.injEq, D.int.injEq, D.bool.injEq, D.str.injEq, D.sl.injEq, Ent.arr.injEq, Ent.box.injEq, true_and, and_true, and_self, nInt_eq, Int.natCast_zero, dLen_eL, sLen_eq]); rfl) ⟨by omega, Fill.start cIs xs rfl⟩ ?_
  intro ⟨k, es⟩ ⟨hk, hf⟩
  dsimp only at hk hf
  have hl := hf.len
  (conv => whnf)
  refine ifB_i (fun h1 => ?_) (fun h1 => ?_) <;> (conv => whnf) <;> simp at h1
  · obtain ⟨s, hs'⟩ := get_lt h1
    refine idx_at (by simp) hs' ?_
    (conv => whnf)
    refine .inl ⟨_, _, _, toIntS_spec s (hs s (List.mem_of_getElem? hs')), rfl, ?_⟩
    (conv => whnf)
    refine ⟨by simp only [lenRE_none, dLen_len, hl, InB_eq, nInt_eq]; omega, ?_⟩
    (conv => whnf)
    refine ⟨flat_cI s, fun c' hc' => ?_⟩
    have hr := hf.room hc'
    refine ⟨by simp; omega, ?_⟩
    rw [dOver_all (by rw [hr]; rfl)]
    (conv => whnf)
    refine ⟨(k + 1, dSet es k (cIs s)), by dsimp only; omega, ⟨h1, hf.step hs' rfl⟩, ?_⟩
    ((conv => whnf); simp only [St.mk.injEq, List.cons.injEq, Prod.mk.injEq, AV.c.injEq, AV.agg.injEq, AV.tup.injEq, CV.d.injEq, D.int.injEq, D.bool.injEq, D.str.injEq, D.sl.injEq, Ent.arr.injEq, Ent.box.injEq, true_and, and_true, and_self, nInt_eq, Int.natCast_zero, dLen_eL, sLen_eq, wI h1 (by omega), nAdd_eq, nOf_eq, Int.toNat_natCast, offR, Nat.zero_add])
    rfl
  · obtain rfl : k = xs.length := by omega
    rw [hf.done]

theorem toModel_nest (x : Mdl) (ho : smModel x) : FnSpec PR f_laws_toModel [aM x] (.agg [.ref 0 0 none, .ref 1 0 none, .d (.int .i64 x.base), .ref 2 0 none]) [(0, .arr t_string 1 0 .own (eL cS x.names)), (1, .arr t_int 1 0 .own (eL cI x.signs)), (2, .arr t_impl_Tree 1 0 (.nest [t_impl_Node]) (eL cT x.trees))] 3 := by
  obtain ⟨o0, o1, o2⟩ := ho
  refine FnSpec.intro hTn p_laws_toModel rfl (by kernel_rfl) n_laws_toModel rfl ?_
  conv => whnf
  refine .inl ⟨_, _, _, toStringS_spec x.names o0, rfl, ?_⟩
  (conv => whnf)
  refine .inl ⟨_, _, _, toIntS_spec x.signs o1, rfl, ?_⟩
  (conv => whnf)
  refine .inl ⟨_, _, _, toTreeS_nest x.trees o2.1 o2.2, rfl, ?_⟩
  (conv => whnf)

theorem toGrid_nest (x : Grd) (ho : smGrid x) : FnSpec PR f_laws_toGrid [aG x] (.agg [.ref 0 0 none, .ref 1 0 none]) [(0, .arr t_Lint 1 0 (.nest [t_int]) (eL cIs x.cuts)), (1, .arr t_Lint 1 0 (.nest [t_int]) (eL cIs x.bins))] 2 := by
  obtain ⟨o0, o1⟩ := ho
  refine FnSpec.intro hTn p_laws_toGrid rfl (by kernel_rfl) n_laws_toGrid rfl ?_
  conv => whnf
  refine .inl ⟨_, _, _, toIntSS_nest x.cuts o0.1 o0.2, rfl, ?_⟩
  (conv => whnf)
  refine .inl ⟨_, _, _, toIntSS_nest x.bins o1.1 o1.2, rfl, ?_⟩
  (conv => whnf)

theorem markTreeS_lost (xs : List (List Nd)) (k : Int) (hk : 0 < k ∧ k + 5 * costL List.length xs ≤ 1000000000000) (hx : xs.length ≤ 1000000000) (hxs : ∀ t ∈ xs, t.length ≤ 1000000000) :
    FnSpecJ PR f_laws_markTreeS [.c (.ref 0 0 none), ai k] [(0, .arr t_impl_Tree 1 0 (.nest [t_impl_Node]) (eL cT xs))] 1 (ai (k + 5 * costL List.length xs)) := by
  refine FnSpecJ.intro hTn p_laws_markTreeS rfl (by kernel_rfl) n_laws_markTreeS rfl rfl rfl ?_
  (conv => whnf)
  refine tri_loop hTn [0, 1, 5] (α := Nat × List (List Nd)) (fun x => { t := [(0, .c (.ref 0 0 none)), (1, ai (k + 5 * costL List.length (xs.take x.1))), (5, ai x.1)], h := [(0, .arr t_impl_Tree 1 0 (.nest [t_impl_Node]) (eL cT x.2))], n := 1, N := 20 })
    (fun x => x.1 ≤ xs.length ∧ x.2.length = xs.length ∧ ∀ j, x.1 ≤ j → x.2[j]? = xs[j]?) (fun x => xs.length - x.1) (0, xs) (by ((conv => whnf); simp only [St.mk.injEq, List.cons.injEq, Prod.mk.injEq, AV.c.injEq, AV.agg.injEq, AV.tup.injEq, CV.d.injEq, D.int.injEq, D.bool.injEq, D.str.injEq, D.sl.injEq, Ent.arr.injEq, Ent.box.injEq, true_and, and_true, and_self, nInt_eq, Int.natCast_zero, dLen_eL, sLen_eq]); simp [costL]) ⟨Nat.zero_le _, rfl, fun j _ => rfl⟩ ?_
  intro ⟨i, ys⟩ ⟨hi, hl, hj⟩
  dsimp only at hi hl hj
  (conv => whnf)
  refine ifB_i (fun h1 => ?_) (fun h1 => ?_) <;> (conv => whnf) <;> simp at h1
  · obtain ⟨y, hy⟩ := get_lt h1
    have hyx : xs[i]? = some y := by rw [← hj i (Nat.le_refl _)]; exact hy
    have hyl := hxs y (List.mem_of_getElem? hyx)
    have hc := costL_take List.length xs i y hyx
    have hc2 := costL_take_le List.length xs (i + 1)
    refine ref_at (k := i) (by simp) (by simp; omega) ?_
    (conv => whnf)
    refine ld_at (k := i) (by simp) hy ?_
    (conv => whnf)
    refine ⟨i, 0, cT y, 5, eL cN y, t_impl_Node, by simp, by decide, by rw [eL_get, hy]; rfl, rfl, rfl, _, _, markNodeS_spec y _ (by dsimp only; omega) hyl, ?_⟩
    (conv => whnf)
    rw [show (eL cT ys).set i ((cT y).set 0 (.sl 5 (eL cN (marksN (k + 5 * costL List.length (xs.take i)) y.length)))) = eL cT (ys.set i (marksN (k + 5 * costL List.length (xs.take i)) y.length)) from eL_set2 cT ys i _]
    (conv => whnf)
    refine ⟨(i + 1, ys.set i (marksN (k + 5 * costL List.length (xs.take i)) y.length)), by dsimp only; omega, ⟨by dsimp only; omega, by simp [hl], fun j hlt => ?_⟩, ?_⟩
    · dsimp only at hlt ⊢
      rw [set_keep (by omega)]
      exact hj j (by omega)
    · ((conv => whnf); simp only [St.mk.injEq, List.cons.injEq, Prod.mk.injEq, AV.c.injEq, AV.agg.injEq, AV.tup.injEq, CV.d.injEq, D.int.injEq, D.bool.injEq, D.str.injEq, D.sl.injEq, Ent.arr.injEq, Ent.box.injEq, true_and, and_true, and_self, nInt_eq, Int.natCast_zero, dLen_eL, sLen_eq, wI h1 (by omega)])
      rw [hc]; omega
  · obtain rfl : i = xs.length := by omega
    rw [show xs.take xs.length = xs by simp]

theorem markModel_lost (x : Mdl) (hn : x.names.length ≤ 1048576) (hs : x.signs.length ≤ 1048576) (ht : x.trees.length ≤ 1048576) (hc : costL List.length x.trees ≤ 1048576) :
    FnSpecJ PR f_laws_markModel [.agg [.ref 0 0 none, .ref 1 0 none, .d (.int .i64 x.base), .ref 2 0 none], ai 1] [(0, .arr t_string 1 0 .own (eL cS x.names)), (1, .arr t_int 1 0 .own (eL cI x.signs)), (2, .arr t_impl_Tree 1 0 (.nest [t_impl_Node]) (eL cT x.trees))] 3 (ai (1 + x.names.length + x.signs.length + 5 * costL List.length x.trees)) := by
  refine FnSpecJ.intro hTn p_laws_markModel rfl (by kernel_rfl) n_laws_markModel rfl rfl rfl ?_
  (conv => whnf)
  refine .inr (.inr (.inl ⟨0, ?_⟩))
  (conv => whnf)
  refine .inl ⟨_, _, markStringS_spec x.names 1 (by omega) (by omega), ?_⟩
  (conv => whnf)
  refine .inr (.inr (.inl ⟨1, ?_⟩))
  (conv => whnf)
  refine .inl ⟨_, _, markIntS_spec x.signs (1 + x.names.length) (by omega) (by omega), ?_⟩
  (conv => whnf)
  refine .inr (.inr (.inr (.inl ⟨[(2, 0)], ?_⟩)))
  (conv => whnf)
  refine ⟨[.c (.ref 0 0 none), ai (1 + x.names.length + x.signs.length)], _, ⟨rfl, rfl, rfl⟩, markTreeS_lost x.trees _ (by omega) (by omega) (fun t h => by have := costL_mem List.length h; omega), ?_⟩
  (conv => whnf)
end Go.H.S
