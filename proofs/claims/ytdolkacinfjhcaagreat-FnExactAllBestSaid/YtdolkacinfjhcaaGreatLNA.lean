/- Library, part A: how data are laid; sizes. -/
import Derived.Test.YtdolkacinfjhcaaGreatNm
namespace Go.H.S
open Go Go.Proofs Go.H
attribute [local irreducible] Tri FnSpec FnSpecM
set_option maxRecDepth 100000
set_option linter.unusedSimpArgs false
set_option linter.unusedVariables false

abbrev ai (n : Int) : AV := .c (.d (.int .i64 n))
abbrev ab (b : Bool) : AV := .c (.d (.bool b))
abbrev aS (s : ByteArray) : AV := .c (.d (.str s))
structure Nd where
  f : Int
  c : Int
  l : Int
  r : Int
  v : Int
  deriving DecidableEq, Inhabited
def cS (s : ByteArray) : List D := [.str s]
def cI (n : Int) : List D := [.int .i64 n]
def cN (n : Nd) : List D := [.int .i64 n.f, .int .i64 n.c, .int .i64 n.l, .int .i64 n.r, .int .i64 n.v]
def cT (t : List Nd) : List D := [.sl 5 (eL cN t)]
abbrev aSs (xs : List ByteArray) : AV := .c (.d (.sl 1 (eL cS xs)))
abbrev aIs (xs : List Int) : AV := .c (.d (.sl 1 (eL cI xs)))
abbrev aNs (xs : List Nd) : AV := .c (.d (.sl 5 (eL cN xs)))
abbrev aTs (xs : List (List Nd)) : AV := .c (.d (.sl 1 (eL cT xs)))
abbrev cNd (n : Nd) : List CV := [.d (.int .i64 n.f), .d (.int .i64 n.c), .d (.int .i64 n.l), .d (.int .i64 n.r), .d (.int .i64 n.v)]
abbrev aN (n : Nd) : AV := .agg (cNd n)
abbrev cTr (t : List Nd) : List CV := [.d (.sl 5 (eL cN t))]
abbrev aT (t : List Nd) : AV := .agg (cTr t)

def cIs (xs : List Int) : List D := [.sl 1 (eL cI xs)]
def cSs (xs : List ByteArray) : List D := [.sl 1 (eL cS xs)]
abbrev aIss (xs : List (List Int)) : AV := .c (.d (.sl 1 (eL cIs xs)))
structure Mdl where
  names : List ByteArray
  signs : List Int
  base : Int
  trees : List (List Nd)
structure Tbl where
  names : List ByteArray
  target : ByteArray
  rows : List (List Int)
  ys : List Int
structure Cfg where
  rounds : Int
  depth : Int
  bins : Int
  lambda : Int
  rows : Int
  num : Int
  den : Int
  signs : List Int
structure Grd where
  cuts : List (List Int)
  bins : List (List Int)
abbrev cM (m : Mdl) : List CV := [.d (.sl 1 (eL cS m.names)), .d (.sl 1 (eL cI m.signs)), .d (.int .i64 m.base), .d (.sl 1 (eL cT m.trees))]
abbrev aM (m : Mdl) : AV := .agg (cM m)
abbrev cTb (t : Tbl) : List CV := [.d (.sl 1 (eL cS t.names)), .d (.str t.target), .d (.sl 1 (eL cIs t.rows)), .d (.sl 1 (eL cI t.ys))]
abbrev aTb (t : Tbl) : AV := .agg (cTb t)
abbrev cCf (c : Cfg) : List CV := [.d (.int .i64 c.rounds), .d (.int .i64 c.depth), .d (.int .i64 c.bins), .d (.int .i64 c.lambda), .d (.int .i64 c.rows), .d (.int .i64 c.num), .d (.int .i64 c.den), .d (.sl 1 (eL cI c.signs))]
abbrev aCf (c : Cfg) : AV := .agg (cCf c)
abbrev cG (g : Grd) : List CV := [.d (.sl 1 (eL cIs g.cuts)), .d (.sl 1 (eL cIs g.bins))]
abbrev aG (g : Grd) : AV := .agg (cG g)

/-- Behind a test of an index: the element. -/
theorem idx_at {α : Type} {f : α → List D} {xs : List α} {n : Int} {k : Nat} {x : α} {K : List D → Prop} (hn : n = (k : Int)) (hx : xs[k]? = some x) (h : K (f x)) : InB n (dLen (eL f xs)) ∧ ∀ c, AtD (eL f xs) (nOf n) c → K c := by
  subst hn
  have hlt := (List.getElem?_eq_some_iff.1 hx).1
  refine ⟨by simp; omega, fun c hc => ?_⟩
  obtain ⟨y, hy, rfl⟩ := at_eL hc
  simp only [nOf_eq, Int.toNat_natCast] at hy
  rw [hx] at hy
  cases hy
  exact h
theorem eL_length {α : Type} (f : α → List D) (xs : List α) : (eL f xs).length = xs.length := by rw [← dLen_len]; simp
theorem eL_get {α : Type} (f : α → List D) (xs : List α) (k : Nat) : (eL f xs)[k]? = (xs[k]?).map f := by rw [eL]; simp
theorem eL_nil {α : Type} (f : α → List D) : eL f [] = [] := by rw [eL]; rfl
theorem eL_cons {α : Type} (f : α → List D) (x : α) (xs : List α) : eL f (x :: xs) = f x :: eL f xs := by rw [eL, eL]; rfl
theorem dApp_eq (es fs : List (List D)) : dApp es fs = es ++ fs := by rw [dApp]
theorem dApp_nil (es : List (List D)) : dApp [] es = es := by rw [dApp_eq]; rfl
theorem dApp_cons (c : List D) (es fs : List (List D)) : dApp (c :: es) fs = c :: dApp es fs := by rw [dApp_eq, dApp_eq]; rfl
theorem iMin_eq (x y : Int) : iMin x y = min x y := by unfold iMin; split <;> omega
theorem iMax_eq (x y : Int) : iMax x y = max x y := by unfold iMax; split <;> omega
/-- The same for a row of the frame's own: an index, a read, a store. -/
theorem ref_at {n : Int} {k m : Nat} {K : Prop} (hn : n = (k : Int)) (hk : k < m) (h : K) : InB n m ∧ K := ⟨by subst hn; simp; omega, h⟩
theorem ld_at {α : Type} {f : α → List D} {xs : List α} {k' k : Nat} {x : α} {K : List D → Prop} (hk : k' = k) (hx : xs[k]? = some x) (h : K (f x)) : ∀ c, (eL f xs)[k']? = some c → K c := fun c hc => by
  rw [hk, eL_get, hx] at hc
  cases hc
  exact h
theorem st_at {α : Type} {f : α → List D} {xs : List α} {k' k j n : Nat} {x : α} {K : List D → Prop} (hk : k' = k) (hx : xs[k]? = some x) (hr : j + n ≤ (f x).length) (h : K (f x)) : ∀ c, AtD (eL f xs) k' c → dRoom j n c ∧ K c := fun c hc => by
  have hc' : (eL f xs)[k']? = some c := by unfold AtD at hc; exact hc
  rw [hk, eL_get, hx] at hc'
  cases hc'
  exact ⟨by simpa using hr, h⟩
theorem cI_set (xs : List Int) (k : Nat) (x y : Int) : dSet (eL cI xs) k (dOver (cI x) 0 [.int .i64 y]) = eL cI (xs.set k y) := by
  rw [dOver_all (by rfl)]; exact eL_set cI xs k y
theorem flat_cI (xs : List Int) : FlatR (eL cI xs) := fun c hc d hd => by
  rw [eL] at hc
  obtain ⟨x, _, rfl⟩ := List.mem_map.1 hc
  simp [cI] at hd
  subst hd; rfl
theorem get_lt {α : Type} {l : List α} {k : Nat} (h : k < l.length) : ∃ x, l[k]? = some x := ⟨_, List.getElem?_eq_getElem h⟩

/-- What is left of a budget. -/
@[irreducible] def bud (m : Int) (c : Nat) : Int := if (c : Int) ≤ m then m - c else -1
theorem bud_lt {m : Int} {c : Nat} (h : m < c) : bud m c = -1 := by simp only [bud]; rw [if_neg (by omega)]
theorem bud_le {m : Int} {c : Nat} (h : (c : Int) ≤ m) : bud m c = m - c := by simp only [bud]; rw [if_pos h]
theorem bud_step {m : Int} {c r : Nat} (h : (c : Int) ≤ m) : bud m (c + r) = bud (m - c) r := by
  simp only [bud]
  by_cases h' : ((c + r : Nat) : Int) ≤ m
  · rw [if_pos h', if_pos (by omega)]; omega
  · rw [if_neg h', if_neg (by omega)]
theorem bud_zero {m : Int} (h : 0 ≤ m) : bud m 0 = m := by simp [bud, h]
theorem bud_neg {m : Int} {c r : Nat} (h : bud m c < 0) : bud m (c + r) = -1 := by
  simp only [bud] at *
  split at h
  · omega
  · rw [if_neg (by omega)]
theorem bud_pos {m : Int} {c : Nat} (h : 0 ≤ bud m c) : (c : Int) ≤ m ∧ bud m c = m - c := by
  simp only [bud] at *
  split at h
  · rename_i hc; exact ⟨hc, by rw [if_pos hc]⟩
  · omega
theorem bud_m1 {m : Int} {c : Nat} (h : bud m c < 0) : bud m c = -1 := by
  simp only [bud] at *
  split at h
  · omega
  · rename_i hc; rw [if_neg hc]
theorem bud_mono {m : Int} {c : Nat} (h : m ≤ 1048576) : bud m c ≤ 1048576 := by
  simp only [bud]
  split <;> omega
theorem bud_bud {m : Int} {a b : Nat} (h : 0 ≤ bud m a) : bud (bud m a) b = bud m (a + b) := by
  obtain ⟨h1, h2⟩ := bud_pos h
  rw [h2, bud_step h1]

def costL {α : Type} (f : α → Nat) : List α → Nat
  | [] => 0
  | x :: r => f x + costL f r
/-- A slice's size: its length and its elements' sizes. -/
@[irreducible] def cost {α : Type} (f : α → Nat) (l : List α) : Nat := l.length + costL f l
theorem cost_eq {α : Type} (f : α → Nat) (l : List α) : cost f l = l.length + costL f l := by rw [cost]

theorem bud_more {m : Int} {c d : Nat} (h : bud m c = -1) (hd : c ≤ d) : bud m d = -1 := by
  simp only [bud] at *
  split at h
  · omega
  · rw [if_neg (by omega)]
theorem bud_slt {m : Int} {c s : Nat} (h : bud m c - s < 0) (g : 0 ≤ bud m c) : bud m (c + s) = -1 := by
  obtain ⟨h1, h2⟩ := bud_pos g
  exact bud_lt (by omega)
theorem bud_sle {m : Int} {c s : Nat} (h : 0 ≤ bud m c - s) (g : 0 ≤ bud m c) : bud m c - s = bud m (c + s) := by
  obtain ⟨h1, h2⟩ := bud_pos g
  rw [bud_le (show ((c + s : Nat) : Int) ≤ m by omega)]; omega
theorem wI {k n : Nat} (h : k < n) (hn : n ≤ 9223372036854775807) : wAdd .i64 (k : Int) 1 = ((k + 1 : Nat) : Int) := by
  have := wInc h hn
  simpa using this
theorem toNode_spec (n : Nd) : FnSpec PR f_laws_toNode [aN n] (aN n) [] 0 := by
  refine FnSpec.intro hT p_laws_toNode rfl (by kernel_rfl) n_laws_toNode rfl ?_
  conv => whnf
theorem eqNode_spec (n : Nd) : FnSpec PR f_laws_eqNode [aN n, aN n] (ab true) [] 0 := by
  refine FnSpec.intro hT p_laws_eqNode rfl (by kernel_rfl) n_laws_eqNode rfl ?_
  conv => whnf
  iterate 5
    refine ifB_i (fun hb => ?_) (fun hb => ?_)
    · simp at hb
    (conv => whnf)
end Go.H.S
namespace Go.H.S
open Go Go.Proofs Go.H
attribute [local irreducible] Tri FnSpec FnSpecM
set_option maxRecDepth 100000
set_option linter.unusedSimpArgs false
set_option linter.unusedVariables false


theorem szIntS_spec (xs : List Int) (n : Int) (h0 : 0 ≤ n) (hn : n ≤ 1048576) (hx : xs.length ≤ 9223372036854775807) :
    FnSpec PR f_laws_szIntS [.c (.d (.sl 1 (eL cI xs))), ai n] (ai (bud n xs.length)) [] 0 := by
  refine FnSpec.intro hT p_laws_szIntS rfl (by kernel_rfl) n_laws_szIntS rfl ?_
  conv => whnf
  have e : wSub .i64 n xs.length = n - xs.length := wSub64 (by omega) (by omega)
  refine ifB_i (fun hb => ?_) (fun hb => ?_) <;> (conv => whnf) <;> simp only [nInt_eq, Int.natCast_zero, dLen_eL, sLen_eq, nOf_eq, Int.toNat_natCast, nAdd_eq, nSub_eq, dLen_nil, dLen_cons, iLt_t, iLt_f, iLe_t, iLe_f, iEq_t, iEq_f, sEq_t, sEq_f, bNot_t, bNot_f, bAnd_t, bEq_t, bEq_f, Bool.not_eq_true, Bool.not_eq_false, Bool.true_eq_false, Bool.false_eq_true, e] at hb
  · rw [bud_lt (by omega)]
  · ((conv => whnf); simp only [St.mk.injEq, List.cons.injEq, Prod.mk.injEq, AV.c.injEq, AV.agg.injEq, AV.tup.injEq, CV.d.injEq, D.int.injEq, D.bool.injEq, D.str.injEq, D.sl.injEq, Ent.arr.injEq, Ent.box.injEq, true_and, and_true, and_self, nInt_eq, Int.natCast_zero, dLen_eL, sLen_eq, e, bud_le (show (xs.length : Int) ≤ n by omega)])


theorem toIntS_spec (xs : List (Int)) (hx : xs.length ≤ 4000000000) :
    FnSpec PR f_laws_toIntS [.c (.d (.sl 1 (eL cI xs)))] (.c (.ref 0 0 none)) [(0, .arr t_int 1 0 .own (eL cI xs))] 1 := by
  refine FnSpec.intro hT p_laws_toIntS rfl (by kernel_rfl) n_laws_toIntS rfl ?_
  conv => whnf
  refine ⟨by simp; omega, ?_⟩
  (conv => whnf)
  refine tri_loop hT [0, 3, 4] (α := Nat × List (List D)) (fun x => { t := [(0, .c (.d (.sl 1 (eL cI xs)))), (3, .c (.ref 0 0 none)), (4, ai (nInt x.1))], h := [(0, .arr t_int 1 0 .own x.2)], n := 1, N := 22 })
    (fun x => x.1 ≤ xs.length ∧ Fill cI 1 xs x.1 x.2) (fun x => xs.length - x.1) (0, _) (by ((conv => whnf); simp only [St.mk.injEq, List.cons.injEq, Prod.mk.injEq, AV.c.injEq, AV.agg.injEq, AV.tup.injEq, CV.d.injEq, D.int.injEq, D.bool.injEq, D.str.injEq, D.sl.injEq, Ent.arr.injEq, Ent.box.injEq, true_and, and_true, and_self, nInt_eq, Int.natCast_zero, dLen_eL, sLen_eq]); rfl) ⟨by omega, Fill.start cI xs rfl⟩ ?_
  intro ⟨k, es⟩ ⟨hk, hf⟩
  dsimp only at hk hf
  have hl := hf.len
  (conv => whnf)
  refine ifB_i (fun h1 => ?_) (fun h1 => ?_) <;> (conv => whnf) <;> simp at h1
  · obtain ⟨s, hs'⟩ := get_lt h1
    refine idx_at (by simp) hs' ?_
    (conv => whnf)
    refine ⟨by simp only [lenRE_none, dLen_len, hl, InB_eq, nInt_eq]; omega, ?_⟩
    (conv => whnf)
    intro c' hc'
    have hr := hf.room hc'
    refine ⟨by simp; omega, ?_⟩
    rw [dOver_all (by rw [hr]; rfl)]
    (conv => whnf)
    refine ⟨(k + 1, dSet es k (cI s)), by dsimp only; omega, ⟨h1, hf.step hs' rfl⟩, ?_⟩
    ((conv => whnf); simp only [St.mk.injEq, List.cons.injEq, Prod.mk.injEq, AV.c.injEq, AV.agg.injEq, AV.tup.injEq, CV.d.injEq, D.int.injEq, D.bool.injEq, D.str.injEq, D.sl.injEq, Ent.arr.injEq, Ent.box.injEq, true_and, and_true, and_self, nInt_eq, Int.natCast_zero, dLen_eL, sLen_eq, wI h1 (by omega), nAdd_eq, nOf_eq, Int.toNat_natCast, offR, Nat.zero_add])
    rfl
  · obtain rfl : k = xs.length := by omega
    rw [hf.done]


theorem eqIntS_spec (xs : List (Int)) (hx : xs.length ≤ 9223372036854775807) : FnSpec PR f_laws_eqIntS [.c (.d (.sl 1 (eL cI xs))), .c (.d (.sl 1 (eL cI xs)))] (ab true) [] 0 := by
  refine FnSpec.intro hT p_laws_eqIntS rfl (by kernel_rfl) n_laws_eqIntS rfl ?_
  conv => whnf
  refine ifB_i (fun hb => ?_) (fun hb => ?_)
  · simp at hb
  (conv => whnf)
  refine tri_loop hT [0, 1, 5] (α := Nat) (fun x => { t := [(0, .c (.d (.sl 1 (eL cI xs)))), (1, .c (.d (.sl 1 (eL cI xs)))), (5, ai (nInt x))], h := [], n := 0, N := 26 })
      (fun x => x ≤ xs.length) (fun x => xs.length - x) 0 (by ((conv => whnf); simp only [St.mk.injEq, List.cons.injEq, Prod.mk.injEq, AV.c.injEq, AV.agg.injEq, AV.tup.injEq, CV.d.injEq, D.int.injEq, D.bool.injEq, D.str.injEq, D.sl.injEq, Ent.arr.injEq, Ent.box.injEq, true_and, and_true, and_self, nInt_eq, Int.natCast_zero, dLen_eL, sLen_eq])) (Nat.zero_le _) ?_
  intro k hk
  (conv => whnf)
  refine ifB_i (fun h1 => ?_) (fun h1 => ?_)
  · (conv => whnf)
    simp at h1
    obtain ⟨s, hs'⟩ := get_lt h1
    refine tri_conf hT hmix (by kernel_rfl) ?_
    (conv => whnf)
    refine idx_at (by simp) hs' ?_
    (conv => whnf)
    refine idx_at (by simp) hs' ?_
    (conv => whnf)
    refine ifB_i (fun h2 => ?_) (fun h2 => ?_)
    · simp at h2
    (conv => whnf)
    refine ⟨k + 1, by omega, h1, ?_⟩
    ((conv => whnf); simp only [St.mk.injEq, List.cons.injEq, Prod.mk.injEq, AV.c.injEq, AV.agg.injEq, AV.tup.injEq, CV.d.injEq, D.int.injEq, D.bool.injEq, D.str.injEq, D.sl.injEq, Ent.arr.injEq, Ent.box.injEq, true_and, and_true, and_self, nInt_eq, Int.natCast_zero, dLen_eL, sLen_eq, wI h1 hx])
  · (conv => whnf)


def okConfig (x : Cfg) : Prop := (x.signs.length ≤ 9223372036854775807)
def smConfig (x : Cfg) : Prop := (x.signs.length ≤ 4000000000)


def costConfig (x : Cfg) : Nat := x.signs.length


theorem szConfig_spec (x : Cfg) (n : Int) (h0 : 0 ≤ n) (hn : n ≤ 1048576) (ho : okConfig x) : FnSpec PR f_laws_szConfig [aCf x, ai n] (ai (bud n (costConfig x))) [] 0 := by
  have o0 := ho
  refine FnSpec.intro hT p_laws_szConfig rfl (by kernel_rfl) n_laws_szConfig rfl ?_
  conv => whnf
  refine .inl ⟨_, _, _, szIntS_spec x.signs _ h0 hn o0, rfl, ?_⟩
  (conv => whnf)
  refine ifB_i (fun h => ?_) (fun h => ?_) <;> (conv => whnf) <;> simp only [nInt_eq, Int.natCast_zero, dLen_eL, sLen_eq, nOf_eq, Int.toNat_natCast, nAdd_eq, nSub_eq, dLen_nil, dLen_cons, iLt_t, iLt_f, iLe_t, iLe_f, iEq_t, iEq_f, sEq_t, sEq_f, bNot_t, bNot_f, bAnd_t, bEq_t, bEq_f, Bool.not_eq_true, Bool.not_eq_false, Bool.true_eq_false, Bool.false_eq_true] at h
  · rw [costConfig]
    rw [bud_m1 h]
  have g0 : 0 ≤ bud n (x.signs.length) := h
  rw [costConfig]


theorem toConfig_spec (x : Cfg) (ho : smConfig x) : FnSpec PR f_laws_toConfig [aCf x] (.agg [.d (.int .i64 x.rounds), .d (.int .i64 x.depth), .d (.int .i64 x.bins), .d (.int .i64 x.lambda), .d (.int .i64 x.rows), .d (.int .i64 x.num), .d (.int .i64 x.den), .ref 0 0 none]) [(0, .arr t_int 1 0 .own (eL cI x.signs))] 1 := by
  have o0 := ho
  refine FnSpec.intro hT p_laws_toConfig rfl (by kernel_rfl) n_laws_toConfig rfl ?_
  conv => whnf
  refine .inl ⟨_, _, _, toIntS_spec x.signs o0, rfl, ?_⟩
  (conv => whnf)


theorem eqConfig_spec (x : Cfg) (ho : okConfig x) : FnSpec PR f_laws_eqConfig [aCf x, aCf x] (ab true) [] 0 := by
  have o0 := ho
  refine FnSpec.intro hT p_laws_eqConfig rfl (by kernel_rfl) n_laws_eqConfig rfl ?_
  conv => whnf
  refine ifB_i (fun hb => ?_) (fun hb => ?_)
  · simp at hb
  (conv => whnf)
  refine ifB_i (fun hb => ?_) (fun hb => ?_)
  · simp at hb
  (conv => whnf)
  refine ifB_i (fun hb => ?_) (fun hb => ?_)
  · simp at hb
  (conv => whnf)
  refine ifB_i (fun hb => ?_) (fun hb => ?_)
  · simp at hb
  (conv => whnf)
  refine ifB_i (fun hb => ?_) (fun hb => ?_)
  · simp at hb
  (conv => whnf)
  refine ifB_i (fun hb => ?_) (fun hb => ?_)
  · simp at hb
  (conv => whnf)
  refine ifB_i (fun hb => ?_) (fun hb => ?_)
  · simp at hb
  (conv => whnf)
  refine .inl ⟨_, _, _, eqIntS_spec x.signs o0, rfl, ?_⟩
  (conv => whnf)


theorem szNodeS_spec (xs : List Nd) (n : Int) (h0 : 0 ≤ n) (hn : n ≤ 1048576) (hx : xs.length ≤ 9223372036854775807) :
    FnSpec PR f_laws_szNodeS [.c (.d (.sl 5 (eL cN xs))), ai n] (ai (bud n xs.length)) [] 0 := by
  refine FnSpec.intro hT p_laws_szNodeS rfl (by kernel_rfl) n_laws_szNodeS rfl ?_
  conv => whnf
  have e : wSub .i64 n xs.length = n - xs.length := wSub64 (by omega) (by omega)
  refine ifB_i (fun hb => ?_) (fun hb => ?_) <;> (conv => whnf) <;> simp only [nInt_eq, Int.natCast_zero, dLen_eL, sLen_eq, nOf_eq, Int.toNat_natCast, nAdd_eq, nSub_eq, dLen_nil, dLen_cons, iLt_t, iLt_f, iLe_t, iLe_f, iEq_t, iEq_f, sEq_t, sEq_f, bNot_t, bNot_f, bAnd_t, bEq_t, bEq_f, Bool.not_eq_true, Bool.not_eq_false, Bool.true_eq_false, Bool.false_eq_true, e] at hb
  · rw [bud_lt (by omega)]
  · ((conv => whnf); simp only [St.mk.injEq, List.cons.injEq, Prod.mk.injEq, AV.c.injEq, AV.agg.injEq, AV.tup.injEq, CV.d.injEq, D.int.injEq, D.bool.injEq, D.str.injEq, D.sl.injEq, Ent.arr.injEq, Ent.box.injEq, true_and, and_true, and_self, nInt_eq, Int.natCast_zero, dLen_eL, sLen_eq, e, bud_le (show (xs.length : Int) ≤ n by omega)])


theorem toNodeS_spec (xs : List (Nd)) (hx : xs.length ≤ 4000000000) :
    FnSpec PR f_laws_toNodeS [.c (.d (.sl 5 (eL cN xs)))] (.c (.ref 0 0 none)) [(0, .arr t_impl_Node 5 0 .own (eL cN xs))] 1 := by
  refine FnSpec.intro hT p_laws_toNodeS rfl (by kernel_rfl) n_laws_toNodeS rfl ?_
  conv => whnf
  refine ⟨by simp; omega, ?_⟩
  (conv => whnf)
  refine tri_loop hT [0, 3, 4] (α := Nat × List (List D)) (fun x => { t := [(0, .c (.d (.sl 5 (eL cN xs)))), (3, .c (.ref 0 0 none)), (4, ai (nInt x.1))], h := [(0, .arr t_impl_Node 5 0 .own x.2)], n := 1, N := 23 })
    (fun x => x.1 ≤ xs.length ∧ Fill cN 5 xs x.1 x.2) (fun x => xs.length - x.1) (0, _) (by ((conv => whnf); simp only [St.mk.injEq, List.cons.injEq, Prod.mk.injEq, AV.c.injEq, AV.agg.injEq, AV.tup.injEq, CV.d.injEq, D.int.injEq, D.bool.injEq, D.str.injEq, D.sl.injEq, Ent.arr.injEq, Ent.box.injEq, true_and, and_true, and_self, nInt_eq, Int.natCast_zero, dLen_eL, sLen_eq]); rfl) ⟨by omega, Fill.start cN xs rfl⟩ ?_
  intro ⟨k, es⟩ ⟨hk, hf⟩
  dsimp only at hk hf
  have hl := hf.len
  (conv => whnf)
  refine ifB_i (fun h1 => ?_) (fun h1 => ?_) <;> (conv => whnf) <;> simp at h1
  · obtain ⟨s, hs'⟩ := get_lt h1
    refine idx_at (by simp) hs' ?_
    (conv => whnf)
    refine .inl ⟨_, _, _, toNode_spec s, rfl, ?_⟩
    (conv => whnf)
    refine ⟨by simp only [lenRE_none, dLen_len, hl, InB_eq, nInt_eq]; omega, ?_⟩
    (conv => whnf)
    intro c' hc'
    have hr := hf.room hc'
    refine ⟨by simp; omega, ?_⟩
    rw [dOver_all (by rw [hr]; rfl)]
    (conv => whnf)
    refine ⟨(k + 1, dSet es k (cN s)), by dsimp only; omega, ⟨h1, hf.step hs' rfl⟩, ?_⟩
    ((conv => whnf); simp only [St.mk.injEq, List.cons.injEq, Prod.mk.injEq, AV.c.injEq, AV.agg.injEq, AV.tup.injEq, CV.d.injEq, D.int.injEq, D.bool.injEq, D.str.injEq, D.sl.injEq, Ent.arr.injEq, Ent.box.injEq, true_and, and_true, and_self, nInt_eq, Int.natCast_zero, dLen_eL, sLen_eq, wI h1 (by omega), nAdd_eq, nOf_eq, Int.toNat_natCast, offR, Nat.zero_add])
    rfl
  · obtain rfl : k = xs.length := by omega
    rw [hf.done]


theorem eqNodeS_spec (xs : List (Nd)) (hx : xs.length ≤ 9223372036854775807) : FnSpec PR f_laws_eqNodeS [.c (.d (.sl 5 (eL cN xs))), .c (.d (.sl 5 (eL cN xs)))] (ab true) [] 0 := by
  refine FnSpec.intro hT p_laws_eqNodeS rfl (by kernel_rfl) n_laws_eqNodeS rfl ?_
  conv => whnf
  refine ifB_i (fun hb => ?_) (fun hb => ?_)
  · simp at hb
  (conv => whnf)
  refine tri_loop hT [0, 1, 5] (α := Nat) (fun x => { t := [(0, .c (.d (.sl 5 (eL cN xs)))), (1, .c (.d (.sl 5 (eL cN xs)))), (5, ai (nInt x))], h := [], n := 0, N := 27 })
      (fun x => x ≤ xs.length) (fun x => xs.length - x) 0 (by ((conv => whnf); simp only [St.mk.injEq, List.cons.injEq, Prod.mk.injEq, AV.c.injEq, AV.agg.injEq, AV.tup.injEq, CV.d.injEq, D.int.injEq, D.bool.injEq, D.str.injEq, D.sl.injEq, Ent.arr.injEq, Ent.box.injEq, true_and, and_true, and_self, nInt_eq, Int.natCast_zero, dLen_eL, sLen_eq])) (Nat.zero_le _) ?_
  intro k hk
  (conv => whnf)
  refine ifB_i (fun h1 => ?_) (fun h1 => ?_)
  · (conv => whnf)
    simp at h1
    obtain ⟨s, hs'⟩ := get_lt h1
    refine tri_conf hT hmix (by kernel_rfl) ?_
    (conv => whnf)
    refine idx_at (by simp) hs' ?_
    (conv => whnf)
    refine idx_at (by simp) hs' ?_
    (conv => whnf)
    refine ⟨_, _, eqNode_spec s, rfl, ?_⟩
    (conv => whnf)
    refine ⟨k + 1, by omega, h1, ?_⟩
    ((conv => whnf); simp only [St.mk.injEq, List.cons.injEq, Prod.mk.injEq, AV.c.injEq, AV.agg.injEq, AV.tup.injEq, CV.d.injEq, D.int.injEq, D.bool.injEq, D.str.injEq, D.sl.injEq, Ent.arr.injEq, Ent.box.injEq, true_and, and_true, and_self, nInt_eq, Int.natCast_zero, dLen_eL, sLen_eq, wI h1 hx])
  · (conv => whnf)


def okTree (x : List Nd) : Prop := (x.length ≤ 9223372036854775807)
def smTree (x : List Nd) : Prop := (x.length ≤ 4000000000)


def costTree (x : List Nd) : Nat := x.length


theorem szTree_spec (x : List Nd) (n : Int) (h0 : 0 ≤ n) (hn : n ≤ 1048576) (ho : okTree x) : FnSpec PR f_laws_szTree [aT x, ai n] (ai (bud n (costTree x))) [] 0 := by
  have o0 := ho
  refine FnSpec.intro hT p_laws_szTree rfl (by kernel_rfl) n_laws_szTree rfl ?_
  conv => whnf
  refine .inl ⟨_, _, _, szNodeS_spec x _ h0 hn o0, rfl, ?_⟩
  (conv => whnf)
  refine ifB_i (fun h => ?_) (fun h => ?_) <;> (conv => whnf) <;> simp only [nInt_eq, Int.natCast_zero, dLen_eL, sLen_eq, nOf_eq, Int.toNat_natCast, nAdd_eq, nSub_eq, dLen_nil, dLen_cons, iLt_t, iLt_f, iLe_t, iLe_f, iEq_t, iEq_f, sEq_t, sEq_f, bNot_t, bNot_f, bAnd_t, bEq_t, bEq_f, Bool.not_eq_true, Bool.not_eq_false, Bool.true_eq_false, Bool.false_eq_true] at h
  · rw [costTree]
    rw [bud_m1 h]
  have g0 : 0 ≤ bud n (x.length) := h
  rw [costTree]


theorem toTree_spec (x : List Nd) (ho : smTree x) : FnSpec PR f_laws_toTree [aT x] (.agg [.ref 0 0 none]) [(0, .arr t_impl_Node 5 0 .own (eL cN x))] 1 := by
  have o0 := ho
  refine FnSpec.intro hT p_laws_toTree rfl (by kernel_rfl) n_laws_toTree rfl ?_
  conv => whnf
  refine .inl ⟨_, _, _, toNodeS_spec x o0, rfl, ?_⟩
  (conv => whnf)


theorem eqTree_spec (x : List Nd) (ho : okTree x) : FnSpec PR f_laws_eqTree [aT x, aT x] (ab true) [] 0 := by
  have o0 := ho
  refine FnSpec.intro hT p_laws_eqTree rfl (by kernel_rfl) n_laws_eqTree rfl ?_
  conv => whnf
  refine .inl ⟨_, _, _, eqNodeS_spec x o0, rfl, ?_⟩
  (conv => whnf)


theorem szIntSS_spec (xs : List (List Int)) (n : Int) (h0 : 0 ≤ n) (hn : n ≤ 1048576) (hx : xs.length ≤ 9223372036854775807) (hs : ∀ s ∈ xs, s.length ≤ 9223372036854775807) :
    FnSpec PR f_laws_szIntSS [.c (.d (.sl 1 (eL cIs xs))), ai n] (ai (bud n (cost List.length xs))) [] 0 := by
  refine FnSpec.intro hT p_laws_szIntSS rfl (by kernel_rfl) n_laws_szIntSS rfl ?_
  conv => whnf
  have e : wSub .i64 n xs.length = n - xs.length := wSub64 (by omega) (by omega)
  refine ifB_i (fun hb => ?_) (fun hb => ?_) <;> (conv => whnf) <;> simp only [nInt_eq, Int.natCast_zero, dLen_eL, sLen_eq, nOf_eq, Int.toNat_natCast, nAdd_eq, nSub_eq, dLen_nil, dLen_cons, iLt_t, iLt_f, iLe_t, iLe_f, iEq_t, iEq_f, sEq_t, sEq_f, bNot_t, bNot_f, bAnd_t, bEq_t, bEq_f, Bool.not_eq_true, Bool.not_eq_false, Bool.true_eq_false, Bool.false_eq_true, e] at hb
  · rw [cost_eq, bud_lt (by omega)]
  · refine tri_loop hT [0, 1, 5] (α := Nat × Int) (fun x => { t := [(0, .c (.d (.sl 1 (eL cIs xs)))), (1, ai x.2), (5, ai (nInt x.1))], h := [], n := 0, N := 27 })
      (fun x => x.1 ≤ xs.length ∧ 0 ≤ x.2 ∧ x.2 ≤ 1048576 ∧ bud x.2 (costL List.length (xs.drop x.1)) = bud n (cost List.length xs)) (fun x => xs.length - x.1) (0, n - xs.length) (by ((conv => whnf); simp only [St.mk.injEq, List.cons.injEq, Prod.mk.injEq, AV.c.injEq, AV.agg.injEq, AV.tup.injEq, CV.d.injEq, D.int.injEq, D.bool.injEq, D.str.injEq, D.sl.injEq, Ent.arr.injEq, Ent.box.injEq, true_and, and_true, and_self, nInt_eq, Int.natCast_zero, dLen_eL, sLen_eq, e]))
      ⟨by omega, by dsimp only; omega, by dsimp only; omega, by rw [cost_eq, bud_step (by omega)]; rfl⟩ ?_
    intro ⟨k, m⟩ ⟨hk, hm0, hm1, hm⟩
    dsimp only at hk hm hm0 hm1
    (conv => whnf)
    refine ifB_i (fun h1 => ?_) (fun h1 => ?_) <;> (conv => whnf) <;> simp at h1
    · obtain ⟨s, hs'⟩ := get_lt h1
      refine idx_at (by simp) hs' ?_
      (conv => whnf)
      refine .inl ⟨_, _, _, szIntS_spec s m hm0 hm1 (hs s (List.mem_of_getElem? hs')), rfl, ?_⟩
      (conv => whnf)
      rw [drop_at hs', costL] at hm
      refine ifB_i (fun h2 => ?_) (fun h2 => ?_) <;> (conv => whnf) <;> simp only [nInt_eq, Int.natCast_zero, dLen_eL, sLen_eq, nOf_eq, Int.toNat_natCast, nAdd_eq, nSub_eq, dLen_nil, dLen_cons, iLt_t, iLt_f, iLe_t, iLe_f, iEq_t, iEq_f, sEq_t, sEq_f, bNot_t, bNot_f, bAnd_t, bEq_t, bEq_f, Bool.not_eq_true, Bool.not_eq_false, Bool.true_eq_false, Bool.false_eq_true] at h2
      · rw [bud_neg h2] at hm
        rw [← hm]
      · have hb2 := bud_pos h2
        refine ⟨(k + 1, bud m s.length), by dsimp only; omega, ⟨h1, h2, bud_mono hm1, by dsimp only; rw [bud_bud h2]; exact hm⟩, ?_⟩
        ((conv => whnf); simp only [St.mk.injEq, List.cons.injEq, Prod.mk.injEq, AV.c.injEq, AV.agg.injEq, AV.tup.injEq, CV.d.injEq, D.int.injEq, D.bool.injEq, D.str.injEq, D.sl.injEq, Ent.arr.injEq, Ent.box.injEq, true_and, and_true, and_self, nInt_eq, Int.natCast_zero, dLen_eL, sLen_eq, wI h1 hx])
    · obtain rfl : k = xs.length := by omega
      simp only [List.drop_length, costL] at hm
      rw [bud_zero hm0] at hm
      rw [hm]


theorem toIntSS_spec (xs : List (List Int)) (hx : xs.length ≤ 4000000000) (hs : ∀ s ∈ xs, s.length ≤ 4000000000) :
    FnSpec PR f_laws_toIntSS [.c (.d (.sl 1 (eL cIs xs)))] (.c (.ref 0 0 none)) [(0, .arr t_Lint 1 0 .own (eL cIs xs))] 1 := by
  refine FnSpec.intro hT p_laws_toIntSS rfl (by kernel_rfl) n_laws_toIntSS rfl ?_
  conv => whnf
  refine ⟨by simp; omega, ?_⟩
  (conv => whnf)
  refine tri_loop hT [0, 3, 4] (α := Nat × List (List D)) (fun x => { t := [(0, .c (.d (.sl 1 (eL cIs xs)))), (3, .c (.ref 0 0 none)), (4, ai (nInt x.1))], h := [(0, .arr t_Lint 1 0 .own x.2)], n := 1, N := 23 })
    (fun x => x.1 ≤ xs.length ∧ Fill cIs 1 xs x.1 x.2) (fun x => xs.length - x.1) (0, _) (by ((conv => whnf); simp only [St.mk.injEq, List.cons.injEq, Prod.mk.injEq, AV.c.injEq, AV.agg.injEq, AV.tup.injEq, CV.d.injEq, D.int.injEq, D.bool.injEq, D.str.injEq, D.sl.injEq, Ent.arr.injEq, Ent.box.injEq, true_and, and_true, and_self, nInt_eq, Int.natCast_zero, dLen_eL, sLen_eq]); rfl) ⟨by omega, Fill.start cIs xs rfl⟩ ?_
  intro ⟨k, es⟩ ⟨hk, hf⟩
  dsimp only at hk hf
  have hl := hf.len
  (conv => whnf)
  refine ifB_i (fun h1 => ?_) (fun h1 => ?_) <;> (conv => whnf) <;> simp at h1
  · obtain ⟨s, hs'⟩ := get_lt h1
    refine idx_at (by simp) hs' ?_
    (conv => whnf)
    refine .inl ⟨_, _, _, toIntS_spec s (hs s (List.mem_of_getElem? hs')), rfl, ?_⟩
    (conv => whnf)
    refine ⟨by simp only [lenRE_none, dLen_len, hl, InB_eq, nInt_eq]; omega, ?_⟩
    (conv => whnf)
    intro c' hc'
    have hr := hf.room hc'
    refine ⟨by simp; omega, ?_⟩
    rw [dOver_all (by rw [hr]; rfl)]
    (conv => whnf)
    refine ⟨(k + 1, dSet es k (cIs s)), by dsimp only; omega, ⟨h1, hf.step hs' rfl⟩, ?_⟩
    ((conv => whnf); simp only [St.mk.injEq, List.cons.injEq, Prod.mk.injEq, AV.c.injEq, AV.agg.injEq, AV.tup.injEq, CV.d.injEq, D.int.injEq, D.bool.injEq, D.str.injEq, D.sl.injEq, Ent.arr.injEq, Ent.box.injEq, true_and, and_true, and_self, nInt_eq, Int.natCast_zero, dLen_eL, sLen_eq, wI h1 (by omega), nAdd_eq, nOf_eq, Int.toNat_natCast, offR, Nat.zero_add])
    rfl
  · obtain rfl : k = xs.length := by omega
    rw [hf.done]


theorem eqIntSS_spec (xs : List (List Int)) (hx : xs.length ≤ 9223372036854775807) (hs : ∀ s ∈ xs, s.length ≤ 9223372036854775807) : FnSpec PR f_laws_eqIntSS [.c (.d (.sl 1 (eL cIs xs))), .c (.d (.sl 1 (eL cIs xs)))] (ab true) [] 0 := by
  refine FnSpec.intro hT p_laws_eqIntSS rfl (by kernel_rfl) n_laws_eqIntSS rfl ?_
  conv => whnf
  refine ifB_i (fun hb => ?_) (fun hb => ?_)
  · simp at hb
  (conv => whnf)
  refine tri_loop hT [0, 1, 5] (α := Nat) (fun x => { t := [(0, .c (.d (.sl 1 (eL cIs xs)))), (1, .c (.d (.sl 1 (eL cIs xs)))), (5, ai (nInt x))], h := [], n := 0, N := 27 })
      (fun x => x ≤ xs.length) (fun x => xs.length - x) 0 (by ((conv => whnf); simp only [St.mk.injEq, List.cons.injEq, Prod.mk.injEq, AV.c.injEq, AV.agg.injEq, AV.tup.injEq, CV.d.injEq, D.int.injEq, D.bool.injEq, D.str.injEq, D.sl.injEq, Ent.arr.injEq, Ent.box.injEq, true_and, and_true, and_self, nInt_eq, Int.natCast_zero, dLen_eL, sLen_eq])) (Nat.zero_le _) ?_
  intro k hk
  (conv => whnf)
  refine ifB_i (fun h1 => ?_) (fun h1 => ?_)
  · (conv => whnf)
    simp at h1
    obtain ⟨s, hs'⟩ := get_lt h1
    refine tri_conf hT hmix (by kernel_rfl) ?_
    (conv => whnf)
    refine idx_at (by simp) hs' ?_
    (conv => whnf)
    refine idx_at (by simp) hs' ?_
    (conv => whnf)
    refine ⟨_, _, eqIntS_spec s (hs s (List.mem_of_getElem? hs')), rfl, ?_⟩
    (conv => whnf)
    refine ⟨k + 1, by omega, h1, ?_⟩
    ((conv => whnf); simp only [St.mk.injEq, List.cons.injEq, Prod.mk.injEq, AV.c.injEq, AV.agg.injEq, AV.tup.injEq, CV.d.injEq, D.int.injEq, D.bool.injEq, D.str.injEq, D.sl.injEq, Ent.arr.injEq, Ent.box.injEq, true_and, and_true, and_self, nInt_eq, Int.natCast_zero, dLen_eL, sLen_eq, wI h1 hx])
  · (conv => whnf)


def okGrid (x : Grd) : Prop := (x.cuts.length ≤ 9223372036854775807 ∧ ∀ s ∈ x.cuts, s.length ≤ 9223372036854775807) ∧ (x.bins.length ≤ 9223372036854775807 ∧ ∀ s ∈ x.bins, s.length ≤ 9223372036854775807)
def smGrid (x : Grd) : Prop := (x.cuts.length ≤ 4000000000 ∧ ∀ s ∈ x.cuts, s.length ≤ 4000000000) ∧ (x.bins.length ≤ 4000000000 ∧ ∀ s ∈ x.bins, s.length ≤ 4000000000)


def costGrid (x : Grd) : Nat := (cost List.length x.cuts) + (cost List.length x.bins)


theorem szGrid_spec (x : Grd) (n : Int) (h0 : 0 ≤ n) (hn : n ≤ 1048576) (ho : okGrid x) : FnSpec PR f_laws_szGrid [aG x, ai n] (ai (bud n (costGrid x))) [] 0 := by
  obtain ⟨o0, o1⟩ := ho
  refine FnSpec.intro hT p_laws_szGrid rfl (by kernel_rfl) n_laws_szGrid rfl ?_
  conv => whnf
  refine .inl ⟨_, _, _, szIntSS_spec x.cuts _ h0 hn o0.1 o0.2, rfl, ?_⟩
  (conv => whnf)
  refine ifB_i (fun h => ?_) (fun h => ?_) <;> (conv => whnf) <;> simp only [nInt_eq, Int.natCast_zero, dLen_eL, sLen_eq, nOf_eq, Int.toNat_natCast, nAdd_eq, nSub_eq, dLen_nil, dLen_cons, iLt_t, iLt_f, iLe_t, iLe_f, iEq_t, iEq_f, sEq_t, sEq_f, bNot_t, bNot_f, bAnd_t, bEq_t, bEq_f, Bool.not_eq_true, Bool.not_eq_false, Bool.true_eq_false, Bool.false_eq_true] at h
  · rw [costGrid]
    rw [bud_more (bud_m1 h) (by omega)]
  have g0 : 0 ≤ bud n ((cost List.length x.cuts)) := h
  have s1 := szIntSS_spec x.bins _ g0 (bud_mono hn) o1.1 o1.2
  rw [bud_bud g0] at s1
  refine .inl ⟨_, _, _, s1, rfl, ?_⟩
  (conv => whnf)
  refine ifB_i (fun h => ?_) (fun h => ?_) <;> (conv => whnf) <;> simp only [nInt_eq, Int.natCast_zero, dLen_eL, sLen_eq, nOf_eq, Int.toNat_natCast, nAdd_eq, nSub_eq, dLen_nil, dLen_cons, iLt_t, iLt_f, iLe_t, iLe_f, iEq_t, iEq_f, sEq_t, sEq_f, bNot_t, bNot_f, bAnd_t, bEq_t, bEq_f, Bool.not_eq_true, Bool.not_eq_false, Bool.true_eq_false, Bool.false_eq_true] at h
  · rw [costGrid]
    rw [bud_m1 h]
  have g1 : 0 ≤ bud n ((cost List.length x.cuts) + (cost List.length x.bins)) := h
  rw [costGrid]


theorem toGrid_spec (x : Grd) (ho : smGrid x) : FnSpec PR f_laws_toGrid [aG x] (.agg [.ref 0 0 none, .ref 1 0 none]) [(0, .arr t_Lint 1 0 .own (eL cIs x.cuts)), (1, .arr t_Lint 1 0 .own (eL cIs x.bins))] 2 := by
  obtain ⟨o0, o1⟩ := ho
  refine FnSpec.intro hT p_laws_toGrid rfl (by kernel_rfl) n_laws_toGrid rfl ?_
  conv => whnf
  refine .inl ⟨_, _, _, toIntSS_spec x.cuts o0.1 o0.2, rfl, ?_⟩
  (conv => whnf)
  refine .inl ⟨_, _, _, toIntSS_spec x.bins o1.1 o1.2, rfl, ?_⟩
  (conv => whnf)


theorem eqGrid_spec (x : Grd) (ho : okGrid x) : FnSpec PR f_laws_eqGrid [aG x, aG x] (ab true) [] 0 := by
  obtain ⟨o0, o1⟩ := ho
  refine FnSpec.intro hT p_laws_eqGrid rfl (by kernel_rfl) n_laws_eqGrid rfl ?_
  conv => whnf
  refine .inl ⟨_, _, _, eqIntSS_spec x.cuts o0.1 o0.2, rfl, ?_⟩
  (conv => whnf)
  refine .inl ⟨_, _, _, eqIntSS_spec x.bins o1.1 o1.2, rfl, ?_⟩
  (conv => whnf)


def okModel (x : Mdl) : Prop := (x.names.length ≤ 9223372036854775807 ∧ ∀ s ∈ x.names, s.size ≤ 9223372036854775807) ∧ (x.signs.length ≤ 9223372036854775807) ∧ (x.trees.length ≤ 9223372036854775807 ∧ ∀ s ∈ x.trees, s.length ≤ 9223372036854775807)
def smModel (x : Mdl) : Prop := (x.names.length ≤ 4000000000) ∧ (x.signs.length ≤ 4000000000) ∧ (x.trees.length ≤ 4000000000 ∧ ∀ s ∈ x.trees, s.length ≤ 4000000000)


def costModel (x : Mdl) : Nat := (cost ByteArray.size x.names) + x.signs.length + (cost costTree x.trees)
end Go.H.S
namespace Go.H.S
open Go Go.Proofs Go.H
attribute [local irreducible] Tri FnSpec FnSpecM
set_option maxRecDepth 100000
set_option linter.unusedSimpArgs false
set_option linter.unusedVariables false


def usesL (p : Nd → Bool) : List (List Nd) → Nat
  | [] => 0
  | t :: r => t.countP p + usesL p r
def isF (f : Int) (n : Nd) : Bool := decide (n.f ≠ -1) && decide (n.f = f)
theorem countP_le (p : Nd → Bool) (t : List Nd) : t.countP p ≤ t.length := List.countP_le_length
theorem usesL_le (p : Nd → Bool) : ∀ ts : List (List Nd), usesL p ts ≤ costL List.length ts
  | [] => Nat.le_refl _
  | t :: r => by have h1 := usesL_le p r; have h2 := countP_le p t; simp only [usesL, costL]; omega
theorem costL_mem {α : Type} (f : α → Nat) : ∀ {l : List α} {x : α}, x ∈ l → f x ≤ costL f l
  | y :: r, x, h => by
    simp only [costL]
    rcases List.mem_cons.1 h with rfl | h
    · omega
    · have := costL_mem f h; omega
theorem costTree_len : ∀ ts : List (List Nd), costL costTree ts = costL List.length ts
  | [] => rfl
  | t :: r => by simp only [costL, costTree_len r, costTree]


theorem spec_l17Inner_spec (n : Nd) : FnSpec PR f_spec_l17Inner [aN n] (ab (bNot (iEq n.f (-1)))) [] 0 := by
  refine FnSpec.intro hT p_spec_l17Inner rfl (by kernel_rfl) n_spec_l17Inner rfl ?_
  conv => whnf

theorem impl_isLeaf_spec (n : Nd) : FnSpec PR f_impl_isLeaf [aN n] (ab (iEq n.f (-1))) [] 0 := by
  refine FnSpec.intro hT p_impl_isLeaf rfl (by kernel_rfl) n_impl_isLeaf rfl ?_
  conv => whnf

theorem impl_within_spec (x lo hi : Int) : FnSpec PR f_impl_within [ai x, ai lo, ai hi] (ab (decide (lo ≤ x ∧ x ≤ hi))) [] 0 := by
  refine FnSpec.intro hT p_impl_within rfl (by kernel_rfl) n_impl_within rfl ?_
  conv => whnf
  refine ifB_i (fun h => ?_) (fun h => ?_) <;> (conv => whnf) <;> simp only [nInt_eq, Int.natCast_zero, dLen_eL, sLen_eq, nOf_eq, Int.toNat_natCast, nAdd_eq, nSub_eq, dLen_nil, dLen_cons, iLt_t, iLt_f, iLe_t, iLe_f, iEq_t, iEq_f, sEq_t, sEq_f, bNot_t, bNot_f, bAnd_t, bEq_t, bEq_f, Bool.not_eq_true, Bool.not_eq_false, Bool.true_eq_false, Bool.false_eq_true] at h
  · ((conv => whnf); simp only [St.mk.injEq, List.cons.injEq, Prod.mk.injEq, AV.c.injEq, AV.agg.injEq, AV.tup.injEq, CV.d.injEq, D.int.injEq, D.bool.injEq, D.str.injEq, D.sl.injEq, Ent.arr.injEq, Ent.box.injEq, true_and, and_true, and_self, nInt_eq, Int.natCast_zero, dLen_eL, sLen_eq])
    simp [iLe, h]
  · ((conv => whnf); simp only [St.mk.injEq, List.cons.injEq, Prod.mk.injEq, AV.c.injEq, AV.agg.injEq, AV.tup.injEq, CV.d.injEq, D.int.injEq, D.bool.injEq, D.str.injEq, D.sl.injEq, Ent.arr.injEq, Ent.box.injEq, true_and, and_true, and_self, nInt_eq, Int.natCast_zero, dLen_eL, sLen_eq])
    simp
    omega

theorem spec_l1In_spec (x lo hi : Int) : FnSpec PR f_spec_l1In [ai x, ai lo, ai hi] (ab (decide (lo ≤ x ∧ x ≤ hi))) [] 0 := by
  refine FnSpec.intro hT p_spec_l1In rfl (by kernel_rfl) n_spec_l1In rfl ?_
  conv => whnf
  refine ifB_i (fun h => ?_) (fun h => ?_) <;> (conv => whnf) <;> simp only [nInt_eq, Int.natCast_zero, dLen_eL, sLen_eq, nOf_eq, Int.toNat_natCast, nAdd_eq, nSub_eq, dLen_nil, dLen_cons, iLt_t, iLt_f, iLe_t, iLe_f, iEq_t, iEq_f, sEq_t, sEq_f, bNot_t, bNot_f, bAnd_t, bEq_t, bEq_f, Bool.not_eq_true, Bool.not_eq_false, Bool.true_eq_false, Bool.false_eq_true] at h
  · ((conv => whnf); simp only [St.mk.injEq, List.cons.injEq, Prod.mk.injEq, AV.c.injEq, AV.agg.injEq, AV.tup.injEq, CV.d.injEq, D.int.injEq, D.bool.injEq, D.str.injEq, D.sl.injEq, Ent.arr.injEq, Ent.box.injEq, true_and, and_true, and_self, nInt_eq, Int.natCast_zero, dLen_eL, sLen_eq])
    simp [iLe, h]
  · ((conv => whnf); simp only [St.mk.injEq, List.cons.injEq, Prod.mk.injEq, AV.c.injEq, AV.agg.injEq, AV.tup.injEq, CV.d.injEq, D.int.injEq, D.bool.injEq, D.str.injEq, D.sl.injEq, Ent.arr.injEq, Ent.box.injEq, true_and, and_true, and_self, nInt_eq, Int.natCast_zero, dLen_eL, sLen_eq])
    simp
    omega

theorem spec_l1Max_spec (x y : Int) : FnSpec PR f_spec_l1Max [ai x, ai y] (ai (max x y)) [] 0 := by
  refine FnSpec.intro hT p_spec_l1Max rfl (by kernel_rfl) n_spec_l1Max rfl ?_
  conv => whnf
  refine ifB_i (fun h => ?_) (fun h => ?_) <;> (conv => whnf) <;> simp only [nInt_eq, Int.natCast_zero, dLen_eL, sLen_eq, nOf_eq, Int.toNat_natCast, nAdd_eq, nSub_eq, dLen_nil, dLen_cons, iLt_t, iLt_f, iLe_t, iLe_f, iEq_t, iEq_f, sEq_t, sEq_f, bNot_t, bNot_f, bAnd_t, bEq_t, bEq_f, Bool.not_eq_true, Bool.not_eq_false, Bool.true_eq_false, Bool.false_eq_true] at h <;> ((conv => whnf); simp only [St.mk.injEq, List.cons.injEq, Prod.mk.injEq, AV.c.injEq, AV.agg.injEq, AV.tup.injEq, CV.d.injEq, D.int.injEq, D.bool.injEq, D.str.injEq, D.sl.injEq, Ent.arr.injEq, Ent.box.injEq, true_and, and_true, and_self, nInt_eq, Int.natCast_zero, dLen_eL, sLen_eq]) <;> omega
end Go.H.S
namespace Go.H.S
open Go Go.Proofs Go.H
attribute [local irreducible] Tri FnSpec FnSpecM
set_option maxRecDepth 100000
set_option linter.unusedSimpArgs false
set_option linter.unusedVariables false


/-- The first place, from k on, where p holds: -1: none. -/
def idxL {α : Type} (p : α → Bool) : List α → Nat → Int
  | [], _ => -1
  | x :: r, k => if p x then k else idxL p r (k + 1)
theorem idxL_lt {α : Type} (p : α → Bool) : ∀ (l : List α) (k : Nat), -1 ≤ idxL p l k ∧ (idxL p l k < (k + l.length : Nat)) ∧ (0 ≤ idxL p l k → (k : Int) ≤ idxL p l k)
  | [], k => by simp only [idxL, List.length_nil]; omega
  | x :: r, k => by
    simp only [idxL, List.length_cons]
    split
    · omega
    · have := idxL_lt p r (k + 1); omega
theorem idxL_mem (x : Int) : ∀ (l : List Int) (k : Nat), (0 ≤ idxL (fun y => decide (x = y)) l k) ↔ x ∈ l
  | [], k => by simp [idxL]
  | y :: r, k => by
    simp only [idxL, List.mem_cons]
    have ih := idxL_mem x r (k + 1)
    by_cases h : x = y
    · simp [h]
    · simp [h, ih]
def pUp (node : Int) (n : Nd) : Bool := decide (n.f ≠ -1) && (decide (n.l = node) || decide (n.r = node))
def up (t : List Nd) (node : Int) : Int := idxL (pUp node) t 0
theorem up_lt (t : List Nd) (node : Int) : -1 ≤ up t node ∧ up t node < t.length := by have := idxL_lt (pUp node) t 0; unfold up; omega
/-- The nodes from x upward, at most n of them. -/
def steps (t : List Nd) : Nat → Int → Option (List Int)
  | 0, _ => none
  | n + 1, x => (if up t x < 0 then some [] else steps t n (up t x)).map (x :: ·)
def wayL (t : List Nd) (node : Int) : List Int :=
  if 0 ≤ node ∧ node ≤ (t.length : Int) - 1 then (match steps t 32 node with | some l => l.reverse | none => []) else []
theorem steps_len (t : List Nd) : ∀ (n : Nat) (x : Int) (l : List Int), steps t n x = some l → l.length ≤ n
  | 0, x, l, h => by simp [steps] at h
  | n + 1, x, l, h => by
    simp only [steps, Option.map_eq_some_iff] at h
    obtain ⟨r, h1, rfl⟩ := h
    split at h1
    · cases h1; simp
    · have := steps_len t n _ r h1; simp; omega
theorem steps_lt (t : List Nd) : ∀ (n : Nat) (x : Int) (l : List Int), 0 ≤ x ∧ x < t.length → steps t n x = some l → ∀ y ∈ l, 0 ≤ y ∧ y < t.length
  | 0, x, l, hx, h => by simp [steps] at h
  | n + 1, x, l, hx, h => by
    simp only [steps, Option.map_eq_some_iff] at h
    obtain ⟨r, h1, rfl⟩ := h
    intro y hy
    rcases List.mem_cons.1 hy with rfl | hy
    · exact hx
    · split at h1
      · cases h1; cases hy
      · exact steps_lt t n _ r (by have := up_lt t x; omega) h1 y hy
theorem wayL_len (t : List Nd) (x : Int) : (wayL t x).length ≤ 32 := by
  unfold wayL
  split
  · split
    · rename_i l h; have := steps_len t 32 x l h; simpa using this
    · simp
  · simp


theorem spec_l17Up_spec (t : List Nd) (node : Int) (hl : t.length ≤ 9223372036854775807) : FnSpec PR f_spec_l17Up [aT t, ai node] (ai (up t node)) [] 0 := by
  refine FnSpec.intro hT p_spec_l17Up rfl (by kernel_rfl) n_spec_l17Up rfl ?_
  conv => whnf
  refine tri_loop hT [1, 2, 5] (α := Nat) (fun k => { t := [(1, ai node), (2, .c (.ptr 0 0)), (5, ai k)], h := [(0, .box t_impl_Tree (cTr t))], n := 1, N := 40 })
    (fun k => k ≤ t.length ∧ idxL (pUp node) (t.drop k) k = up t node) (fun k => t.length - k) 0 (by ((conv => whnf); simp only [St.mk.injEq, List.cons.injEq, Prod.mk.injEq, AV.c.injEq, AV.agg.injEq, AV.tup.injEq, CV.d.injEq, D.int.injEq, D.bool.injEq, D.str.injEq, D.sl.injEq, Ent.arr.injEq, Ent.box.injEq, true_and, and_true, and_self, nInt_eq, Int.natCast_zero, dLen_eL, sLen_eq])) ⟨Nat.zero_le _, rfl⟩ ?_
  intro k ⟨hk, hi⟩
  (conv => whnf)
  refine ifB_i (fun h1 => ?_) (fun h1 => ?_) <;> (conv => whnf) <;> simp at h1
  · obtain ⟨s, hs⟩ := get_lt h1
    rw [drop_at hs, idxL] at hi
    refine idx_at (by simp) hs ?_
    (conv => whnf)
    refine .inl ⟨_, _, _, spec_l17Inner_spec s, rfl, ?_⟩
    (conv => whnf)
    refine ifB_i (fun h2 => ?_) (fun h2 => ?_) <;> (conv => whnf)
    · refine idx_at (by simp) hs ?_
      (conv => whnf)
      refine ifB_i (fun h3 => ?_) (fun h3 => ?_) <;> (conv => whnf)
      · rw [if_pos (by simp_all [pUp, iEq, bNot])] at hi
        ((conv => whnf); simp only [St.mk.injEq, List.cons.injEq, Prod.mk.injEq, AV.c.injEq, AV.agg.injEq, AV.tup.injEq, CV.d.injEq, D.int.injEq, D.bool.injEq, D.str.injEq, D.sl.injEq, Ent.arr.injEq, Ent.box.injEq, true_and, and_true, and_self, nInt_eq, Int.natCast_zero, dLen_eL, sLen_eq, hi])
      · refine idx_at (by simp) hs ?_
        (conv => whnf)
        refine ifB_i (fun h4 => ?_) (fun h4 => ?_) <;> (conv => whnf)
        · rw [if_pos (by simp_all [pUp, iEq, bNot])] at hi
          ((conv => whnf); simp only [St.mk.injEq, List.cons.injEq, Prod.mk.injEq, AV.c.injEq, AV.agg.injEq, AV.tup.injEq, CV.d.injEq, D.int.injEq, D.bool.injEq, D.str.injEq, D.sl.injEq, Ent.arr.injEq, Ent.box.injEq, true_and, and_true, and_self, nInt_eq, Int.natCast_zero, dLen_eL, sLen_eq, hi])
        · rw [if_neg (by simp_all [pUp, iEq, bNot])] at hi
          refine ⟨k + 1, by omega, ⟨h1, hi⟩, ?_⟩
          ((conv => whnf); simp only [St.mk.injEq, List.cons.injEq, Prod.mk.injEq, AV.c.injEq, AV.agg.injEq, AV.tup.injEq, CV.d.injEq, D.int.injEq, D.bool.injEq, D.str.injEq, D.sl.injEq, Ent.arr.injEq, Ent.box.injEq, true_and, and_true, and_self, nInt_eq, Int.natCast_zero, dLen_eL, sLen_eq, wI h1 hl])
    · rw [if_neg (by simp_all [pUp, iEq, bNot])] at hi
      refine ⟨k + 1, by omega, ⟨h1, hi⟩, ?_⟩
      ((conv => whnf); simp only [St.mk.injEq, List.cons.injEq, Prod.mk.injEq, AV.c.injEq, AV.agg.injEq, AV.tup.injEq, CV.d.injEq, D.int.injEq, D.bool.injEq, D.str.injEq, D.sl.injEq, Ent.arr.injEq, Ent.box.injEq, true_and, and_true, and_self, nInt_eq, Int.natCast_zero, dLen_eL, sLen_eq, wI h1 hl])
  · obtain rfl : k = t.length := by omega
    simp only [List.drop_length, idxL] at hi
    ((conv => whnf); simp only [St.mk.injEq, List.cons.injEq, Prod.mk.injEq, AV.c.injEq, AV.agg.injEq, AV.tup.injEq, CV.d.injEq, D.int.injEq, D.bool.injEq, D.str.injEq, D.sl.injEq, Ent.arr.injEq, Ent.box.injEq, true_and, and_true, and_self, nInt_eq, Int.natCast_zero, dLen_eL, sLen_eq, ← hi])

theorem impl_parent_1_spec (n : Nd) (node : Int) : FnSpec PR f_impl_parent_1 [aN n, .c (.d (.rp [.int .i64 node]))] (ab (pUp node n)) [] 0 := by
  refine FnSpec.intro hT p_impl_parent_1 rfl (by kernel_rfl) n_impl_parent_1 rfl ?_
  conv => whnf
  refine .inl ⟨_, _, _, impl_isLeaf_spec n, rfl, ?_⟩
  (conv => whnf)
  refine ifB_i (fun h1 => ?_) (fun h1 => ?_) <;> (conv => whnf)
  · refine ifB_i (fun h2 => ?_) (fun h2 => ?_) <;> (conv => whnf) <;> ((conv => whnf); simp only [St.mk.injEq, List.cons.injEq, Prod.mk.injEq, AV.c.injEq, AV.agg.injEq, AV.tup.injEq, CV.d.injEq, D.int.injEq, D.bool.injEq, D.str.injEq, D.sl.injEq, Ent.arr.injEq, Ent.box.injEq, true_and, and_true, and_self, nInt_eq, Int.natCast_zero, dLen_eL, sLen_eq]) <;> simp_all [pUp, iEq, bNot]
  · ((conv => whnf); simp only [St.mk.injEq, List.cons.injEq, Prod.mk.injEq, AV.c.injEq, AV.agg.injEq, AV.tup.injEq, CV.d.injEq, D.int.injEq, D.bool.injEq, D.str.injEq, D.sl.injEq, Ent.arr.injEq, Ent.box.injEq, true_and, and_true, and_self, nInt_eq, Int.natCast_zero, dLen_eL, sLen_eq])
    simp_all [pUp, iEq, bNot]

theorem slices_IndexFunc_Node_spec (t : List Nd) (g : FuncId) (d : D) (p : Nd → Bool) (hp : ∀ n, FnSpec PR g [aN n, .c (.d d)] (ab (p n)) [] 0) (hl : t.length ≤ 9223372036854775807) :
    FnSpec PR f_slices_IndexFunc_Limpl_Node_impl_Node [aNs t, .c (.d (.fn g [d]))] (ai (idxL p t 0)) [] 0 := by
  refine FnSpec.intro hT p_slices_IndexFunc_Limpl_Node_impl_Node rfl (by kernel_rfl) n_slices_IndexFunc_Limpl_Node_impl_Node rfl ?_
  conv => whnf
  refine tri_loop hT [0, 1, 7, 8] (α := Nat) (fun k => { t := [(0, aNs t), (1, .c (.d (.fn g [d]))), (7, ai t.length), (8, ai k)], h := [], n := 0, N := 19 })
    (fun k => k ≤ t.length ∧ idxL p (t.drop k) k = idxL p t 0) (fun k => t.length - k) 0 (by ((conv => whnf); simp only [St.mk.injEq, List.cons.injEq, Prod.mk.injEq, AV.c.injEq, AV.agg.injEq, AV.tup.injEq, CV.d.injEq, D.int.injEq, D.bool.injEq, D.str.injEq, D.sl.injEq, Ent.arr.injEq, Ent.box.injEq, true_and, and_true, and_self, nInt_eq, Int.natCast_zero, dLen_eL, sLen_eq])) ⟨Nat.zero_le _, rfl⟩ ?_
  intro k ⟨hk, hi⟩
  (conv => whnf)
  refine ifB_i (fun h1 => ?_) (fun h1 => ?_) <;> (conv => whnf) <;> simp at h1
  · obtain ⟨s, hs⟩ := get_lt h1
    rw [drop_at hs, idxL] at hi
    refine idx_at (by simp) hs ?_
    (conv => whnf)
    refine .inl ⟨_, _, _, hp s, rfl, ?_⟩
    (conv => whnf)
    refine ifB_i (fun h2 => ?_) (fun h2 => ?_) <;> (conv => whnf)
    · rw [if_pos h2] at hi
      ((conv => whnf); simp only [St.mk.injEq, List.cons.injEq, Prod.mk.injEq, AV.c.injEq, AV.agg.injEq, AV.tup.injEq, CV.d.injEq, D.int.injEq, D.bool.injEq, D.str.injEq, D.sl.injEq, Ent.arr.injEq, Ent.box.injEq, true_and, and_true, and_self, nInt_eq, Int.natCast_zero, dLen_eL, sLen_eq, hi])
    · rw [if_neg (by simp [h2])] at hi
      refine ⟨k + 1, by omega, ⟨h1, hi⟩, ?_⟩
      ((conv => whnf); simp only [St.mk.injEq, List.cons.injEq, Prod.mk.injEq, AV.c.injEq, AV.agg.injEq, AV.tup.injEq, CV.d.injEq, D.int.injEq, D.bool.injEq, D.str.injEq, D.sl.injEq, Ent.arr.injEq, Ent.box.injEq, true_and, and_true, and_self, nInt_eq, Int.natCast_zero, dLen_eL, sLen_eq, wI h1 hl])
  · obtain rfl : k = t.length := by omega
    simp only [List.drop_length, idxL] at hi
    ((conv => whnf); simp only [St.mk.injEq, List.cons.injEq, Prod.mk.injEq, AV.c.injEq, AV.agg.injEq, AV.tup.injEq, CV.d.injEq, D.int.injEq, D.bool.injEq, D.str.injEq, D.sl.injEq, Ent.arr.injEq, Ent.box.injEq, true_and, and_true, and_self, nInt_eq, Int.natCast_zero, dLen_eL, sLen_eq, ← hi])

theorem impl_parent_spec (t : List Nd) (node : Int) (hl : t.length ≤ 9223372036854775807) : FnSpec PR f_impl_parent [aT t, ai node] (ai (up t node)) [] 0 := by
  refine FnSpec.intro hT p_impl_parent rfl (by kernel_rfl) n_impl_parent rfl ?_
  conv => whnf
  refine .inr (.inl ⟨_, _, _, slices_IndexFunc_Node_spec t f_impl_parent_1 (.rp [.int .i64 node]) (pUp node) (fun n => impl_parent_1_spec n node) hl, rfl, trivial, ?_⟩)
  (conv => whnf)
  rfl

def lvl (t : List Nd) (n : Nat) (x : Int) (k : Int) : Int := match steps t n x with | some l => (l.length : Int) - 1 + k | none => -1
def levelL (t : List Nd) (node : Int) : Int := if 0 ≤ node ∧ node ≤ (t.length : Int) - 1 then lvl t 32 node 0 else -1
theorem lvl_lt {t : List Nd} {n : Nat} {x : Int} (k : Int) (h : up t x < 0) : lvl t (n + 1) x k = k := by simp [lvl, steps, h]
theorem lvl_ge {t : List Nd} {n : Nat} {x : Int} (k : Int) (h : ¬ up t x < 0) : lvl t (n + 1) x k = lvl t n (up t x) (k + 1) := by
  simp only [lvl, steps, if_neg h]
  cases steps t n (up t x) with
  | none => rfl
  | some l => simp only [Option.map_some, List.length_cons]; omega
theorem spec_LevelOf_spec (t : List Nd) (node : Int) (hl : t.length ≤ 9223372036854775807) : FnSpec PR f_spec_LevelOf [aT t, ai node] (ai (levelL t node)) [] 0 := by
  have e : wSub .i64 t.length 1 = (t.length : Int) - 1 := wSub64 (by omega) (by omega)
  refine FnSpec.intro hT p_spec_LevelOf rfl (by kernel_rfl) n_spec_LevelOf rfl ?_
  conv => whnf
  refine .inl ⟨_, _, _, spec_l1In_spec _ _ _, rfl, ?_⟩
  (conv => whnf)
  refine ifB_i (fun h1 => ?_) (fun h1 => ?_) <;> (conv => whnf) <;> simp only [nInt_eq, Int.natCast_zero, dLen_eL, sLen_eq, nOf_eq, Int.toNat_natCast, nAdd_eq, nSub_eq, dLen_nil, dLen_cons, iLt_t, iLt_f, iLe_t, iLe_f, iEq_t, iEq_f, sEq_t, sEq_f, bNot_t, bNot_f, bAnd_t, bEq_t, bEq_f, Bool.not_eq_true, Bool.not_eq_false, Bool.true_eq_false, Bool.false_eq_true, e, decide_eq_true_eq, decide_eq_false_iff_not] at h1
  · rw [levelL, if_neg h1]
  rw [levelL, if_pos h1]
  refine tri_loop hT [1, 2, 5] (α := Nat × Int) (fun x => { t := [(1, ai x.2), (2, .c (.ptr 0 0)), (5, ai x.1)], h := [(0, .box t_impl_Tree (cTr t))], n := 1, N := 23 })
    (fun x => x.1 ≤ 32 ∧ lvl t (32 - x.1) x.2 x.1 = lvl t 32 node 0) (fun x => 32 - x.1) (0, node) (by ((conv => whnf); simp only [St.mk.injEq, List.cons.injEq, Prod.mk.injEq, AV.c.injEq, AV.agg.injEq, AV.tup.injEq, CV.d.injEq, D.int.injEq, D.bool.injEq, D.str.injEq, D.sl.injEq, Ent.arr.injEq, Ent.box.injEq, true_and, and_true, and_self, nInt_eq, Int.natCast_zero, dLen_eL, sLen_eq])) ⟨by omega, rfl⟩ ?_
  intro ⟨k, x⟩ ⟨hk, hi⟩
  dsimp only at hk hi
  (conv => whnf)
  refine ifB_i (fun h2 => ?_) (fun h2 => ?_) <;> (conv => whnf) <;> simp only [nInt_eq, Int.natCast_zero, dLen_eL, sLen_eq, nOf_eq, Int.toNat_natCast, nAdd_eq, nSub_eq, dLen_nil, dLen_cons, iLt_t, iLt_f, iLe_t, iLe_f, iEq_t, iEq_f, sEq_t, sEq_f, bNot_t, bNot_f, bAnd_t, bEq_t, bEq_f, Bool.not_eq_true, Bool.not_eq_false, Bool.true_eq_false, Bool.false_eq_true] at h2
  · refine .inl ⟨_, _, _, spec_l17Up_spec t x hl, rfl, ?_⟩
    (conv => whnf)
    rw [show 32 - k = (31 - k) + 1 by omega] at hi
    refine ifB_i (fun h3 => ?_) (fun h3 => ?_) <;> (conv => whnf) <;> simp only [nInt_eq, Int.natCast_zero, dLen_eL, sLen_eq, nOf_eq, Int.toNat_natCast, nAdd_eq, nSub_eq, dLen_nil, dLen_cons, iLt_t, iLt_f, iLe_t, iLe_f, iEq_t, iEq_f, sEq_t, sEq_f, bNot_t, bNot_f, bAnd_t, bEq_t, bEq_f, Bool.not_eq_true, Bool.not_eq_false, Bool.true_eq_false, Bool.false_eq_true] at h3
    · rw [lvl_lt _ h3] at hi
      ((conv => whnf); simp only [St.mk.injEq, List.cons.injEq, Prod.mk.injEq, AV.c.injEq, AV.agg.injEq, AV.tup.injEq, CV.d.injEq, D.int.injEq, D.bool.injEq, D.str.injEq, D.sl.injEq, Ent.arr.injEq, Ent.box.injEq, true_and, and_true, and_self, nInt_eq, Int.natCast_zero, dLen_eL, sLen_eq, ← hi])
    · rw [lvl_ge _ (by omega)] at hi
      refine ⟨(k + 1, up t x), by dsimp only; omega, ⟨by dsimp only; omega, ?_⟩, ?_⟩
      · dsimp only
        rw [← hi, show 32 - (k + 1) = 31 - k by omega, Int.natCast_add]
        rfl
      · ((conv => whnf); simp only [St.mk.injEq, List.cons.injEq, Prod.mk.injEq, AV.c.injEq, AV.agg.injEq, AV.tup.injEq, CV.d.injEq, D.int.injEq, D.bool.injEq, D.str.injEq, D.sl.injEq, Ent.arr.injEq, Ent.box.injEq, true_and, and_true, and_self, nInt_eq, Int.natCast_zero, dLen_eL, sLen_eq, wI (show k < 33 by omega) (by omega)])
  · obtain rfl : k = 32 := by omega
    have hi' : lvl t 0 x 32 = lvl t 32 node 0 := hi
    rw [← hi']
    ((conv => whnf); simp only [St.mk.injEq, List.cons.injEq, Prod.mk.injEq, AV.c.injEq, AV.agg.injEq, AV.tup.injEq, CV.d.injEq, D.int.injEq, D.bool.injEq, D.str.injEq, D.sl.injEq, Ent.arr.injEq, Ent.box.injEq, true_and, and_true, and_self, nInt_eq, Int.natCast_zero, dLen_eL, sLen_eq, lvl, steps])

/-- What Reverse has done with the ends of a list. -/
def revK (l : List Int) (i : Nat) : List Int := (l.reverse.take i) ++ ((l.drop i).take (l.length - 2 * i)) ++ l.reverse.drop (l.length - i)
theorem revK_len (l : List Int) (i : Nat) (h : 2 * i ≤ l.length) : (revK l i).length = l.length := by simp [revK]; omega
theorem revK_get (l : List Int) (i k : Nat) (h : 2 * i ≤ l.length) : (revK l i)[k]? = if k < i ∨ (l.length - i ≤ k ∧ k < l.length) then l.reverse[k]? else l[k]? := by
  simp only [revK]
  by_cases h1 : k < i
  · rw [if_pos (.inl h1), List.append_assoc, List.getElem?_append_left (by simp; omega), List.getElem?_take, if_pos h1]
  · by_cases h2 : k < l.length - i
    · rw [if_neg (by omega), List.getElem?_append_left (by simp; omega), List.getElem?_append_right (by simp; omega), List.getElem?_take, List.getElem?_drop]
      simp only [List.length_take, List.length_reverse]
      rw [Nat.min_eq_left (by omega), if_pos (by omega), show i + (k - i) = k by omega]
    · rw [List.getElem?_append_right (by simp; omega)]
      simp only [List.length_append, List.length_take, List.length_reverse, List.length_drop, List.getElem?_drop]
      by_cases h3 : k < l.length
      · rw [if_pos (by omega)]
        congr 1; omega
      · have e1 : l[k]? = none := List.getElem?_eq_none (by omega)
        rw [if_neg (by omega), e1]
        apply List.getElem?_eq_none
        simp only [List.length_reverse]
        omega
theorem revK_end (l : List Int) (i : Nat) (h : l.length ≤ 2 * i + 1) (h2 : 2 * i ≤ l.length) : revK l i = l.reverse := by
  apply List.ext_getElem?
  intro k
  rw [revK_get l i k h2]
  split
  · rfl
  · rename_i hn
    by_cases hk : k < l.length
    · have : l.length = 2 * i + 1 ∧ k = i := by omega
      rw [List.getElem?_reverse (by omega)]
      congr 1; omega
    · rw [List.getElem?_eq_none (by omega), List.getElem?_eq_none (by simp; omega)]
theorem revK_step (l : List Int) (i : Nat) (a b : Int) (h : 2 * i + 1 < l.length) (ha : (revK l i)[i]? = some a) (hb : (revK l i)[l.length - 1 - i]? = some b) :
    ((revK l i).set i b).set (l.length - 1 - i) a = revK l (i + 1) := by
  rw [revK_get l i _ (by omega)] at ha hb
  rw [if_neg (by omega)] at ha hb
  apply List.ext_getElem?
  intro k
  rw [List.getElem?_set, List.getElem?_set, revK_get l i k (by omega), revK_get l (i + 1) k (by omega)]
  simp only [List.length_set, revK_len l i (by omega)]
  by_cases h1 : l.length - 1 - i = k
  · subst h1
    rw [if_pos rfl, if_pos (by omega), if_pos (by omega), List.getElem?_reverse (by omega), show l.length - 1 - (l.length - 1 - i) = i by omega, ha]
  · rw [if_neg h1]
    by_cases h2 : i = k
    · subst h2
      rw [if_pos rfl, if_pos (by omega), if_pos (by omega), List.getElem?_reverse (by omega), hb]
    · rw [if_neg h2]
      by_cases h3 : k < i ∨ l.length - i ≤ k ∧ k < l.length
      · rw [if_pos h3, if_pos (by omega)]
      · rw [if_neg h3, if_neg (by omega)]
theorem revK_zero (l : List Int) : revK l 0 = l := by simp [revK]
theorem slices_Reverse_spec (l : List Int) (hl : l.length ≤ 1048576) : FnSpecM PR f_slices_Reverse_Lint_int [.c (.ref 0 0 none)] t_int 1 (eL cI l) (.tup []) (eL cI l.reverse) := by
  refine FnSpecM.intro hT 0 p_slices_Reverse_Lint_int rfl (by kernel_rfl) n_slices_Reverse_Lint_int rfl rfl (by simp [eL_length]) rfl (flat_cI _) ?_
  intro v0
  (conv => whnf)
  have e : wSub .i64 l.length 1 = (l.length : Int) - 1 := wSub64 (by omega) (by omega)
  refine tri_loop hT [0, 2, 3] (α := Nat) (fun i => { t := [(0, .w (.ref 0 0 none) v0), (2, ai i), (3, ai ((l.length : Int) - 1 - i))], h := [(0, .arr t_int 1 0 .own (eL cI (revK l i)))], n := 1, N := 28 })
    (fun i => 2 * i ≤ l.length) (fun i => l.length - i) 0 (by ((conv => whnf); simp only [St.mk.injEq, List.cons.injEq, Prod.mk.injEq, AV.c.injEq, AV.agg.injEq, AV.tup.injEq, CV.d.injEq, D.int.injEq, D.bool.injEq, D.str.injEq, D.sl.injEq, Ent.arr.injEq, Ent.box.injEq, true_and, and_true, and_self, nInt_eq, Int.natCast_zero, dLen_eL, sLen_eq, e, revK_zero, Int.sub_zero, lenRE_none])) (by omega) ?_
  intro i hi
  (conv => whnf)
  refine ifB_i (fun h1 => ?_) (fun h1 => ?_) <;> (conv => whnf) <;> simp only [nInt_eq, Int.natCast_zero, dLen_eL, sLen_eq, nOf_eq, Int.toNat_natCast, nAdd_eq, nSub_eq, dLen_nil, dLen_cons, iLt_t, iLt_f, iLe_t, iLe_f, iEq_t, iEq_f, sEq_t, sEq_f, bNot_t, bNot_f, bAnd_t, bEq_t, bEq_f, Bool.not_eq_true, Bool.not_eq_false, Bool.true_eq_false, Bool.false_eq_true] at h1
  · have hlen := revK_len l i hi
    obtain ⟨a, ha⟩ := get_lt (l := revK l i) (k := i) (by omega)
    obtain ⟨b, hb⟩ := get_lt (l := revK l i) (k := l.length - 1 - i) (by omega)
    have ej : (l.length : Int) - 1 - i = ((l.length - 1 - i : Nat) : Int) := by omega
    rw [ej]
    refine tri_each hT hmix [0, 2, 3] { t := [(0, .w (.ref 0 0 none) v0), (2, ai i), (3, ai ((l.length - 1 - i : Nat) : Int))], h := [(0, .arr t_int 1 0 .own (eL cI (revK l (i + 1))))], n := 1, N := 28 } rfl ?_ ?_
    · have hb2 : ((revK l i).set i b)[l.length - 1 - i]? = some b := by rw [List.getElem?_set_ne (by omega)]; exact hb
      have hst := revK_step l i a b (by omega) ha hb
      have ki : nAdd (offR none) (nOf (i : Int)) = i := by simp
      have kj : nAdd (offR none) (nOf ((l.length - 1 - i : Nat) : Int)) = l.length - 1 - i := by simp
      (conv => whnf)
      repeat' first
        | (refine ref_at rfl (by simp; omega) ?_; (conv => whnf))
        | (refine ld_at ki ha ?_; (conv => whnf))
        | (refine ld_at kj hb ?_; (conv => whnf))
        | (refine st_at ki ha (Nat.le_refl 1) ?_; simp only [cI_set, offR_none, nAdd_eq, nOf_eq, Int.toNat_natCast, Nat.zero_add]; (conv => whnf))
        | (refine st_at kj hb2 (Nat.le_refl 1) ?_; simp only [cI_set, offR_none, nAdd_eq, nOf_eq, Int.toNat_natCast, Nat.zero_add]; (conv => whnf))
        | (refine And.intro ?_ ?_ <;> (conv => whnf))
        | (((conv => whnf); simp only [St.mk.injEq, List.cons.injEq, Prod.mk.injEq, AV.c.injEq, AV.agg.injEq, AV.tup.injEq, CV.d.injEq, D.int.injEq, D.bool.injEq, D.str.injEq, D.sl.injEq, Ent.arr.injEq, Ent.box.injEq, true_and, and_true, and_self, nInt_eq, Int.natCast_zero, dLen_eL, sLen_eq, hst]); done)
        | (rw [hst]; done)
    · (conv => whnf)
      refine ⟨i + 1, by omega, by omega, ?_⟩
      ((conv => whnf); simp only [St.mk.injEq, List.cons.injEq, Prod.mk.injEq, AV.c.injEq, AV.agg.injEq, AV.tup.injEq, CV.d.injEq, D.int.injEq, D.bool.injEq, D.str.injEq, D.sl.injEq, Ent.arr.injEq, Ent.box.injEq, true_and, and_true, and_self, nInt_eq, Int.natCast_zero, dLen_eL, sLen_eq, wI (show i < l.length by omega) (by omega), wSub64 (show -9223372036854775808 ≤ ((l.length - 1 - i : Nat) : Int) - 1 by omega) (by omega)])
      omega
  · ((conv => whnf); simp only [St.mk.injEq, List.cons.injEq, Prod.mk.injEq, AV.c.injEq, AV.agg.injEq, AV.tup.injEq, CV.d.injEq, D.int.injEq, D.bool.injEq, D.str.injEq, D.sl.injEq, Ent.arr.injEq, Ent.box.injEq, true_and, and_true, and_self, nInt_eq, Int.natCast_zero, dLen_eL, sLen_eq, revK_end l i (by omega) hi])
end Go.H.S
namespace Go.H.S
open Go Go.Proofs Go.H
attribute [local irreducible] Tri FnSpec FnSpecM
set_option maxRecDepth 100000
set_option linter.unusedSimpArgs false
set_option linter.unusedVariables false


theorem spec_WayTo_spec (t : List Nd) (node : Int) (hl : t.length ≤ 9223372036854775807) : FnSpec PR f_spec_WayTo [aT t, ai node] (.c (.ref 0 0 none)) [(0, .arr t_int 1 0 .own (eL cI (wayL t node)))] 1 := by
  refine FnSpec.intro hT p_spec_WayTo rfl (by kernel_rfl) n_spec_WayTo rfl ?_
  conv => whnf
  refine .inl ⟨_, _, _, spec_LevelOf_spec t node hl, rfl, ?_⟩
  (conv => whnf)
  refine ifB_i (fun h1 => ?_) (fun h1 => ?_) <;> (conv => whnf) <;> simp only [nInt_eq, Int.natCast_zero, dLen_eL, sLen_eq, nOf_eq, Int.toNat_natCast, nAdd_eq, nSub_eq, dLen_nil, dLen_cons, iLt_t, iLt_f, iLe_t, iLe_f, iEq_t, iEq_f, sEq_t, sEq_f, bNot_t, bNot_f, bAnd_t, bEq_t, bEq_f, Bool.not_eq_true, Bool.not_eq_false, Bool.true_eq_false, Bool.false_eq_true] at h1
  · have : wayL t node = [] := by
      unfold levelL lvl at h1
      unfold wayL
      split at h1
      · rename_i hn
        split at h1
        · rename_i l hs
          cases l with
          | nil =>
            have : steps t 32 node = some [] := hs
            simp [steps] at this
          | cons x r => simp at h1; omega
        · rename_i hs
          have : steps t 32 node = none := hs
          simp [hn, this]
      · rename_i hn; rw [if_neg hn]
    rw [this]
    ((conv => whnf); simp only [St.mk.injEq, List.cons.injEq, Prod.mk.injEq, AV.c.injEq, AV.agg.injEq, AV.tup.injEq, CV.d.injEq, D.int.injEq, D.bool.injEq, D.str.injEq, D.sl.injEq, Ent.arr.injEq, Ent.box.injEq, true_and, and_true, and_self, nInt_eq, Int.natCast_zero, dLen_eL, sLen_eq, eL_nil])
  · obtain ⟨hn, l, hs⟩ : (0 ≤ node ∧ node ≤ (t.length : Int) - 1) ∧ ∃ l, steps t 32 node = some l := by
      unfold levelL lvl at h1
      split at h1
      · rename_i hn
        split at h1
        · rename_i l hs; exact ⟨hn, l, hs⟩
        · omega
      · omega
    have hway : wayL t node = l.reverse := by unfold wayL; rw [if_pos hn, hs]
    have hlen := steps_len t 32 node l hs
    refine tri_loop hT [1, 2, 5] (α := Int × List Int × List Int) (fun x => { t := [(1, ai x.1), (2, .c (.ptr 0 0)), (5, .c (.ref 1 0 none))], h := [(0, .box t_impl_Tree (cTr t)), (1, .arr t_int 1 0 .own (eL cI x.2.1))], n := 2, N := 22 })
      (fun x => x.2.2.reverse ++ x.2.1 = l.reverse ∧ ((x.1 < 0 ∧ x.2.2 = []) ∨ (0 ≤ x.1 ∧ ∃ k, steps t k x.1 = some x.2.2))) (fun x => x.2.2.length) (node, [], l) (by ((conv => whnf); simp only [St.mk.injEq, List.cons.injEq, Prod.mk.injEq, AV.c.injEq, AV.agg.injEq, AV.tup.injEq, CV.d.injEq, D.int.injEq, D.bool.injEq, D.str.injEq, D.sl.injEq, Ent.arr.injEq, Ent.box.injEq, true_and, and_true, and_self, nInt_eq, Int.natCast_zero, dLen_eL, sLen_eq, eL_nil])) ⟨by simp, .inr ⟨hn.1, 32, hs⟩⟩ ?_
    intro ⟨x, out, rem⟩ ⟨h2, h3⟩
    dsimp only at h2 h3
    have hol : out.length ≤ 32 := by
      have := congrArg List.length h2
      simp at this; omega
    (conv => whnf)
    refine ifB_i (fun h4 => ?_) (fun h4 => ?_) <;> (conv => whnf) <;> simp only [nInt_eq, Int.natCast_zero, dLen_eL, sLen_eq, nOf_eq, Int.toNat_natCast, nAdd_eq, nSub_eq, dLen_nil, dLen_cons, iLt_t, iLt_f, iLe_t, iLe_f, iEq_t, iEq_f, sEq_t, sEq_f, bNot_t, bNot_f, bAnd_t, bEq_t, bEq_f, Bool.not_eq_true, Bool.not_eq_false, Bool.true_eq_false, Bool.false_eq_true] at h4
    · rcases h3 with ⟨h3, _⟩ | ⟨_, k, h3⟩
      · omega
      refine ⟨by simp [eL_length, dLen_len]; omega, ?_⟩
      (conv => whnf)
      refine .inl ⟨_, _, _, spec_l17Up_spec t x hl, rfl, ?_⟩
      (conv => whnf)
      cases k with
      | zero => simp [steps] at h3
      | succ k =>
        simp only [steps, Option.map_eq_some_iff] at h3
        obtain ⟨r, h5, rfl⟩ := h3
        refine ⟨(up t x, x :: out, r), by simp, ⟨by rw [← h2]; simp, ?_⟩, ?_⟩
        · by_cases hu : up t x < 0
          · rw [if_pos hu] at h5; cases h5; exact .inl ⟨hu, rfl⟩
          · rw [if_neg hu] at h5; exact .inr ⟨by dsimp only; omega, k, h5⟩
        · ((conv => whnf); simp only [St.mk.injEq, List.cons.injEq, Prod.mk.injEq, AV.c.injEq, AV.agg.injEq, AV.tup.injEq, CV.d.injEq, D.int.injEq, D.bool.injEq, D.str.injEq, D.sl.injEq, Ent.arr.injEq, Ent.box.injEq, true_and, and_true, and_self, nInt_eq, Int.natCast_zero, dLen_eL, sLen_eq, partOf_none, eL_cons, dApp_cons, dApp_nil, cI])
    · rcases h3 with ⟨_, h3⟩ | ⟨h3, _⟩
      · subst h3
        simp at h2
        rw [hway, ← h2]
      · omega

theorem impl_wayTo_spec (t : List Nd) (node : Int) (hl : t.length ≤ 9223372036854775807) : FnSpec PR f_impl_wayTo [aT t, ai node] (.c (.ref 0 0 none)) [(0, .arr t_int 1 0 .own (eL cI (wayL t node)))] 1 := by
  have e : wSub .i64 t.length 1 = (t.length : Int) - 1 := wSub64 (by omega) (by omega)
  refine FnSpec.intro hT p_impl_wayTo rfl (by kernel_rfl) n_impl_wayTo rfl ?_
  conv => whnf
  refine .inl ⟨_, _, _, impl_within_spec _ _ _, rfl, ?_⟩
  (conv => whnf)
  refine ifB_i (fun h1 => ?_) (fun h1 => ?_) <;> (conv => whnf) <;> simp only [nInt_eq, Int.natCast_zero, dLen_eL, sLen_eq, nOf_eq, Int.toNat_natCast, nAdd_eq, nSub_eq, dLen_nil, dLen_cons, iLt_t, iLt_f, iLe_t, iLe_f, iEq_t, iEq_f, sEq_t, sEq_f, bNot_t, bNot_f, bAnd_t, bEq_t, bEq_f, Bool.not_eq_true, Bool.not_eq_false, Bool.true_eq_false, Bool.false_eq_true, e, decide_eq_true_eq, decide_eq_false_iff_not] at h1
  · have : wayL t node = [] := by unfold wayL; rw [if_neg h1]
    rw [this]
    ((conv => whnf); simp only [St.mk.injEq, List.cons.injEq, Prod.mk.injEq, AV.c.injEq, AV.agg.injEq, AV.tup.injEq, CV.d.injEq, D.int.injEq, D.bool.injEq, D.str.injEq, D.sl.injEq, Ent.arr.injEq, Ent.box.injEq, true_and, and_true, and_self, nInt_eq, Int.natCast_zero, dLen_eL, sLen_eq, eL_nil])
  refine .inl ⟨_, _, _, impl_parent_spec t node hl, rfl, ?_⟩
  (conv => whnf)
  refine tri_loop hT [2, 5, 6] (α := Int × List Int) (fun x => { t := [(2, .c (.ptr 0 0)), (5, .c (.ref 1 0 none)), (6, ai x.1)], h := [(0, .box t_impl_Tree (cTr t)), (1, .arr t_int 1 0 .own (eL cI x.2))], n := 2, N := 34 })
    (fun x => 1 ≤ x.2.length ∧ x.2.length ≤ 32 ∧ steps t 32 node = (if x.1 < 0 then some [] else steps t (32 - x.2.length) x.1).map (x.2 ++ ·)) (fun x => 33 - x.2.length) (up t node, [node]) (by ((conv => whnf); simp only [St.mk.injEq, List.cons.injEq, Prod.mk.injEq, AV.c.injEq, AV.agg.injEq, AV.tup.injEq, CV.d.injEq, D.int.injEq, D.bool.injEq, D.str.injEq, D.sl.injEq, Ent.arr.injEq, Ent.box.injEq, true_and, and_true, and_self, nInt_eq, Int.natCast_zero, dLen_eL, sLen_eq, eL_nil, eL_cons, cI])) ⟨by simp, by simp, rfl⟩ ?_
  intro ⟨x, out⟩ ⟨h2, h3, h4⟩
  dsimp only at h2 h3 h4
  (conv => whnf)
  refine ifB_i (fun h5 => ?_) (fun h5 => ?_) <;> (conv => whnf) <;> simp only [nInt_eq, Int.natCast_zero, dLen_eL, sLen_eq, nOf_eq, Int.toNat_natCast, nAdd_eq, nSub_eq, dLen_nil, dLen_cons, iLt_t, iLt_f, iLe_t, iLe_f, iEq_t, iEq_f, sEq_t, sEq_f, bNot_t, bNot_f, bAnd_t, bEq_t, bEq_f, Bool.not_eq_true, Bool.not_eq_false, Bool.true_eq_false, Bool.false_eq_true] at h5
  · rw [if_neg (by omega)] at h4
    refine ifB_i (fun h6 => ?_) (fun h6 => ?_) <;> (conv => whnf) <;> simp only [nInt_eq, Int.natCast_zero, dLen_eL, sLen_eq, nOf_eq, Int.toNat_natCast, nAdd_eq, nSub_eq, dLen_nil, dLen_cons, iLt_t, iLt_f, iLe_t, iLe_f, iEq_t, iEq_f, sEq_t, sEq_f, bNot_t, bNot_f, bAnd_t, bEq_t, bEq_f, Bool.not_eq_true, Bool.not_eq_false, Bool.true_eq_false, Bool.false_eq_true, lenRE_none] at h6
    · have : out.length = 32 := by omega
      rw [this] at h4
      have h4 : steps t 32 node = none := h4
      have : wayL t node = [] := by unfold wayL; rw [if_pos h1]; rw [h4]
      rw [this]
      ((conv => whnf); simp only [St.mk.injEq, List.cons.injEq, Prod.mk.injEq, AV.c.injEq, AV.agg.injEq, AV.tup.injEq, CV.d.injEq, D.int.injEq, D.bool.injEq, D.str.injEq, D.sl.injEq, Ent.arr.injEq, Ent.box.injEq, true_and, and_true, and_self, nInt_eq, Int.natCast_zero, dLen_eL, sLen_eq, eL_nil])
    · refine ⟨by simp [eL_length, dLen_len]; omega, ?_⟩
      (conv => whnf)
      refine .inl ⟨_, _, _, impl_parent_spec t x hl, rfl, ?_⟩
      (conv => whnf)
      have hst : steps t (32 - out.length) x = (if up t x < 0 then some [] else steps t (31 - out.length) (up t x)).map (x :: ·) := by rw [show 32 - out.length = (31 - out.length) + 1 by omega, steps]
      rw [hst] at h4
      refine ⟨(up t x, out ++ [x]), by simp; omega, ⟨by simp, by simp; omega, ?_⟩, ?_⟩
      · dsimp only
        rw [h4, Option.map_map]
        simp only [List.length_append, List.length_cons, List.length_nil]
        rw [show 32 - (out.length + (0 + 1)) = 31 - out.length by omega]
        congr 1
        funext y
        simp
      · ((conv => whnf); simp only [St.mk.injEq, List.cons.injEq, Prod.mk.injEq, AV.c.injEq, AV.agg.injEq, AV.tup.injEq, CV.d.injEq, D.int.injEq, D.bool.injEq, D.str.injEq, D.sl.injEq, Ent.arr.injEq, Ent.box.injEq, true_and, and_true, and_self, nInt_eq, Int.natCast_zero, dLen_eL, sLen_eq, partOf_none])
        rw [← eL_app]
        rfl
  · rw [if_pos h5] at h4
    simp at h4
    have hway : wayL t node = out.reverse := by unfold wayL; rw [if_pos h1, h4]
    refine .inr (.inr (.inl ⟨1, ?_⟩))
    (conv => whnf)
    refine .inl ⟨_, _, slices_Reverse_spec out (by omega), ?_⟩
    (conv => whnf)
    rw [hway]
end Go.H.S
namespace Go.H.S
open Go Go.Proofs Go.H
attribute [local irreducible] Tri FnSpec FnSpecM
set_option maxRecDepth 100000
set_option linter.unusedSimpArgs false
set_option linter.unusedVariables false
end Go.H.S
namespace Go.H.S
open Go Go.Proofs Go.H
set_option linter.unusedSimpArgs false
set_option linter.unusedVariables false


theorem hplain : ∀ t ti, Tp t = some ti → plainT Tp ti = true := plain_tab (tab := ptab) (by kernel_rfl)
def i64 (x : Int) : Prop := -9223372036854775808 ≤ x ∧ x ≤ 9223372036854775807
theorem list_of_len {α : Type} {l : List α} {a : α} (h : l.length = 1) (h' : l.take 1 = [a]) : l = [a] := by
  match l, h with
  | [x], _ => simpa using h'
theorem wf_i64 {x : Int} (h : (Lit.int .i64 x).wf = true) : i64 x := by
  unfold Lit.wf at h
  simp only [Bool.and_eq_true, decide_eq_true_eq] at h
  exact ⟨h.1, h.2⟩
theorem ty_str {n : Nat} {c : List D} (h : TyD Tp n t_string c) : ∃ x, c = cS x ∧ x.size ≤ 9223372036854775807 := h.str rfl rfl
theorem ty_int {n : Nat} {c : List D} (h : TyD Tp n t_int c) : ∃ x, c = cI x ∧ i64 x := by
  obtain ⟨x, h1, h2⟩ := h.int rfl rfl
  exact ⟨x, h1, wf_i64 h2⟩
def rgN (n : Nd) : Prop := i64 n.f ∧ i64 n.c ∧ i64 n.l ∧ i64 n.r ∧ i64 n.v
theorem ty_ints {n : Nat} {c : List D} (h : TyD Tp n t_Lint c) : ∃ x, c = cIs x ∧ (x.length ≤ 9223372036854775807 ∧ ∀ y ∈ x, i64 y) := by
  obtain ⟨es, e, b, f⟩ := h.slice rfl rfl rfl
  obtain ⟨l, rfl, q, k⟩ := eL_of (f := cI) (fun c hc => (let ⟨_, hm⟩ := f c hc; ty_int hm))
  exact ⟨l, by rw [e]; rfl, by omega, k⟩
theorem ty_strs {n : Nat} {c : List D} (h : TyD Tp n t_Lstring c) : ∃ x, c = cSs x ∧ (x.length ≤ 9223372036854775807 ∧ ∀ y ∈ x, y.size ≤ 9223372036854775807) := by
  obtain ⟨es, e, b, f⟩ := h.slice rfl rfl rfl
  obtain ⟨l, rfl, q, k⟩ := eL_of (f := cS) (fun c hc => (let ⟨_, hm⟩ := f c hc; ty_str hm))
  exact ⟨l, by rw [e]; rfl, by omega, k⟩

theorem ty_node {n : Nat} {c : List D} (h : TyD Tp n t_laws_Node c) : ∃ x, c = cN x ∧ rgN x := by
  obtain ⟨hl, hf⟩ := h.struct (ti := _) rfl rfl
  obtain ⟨_, g0⟩ := hf (0, t_int) (by simp) _ rfl
  obtain ⟨_, g1⟩ := hf (1, t_int) (by simp) _ rfl
  obtain ⟨_, g2⟩ := hf (2, t_int) (by simp) _ rfl
  obtain ⟨_, g3⟩ := hf (3, t_int) (by simp) _ rfl
  obtain ⟨_, g4⟩ := hf (4, t_int) (by simp) _ rfl
  obtain ⟨x0, e0, r0⟩ := ty_int g0
  obtain ⟨x1, e1, r1⟩ := ty_int g1
  obtain ⟨x2, e2, r2⟩ := ty_int g2
  obtain ⟨x3, e3, r3⟩ := ty_int g3
  obtain ⟨x4, e4, r4⟩ := ty_int g4
  refine ⟨⟨x0, x1, x2, x3, x4⟩, ?_, r0, r1, r2, r3, r4⟩
  match c, hl with
  | [c0, c1, c2, c3, c4], _ =>
    simp [cI] at e0 e1 e2 e3 e4
    simp [cN, e0, e1, e2, e3, e4]
theorem ty_tree {n : Nat} {c : List D} (h : TyD Tp n t_laws_Tree c) : ∃ x, c = cT x ∧ (x.length ≤ 9223372036854775807 ∧ ∀ n ∈ x, rgN n) := by
  obtain ⟨hl, hf⟩ := h.struct (ti := _) rfl rfl
  obtain ⟨_, g0⟩ := hf (0, t_Llaws_Node) (by simp) _ rfl
  obtain ⟨es, e0, e1, e2⟩ := g0.slice rfl rfl rfl
  obtain ⟨l, rfl, l1, k⟩ := eL_of (f := cN) (fun c hc => (let ⟨_, hm⟩ := e2 c hc; ty_node hm))
  exact ⟨l, list_of_len hl (by simpa using e0), by omega, k⟩

def rgGrid (x : Grd) : Prop := (∀ r ∈ x.cuts, ∀ y ∈ r, i64 y) ∧ (∀ r ∈ x.bins, ∀ y ∈ r, i64 y)
theorem ty_grid {n : Nat} {c : List D} (h : TyD Tp n t_laws_Grid c) : ∃ x : Grd, (okGrid x ∧ rgGrid x) ∧ c = [.sl 1 (eL cIs x.cuts), .sl 1 (eL cIs x.bins)] := by
  obtain ⟨hl, hf⟩ := h.struct (ti := _) rfl rfl
  obtain ⟨_, g0⟩ := hf (0, t_LLint) (by simp) _ rfl
  obtain ⟨_, g1⟩ := hf (1, t_LLint) (by simp) _ rfl
  obtain ⟨es0, e0, b0, f0⟩ := g0.slice rfl rfl rfl
  obtain ⟨l0, rfl, q0, k0⟩ := eL_of (f := cIs) (fun c hc => (let ⟨_, hm⟩ := f0 c hc; ty_ints hm))
  obtain ⟨es1, e1, b1, f1⟩ := g1.slice rfl rfl rfl
  obtain ⟨l1, rfl, q1, k1⟩ := eL_of (f := cIs) (fun c hc => (let ⟨_, hm⟩ := f1 c hc; ty_ints hm))
  refine ⟨⟨l0, l1⟩, ⟨⟨⟨by dsimp only; omega, fun t ht => (k0 t ht).1⟩, by dsimp only; omega, fun t ht => (k1 t ht).1⟩, fun t ht => (k0 t ht).2, fun t ht => (k1 t ht).2⟩, ?_⟩
  match c, hl with
  | [c0, c1], _ =>
    simp at e0 e1
    simp [e0, e1]

def rgConfig (x : Cfg) : Prop := i64 x.rounds ∧ i64 x.depth ∧ i64 x.bins ∧ i64 x.lambda ∧ i64 x.rows ∧ i64 x.num ∧ i64 x.den ∧ ∀ y ∈ x.signs, i64 y
theorem ty_config {n : Nat} {c : List D} (h : TyD Tp n t_laws_Config c) : ∃ x : Cfg, (okConfig x ∧ rgConfig x) ∧ c = [.int .i64 x.rounds, .int .i64 x.depth, .int .i64 x.bins, .int .i64 x.lambda, .int .i64 x.rows, .int .i64 x.num, .int .i64 x.den, .sl 1 (eL cI x.signs)] := by
  obtain ⟨hl, hf⟩ := h.struct (ti := _) rfl rfl
  obtain ⟨_, g0⟩ := hf (0, t_int) (by simp) _ rfl
  obtain ⟨_, g1⟩ := hf (1, t_int) (by simp) _ rfl
  obtain ⟨_, g2⟩ := hf (2, t_int) (by simp) _ rfl
  obtain ⟨_, g3⟩ := hf (3, t_int) (by simp) _ rfl
  obtain ⟨_, g4⟩ := hf (4, t_int) (by simp) _ rfl
  obtain ⟨_, g5⟩ := hf (5, t_int) (by simp) _ rfl
  obtain ⟨_, g6⟩ := hf (6, t_int) (by simp) _ rfl
  obtain ⟨_, g7⟩ := hf (7, t_Lint) (by simp) _ rfl
  obtain ⟨x0, e0, r0⟩ := ty_int g0
  obtain ⟨x1, e1, r1⟩ := ty_int g1
  obtain ⟨x2, e2, r2⟩ := ty_int g2
  obtain ⟨x3, e3, r3⟩ := ty_int g3
  obtain ⟨x4, e4, r4⟩ := ty_int g4
  obtain ⟨x5, e5, r5⟩ := ty_int g5
  obtain ⟨x6, e6, r6⟩ := ty_int g6
  obtain ⟨l7, e7, q7, k7⟩ := ty_ints g7
  refine ⟨⟨x0, x1, x2, x3, x4, x5, x6, l7⟩, ⟨q7, r0, r1, r2, r3, r4, r5, r6, k7⟩, ?_⟩
  match c, hl with
  | [c0, c1, c2, c3, c4, c5, c6, c7], _ =>
    simp [cIs, cI] at e0 e1 e2 e3 e4 e5 e6 e7
    simp [e0, e1, e2, e3, e4, e5, e6, e7]
end Go.H.S
namespace Go.H.S
open Go Go.Proofs Go.H
attribute [local irreducible] Tri FnSpec FnSpecM
set_option maxRecDepth 100000
set_option linter.unusedSimpArgs false
set_option linter.unusedVariables false


theorem cost_len {α : Type} (f : α → Nat) (l : List α) : l.length ≤ cost f l := by rw [cost_eq]; omega
theorem cost_costL {α : Type} (f : α → Nat) (l : List α) : costL f l ≤ cost f l := by rw [cost_eq]; omega
theorem model_small {m : Mdl} (h : costModel m ≤ 1048576) : smModel m ∧ m.trees.length ≤ 1048576 ∧ costL List.length m.trees ≤ 1048576 := by
  unfold costModel at h
  have h1 := cost_len ByteArray.size m.names
  have h2 := cost_len costTree m.trees
  have h3 := cost_costL costTree m.trees
  rw [costTree_len] at h3
  refine ⟨⟨by omega, by omega, by omega, fun s hs => ?_⟩, by omega, by omega⟩
  have := costL_mem List.length hs
  omega
theorem bud_ok {c : Nat} (h : 0 ≤ bud 1048576 c) : c ≤ 1048576 := by have := (bud_pos h).1; omega
end Go.H.S
namespace Go.H.S
open Go Go.Proofs Go.H
attribute [local irreducible] Tri FnSpec FnSpecM FnSpecX FnSpecJ
set_option maxRecDepth 100000
set_option linter.unusedSimpArgs false
set_option linter.unusedVariables false
end Go.H.S
namespace Go.H.S
open Go Go.Proofs Go.H
attribute [local irreducible] Tri FnSpec FnSpecM FnSpecX FnSpecJ
set_option maxRecDepth 100000
set_option linter.unusedSimpArgs false
set_option linter.unusedVariables false
end Go.H.S
