/- Library, part MA: rows that are marked. -/
import Derived.Test.YtbclkplebkencaaLG
namespace Go.H.S
open Go Go.Proofs Go.H
attribute [local irreducible] Tri FnSpec FnSpecM FnSpecX FnSpecJ
set_option maxRecDepth 100000
set_option linter.unusedSimpArgs false
set_option linter.unusedVariables false


theorem flat_cN (xs : List Nd) : FlatR (eL cN xs) := fun c hc d hd => by
  rw [eL] at hc
  obtain ⟨x, _, rfl⟩ := List.mem_map.1 hc
  simp [cN] at hd
  rcases hd with rfl | rfl | rfl | rfl | rfl <;> rfl
theorem flat_cS (xs : List ByteArray) : FlatR (eL cS xs) := fun c hc d hd => by
  rw [eL] at hc
  obtain ⟨x, _, rfl⟩ := List.mem_map.1 hc
  simp [cS] at hd
  subst hd; rfl
theorem wRem_ten {n : Nat} : wRem (n : Int) 10 = ((n % 10 : Nat) : Int) := by
  unfold wRem
  rw [Int.tmod_eq_emod_of_nonneg (by omega)]
  omega
theorem wQuo_ten {n : Nat} (h : n ≤ 9223372036854775807) : wQuo .i64 (n : Int) 10 = ((n / 10 : Nat) : Int) := by
  unfold wQuo
  rw [Int.tdiv_eq_ediv_of_nonneg (by omega), wrap64 (by omega) (by omega)]
  omega

/-- Marks: k, k + 1, .. -/
def marks (k : Int) : Nat → List Int
  | 0 => []
  | n + 1 => k :: marks (k + 1) n
theorem marks_len : ∀ (n : Nat) (k : Int), (marks k n).length = n
  | 0, _ => rfl
  | n + 1, k => by simp [marks, marks_len n]
theorem marks_get : ∀ (n : Nat) (k : Int) (j : Nat), j < n → (marks k n)[j]? = some (k + j)
  | 0, _, _, h => by omega
  | n + 1, k, 0, _ => by simp [marks]
  | n + 1, k, j + 1, h => by simp only [marks, List.getElem?_cons_succ]; rw [marks_get n (k + 1) j (by omega)]; congr 1; omega
theorem markIntS_spec (xs : List Int) (k : Int) (hk : 0 ≤ k ∧ k ≤ 1000000000000) (hx : xs.length ≤ 1000000000) : FnSpecM PR f_laws_markIntS [.c (.ref 0 0 none), ai k] t_int 1 (eL cI xs) (ai (k + xs.length)) (eL cI (marks k xs.length)) := by
  refine FnSpecM.intro hT 0 p_laws_markIntS rfl (by kernel_rfl) n_laws_markIntS rfl rfl (by simp [eL_length, marks_len]) rfl (flat_cI _) ?_
  intro v0
  (conv => whnf)
  refine tri_loop hT [0, 1, 5] (α := Nat × List Int) (fun x => { t := [(0, .w (.ref 0 0 none) v0), (1, ai (k + x.1)), (5, ai x.1)], h := [(0, .arr t_int 1 0 .own (eL cI x.2))], n := 1, N := 19 })
    (fun x => x.1 ≤ xs.length ∧ x.2.length = xs.length ∧ ∀ j, j < x.1 → x.2[j]? = some (k + j)) (fun x => xs.length - x.1) (0, xs) (by ((conv => whnf); simp only [St.mk.injEq, List.cons.injEq, Prod.mk.injEq, AV.c.injEq, AV.agg.injEq, AV.tup.injEq, CV.d.injEq, D.int.injEq, D.bool.injEq, D.str.injEq, D.sl.injEq, Ent.arr.injEq, Ent.box.injEq, true_and, and_true, and_self, nInt_eq, Int.natCast_zero, dLen_eL, sLen_eq, Int.add_zero])) ⟨Nat.zero_le _, rfl, fun j hj => by omega⟩ ?_
  intro ⟨i, ys⟩ ⟨hi, hl, hj⟩
  dsimp only at hi hl hj
  (conv => whnf)
  refine ifB_i (fun h1 => ?_) (fun h1 => ?_) <;> (conv => whnf) <;> simp at h1
  · obtain ⟨y, hy⟩ := get_lt h1
    refine ref_at (k := i) (by simp) (by simp; omega) ?_
    (conv => whnf)
    refine st_at (by simp) hy (by simp [cI]) ?_
    (conv => whnf)
    refine ⟨(i + 1, ys.set i (k + i)), by dsimp only; omega, ⟨by dsimp only; omega, by simp [hl], fun j hlt => ?_⟩, ?_⟩
    · dsimp only at hlt ⊢
      rw [List.getElem?_set]
      split
      · rename_i he; subst he; simp [hl, h1]
      · exact hj j (by omega)
    · ((conv => whnf); simp only [St.mk.injEq, List.cons.injEq, Prod.mk.injEq, AV.c.injEq, AV.agg.injEq, AV.tup.injEq, CV.d.injEq, D.int.injEq, D.bool.injEq, D.str.injEq, D.sl.injEq, Ent.arr.injEq, Ent.box.injEq, true_and, and_true, and_self, nInt_eq, Int.natCast_zero, dLen_eL, sLen_eq])
      refine ⟨⟨by rw [wAdd64] <;> omega, wI h1 (by omega)⟩, ?_⟩
      have := cI_set ys i y (k + i)
      simpa using this
  · obtain rfl : i = xs.length := by omega
    have : ys = marks k xs.length := by
      apply List.ext_getElem?
      intro j
      rcases Nat.lt_or_ge j xs.length with q | q
      · rw [hj j q, marks_get _ _ _ q]
      · rw [List.getElem?_eq_none (by omega), List.getElem?_eq_none (by rw [marks_len]; omega)]
    subst this
    (conv => whnf)

theorem heldIntS_spec (k : Int) (n : Nat) (hk : 0 ≤ k ∧ k ≤ 1000000000000) (hx : n ≤ 1000000000) : FnSpec PR f_laws_heldIntS [aIs (marks k n), ai k] (ai (k + n)) [] 0 := by
  have hml := marks_len n k
  refine FnSpec.intro hT p_laws_heldIntS rfl (by kernel_rfl) n_laws_heldIntS rfl ?_
  conv => whnf
  refine tri_loop hT [0, 1, 5] (α := Nat) (fun x => { t := [(0, aIs (marks k n)), (1, ai (k + x)), (5, ai x)], h := [], n := 0, N := 21 })
    (fun x => x ≤ n) (fun x => n - x) 0 (by ((conv => whnf); simp only [St.mk.injEq, List.cons.injEq, Prod.mk.injEq, AV.c.injEq, AV.agg.injEq, AV.tup.injEq, CV.d.injEq, D.int.injEq, D.bool.injEq, D.str.injEq, D.sl.injEq, Ent.arr.injEq, Ent.box.injEq, true_and, and_true, and_self, nInt_eq, Int.natCast_zero, dLen_eL, sLen_eq, Int.add_zero])) (Nat.zero_le _) ?_
  intro i hi
  (conv => whnf)
  refine ifB_i (fun h1 => ?_) (fun h1 => ?_) <;> (conv => whnf) <;> simp [hml] at h1
  · have hy := marks_get n k i h1
    refine idx_at (by simp) hy ?_
    (conv => whnf)
    refine ifB_i (fun h2 => ?_) (fun h2 => ?_) <;> (conv => whnf) <;> simp only [nInt_eq, Int.natCast_zero, dLen_eL, sLen_eq, nOf_eq, Int.toNat_natCast, nAdd_eq, nSub_eq, dLen_nil, dLen_cons, iLt_t, iLt_f, iLe_t, iLe_f, iEq_t, iEq_f, sEq_t, sEq_f, bNot_t, bNot_f, bAnd_t, bEq_t, bEq_f, Bool.not_eq_true, Bool.not_eq_false, Bool.true_eq_false, Bool.false_eq_true] at h2
    · exact absurd rfl h2
    · refine ⟨i + 1, by omega, by omega, ?_⟩
      ((conv => whnf); simp only [St.mk.injEq, List.cons.injEq, Prod.mk.injEq, AV.c.injEq, AV.agg.injEq, AV.tup.injEq, CV.d.injEq, D.int.injEq, D.bool.injEq, D.str.injEq, D.sl.injEq, Ent.arr.injEq, Ent.box.injEq, true_and, and_true, and_self, nInt_eq, Int.natCast_zero, dLen_eL, sLen_eq, wI h1 (by omega), wAdd64 (show -9223372036854775808 ≤ k + (i : Int) + 1 by omega) (by omega), Int.natCast_add, Int.cast_ofNat_Int, Int.add_assoc])
  · obtain rfl : i = n := by omega
    (conv => whnf)

theorem cN_set0 (ns : List Nd) (i : Nat) (x : Nd) (v : Int) : dSet (eL cN ns) i (dOver (cN x) 0 [.int .i64 v]) = eL cN (ns.set i ⟨v, x.c, x.l, x.r, x.v⟩) := by
  rw [← eL_set]; congr 1; simp [dOver, cN, over]
theorem cN_set1 (ns : List Nd) (i : Nat) (x : Nd) (v : Int) : dSet (eL cN ns) i (dOver (cN x) 1 [.int .i64 v]) = eL cN (ns.set i ⟨x.f, v, x.l, x.r, x.v⟩) := by
  rw [← eL_set]; congr 1; simp [dOver, cN, over]
theorem cN_set2 (ns : List Nd) (i : Nat) (x : Nd) (v : Int) : dSet (eL cN ns) i (dOver (cN x) 2 [.int .i64 v]) = eL cN (ns.set i ⟨x.f, x.c, v, x.r, x.v⟩) := by
  rw [← eL_set]; congr 1; simp [dOver, cN, over]
theorem cN_set3 (ns : List Nd) (i : Nat) (x : Nd) (v : Int) : dSet (eL cN ns) i (dOver (cN x) 3 [.int .i64 v]) = eL cN (ns.set i ⟨x.f, x.c, x.l, v, x.v⟩) := by
  rw [← eL_set]; congr 1; simp [dOver, cN, over]
theorem cN_set4 (ns : List Nd) (i : Nat) (x : Nd) (v : Int) : dSet (eL cN ns) i (dOver (cN x) 4 [.int .i64 v]) = eL cN (ns.set i ⟨x.f, x.c, x.l, x.r, v⟩) := by
  rw [← eL_set]; congr 1; simp [dOver, cN, over]
theorem markNodeS_lost (ns : List Nd) (k : Int) (hk : 0 ≤ k ∧ k ≤ 1000000000000) (hx : ns.length ≤ 1000000000) : FnSpecJ PR f_laws_markNodeS [.c (.ref 0 0 none), ai k] [(0, .arr t_impl_Node 5 0 .own (eL cN ns))] 1 (ai (k + 5 * ns.length)) := by
  refine FnSpecJ.intro hT p_laws_markNodeS rfl (by kernel_rfl) n_laws_markNodeS rfl rfl rfl ?_
  (conv => whnf)
  refine tri_loop hT [0, 1, 5] (α := Nat × List Nd) (fun x => { t := [(0, .c (.ref 0 0 none)), (1, ai (k + 5 * x.1)), (5, ai x.1)], h := [(0, .arr t_impl_Node 5 0 .own (eL cN x.2))], n := 1, N := 48 })
    (fun x => x.1 ≤ ns.length ∧ x.2.length = ns.length) (fun x => ns.length - x.1) (0, ns) (by ((conv => whnf); simp only [St.mk.injEq, List.cons.injEq, Prod.mk.injEq, AV.c.injEq, AV.agg.injEq, AV.tup.injEq, CV.d.injEq, D.int.injEq, D.bool.injEq, D.str.injEq, D.sl.injEq, Ent.arr.injEq, Ent.box.injEq, true_and, and_true, and_self, nInt_eq, Int.natCast_zero, dLen_eL, sLen_eq]); simp) ⟨Nat.zero_le _, rfl⟩ ?_
  intro ⟨i, ys⟩ ⟨hi, hl⟩
  dsimp only at hi hl
  (conv => whnf)
  refine ifB_i (fun h1 => ?_) (fun h1 => ?_) <;> (conv => whnf) <;> simp at h1
  · obtain ⟨y, hy⟩ := get_lt h1
    have e1 : wAdd .i64 (k + 5 * (i : Int)) 1 = k + 5 * i + 1 := by rw [wAdd64] <;> omega
    have e2 : wAdd .i64 (k + 5 * (i : Int) + 1) 1 = k + 5 * i + 2 := by rw [wAdd64] <;> omega
    have e3 : wAdd .i64 (k + 5 * (i : Int) + 2) 1 = k + 5 * i + 3 := by rw [wAdd64] <;> omega
    have e4 : wAdd .i64 (k + 5 * (i : Int) + 3) 1 = k + 5 * i + 4 := by rw [wAdd64] <;> omega
    have e5 : wAdd .i64 (k + 5 * (i : Int) + 4) 1 = k + 5 * i + 5 := by rw [wAdd64] <;> omega
    have ei : nAdd (offR none) (nOf ((i : Nat) : Int)) = i := by simp
    refine ref_at (k := i) (by simp) (by simp; omega) ?_
    (conv => whnf)
    refine st_at (by simp) hy (by simp [cN]) ?_
    dsimp only
    rw [ei, cN_set0]
    generalize hz0 : ys.set i _ = z0
    have hl0 : z0.length = ns.length := by rw [← hz0]; simp [hl]
    obtain ⟨y0, hy0⟩ := get_lt (show i < z0.length by omega)
    (conv => whnf)
    refine ref_at (k := i) (by simp) (by simp; omega) ?_
    (conv => whnf)
    refine st_at (by simp) hy0 (by simp [cN]) ?_
    dsimp only
    rw [ei, cN_set1]
    generalize hz1 : z0.set i _ = z1
    have hl1 : z1.length = ns.length := by rw [← hz1]; simp [hl0]
    obtain ⟨y1, hy1⟩ := get_lt (show i < z1.length by omega)
    (conv => whnf)
    refine ref_at (k := i) (by simp) (by simp; omega) ?_
    (conv => whnf)
    refine st_at (by simp) hy1 (by simp [cN]) ?_
    dsimp only
    rw [ei, cN_set2]
    generalize hz2 : z1.set i _ = z2
    have hl2 : z2.length = ns.length := by rw [← hz2]; simp [hl1]
    obtain ⟨y2, hy2⟩ := get_lt (show i < z2.length by omega)
    (conv => whnf)
    refine ref_at (k := i) (by simp) (by simp; omega) ?_
    (conv => whnf)
    refine st_at (by simp) hy2 (by simp [cN]) ?_
    dsimp only
    rw [ei, cN_set3]
    generalize hz3 : z2.set i _ = z3
    have hl3 : z3.length = ns.length := by rw [← hz3]; simp [hl2]
    obtain ⟨y3, hy3⟩ := get_lt (show i < z3.length by omega)
    (conv => whnf)
    refine ref_at (k := i) (by simp) (by simp; omega) ?_
    (conv => whnf)
    refine st_at (by simp) hy3 (by simp [cN]) ?_
    dsimp only
    rw [ei, cN_set4]
    generalize hz4 : z3.set i _ = z4
    have hl4 : z4.length = ns.length := by rw [← hz4]; simp [hl3]
    obtain ⟨y4, hy4⟩ := get_lt (show i < z4.length by omega)
    (conv => whnf)
    refine ⟨(i + 1, z4), by dsimp only; omega, ⟨by dsimp only; omega, hl4⟩, ?_⟩
    ((conv => whnf); simp only [St.mk.injEq, List.cons.injEq, Prod.mk.injEq, AV.c.injEq, AV.agg.injEq, AV.tup.injEq, CV.d.injEq, D.int.injEq, D.bool.injEq, D.str.injEq, D.sl.injEq, Ent.arr.injEq, Ent.box.injEq, true_and, and_true, and_self, nInt_eq, Int.natCast_zero, dLen_eL, sLen_eq, e1, e2, e3, e4, e5, wI h1 (by omega)])
    omega
  · obtain rfl : i = ns.length := by omega
    (conv => whnf)

theorem markTree_lost (ns : List Nd) (k : Int) (hk : 0 ≤ k ∧ k ≤ 1000000000000) (hx : ns.length ≤ 1000000000) : FnSpecJ PR f_laws_markTree [.agg [.ref 0 0 none], ai k] [(0, .arr t_impl_Node 5 0 .own (eL cN ns))] 1 (ai (k + 5 * ns.length)) := by
  refine FnSpecJ.intro hT p_laws_markTree rfl (by kernel_rfl) n_laws_markTree rfl rfl rfl ?_
  (conv => whnf)
  refine .inr (.inr (.inr (.inl ⟨[(0, 0)], ?_⟩)))
  (conv => whnf)
  refine ⟨[.c (.ref 0 0 none), ai k], _, ⟨rfl, rfl, rfl⟩, markNodeS_lost ns k hk hx, ?_⟩
  (conv => whnf)


/-- The digits of a number, ahead of what stands. -/
def digs : Nat → Nat → ByteArray → ByteArray
  | 0, _, s => s
  | m + 1, n, s => if n = 0 then s else digs m (n / 10) (sApp ⟨#[UInt8.ofNat (48 + n % 10)]⟩ s)
def mtext (k : Int) : ByteArray := sApp ⟨#[109]⟩ (digs 20 k.toNat ⟨#[]⟩)
theorem markText_spec (k : Int) (hk : 0 < k ∧ k ≤ 1000000000000) : FnSpec PR f_laws_markText [ai k] (aS (mtext k)) [] 0 := by
  refine FnSpec.intro hT p_laws_markText rfl (by kernel_rfl) n_laws_markText rfl ?_
  conv => whnf
  rw [show iLe k 0 = false by simp; omega]
  (conv => whnf)
  obtain ⟨n, rfl⟩ : ∃ n : Nat, k = n := ⟨k.toNat, by omega⟩
  refine tri_loop hT [0, 3] (α := Nat × Nat × ByteArray) (fun x => { t := [(0, ai x.2.1), (3, aS x.2.2)], h := [], n := 0, N := 20 })
    (fun x => x.2.1 < 10 ^ x.1 ∧ x.1 ≤ 20 ∧ x.2.1 ≤ 1000000000000 ∧ x.2.2.size + x.1 ≤ 20 ∧ digs x.1 x.2.1 x.2.2 = digs 20 n ⟨#[]⟩) (fun x => x.1) (20, n, ⟨#[]⟩) (by (conv => whnf)) ⟨Nat.lt_of_le_of_lt (show n ≤ 1000000000000 by omega) (show 1000000000000 < 10 ^ 20 by decide), Nat.le_refl _, by dsimp only; omega, Nat.le_refl _, rfl⟩ ?_
  intro ⟨m, i, s⟩ ⟨h1, h2, h3, h4, h5⟩
  dsimp only at h1 h2 h3 h4 h5
  (conv => whnf)
  refine ifB_i (fun g => ?_) (fun g => ?_) <;> (conv => whnf) <;> simp only [nInt_eq, Int.natCast_zero, dLen_eL, sLen_eq, nOf_eq, Int.toNat_natCast, nAdd_eq, nSub_eq, dLen_nil, dLen_cons, iLt_t, iLt_f, iLe_t, iLe_f, iEq_t, iEq_f, sEq_t, sEq_f, bNot_t, bNot_f, bAnd_t, bEq_t, bEq_f, Bool.not_eq_true, Bool.not_eq_false, Bool.true_eq_false, Bool.false_eq_true] at g
  · obtain ⟨m, rfl⟩ : ∃ m', m = m' + 1 := ⟨m - 1, by rcases m with _ | m <;> simp_all <;> omega⟩
    refine And.intro (by simp [NZ]) ?_
    (conv => whnf)
    rw [wRem_ten]
    have e1 : wAdd .i64 48 ((i % 10 : Nat) : Int) = ((48 + i % 10 : Nat) : Int) := by rw [wAdd64] <;> omega
    rw [e1]
    have e2 : wConv .u8 ((48 + i % 10 : Nat) : Int) = ((48 + i % 10 : Nat) : Int) := by
      unfold wConv
      have : ∀ j, j < 10 → IntKind.u8.wrap ((48 + j : Nat) : Int) = ((48 + j : Nat) : Int) := by decide
      exact this _ (Nat.mod_lt _ (by decide))
    rw [e2]
    (conv => whnf)
    refine ⟨⟨#[UInt8.ofNat (48 + i % 10)]⟩, ?_, ?_⟩
    · simp only [encB, partOf, lenR, offR]
      have : ∀ j, j < 10 → (UInt8.ofNat (48 + j)).toNat = 48 + j := by decide
      have h6 := this (i % 10) (Nat.mod_lt _ (by decide))
      simp [h6]
      try omega
    (conv => whnf)
    refine And.intro (by unfold FitsS; have : (⟨#[UInt8.ofNat (48 + i % 10)]⟩ : ByteArray).size = 1 := rfl; dsimp only; omega) ?_
    (conv => whnf)
    refine And.intro (by simp [NZ]) ?_
    (conv => whnf)
    rw [wQuo_ten (by dsimp only; omega)]
    (conv => whnf)
    refine ⟨(m, i / 10, sApp ⟨#[UInt8.ofNat (48 + i % 10)]⟩ s), by dsimp only; omega, ⟨?_, by dsimp only; omega, by dsimp only; omega, ?_, ?_⟩, ?_⟩
    · dsimp only
      rw [Nat.pow_succ] at h1
      omega
    · dsimp only
      have : (sApp ⟨#[UInt8.ofNat (48 + i % 10)]⟩ s).size = 1 + s.size := by unfold sApp; rw [ByteArray.size_append]; rfl
      omega
    · dsimp only
      rw [← h5, digs, if_neg (by omega)]
    (conv => whnf)
  · have : digs m i s = s := by
      cases m with
      | zero => rfl
      | succ m => rw [digs, if_pos (by omega)]
    rw [this] at h5
    refine And.intro (by unfold FitsS; have : (⟨#[109]⟩ : ByteArray).size = 1 := rfl; dsimp only; omega) ?_
    (conv => whnf)
    rw [show mtext (n : Int) = sApp ⟨#[109]⟩ s by rw [h5]; rfl]

def marksS (k : Int) : Nat → List ByteArray
  | 0 => []
  | n + 1 => mtext k :: marksS (k + 1) n
theorem marksS_len : ∀ (n : Nat) (k : Int), (marksS k n).length = n
  | 0, _ => rfl
  | n + 1, k => by simp [marksS, marksS_len n]
theorem marksS_get : ∀ (n : Nat) (k : Int) (j : Nat), j < n → (marksS k n)[j]? = some (mtext (k + j))
  | 0, _, _, h => by omega
  | n + 1, k, 0, _ => by simp [marksS]
  | n + 1, k, j + 1, h => by simp only [marksS, List.getElem?_cons_succ]; rw [marksS_get n (k + 1) j (by omega)]; congr 2; omega
theorem cS_set (xs : List ByteArray) (k : Nat) (x y : ByteArray) : dSet (eL cS xs) k (dOver (cS x) 0 [.str y]) = eL cS (xs.set k y) := by
  rw [dOver_all (by rfl)]; exact eL_set cS xs k y
theorem markStringS_spec (xs : List ByteArray) (k : Int) (hk : 0 < k ∧ k + xs.length ≤ 1000000000000) (hx : xs.length ≤ 1000000000) : FnSpecM PR f_laws_markStringS [.c (.ref 0 0 none), ai k] t_string 1 (eL cS xs) (ai (k + xs.length)) (eL cS (marksS k xs.length)) := by
  refine FnSpecM.intro hT 0 p_laws_markStringS rfl (by kernel_rfl) n_laws_markStringS rfl rfl (by simp [eL_length, marksS_len]) rfl (flat_cS _) ?_
  intro v0
  (conv => whnf)
  refine tri_loop hT [0, 1, 5] (α := Nat × List ByteArray) (fun x => { t := [(0, .w (.ref 0 0 none) v0), (1, ai (k + x.1)), (5, ai x.1)], h := [(0, .arr t_string 1 0 .own (eL cS x.2))], n := 1, N := 20 })
    (fun x => x.1 ≤ xs.length ∧ x.2.length = xs.length ∧ ∀ j, j < x.1 → x.2[j]? = some (mtext (k + j))) (fun x => xs.length - x.1) (0, xs) (by ((conv => whnf); simp only [St.mk.injEq, List.cons.injEq, Prod.mk.injEq, AV.c.injEq, AV.agg.injEq, AV.tup.injEq, CV.d.injEq, D.int.injEq, D.bool.injEq, D.str.injEq, D.sl.injEq, Ent.arr.injEq, Ent.box.injEq, true_and, and_true, and_self, nInt_eq, Int.natCast_zero, dLen_eL, sLen_eq, Int.add_zero])) ⟨Nat.zero_le _, rfl, fun j hj => by omega⟩ ?_
  intro ⟨i, ys⟩ ⟨hi, hl, hj⟩
  dsimp only at hi hl hj
  (conv => whnf)
  refine ifB_i (fun h1 => ?_) (fun h1 => ?_) <;> (conv => whnf) <;> simp at h1
  · obtain ⟨y, hy⟩ := get_lt h1
    have hms := markText_spec (k + i) (by omega)
    refine .inl ⟨_, _, _, hms, rfl, ?_⟩
    (conv => whnf)
    refine ref_at (k := i) (by simp) (by simp; omega) ?_
    (conv => whnf)
    refine st_at (by simp) hy (by simp [cS]) ?_
    (conv => whnf)
    refine ⟨(i + 1, ys.set i (mtext (k + i))), by dsimp only; omega, ⟨by dsimp only; omega, by simp [hl], fun j hlt => ?_⟩, ?_⟩
    · dsimp only at hlt ⊢
      rw [List.getElem?_set]
      split
      · rename_i he; subst he; simp [hl, h1]
      · exact hj j (by omega)
    · ((conv => whnf); simp only [St.mk.injEq, List.cons.injEq, Prod.mk.injEq, AV.c.injEq, AV.agg.injEq, AV.tup.injEq, CV.d.injEq, D.int.injEq, D.bool.injEq, D.str.injEq, D.sl.injEq, Ent.arr.injEq, Ent.box.injEq, true_and, and_true, and_self, nInt_eq, Int.natCast_zero, dLen_eL, sLen_eq])
      refine ⟨⟨by rw [wAdd64] <;> omega, wI h1 (by omega)⟩, ?_⟩
      have := cS_set ys i y (mtext (k + i))
      simpa using this
  · obtain rfl : i = xs.length := by omega
    have : ys = marksS k xs.length := by
      apply List.ext_getElem?
      intro j
      rcases Nat.lt_or_ge j xs.length with q | q
      · rw [hj j q, marksS_get _ _ _ q]
      · rw [List.getElem?_eq_none (by omega), List.getElem?_eq_none (by rw [marksS_len]; omega)]
    subst this
    (conv => whnf)

def marksN (k : Int) : Nat → List Nd
  | 0 => []
  | n + 1 => ⟨k, k + 1, k + 2, k + 3, k + 4⟩ :: marksN (k + 5) n
theorem marksN_len : ∀ (n : Nat) (k : Int), (marksN k n).length = n
  | 0, _ => rfl
  | n + 1, k => by simp [marksN, marksN_len n]
theorem marksN_get : ∀ (n : Nat) (k : Int) (j : Nat), j < n → (marksN k n)[j]? = some ⟨k + 5 * j, k + 5 * j + 1, k + 5 * j + 2, k + 5 * j + 3, k + 5 * j + 4⟩
  | 0, _, _, h => by omega
  | n + 1, k, 0, _ => by simp [marksN]
  | n + 1, k, j + 1, h => by
    simp only [marksN, List.getElem?_cons_succ]
    rw [marksN_get n (k + 5) j (by omega)]
    simp only [Option.some.injEq, Nd.mk.injEq]
    omega
set_option maxHeartbeats 1000000 in
theorem markNodeS_spec (ns : List Nd) (k : Int) (hk : 0 ≤ k ∧ k ≤ 1000000000000) (hx : ns.length ≤ 1000000000) : FnSpecM PR f_laws_markNodeS [.c (.ref 0 0 none), ai k] t_impl_Node 5 (eL cN ns) (ai (k + 5 * ns.length)) (eL cN (marksN k ns.length)) := by
  refine FnSpecM.intro hT 0 p_laws_markNodeS rfl (by kernel_rfl) n_laws_markNodeS rfl rfl (by simp [eL_length, marksN_len]) rfl (flat_cN _) ?_
  intro v0
  (conv => whnf)
  refine tri_loop hT [0, 1, 5] (α := Nat × List Nd) (fun x => { t := [(0, .w (.ref 0 0 none) v0), (1, ai (k + 5 * x.1)), (5, ai x.1)], h := [(0, .arr t_impl_Node 5 0 .own (eL cN x.2))], n := 1, N := 48 })
    (fun x => x.1 ≤ ns.length ∧ x.2.length = ns.length ∧ ∀ j : Nat, j < x.1 → x.2[j]? = some ⟨k + 5 * j, k + 5 * j + 1, k + 5 * j + 2, k + 5 * j + 3, k + 5 * j + 4⟩) (fun x => ns.length - x.1) (0, ns) (by ((conv => whnf); simp only [St.mk.injEq, List.cons.injEq, Prod.mk.injEq, AV.c.injEq, AV.agg.injEq, AV.tup.injEq, CV.d.injEq, D.int.injEq, D.bool.injEq, D.str.injEq, D.sl.injEq, Ent.arr.injEq, Ent.box.injEq, true_and, and_true, and_self, nInt_eq, Int.natCast_zero, dLen_eL, sLen_eq]); simp) ⟨Nat.zero_le _, rfl, fun j hj => by omega⟩ ?_
  intro ⟨i, ys⟩ ⟨hi, hl, hj⟩
  dsimp only at hi hl hj
  (conv => whnf)
  refine ifB_i (fun h1 => ?_) (fun h1 => ?_) <;> (conv => whnf) <;> simp at h1
  · obtain ⟨y, hy⟩ := get_lt h1
    rw [hl] at h1
    have e1 : wAdd .i64 (k + 5 * (i : Int)) 1 = k + 5 * i + 1 := by rw [wAdd64] <;> omega
    have e2 : wAdd .i64 (k + 5 * (i : Int) + 1) 1 = k + 5 * i + 2 := by rw [wAdd64] <;> omega
    have e3 : wAdd .i64 (k + 5 * (i : Int) + 2) 1 = k + 5 * i + 3 := by rw [wAdd64] <;> omega
    have e4 : wAdd .i64 (k + 5 * (i : Int) + 3) 1 = k + 5 * i + 4 := by rw [wAdd64] <;> omega
    have e5 : wAdd .i64 (k + 5 * (i : Int) + 4) 1 = k + 5 * i + 5 := by rw [wAdd64] <;> omega
    have ei : nAdd (offR none) (nOf ((i : Nat) : Int)) = i := by simp
    dsimp only
    obtain ⟨K, hK⟩ : ∃ K : Int, K = k + 5 * i := ⟨_, rfl⟩
    rw [← hK] at e1 e2 e3 e4 e5 ⊢
    skip
    refine ref_at (k := i) (by simp) (by simp; omega) ?_
    (conv => whnf)
    refine st_at (k := i) (by simp) hy (by simp [cN]) ?_
    dsimp only
    rw [ei, cN_set0]
    have q0 : (ys.set i (⟨K, y.c, y.l, y.r, y.v⟩ : Nd))[i]? = some (⟨K, y.c, y.l, y.r, y.v⟩ : Nd) := by rw [List.getElem?_set]; simp [hl, h1]
    have l0 : (ys.set i (⟨K, y.c, y.l, y.r, y.v⟩ : Nd)).length = ns.length := by simp [hl]
    have r0 : ∀ j, j ≠ i → (ys.set i (⟨K, y.c, y.l, y.r, y.v⟩ : Nd))[j]? = ys[j]? := fun j hj => by rw [List.getElem?_set, if_neg (fun h => hj h.symm)]
    generalize z0e : ys.set i (⟨K, y.c, y.l, y.r, y.v⟩ : Nd) = z0 at *
    (conv => whnf)
    rw [e1]
    refine ref_at (k := i) (by simp) (by simp; omega) ?_
    (conv => whnf)
    refine st_at (k := i) (by simp) q0 (by simp [cN]) ?_
    dsimp only
    rw [ei, cN_set1]
    have q1 : (z0.set i (⟨K, K + 1, y.l, y.r, y.v⟩ : Nd))[i]? = some (⟨K, K + 1, y.l, y.r, y.v⟩ : Nd) := by rw [List.getElem?_set]; simp [l0, h1]
    have l1 : (z0.set i (⟨K, K + 1, y.l, y.r, y.v⟩ : Nd)).length = ns.length := by simp [l0]
    have r1 : ∀ j, j ≠ i → (z0.set i (⟨K, K + 1, y.l, y.r, y.v⟩ : Nd))[j]? = z0[j]? := fun j hj => by rw [List.getElem?_set, if_neg (fun h => hj h.symm)]
    generalize z1e : z0.set i (⟨K, K + 1, y.l, y.r, y.v⟩ : Nd) = z1 at *
    (conv => whnf)
    rw [e2]
    refine ref_at (k := i) (by simp) (by simp; omega) ?_
    (conv => whnf)
    refine st_at (k := i) (by simp) q1 (by simp [cN]) ?_
    dsimp only
    rw [ei, cN_set2]
    have q2 : (z1.set i (⟨K, K + 1, K + 2, y.r, y.v⟩ : Nd))[i]? = some (⟨K, K + 1, K + 2, y.r, y.v⟩ : Nd) := by rw [List.getElem?_set]; simp [l1, h1]
    have l2 : (z1.set i (⟨K, K + 1, K + 2, y.r, y.v⟩ : Nd)).length = ns.length := by simp [l1]
    have r2 : ∀ j, j ≠ i → (z1.set i (⟨K, K + 1, K + 2, y.r, y.v⟩ : Nd))[j]? = z1[j]? := fun j hj => by rw [List.getElem?_set, if_neg (fun h => hj h.symm)]
    generalize z2e : z1.set i (⟨K, K + 1, K + 2, y.r, y.v⟩ : Nd) = z2 at *
    (conv => whnf)
    rw [e3]
    refine ref_at (k := i) (by simp) (by simp; omega) ?_
    (conv => whnf)
    refine st_at (k := i) (by simp) q2 (by simp [cN]) ?_
    dsimp only
    rw [ei, cN_set3]
    have q3 : (z2.set i (⟨K, K + 1, K + 2, K + 3, y.v⟩ : Nd))[i]? = some (⟨K, K + 1, K + 2, K + 3, y.v⟩ : Nd) := by rw [List.getElem?_set]; simp [l2, h1]
    have l3 : (z2.set i (⟨K, K + 1, K + 2, K + 3, y.v⟩ : Nd)).length = ns.length := by simp [l2]
    have r3 : ∀ j, j ≠ i → (z2.set i (⟨K, K + 1, K + 2, K + 3, y.v⟩ : Nd))[j]? = z2[j]? := fun j hj => by rw [List.getElem?_set, if_neg (fun h => hj h.symm)]
    generalize z3e : z2.set i (⟨K, K + 1, K + 2, K + 3, y.v⟩ : Nd) = z3 at *
    (conv => whnf)
    rw [e4]
    refine ref_at (k := i) (by simp) (by simp; omega) ?_
    (conv => whnf)
    refine st_at (k := i) (by simp) q3 (by simp [cN]) ?_
    dsimp only
    rw [ei, cN_set4]
    have q4 : (z3.set i (⟨K, K + 1, K + 2, K + 3, K + 4⟩ : Nd))[i]? = some (⟨K, K + 1, K + 2, K + 3, K + 4⟩ : Nd) := by rw [List.getElem?_set]; simp [l3, h1]
    have l4 : (z3.set i (⟨K, K + 1, K + 2, K + 3, K + 4⟩ : Nd)).length = ns.length := by simp [l3]
    have r4 : ∀ j, j ≠ i → (z3.set i (⟨K, K + 1, K + 2, K + 3, K + 4⟩ : Nd))[j]? = z3[j]? := fun j hj => by rw [List.getElem?_set, if_neg (fun h => hj h.symm)]
    generalize z4e : z3.set i (⟨K, K + 1, K + 2, K + 3, K + 4⟩ : Nd) = z4 at *
    (conv => whnf)
    rw [e5]
    refine ⟨(i + 1, z4), by dsimp only; omega, ⟨by dsimp only; omega, l4, fun j hlt => ?_⟩, ?_⟩
    · dsimp only at hlt ⊢
      rcases Nat.lt_or_ge j i with q | q
      · rw [r4 j (by omega), r3 j (by omega), r2 j (by omega), r1 j (by omega), r0 j (by omega), hj j q]
      · obtain rfl : j = i := by omega
        rw [q4, hK]
    · ((conv => whnf); simp only [St.mk.injEq, List.cons.injEq, Prod.mk.injEq, AV.c.injEq, AV.agg.injEq, AV.tup.injEq, CV.d.injEq, D.int.injEq, D.bool.injEq, D.str.injEq, D.sl.injEq, Ent.arr.injEq, Ent.box.injEq, true_and, and_true, and_self, nInt_eq, Int.natCast_zero, dLen_eL, sLen_eq, wI h1 (by omega)])
      omega
  · obtain rfl : i = ns.length := by omega
    have : ys = marksN k ns.length := by
      apply List.ext_getElem?
      intro j
      rcases Nat.lt_or_ge j ns.length with q | q
      · rw [hj j q, marksN_get _ _ _ q]
      · rw [List.getElem?_eq_none (by omega), List.getElem?_eq_none (by rw [marksN_len]; omega)]
    subst this
    (conv => whnf)
end Go.H.S
