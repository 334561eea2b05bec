/- Library, part MA: rows that are marked. -/
import Derived.Test.YtpkpedaonmbeiaaLG
namespace Go.H.S
open Go Go.Proofs Go.H
attribute [local irreducible] Tri FnSpec FnSpecM FnSpecX FnSpecJ
set_option maxRecDepth 100000
set_option linter.unusedSimpArgs false
set_option linter.unusedVariables false


theorem flat_cN (xs : List Nd) : FlatR (eL cN xs) := fun c hc d hd => by
  rw [eL] at hc
  obtain ⟨x, _, rfl⟩ := List.mem_map.1 hc
  simp [cN] at hd
  rcases hd with rfl | rfl | rfl | rfl | rfl <;> rfl
theorem flat_cS (xs : List ByteArray) : FlatR (eL cS xs) := fun c hc d hd => by
  rw [eL] at hc
  obtain ⟨x, _, rfl⟩ := List.mem_map.1 hc
  simp [cS] at hd
  subst hd; rfl
theorem wRem_ten {n : Nat} : wRem (n : Int) 10 = ((n % 10 : Nat) : Int) := by
  unfold wRem
  rw [Int.tmod_eq_emod_of_nonneg (by omega)]
  omega
theorem wQuo_ten {n : Nat} (h : n ≤ 9223372036854775807) : wQuo .i64 (n : Int) 10 = ((n / 10 : Nat) : Int) := by
  unfold wQuo
  rw [Int.tdiv_eq_ediv_of_nonneg (by omega), wrap64 (by omega) (by omega)]
  omega

/-- Marks: k, k + 1, .. -/
def marks (k : Int) : Nat → List Int
  | 0 => []
  | n + 1 => k :: marks (k + 1) n
theorem marks_len : ∀ (n : Nat) (k : Int), (marks k n).length = n
  | 0, _ => rfl
  | n + 1, k => by simp [marks, marks_len n]
theorem marks_get : ∀ (n : Nat) (k : Int) (j : Nat), j < n → (marks k n)[j]? = some (k + j)
  | 0, _, _, h => by omega
  | n + 1, k, 0, _ => by simp [marks]
  | n + 1, k, j + 1, h => by simp only [marks, List.getElem?_cons_succ]; rw [marks_get n (k + 1) j (by omega)]; congr 1; omega
theorem markIntS_spec (xs : List Int) (k : Int) (hk : 0 ≤ k ∧ k ≤ 1000000000000) (hx : xs.length ≤ 1000000000) : FnSpecM PR f_laws_markIntS [.c (.ref 0 0 none), ai k] t_int 1 (eL cI xs) (ai (k + xs.length)) (eL cI (marks k xs.length)) := by
  refine FnSpecM.intro hT 0 p_laws_markIntS rfl (by kernel_rfl) n_laws_markIntS rfl rfl (by simp [eL_length, marks_len]) rfl (flat_cI _) ?_
  intro v0
  (conv => whnf)
  refine tri_loop hT [0, 1, 5] (α := Nat × List Int) (fun x => { t := [(0, .w (.ref 0 0 none) v0), (1, ai (k + x.1)), (5, ai x.1)], h := [(0, .arr t_int 1 0 .own (eL cI x.2))], n := 1, N := 19 })
    (fun x => x.1 ≤ xs.length ∧ x.2.length = xs.length ∧ ∀ j, j < x.1 → x.2[j]? = some (k + j)) (fun x => xs.length - x.1) (0, xs) (by ((conv => whnf); simp only [St.mk.injEq, List.cons.injEq, Prod.mk.injEq, AV.c.injEq, AV.agg.injEq, AV.tup.injEq, CV.d.injEq, D.int.injEq, D.bool.injEq, D.str.injEq, D.sl.injEq, Ent.arr.injEq, Ent.box.injEq, true_and, and_true, and_self, nInt_eq, Int.natCast_zero, dLen_eL, sLen_eq, Int.add_zero])) ⟨Nat.zero_le _, rfl, fun j hj => by omega⟩ ?_
  intro ⟨i, ys⟩ ⟨hi, hl, hj⟩
  dsimp only at hi hl hj
  (conv => whnf)
  refine ifB_i (fun h1 => ?_) (fun h1 => ?_) <;> (conv => whnf) <;> simp at h1
  · obtain ⟨y, hy⟩ := get_lt h1
    refine ref_at (k := i) (by simp) (by simp; omega) ?_
    (conv => whnf)
    refine st_at (by simp) hy (by simp [cI]) ?_
    (conv => whnf)
    refine ⟨(i + 1, ys.set i (k + i)), by dsimp only; omega, ⟨by dsimp only; omega, by simp [hl], fun j hlt => ?_⟩, ?_⟩
    · dsimp only at hlt ⊢
      rw [List.getElem?_set]
      split
      · rename_i he; subst he; simp [hl, h1]
      · exact hj j (by omega)
    · ((conv => whnf); simp only [St.mk.injEq, List.cons.injEq, Prod.mk.injEq, AV.c.injEq, AV.agg.injEq, AV.tup.injEq, CV.d.injEq, D.int.injEq, D.bool.injEq, D.str.injEq, D.sl.injEq, Ent.arr.injEq, Ent.box.injEq, true_and, and_true, and_self, nInt_eq, Int.natCast_zero, dLen_eL, sLen_eq])
      refine ⟨⟨by rw [wAdd64] <;> omega, wI h1 (by omega)⟩, ?_⟩
      have := cI_set ys i y (k + i)
      simpa using this
  · obtain rfl : i = xs.length := by omega
    have : ys = marks k xs.length := by
      apply List.ext_getElem?
      intro j
      rcases Nat.lt_or_ge j xs.length with q | q
      · rw [hj j q, marks_get _ _ _ q]
      · rw [List.getElem?_eq_none (by omega), List.getElem?_eq_none (by rw [marks_len]; omega)]
    subst this
    (conv => whnf)

theorem heldIntS_spec (k : Int) (n : Nat) (hk : 0 ≤ k ∧ k ≤ 1000000000000) (hx : n ≤ 1000000000) : FnSpec PR f_laws_heldIntS [aIs (marks k n), ai k] (ai (k + n)) [] 0 := by
  have hml := marks_len n k
  refine FnSpec.intro hT p_laws_heldIntS rfl (by kernel_rfl) n_laws_heldIntS rfl ?_
  conv => whnf
  refine tri_loop hT [0, 1, 5] (α := Nat) (fun x => { t := [(0, aIs (marks k n)), (1, ai (k + x)), (5, ai x)], h := [], n := 0, N := 21 })
    (fun x => x ≤ n) (fun x => n - x) 0 (by ((conv => whnf); simp only [St.mk.injEq, List.cons.injEq, Prod.mk.injEq, AV.c.injEq, AV.agg.injEq, AV.tup.injEq, CV.d.injEq, D.int.injEq, D.bool.injEq, D.str.injEq, D.sl.injEq, Ent.arr.injEq, Ent.box.injEq, true_and, and_true, and_self, nInt_eq, Int.natCast_zero, dLen_eL, sLen_eq, Int.add_zero])) (Nat.zero_le _) ?_
  intro i hi
  (conv => whnf)
  refine ifB_i (fun h1 => ?_) (fun h1 => ?_) <;> (conv => whnf) <;> simp [hml] at h1
  · have hy := marks_get n k i h1
    refine idx_at (by simp) hy ?_
    (conv => whnf)
    refine ifB_i (fun h2 => ?_) (fun h2 => ?_) <;> (conv => whnf) <;> simp only [nInt_eq, Int.natCast_zero, dLen_eL, sLen_eq, nOf_eq, Int.toNat_natCast, nAdd_eq, nSub_eq, dLen_nil, dLen_cons, iLt_t, iLt_f, iLe_t, iLe_f, iEq_t, iEq_f, sEq_t, sEq_f, bNot_t, bNot_f, bAnd_t, bEq_t, bEq_f, Bool.not_eq_true, Bool.not_eq_false, Bool.true_eq_false, Bool.false_eq_true] at h2
    · exact absurd rfl h2
    · refine ⟨i + 1, by omega, by omega, ?_⟩
      ((conv => whnf); simp only [St.mk.injEq, List.cons.injEq, Prod.mk.injEq, AV.c.injEq, AV.agg.injEq, AV.tup.injEq, CV.d.injEq, D.int.injEq, D.bool.injEq, D.str.injEq, D.sl.injEq, Ent.arr.injEq, Ent.box.injEq, true_and, and_true, and_self, nInt_eq, Int.natCast_zero, dLen_eL, sLen_eq, wI h1 (by omega), wAdd64 (show -9223372036854775808 ≤ k + (i : Int) + 1 by omega) (by omega), Int.natCast_add, Int.cast_ofNat_Int, Int.add_assoc])
  · obtain rfl : i = n := by omega
    (conv => whnf)

theorem cN_set0 (ns : List Nd) (i : Nat) (x : Nd) (v : Int) : dSet (eL cN ns) i (dOver (cN x) 0 [.int .i64 v]) = eL cN (ns.set i ⟨v, x.c, x.l, x.r, x.v⟩) := by
  rw [← eL_set]; congr 1; simp [dOver, cN, over]
theorem cN_set1 (ns : List Nd) (i : Nat) (x : Nd) (v : Int) : dSet (eL cN ns) i (dOver (cN x) 1 [.int .i64 v]) = eL cN (ns.set i ⟨x.f, v, x.l, x.r, x.v⟩) := by
  rw [← eL_set]; congr 1; simp [dOver, cN, over]
theorem cN_set2 (ns : List Nd) (i : Nat) (x : Nd) (v : Int) : dSet (eL cN ns) i (dOver (cN x) 2 [.int .i64 v]) = eL cN (ns.set i ⟨x.f, x.c, v, x.r, x.v⟩) := by
  rw [← eL_set]; congr 1; simp [dOver, cN, over]
theorem cN_set3 (ns : List Nd) (i : Nat) (x : Nd) (v : Int) : dSet (eL cN ns) i (dOver (cN x) 3 [.int .i64 v]) = eL cN (ns.set i ⟨x.f, x.c, x.l, v, x.v⟩) := by
  rw [← eL_set]; congr 1; simp [dOver, cN, over]
theorem cN_set4 (ns : List Nd) (i : Nat) (x : Nd) (v : Int) : dSet (eL cN ns) i (dOver (cN x) 4 [.int .i64 v]) = eL cN (ns.set i ⟨x.f, x.c, x.l, x.r, v⟩) := by
  rw [← eL_set]; congr 1; simp [dOver, cN, over]
theorem markNodeS_lost (ns : List Nd) (k : Int) (hk : 0 ≤ k ∧ k ≤ 1000000000000) (hx : ns.length ≤ 1000000000) : FnSpecJ PR f_laws_markNodeS [.c (.ref 0 0 none), ai k] [(0, .arr t_impl_Node 5 0 .own (eL cN ns))] 1 (ai (k + 5 * ns.length)) := by
  refine FnSpecJ.intro hT p_laws_markNodeS rfl (by kernel_rfl) n_laws_markNodeS rfl rfl rfl ?_
  (conv => whnf)
  refine tri_loop hT [0, 1, 5] (α := Nat × List Nd) (fun x => { t := [(0, .c (.ref 0 0 none)), (1, ai (k + 5 * x.1)), (5, ai x.1)], h := [(0, .arr t_impl_Node 5 0 .own (eL cN x.2))], n := 1, N := 48 })
    (fun x => x.1 ≤ ns.length ∧ x.2.length = ns.length) (fun x => ns.length - x.1) (0, ns) (by ((conv => whnf); simp only [St.mk.injEq, List.cons.injEq, Prod.mk.injEq, AV.c.injEq, AV.agg.injEq, AV.tup.injEq, CV.d.injEq, D.int.injEq, D.bool.injEq, D.str.injEq, D.sl.injEq, Ent.arr.injEq, Ent.box.injEq, true_and, and_true, and_self, nInt_eq, Int.natCast_zero, dLen_eL, sLen_eq]); simp) ⟨Nat.zero_le _, rfl⟩ ?_
  intro ⟨i, ys⟩ ⟨hi, hl⟩
  dsimp only at hi hl
  (conv => whnf)
  refine ifB_i (fun h1 => ?_) (fun h1 => ?_) <;> (conv => whnf) <;> simp at h1
  · obtain ⟨y, hy⟩ := get_lt h1
    have e1 : wAdd .i64 (k + 5 * (i : Int)) 1 = k + 5 * i + 1 := by rw [wAdd64] <;> omega
    have e2 : wAdd .i64 (k + 5 * (i : Int) + 1) 1 = k + 5 * i + 2 := by rw [wAdd64] <;> omega
    have e3 : wAdd .i64 (k + 5 * (i : Int) + 2) 1 = k + 5 * i + 3 := by rw [wAdd64] <;> omega
    have e4 : wAdd .i64 (k + 5 * (i : Int) + 3) 1 = k + 5 * i + 4 := by rw [wAdd64] <;> omega
    have e5 : wAdd .i64 (k + 5 * (i : Int) + 4) 1 = k + 5 * i + 5 := by rw [wAdd64] <;> omega
    have ei : nAdd (offR none) (nOf ((i : Nat) : Int)) = i := by simp
    refine ref_at (k := i) (by simp) (by simp; omega) ?_
    (conv => whnf)
    refine st_at (by simp) hy (by simp [cN]) ?_
    dsimp only
    rw [ei, cN_set0]
    generalize hz0 : ys.set i _ = z0
    have hl0 : z0.length = ns.length := by rw [← hz0]; simp [hl]
    obtain ⟨y0, hy0⟩ := get_lt (show i < z0.length by omega)
    (conv => whnf)
    refine ref_at (k := i) (by simp) (by simp; omega) ?_
    (conv => whnf)
    refine st_at (by simp) hy0 (by simp [cN]) ?_
    dsimp only
    rw [ei, cN_set1]
    generalize hz1 : z0.set i _ = z1
    have hl1 : z1.length = ns.length := by rw [← hz1]; simp [hl0]
    obtain ⟨y1, hy1⟩ := get_lt (show i < z1.length by omega)
    (conv => whnf)
    refine ref_at (k := i) (by simp) (by simp; omega) ?_
    (conv => whnf)
    refine st_at (by simp) hy1 (by simp [cN]) ?_
    dsimp only
    rw [ei, cN_set2]
    generalize hz2 : z1.set i _ = z2
    have hl2 : z2.length = ns.length := by rw [← hz2]; simp [hl1]
    obtain ⟨y2, hy2⟩ := get_lt (show i < z2.length by omega)
    (conv => whnf)
    refine ref_at (k := i) (by simp) (by simp; omega) ?_
    (conv => whnf)
    refine st_at (by simp) hy2 (by simp [cN]) ?_
    dsimp only
    rw [ei, cN_set3]
    generalize hz3 : z2.set i _ = z3
    have hl3 : z3.length = ns.length := by rw [← hz3]; simp [hl2]
    obtain ⟨y3, hy3⟩ := get_lt (show i < z3.length by omega)
    (conv => whnf)
    refine ref_at (k := i) (by simp) (by simp; omega) ?_
    (conv => whnf)
    refine st_at (by simp) hy3 (by simp [cN]) ?_
    dsimp only
    rw [ei, cN_set4]
    generalize hz4 : z3.set i _ = z4
    have hl4 : z4.length = ns.length := by rw [← hz4]; simp [hl3]
    obtain ⟨y4, hy4⟩ := get_lt (show i < z4.length by omega)
    (conv => whnf)
    refine ⟨(i + 1, z4), by dsimp only; omega, ⟨by dsimp only; omega, hl4⟩, ?_⟩
    ((conv => whnf); simp only [St.mk.injEq, List.cons.injEq, Prod.mk.injEq, AV.c.injEq, AV.agg.injEq, AV.tup.injEq, CV.d.injEq, D.int.injEq, D.bool.injEq, D.str.injEq, D.sl.injEq, Ent.arr.injEq, Ent.box.injEq, true_and, and_true, and_self, nInt_eq, Int.natCast_zero, dLen_eL, sLen_eq, e1, e2, e3, e4, e5, wI h1 (by omega)])
    omega
  · obtain rfl : i = ns.length := by omega
    (conv => whnf)

theorem markTree_lost (ns : List Nd) (k : Int) (hk : 0 ≤ k ∧ k ≤ 1000000000000) (hx : ns.length ≤ 1000000000) : FnSpecJ PR f_laws_markTree [.agg [.ref 0 0 none], ai k] [(0, .arr t_impl_Node 5 0 .own (eL cN ns))] 1 (ai (k + 5 * ns.length)) := by
  refine FnSpecJ.intro hT p_laws_markTree rfl (by kernel_rfl) n_laws_markTree rfl rfl rfl ?_
  (conv => whnf)
  refine .inr (.inr (.inr (.inl ⟨[(0, 0)], ?_⟩)))
  (conv => whnf)
  refine ⟨[.c (.ref 0 0 none), ai k], _, ⟨rfl, rfl, rfl⟩, markNodeS_lost ns k hk hx, ?_⟩
  (conv => whnf)


/-- The digits of a number, ahead of what stands. -/
def digs : Nat → Nat → ByteArray → ByteArray
  | 0, _, s => s
  | m + 1, n, s => if n = 0 then s else digs m (n / 10) (sApp ⟨#[UInt8.ofNat (48 + n % 10)]⟩ s)
def mtext (k : Int) : ByteArray := sApp ⟨#[109]⟩ (digs 20 k.toNat ⟨#[]⟩)
theorem markText_spec (k : Int) (hk : 0 < k ∧ k ≤ 1000000000000) : FnSpec PR f_laws_markText [ai k] (aS (mtext k)) [] 0 := by
  refine FnSpec.intro hT p_laws_markText rfl (by kernel_rfl) n_laws_markText rfl ?_
  conv => whnf
  rw [show iLe k 0 = false by simp; omega]
  (conv => whnf)
  obtain ⟨n, rfl⟩ : ∃ n : Nat, k = n := ⟨k.toNat, by omega⟩
  refine tri_loop hT [0, 3] (α := Nat × Nat × ByteArray) (fun x => { t := [(0, ai x.2.1), (3, aS x.2.2)], h := [], n := 0, N := 20 })
    (fun x => x.2.1 < 10 ^ x.1 ∧ x.1 ≤ 20 ∧ x.2.1 ≤ 1000000000000 ∧ x.2.2.size + x.1 ≤ 20 ∧ digs x.1 x.2.1 x.2.2 = digs 20 n ⟨#[]⟩) (fun x => x.1) (20, n, ⟨#[]⟩) (by (conv => whnf)) ⟨Nat.lt_of_le_of_lt (show n ≤ 1000000000000 by omega) (show 1000000000000 < 10 ^ 20 by decide), Nat.le_refl _, by dsimp only; omega, Nat.le_refl _, rfl⟩ ?_
  intro ⟨m, i, s⟩ ⟨h1, h2, h3, h4, h5⟩
  dsimp only at h1 h2 h3 h4 h5
  (conv => whnf)
  refine ifB_i (fun g => ?_) (fun g => ?_) <;> (conv => whnf) <;> simp only [nInt_eq, Int.natCast_zero, dLen_eL, sLen_eq, nOf_eq, Int.toNat_natCast, nAdd_eq, nSub_eq, dLen_nil, dLen_cons, iLt_t, iLt_f, iLe_t, iLe_f, iEq_t, iEq_f, sEq_t, sEq_f, bNot_t, bNot_f, bAnd_t, bEq_t, bEq_f, Bool.not_eq_true, Bool.not_eq_false, Bool.true_eq_false, Bool.false_eq_true] at g
  · obtain ⟨m, rfl⟩ : ∃ m', m = m' + 1 := ⟨m - 1, by rcases m with _ | m <;> simp_all <;> omega⟩
    refine And.intro (by simp [NZ]) ?_
    (conv => whnf)
    rw [wRem_ten]
    have e1 : wAdd .i64 48 ((i % 10 : Nat) : Int) = ((48 + i % 10 : Nat) : Int) := by rw [wAdd64] <;> omega
    rw [e1]
    have e2 : wConv .u8 ((48 + i % 10 : Nat) : Int) = ((48 + i % 10 : Nat) : Int) := by
      unfold wConv
      have : ∀ j, j < 10 → IntKind.u8.wrap ((48 + j : Nat) : Int) = ((48 + j : Nat) : Int) := by decide
      exact this _ (Nat.mod_lt _ (by decide))
    rw [e2]
    (conv => whnf)
    refine ⟨⟨#[UInt8.ofNat (48 + i % 10)]⟩, ?_, ?_⟩
    · simp only [encB, partOf, lenR, offR]
      have : ∀ j, j < 10 → (UInt8.ofNat (48 + j)).toNat = 48 + j := by decide
      have h6 := this (i % 10) (Nat.mod_lt _ (by decide))
      simp [h6]
      try omega
    (conv => whnf)
    refine And.intro (by unfold FitsS; have : (⟨#[UInt8.ofNat (48 + i % 10)]⟩ : ByteArray).size = 1 := rfl; dsimp only; omega) ?_
    (conv => whnf)
    refine And.intro (by simp [NZ]) ?_
    (conv => whnf)
    rw [wQuo_ten (by dsimp only; omega)]
    (conv => whnf)
    refine ⟨(m, i / 10, sApp ⟨#[UInt8.ofNat (48 + i % 10)]⟩ s), by dsimp only; omega, ⟨?_, by dsimp only; omega, by dsimp only; omega, ?_, ?_⟩, ?_⟩
    · dsimp only
      rw [Nat.pow_succ] at h1
      omega
    · dsimp only
      have : (sApp ⟨#[UInt8.ofNat (48 + i % 10)]⟩ s).size = 1 + s.size := by unfold sApp; rw [ByteArray.size_append]; rfl
      omega
    · dsimp only
      rw [← h5, digs, if_neg (by omega)]
    (conv => whnf)
  · have : digs m i s = s := by
      cases m with
      | zero => rfl
      | succ m => rw [digs, if_pos (by omega)]
    rw [this] at h5
    refine And.intro (by unfold FitsS; have : (⟨#[109]⟩ : ByteArray).size = 1 := rfl; dsimp only; omega) ?_
    (conv => whnf)
    rw [show mtext (n : Int) = sApp ⟨#[109]⟩ s by rw [h5]; rfl]

def marksS (k : Int) : Nat → List ByteArray
  | 0 => []
  | n + 1 => mtext k :: marksS (k + 1) n
theorem marksS_len : ∀ (n : Nat) (k : Int), (marksS k n).length = n
  | 0, _ => rfl
  | n + 1, k => by simp [marksS, marksS_len n]
theorem marksS_get : ∀ (n : Nat) (k : Int) (j : Nat), j < n → (marksS k n)[j]? = some (mtext (k + j))
  | 0, _, _, h => by omega
  | n + 1, k, 0, _ => by simp [marksS]
  | n + 1, k, j + 1, h => by simp only [marksS, List.getElem?_cons_succ]; rw [marksS_get n (k + 1) j (by omega)]; congr 2; omega
theorem cS_set (xs : List ByteArray) (k : Nat) (x y : ByteArray) : dSet (eL cS xs) k (dOver (cS x) 0 [.str y]) = eL cS (xs.set k y) := by
  rw [dOver_all (by rfl)]; exact eL_set cS xs k y
theorem markStringS_spec (xs : List ByteArray) (k : Int) (hk : 0 < k ∧ k + xs.length ≤ 1000000000000) (hx : xs.length ≤ 1000000000) : FnSpecM PR f_laws_markStringS [.c (.ref 0 0 none), ai k] t_string 1 (eL cS xs) (ai (k + xs.length)) (eL cS (marksS k xs.length)) := by
  refine FnSpecM.intro hT 0 p_laws_markStringS rfl (by kernel_rfl) n_laws_markStringS rfl rfl (by simp [eL_length, marksS_len]) rfl (flat_cS _) ?_
  intro v0
  (conv => whnf)
  refine tri_loop hT [0, 1, 5] (α := Nat × List ByteArray) (fun x => { t := [(0, .w (.ref 0 0 none) v0), (1, ai (k + x.1)), (5, ai x.1)], h := [(0, .arr t_string 1 0 .own (eL cS x.2))], n := 1, N := 20 })
    (fun x => x.1 ≤ xs.length ∧ x.2.length = xs.length ∧ ∀ j, j < x.1 → x.2[j]? = some (mtext (k + j))) (fun x => xs.length - x.1) (0, xs) (by ((conv => whnf); simp only [St.mk.injEq, List.cons.injEq, Prod.mk.injEq, AV.c.injEq, AV.agg.injEq, AV.tup.injEq, CV.d.injEq, D.int.injEq, D.bool.injEq, D.str.injEq, D.sl.injEq, Ent.arr.injEq, Ent.box.injEq, true_and, and_true, and_self, nInt_eq, Int.natCast_zero, dLen_eL, sLen_eq, Int.add_zero])) ⟨Nat.zero_le _, rfl, fun j hj => by omega⟩ ?_
  intro ⟨i, ys⟩ ⟨hi, hl, hj⟩
  dsimp only at hi hl hj
  (conv => whnf)
  refine ifB_i (fun h1 => ?_) (fun h1 => ?_) <;> (conv => whnf) <;> simp at h1
  · obtain ⟨y, hy⟩ := get_lt h1
    have hms := markText_spec (k + i) (by omega)
    refine .inl ⟨_, _, _, hms, rfl, ?_⟩
    (conv => whnf)
    refine ref_at (k := i) (by simp) (by simp; omega) ?_
    (conv => whnf)
    refine st_at (by simp) hy (by simp [cS]) ?_
    (conv => whnf)
    refine ⟨(i + 1, ys.set i (mtext (k + i))), by dsimp only; omega, ⟨by dsimp only; omega, by simp [hl], fun j hlt => ?_⟩, ?_⟩
    · dsimp only at hlt ⊢
      rw [List.getElem?_set]
      split
      · rename_i he; subst he; simp [hl, h1]
      · exact hj j (by omega)
    · ((conv => whnf); simp only [St.mk.injEq, List.cons.injEq, Prod.mk.injEq, AV.c.injEq, AV.agg.injEq, AV.tup.injEq, CV.d.injEq, D.int.injEq, D.bool.injEq, D.str.injEq, D.sl.injEq, Ent.arr.injEq, Ent.box.injEq, true_and, and_true, and_self, nInt_eq, Int.natCast_zero, dLen_eL, sLen_eq])
      refine ⟨⟨by rw [wAdd64] <;> omega, wI h1 (by omega)⟩, ?_⟩
      have := cS_set ys i y (mtext (k + i))
      simpa using this
  · obtain rfl : i = xs.length := by omega
    have : ys = marksS k xs.length := by
      apply List.ext_getElem?
      intro j
      rcases Nat.lt_or_ge j xs.length with q | q
      · rw [hj j q, marksS_get _ _ _ q]
      · rw [List.getElem?_eq_none (by omega), List.getElem?_eq_none (by rw [marksS_len]; omega)]
    subst this
    (conv => whnf)

def marksN (k : Int) : Nat → List Nd
  | 0 => []
  | n + 1 => ⟨k, k + 1, k + 2, k + 3, k + 4⟩ :: marksN (k + 5) n
theorem marksN_len : ∀ (n : Nat) (k : Int), (marksN k n).length = n
  | 0, _ => rfl
  | n + 1, k => by simp [marksN, marksN_len n]
theorem marksN_get : ∀ (n : Nat) (k : Int) (j : Nat), j < n → (marksN k n)[j]? = some ⟨k + 5 * j, k + 5 * j + 1, k + 5 * j + 2, k + 5 * j + 3, k + 5 * j + 4⟩
  | 0, _, _, h => by omega
  | n + 1, k, 0, _ => by simp [marksN]
  | n + 1, k, j + 1, h => by
    simp only [marksN, List.getElem?_cons_succ]
    rw [marksN_get n (k + 5) j (by omega)]
    simp only [Option.some.injEq, Nd.mk.injEq]
    omega
set_option maxHeartbeats 1000000 in
theorem markNodeS_spec (ns : List Nd) (k : Int) (hk : 0 ≤ k ∧ k ≤ 1000000000000) (hx : ns.length ≤ 1000000000) : FnSpecM PR f_laws_markNodeS [.c (.ref 0 0 none), ai k] t_impl_Node 5 (eL cN ns) (ai (k + 5 * ns.length)) (eL cN (marksN k ns.length)) := by
  refine FnSpecM.intro hT 0 p_laws_markNodeS rfl (by kernel_rfl) n_laws_markNodeS rfl rfl (by simp [eL_length, marksN_len]) rfl (flat_cN _) ?_
  intro v0
  (conv => whnf)
  refine tri_loop hT [0, 1, 5] (α := Nat × List Nd) (fun x => { t := [(0, .w (.ref 0 0 none) v0), (1, ai (k + 5 * x.1)), (5, ai x.1)], h := [(0, .arr t_impl_Node 5 0 .own (eL cN x.2))], n := 1, N := 48 })
    (fun x => x.1 ≤ ns.length ∧ x.2.length = ns.length ∧ ∀ j : Nat, j < x.1 → x.2[j]? = some ⟨k + 5 * j, k + 5 * j + 1, k + 5 * j + 2, k + 5 * j + 3, k + 5 * j + 4⟩) (fun x => ns.length - x.1) (0, ns) (by ((conv => whnf); simp only [St.mk.injEq, List.cons.injEq, Prod.mk.injEq, AV.c.injEq, AV.agg.injEq, AV.tup.injEq, CV.d.injEq, D.int.injEq, D.bool.injEq, D.str.injEq, D.sl.injEq, Ent.arr.injEq, Ent.box.injEq, true_and, and_true, and_self, nInt_eq, Int.natCast_zero, dLen_eL, sLen_eq]); simp) ⟨Nat.zero_le _, rfl, fun j hj => by omega⟩ ?_
  intro ⟨i, ys⟩ ⟨hi, hl, hj⟩
  dsimp only at hi hl hj
  (conv => whnf)
  refine ifB_i (fun h1 => ?_) (fun h1 => ?_) <;> (conv => whnf) <;> simp at h1
  · obtain ⟨y, hy⟩ := get_lt h1
    rw [hl] at h1
    have e1 : wAdd .i64 (k + 5 * (i : Int)) 1 = k + 5 * i + 1 := by rw [wAdd64] <;> omega
    have e2 : wAdd .i64 (k + 5 * (i : Int) + 1) 1 = k + 5 * i + 2 := by rw [wAdd64] <;> omega
    have e3 : wAdd .i64 (k + 5 * (i : Int) + 2) 1 = k + 5 * i + 3 := by rw [wAdd64] <;> omega
    have e4 : wAdd .i64 (k + 5 * (i : Int) + 3) 1 = k + 5 * i + 4 := by rw [wAdd64] <;> omega
    have e5 : wAdd .i64 (k + 5 * (i : Int) + 4) 1 = k + 5 * i + 5 := by rw [wAdd64] <;> omega
    have ei : nAdd (offR none) (nOf ((i : Nat) : Int)) = i := by simp
    dsimp only
    obtain ⟨K, hK⟩ : ∃ K : Int, K = k + 5 * i := ⟨_, rfl⟩
    rw [← hK] at e1 e2 e3 e4 e5 ⊢
    skip
    refine ref_at (k := i) (by simp) (by simp; omega) ?_
    (conv => whnf)
    refine st_at (k := i) (by simp) hy (by simp [cN]) ?_
    dsimp only
    rw [ei, cN_set0]
    have q0 : (ys.set i (⟨K, y.c, y.l, y.r, y.v⟩ : Nd))[i]? = some (⟨K, y.c, y.l, y.r, y.v⟩ : Nd) := by rw [List.getElem?_set]; simp [hl, h1]
    have l0 : (ys.set i (⟨K, y.c, y.l, y.r, y.v⟩ : Nd)).length = ns.length := by simp [hl]
    have r0 : ∀ j, j ≠ i → (ys.set i (⟨K, y.c, y.l, y.r, y.v⟩ : Nd))[j]? = ys[j]? := fun j hj => by rw [List.getElem?_set, if_neg (fun h => hj h.symm)]
    generalize z0e : ys.set i (⟨K, y.c, y.l, y.r, y.v⟩ : Nd) = z0 at *
    (conv => whnf)
    rw [e1]
    refine ref_at (k := i) (by simp) (by simp; omega) ?_
    (conv => whnf)
    refine st_at (k := i) (by simp) q0 (by simp [cN]) ?_
    dsimp only
    rw [ei, cN_set1]
    have q1 : (z0.set i (⟨K, K + 1, y.l, y.r, y.v⟩ : Nd))[i]? = some (⟨K, K + 1, y.l, y.r, y.v⟩ : Nd) := by rw [List.getElem?_set]; simp [l0, h1]
    have l1 : (z0.set i (⟨K, K + 1, y.l, y.r, y.v⟩ : Nd)).length = ns.length := by simp [l0]
    have r1 : ∀ j, j ≠ i → (z0.set i (⟨K, K + 1, y.l, y.r, y.v⟩ : Nd))[j]? = z0[j]? := fun j hj => by rw [List.getElem?_set, if_neg (fun h => hj h.symm)]
    generalize z1e : z0.set i (⟨K, K + 1, y.l, y.r, y.v⟩ : Nd) = z1 at *
    (conv => whnf)
    rw [e2]
    refine ref_at (k := i) (by simp) (by simp; omega) ?_
    (conv => whnf)
    refine st_at (k := i) (by simp) q1 (by simp [cN]) ?_
    dsimp only
    rw [ei, cN_set2]
    have q2 : (z1.set i (⟨K, K + 1, K + 2, y.r, y.v⟩ : Nd))[i]? = some (⟨K, K + 1, K + 2, y.r, y.v⟩ : Nd) := by rw [List.getElem?_set]; simp [l1, h1]
    have l2 : (z1.set i (⟨K, K + 1, K + 2, y.r, y.v⟩ : Nd)).length = ns.length := by simp [l1]
    have r2 : ∀ j, j ≠ i → (z1.set i (⟨K, K + 1, K + 2, y.r, y.v⟩ : Nd))[j]? = z1[j]? := fun j hj => by rw [List.getElem?_set, if_neg (fun h => hj h.symm)]
    generalize z2e : z1.set i (⟨K, K + 1, K + 2, y.r, y.v⟩ : Nd) = z2 at *
    (conv => whnf)
    rw [e3]
    refine ref_at (k := i) (by simp) (by simp; omega) ?_
    (conv => whnf)
    refine st_at (k := i) (by simp) q2 (by simp [cN]) ?_
    dsimp only
    rw [ei, cN_set3]
    have q3 : (z2.set i (⟨K, K + 1, K + 2, K + 3, y.v⟩ : Nd))[i]? = some (⟨K, K + 1, K + 2, K + 3, y.v⟩ : Nd) := by rw [List.getElem?_set]; simp [l2, h1]
    have l3 : (z2.set i (⟨K, K + 1, K + 2, K + 3, y.v⟩ : Nd)).length = ns.length := by simp [l2]
    have r3 : ∀ j, j ≠ i → (z2.set i (⟨K, K + 1, K + 2, K + 3, y.v⟩ : Nd))[j]? = z2[j]? := fun j hj => by rw [List.getElem?_set, if_neg (fun h => hj h.symm)]
    generalize z3e : z2.set i (⟨K, K + 1, K + 2, K + 3, y.v⟩ : Nd) = z3 at *
    (conv => whnf)
    rw [e4]
    refine ref_at (k := i) (by simp) (by simp; omega) ?_
    (conv => whnf)
    refine st_at (k := i) (by simp) q3 (by simp [cN]) ?_
    dsimp only
    rw [ei, cN_set4]
    have q4 : (z3.set i (⟨K, K + 1, K + 2, K + 3, K + 4⟩ : Nd))[i]? = some (⟨K, K + 1, K + 2, K + 3, K + 4⟩ : Nd) := by rw [List.getElem?_set]; simp [l3, h1]
    have l4 : (z3.set i (⟨K, K + 1, K + 2, K + 3, K + 4⟩ : Nd)).length = ns.length := by simp [l3]
    have r4 : ∀ j, j ≠ i → (z3.set i (⟨K, K + 1, K + 2, K + 3, K + 4⟩ : Nd))[j]? = z3[j]? := fun j hj => by rw [List.getElem?_set, if_neg (fun h => hj h.symm)]
    generalize z4e : z3.set i (⟨K, K + 1, K + 2, K + 3, K + 4⟩ : Nd) = z4 at *
    (conv => whnf)
    rw [e5]
    refine ⟨(i + 1, z4), by dsimp only; omega, ⟨by dsimp only; omega, l4, fun j hlt => ?_⟩, ?_⟩
    · dsimp only at hlt ⊢
      rcases Nat.lt_or_ge j i with q | q
      · rw [r4 j (by omega), r3 j (by omega), r2 j (by omega), r1 j (by omega), r0 j (by omega), hj j q]
      · obtain rfl : j = i := by omega
        rw [q4, hK]
    · ((conv => whnf); simp only [St.mk.injEq, List.cons.injEq, Prod.mk.injEq, AV.c.injEq, AV.agg.injEq, AV.tup.injEq, CV.d.injEq, D.int.injEq, D.bool.injEq, D.str.injEq, D.sl.injEq, Ent.arr.injEq, Ent.box.injEq, true_and, and_true, and_self, nInt_eq, Int.natCast_zero, dLen_eL, sLen_eq, wI h1 (by omega)])
      omega
  · obtain rfl : i = ns.length := by omega
    have : ys = marksN k ns.length := by
      apply List.ext_getElem?
      intro j
      rcases Nat.lt_or_ge j ns.length with q | q
      · rw [hj j q, marksN_get _ _ _ q]
      · rw [List.getElem?_eq_none (by omega), List.getElem?_eq_none (by rw [marksN_len]; omega)]
    subst this
    (conv => whnf)
end Go.H.S
namespace Go.H.S
open Go Go.Proofs Go.H
attribute [local irreducible] Tri FnSpec FnSpecM FnSpecX FnSpecJ
set_option maxRecDepth 100000
set_option linter.unusedSimpArgs false
set_option linter.unusedVariables false


theorem eL_set2 {α : Type} (f : α → List D) (xs : List α) (i : Nat) (y : α) : (eL f xs).set i (f y) = eL f (xs.set i y) := by rw [← eL_set]; unfold dSet; rfl
theorem set_keep {α : Type} {xs : List α} {i j : Nat} {y : α} (h : j ≠ i) : (xs.set i y)[j]? = xs[j]? := by rw [List.getElem?_set, if_neg (fun q => h q.symm)]
theorem costL_take {α : Type} (f : α → Nat) : ∀ (xs : List α) (i : Nat) (x : α), xs[i]? = some x → costL f (xs.take (i + 1)) = costL f (xs.take i) + f x
  | [], i, x, h => by simp at h
  | y :: r, 0, x, h => by simp at h; subst h; simp [costL]
  | y :: r, i + 1, x, h => by
    simp only [List.getElem?_cons_succ] at h
    simp only [List.take_succ_cons, costL]
    rw [costL_take f r i x h]
    omega
theorem costL_take_le {α : Type} (f : α → Nat) : ∀ (xs : List α) (i : Nat), costL f (xs.take i) ≤ costL f xs
  | [], i => by simp
  | y :: r, 0 => by simp [costL]
  | y :: r, i + 1 => by
    simp only [List.take_succ_cons, costL]
    have := costL_take_le f r i
    omega

theorem toTreeS_nest (xs : List (List Nd)) (hx : xs.length ≤ 4000000000) (hs : ∀ s ∈ xs, s.length ≤ 4000000000) :
    FnSpec PR f_laws_toTreeS [.c (.d (.sl 1 (eL cT xs)))] (.c (.ref 0 0 none)) [(0, .arr t_impl_Tree 1 0 (.nest [t_impl_Node]) (eL cT xs))] 1 := by
  refine FnSpec.intro hTn p_laws_toTreeS rfl (by kernel_rfl) n_laws_toTreeS rfl ?_
  conv => whnf
  refine ⟨by simp; omega, ?_⟩
  (conv => whnf)
  refine tri_loop hTn [0, 3, 4] (α := Nat × List (List D)) (fun x => { t := [(0, .c (.d (.sl 1 (eL cT xs)))), (3, .c (.ref 0 0 none)), (4, ai (nInt x.1))], h := [(0, .arr t_impl_Tree 1 0 (.nest [t_impl_Node]) x.2)], n := 1, N := 23 })
    (fun x => x.1 ≤ xs.length ∧ Fill cT 1 xs x.1 x.2) (fun x => xs.length - x.1) (0, _) (by ((conv => whnf); simp only [St.mk.injEq, List.cons.injEq, Prod.mk.injEq, AV.c.injEq, AV.agg.injEq, AV.tup.injEq, CV.d.injEq, D.int.injEq, D.bool.injEq, D.str.injEq, D.sl.injEq, Ent.arr.injEq, Ent.box.injEq, true_and, and_true, and_self, nInt_eq, Int.natCast_zero, dLen_eL, sLen_eq]); rfl) ⟨by omega, Fill.start cT xs rfl⟩ ?_
  intro ⟨k, es⟩ ⟨hk, hf⟩
  dsimp only at hk hf
  have hl := hf.len
  (conv => whnf)
  refine ifB_i (fun h1 => ?_) (fun h1 => ?_) <;> (conv => whnf) <;> simp at h1
  · obtain ⟨s, hs'⟩ := get_lt h1
    refine idx_at (by simp) hs' ?_
    (conv => whnf)
    refine .inl ⟨_, _, _, toTree_spec s (hs s (List.mem_of_getElem? hs')), rfl, ?_⟩
    (conv => whnf)
    refine ⟨by simp only [lenRE_none, dLen_len, hl, InB_eq, nInt_eq]; omega, ?_⟩
    (conv => whnf)
    refine ⟨flat_cN s, fun c' hc' => ?_⟩
    have hr := hf.room hc'
    refine ⟨by simp; omega, ?_⟩
    rw [dOver_all (by rw [hr]; rfl)]
    (conv => whnf)
    refine ⟨(k + 1, dSet es k (cT s)), by dsimp only; omega, ⟨h1, hf.step hs' rfl⟩, ?_⟩
    ((conv => whnf); simp only [St.mk.injEq, List.cons.injEq, Prod.mk.injEq, AV.c.injEq, AV.agg.injEq, AV.tup.injEq, CV.d.injEq, D.int.injEq, D.bool.injEq, D.str.injEq, D.sl.injEq, Ent.arr.injEq, Ent.box.injEq, true_and, and_true, and_self, nInt_eq, Int.natCast_zero, dLen_eL, sLen_eq, wI h1 (by omega), nAdd_eq, nOf_eq, Int.toNat_natCast, offR, Nat.zero_add])
    rfl
  · obtain rfl : k = xs.length := by omega
    rw [hf.done]

theorem toIntSS_nest (xs : List (List Int)) (hx : xs.length ≤ 4000000000) (hs : ∀ s ∈ xs, s.length ≤ 4000000000) :
    FnSpec PR f_laws_toIntSS [.c (.d (.sl 1 (eL cIs xs)))] (.c (.ref 0 0 none)) [(0, .arr t_Lint 1 0 (.nest [t_int]) (eL cIs xs))] 1 := by
  refine FnSpec.intro hTn p_laws_toIntSS rfl (by kernel_rfl) n_laws_toIntSS rfl ?_
  conv => whnf
  refine ⟨by simp; omega, ?_⟩
  (conv => whnf)
  refine tri_loop hTn [0, 3, 4] (α := Nat × List (List D)) (fun x => { t := [(0, .c (.d (.sl 1 (eL cIs xs)))), (3, .c (.ref 0 0 none)), (4, ai (nInt x.1))], h := [(0, .arr t_Lint 1 0 (.nest [t_int]) x.2)], n := 1, N := 23 })
    (fun x => x.1 ≤ xs.length ∧ Fill cIs 1 xs x.1 x.2) (fun x => xs.length - x.1) (0, _) (by ((conv => whnf); simp only [St.mk.injEq, List.cons.injEq, Prod.mk.injEq, AV.c.injEq, AV.agg.injEq, AV.tup.injEq, CV.d.injEq, D.int.injEq, D.bool.injEq, D.str.injEq, D.sl.injEq, Ent.arr.injEq, Ent.box.injEq, true_and, and_true, and_self, nInt_eq, Int.natCast_zero, dLen_eL, sLen_eq]); rfl) ⟨by omega, Fill.start cIs xs rfl⟩ ?_
  intro ⟨k, es⟩ ⟨hk, hf⟩
  dsimp only at hk hf
  have hl := hf.len
  (conv => whnf)
  refine ifB_i (fun h1 => ?_) (fun h1 => ?_) <;> (conv => whnf) <;> simp at h1
  · obtain ⟨s, hs'⟩ := get_lt h1
    refine idx_at (by simp) hs' ?_
    (conv => whnf)
    refine .inl ⟨_, _, _, toIntS_spec s (hs s (List.mem_of_getElem? hs')), rfl, ?_⟩
    (conv => whnf)
    refine ⟨by simp only [lenRE_none, dLen_len, hl, InB_eq, nInt_eq]; omega, ?_⟩
    (conv => whnf)
    refine ⟨flat_cI s, fun c' hc' => ?_⟩
    have hr := hf.room hc'
    refine ⟨by simp; omega, ?_⟩
    rw [dOver_all (by rw [hr]; rfl)]
    (conv => whnf)
    refine ⟨(k + 1, dSet es k (cIs s)), by dsimp only; omega, ⟨h1, hf.step hs' rfl⟩, ?_⟩
    ((conv => whnf); simp only [St.mk.injEq, List.cons.injEq, Prod.mk.injEq, AV.c.injEq, AV.agg.injEq, AV.tup.injEq, CV.d.injEq, D.int.injEq, D.bool.injEq, D.str.injEq, D.sl.injEq, Ent.arr.injEq, Ent.box.injEq, true_and, and_true, and_self, nInt_eq, Int.natCast_zero, dLen_eL, sLen_eq, wI h1 (by omega), nAdd_eq, nOf_eq, Int.toNat_natCast, offR, Nat.zero_add])
    rfl
  · obtain rfl : k = xs.length := by omega
    rw [hf.done]

theorem toModel_nest (x : Mdl) (ho : smModel x) : FnSpec PR f_laws_toModel [aM x] (.agg [.ref 0 0 none, .ref 1 0 none, .d (.int .i64 x.base), .ref 2 0 none]) [(0, .arr t_string 1 0 .own (eL cS x.names)), (1, .arr t_int 1 0 .own (eL cI x.signs)), (2, .arr t_impl_Tree 1 0 (.nest [t_impl_Node]) (eL cT x.trees))] 3 := by
  obtain ⟨o0, o1, o2⟩ := ho
  refine FnSpec.intro hTn p_laws_toModel rfl (by kernel_rfl) n_laws_toModel rfl ?_
  conv => whnf
  refine .inl ⟨_, _, _, toStringS_spec x.names o0, rfl, ?_⟩
  (conv => whnf)
  refine .inl ⟨_, _, _, toIntS_spec x.signs o1, rfl, ?_⟩
  (conv => whnf)
  refine .inl ⟨_, _, _, toTreeS_nest x.trees o2.1 o2.2, rfl, ?_⟩
  (conv => whnf)

theorem toGrid_nest (x : Grd) (ho : smGrid x) : FnSpec PR f_laws_toGrid [aG x] (.agg [.ref 0 0 none, .ref 1 0 none]) [(0, .arr t_Lint 1 0 (.nest [t_int]) (eL cIs x.cuts)), (1, .arr t_Lint 1 0 (.nest [t_int]) (eL cIs x.bins))] 2 := by
  obtain ⟨o0, o1⟩ := ho
  refine FnSpec.intro hTn p_laws_toGrid rfl (by kernel_rfl) n_laws_toGrid rfl ?_
  conv => whnf
  refine .inl ⟨_, _, _, toIntSS_nest x.cuts o0.1 o0.2, rfl, ?_⟩
  (conv => whnf)
  refine .inl ⟨_, _, _, toIntSS_nest x.bins o1.1 o1.2, rfl, ?_⟩
  (conv => whnf)

theorem markTreeS_lost (xs : List (List Nd)) (k : Int) (hk : 0 < k ∧ k + 5 * costL List.length xs ≤ 1000000000000) (hx : xs.length ≤ 1000000000) (hxs : ∀ t ∈ xs, t.length ≤ 1000000000) :
    FnSpecJ PR f_laws_markTreeS [.c (.ref 0 0 none), ai k] [(0, .arr t_impl_Tree 1 0 (.nest [t_impl_Node]) (eL cT xs))] 1 (ai (k + 5 * costL List.length xs)) := by
  refine FnSpecJ.intro hTn p_laws_markTreeS rfl (by kernel_rfl) n_laws_markTreeS rfl rfl rfl ?_
  (conv => whnf)
  refine tri_loop hTn [0, 1, 5] (α := Nat × List (List Nd)) (fun x => { t := [(0, .c (.ref 0 0 none)), (1, ai (k + 5 * costL List.length (xs.take x.1))), (5, ai x.1)], h := [(0, .arr t_impl_Tree 1 0 (.nest [t_impl_Node]) (eL cT x.2))], n := 1, N := 20 })
    (fun x => x.1 ≤ xs.length ∧ x.2.length = xs.length ∧ ∀ j, x.1 ≤ j → x.2[j]? = xs[j]?) (fun x => xs.length - x.1) (0, xs) (by ((conv => whnf); simp only [St.mk.injEq, List.cons.injEq, Prod.mk.injEq, AV.c.injEq, AV.agg.injEq, AV.tup.injEq, CV.d.injEq, D.int.injEq, D.bool.injEq, D.str.injEq, D.sl.injEq, Ent.arr.injEq, Ent.box.injEq, true_and, and_true, and_self, nInt_eq, Int.natCast_zero, dLen_eL, sLen_eq]); simp [costL]) ⟨Nat.zero_le _, rfl, fun j _ => rfl⟩ ?_
  intro ⟨i, ys⟩ ⟨hi, hl, hj⟩
  dsimp only at hi hl hj
  (conv => whnf)
  refine ifB_i (fun h1 => ?_) (fun h1 => ?_) <;> (conv => whnf) <;> simp at h1
  · obtain ⟨y, hy⟩ := get_lt h1
    have hyx : xs[i]? = some y := by rw [← hj i (Nat.le_refl _)]; exact hy
    have hyl := hxs y (List.mem_of_getElem? hyx)
    have hc := costL_take List.length xs i y hyx
    have hc2 := costL_take_le List.length xs (i + 1)
    refine ref_at (k := i) (by simp) (by simp; omega) ?_
    (conv => whnf)
    refine ld_at (k := i) (by simp) hy ?_
    (conv => whnf)
    refine ⟨i, 0, cT y, 5, eL cN y, t_impl_Node, by simp, by decide, by rw [eL_get, hy]; rfl, rfl, rfl, _, _, markNodeS_spec y _ (by dsimp only; omega) hyl, ?_⟩
    (conv => whnf)
    rw [show (eL cT ys).set i ((cT y).set 0 (.sl 5 (eL cN (marksN (k + 5 * costL List.length (xs.take i)) y.length)))) = eL cT (ys.set i (marksN (k + 5 * costL List.length (xs.take i)) y.length)) from eL_set2 cT ys i _]
    (conv => whnf)
    refine ⟨(i + 1, ys.set i (marksN (k + 5 * costL List.length (xs.take i)) y.length)), by dsimp only; omega, ⟨by dsimp only; omega, by simp [hl], fun j hlt => ?_⟩, ?_⟩
    · dsimp only at hlt ⊢
      rw [set_keep (by omega)]
      exact hj j (by omega)
    · ((conv => whnf); simp only [St.mk.injEq, List.cons.injEq, Prod.mk.injEq, AV.c.injEq, AV.agg.injEq, AV.tup.injEq, CV.d.injEq, D.int.injEq, D.bool.injEq, D.str.injEq, D.sl.injEq, Ent.arr.injEq, Ent.box.injEq, true_and, and_true, and_self, nInt_eq, Int.natCast_zero, dLen_eL, sLen_eq, wI h1 (by omega)])
      rw [hc]; omega
  · obtain rfl : i = xs.length := by omega
    rw [show xs.take xs.length = xs by simp]

theorem markModel_lost (x : Mdl) (hn : x.names.length ≤ 1048576) (hs : x.signs.length ≤ 1048576) (ht : x.trees.length ≤ 1048576) (hc : costL List.length x.trees ≤ 1048576) :
    FnSpecJ PR f_laws_markModel [.agg [.ref 0 0 none, .ref 1 0 none, .d (.int .i64 x.base), .ref 2 0 none], ai 1] [(0, .arr t_string 1 0 .own (eL cS x.names)), (1, .arr t_int 1 0 .own (eL cI x.signs)), (2, .arr t_impl_Tree 1 0 (.nest [t_impl_Node]) (eL cT x.trees))] 3 (ai (1 + x.names.length + x.signs.length + 5 * costL List.length x.trees)) := by
  refine FnSpecJ.intro hTn p_laws_markModel rfl (by kernel_rfl) n_laws_markModel rfl rfl rfl ?_
  (conv => whnf)
  refine .inr (.inr (.inl ⟨0, ?_⟩))
  (conv => whnf)
  refine .inl ⟨_, _, markStringS_spec x.names 1 (by omega) (by omega), ?_⟩
  (conv => whnf)
  refine .inr (.inr (.inl ⟨1, ?_⟩))
  (conv => whnf)
  refine .inl ⟨_, _, markIntS_spec x.signs (1 + x.names.length) (by omega) (by omega), ?_⟩
  (conv => whnf)
  refine .inr (.inr (.inr (.inl ⟨[(2, 0)], ?_⟩)))
  (conv => whnf)
  refine ⟨[.c (.ref 0 0 none), ai (1 + x.names.length + x.signs.length)], _, ⟨rfl, rfl, rfl⟩, markTreeS_lost x.trees _ (by omega) (by omega) (fun t h => by have := costL_mem List.length h; omega), ?_⟩
  (conv => whnf)

theorem markIntSS_lost (xs : List (List Int)) (k : Int) (hk : 0 < k ∧ k + costL List.length xs ≤ 1000000000000) (hx : xs.length ≤ 1000000000) (hxs : ∀ t ∈ xs, t.length ≤ 1000000000) :
    FnSpecJ PR f_laws_markIntSS [.c (.ref 0 0 none), ai k] [(0, .arr t_Lint 1 0 (.nest [t_int]) (eL cIs xs))] 1 (ai (k + costL List.length xs)) := by
  refine FnSpecJ.intro hTn p_laws_markIntSS rfl (by kernel_rfl) n_laws_markIntSS rfl rfl rfl ?_
  (conv => whnf)
  refine tri_loop hTn [0, 1, 5] (α := Nat × List (List Int)) (fun x => { t := [(0, .c (.ref 0 0 none)), (1, ai (k + costL List.length (xs.take x.1))), (5, ai x.1)], h := [(0, .arr t_Lint 1 0 (.nest [t_int]) (eL cIs x.2))], n := 1, N := 19 })
    (fun x => x.1 ≤ xs.length ∧ x.2.length = xs.length ∧ ∀ j, x.1 ≤ j → x.2[j]? = xs[j]?) (fun x => xs.length - x.1) (0, xs) (by ((conv => whnf); simp only [St.mk.injEq, List.cons.injEq, Prod.mk.injEq, AV.c.injEq, AV.agg.injEq, AV.tup.injEq, CV.d.injEq, D.int.injEq, D.bool.injEq, D.str.injEq, D.sl.injEq, Ent.arr.injEq, Ent.box.injEq, true_and, and_true, and_self, nInt_eq, Int.natCast_zero, dLen_eL, sLen_eq]); simp [costL]) ⟨Nat.zero_le _, rfl, fun j _ => rfl⟩ ?_
  intro ⟨i, ys⟩ ⟨hi, hl, hj⟩
  dsimp only at hi hl hj
  (conv => whnf)
  refine ifB_i (fun h1 => ?_) (fun h1 => ?_) <;> (conv => whnf) <;> simp at h1
  · obtain ⟨y, hy⟩ := get_lt h1
    have hyx : xs[i]? = some y := by rw [← hj i (Nat.le_refl _)]; exact hy
    have hyl := hxs y (List.mem_of_getElem? hyx)
    have hc := costL_take List.length xs i y hyx
    have hc2 := costL_take_le List.length xs (i + 1)
    refine ref_at (k := i) (by simp) (by simp; omega) ?_
    (conv => whnf)
    refine ld_at (k := i) (by simp) hy ?_
    (conv => whnf)
    refine ⟨i, 0, cIs y, 1, eL cI y, t_int, by simp, by decide, by rw [eL_get, hy]; rfl, rfl, rfl, _, _, markIntS_spec y _ (by dsimp only; omega) hyl, ?_⟩
    (conv => whnf)
    rw [show (eL cIs ys).set i ((cIs y).set 0 (.sl 1 (eL cI (marks (k + costL List.length (xs.take i)) y.length)))) = eL cIs (ys.set i (marks (k + costL List.length (xs.take i)) y.length)) from eL_set2 cIs ys i _]
    (conv => whnf)
    refine ⟨(i + 1, ys.set i (marks (k + costL List.length (xs.take i)) y.length)), by dsimp only; omega, ⟨by dsimp only; omega, by simp [hl], fun j hlt => ?_⟩, ?_⟩
    · dsimp only at hlt ⊢
      rw [set_keep (by omega)]
      exact hj j (by omega)
    · ((conv => whnf); simp only [St.mk.injEq, List.cons.injEq, Prod.mk.injEq, AV.c.injEq, AV.agg.injEq, AV.tup.injEq, CV.d.injEq, D.int.injEq, D.bool.injEq, D.str.injEq, D.sl.injEq, Ent.arr.injEq, Ent.box.injEq, true_and, and_true, and_self, nInt_eq, Int.natCast_zero, dLen_eL, sLen_eq, wI h1 (by omega)])
      rw [hc]; omega
  · obtain rfl : i = xs.length := by omega
    rw [show xs.take xs.length = xs by simp]

theorem markGrid_lost (x : Grd) (h1 : x.cuts.length ≤ 1048576) (h2 : x.bins.length ≤ 1048576) (hc : costL List.length x.cuts ≤ 1048576) (hb : costL List.length x.bins ≤ 1048576) :
    FnSpecJ PR f_laws_markGrid [.agg [.ref 0 0 none, .ref 1 0 none], ai 1] [(0, .arr t_Lint 1 0 (.nest [t_int]) (eL cIs x.cuts)), (1, .arr t_Lint 1 0 (.nest [t_int]) (eL cIs x.bins))] 2 (ai (1 + costL List.length x.cuts + costL List.length x.bins)) := by
  refine FnSpecJ.intro hTn p_laws_markGrid rfl (by kernel_rfl) n_laws_markGrid rfl rfl rfl ?_
  (conv => whnf)
  refine .inr (.inr (.inr (.inl ⟨[(0, 0)], ?_⟩)))
  (conv => whnf)
  refine ⟨[.c (.ref 0 0 none), ai 1], _, ⟨rfl, rfl, rfl⟩, markIntSS_lost x.cuts _ (by omega) (by omega) (fun t h => by have := costL_mem List.length h; omega), ?_⟩
  (conv => whnf)
  refine .inr (.inr (.inr (.inl ⟨[(1, 0)], ?_⟩)))
  (conv => whnf)
  refine ⟨[.c (.ref 0 0 none), ai (1 + costL List.length x.cuts)], _, ⟨rfl, rfl, rfl⟩, markIntSS_lost x.bins _ (by omega) (by omega) (fun t h => by have := costL_mem List.length h; omega), ?_⟩
  (conv => whnf)
end Go.H.S
namespace Go.H.S
open Go Go.Proofs Go.H
attribute [local irreducible] Tri FnSpec FnSpecM
set_option maxRecDepth 100000
set_option linter.unusedSimpArgs false
set_option linter.unusedVariables false


theorem idxL_any {α : Type} (p : α → Bool) : ∀ (l : List α) (k : Nat), (0 ≤ idxL p l k) ↔ l.any p = true
  | [], k => by simp [idxL]
  | y :: r, k => by
    simp only [idxL, List.any_cons]
    have ih := idxL_any p r (k + 1)
    cases h : p y
    · simpa using ih
    · simp


theorem slices_IndexFunc_Limpl_Tree_impl_Tree_0 (xs : List (List Nd)) (g : FuncId) (p : List Nd → Bool) (hp : ∀ x ∈ xs, FnSpec PR g [aT x] (ab (p x)) [] 0) (hl : xs.length ≤ 9223372036854775807) :
    FnSpec PR f_slices_IndexFunc_Limpl_Tree_impl_Tree [aTs xs, .c (.d (.fn g []))] (ai (idxL p xs 0)) [] 0 := by
  refine FnSpec.intro hT p_slices_IndexFunc_Limpl_Tree_impl_Tree rfl (by kernel_rfl) n_slices_IndexFunc_Limpl_Tree_impl_Tree rfl ?_
  conv => whnf
  refine tri_loop hT [0, 1, 7, 8] (α := Nat) (fun k => { t := [(0, aTs xs), (1, .c (.d (.fn g []))), (7, ai xs.length), (8, ai k)], h := [], n := 0, N := 19 })
    (fun k => k ≤ xs.length ∧ idxL p (xs.drop k) k = idxL p xs 0) (fun k => xs.length - k) 0 (by ((conv => whnf); simp only [St.mk.injEq, List.cons.injEq, Prod.mk.injEq, AV.c.injEq, AV.agg.injEq, AV.tup.injEq, CV.d.injEq, D.int.injEq, D.bool.injEq, D.str.injEq, D.sl.injEq, Ent.arr.injEq, Ent.box.injEq, true_and, and_true, and_self, nInt_eq, Int.natCast_zero, dLen_eL, sLen_eq])) ⟨Nat.zero_le _, rfl⟩ ?_
  intro k ⟨hk, hi⟩
  (conv => whnf)
  refine ifB_i (fun h1 => ?_) (fun h1 => ?_) <;> (conv => whnf) <;> simp at h1
  · obtain ⟨s, hs⟩ := get_lt h1
    rw [drop_at hs, idxL] at hi
    refine idx_at (by simp) hs ?_
    (conv => whnf)
    refine .inl ⟨_, _, _, hp s (List.mem_of_getElem? hs), rfl, ?_⟩
    (conv => whnf)
    refine ifB_i (fun h2 => ?_) (fun h2 => ?_) <;> (conv => whnf)
    · rw [if_pos h2] at hi
      ((conv => whnf); simp only [St.mk.injEq, List.cons.injEq, Prod.mk.injEq, AV.c.injEq, AV.agg.injEq, AV.tup.injEq, CV.d.injEq, D.int.injEq, D.bool.injEq, D.str.injEq, D.sl.injEq, Ent.arr.injEq, Ent.box.injEq, true_and, and_true, and_self, nInt_eq, Int.natCast_zero, dLen_eL, sLen_eq, hi])
    · rw [if_neg (by simp [h2])] at hi
      refine ⟨k + 1, by omega, ⟨h1, hi⟩, ?_⟩
      ((conv => whnf); simp only [St.mk.injEq, List.cons.injEq, Prod.mk.injEq, AV.c.injEq, AV.agg.injEq, AV.tup.injEq, CV.d.injEq, D.int.injEq, D.bool.injEq, D.str.injEq, D.sl.injEq, Ent.arr.injEq, Ent.box.injEq, true_and, and_true, and_self, nInt_eq, Int.natCast_zero, dLen_eL, sLen_eq, wI h1 hl])
  · obtain rfl : k = xs.length := by omega
    simp only [List.drop_length, idxL] at hi
    ((conv => whnf); simp only [St.mk.injEq, List.cons.injEq, Prod.mk.injEq, AV.c.injEq, AV.agg.injEq, AV.tup.injEq, CV.d.injEq, D.int.injEq, D.bool.injEq, D.str.injEq, D.sl.injEq, Ent.arr.injEq, Ent.box.injEq, true_and, and_true, and_self, nInt_eq, Int.natCast_zero, dLen_eL, sLen_eq, ← hi])


theorem slices_ContainsFunc_Limpl_Tree_impl_Tree_0 (xs : List (List Nd)) (g : FuncId) (p : List Nd → Bool) (hp : ∀ x ∈ xs, FnSpec PR g [aT x] (ab (p x)) [] 0) (hl : xs.length ≤ 9223372036854775807) :
    FnSpec PR f_slices_ContainsFunc_Limpl_Tree_impl_Tree [aTs xs, .c (.d (.fn g []))] (ab (xs.any p)) [] 0 := by
  refine FnSpec.intro hT p_slices_ContainsFunc_Limpl_Tree_impl_Tree rfl (by kernel_rfl) n_slices_ContainsFunc_Limpl_Tree_impl_Tree rfl ?_
  conv => whnf
  refine .inl ⟨_, _, _, slices_IndexFunc_Limpl_Tree_impl_Tree_0 xs g  p hp hl, rfl, ?_⟩
  (conv => whnf)
  have h := idxL_any p xs 0
  cases hb : xs.any p
  · rw [hb] at h
    ((conv => whnf); simp only [St.mk.injEq, List.cons.injEq, Prod.mk.injEq, AV.c.injEq, AV.agg.injEq, AV.tup.injEq, CV.d.injEq, D.int.injEq, D.bool.injEq, D.str.injEq, D.sl.injEq, Ent.arr.injEq, Ent.box.injEq, true_and, and_true, and_self, nInt_eq, Int.natCast_zero, dLen_eL, sLen_eq, iLe])
    simpa using h
  · rw [hb] at h
    ((conv => whnf); simp only [St.mk.injEq, List.cons.injEq, Prod.mk.injEq, AV.c.injEq, AV.agg.injEq, AV.tup.injEq, CV.d.injEq, D.int.injEq, D.bool.injEq, D.str.injEq, D.sl.injEq, Ent.arr.injEq, Ent.box.injEq, true_and, and_true, and_self, nInt_eq, Int.natCast_zero, dLen_eL, sLen_eq, iLe])
    simpa using h


theorem slices_IndexFunc_Limpl_Tree_impl_Tree_1 (xs : List (List Nd)) (g : FuncId) (d0 : D) (p : List Nd → Bool) (hp : ∀ x ∈ xs, FnSpec PR g [aT x, .c (.d d0)] (ab (p x)) [] 0) (hl : xs.length ≤ 9223372036854775807) :
    FnSpec PR f_slices_IndexFunc_Limpl_Tree_impl_Tree [aTs xs, .c (.d (.fn g [d0]))] (ai (idxL p xs 0)) [] 0 := by
  refine FnSpec.intro hT p_slices_IndexFunc_Limpl_Tree_impl_Tree rfl (by kernel_rfl) n_slices_IndexFunc_Limpl_Tree_impl_Tree rfl ?_
  conv => whnf
  refine tri_loop hT [0, 1, 7, 8] (α := Nat) (fun k => { t := [(0, aTs xs), (1, .c (.d (.fn g [d0]))), (7, ai xs.length), (8, ai k)], h := [], n := 0, N := 19 })
    (fun k => k ≤ xs.length ∧ idxL p (xs.drop k) k = idxL p xs 0) (fun k => xs.length - k) 0 (by ((conv => whnf); simp only [St.mk.injEq, List.cons.injEq, Prod.mk.injEq, AV.c.injEq, AV.agg.injEq, AV.tup.injEq, CV.d.injEq, D.int.injEq, D.bool.injEq, D.str.injEq, D.sl.injEq, Ent.arr.injEq, Ent.box.injEq, true_and, and_true, and_self, nInt_eq, Int.natCast_zero, dLen_eL, sLen_eq])) ⟨Nat.zero_le _, rfl⟩ ?_
  intro k ⟨hk, hi⟩
  (conv => whnf)
  refine ifB_i (fun h1 => ?_) (fun h1 => ?_) <;> (conv => whnf) <;> simp at h1
  · obtain ⟨s, hs⟩ := get_lt h1
    rw [drop_at hs, idxL] at hi
    refine idx_at (by simp) hs ?_
    (conv => whnf)
    refine .inl ⟨_, _, _, hp s (List.mem_of_getElem? hs), rfl, ?_⟩
    (conv => whnf)
    refine ifB_i (fun h2 => ?_) (fun h2 => ?_) <;> (conv => whnf)
    · rw [if_pos h2] at hi
      ((conv => whnf); simp only [St.mk.injEq, List.cons.injEq, Prod.mk.injEq, AV.c.injEq, AV.agg.injEq, AV.tup.injEq, CV.d.injEq, D.int.injEq, D.bool.injEq, D.str.injEq, D.sl.injEq, Ent.arr.injEq, Ent.box.injEq, true_and, and_true, and_self, nInt_eq, Int.natCast_zero, dLen_eL, sLen_eq, hi])
    · rw [if_neg (by simp [h2])] at hi
      refine ⟨k + 1, by omega, ⟨h1, hi⟩, ?_⟩
      ((conv => whnf); simp only [St.mk.injEq, List.cons.injEq, Prod.mk.injEq, AV.c.injEq, AV.agg.injEq, AV.tup.injEq, CV.d.injEq, D.int.injEq, D.bool.injEq, D.str.injEq, D.sl.injEq, Ent.arr.injEq, Ent.box.injEq, true_and, and_true, and_self, nInt_eq, Int.natCast_zero, dLen_eL, sLen_eq, wI h1 hl])
  · obtain rfl : k = xs.length := by omega
    simp only [List.drop_length, idxL] at hi
    ((conv => whnf); simp only [St.mk.injEq, List.cons.injEq, Prod.mk.injEq, AV.c.injEq, AV.agg.injEq, AV.tup.injEq, CV.d.injEq, D.int.injEq, D.bool.injEq, D.str.injEq, D.sl.injEq, Ent.arr.injEq, Ent.box.injEq, true_and, and_true, and_self, nInt_eq, Int.natCast_zero, dLen_eL, sLen_eq, ← hi])


theorem slices_ContainsFunc_Limpl_Tree_impl_Tree_1 (xs : List (List Nd)) (g : FuncId) (d0 : D) (p : List Nd → Bool) (hp : ∀ x ∈ xs, FnSpec PR g [aT x, .c (.d d0)] (ab (p x)) [] 0) (hl : xs.length ≤ 9223372036854775807) :
    FnSpec PR f_slices_ContainsFunc_Limpl_Tree_impl_Tree [aTs xs, .c (.d (.fn g [d0]))] (ab (xs.any p)) [] 0 := by
  refine FnSpec.intro hT p_slices_ContainsFunc_Limpl_Tree_impl_Tree rfl (by kernel_rfl) n_slices_ContainsFunc_Limpl_Tree_impl_Tree rfl ?_
  conv => whnf
  refine .inl ⟨_, _, _, slices_IndexFunc_Limpl_Tree_impl_Tree_1 xs g d0 p hp hl, rfl, ?_⟩
  (conv => whnf)
  have h := idxL_any p xs 0
  cases hb : xs.any p
  · rw [hb] at h
    ((conv => whnf); simp only [St.mk.injEq, List.cons.injEq, Prod.mk.injEq, AV.c.injEq, AV.agg.injEq, AV.tup.injEq, CV.d.injEq, D.int.injEq, D.bool.injEq, D.str.injEq, D.sl.injEq, Ent.arr.injEq, Ent.box.injEq, true_and, and_true, and_self, nInt_eq, Int.natCast_zero, dLen_eL, sLen_eq, iLe])
    simpa using h
  · rw [hb] at h
    ((conv => whnf); simp only [St.mk.injEq, List.cons.injEq, Prod.mk.injEq, AV.c.injEq, AV.agg.injEq, AV.tup.injEq, CV.d.injEq, D.int.injEq, D.bool.injEq, D.str.injEq, D.sl.injEq, Ent.arr.injEq, Ent.box.injEq, true_and, and_true, and_self, nInt_eq, Int.natCast_zero, dLen_eL, sLen_eq, iLe])
    simpa using h


theorem slices_IndexFunc_Limpl_Tree_impl_Tree_2 (xs : List (List Nd)) (g : FuncId) (d0 d1 : D) (p : List Nd → Bool) (hp : ∀ x ∈ xs, FnSpec PR g [aT x, .c (.d d0), .c (.d d1)] (ab (p x)) [] 0) (hl : xs.length ≤ 9223372036854775807) :
    FnSpec PR f_slices_IndexFunc_Limpl_Tree_impl_Tree [aTs xs, .c (.d (.fn g [d0, d1]))] (ai (idxL p xs 0)) [] 0 := by
  refine FnSpec.intro hT p_slices_IndexFunc_Limpl_Tree_impl_Tree rfl (by kernel_rfl) n_slices_IndexFunc_Limpl_Tree_impl_Tree rfl ?_
  conv => whnf
  refine tri_loop hT [0, 1, 7, 8] (α := Nat) (fun k => { t := [(0, aTs xs), (1, .c (.d (.fn g [d0, d1]))), (7, ai xs.length), (8, ai k)], h := [], n := 0, N := 19 })
    (fun k => k ≤ xs.length ∧ idxL p (xs.drop k) k = idxL p xs 0) (fun k => xs.length - k) 0 (by ((conv => whnf); simp only [St.mk.injEq, List.cons.injEq, Prod.mk.injEq, AV.c.injEq, AV.agg.injEq, AV.tup.injEq, CV.d.injEq, D.int.injEq, D.bool.injEq, D.str.injEq, D.sl.injEq, Ent.arr.injEq, Ent.box.injEq, true_and, and_true, and_self, nInt_eq, Int.natCast_zero, dLen_eL, sLen_eq])) ⟨Nat.zero_le _, rfl⟩ ?_
  intro k ⟨hk, hi⟩
  (conv => whnf)
  refine ifB_i (fun h1 => ?_) (fun h1 => ?_) <;> (conv => whnf) <;> simp at h1
  · obtain ⟨s, hs⟩ := get_lt h1
    rw [drop_at hs, idxL] at hi
    refine idx_at (by simp) hs ?_
    (conv => whnf)
    refine .inl ⟨_, _, _, hp s (List.mem_of_getElem? hs), rfl, ?_⟩
    (conv => whnf)
    refine ifB_i (fun h2 => ?_) (fun h2 => ?_) <;> (conv => whnf)
    · rw [if_pos h2] at hi
      ((conv => whnf); simp only [St.mk.injEq, List.cons.injEq, Prod.mk.injEq, AV.c.injEq, AV.agg.injEq, AV.tup.injEq, CV.d.injEq, D.int.injEq, D.bool.injEq, D.str.injEq, D.sl.injEq, Ent.arr.injEq, Ent.box.injEq, true_and, and_true, and_self, nInt_eq, Int.natCast_zero, dLen_eL, sLen_eq, hi])
    · rw [if_neg (by simp [h2])] at hi
      refine ⟨k + 1, by omega, ⟨h1, hi⟩, ?_⟩
      ((conv => whnf); simp only [St.mk.injEq, List.cons.injEq, Prod.mk.injEq, AV.c.injEq, AV.agg.injEq, AV.tup.injEq, CV.d.injEq, D.int.injEq, D.bool.injEq, D.str.injEq, D.sl.injEq, Ent.arr.injEq, Ent.box.injEq, true_and, and_true, and_self, nInt_eq, Int.natCast_zero, dLen_eL, sLen_eq, wI h1 hl])
  · obtain rfl : k = xs.length := by omega
    simp only [List.drop_length, idxL] at hi
    ((conv => whnf); simp only [St.mk.injEq, List.cons.injEq, Prod.mk.injEq, AV.c.injEq, AV.agg.injEq, AV.tup.injEq, CV.d.injEq, D.int.injEq, D.bool.injEq, D.str.injEq, D.sl.injEq, Ent.arr.injEq, Ent.box.injEq, true_and, and_true, and_self, nInt_eq, Int.natCast_zero, dLen_eL, sLen_eq, ← hi])


theorem slices_ContainsFunc_Limpl_Tree_impl_Tree_2 (xs : List (List Nd)) (g : FuncId) (d0 d1 : D) (p : List Nd → Bool) (hp : ∀ x ∈ xs, FnSpec PR g [aT x, .c (.d d0), .c (.d d1)] (ab (p x)) [] 0) (hl : xs.length ≤ 9223372036854775807) :
    FnSpec PR f_slices_ContainsFunc_Limpl_Tree_impl_Tree [aTs xs, .c (.d (.fn g [d0, d1]))] (ab (xs.any p)) [] 0 := by
  refine FnSpec.intro hT p_slices_ContainsFunc_Limpl_Tree_impl_Tree rfl (by kernel_rfl) n_slices_ContainsFunc_Limpl_Tree_impl_Tree rfl ?_
  conv => whnf
  refine .inl ⟨_, _, _, slices_IndexFunc_Limpl_Tree_impl_Tree_2 xs g d0 d1 p hp hl, rfl, ?_⟩
  (conv => whnf)
  have h := idxL_any p xs 0
  cases hb : xs.any p
  · rw [hb] at h
    ((conv => whnf); simp only [St.mk.injEq, List.cons.injEq, Prod.mk.injEq, AV.c.injEq, AV.agg.injEq, AV.tup.injEq, CV.d.injEq, D.int.injEq, D.bool.injEq, D.str.injEq, D.sl.injEq, Ent.arr.injEq, Ent.box.injEq, true_and, and_true, and_self, nInt_eq, Int.natCast_zero, dLen_eL, sLen_eq, iLe])
    simpa using h
  · rw [hb] at h
    ((conv => whnf); simp only [St.mk.injEq, List.cons.injEq, Prod.mk.injEq, AV.c.injEq, AV.agg.injEq, AV.tup.injEq, CV.d.injEq, D.int.injEq, D.bool.injEq, D.str.injEq, D.sl.injEq, Ent.arr.injEq, Ent.box.injEq, true_and, and_true, and_self, nInt_eq, Int.natCast_zero, dLen_eL, sLen_eq, iLe])
    simpa using h


theorem slices_IndexFunc_Lint_int_0 (xs : List (Int)) (g : FuncId) (p : Int → Bool) (hp : ∀ x ∈ xs, FnSpec PR g [ai x] (ab (p x)) [] 0) (hl : xs.length ≤ 9223372036854775807) :
    FnSpec PR f_slices_IndexFunc_Lint_int [aIs xs, .c (.d (.fn g []))] (ai (idxL p xs 0)) [] 0 := by
  refine FnSpec.intro hT p_slices_IndexFunc_Lint_int rfl (by kernel_rfl) n_slices_IndexFunc_Lint_int rfl ?_
  conv => whnf
  refine tri_loop hT [0, 1, 7, 8] (α := Nat) (fun k => { t := [(0, aIs xs), (1, .c (.d (.fn g []))), (7, ai xs.length), (8, ai k)], h := [], n := 0, N := 19 })
    (fun k => k ≤ xs.length ∧ idxL p (xs.drop k) k = idxL p xs 0) (fun k => xs.length - k) 0 (by ((conv => whnf); simp only [St.mk.injEq, List.cons.injEq, Prod.mk.injEq, AV.c.injEq, AV.agg.injEq, AV.tup.injEq, CV.d.injEq, D.int.injEq, D.bool.injEq, D.str.injEq, D.sl.injEq, Ent.arr.injEq, Ent.box.injEq, true_and, and_true, and_self, nInt_eq, Int.natCast_zero, dLen_eL, sLen_eq])) ⟨Nat.zero_le _, rfl⟩ ?_
  intro k ⟨hk, hi⟩
  (conv => whnf)
  refine ifB_i (fun h1 => ?_) (fun h1 => ?_) <;> (conv => whnf) <;> simp at h1
  · obtain ⟨s, hs⟩ := get_lt h1
    rw [drop_at hs, idxL] at hi
    refine idx_at (by simp) hs ?_
    (conv => whnf)
    refine .inl ⟨_, _, _, hp s (List.mem_of_getElem? hs), rfl, ?_⟩
    (conv => whnf)
    refine ifB_i (fun h2 => ?_) (fun h2 => ?_) <;> (conv => whnf)
    · rw [if_pos h2] at hi
      ((conv => whnf); simp only [St.mk.injEq, List.cons.injEq, Prod.mk.injEq, AV.c.injEq, AV.agg.injEq, AV.tup.injEq, CV.d.injEq, D.int.injEq, D.bool.injEq, D.str.injEq, D.sl.injEq, Ent.arr.injEq, Ent.box.injEq, true_and, and_true, and_self, nInt_eq, Int.natCast_zero, dLen_eL, sLen_eq, hi])
    · rw [if_neg (by simp [h2])] at hi
      refine ⟨k + 1, by omega, ⟨h1, hi⟩, ?_⟩
      ((conv => whnf); simp only [St.mk.injEq, List.cons.injEq, Prod.mk.injEq, AV.c.injEq, AV.agg.injEq, AV.tup.injEq, CV.d.injEq, D.int.injEq, D.bool.injEq, D.str.injEq, D.sl.injEq, Ent.arr.injEq, Ent.box.injEq, true_and, and_true, and_self, nInt_eq, Int.natCast_zero, dLen_eL, sLen_eq, wI h1 hl])
  · obtain rfl : k = xs.length := by omega
    simp only [List.drop_length, idxL] at hi
    ((conv => whnf); simp only [St.mk.injEq, List.cons.injEq, Prod.mk.injEq, AV.c.injEq, AV.agg.injEq, AV.tup.injEq, CV.d.injEq, D.int.injEq, D.bool.injEq, D.str.injEq, D.sl.injEq, Ent.arr.injEq, Ent.box.injEq, true_and, and_true, and_self, nInt_eq, Int.natCast_zero, dLen_eL, sLen_eq, ← hi])


theorem slices_ContainsFunc_Lint_int_0 (xs : List (Int)) (g : FuncId) (p : Int → Bool) (hp : ∀ x ∈ xs, FnSpec PR g [ai x] (ab (p x)) [] 0) (hl : xs.length ≤ 9223372036854775807) :
    FnSpec PR f_slices_ContainsFunc_Lint_int [aIs xs, .c (.d (.fn g []))] (ab (xs.any p)) [] 0 := by
  refine FnSpec.intro hT p_slices_ContainsFunc_Lint_int rfl (by kernel_rfl) n_slices_ContainsFunc_Lint_int rfl ?_
  conv => whnf
  refine .inl ⟨_, _, _, slices_IndexFunc_Lint_int_0 xs g  p hp hl, rfl, ?_⟩
  (conv => whnf)
  have h := idxL_any p xs 0
  cases hb : xs.any p
  · rw [hb] at h
    ((conv => whnf); simp only [St.mk.injEq, List.cons.injEq, Prod.mk.injEq, AV.c.injEq, AV.agg.injEq, AV.tup.injEq, CV.d.injEq, D.int.injEq, D.bool.injEq, D.str.injEq, D.sl.injEq, Ent.arr.injEq, Ent.box.injEq, true_and, and_true, and_self, nInt_eq, Int.natCast_zero, dLen_eL, sLen_eq, iLe])
    simpa using h
  · rw [hb] at h
    ((conv => whnf); simp only [St.mk.injEq, List.cons.injEq, Prod.mk.injEq, AV.c.injEq, AV.agg.injEq, AV.tup.injEq, CV.d.injEq, D.int.injEq, D.bool.injEq, D.str.injEq, D.sl.injEq, Ent.arr.injEq, Ent.box.injEq, true_and, and_true, and_self, nInt_eq, Int.natCast_zero, dLen_eL, sLen_eq, iLe])
    simpa using h


theorem slices_IndexFunc_Lint_int_1 (xs : List (Int)) (g : FuncId) (d0 : D) (p : Int → Bool) (hp : ∀ x ∈ xs, FnSpec PR g [ai x, .c (.d d0)] (ab (p x)) [] 0) (hl : xs.length ≤ 9223372036854775807) :
    FnSpec PR f_slices_IndexFunc_Lint_int [aIs xs, .c (.d (.fn g [d0]))] (ai (idxL p xs 0)) [] 0 := by
  refine FnSpec.intro hT p_slices_IndexFunc_Lint_int rfl (by kernel_rfl) n_slices_IndexFunc_Lint_int rfl ?_
  conv => whnf
  refine tri_loop hT [0, 1, 7, 8] (α := Nat) (fun k => { t := [(0, aIs xs), (1, .c (.d (.fn g [d0]))), (7, ai xs.length), (8, ai k)], h := [], n := 0, N := 19 })
    (fun k => k ≤ xs.length ∧ idxL p (xs.drop k) k = idxL p xs 0) (fun k => xs.length - k) 0 (by ((conv => whnf); simp only [St.mk.injEq, List.cons.injEq, Prod.mk.injEq, AV.c.injEq, AV.agg.injEq, AV.tup.injEq, CV.d.injEq, D.int.injEq, D.bool.injEq, D.str.injEq, D.sl.injEq, Ent.arr.injEq, Ent.box.injEq, true_and, and_true, and_self, nInt_eq, Int.natCast_zero, dLen_eL, sLen_eq])) ⟨Nat.zero_le _, rfl⟩ ?_
  intro k ⟨hk, hi⟩
  (conv => whnf)
  refine ifB_i (fun h1 => ?_) (fun h1 => ?_) <;> (conv => whnf) <;> simp at h1
  · obtain ⟨s, hs⟩ := get_lt h1
    rw [drop_at hs, idxL] at hi
    refine idx_at (by simp) hs ?_
    (conv => whnf)
    refine .inl ⟨_, _, _, hp s (List.mem_of_getElem? hs), rfl, ?_⟩
    (conv => whnf)
    refine ifB_i (fun h2 => ?_) (fun h2 => ?_) <;> (conv => whnf)
    · rw [if_pos h2] at hi
      ((conv => whnf); simp only [St.mk.injEq, List.cons.injEq, Prod.mk.injEq, AV.c.injEq, AV.agg.injEq, AV.tup.injEq, CV.d.injEq, D.int.injEq, D.bool.injEq, D.str.injEq, D.sl.injEq, Ent.arr.injEq, Ent.box.injEq, true_and, and_true, and_self, nInt_eq, Int.natCast_zero, dLen_eL, sLen_eq, hi])
    · rw [if_neg (by simp [h2])] at hi
      refine ⟨k + 1, by omega, ⟨h1, hi⟩, ?_⟩
      ((conv => whnf); simp only [St.mk.injEq, List.cons.injEq, Prod.mk.injEq, AV.c.injEq, AV.agg.injEq, AV.tup.injEq, CV.d.injEq, D.int.injEq, D.bool.injEq, D.str.injEq, D.sl.injEq, Ent.arr.injEq, Ent.box.injEq, true_and, and_true, and_self, nInt_eq, Int.natCast_zero, dLen_eL, sLen_eq, wI h1 hl])
  · obtain rfl : k = xs.length := by omega
    simp only [List.drop_length, idxL] at hi
    ((conv => whnf); simp only [St.mk.injEq, List.cons.injEq, Prod.mk.injEq, AV.c.injEq, AV.agg.injEq, AV.tup.injEq, CV.d.injEq, D.int.injEq, D.bool.injEq, D.str.injEq, D.sl.injEq, Ent.arr.injEq, Ent.box.injEq, true_and, and_true, and_self, nInt_eq, Int.natCast_zero, dLen_eL, sLen_eq, ← hi])


theorem slices_ContainsFunc_Lint_int_1 (xs : List (Int)) (g : FuncId) (d0 : D) (p : Int → Bool) (hp : ∀ x ∈ xs, FnSpec PR g [ai x, .c (.d d0)] (ab (p x)) [] 0) (hl : xs.length ≤ 9223372036854775807) :
    FnSpec PR f_slices_ContainsFunc_Lint_int [aIs xs, .c (.d (.fn g [d0]))] (ab (xs.any p)) [] 0 := by
  refine FnSpec.intro hT p_slices_ContainsFunc_Lint_int rfl (by kernel_rfl) n_slices_ContainsFunc_Lint_int rfl ?_
  conv => whnf
  refine .inl ⟨_, _, _, slices_IndexFunc_Lint_int_1 xs g d0 p hp hl, rfl, ?_⟩
  (conv => whnf)
  have h := idxL_any p xs 0
  cases hb : xs.any p
  · rw [hb] at h
    ((conv => whnf); simp only [St.mk.injEq, List.cons.injEq, Prod.mk.injEq, AV.c.injEq, AV.agg.injEq, AV.tup.injEq, CV.d.injEq, D.int.injEq, D.bool.injEq, D.str.injEq, D.sl.injEq, Ent.arr.injEq, Ent.box.injEq, true_and, and_true, and_self, nInt_eq, Int.natCast_zero, dLen_eL, sLen_eq, iLe])
    simpa using h
  · rw [hb] at h
    ((conv => whnf); simp only [St.mk.injEq, List.cons.injEq, Prod.mk.injEq, AV.c.injEq, AV.agg.injEq, AV.tup.injEq, CV.d.injEq, D.int.injEq, D.bool.injEq, D.str.injEq, D.sl.injEq, Ent.arr.injEq, Ent.box.injEq, true_and, and_true, and_self, nInt_eq, Int.natCast_zero, dLen_eL, sLen_eq, iLe])
    simpa using h


theorem slices_IndexFunc_Lint_int_2 (xs : List (Int)) (g : FuncId) (d0 d1 : D) (p : Int → Bool) (hp : ∀ x ∈ xs, FnSpec PR g [ai x, .c (.d d0), .c (.d d1)] (ab (p x)) [] 0) (hl : xs.length ≤ 9223372036854775807) :
    FnSpec PR f_slices_IndexFunc_Lint_int [aIs xs, .c (.d (.fn g [d0, d1]))] (ai (idxL p xs 0)) [] 0 := by
  refine FnSpec.intro hT p_slices_IndexFunc_Lint_int rfl (by kernel_rfl) n_slices_IndexFunc_Lint_int rfl ?_
  conv => whnf
  refine tri_loop hT [0, 1, 7, 8] (α := Nat) (fun k => { t := [(0, aIs xs), (1, .c (.d (.fn g [d0, d1]))), (7, ai xs.length), (8, ai k)], h := [], n := 0, N := 19 })
    (fun k => k ≤ xs.length ∧ idxL p (xs.drop k) k = idxL p xs 0) (fun k => xs.length - k) 0 (by ((conv => whnf); simp only [St.mk.injEq, List.cons.injEq, Prod.mk.injEq, AV.c.injEq, AV.agg.injEq, AV.tup.injEq, CV.d.injEq, D.int.injEq, D.bool.injEq, D.str.injEq, D.sl.injEq, Ent.arr.injEq, Ent.box.injEq, true_and, and_true, and_self, nInt_eq, Int.natCast_zero, dLen_eL, sLen_eq])) ⟨Nat.zero_le _, rfl⟩ ?_
  intro k ⟨hk, hi⟩
  (conv => whnf)
  refine ifB_i (fun h1 => ?_) (fun h1 => ?_) <;> (conv => whnf) <;> simp at h1
  · obtain ⟨s, hs⟩ := get_lt h1
    rw [drop_at hs, idxL] at hi
    refine idx_at (by simp) hs ?_
    (conv => whnf)
    refine .inl ⟨_, _, _, hp s (List.mem_of_getElem? hs), rfl, ?_⟩
    (conv => whnf)
    refine ifB_i (fun h2 => ?_) (fun h2 => ?_) <;> (conv => whnf)
    · rw [if_pos h2] at hi
      ((conv => whnf); simp only [St.mk.injEq, List.cons.injEq, Prod.mk.injEq, AV.c.injEq, AV.agg.injEq, AV.tup.injEq, CV.d.injEq, D.int.injEq, D.bool.injEq, D.str.injEq, D.sl.injEq, Ent.arr.injEq, Ent.box.injEq, true_and, and_true, and_self, nInt_eq, Int.natCast_zero, dLen_eL, sLen_eq, hi])
    · rw [if_neg (by simp [h2])] at hi
      refine ⟨k + 1, by omega, ⟨h1, hi⟩, ?_⟩
      ((conv => whnf); simp only [St.mk.injEq, List.cons.injEq, Prod.mk.injEq, AV.c.injEq, AV.agg.injEq, AV.tup.injEq, CV.d.injEq, D.int.injEq, D.bool.injEq, D.str.injEq, D.sl.injEq, Ent.arr.injEq, Ent.box.injEq, true_and, and_true, and_self, nInt_eq, Int.natCast_zero, dLen_eL, sLen_eq, wI h1 hl])
  · obtain rfl : k = xs.length := by omega
    simp only [List.drop_length, idxL] at hi
    ((conv => whnf); simp only [St.mk.injEq, List.cons.injEq, Prod.mk.injEq, AV.c.injEq, AV.agg.injEq, AV.tup.injEq, CV.d.injEq, D.int.injEq, D.bool.injEq, D.str.injEq, D.sl.injEq, Ent.arr.injEq, Ent.box.injEq, true_and, and_true, and_self, nInt_eq, Int.natCast_zero, dLen_eL, sLen_eq, ← hi])


theorem slices_ContainsFunc_Lint_int_2 (xs : List (Int)) (g : FuncId) (d0 d1 : D) (p : Int → Bool) (hp : ∀ x ∈ xs, FnSpec PR g [ai x, .c (.d d0), .c (.d d1)] (ab (p x)) [] 0) (hl : xs.length ≤ 9223372036854775807) :
    FnSpec PR f_slices_ContainsFunc_Lint_int [aIs xs, .c (.d (.fn g [d0, d1]))] (ab (xs.any p)) [] 0 := by
  refine FnSpec.intro hT p_slices_ContainsFunc_Lint_int rfl (by kernel_rfl) n_slices_ContainsFunc_Lint_int rfl ?_
  conv => whnf
  refine .inl ⟨_, _, _, slices_IndexFunc_Lint_int_2 xs g d0 d1 p hp hl, rfl, ?_⟩
  (conv => whnf)
  have h := idxL_any p xs 0
  cases hb : xs.any p
  · rw [hb] at h
    ((conv => whnf); simp only [St.mk.injEq, List.cons.injEq, Prod.mk.injEq, AV.c.injEq, AV.agg.injEq, AV.tup.injEq, CV.d.injEq, D.int.injEq, D.bool.injEq, D.str.injEq, D.sl.injEq, Ent.arr.injEq, Ent.box.injEq, true_and, and_true, and_self, nInt_eq, Int.natCast_zero, dLen_eL, sLen_eq, iLe])
    simpa using h
  · rw [hb] at h
    ((conv => whnf); simp only [St.mk.injEq, List.cons.injEq, Prod.mk.injEq, AV.c.injEq, AV.agg.injEq, AV.tup.injEq, CV.d.injEq, D.int.injEq, D.bool.injEq, D.str.injEq, D.sl.injEq, Ent.arr.injEq, Ent.box.injEq, true_and, and_true, and_self, nInt_eq, Int.natCast_zero, dLen_eL, sLen_eq, iLe])
    simpa using h


theorem slices_IndexFunc_LLint_Lint_0 (xs : List (List Int)) (g : FuncId) (p : List Int → Bool) (hp : ∀ x ∈ xs, FnSpec PR g [aIs x] (ab (p x)) [] 0) (hl : xs.length ≤ 9223372036854775807) :
    FnSpec PR f_slices_IndexFunc_LLint_Lint [aIss xs, .c (.d (.fn g []))] (ai (idxL p xs 0)) [] 0 := by
  refine FnSpec.intro hT p_slices_IndexFunc_LLint_Lint rfl (by kernel_rfl) n_slices_IndexFunc_LLint_Lint rfl ?_
  conv => whnf
  refine tri_loop hT [0, 1, 7, 8] (α := Nat) (fun k => { t := [(0, aIss xs), (1, .c (.d (.fn g []))), (7, ai xs.length), (8, ai k)], h := [], n := 0, N := 19 })
    (fun k => k ≤ xs.length ∧ idxL p (xs.drop k) k = idxL p xs 0) (fun k => xs.length - k) 0 (by ((conv => whnf); simp only [St.mk.injEq, List.cons.injEq, Prod.mk.injEq, AV.c.injEq, AV.agg.injEq, AV.tup.injEq, CV.d.injEq, D.int.injEq, D.bool.injEq, D.str.injEq, D.sl.injEq, Ent.arr.injEq, Ent.box.injEq, true_and, and_true, and_self, nInt_eq, Int.natCast_zero, dLen_eL, sLen_eq])) ⟨Nat.zero_le _, rfl⟩ ?_
  intro k ⟨hk, hi⟩
  (conv => whnf)
  refine ifB_i (fun h1 => ?_) (fun h1 => ?_) <;> (conv => whnf) <;> simp at h1
  · obtain ⟨s, hs⟩ := get_lt h1
    rw [drop_at hs, idxL] at hi
    refine idx_at (by simp) hs ?_
    (conv => whnf)
    refine .inl ⟨_, _, _, hp s (List.mem_of_getElem? hs), rfl, ?_⟩
    (conv => whnf)
    refine ifB_i (fun h2 => ?_) (fun h2 => ?_) <;> (conv => whnf)
    · rw [if_pos h2] at hi
      ((conv => whnf); simp only [St.mk.injEq, List.cons.injEq, Prod.mk.injEq, AV.c.injEq, AV.agg.injEq, AV.tup.injEq, CV.d.injEq, D.int.injEq, D.bool.injEq, D.str.injEq, D.sl.injEq, Ent.arr.injEq, Ent.box.injEq, true_and, and_true, and_self, nInt_eq, Int.natCast_zero, dLen_eL, sLen_eq, hi])
    · rw [if_neg (by simp [h2])] at hi
      refine ⟨k + 1, by omega, ⟨h1, hi⟩, ?_⟩
      ((conv => whnf); simp only [St.mk.injEq, List.cons.injEq, Prod.mk.injEq, AV.c.injEq, AV.agg.injEq, AV.tup.injEq, CV.d.injEq, D.int.injEq, D.bool.injEq, D.str.injEq, D.sl.injEq, Ent.arr.injEq, Ent.box.injEq, true_and, and_true, and_self, nInt_eq, Int.natCast_zero, dLen_eL, sLen_eq, wI h1 hl])
  · obtain rfl : k = xs.length := by omega
    simp only [List.drop_length, idxL] at hi
    ((conv => whnf); simp only [St.mk.injEq, List.cons.injEq, Prod.mk.injEq, AV.c.injEq, AV.agg.injEq, AV.tup.injEq, CV.d.injEq, D.int.injEq, D.bool.injEq, D.str.injEq, D.sl.injEq, Ent.arr.injEq, Ent.box.injEq, true_and, and_true, and_self, nInt_eq, Int.natCast_zero, dLen_eL, sLen_eq, ← hi])


theorem slices_ContainsFunc_LLint_Lint_0 (xs : List (List Int)) (g : FuncId) (p : List Int → Bool) (hp : ∀ x ∈ xs, FnSpec PR g [aIs x] (ab (p x)) [] 0) (hl : xs.length ≤ 9223372036854775807) :
    FnSpec PR f_slices_ContainsFunc_LLint_Lint [aIss xs, .c (.d (.fn g []))] (ab (xs.any p)) [] 0 := by
  refine FnSpec.intro hT p_slices_ContainsFunc_LLint_Lint rfl (by kernel_rfl) n_slices_ContainsFunc_LLint_Lint rfl ?_
  conv => whnf
  refine .inl ⟨_, _, _, slices_IndexFunc_LLint_Lint_0 xs g  p hp hl, rfl, ?_⟩
  (conv => whnf)
  have h := idxL_any p xs 0
  cases hb : xs.any p
  · rw [hb] at h
    ((conv => whnf); simp only [St.mk.injEq, List.cons.injEq, Prod.mk.injEq, AV.c.injEq, AV.agg.injEq, AV.tup.injEq, CV.d.injEq, D.int.injEq, D.bool.injEq, D.str.injEq, D.sl.injEq, Ent.arr.injEq, Ent.box.injEq, true_and, and_true, and_self, nInt_eq, Int.natCast_zero, dLen_eL, sLen_eq, iLe])
    simpa using h
  · rw [hb] at h
    ((conv => whnf); simp only [St.mk.injEq, List.cons.injEq, Prod.mk.injEq, AV.c.injEq, AV.agg.injEq, AV.tup.injEq, CV.d.injEq, D.int.injEq, D.bool.injEq, D.str.injEq, D.sl.injEq, Ent.arr.injEq, Ent.box.injEq, true_and, and_true, and_self, nInt_eq, Int.natCast_zero, dLen_eL, sLen_eq, iLe])
    simpa using h


theorem slices_IndexFunc_LLint_Lint_1 (xs : List (List Int)) (g : FuncId) (d0 : D) (p : List Int → Bool) (hp : ∀ x ∈ xs, FnSpec PR g [aIs x, .c (.d d0)] (ab (p x)) [] 0) (hl : xs.length ≤ 9223372036854775807) :
    FnSpec PR f_slices_IndexFunc_LLint_Lint [aIss xs, .c (.d (.fn g [d0]))] (ai (idxL p xs 0)) [] 0 := by
  refine FnSpec.intro hT p_slices_IndexFunc_LLint_Lint rfl (by kernel_rfl) n_slices_IndexFunc_LLint_Lint rfl ?_
  conv => whnf
  refine tri_loop hT [0, 1, 7, 8] (α := Nat) (fun k => { t := [(0, aIss xs), (1, .c (.d (.fn g [d0]))), (7, ai xs.length), (8, ai k)], h := [], n := 0, N := 19 })
    (fun k => k ≤ xs.length ∧ idxL p (xs.drop k) k = idxL p xs 0) (fun k => xs.length - k) 0 (by ((conv => whnf); simp only [St.mk.injEq, List.cons.injEq, Prod.mk.injEq, AV.c.injEq, AV.agg.injEq, AV.tup.injEq, CV.d.injEq, D.int.injEq, D.bool.injEq, D.str.injEq, D.sl.injEq, Ent.arr.injEq, Ent.box.injEq, true_and, and_true, and_self, nInt_eq, Int.natCast_zero, dLen_eL, sLen_eq])) ⟨Nat.zero_le _, rfl⟩ ?_
  intro k ⟨hk, hi⟩
  (conv => whnf)
  refine ifB_i (fun h1 => ?_) (fun h1 => ?_) <;> (conv => whnf) <;> simp at h1
  · obtain ⟨s, hs⟩ := get_lt h1
    rw [drop_at hs, idxL] at hi
    refine idx_at (by simp) hs ?_
    (conv => whnf)
    refine .inl ⟨_, _, _, hp s (List.mem_of_getElem? hs), rfl, ?_⟩
    (conv => whnf)
    refine ifB_i (fun h2 => ?_) (fun h2 => ?_) <;> (conv => whnf)
    · rw [if_pos h2] at hi
      ((conv => whnf); simp only [St.mk.injEq, List.cons.injEq, Prod.mk.injEq, AV.c.injEq, AV.agg.injEq, AV.tup.injEq, CV.d.injEq, D.int.injEq, D.bool.injEq, D.str.injEq, D.sl.injEq, Ent.arr.injEq, Ent.box.injEq, true_and, and_true, and_self, nInt_eq, Int.natCast_zero, dLen_eL, sLen_eq, hi])
    · rw [if_neg (by simp [h2])] at hi
      refine ⟨k + 1, by omega, ⟨h1, hi⟩, ?_⟩
      ((conv => whnf); simp only [St.mk.injEq, List.cons.injEq, Prod.mk.injEq, AV.c.injEq, AV.agg.injEq, AV.tup.injEq, CV.d.injEq, D.int.injEq, D.bool.injEq, D.str.injEq, D.sl.injEq, Ent.arr.injEq, Ent.box.injEq, true_and, and_true, and_self, nInt_eq, Int.natCast_zero, dLen_eL, sLen_eq, wI h1 hl])
  · obtain rfl : k = xs.length := by omega
    simp only [List.drop_length, idxL] at hi
    ((conv => whnf); simp only [St.mk.injEq, List.cons.injEq, Prod.mk.injEq, AV.c.injEq, AV.agg.injEq, AV.tup.injEq, CV.d.injEq, D.int.injEq, D.bool.injEq, D.str.injEq, D.sl.injEq, Ent.arr.injEq, Ent.box.injEq, true_and, and_true, and_self, nInt_eq, Int.natCast_zero, dLen_eL, sLen_eq, ← hi])


theorem slices_ContainsFunc_LLint_Lint_1 (xs : List (List Int)) (g : FuncId) (d0 : D) (p : List Int → Bool) (hp : ∀ x ∈ xs, FnSpec PR g [aIs x, .c (.d d0)] (ab (p x)) [] 0) (hl : xs.length ≤ 9223372036854775807) :
    FnSpec PR f_slices_ContainsFunc_LLint_Lint [aIss xs, .c (.d (.fn g [d0]))] (ab (xs.any p)) [] 0 := by
  refine FnSpec.intro hT p_slices_ContainsFunc_LLint_Lint rfl (by kernel_rfl) n_slices_ContainsFunc_LLint_Lint rfl ?_
  conv => whnf
  refine .inl ⟨_, _, _, slices_IndexFunc_LLint_Lint_1 xs g d0 p hp hl, rfl, ?_⟩
  (conv => whnf)
  have h := idxL_any p xs 0
  cases hb : xs.any p
  · rw [hb] at h
    ((conv => whnf); simp only [St.mk.injEq, List.cons.injEq, Prod.mk.injEq, AV.c.injEq, AV.agg.injEq, AV.tup.injEq, CV.d.injEq, D.int.injEq, D.bool.injEq, D.str.injEq, D.sl.injEq, Ent.arr.injEq, Ent.box.injEq, true_and, and_true, and_self, nInt_eq, Int.natCast_zero, dLen_eL, sLen_eq, iLe])
    simpa using h
  · rw [hb] at h
    ((conv => whnf); simp only [St.mk.injEq, List.cons.injEq, Prod.mk.injEq, AV.c.injEq, AV.agg.injEq, AV.tup.injEq, CV.d.injEq, D.int.injEq, D.bool.injEq, D.str.injEq, D.sl.injEq, Ent.arr.injEq, Ent.box.injEq, true_and, and_true, and_self, nInt_eq, Int.natCast_zero, dLen_eL, sLen_eq, iLe])
    simpa using h


theorem slices_IndexFunc_LLint_Lint_2 (xs : List (List Int)) (g : FuncId) (d0 d1 : D) (p : List Int → Bool) (hp : ∀ x ∈ xs, FnSpec PR g [aIs x, .c (.d d0), .c (.d d1)] (ab (p x)) [] 0) (hl : xs.length ≤ 9223372036854775807) :
    FnSpec PR f_slices_IndexFunc_LLint_Lint [aIss xs, .c (.d (.fn g [d0, d1]))] (ai (idxL p xs 0)) [] 0 := by
  refine FnSpec.intro hT p_slices_IndexFunc_LLint_Lint rfl (by kernel_rfl) n_slices_IndexFunc_LLint_Lint rfl ?_
  conv => whnf
  refine tri_loop hT [0, 1, 7, 8] (α := Nat) (fun k => { t := [(0, aIss xs), (1, .c (.d (.fn g [d0, d1]))), (7, ai xs.length), (8, ai k)], h := [], n := 0, N := 19 })
    (fun k => k ≤ xs.length ∧ idxL p (xs.drop k) k = idxL p xs 0) (fun k => xs.length - k) 0 (by ((conv => whnf); simp only [St.mk.injEq, List.cons.injEq, Prod.mk.injEq, AV.c.injEq, AV.agg.injEq, AV.tup.injEq, CV.d.injEq, D.int.injEq, D.bool.injEq, D.str.injEq, D.sl.injEq, Ent.arr.injEq, Ent.box.injEq, true_and, and_true, and_self, nInt_eq, Int.natCast_zero, dLen_eL, sLen_eq])) ⟨Nat.zero_le _, rfl⟩ ?_
  intro k ⟨hk, hi⟩
  (conv => whnf)
  refine ifB_i (fun h1 => ?_) (fun h1 => ?_) <;> (conv => whnf) <;> simp at h1
  · obtain ⟨s, hs⟩ := get_lt h1
    rw [drop_at hs, idxL] at hi
    refine idx_at (by simp) hs ?_
    (conv => whnf)
    refine .inl ⟨_, _, _, hp s (List.mem_of_getElem? hs), rfl, ?_⟩
    (conv => whnf)
    refine ifB_i (fun h2 => ?_) (fun h2 => ?_) <;> (conv => whnf)
    · rw [if_pos h2] at hi
      ((conv => whnf); simp only [St.mk.injEq, List.cons.injEq, Prod.mk.injEq, AV.c.injEq, AV.agg.injEq, AV.tup.injEq, CV.d.injEq, D.int.injEq, D.bool.injEq, D.str.injEq, D.sl.injEq, Ent.arr.injEq, Ent.box.injEq, true_and, and_true, and_self, nInt_eq, Int.natCast_zero, dLen_eL, sLen_eq, hi])
    · rw [if_neg (by simp [h2])] at hi
      refine ⟨k + 1, by omega, ⟨h1, hi⟩, ?_⟩
      ((conv => whnf); simp only [St.mk.injEq, List.cons.injEq, Prod.mk.injEq, AV.c.injEq, AV.agg.injEq, AV.tup.injEq, CV.d.injEq, D.int.injEq, D.bool.injEq, D.str.injEq, D.sl.injEq, Ent.arr.injEq, Ent.box.injEq, true_and, and_true, and_self, nInt_eq, Int.natCast_zero, dLen_eL, sLen_eq, wI h1 hl])
  · obtain rfl : k = xs.length := by omega
    simp only [List.drop_length, idxL] at hi
    ((conv => whnf); simp only [St.mk.injEq, List.cons.injEq, Prod.mk.injEq, AV.c.injEq, AV.agg.injEq, AV.tup.injEq, CV.d.injEq, D.int.injEq, D.bool.injEq, D.str.injEq, D.sl.injEq, Ent.arr.injEq, Ent.box.injEq, true_and, and_true, and_self, nInt_eq, Int.natCast_zero, dLen_eL, sLen_eq, ← hi])


theorem slices_ContainsFunc_LLint_Lint_2 (xs : List (List Int)) (g : FuncId) (d0 d1 : D) (p : List Int → Bool) (hp : ∀ x ∈ xs, FnSpec PR g [aIs x, .c (.d d0), .c (.d d1)] (ab (p x)) [] 0) (hl : xs.length ≤ 9223372036854775807) :
    FnSpec PR f_slices_ContainsFunc_LLint_Lint [aIss xs, .c (.d (.fn g [d0, d1]))] (ab (xs.any p)) [] 0 := by
  refine FnSpec.intro hT p_slices_ContainsFunc_LLint_Lint rfl (by kernel_rfl) n_slices_ContainsFunc_LLint_Lint rfl ?_
  conv => whnf
  refine .inl ⟨_, _, _, slices_IndexFunc_LLint_Lint_2 xs g d0 d1 p hp hl, rfl, ?_⟩
  (conv => whnf)
  have h := idxL_any p xs 0
  cases hb : xs.any p
  · rw [hb] at h
    ((conv => whnf); simp only [St.mk.injEq, List.cons.injEq, Prod.mk.injEq, AV.c.injEq, AV.agg.injEq, AV.tup.injEq, CV.d.injEq, D.int.injEq, D.bool.injEq, D.str.injEq, D.sl.injEq, Ent.arr.injEq, Ent.box.injEq, true_and, and_true, and_self, nInt_eq, Int.natCast_zero, dLen_eL, sLen_eq, iLe])
    simpa using h
  · rw [hb] at h
    ((conv => whnf); simp only [St.mk.injEq, List.cons.injEq, Prod.mk.injEq, AV.c.injEq, AV.agg.injEq, AV.tup.injEq, CV.d.injEq, D.int.injEq, D.bool.injEq, D.str.injEq, D.sl.injEq, Ent.arr.injEq, Ent.box.injEq, true_and, and_true, and_self, nInt_eq, Int.natCast_zero, dLen_eL, sLen_eq, iLe])
    simpa using h


theorem slices_IndexFunc_Limpl_Node_impl_Node_0 (xs : List (Nd)) (g : FuncId) (p : Nd → Bool) (hp : ∀ x ∈ xs, FnSpec PR g [aN x] (ab (p x)) [] 0) (hl : xs.length ≤ 9223372036854775807) :
    FnSpec PR f_slices_IndexFunc_Limpl_Node_impl_Node [aNs xs, .c (.d (.fn g []))] (ai (idxL p xs 0)) [] 0 := by
  refine FnSpec.intro hT p_slices_IndexFunc_Limpl_Node_impl_Node rfl (by kernel_rfl) n_slices_IndexFunc_Limpl_Node_impl_Node rfl ?_
  conv => whnf
  refine tri_loop hT [0, 1, 7, 8] (α := Nat) (fun k => { t := [(0, aNs xs), (1, .c (.d (.fn g []))), (7, ai xs.length), (8, ai k)], h := [], n := 0, N := 19 })
    (fun k => k ≤ xs.length ∧ idxL p (xs.drop k) k = idxL p xs 0) (fun k => xs.length - k) 0 (by ((conv => whnf); simp only [St.mk.injEq, List.cons.injEq, Prod.mk.injEq, AV.c.injEq, AV.agg.injEq, AV.tup.injEq, CV.d.injEq, D.int.injEq, D.bool.injEq, D.str.injEq, D.sl.injEq, Ent.arr.injEq, Ent.box.injEq, true_and, and_true, and_self, nInt_eq, Int.natCast_zero, dLen_eL, sLen_eq])) ⟨Nat.zero_le _, rfl⟩ ?_
  intro k ⟨hk, hi⟩
  (conv => whnf)
  refine ifB_i (fun h1 => ?_) (fun h1 => ?_) <;> (conv => whnf) <;> simp at h1
  · obtain ⟨s, hs⟩ := get_lt h1
    rw [drop_at hs, idxL] at hi
    refine idx_at (by simp) hs ?_
    (conv => whnf)
    refine .inl ⟨_, _, _, hp s (List.mem_of_getElem? hs), rfl, ?_⟩
    (conv => whnf)
    refine ifB_i (fun h2 => ?_) (fun h2 => ?_) <;> (conv => whnf)
    · rw [if_pos h2] at hi
      ((conv => whnf); simp only [St.mk.injEq, List.cons.injEq, Prod.mk.injEq, AV.c.injEq, AV.agg.injEq, AV.tup.injEq, CV.d.injEq, D.int.injEq, D.bool.injEq, D.str.injEq, D.sl.injEq, Ent.arr.injEq, Ent.box.injEq, true_and, and_true, and_self, nInt_eq, Int.natCast_zero, dLen_eL, sLen_eq, hi])
    · rw [if_neg (by simp [h2])] at hi
      refine ⟨k + 1, by omega, ⟨h1, hi⟩, ?_⟩
      ((conv => whnf); simp only [St.mk.injEq, List.cons.injEq, Prod.mk.injEq, AV.c.injEq, AV.agg.injEq, AV.tup.injEq, CV.d.injEq, D.int.injEq, D.bool.injEq, D.str.injEq, D.sl.injEq, Ent.arr.injEq, Ent.box.injEq, true_and, and_true, and_self, nInt_eq, Int.natCast_zero, dLen_eL, sLen_eq, wI h1 hl])
  · obtain rfl : k = xs.length := by omega
    simp only [List.drop_length, idxL] at hi
    ((conv => whnf); simp only [St.mk.injEq, List.cons.injEq, Prod.mk.injEq, AV.c.injEq, AV.agg.injEq, AV.tup.injEq, CV.d.injEq, D.int.injEq, D.bool.injEq, D.str.injEq, D.sl.injEq, Ent.arr.injEq, Ent.box.injEq, true_and, and_true, and_self, nInt_eq, Int.natCast_zero, dLen_eL, sLen_eq, ← hi])


theorem slices_IndexFunc_Limpl_Node_impl_Node_1 (xs : List (Nd)) (g : FuncId) (d0 : D) (p : Nd → Bool) (hp : ∀ x ∈ xs, FnSpec PR g [aN x, .c (.d d0)] (ab (p x)) [] 0) (hl : xs.length ≤ 9223372036854775807) :
    FnSpec PR f_slices_IndexFunc_Limpl_Node_impl_Node [aNs xs, .c (.d (.fn g [d0]))] (ai (idxL p xs 0)) [] 0 := by
  refine FnSpec.intro hT p_slices_IndexFunc_Limpl_Node_impl_Node rfl (by kernel_rfl) n_slices_IndexFunc_Limpl_Node_impl_Node rfl ?_
  conv => whnf
  refine tri_loop hT [0, 1, 7, 8] (α := Nat) (fun k => { t := [(0, aNs xs), (1, .c (.d (.fn g [d0]))), (7, ai xs.length), (8, ai k)], h := [], n := 0, N := 19 })
    (fun k => k ≤ xs.length ∧ idxL p (xs.drop k) k = idxL p xs 0) (fun k => xs.length - k) 0 (by ((conv => whnf); simp only [St.mk.injEq, List.cons.injEq, Prod.mk.injEq, AV.c.injEq, AV.agg.injEq, AV.tup.injEq, CV.d.injEq, D.int.injEq, D.bool.injEq, D.str.injEq, D.sl.injEq, Ent.arr.injEq, Ent.box.injEq, true_and, and_true, and_self, nInt_eq, Int.natCast_zero, dLen_eL, sLen_eq])) ⟨Nat.zero_le _, rfl⟩ ?_
  intro k ⟨hk, hi⟩
  (conv => whnf)
  refine ifB_i (fun h1 => ?_) (fun h1 => ?_) <;> (conv => whnf) <;> simp at h1
  · obtain ⟨s, hs⟩ := get_lt h1
    rw [drop_at hs, idxL] at hi
    refine idx_at (by simp) hs ?_
    (conv => whnf)
    refine .inl ⟨_, _, _, hp s (List.mem_of_getElem? hs), rfl, ?_⟩
    (conv => whnf)
    refine ifB_i (fun h2 => ?_) (fun h2 => ?_) <;> (conv => whnf)
    · rw [if_pos h2] at hi
      ((conv => whnf); simp only [St.mk.injEq, List.cons.injEq, Prod.mk.injEq, AV.c.injEq, AV.agg.injEq, AV.tup.injEq, CV.d.injEq, D.int.injEq, D.bool.injEq, D.str.injEq, D.sl.injEq, Ent.arr.injEq, Ent.box.injEq, true_and, and_true, and_self, nInt_eq, Int.natCast_zero, dLen_eL, sLen_eq, hi])
    · rw [if_neg (by simp [h2])] at hi
      refine ⟨k + 1, by omega, ⟨h1, hi⟩, ?_⟩
      ((conv => whnf); simp only [St.mk.injEq, List.cons.injEq, Prod.mk.injEq, AV.c.injEq, AV.agg.injEq, AV.tup.injEq, CV.d.injEq, D.int.injEq, D.bool.injEq, D.str.injEq, D.sl.injEq, Ent.arr.injEq, Ent.box.injEq, true_and, and_true, and_self, nInt_eq, Int.natCast_zero, dLen_eL, sLen_eq, wI h1 hl])
  · obtain rfl : k = xs.length := by omega
    simp only [List.drop_length, idxL] at hi
    ((conv => whnf); simp only [St.mk.injEq, List.cons.injEq, Prod.mk.injEq, AV.c.injEq, AV.agg.injEq, AV.tup.injEq, CV.d.injEq, D.int.injEq, D.bool.injEq, D.str.injEq, D.sl.injEq, Ent.arr.injEq, Ent.box.injEq, true_and, and_true, and_self, nInt_eq, Int.natCast_zero, dLen_eL, sLen_eq, ← hi])


theorem slices_IndexFunc_Limpl_Node_impl_Node_2 (xs : List (Nd)) (g : FuncId) (d0 d1 : D) (p : Nd → Bool) (hp : ∀ x ∈ xs, FnSpec PR g [aN x, .c (.d d0), .c (.d d1)] (ab (p x)) [] 0) (hl : xs.length ≤ 9223372036854775807) :
    FnSpec PR f_slices_IndexFunc_Limpl_Node_impl_Node [aNs xs, .c (.d (.fn g [d0, d1]))] (ai (idxL p xs 0)) [] 0 := by
  refine FnSpec.intro hT p_slices_IndexFunc_Limpl_Node_impl_Node rfl (by kernel_rfl) n_slices_IndexFunc_Limpl_Node_impl_Node rfl ?_
  conv => whnf
  refine tri_loop hT [0, 1, 7, 8] (α := Nat) (fun k => { t := [(0, aNs xs), (1, .c (.d (.fn g [d0, d1]))), (7, ai xs.length), (8, ai k)], h := [], n := 0, N := 19 })
    (fun k => k ≤ xs.length ∧ idxL p (xs.drop k) k = idxL p xs 0) (fun k => xs.length - k) 0 (by ((conv => whnf); simp only [St.mk.injEq, List.cons.injEq, Prod.mk.injEq, AV.c.injEq, AV.agg.injEq, AV.tup.injEq, CV.d.injEq, D.int.injEq, D.bool.injEq, D.str.injEq, D.sl.injEq, Ent.arr.injEq, Ent.box.injEq, true_and, and_true, and_self, nInt_eq, Int.natCast_zero, dLen_eL, sLen_eq])) ⟨Nat.zero_le _, rfl⟩ ?_
  intro k ⟨hk, hi⟩
  (conv => whnf)
  refine ifB_i (fun h1 => ?_) (fun h1 => ?_) <;> (conv => whnf) <;> simp at h1
  · obtain ⟨s, hs⟩ := get_lt h1
    rw [drop_at hs, idxL] at hi
    refine idx_at (by simp) hs ?_
    (conv => whnf)
    refine .inl ⟨_, _, _, hp s (List.mem_of_getElem? hs), rfl, ?_⟩
    (conv => whnf)
    refine ifB_i (fun h2 => ?_) (fun h2 => ?_) <;> (conv => whnf)
    · rw [if_pos h2] at hi
      ((conv => whnf); simp only [St.mk.injEq, List.cons.injEq, Prod.mk.injEq, AV.c.injEq, AV.agg.injEq, AV.tup.injEq, CV.d.injEq, D.int.injEq, D.bool.injEq, D.str.injEq, D.sl.injEq, Ent.arr.injEq, Ent.box.injEq, true_and, and_true, and_self, nInt_eq, Int.natCast_zero, dLen_eL, sLen_eq, hi])
    · rw [if_neg (by simp [h2])] at hi
      refine ⟨k + 1, by omega, ⟨h1, hi⟩, ?_⟩
      ((conv => whnf); simp only [St.mk.injEq, List.cons.injEq, Prod.mk.injEq, AV.c.injEq, AV.agg.injEq, AV.tup.injEq, CV.d.injEq, D.int.injEq, D.bool.injEq, D.str.injEq, D.sl.injEq, Ent.arr.injEq, Ent.box.injEq, true_and, and_true, and_self, nInt_eq, Int.natCast_zero, dLen_eL, sLen_eq, wI h1 hl])
  · obtain rfl : k = xs.length := by omega
    simp only [List.drop_length, idxL] at hi
    ((conv => whnf); simp only [St.mk.injEq, List.cons.injEq, Prod.mk.injEq, AV.c.injEq, AV.agg.injEq, AV.tup.injEq, CV.d.injEq, D.int.injEq, D.bool.injEq, D.str.injEq, D.sl.injEq, Ent.arr.injEq, Ent.box.injEq, true_and, and_true, and_self, nInt_eq, Int.natCast_zero, dLen_eL, sLen_eq, ← hi])
end Go.H.S
namespace Go.H.S
open Go Go.Proofs Go.H
attribute [local irreducible] Tri FnSpec FnSpecM
set_option maxRecDepth 100000
set_option linter.unusedSimpArgs false
set_option linter.unusedVariables false

def brought (x lo hi : Int) : Int := if x < lo then lo else if hi < x then hi else x

theorem spec_Brought_spec (x lo hi : Int) : FnSpec PR f_spec_Brought [ai x, ai lo, ai hi] (ai (brought x lo hi)) [] 0 := by
  refine FnSpec.intro hT p_spec_Brought rfl (by kernel_rfl) n_spec_Brought rfl ?_
  conv => whnf
  refine ifB_i (fun h => ?_) (fun h => ?_) <;> (conv => whnf) <;> simp only [nInt_eq, Int.natCast_zero, dLen_eL, sLen_eq, nOf_eq, Int.toNat_natCast, nAdd_eq, nSub_eq, dLen_nil, dLen_cons, iLt_t, iLt_f, iLe_t, iLe_f, iEq_t, iEq_f, sEq_t, sEq_f, bNot_t, bNot_f, bAnd_t, bEq_t, bEq_f, Bool.not_eq_true, Bool.not_eq_false, Bool.true_eq_false, Bool.false_eq_true] at h
  · ((conv => whnf); simp only [St.mk.injEq, List.cons.injEq, Prod.mk.injEq, AV.c.injEq, AV.agg.injEq, AV.tup.injEq, CV.d.injEq, D.int.injEq, D.bool.injEq, D.str.injEq, D.sl.injEq, Ent.arr.injEq, Ent.box.injEq, true_and, and_true, and_self, nInt_eq, Int.natCast_zero, dLen_eL, sLen_eq])
    simp only [brought]
    rw [if_pos (by omega)]
  · refine ifB_i (fun h2 => ?_) (fun h2 => ?_) <;> (conv => whnf) <;> simp only [nInt_eq, Int.natCast_zero, dLen_eL, sLen_eq, nOf_eq, Int.toNat_natCast, nAdd_eq, nSub_eq, dLen_nil, dLen_cons, iLt_t, iLt_f, iLe_t, iLe_f, iEq_t, iEq_f, sEq_t, sEq_f, bNot_t, bNot_f, bAnd_t, bEq_t, bEq_f, Bool.not_eq_true, Bool.not_eq_false, Bool.true_eq_false, Bool.false_eq_true] at h2 <;> ((conv => whnf); simp only [St.mk.injEq, List.cons.injEq, Prod.mk.injEq, AV.c.injEq, AV.agg.injEq, AV.tup.injEq, CV.d.injEq, D.int.injEq, D.bool.injEq, D.str.injEq, D.sl.injEq, Ent.arr.injEq, Ent.box.injEq, true_and, and_true, and_self, nInt_eq, Int.natCast_zero, dLen_eL, sLen_eq]) <;> simp only [brought]
    · rw [if_neg (by omega), if_pos (by omega)]
    · rw [if_neg (by omega), if_neg (by omega)]

def depthK (t : List Nd) : Nat → Int
  | 0 => -1
  | k + 1 => max (depthK t k) (levelL t k)
theorem spec_DepthOf_spec (t : List Nd) (hl : t.length ≤ 1048576) : FnSpec PR f_spec_DepthOf [aT t] (ai (depthK t t.length)) [] 0 := by
  refine FnSpec.intro hT p_spec_DepthOf rfl (by kernel_rfl) n_spec_DepthOf rfl ?_
  conv => whnf
  refine tri_loop hT [1, 3, 4] (α := Nat) (fun x => { t := [(1, .c (.ptr 0 0)), (3, ai (depthK t x)), (4, ai x)], h := [(0, .box t_impl_Tree (cTr t))], n := 1, N := 18 })
    (fun x => x ≤ t.length) (fun x => t.length - x) 0 (by ((conv => whnf); simp only [St.mk.injEq, List.cons.injEq, Prod.mk.injEq, AV.c.injEq, AV.agg.injEq, AV.tup.injEq, CV.d.injEq, D.int.injEq, D.bool.injEq, D.str.injEq, D.sl.injEq, Ent.arr.injEq, Ent.box.injEq, true_and, and_true, and_self, nInt_eq, Int.natCast_zero, dLen_eL, sLen_eq, depthK])) (Nat.zero_le _) ?_
  intro k hk
  (conv => whnf)
  refine ifB_i (fun h1 => ?_) (fun h1 => ?_) <;> (conv => whnf) <;> simp at h1
  · refine .inl ⟨_, _, _, spec_LevelOf_spec t k (by omega), rfl, ?_⟩
    (conv => whnf)
    refine .inl ⟨_, _, _, spec_l1Max_spec _ _, rfl, ?_⟩
    (conv => whnf)
    refine ⟨k + 1, by omega, h1, ?_⟩
    ((conv => whnf); simp only [St.mk.injEq, List.cons.injEq, Prod.mk.injEq, AV.c.injEq, AV.agg.injEq, AV.tup.injEq, CV.d.injEq, D.int.injEq, D.bool.injEq, D.str.injEq, D.sl.injEq, Ent.arr.injEq, Ent.box.injEq, true_and, and_true, and_self, nInt_eq, Int.natCast_zero, dLen_eL, sLen_eq, wI h1 (by omega), depthK])
  · obtain rfl : k = t.length := by omega
    (conv => whnf)

theorem spec_l6Value_spec (x : Int) : FnSpec PR f_spec_l6Value [ai x] (ab (decide (-2147483647 ≤ x ∧ x ≤ 2147483647))) [] 0 := by
  refine FnSpec.intro hT p_spec_l6Value rfl (by kernel_rfl) n_spec_l6Value rfl ?_
  conv => whnf
  refine .inl ⟨_, _, _, spec_l1In_spec _ _ _, rfl, ?_⟩
  (conv => whnf)

theorem spec_l14Leaf_spec (x : Int) : FnSpec PR f_spec_l14Leaf [ai x] (ab (decide (-1099511627776 ≤ x ∧ x ≤ 1099511627776))) [] 0 := by
  refine FnSpec.intro hT p_spec_l14Leaf rfl (by kernel_rfl) n_spec_l14Leaf rfl ?_
  conv => whnf
  refine .inl ⟨_, _, _, spec_l1In_spec _ _ _, rfl, ?_⟩
  (conv => whnf)
end Go.H.S
namespace Go.H.S
open Go Go.Proofs Go.H
attribute [local irreducible] Tri FnSpec FnSpecM
set_option maxRecDepth 100000
set_option linter.unusedSimpArgs false
set_option linter.unusedVariables false


def leafBad (n : Nd) : Bool := decide (n ≠ ⟨-1, 0, 0, 0, n.v⟩) || !decide (-1099511627776 ≤ n.v ∧ n.v ≤ 1099511627776)
def innerBad (n : Nd) (ft i next : Int) : Bool := decide (¬ (0 ≤ n.f ∧ n.f ≤ ft - 1)) || decide (¬ (-2147483647 ≤ n.c ∧ n.c ≤ 2147483647)) || decide (n.v ≠ 0) || decide (n.l ≠ next) || decide (n.r ≠ next + 1) || decide (n.l ≤ i)
def shapeL (ft : Int) : List Nd → Int → Int → Option Int
  | [], i, next => some next
  | n :: r, i, next => if n.f = -1 then (if leafBad n then none else shapeL ft r (i + 1) next) else if innerBad n ft i next then none else shapeL ft r (i + 1) (next + 2)
def shapeOk (t : List Nd) (ft : Int) : Bool := decide (shapeL ft t 0 1 = some (t.length : Int))
theorem shape_bad {t : List Nd} {ft : Int} (h : none = shapeL ft t 0 1) : shapeOk t ft = false := by simp [shapeOk, ← h]
theorem spec_l17Shape_spec (t : List Nd) (ft : Int) (hft : 0 ≤ ft ∧ ft ≤ 4) (hl : t.length ≤ 1048576) : FnSpec PR f_spec_l17Shape [aT t, ai ft] (ab (shapeOk t ft)) [] 0 := by
  refine FnSpec.intro hT p_spec_l17Shape rfl (by kernel_rfl) n_spec_l17Shape rfl ?_
  conv => whnf
  refine tri_loop hT [1, 2, 5, 6] (α := Nat × Nat) (fun x => { t := [(1, ai ft), (2, .c (.ptr 0 0)), (5, ai x.2), (6, ai x.1)], h := [(0, .box t_impl_Tree (cTr t))], n := 1, N := 77 })
    (fun x => x.1 ≤ t.length ∧ x.2 ≤ 2 * x.1 + 1 ∧ shapeL ft (t.drop x.1) x.1 x.2 = shapeL ft t 0 1) (fun x => t.length - x.1) (0, 1) (by ((conv => whnf); simp only [St.mk.injEq, List.cons.injEq, Prod.mk.injEq, AV.c.injEq, AV.agg.injEq, AV.tup.injEq, CV.d.injEq, D.int.injEq, D.bool.injEq, D.str.injEq, D.sl.injEq, Ent.arr.injEq, Ent.box.injEq, true_and, and_true, and_self, nInt_eq, Int.natCast_zero, dLen_eL, sLen_eq]); rfl) ⟨Nat.zero_le _, by simp, by simp⟩ ?_
  intro ⟨k, nx⟩ ⟨hk, hx, hs⟩
  dsimp only at hk hx hs
  (conv => whnf)
  refine ifB_i (fun h1 => ?_) (fun h1 => ?_) <;> (conv => whnf) <;> simp at h1
  · obtain ⟨n, hn⟩ := get_lt h1
    rw [drop_at hn, shapeL] at hs
    refine idx_at (by simp) hn ?_
    (conv => whnf)
    refine .inl ⟨_, _, _, spec_l17Inner_spec n, rfl, ?_⟩
    (conv => whnf)
    refine ifB_i (fun h2 => ?_) (fun h2 => ?_) <;> (conv => whnf) <;> simp only [nInt_eq, Int.natCast_zero, dLen_eL, sLen_eq, nOf_eq, Int.toNat_natCast, nAdd_eq, nSub_eq, dLen_nil, dLen_cons, iLt_t, iLt_f, iLe_t, iLe_f, iEq_t, iEq_f, sEq_t, sEq_f, bNot_t, bNot_f, bAnd_t, bEq_t, bEq_f, Bool.not_eq_true, Bool.not_eq_false, Bool.true_eq_false, Bool.false_eq_true] at h2
    · have hf : n.f = -1 := by simpa [bNot, iEq] using h2
      rw [if_pos hf] at hs
      generalize hb : bNot (bAnd (iEq n.f (-1)) (bAnd (iEq n.c 0) (bAnd (iEq n.l 0) (bAnd (iEq n.r 0) (bAnd (iEq n.v n.v) true))))) = b
      cases b <;> (conv => whnf)
      · refine .inl ⟨_, _, _, spec_l14Leaf_spec n.v, rfl, ?_⟩
        (conv => whnf)
        generalize hb2 : decide (-1099511627776 ≤ n.v ∧ n.v ≤ 1099511627776) = b2
        cases b2 <;> (conv => whnf)
        · have hlb : leafBad n = true := by simp [leafBad, hb2]
          rw [if_pos hlb] at hs
          rw [shape_bad hs]
        · have hlb : leafBad n = false := by
            obtain ⟨f, c, l, r, v⟩ := n
            simp only [leafBad, hb2]
            simp_all [bNot, bAnd, iEq]
          rw [hlb] at hs
          refine ⟨(k + 1, nx), by dsimp only; omega, ⟨h1, by dsimp only; omega, by simpa using hs⟩, ?_⟩
          ((conv => whnf); simp only [St.mk.injEq, List.cons.injEq, Prod.mk.injEq, AV.c.injEq, AV.agg.injEq, AV.tup.injEq, CV.d.injEq, D.int.injEq, D.bool.injEq, D.str.injEq, D.sl.injEq, Ent.arr.injEq, Ent.box.injEq, true_and, and_true, and_self, nInt_eq, Int.natCast_zero, dLen_eL, sLen_eq, wI h1 (by omega)])
      · have hlb : leafBad n = true := by
          obtain ⟨f, c, l, r, v⟩ := n
          simp only [leafBad]
          simp_all [bNot, bAnd, iEq]
        rw [if_pos hlb] at hs
        rw [shape_bad hs]
    · have hf : ¬ n.f = -1 := by simpa [bNot, iEq] using h2
      rw [if_neg hf] at hs
      refine .inl ⟨_, _, _, spec_l1In_spec _ _ _, rfl, ?_⟩
      rw [show wSub .i64 ft 1 = ft - 1 from wSub64 (by omega) (by omega)]
      (conv => whnf)
      generalize hb1 : decide (0 ≤ n.f ∧ n.f ≤ ft - 1) = b1
      cases b1 <;> (conv => whnf)
      · have hib : innerBad n ft k nx = true := by
          have : ¬ (0 ≤ n.f ∧ n.f ≤ ft - 1) := by simpa using hb1
          simp [innerBad, this]
        rw [if_pos hib] at hs
        rw [shape_bad hs]
      · refine .inl ⟨_, _, _, spec_l6Value_spec _, rfl, ?_⟩
        (conv => whnf)
        generalize hb2 : decide (-2147483647 ≤ n.c ∧ n.c ≤ 2147483647) = b2
        cases b2 <;> (conv => whnf)
        · have hib : innerBad n ft k nx = true := by
            have : ¬ (-2147483647 ≤ n.c ∧ n.c ≤ 2147483647) := by simpa using hb2
            simp [innerBad, this]
          rw [if_pos hib] at hs
          rw [shape_bad hs]
        · generalize hb3 : iEq n.v 0 = b3
          cases b3 <;> (conv => whnf)
          · have hib : innerBad n ft k nx = true := by
              have : ¬ n.v = 0 := by simpa [iEq] using hb3
              simp [innerBad, this]
            rw [if_pos hib] at hs
            rw [shape_bad hs]
          generalize hb4 : iEq n.l (nx : Int) = b4
          cases b4 <;> (conv => whnf)
          · have hib : innerBad n ft k nx = true := by
              have : ¬ n.l = nx := by simpa [iEq] using hb4
              simp [innerBad, this]
            rw [if_pos hib] at hs
            rw [shape_bad hs]
          rw [show wAdd .i64 (nx : Int) 1 = nx + 1 from wAdd64 (by omega) (by omega)]
          generalize hb5 : iEq n.r ((nx : Int) + 1) = b5
          cases b5 <;> (conv => whnf)
          · have hib : innerBad n ft k nx = true := by
              have : ¬ n.r = nx + 1 := by simpa [iEq] using hb5
              simp [innerBad, this]
            rw [if_pos hib] at hs
            rw [shape_bad hs]
          generalize hb6 : iLe n.l ((k, nx).fst : Int) = b6
          dsimp only at hb6
          cases b6 <;> (conv => whnf)
          rotate_left
          · have hib : innerBad n ft k nx = true := by
              have : n.l ≤ k := by simpa [iLe] using hb6
              simp [innerBad, this]
            rw [if_pos hib] at hs
            rw [shape_bad hs]
          have hib : innerBad n ft k nx = false := by
            have q3 : n.v = 0 := by simpa [iEq] using hb3
            have q4 : n.l = nx := by simpa [iEq] using hb4
            have q5 : n.r = nx + 1 := by simpa [iEq] using hb5
            have q6 : ¬ n.l ≤ k := by simpa [iLe] using hb6
            have q1 : 0 ≤ n.f ∧ n.f ≤ ft - 1 := by simpa using hb1
            have q2 : -2147483647 ≤ n.c ∧ n.c ≤ 2147483647 := by simpa using hb2
            simp [innerBad, q1, q2, q3, q4, q5]
            omega
          rw [hib] at hs
          refine ⟨(k + 1, nx + 2), by dsimp only; omega, ⟨h1, by dsimp only; omega, by simpa using hs⟩, ?_⟩
          ((conv => whnf); simp only [St.mk.injEq, List.cons.injEq, Prod.mk.injEq, AV.c.injEq, AV.agg.injEq, AV.tup.injEq, CV.d.injEq, D.int.injEq, D.bool.injEq, D.str.injEq, D.sl.injEq, Ent.arr.injEq, Ent.box.injEq, true_and, and_true, and_self, nInt_eq, Int.natCast_zero, dLen_eL, sLen_eq, wI h1 (by omega), wAdd64 (show -9223372036854775808 ≤ (nx : Int) + 2 by omega) (by omega), Int.natCast_add, Int.cast_ofNat_Int])
  · obtain rfl : k = t.length := by omega
    simp only [List.drop_length, shapeL] at hs
    ((conv => whnf); simp only [St.mk.injEq, List.cons.injEq, Prod.mk.injEq, AV.c.injEq, AV.agg.injEq, AV.tup.injEq, CV.d.injEq, D.int.injEq, D.bool.injEq, D.str.injEq, D.sl.injEq, Ent.arr.injEq, Ent.box.injEq, true_and, and_true, and_self, nInt_eq, Int.natCast_zero, dLen_eL, sLen_eq])
    simp only [shapeOk, ← hs, iEq, Option.some.injEq]
end Go.H.S
namespace Go.H.S
open Go Go.Proofs Go.H
set_option linter.unusedSimpArgs false
set_option linter.unusedVariables false


theorem shape_leaf {ft : Int} : ∀ {l : List Nd} {i next m : Int}, shapeL ft l i next = some m → ∀ {j : Nat} {n : Nd}, l[j]? = some n → n.f = -1 → leafBad n = false
  | [], i, next, m, h, j, n, hj, hf => by simp at hj
  | x :: r, i, next, m, h, j, n, hj, hf => by
    simp only [shapeL] at h
    cases j with
    | zero =>
      simp at hj
      subst hj
      rw [if_pos hf] at h
      cases hb : leafBad x with
      | false => rfl
      | true => simp [hb] at h
    | succ j =>
      rw [List.getElem?_cons_succ] at hj
      split at h
      · split at h
        · cases h
        · exact shape_leaf h hj hf
      · split at h
        · cases h
        · exact shape_leaf h hj hf
theorem shape_inner {ft : Int} : ∀ {l : List Nd} {i next m : Int}, shapeL ft l i next = some m → ∀ {j : Nat} {n : Nd}, l[j]? = some n → n.f ≠ -1 → ∃ nx, next ≤ nx ∧ nx + 2 ≤ m ∧ innerBad n ft (i + j) nx = false
  | [], i, next, m, h, j, n, hj, hf => by simp at hj
  | x :: r, i, next, m, h, j, n, hj, hf => by
    have mono : ∀ {l : List Nd} {i a b : Int}, shapeL ft l i a = some b → a ≤ b := by
      intro l
      induction l with
      | nil => intro i a b h; simp [shapeL] at h; omega
      | cons y s ih =>
        intro i a b h
        simp only [shapeL] at h
        split at h
        · split at h
          · cases h
          · exact ih h
        · split at h
          · cases h
          · have := ih h; omega
    simp only [shapeL] at h
    cases j with
    | zero =>
      simp at hj
      subst hj
      rw [if_neg hf] at h
      cases hb : innerBad x ft i next with
      | false =>
        rw [hb] at h
        simp at h
        exact ⟨next, Int.le_refl _, mono h, by simpa using hb⟩
      | true => simp [hb] at h
    | succ j =>
      rw [List.getElem?_cons_succ] at hj
      split at h
      · split at h
        · cases h
        · obtain ⟨nx, h1, h2, h3⟩ := shape_inner h hj hf
          exact ⟨nx, h1, h2, by rw [show i + ((j + 1 : Nat) : Int) = i + 1 + j by omega]; exact h3⟩
      · split at h
        · cases h
        · obtain ⟨nx, h1, h2, h3⟩ := shape_inner h hj hf
          exact ⟨nx, by omega, h2, by rw [show i + ((j + 1 : Nat) : Int) = i + 1 + j by omega]; exact h3⟩
/-- An inner node of a right tree: its children lie behind it, within the tree. -/
theorem shape_kids {t : List Nd} {ft : Int} (h : shapeOk t ft = true) {j : Nat} {n : Nd} (hj : t[j]? = some n) (hf : n.f ≠ -1) :
    0 ≤ n.f ∧ n.f < ft ∧ n.v = 0 ∧ (j : Int) < n.l ∧ n.r = n.l + 1 ∧ n.r < t.length ∧ -2147483647 ≤ n.c ∧ n.c ≤ 2147483647 := by
  have hs : shapeL ft t 0 1 = some (t.length : Int) := by simpa [shapeOk] using h
  obtain ⟨nx, h1, h2, h3⟩ := shape_inner hs hj hf
  simp [innerBad] at h3
  omega
theorem shape_value {t : List Nd} {ft : Int} (h : shapeOk t ft = true) {j : Nat} {n : Nd} (hj : t[j]? = some n) (hf : n.f = -1) :
    -1099511627776 ≤ n.v ∧ n.v ≤ 1099511627776 := by
  have hs : shapeL ft t 0 1 = some (t.length : Int) := by simpa [shapeOk] using h
  have h3 := shape_leaf hs hj hf
  simp [leafBad] at h3
  omega
/-- Children come in order, each once. -/
theorem shape_order {ft : Int} : ∀ {l : List Nd} {i next m : Int}, shapeL ft l i next = some m → ∀ {j j' : Nat} {n n' : Nd}, l[j]? = some n → l[j']? = some n' → n.f ≠ -1 → n'.f ≠ -1 → j < j' → n.l + 2 ≤ n'.l
  | [], i, next, m, h, j, j', n, n', hj, hj', hf, hf', hlt => by simp at hj
  | x :: r, i, next, m, h, j, j', n, n', hj, hj', hf, hf', hlt => by
    obtain ⟨k, rfl⟩ : ∃ k, j' = k + 1 := ⟨j' - 1, by omega⟩
    rw [List.getElem?_cons_succ] at hj'
    simp only [shapeL] at h
    cases j with
    | zero =>
      simp at hj
      subst hj
      rw [if_neg hf] at h
      cases hb : innerBad x ft i next with
      | true => simp [hb] at h
      | false =>
        rw [hb] at h
        simp at h
        obtain ⟨nx, h1, h2, h3⟩ := shape_inner h hj' hf'
        simp [innerBad] at h3 hb
        omega
    | succ j =>
      rw [List.getElem?_cons_succ] at hj
      split at h
      · split at h
        · cases h
        · exact shape_order h hj hj' hf hf' (by omega)
      · split at h
        · cases h
        · exact shape_order h hj hj' hf hf' (by omega)
theorem shape_once {t : List Nd} {ft : Int} (h : shapeOk t ft = true) {j j' : Nat} {n n' : Nd} (hj : t[j]? = some n) (hj' : t[j']? = some n') (hf : n.f ≠ -1) (hf' : n'.f ≠ -1) {x : Int}
    (hx : n.l = x ∨ n.r = x) (hx' : n'.l = x ∨ n'.r = x) : j = j' := by
  have hs : shapeL ft t 0 1 = some (t.length : Int) := by simpa [shapeOk] using h
  have k1 := shape_kids h hj hf
  have k2 := shape_kids h hj' hf'
  rcases Nat.lt_trichotomy j j' with q | q | q
  · have := shape_order hs hj hj' hf hf' q
    omega
  · exact q
  · have := shape_order hs hj' hj hf' hf q
    omega
theorem idxL_at {α : Type} (p : α → Bool) : ∀ (l : List α) (k : Nat), 0 ≤ idxL p l k → ∃ (j : Nat) (x : α), idxL p l k = k + j ∧ l[j]? = some x ∧ p x = true
  | [], k, h => by simp [idxL] at h
  | x :: r, k, h => by
    simp only [idxL] at h ⊢
    split
    · exact ⟨0, x, by simp, rfl, by assumption⟩
    · rename_i hp
      rw [if_neg hp] at h
      obtain ⟨j, y, h1, h2, h3⟩ := idxL_at p r (k + 1) h
      exact ⟨j + 1, y, by rw [h1]; omega, by rw [List.getElem?_cons_succ]; exact h2, h3⟩
theorem idxL_ge {α : Type} (p : α → Bool) : ∀ (l : List α) (k : Nat) {j : Nat} {x : α}, l[j]? = some x → p x = true → 0 ≤ idxL p l k
  | [], k, j, x, h, hp => by simp at h
  | y :: r, k, j, x, h, hp => by
    simp only [idxL]
    split
    · omega
    · cases j with
      | zero => simp at h; subst h; contradiction
      | succ j => rw [List.getElem?_cons_succ] at h; exact idxL_ge p r (k + 1) h hp
/-- The parent, where there is one. -/
theorem up_at {t : List Nd} {ft : Int} (h : shapeOk t ft = true) {x : Int} (hx : 0 ≤ up t x) : ∃ (j : Nat) (n : Nd), up t x = j ∧ t[j]? = some n ∧ n.f ≠ -1 ∧ (n.l = x ∨ n.r = x) ∧ up t x < x := by
  obtain ⟨j, n, h1, h2, h3⟩ := idxL_at _ _ _ hx
  have h3' : n.f ≠ -1 ∧ (n.l = x ∨ n.r = x) := by simpa [pUp] using h3
  have hk := shape_kids h h2 h3'.1
  have hu : up t x = j := by unfold up; rw [h1]; simp
  exact ⟨j, n, hu, h2, h3'.1, h3'.2, by omega⟩
theorem up_kid {t : List Nd} {ft : Int} (h : shapeOk t ft = true) {j : Nat} {n : Nd} (hj : t[j]? = some n) (hf : n.f ≠ -1) {x : Int} (hx : n.l = x ∨ n.r = x) : up t x = j := by
  have h0 : 0 ≤ up t x := idxL_ge _ _ _ hj (by simp only [pUp, Bool.and_eq_true, Bool.or_eq_true, decide_eq_true_eq]; exact ⟨hf, hx⟩)
  obtain ⟨j', n', h1, h2, h3, h4, _⟩ := up_at h h0
  rw [h1, shape_once h h2 hj h3 hf h4 hx]
/-- z lies on the way from x to the root. -/
inductive Anc (t : List Nd) : Int → Int → Prop
  | refl (x : Int) : Anc t x x
  | up {z x : Int} : 0 ≤ up t x → Anc t z (up t x) → Anc t z x
theorem steps_anc {t : List Nd} {ft : Int} (h : shapeOk t ft = true) : ∀ (n : Nat) (x : Int), x < n → ∃ l, steps t (n + 1) x = some l ∧ ∀ z, z ∈ l ↔ Anc t z x := by
  intro n
  induction n with
  | zero =>
    intro x hx
    have hneg : up t x < 0 := by
      rcases Int.lt_or_le (up t x) 0 with q | q
      · exact q
      · obtain ⟨_, _, _, _, _, _, q2⟩ := up_at h q
        omega
    refine ⟨[x], by simp [steps, hneg], fun z => ?_⟩
    constructor
    · intro hz; simp at hz; subst hz; exact .refl _
    · intro hz
      cases hz with
      | refl => simp
      | up q _ => omega
  | succ n ih =>
    intro x hx
    rcases Int.lt_or_le (up t x) 0 with q | q
    · refine ⟨[x], by simp [steps, q], fun z => ?_⟩
      constructor
      · intro hz; simp at hz; subst hz; exact .refl _
      · intro hz
        cases hz with
        | refl => simp
        | up q' _ => omega
    · obtain ⟨_, _, _, _, _, _, q2⟩ := up_at h q
      obtain ⟨l, h1, h2⟩ := ih (up t x) (by omega)
      refine ⟨x :: l, ?_, fun z => ?_⟩
      · rw [steps, if_neg (by omega), h1]; rfl
      · rw [List.mem_cons, h2]
        constructor
        · rintro (rfl | hz)
          · exact .refl _
          · exact .up q hz
        · intro hz
          cases hz with
          | refl => exact .inl rfl
          | up _ hz => exact .inr hz
theorem Anc.trans {t : List Nd} {a b c : Int} (h1 : Anc t a b) (h2 : Anc t b c) : Anc t a c := by
  induction h2 with
  | refl => exact h1
  | up q _ ih => exact .up q ih
theorem anc_below {t : List Nd} {x y : Int} (h : Anc t x y) : x = y ∨ ∃ c, 0 ≤ up t c ∧ up t c = x ∧ Anc t c y := by
  induction h with
  | refl => exact .inl rfl
  | @up y q h ih =>
    rcases ih with e | ⟨c, h1, h2, h3⟩
    · exact .inr ⟨y, q, e.symm, .refl _⟩
    · exact .inr ⟨c, h1, h2, .up q h3⟩
theorem anc_kid {t : List Nd} {ft : Int} (h : shapeOk t ft = true) {j : Nat} {n : Nd} (hj : t[j]? = some n) (hf : n.f ≠ -1) {y : Int} (hy : y ≠ j) : Anc t j y ↔ Anc t n.l y ∨ Anc t n.r y := by
  constructor
  · intro ha
    rcases anc_below ha with e | ⟨c, h1, h2, h3⟩
    · exact absurd e.symm hy
    · obtain ⟨j', n', q1, q2, q3, q4, _⟩ := up_at h h1
      obtain rfl : j' = j := by omega
      rw [hj] at q2
      cases q2
      rcases q4 with rfl | rfl
      · exact .inl h3
      · exact .inr h3
  · have hl : Anc t j n.l := .up (by rw [up_kid h hj hf (.inl rfl)]; omega) (by rw [up_kid h hj hf (.inl rfl)]; exact .refl _)
    have hr : Anc t j n.r := .up (by rw [up_kid h hj hf (.inr rfl)]; omega) (by rw [up_kid h hj hf (.inr rfl)]; exact .refl _)
    rintro (ha | ha)
    · exact hl.trans ha
    · exact hr.trans ha
theorem way_anc {t : List Nd} {ft : Int} (h : shapeOk t ft = true) (hl : t.length ≤ 31) {x : Int} (hx : 0 ≤ x ∧ x < t.length) (z : Int) : z ∈ wayL t x ↔ Anc t z x := by
  obtain ⟨l, h1, h2⟩ := steps_anc h 31 x (by omega)
  unfold wayL
  rw [if_pos (by omega), h1]
  simp [h2]
end Go.H.S
namespace Go.H.S
open Go Go.Proofs Go.H
attribute [local irreducible] Tri FnSpec FnSpecM FnSpecX
set_option maxRecDepth 100000
set_option linter.unusedSimpArgs false
set_option linter.unusedVariables false


/-- On a way: node b lies above a, and asks the same of the feature as n again. -/
def badP (t : List Nd) (n : Nd) (b a : Int) : Bool :=
  match t[b.toNat]? with
  | some x => iEq x.f n.f && (iEq x.r a && iLe n.c x.c || iEq x.l a && iLe x.c n.c)
  | none => false
def chainBad (t : List Nd) (n : Nd) : List Int → Bool
  | a :: b :: r => badP t n b a || chainBad t n (b :: r)
  | _ => false
def nodeBad (t : List Nd) (k : Int) (n : Nd) : Bool :=
  match steps t 32 k with
  | some l => bAnd (bNot (iEq n.f (-1))) (chainBad t n l)
  | none => false
def waysBad (t : List Nd) : List Nd → Nat → Bool
  | [], _ => false
  | n :: r, k => nodeBad t k n || waysBad t r (k + 1)

set_option maxHeartbeats 1000000 in
theorem spec_l17Ways_spec (t : List Nd) (ft : Int) (h : shapeOk t ft = true) (hl : t.length ≤ 31) : FnSpec PR f_spec_l17Ways [aT t] (ab (!waysBad t t 0)) [] 0 := by
  refine FnSpec.intro hT p_spec_l17Ways rfl (by kernel_rfl) n_spec_l17Ways rfl ?_
  conv => whnf
  refine tri_loop hT [1, 3] (α := Nat) (fun x => { t := [(1, .c (.ptr 0 0)), (3, ai x)], h := [(0, .box t_impl_Tree (cTr t))], n := 1, N := 79 })
    (fun x => x ≤ t.length ∧ waysBad t (t.drop x) x = waysBad t t 0) (fun x => t.length - x) 0 (by ((conv => whnf); simp only [St.mk.injEq, List.cons.injEq, Prod.mk.injEq, AV.c.injEq, AV.agg.injEq, AV.tup.injEq, CV.d.injEq, D.int.injEq, D.bool.injEq, D.str.injEq, D.sl.injEq, Ent.arr.injEq, Ent.box.injEq, true_and, and_true, and_self, nInt_eq, Int.natCast_zero, dLen_eL, sLen_eq])) ⟨Nat.zero_le _, by simp⟩ ?_
  intro k ⟨hk, hw⟩
  (conv => whnf)
  refine ifB_i (fun h1 => ?_) (fun h1 => ?_) <;> (conv => whnf) <;> simp at h1
  · obtain ⟨n, hn⟩ := get_lt h1
    rw [drop_at hn, waysBad] at hw
    obtain ⟨l0, hl0, _⟩ := steps_anc h 31 k (by omega)
    have hnb : nodeBad t k n = bAnd (bNot (iEq n.f (-1))) (chainBad t n l0) := by unfold nodeBad; rw [hl0]
    rw [hnb] at hw
    refine idx_at (by simp) hn ?_
    (conv => whnf)
    refine .inl ⟨_, _, _, spec_l17Inner_spec n, rfl, ?_⟩
    (conv => whnf)
    generalize hb : iEq n.f (-1) = b at hw
    cases b <;> (conv => whnf)
    · refine .inl ⟨_, _, _, spec_l17Up_spec t k (by omega), rfl, ?_⟩
      (conv => whnf)
      refine tri_loop hT [1, 3, 4, 5] (α := Int × Nat × List Int) (fun x => { t := [(1, .c (.ptr 0 0)), (3, ai k), (4, ai x.1), (5, ai (up t x.1))], h := [(0, .box t_impl_Tree (cTr t))], n := 1, N := 79 })
        (fun x => 0 ≤ x.1 ∧ x.1 < t.length ∧ steps t (x.2.1 + 1) x.1 = some x.2.2 ∧ chainBad t n x.2.2 = chainBad t n l0) (fun x => x.2.1) (k, 31, l0) (by (conv => whnf)) ⟨by simp, by simpa using h1, hl0, rfl⟩ ?_
      intro ⟨fr, j, l⟩ ⟨g0, g1, g2, g3⟩
      dsimp only at g0 g1 g2 g3
      (conv => whnf)
      refine ifB_i (fun h2 => ?_) (fun h2 => ?_) <;> (conv => whnf) <;> simp only [nInt_eq, Int.natCast_zero, dLen_eL, sLen_eq, nOf_eq, Int.toNat_natCast, nAdd_eq, nSub_eq, dLen_nil, dLen_cons, iLt_t, iLt_f, iLe_t, iLe_f, iEq_t, iEq_f, sEq_t, sEq_f, bNot_t, bNot_f, bAnd_t, bEq_t, bEq_f, Bool.not_eq_true, Bool.not_eq_false, Bool.true_eq_false, Bool.false_eq_true] at h2
      · generalize hup : up t fr = at' at *
        obtain ⟨m, rfl⟩ : ∃ m : Nat, at' = m := ⟨at'.toNat, by omega⟩
        have hmlt := up_lt t fr
        rw [hup] at hmlt
        obtain ⟨x, hx⟩ := get_lt (show m < t.length by omega)
        rw [steps, hup, if_neg (by omega)] at g2
        simp only [Option.map_eq_some_iff] at g2
        obtain ⟨l', g2, rfl⟩ := g2
        cases j with
        | zero => simp [steps] at g2
        | succ j =>
        have hl2 : ∃ l2, l' = (m : Int) :: l2 := by
          rw [steps] at g2
          simp only [Option.map_eq_some_iff] at g2
          obtain ⟨l2, _, rfl⟩ := g2
          exact ⟨l2, rfl⟩
        obtain ⟨l2, rfl⟩ := hl2
        have hcb : chainBad t n (fr :: (m : Int) :: l2) = (badP t n m fr || chainBad t n ((m : Int) :: l2)) := rfl
        rw [hcb] at g3
        refine idx_at (by simp) hx ?_
        (conv => whnf)
        refine tri_conf hT hmix (by kernel_rfl) ?_
        (conv => whnf)
        refine idx_at (by simp) hn ?_
        (conv => whnf)
        have hin : ∀ v0, x.f = n.f ∧ (x.r = fr ∧ n.c ≤ x.c ∨ x.l = fr ∧ x.c ≤ n.c) ∧ v0 = true ∨ ¬ (x.f = n.f ∧ (x.r = fr ∧ n.c ≤ x.c ∨ x.l = fr ∧ x.c ≤ n.c)) ∧ v0 = false → badP t n m fr = v0 := by
          intro v0 hv
          have hb : badP t n m fr = (iEq x.f n.f && (iEq x.r fr && iLe n.c x.c || iEq x.l fr && iLe x.c n.c)) := by simp [badP, hx]
          rw [hb, Bool.eq_iff_iff]
          simp only [Bool.and_eq_true, Bool.or_eq_true, iEq, iLe, decide_eq_true_eq]
          rcases hv with ⟨h1, h2, rfl⟩ | ⟨h1, rfl⟩
          · simp [h1, h2]
          · simp only [Bool.false_eq_true, iff_false]; exact h1
        generalize e1 : iEq x.f n.f = c1
        generalize e2 : iEq x.r fr = c2
        generalize e3 : iEq x.l fr = c3
        generalize e4 : iLe n.c x.c = c4
        generalize e5 : iLe x.c n.c = c5
        cases c1
        · repeat' (first | (refine And.intro (fun q => ?_) (fun q => ?_) <;> cases q <;> (conv => whnf)) | (refine idx_at (by simp) hn ?_; (conv => whnf)) | fail)
          refine .inl ⟨_, _, _, spec_l17Up_spec t m (by omega), rfl, ?_⟩
          (conv => whnf)
          have hbp := hin false (.inr ⟨by simp_all [iEq, iLe], rfl⟩)
          rw [hbp] at g3
          refine ⟨(m, j, (m : Int) :: l2), by dsimp only; omega, ⟨by dsimp only; omega, by dsimp only; omega, g2, g3⟩, ?_⟩
          (conv => whnf)
        · repeat' (first | (refine And.intro (fun q => ?_) (fun q => ?_) <;> cases q <;> (conv => whnf)) | (refine idx_at (by simp) hn ?_; (conv => whnf)) | fail)
          rw [e2]
          cases c2
          · repeat' (first | (refine And.intro (fun q => ?_) (fun q => ?_) <;> cases q <;> (conv => whnf)) | (refine idx_at (by simp) hn ?_; (conv => whnf)) | fail)
            rw [e3]
            cases c3
            · repeat' (first | (refine And.intro (fun q => ?_) (fun q => ?_) <;> cases q <;> (conv => whnf)) | (refine idx_at (by simp) hn ?_; (conv => whnf)) | fail)
              refine .inl ⟨_, _, _, spec_l17Up_spec t m (by omega), rfl, ?_⟩
              (conv => whnf)
              have hbp := hin false (.inr ⟨by simp_all [iEq, iLe], rfl⟩)
              rw [hbp] at g3
              refine ⟨(m, j, (m : Int) :: l2), by dsimp only; omega, ⟨by dsimp only; omega, by dsimp only; omega, g2, g3⟩, ?_⟩
              (conv => whnf)
            · repeat' (first | (refine And.intro (fun q => ?_) (fun q => ?_) <;> cases q <;> (conv => whnf)) | (refine idx_at (by simp) hn ?_; (conv => whnf)) | fail)
              rw [e5]
              cases c5
              · repeat' (first | (refine And.intro (fun q => ?_) (fun q => ?_) <;> cases q <;> (conv => whnf)) | (refine idx_at (by simp) hn ?_; (conv => whnf)) | fail)
                refine .inl ⟨_, _, _, spec_l17Up_spec t m (by omega), rfl, ?_⟩
                (conv => whnf)
                have hbp := hin false (.inr ⟨by simp_all [iEq, iLe], rfl⟩)
                rw [hbp] at g3
                refine ⟨(m, j, (m : Int) :: l2), by dsimp only; omega, ⟨by dsimp only; omega, by dsimp only; omega, g2, g3⟩, ?_⟩
                (conv => whnf)
              · repeat' (first | (refine And.intro (fun q => ?_) (fun q => ?_) <;> cases q <;> (conv => whnf)) | (refine idx_at (by simp) hn ?_; (conv => whnf)) | fail)
                have hbp := hin true (.inl ⟨by simp_all [iEq, iLe], by simp_all [iEq, iLe], rfl⟩)
                rw [hbp] at g3
                rw [← g3] at hw
                (try (conv => whnf))
                rw [← hw]
                
                rfl
          · repeat' (first | (refine And.intro (fun q => ?_) (fun q => ?_) <;> cases q <;> (conv => whnf)) | (refine idx_at (by simp) hn ?_; (conv => whnf)) | fail)
            rw [e4]
            cases c4
            · repeat' (first | (refine And.intro (fun q => ?_) (fun q => ?_) <;> cases q <;> (conv => whnf)) | (refine idx_at (by simp) hn ?_; (conv => whnf)) | fail)
              rw [e3]
              cases c3
              · repeat' (first | (refine And.intro (fun q => ?_) (fun q => ?_) <;> cases q <;> (conv => whnf)) | (refine idx_at (by simp) hn ?_; (conv => whnf)) | fail)
                refine .inl ⟨_, _, _, spec_l17Up_spec t m (by omega), rfl, ?_⟩
                (conv => whnf)
                have hbp := hin false (.inr ⟨by simp_all [iEq, iLe], rfl⟩)
                rw [hbp] at g3
                refine ⟨(m, j, (m : Int) :: l2), by dsimp only; omega, ⟨by dsimp only; omega, by dsimp only; omega, g2, g3⟩, ?_⟩
                (conv => whnf)
              · repeat' (first | (refine And.intro (fun q => ?_) (fun q => ?_) <;> cases q <;> (conv => whnf)) | (refine idx_at (by simp) hn ?_; (conv => whnf)) | fail)
                rw [e5]
                cases c5
                · repeat' (first | (refine And.intro (fun q => ?_) (fun q => ?_) <;> cases q <;> (conv => whnf)) | (refine idx_at (by simp) hn ?_; (conv => whnf)) | fail)
                  refine .inl ⟨_, _, _, spec_l17Up_spec t m (by omega), rfl, ?_⟩
                  (conv => whnf)
                  have hbp := hin false (.inr ⟨by simp_all [iEq, iLe], rfl⟩)
                  rw [hbp] at g3
                  refine ⟨(m, j, (m : Int) :: l2), by dsimp only; omega, ⟨by dsimp only; omega, by dsimp only; omega, g2, g3⟩, ?_⟩
                  (conv => whnf)
                · repeat' (first | (refine And.intro (fun q => ?_) (fun q => ?_) <;> cases q <;> (conv => whnf)) | (refine idx_at (by simp) hn ?_; (conv => whnf)) | fail)
                  have hbp := hin true (.inl ⟨by simp_all [iEq, iLe], by simp_all [iEq, iLe], rfl⟩)
                  rw [hbp] at g3
                  rw [← g3] at hw
                  (try (conv => whnf))
                  rw [← hw]
                  
                  rfl
            · repeat' (first | (refine And.intro (fun q => ?_) (fun q => ?_) <;> cases q <;> (conv => whnf)) | (refine idx_at (by simp) hn ?_; (conv => whnf)) | fail)
              have hbp := hin true (.inl ⟨by simp_all [iEq, iLe], by simp_all [iEq, iLe], rfl⟩)
              rw [hbp] at g3
              rw [← g3] at hw
              (try (conv => whnf))
              rw [← hw]
              
              rfl
      · have hl : l = [fr] := by
          rw [steps, if_pos h2] at g2
          simpa using g2.symm
        rw [hl] at g3
        rw [← g3] at hw
        refine ⟨k + 1, by omega, ⟨h1, hw⟩, ?_⟩
        ((conv => whnf); simp only [St.mk.injEq, List.cons.injEq, Prod.mk.injEq, AV.c.injEq, AV.agg.injEq, AV.tup.injEq, CV.d.injEq, D.int.injEq, D.bool.injEq, D.str.injEq, D.sl.injEq, Ent.arr.injEq, Ent.box.injEq, true_and, and_true, and_self, nInt_eq, Int.natCast_zero, dLen_eL, sLen_eq, wI h1 (by omega)])
    · refine ⟨k + 1, by omega, ⟨h1, hw⟩, ?_⟩
      ((conv => whnf); simp only [St.mk.injEq, List.cons.injEq, Prod.mk.injEq, AV.c.injEq, AV.agg.injEq, AV.tup.injEq, CV.d.injEq, D.int.injEq, D.bool.injEq, D.str.injEq, D.sl.injEq, Ent.arr.injEq, Ent.box.injEq, true_and, and_true, and_self, nInt_eq, Int.natCast_zero, dLen_eL, sLen_eq, wI h1 (by omega)])
  · obtain rfl : k = t.length := by omega
    simp only [List.drop_length, waysBad] at hw
    (conv => whnf)
    rw [← hw]
    rfl


def treeOk (t : List Nd) (ft : Int) : Bool :=
  decide (1 ≤ (t.length : Int) ∧ (t.length : Int) ≤ 31) && (decide (0 ≤ ft ∧ ft ≤ 4) && (shapeOk t ft && (decide (depthK t t.length ≤ 4) && !waysBad t t 0)))

theorem spec_TreeOk_spec (t : List Nd) (ft : Int) (hl : t.length ≤ 1048576) : FnSpec PR f_spec_TreeOk [aT t, ai ft] (ab (treeOk t ft)) [] 0 := by
  refine FnSpec.intro hT p_spec_TreeOk rfl (by kernel_rfl) n_spec_TreeOk rfl ?_
  conv => whnf
  refine .inl ⟨_, _, _, spec_l1In_spec _ _ _, rfl, ?_⟩
  (conv => whnf)
  refine ifB_i (fun h1 => ?_) (fun h1 => ?_) <;> (conv => whnf) <;> simp only [nInt_eq, Int.natCast_zero, dLen_eL, sLen_eq, nOf_eq, Int.toNat_natCast, nAdd_eq, nSub_eq, dLen_nil, dLen_cons, iLt_t, iLt_f, iLe_t, iLe_f, iEq_t, iEq_f, sEq_t, sEq_f, bNot_t, bNot_f, bAnd_t, bEq_t, bEq_f, Bool.not_eq_true, Bool.not_eq_false, Bool.true_eq_false, Bool.false_eq_true] at h1
  rotate_left
  · simp [treeOk, h1]
  refine .inl ⟨_, _, _, spec_l1In_spec _ _ _, rfl, ?_⟩
  (conv => whnf)
  refine ifB_i (fun h2 => ?_) (fun h2 => ?_) <;> (conv => whnf)
  rotate_left
  · simp [treeOk, h2]
  have h1' := of_decide_eq_true h1
  have h2' := of_decide_eq_true h2
  refine .inl ⟨_, _, _, spec_l17Shape_spec t ft h2' (by omega), rfl, ?_⟩
  (conv => whnf)
  refine ifB_i (fun h3 => ?_) (fun h3 => ?_) <;> (conv => whnf)
  rotate_left
  · simp [treeOk, h3]
  refine .inl ⟨_, _, _, spec_DepthOf_spec t (by omega), rfl, ?_⟩
  (conv => whnf)
  refine ifB_i (fun h4 => ?_) (fun h4 => ?_) <;> (conv => whnf) <;> simp only [nInt_eq, Int.natCast_zero, dLen_eL, sLen_eq, nOf_eq, Int.toNat_natCast, nAdd_eq, nSub_eq, dLen_nil, dLen_cons, iLt_t, iLt_f, iLe_t, iLe_f, iEq_t, iEq_f, sEq_t, sEq_f, bNot_t, bNot_f, bAnd_t, bEq_t, bEq_f, Bool.not_eq_true, Bool.not_eq_false, Bool.true_eq_false, Bool.false_eq_true] at h4
  rotate_left
  · have : ¬ depthK t t.length ≤ 4 := by omega
    simp [treeOk, this]
  refine .inl ⟨_, _, _, spec_l17Ways_spec t ft h3 (by omega), rfl, ?_⟩
  (conv => whnf)
  simp [treeOk, h1, h2, h3, h4]
end Go.H.S
