/- Library, part SP: helpers of the law FnExactStageLoss: rows of wide numbers, tables, marks. -/
import Derived.Test.YtdolkacinfjhcaaGreatLSU
import Derived.Test.YtdolkacinfjhcaaGreatLNC
set_option maxRecDepth 100000
set_option linter.unusedSimpArgs false
set_option linter.unusedVariables false
namespace Go.H.S
open Go Go.Proofs Go.H
attribute [local irreducible] Tri FnSpec FnSpecM FnSpecX FnSpecJ FnSpecB
abbrev cW3 (x : Bool × Int × Int) : List D := [.bool x.1, .int .u64 x.2.1, .int .u64 x.2.2]
def w3 (n : Int) : Bool × Int × Int := (false, hiU n, loU n)
theorem eL_w3 (l : List Int) : eL cVd l = eL cW3 (l.map w3) := by simp [eL, w3, Function.comp_def]
theorem flat_cW3 (xs : List (Bool × Int × Int)) : FlatR (eL cW3 xs) := fun c hc d hd => by
 rw [eL] at hc
 obtain ⟨x, _, rfl⟩ := List.mem_map.1 hc
 simp at hd
 rcases hd with rfl | rfl | rfl <;> rfl
theorem cW3_set0 (ns : List (Bool × Int × Int)) (i : Nat) (x : Bool × Int × Int) (v : Bool) : dSet (eL cW3 ns) i (dOver (cW3 x) 0 [.bool v]) = eL cW3 (ns.set i (v, x.2.1, x.2.2)) := by
 rw [← eL_set]; congr 1; simp [dOver, over]
theorem cW3_set1 (ns : List (Bool × Int × Int)) (i : Nat) (x : Bool × Int × Int) (v : Int) : dSet (eL cW3 ns) i (dOver (cW3 x) 1 [.int .u64 v]) = eL cW3 (ns.set i (x.1, v, x.2.2)) := by
 rw [← eL_set]; congr 1; simp [dOver, over]
theorem cW3_set2 (ns : List (Bool × Int × Int)) (i : Nat) (x : Bool × Int × Int) (v : Int) : dSet (eL cW3 ns) i (dOver (cW3 x) 2 [.int .u64 v]) = eL cW3 (ns.set i (x.1, x.2.1, v)) := by
 rw [← eL_set]; congr 1; simp [dOver, over]
def mk3 (k : Int) : Bool × Int × Int := (iEq (wRem k 3) 0, wConv .u64 (k + 1), wConv .u64 (k + 2))
def marksW (k : Int) : Nat → List (Bool × Int × Int)
 | 0 => []
 | n + 1 => mk3 k :: marksW (k + 3) n
theorem marksW_len : ∀ (n : Nat) (k : Int), (marksW k n).length = n
 | 0, _ => rfl
 | n + 1, k => by simp [marksW, marksW_len n]
theorem marksW_get : ∀ (n : Nat) (k : Int) (j : Nat), j < n → (marksW k n)[j]? = some (mk3 (k + 3 * j))
 | 0, _, _, h => by omega
 | n + 1, k, 0, _ => by simp [marksW]
 | n + 1, k, j + 1, h => by
  simp only [marksW, List.getElem?_cons_succ]
  rw [marksW_get n (k + 3) j (by omega)]
  congr 2
  omega
theorem eqWide_spec (x : Bool × Int × Int) : FnSpec PR f_laws_eqWide [.agg [.d (.bool x.1), .d (.int .u64 x.2.1), .d (.int .u64 x.2.2)], .agg [.d (.bool x.1), .d (.int .u64 x.2.1), .d (.int .u64 x.2.2)]] (ab true) [] 0 := by
 refine FnSpec.intro hT (pf Tryz.func137) rfl (by kernel_rfl) Tryz.ntmps137 rfl ?_
 conv => whnf
 rw [show bEq x.1 x.1 = true by cases x.1 <;> rfl]
 conv => whnf
 rw [show iEq x.2.1 x.2.1 = true from decide_eq_true rfl]
 conv => whnf
 rw [show iEq x.2.2 x.2.2 = true from decide_eq_true rfl]
 conv => whnf
theorem eqWideS_spec (xs : List (Bool × Int × Int)) (hx : xs.length ≤ 9223372036854775807) : FnSpec PR f_laws_eqWideS [.c (.d (.sl 3 (eL cW3 xs))), .c (.d (.sl 3 (eL cW3 xs)))] (ab true) [] 0 := by
 refine FnSpec.intro hT (pf Tryz.func49) rfl (by kernel_rfl) Tryz.ntmps49 rfl ?_
 conv => whnf
 rw [show iEq (nInt (dLen (eL cW3 xs))) (nInt (dLen (eL cW3 xs))) = true from decide_eq_true rfl]
 conv => whnf
 refine tri_loop hT [0, 1, 5] (α := Nat) (fun k => { t := [(0, .c (.d (.sl 3 (eL cW3 xs)))), (1, .c (.d (.sl 3 (eL cW3 xs)))), (5, ai k)], h := [], n := 0, N := 27 })
  (fun k => k ≤ xs.length) (fun k => xs.length - k) 0 (by (conv => whnf); first | done | rfl) (Nat.zero_le _) ?_
 intro k hk
 conv => whnf
 refine ifB_i (fun q => ?_) (fun q => ?_) <;> (conv => whnf) <;> simp only [eH] at q
 ·obtain ⟨x, hx2⟩ := get_lt (show k < xs.length by omega)
  refine tri_every hT hmix [0, 1, 5, 26] { t := [(0, .c (.d (.sl 3 (eL cW3 xs)))), (1, .c (.d (.sl 3 (eL cW3 xs)))), (5, ai k), (26, ab false)], h := [], n := 0, N := 27 } rfl ?_ ?_
  ·repeat' first
    | (refine anyV_one rfl ?_; (conv => whnf))
    | (refine anyV_two rfl ?_ ?_ <;> (conv => whnf))
    | (refine anyV_three rfl ?_ ?_ ?_ <;> (conv => whnf))
    | (refine idx_at (k := k) rfl hx2 ?_; (conv => whnf))
    | (refine .inl ⟨_, _, _, eqWide_spec x, rfl, ?_⟩; (conv => whnf))
    | (refine anyV_end rfl ?_; (conv => whnf); first | done | rfl)
  conv => whnf
  refine ⟨k + 1, by omega, by omega, ?_⟩
  ((conv => whnf); simp only [eS, wI (show k < xs.length by omega) (by omega)])
  first | done | rfl
set_option maxHeartbeats 4000000 in
theorem markWideS_spec (ns : List (Bool × Int × Int)) (k : Int) (hk : 0 ≤ k ∧ k ≤ 1000000000000) (hx : ns.length ≤ 1000000000) : FnSpecM PR f_laws_markWideS [.c (.ref 0 0 none), ai k] t_impl_Wide 3 (eL cW3 ns) (ai (k + 3 * ns.length)) (eL cW3 (marksW k ns.length)) := by
 refine FnSpecM.intro hT 0 (pf Tryz.func53) rfl (by kernel_rfl) Tryz.ntmps53 rfl rfl (by simp [eL_length, marksW_len]) rfl (flat_cW3 _) ?_
 intro v0
 conv => whnf
 refine tri_loop hT [0, 1, 5] (α := Nat × List (Bool × Int × Int)) (fun x => { t := [(0, .w (.ref 0 0 none) v0), (1, ai (k + 3 * x.1)), (5, ai x.1)], h := [(0, .arr t_impl_Wide 3 0 .own (eL cW3 x.2))], n := 1, N := 38 })
  (fun x => x.1 ≤ ns.length ∧ x.2.length = ns.length ∧ ∀ j : Nat, j < x.1 → x.2[j]? = some (mk3 (k + 3 * j))) (fun x => ns.length - x.1) (0, ns) (by ((conv => whnf); simp only [eS]); simp) ⟨Nat.zero_le _, rfl, fun j hj => by omega⟩ ?_
 intro ⟨i, ys⟩ ⟨hi, hl, hj⟩
 dsimp only at hi hl hj
 conv => whnf
 refine ifB_i (fun h1 => ?_) (fun h1 => ?_) <;> (conv => whnf) <;> simp at h1
 ·obtain ⟨y, hy⟩ := get_lt h1
  rw [hl] at h1
  have e1 : wAdd .i64 (k + 3 * (i : Int)) 1 = k + 3 * i + 1 := by rw [wAdd64] <;> omega
  have e2 : wAdd .i64 (k + 3 * (i : Int) + 1) 1 = k + 3 * i + 2 := by rw [wAdd64] <;> omega
  have e3 : wAdd .i64 (k + 3 * (i : Int) + 2) 1 = k + 3 * i + 3 := by rw [wAdd64] <;> omega
  have ei : nAdd (offR none) (nOf ((i : Nat) : Int)) = i := by simp
  dsimp only
  obtain ⟨K, hK⟩ : ∃ K : Int, K = k + 3 * i := ⟨_, rfl⟩
  rw [← hK] at e1 e2 e3 ⊢
  refine And.intro (by simp [NZ]) ?_
  conv => whnf
  refine ref_at (k := i) (by simp) (by simp; omega) ?_
  conv => whnf
  refine st_at (k := i) (by simp) hy (by simp) ?_
  dsimp only
  rw [ei, cW3_set0]
  generalize hb0 : iEq (wRem K 3) 0 = b0
  have q0 : (ys.set i (b0, y.2.1, y.2.2))[i]? = some (b0, y.2.1, y.2.2) := by rw [List.getElem?_set]; simp [hl, h1]
  have l0 : (ys.set i (b0, y.2.1, y.2.2)).length = ns.length := by simp [hl]
  have r0 : ∀ j, j ≠ i → (ys.set i (b0, y.2.1, y.2.2))[j]? = ys[j]? := fun j hj => by rw [List.getElem?_set, if_neg (fun h => hj h.symm)]
  generalize z0e : ys.set i (b0, y.2.1, y.2.2) = z0 at *
  conv => whnf
  rw [e1]
  refine ref_at (k := i) (by simp) (by simp; omega) ?_
  conv => whnf
  refine st_at (k := i) (by simp) q0 (by simp) ?_
  dsimp only
  rw [ei, cW3_set1]
  generalize hc1 : wConv .u64 (K + 1) = c1
  have q1 : (z0.set i (b0, c1, y.2.2))[i]? = some (b0, c1, y.2.2) := by rw [List.getElem?_set]; simp [l0, h1]
  have l1 : (z0.set i (b0, c1, y.2.2)).length = ns.length := by simp [l0]
  have r1 : ∀ j, j ≠ i → (z0.set i (b0, c1, y.2.2))[j]? = z0[j]? := fun j hj => by rw [List.getElem?_set, if_neg (fun h => hj h.symm)]
  generalize z1e : z0.set i (b0, c1, y.2.2) = z1 at *
  conv => whnf
  rw [e2]
  refine ref_at (k := i) (by simp) (by simp; omega) ?_
  conv => whnf
  refine st_at (k := i) (by simp) q1 (by simp) ?_
  dsimp only
  rw [ei, cW3_set2]
  generalize hc2 : wConv .u64 (K + 2) = c2
  have q2 : (z1.set i (b0, c1, c2))[i]? = some (b0, c1, c2) := by rw [List.getElem?_set]; simp [l1, h1]
  have l2 : (z1.set i (b0, c1, c2)).length = ns.length := by simp [l1]
  have r2 : ∀ j, j ≠ i → (z1.set i (b0, c1, c2))[j]? = z1[j]? := fun j hj => by rw [List.getElem?_set, if_neg (fun h => hj h.symm)]
  generalize z2e : z1.set i (b0, c1, c2) = z2 at *
  conv => whnf
  rw [e3]
  refine ⟨(i + 1, z2), by dsimp only; omega, ⟨by dsimp only; omega, l2, fun j hlt => ?_⟩, ?_⟩
  ·dsimp only at hlt ⊢
   rcases Nat.lt_or_ge j i with q | q
   ·rw [r2 j (by omega), r1 j (by omega), r0 j (by omega), hj j q]
   ·obtain rfl : j = i := by omega
    rw [q2, ← hK]
    unfold mk3
    rw [hb0, hc1, hc2]
  ·((conv => whnf); simp only [eS, wI h1 (by omega)])
   omega
 ·obtain rfl : i = ns.length := by omega
  have : ys = marksW k ns.length := by
   apply List.ext_getElem?
   intro j
   rcases Nat.lt_or_ge j ns.length with q | q
   ·rw [hj j q, marksW_get _ _ _ q]
   ·rw [List.getElem?_eq_none (by omega), List.getElem?_eq_none (by rw [marksW_len]; omega)]
  subst this
  conv => whnf
set_option maxHeartbeats 4000000 in
theorem heldWideS_spec (k : Int) (n : Nat) (hk : 0 ≤ k ∧ k ≤ 1000000000000) (hx : n ≤ 1000000000) : FnSpec PR f_laws_heldWideS [.c (.d (.sl 3 (eL cW3 (marksW k n)))), ai k] (ai (k + 3 * n)) [] 0 := by
 have hml := marksW_len n k
 refine FnSpec.intro hT (pf Tryz.func54) rfl (by kernel_rfl) Tryz.ntmps54 rfl ?_
 conv => whnf
 refine tri_loop hT [0, 1, 5] (α := Nat) (fun x => { t := [(0, .c (.d (.sl 3 (eL cW3 (marksW k n))))), (1, ai (k + 3 * x)), (5, ai x)], h := [], n := 0, N := 44 })
  (fun x => x ≤ n) (fun x => n - x) 0 (by (conv => whnf); first | done | rfl | (simp; done) | ((conv => whnf); simp only [eS])) (Nat.zero_le _) ?_
 intro i hi
 conv => whnf
 refine ifB_i (fun h1 => ?_) (fun h1 => ?_) <;> (conv => whnf) <;> simp [hml] at h1
 ·have hy := marksW_get n k i h1
  have e1 : wAdd .i64 (k + 3 * (i : Int)) 1 = k + 3 * i + 1 := by rw [wAdd64] <;> omega
  have e2 : wAdd .i64 (k + 3 * (i : Int) + 1) 1 = k + 3 * i + 2 := by rw [wAdd64] <;> omega
  have e3 : wAdd .i64 (k + 3 * (i : Int) + 2) 1 = k + 3 * i + 3 := by rw [wAdd64] <;> omega
  unfold mk3 at hy
  obtain ⟨K, hK⟩ : ∃ K : Int, K = k + 3 * i := ⟨_, rfl⟩
  rw [← hK] at e1 e2 e3 hy ⊢
  refine idx_at (by simp) hy ?_
  conv => whnf
  refine And.intro (by simp [NZ]) ?_
  conv => whnf
  generalize hb0 : iEq (wRem K 3) 0 = b0 at *
  rw [show bEq b0 b0 = true by cases b0 <;> rfl]
  conv => whnf
  refine idx_at (by simp) hy ?_
  conv => whnf
  rw [e1]
  generalize hc1 : wConv .u64 (K + 1) = c1 at *
  rw [show iEq c1 c1 = true from decide_eq_true rfl]
  conv => whnf
  refine idx_at (by simp) hy ?_
  conv => whnf
  rw [e2]
  generalize hc2 : wConv .u64 (K + 2) = c2 at *
  rw [show iEq c2 c2 = true from decide_eq_true rfl]
  conv => whnf
  rw [e3]
  refine ⟨i + 1, by omega, by omega, ?_⟩
  ((conv => whnf); simp only [eS, wI h1 (by omega)])
  omega
 ·obtain rfl : i = n := by omega
  conv => whnf
theorem toTable_nest (x : Tbl) (ho : smTable x) : FnSpec PR f_laws_toTable [aTb x] (.agg [.ref 0 0 none, .d (.str x.target), .ref 1 0 none, .ref 2 0 none]) [(0, .arr t_string 1 0 .own (eL cS x.names)), (1, .arr t_Lint 1 0 (.nest [t_int]) (eL cIs x.rows)), (2, .arr t_int 1 0 .own (eL cI x.ys))] 3 := by
 obtain ⟨o0, o1, o2⟩ := ho
 refine FnSpec.intro hTn (pf Tryz.func47) rfl (by kernel_rfl) Tryz.ntmps47 rfl ?_
 conv => whnf
 refine .inl ⟨_, _, _, toStringS_spec x.names o0, rfl, ?_⟩
 conv => whnf
 refine .inl ⟨_, _, _, toIntSS_nest x.rows o1.1 o1.2, rfl, ?_⟩
 conv => whnf
 refine .inl ⟨_, _, _, toIntS_spec x.ys o2, rfl, ?_⟩
 conv => whnf
theorem markTable_lost (x : Tbl) (hn : x.names.length ≤ 1048576) (hr : x.rows.length ≤ 1048576) (hy : x.ys.length ≤ 1048576) (hc : costL List.length x.rows ≤ 1048576) :
  FnSpecJ PR f_laws_markTable [.agg [.ref 0 0 none, .d (.str x.target), .ref 1 0 none, .ref 2 0 none], ai 1] [(0, .arr t_string 1 0 .own (eL cS x.names)), (1, .arr t_Lint 1 0 (.nest [t_int]) (eL cIs x.rows)), (2, .arr t_int 1 0 .own (eL cI x.ys))] 3 (ai (1 + x.names.length + costL List.length x.rows + x.ys.length)) := by
 refine FnSpecJ.intro hTn (pf Tryz.func51) rfl (by kernel_rfl) Tryz.ntmps51 rfl rfl rfl ?_
 conv => whnf
 refine .inr (.inr (.inl ⟨0, ?_⟩))
 conv => whnf
 refine .inl ⟨_, _, markStringS_spec x.names 1 (by omega) (by omega), ?_⟩
 conv => whnf
 refine .inr (.inr (.inr (.inl ⟨[(1, 0)], ?_⟩)))
 conv => whnf
 refine ⟨[.c (.ref 0 0 none), ai (1 + x.names.length)], _, ⟨rfl, rfl, rfl⟩, markIntSS_lost x.rows _ (by omega) (by omega) (fun t h => by have := costL_mem List.length h; omega), ?_⟩
 conv => whnf
 refine .inr (.inr (.inl ⟨2, ?_⟩))
 conv => whnf
 refine .inl ⟨_, _, markIntS_spec x.ys (1 + x.names.length + costL List.length x.rows) (by omega) (by omega), ?_⟩
 conv => whnf
theorem markConfig_lost (x : Cfg) (k : Int) (hk : 0 ≤ k ∧ k ≤ 1000000000) (hs : x.signs.length ≤ 1048576) :
  FnSpecJ PR f_laws_markConfig [.agg [.d (.int .i64 x.rounds), .d (.int .i64 x.depth), .d (.int .i64 x.bins), .d (.int .i64 x.lambda), .d (.int .i64 x.rows), .d (.int .i64 x.num), .d (.int .i64 x.den), .ref 0 0 none], ai k] [(0, .arr t_int 1 0 .own (eL cI x.signs))] 1 (ai (k + x.signs.length)) := by
 refine FnSpecJ.intro hTn (pf Tryz.func52) rfl (by kernel_rfl) Tryz.ntmps52 rfl rfl rfl ?_
 conv => whnf
 refine .inr (.inr (.inl ⟨0, ?_⟩))
 conv => whnf
 refine .inl ⟨_, _, markIntS_spec x.signs k (by omega) (by omega), ?_⟩
 conv => whnf
end Go.H.S
namespace Go.H.S
open Go Go.Proofs Go.H
attribute [local irreducible] Tri FnSpec FnSpecM FnSpecX FnSpecJ FnSpecB
theorem table_small {t : Tbl} (ho : okTable t) (h : costTable t ≤ 1048576) : smTable t ∧ szT t ∧ costL List.length t.rows ≤ 1048576 := by
 unfold costTable at h
 have h1 := cost_len ByteArray.size t.names
 have h2 := cost_len List.length t.rows
 have h5 := cost_costL List.length t.rows
 have h3 : ∀ r ∈ t.rows, r.length ≤ 1048576 := fun r hr => by have := costL_mem List.length hr; omega
 exact ⟨⟨by omega, ⟨by omega, fun r hr => by have := h3 r hr; omega⟩, by omega⟩, ⟨by omega, ho.1.2, ho.2.1, by omega, h3, by omega⟩, by omega⟩
def rgTable (x : Tbl) : Prop := (∀ r ∈ x.rows, ∀ y ∈ r, i64 y) ∧ (∀ y ∈ x.ys, i64 y)
theorem ty_table {n : Nat} {c : List D} (h : TyD Tp n t_laws_Table c) : ∃ x : Tbl, (okTable x ∧ rgTable x) ∧ c = [.sl 1 (eL cS x.names), .str x.target, .sl 1 (eL cIs x.rows), .sl 1 (eL cI x.ys)] := by
 obtain ⟨hl, hf⟩ := h.struct (ti := _) rfl rfl
 obtain ⟨_, g0⟩ := hf (0, t_Lstring) (by simp) _ rfl
 obtain ⟨_, g1⟩ := hf (1, t_string) (by simp) _ rfl
 obtain ⟨_, g2⟩ := hf (2, t_LLint) (by simp) _ rfl
 obtain ⟨_, g3⟩ := hf (3, t_Lint) (by simp) _ rfl
 obtain ⟨l0, e0, q0, k0⟩ := ty_strs g0
 obtain ⟨s1, e1, r1⟩ := g1.str rfl rfl
 obtain ⟨es2, e2, b2, f2⟩ := g2.slice rfl rfl rfl
 obtain ⟨l2, rfl, q2, k2⟩ := eL_of (f := cIs) (fun c hc => (let ⟨_, hm⟩ := f2 c hc; ty_ints hm))
 obtain ⟨l3, e3, q3, k3⟩ := ty_ints g3
 refine ⟨⟨l0, s1, l2, l3⟩, ⟨⟨⟨q0, k0⟩, r1, ⟨by dsimp only; omega, fun t ht => (k2 t ht).1⟩, q3⟩, fun t ht => (k2 t ht).2, k3⟩, ?_⟩
 match c, hl with
 | [c0, c1, c2, c3], _ =>
  simp [cSs, cIs, cI] at e0 e1 e2 e3
  simp [e0, e1, e2, e3]
end Go.H.S
namespace Go.H.S
open Go Go.Proofs Go.H
attribute [local irreducible] Tri FnSpec FnSpecM FnSpecX FnSpecJ FnSpecB
set_option maxHeartbeats 4000000 in
theorem law_FnExactFoldLoss (t : Tbl) (c : Cfg) (k : Int) (ht : okTable t ∧ rgTable t) (hc : okConfig c ∧ rgConfig c) (_ : i64 k) : FnSpec PR f_laws_FnExactFoldLoss [aTb t, aCf c, ai k] (ab true) [] 0 := by
 refine FnSpec.intro hTn (pf Tryz.func10) rfl (by kernel_rfl) Tryz.ntmps10 rfl ?_
 conv => whnf
 refine .inl ⟨_, _, _, szTable_spec t 1048576 (by omega) (by omega) ht.1, rfl, ?_⟩
 conv => whnf
 refine ifB_i (fun h1 => ?_) (fun h1 => ?_) <;> (conv => whnf) <;> simp only [eH] at h1
 rw [show bud 1048576 (costTable t) = ((1048576 - costTable t : Nat) : Int) from by have := bud_ok h1; rw [bud_le] <;> omega]
 have hcg := bud_ok h1
 obtain ⟨hsm, hz, hcr⟩ := table_small ht.1 hcg
 refine .inl ⟨_, _, _, szConfig_spec c _ (by omega) (by omega) hc.1, rfl, ?_⟩
 conv => whnf
 refine ifB_i (fun h3 => ?_) (fun h3 => ?_) <;> (conv => whnf) <;> simp only [eH] at h3
 have hcl : c.signs.length ≤ 1048576 := by have := (bud_pos h3).1; unfold costConfig at this; omega
 have hsc : smConfig c := by unfold smConfig; omega
 have hsp := spec_FoldLoss_spec t c k hz hcl
 refine tri_rp 0 ?_
 conv => whnf
 refine tri_rp 1 ?_
 conv => whnf
 have him := impl_FoldLoss_spec t c k hz hcl
 have hll := foldR_len t c k
 generalize foldR t c k = r at *
 obtain ⟨L, ok⟩ := r
 dsimp only at hsp him hll
 rw [eL_w3] at hsp him
 have hwl : (L.map w3).length ≤ 40 := by rw [List.length_map]; omega
 clear hll
 generalize L.map w3 = wl at *
 clear L
 have heq := eqWideS_spec wl (by omega)
 refine tri_every hTn hmix [2, 3, 4, 8, 9] { t := [(2, ai k), (3, rpTb t), (4, rpCf c), (8, .c (.ref 0 0 none)), (9, ab ok)], h := [(0, .arr t_impl_Wide 3 0 .own (eL cW3 wl))], n := 1, N := 124 } rfl ?_ ?_
 ·repeat' first
   | (refine anyV_one rfl ?_; (conv => whnf))
   | (refine anyV_two rfl ?_ ?_ <;> (conv => whnf))
   | (refine .inl ⟨_, _, _, toTable_spec t hsm, rfl, ?_⟩; (conv => whnf))
   | (refine .inl ⟨_, _, _, toConfig_spec c hsc, rfl, ?_⟩; (conv => whnf))
   | (refine .inl ⟨_, _, _, hsp, rfl, ?_⟩; (conv => whnf))
   | (refine anyV_end rfl ?_; (conv => whnf); first | done | (simp only [partOf_none]; done) | (simp only [partOf_none]; rfl))
 conv => whnf
 refine .inl ⟨_, _, _, toTable_nest t hsm, rfl, ?_⟩
 conv => whnf
 refine .inl ⟨_, _, _, toConfig_spec c hsc, rfl, ?_⟩
 conv => whnf
 refine .inr (.inl ⟨_, _, _, him, rfl, ⟨flat_cW3 _, trivial⟩, ?_⟩)
 conv => whnf
 refine .inr (.inl ⟨_, _, _, heq, rfl, trivial, ?_⟩)
 conv => whnf
 rw [show bEq ok ok = true from by cases ok <;> rfl]
 conv => whnf
 refine tri_every hTn hmix [2, 3, 4, 8, 9, 10, 11, 12, 13, 62] { t := [(2, ai k), (3, rpTb t), (4, rpCf c), (8, .c (.ref 0 0 none)), (9, ab ok), (10, .c (.ptr 1 0)), (11, .c (.ptr 5 0)), (12, .c (.ref 7 0 none)), (13, ab ok), (62, ab (bNot true))], h := [(0, .arr t_impl_Wide 3 0 .own (eL cW3 wl)), (1, .box t_impl_Table [.ref 2 0 none, .d (.str t.target), .ref 3 0 none, .ref 4 0 none]), (2, .arr t_string 1 0 .own (eL cS t.names)), (3, .arr t_Lint 1 0 (.nest [t_int]) (eL cIs t.rows)), (4, .arr t_int 1 0 .own (eL cI t.ys)), (5, .box t_impl_Config [.d (.int .i64 c.rounds), .d (.int .i64 c.depth), .d (.int .i64 c.bins), .d (.int .i64 c.lambda), .d (.int .i64 c.rows), .d (.int .i64 c.num), .d (.int .i64 c.den), .ref 6 0 none]), (6, .arr t_int 1 0 .own (eL cI c.signs)), (7, .arr t_impl_Wide 3 0 .own (eL cW3 wl))], n := 8, N := 124 } rfl ?_ ?_
 ·repeat' first
   | (refine anyV_one rfl ?_; (conv => whnf))
   | (refine anyV_two rfl ?_ ?_ <;> (conv => whnf))
   | (refine anyV_end rfl ?_; (conv => whnf); first | done | (simp only [partOf_none]; done) | (simp only [partOf_none]; rfl))
   | (refine .inl ⟨_, _, _, toTable_spec t hsm, rfl, ?_⟩; (conv => whnf))
   | (refine .inr (.inl ⟨_, _, _, eqTable_spec t ht.1, rfl, trivial, ?_⟩); (conv => whnf))
 conv => whnf
 refine tri_every hTn hmix [2, 3, 4, 8, 9, 10, 11, 12, 13, 67] { t := [(2, ai k), (3, rpTb t), (4, rpCf c), (8, .c (.ref 0 0 none)), (9, ab ok), (10, .c (.ptr 1 0)), (11, .c (.ptr 5 0)), (12, .c (.ref 7 0 none)), (13, ab ok), (67, ab (bNot true))], h := [(0, .arr t_impl_Wide 3 0 .own (eL cW3 wl)), (1, .box t_impl_Table [.ref 2 0 none, .d (.str t.target), .ref 3 0 none, .ref 4 0 none]), (2, .arr t_string 1 0 .own (eL cS t.names)), (3, .arr t_Lint 1 0 (.nest [t_int]) (eL cIs t.rows)), (4, .arr t_int 1 0 .own (eL cI t.ys)), (5, .box t_impl_Config [.d (.int .i64 c.rounds), .d (.int .i64 c.depth), .d (.int .i64 c.bins), .d (.int .i64 c.lambda), .d (.int .i64 c.rows), .d (.int .i64 c.num), .d (.int .i64 c.den), .ref 6 0 none]), (6, .arr t_int 1 0 .own (eL cI c.signs)), (7, .arr t_impl_Wide 3 0 .own (eL cW3 wl))], n := 8, N := 124 } rfl ?_ ?_
 ·repeat' first
   | (refine anyV_one rfl ?_; (conv => whnf))
   | (refine anyV_two rfl ?_ ?_ <;> (conv => whnf))
   | (refine anyV_end rfl ?_; (conv => whnf); first | done | (simp only [partOf_none]; done) | (simp only [partOf_none]; rfl))
   | (refine .inl ⟨_, _, _, toConfig_spec c hsc, rfl, ?_⟩; (conv => whnf))
   | (refine .inr (.inl ⟨_, _, _, eqConfig_spec c hc.1, rfl, trivial, ?_⟩); (conv => whnf))
 conv => whnf
 refine .inr (.inr (.inr (.inl ⟨[(2, 0), (3, 1), (4, 2)], ?_⟩)))
 conv => whnf
 refine ⟨[.agg [.ref 0 0 none, .d (.str t.target), .ref 1 0 none, .ref 2 0 none], ai 1], _, ⟨rfl, rfl, rfl⟩, markTable_lost t hz.n hz.r hz.y hcr, ?_⟩
 conv => whnf
 obtain ⟨K, hK⟩ : ∃ K : Int, K = 1 + (t.names.length : Int) + costL List.length t.rows + t.ys.length := ⟨_, rfl⟩
 rw [← hK]
 have hzn := hz.n
 have hzy := hz.y
 have hK2 : 0 < K ∧ K ≤ 100000000 := by omega
 refine .inr (.inr (.inr (.inl ⟨[(6, 0)], ?_⟩)))
 conv => whnf
 refine ⟨[.agg [.d (.int .i64 c.rounds), .d (.int .i64 c.depth), .d (.int .i64 c.bins), .d (.int .i64 c.lambda), .d (.int .i64 c.rows), .d (.int .i64 c.num), .d (.int .i64 c.den), .ref 0 0 none], ai K], _, ⟨rfl, rfl, rfl⟩, markConfig_lost c K (by omega) hcl, ?_⟩
 conv => whnf
 rw [show iLt (K + (c.signs.length : Int)) 0 = false from decide_eq_false (by omega)]
 conv => whnf
 refine .inr (.inl ⟨_, _, _, heq, rfl, trivial, ?_⟩)
 conv => whnf
 rw [show bEq ok ok = true from by cases ok <;> rfl]
 conv => whnf
 refine .inr (.inr (.inl ⟨7, ?_⟩))
 conv => whnf
 refine .inl ⟨_, _, markWideS_spec wl 1 (by omega) (by omega), ?_⟩
 conv => whnf
 refine .inr (.inl ⟨_, _, _, heldWideS_spec 1 wl.length (by omega) (by omega), rfl, trivial, ?_⟩)
 conv => whnf
 rw [show iLt (1 + 3 * (wl.length : Int)) 0 = false from decide_eq_false (by omega)]
 conv => whnf
 rw [show iEq (1 + 3 * (wl.length : Int)) (1 + 3 * wl.length) = true from decide_eq_true rfl]
 conv => whnf
 refine tri_every hTn hmix [8, 9, 12, 15, 17, 18] { t := [(8, .c (.ref 0 0 none)), (9, ab ok), (12, .c (.ref 1 0 none)), (15, ai (1 + 3 * wl.length)), (17, .c (.ref 2 0 none)), (18, ab ok)], h := [(0, .arr t_impl_Wide 3 0 .own (eL cW3 wl)), (1, .arr t_impl_Wide 3 0 .own (eL cW3 (marksW 1 wl.length))), (2, .arr t_impl_Wide 3 0 .own (eL cW3 wl))], n := 3, N := 124 } rfl ?_ ?_
 ·repeat' first
   | (refine anyV_one rfl ?_; (conv => whnf))
   | (refine anyV_two rfl ?_ ?_ <;> (conv => whnf))
   | (refine .inl ⟨_, _, _, toTable_spec t hsm, rfl, ?_⟩; (conv => whnf))
   | (refine .inl ⟨_, _, _, toConfig_spec c hsc, rfl, ?_⟩; (conv => whnf))
   | (refine .inl ⟨_, _, _, him, rfl, ?_⟩; (conv => whnf))
   | (refine anyV_end rfl ?_; (conv => whnf); first | done | (simp only [partOf_none]; done) | (simp only [partOf_none]; rfl))
 conv => whnf
 refine .inr (.inl ⟨_, _, _, heq, rfl, trivial, ?_⟩)
 conv => whnf
 rw [show bEq ok ok = true from by cases ok <;> rfl]
 conv => whnf
 refine .inr (.inl ⟨_, _, _, heldWideS_spec 1 wl.length (by omega) (by omega), rfl, trivial, ?_⟩)
 conv => whnf
 rw [show iLt (1 + 3 * (wl.length : Int)) 0 = false from decide_eq_false (by omega)]
 conv => whnf
 rw [show iEq (1 + 3 * (wl.length : Int)) (1 + 3 * wl.length) = true from decide_eq_true rfl]
 conv => whnf
end Go.H.S
