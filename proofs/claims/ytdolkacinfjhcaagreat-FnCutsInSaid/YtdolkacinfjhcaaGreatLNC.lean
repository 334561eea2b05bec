/- Library, part W: TreeOk of the program; it is the reference's. -/
import Derived.Test.YtdolkacinfjhcaaGreatLV
set_option maxRecDepth 100000
set_option linter.unusedSimpArgs false
set_option linter.unusedVariables false
namespace Go.H.S
open Go Go.Proofs Go.H
attribute [local irreducible] Tri FnSpec FnSpecM FnSpecX
end Go.H.S
namespace Go.H.S
open Go Go.Proofs Go.H
attribute [local irreducible] Tri FnSpec FnSpecM FnSpecX FnSpecJ FnSpecB
def cU (n : Int) : List D := [.int .u8 n]
abbrev cur (code : List Int) (i h : Int) : List CV := [.d (.sl 1 (eL cU code)), .d (.int .i64 i), .d (.int .i64 h)]
theorem wAnd255 (x : Int) : 0 ≤ wAnd .i64 x 255 ∧ wAnd .i64 x 255 ≤ 255 := by
 unfold wAnd wrapB
 have h : ((BitVec.ofInt IntKind.i64.bits x &&& BitVec.ofInt IntKind.i64.bits 255).toNat) ≤ 255 := by
  rw [BitVec.toNat_and]
  exact Nat.and_le_right
 rw [wrap64] <;> omega
set_option maxHeartbeats 4000000 in
theorem spec_l1Byte_spec (code : List Int) (i h : Int) (hi : 0 ≤ i ∧ i ≤ code.length) (hl : code.length ≤ 1048576) : FnSpecB PR f_spec_l1Byte [.c (.ptr 0 0)] t_spec_l1Cur (cur code i h) (Int × Int × Int) (fun x => (0 ≤ x.1 ∧ x.1 ≤ 255) ∧ 0 ≤ x.2.1 ∧ x.2.1 ≤ code.length) (fun x => ai x.1) (fun x => cur code x.2.1 x.2.2) (fun _ => []) (fun _ => 1) := by
 refine FnSpecB.intro hT 0 (pf Tryz.func290) rfl (by kernel_rfl) Tryz.ntmps290 rfl rfl ?_
 intro v0
 conv => whnf
 refine tri_conf hT hmix (by kernel_rfl) ?_
 conv => whnf
 refine And.intro (by simp) ?_
 conv => whnf
 refine And.intro (by simp) ?_
 conv => whnf
 refine tri_conf hT hmix (by kernel_rfl) ?_
 conv => whnf
 generalize hh : wAdd .i64 (wMul .i64 h 6364136223846793005) 1442695040888963407 = h1
 have hb := wAnd255 (wXor .i64 (wShr .i64 h1 33) (wShr .i64 h1 45))
 generalize wAnd .i64 (wXor .i64 (wShr .i64 h1 33) (wShr .i64 h1 45)) 255 = x at *
 refine ifB_i (fun h2 => ?_) (fun h2 => ?_) <;> (conv => whnf) <;> simp only [eH] at h2
 ·obtain ⟨k, rfl⟩ : ∃ k : Nat, i = k := ⟨i.toNat, by omega⟩
  obtain ⟨y, hy⟩ := get_lt (show k < code.length by omega)
  refine tri_every hT hmix [0, 3] { t := [(0, .w (.ptr 0 0) v0), (3, ai (wAnd .i64 (wAdd .i64 x (wConv .i64 y)) 255))], h := [(0, .box t_spec_l1Cur (cur code k h1))], n := 1, N := 58 } rfl ?_ ?_
  ·repeat' first
    | (refine anyV_one rfl ?_; (conv => whnf))
    | (refine anyV_two rfl ?_ ?_ <;> (conv => whnf))
    | (refine anyV_three rfl ?_ ?_ ?_ <;> (conv => whnf))
    | (refine anyV_end rfl ?_; (conv => whnf))
    | (refine idx_at (by simp) hy ?_; (conv => whnf))
  conv => whnf
  have hb2 := wAnd255 (wAdd .i64 x (wConv .i64 y))
  refine ⟨(wAnd .i64 (wAdd .i64 x (wConv .i64 y)) 255, (k : Int) + 1, h1), ⟨hb2, by dsimp only; omega, by dsimp only; omega⟩, ?_⟩
  ((conv => whnf); simp only [eS, wAdd64 (show -9223372036854775808 ≤ (k : Int) + 1 by omega) (by omega)])
 ·refine ⟨(x, i, h1), ⟨hb, hi⟩, ?_⟩
  conv => whnf
theorem wRem_mod {x n : Int} (hx : 0 ≤ x) (hn : 0 < n) : 0 ≤ wRem x n ∧ wRem x n < n := by
 unfold wRem
 rw [Int.tmod_eq_emod_of_nonneg hx]
 exact ⟨Int.emod_nonneg _ (by omega), Int.emod_lt_of_pos _ hn⟩
def inCur (code : List Int) (x : Int × Int) : Prop := 0 ≤ x.1 ∧ x.1 ≤ code.length
theorem spec_l1Below_spec (code : List Int) (i h n : Int) (hi : 0 ≤ i ∧ i ≤ code.length) (hl : code.length ≤ 1048576) : FnSpecB PR f_spec_l1Below [.c (.ptr 0 0), ai n] t_spec_l1Cur (cur code i h) (Int × Int × Int)
  (fun x => (0 ≤ x.1 ∧ (0 < n → x.1 < n) ∧ (n ≤ 0 → x.1 = 0)) ∧ inCur code x.2) (fun x => ai x.1) (fun x => cur code x.2.1 x.2.2) (fun _ => []) (fun _ => 1) := by
 refine FnSpecB.intro hT 0 (pf Tryz.func221) rfl (by kernel_rfl) Tryz.ntmps221 rfl rfl ?_
 intro v0
 conv => whnf
 refine ifB_i (fun h1 => ?_) (fun h1 => ?_) <;> (conv => whnf) <;> simp only [eH] at h1
 ·refine ⟨(0, i, h), ⟨⟨by omega, fun q => by omega, fun _ => rfl⟩, hi⟩, ?_⟩
  conv => whnf
 refine ifB_i (fun h2 => ?_) (fun h2 => ?_) <;> (conv => whnf) <;> simp only [eH] at h2
 ·refine .inr (.inr (.inr (.inr (.inl ⟨0, ?_⟩))))
  conv => whnf
  refine ⟨_, _, _, _, _, _, spec_l1Byte_spec code i h hi hl, fun ⟨x, i1, h1'⟩ ⟨hx, hi1⟩ => ⟨rfl, ?_⟩⟩
  dsimp only at hx hi1
  conv => whnf
  refine And.intro (by simp; omega) ?_
  conv => whnf
  have hm := wRem_mod hx.1 (show 0 < n by omega)
  refine ⟨(wRem x n, i1, h1'), ⟨⟨hm.1, fun _ => hm.2, fun q => by omega⟩, hi1⟩, ?_⟩
  conv => whnf
 refine .inr (.inr (.inr (.inr (.inl ⟨0, ?_⟩))))
 conv => whnf
 refine ⟨_, _, _, _, _, _, spec_l1Byte_spec code i h hi hl, fun ⟨x, i1, h1'⟩ ⟨hx, hi1⟩ => ⟨rfl, ?_⟩⟩
 dsimp only at hx hi1
 conv => whnf
 refine .inr (.inr (.inr (.inr (.inl ⟨0, ?_⟩))))
 conv => whnf
 refine ⟨_, _, _, _, _, _, spec_l1Byte_spec code i1 h1' hi1 hl, fun ⟨y, i2, h2'⟩ ⟨hy, hi2⟩ => ⟨rfl, ?_⟩⟩
 dsimp only at hy hi2
 conv => whnf
 refine .inr (.inr (.inr (.inr (.inl ⟨0, ?_⟩))))
 conv => whnf
 refine ⟨_, _, _, _, _, _, spec_l1Byte_spec code i2 h2' hi2 hl, fun ⟨z, i3, h3'⟩ ⟨hz, hi3⟩ => ⟨rfl, ?_⟩⟩
 dsimp only at hz hi3
 conv => whnf
 refine .inr (.inr (.inr (.inr (.inl ⟨0, ?_⟩))))
 conv => whnf
 refine ⟨_, _, _, _, _, _, spec_l1Byte_spec code i3 h3' hi3 hl, fun ⟨w, i4, h4'⟩ ⟨hw, hi4⟩ => ⟨rfl, ?_⟩⟩
 dsimp only at hw hi4
 conv => whnf
 refine And.intro (by simp; omega) ?_
 conv => whnf
 have e1 : wMul .i64 x 16777216 = x * 16777216 := wMul64 (by omega) (by omega)
 have e2 : wMul .i64 y 65536 = y * 65536 := wMul64 (by omega) (by omega)
 have e3 : wMul .i64 z 256 = z * 256 := wMul64 (by omega) (by omega)
 rw [e1, e2, e3]
 rw [wAdd64 (x := x * 16777216) (y := y * 65536) (by omega) (by omega)]
 rw [wAdd64 (x := x * 16777216 + y * 65536) (y := z * 256) (by omega) (by omega)]
 rw [wAdd64 (x := x * 16777216 + y * 65536 + z * 256) (y := w) (by omega) (by omega)]
 have hm := wRem_mod (x := x * 16777216 + y * 65536 + z * 256 + w) (by omega) (show 0 < n by omega)
 refine ⟨(wRem (x * 16777216 + y * 65536 + z * 256 + w) n, i4, h4'), ⟨⟨hm.1, fun _ => hm.2, fun q => by omega⟩, hi4⟩, ?_⟩
 conv => whnf
theorem spec_l1PickInt_spec (code : List Int) (i h : Int) (l : List Int) (hi : 0 ≤ i ∧ i ≤ code.length) (hl : code.length ≤ 1048576) (hne : 0 < l.length) (hll : l.length ≤ 1048576) : FnSpecB PR f_spec_l1PickInt [.c (.ptr 0 0), aIs l] t_spec_l1Cur (cur code i h) (Int × Int × Int)
  (fun x => x.1 ∈ l ∧ inCur code x.2) (fun x => ai x.1) (fun x => cur code x.2.1 x.2.2) (fun _ => []) (fun _ => 1) := by
 refine FnSpecB.intro hT 0 (pf Tryz.func223) rfl (by kernel_rfl) Tryz.ntmps223 rfl rfl ?_
 intro v0
 conv => whnf
 refine .inr (.inr (.inr (.inr (.inl ⟨0, ?_⟩))))
 conv => whnf
 rw [show nInt (dLen (eL cI l)) = (l.length : Int) by simp]
 refine ⟨_, _, _, _, _, _, spec_l1Below_spec code i h l.length hi hl, fun ⟨x, i1, h1'⟩ ⟨hx, hi1⟩ => ⟨rfl, ?_⟩⟩
 dsimp only at hx hi1
 conv => whnf
 obtain ⟨k, rfl⟩ : ∃ k : Nat, x = k := ⟨x.toNat, by omega⟩
 obtain ⟨y, hy⟩ := get_lt (show k < l.length by have := hx.2.1 (by omega); omega)
 refine idx_at (by simp) hy ?_
 conv => whnf
 refine ⟨(y, i1, h1'), ⟨List.mem_of_getElem? hy, hi1⟩, ?_⟩
 conv => whnf
end Go.H.S
namespace Go.H.S
open Go Go.Proofs Go.H
attribute [local irreducible] Tri FnSpec FnSpecM FnSpecX FnSpecJ FnSpecB
theorem spec_l1New_spec (code : List Int) (hl : code.length ≤ 1048576) : FnSpecX PR f_spec_l1New [.c (.d (.sl 1 (eL cU code)))] Int (fun _ => True) (fun _ => .c (.ptr 0 0)) (fun h => [(0, .box t_spec_l1Cur (cur code 0 h))]) (fun _ => 1) := by
 refine FnSpecX.intro hT (pf Tryz.func219) rfl (by kernel_rfl) Tryz.ntmps219 rfl ?_
 conv => whnf
 refine tri_loop hT [0, 3, 4] (α := Nat × Int) (fun x => { t := [(0, .c (.d (.sl 1 (eL cU code)))), (3, ai x.2), (4, ai x.1)], h := [], n := 0, N := 32 })
  (fun x => x.1 ≤ code.length) (fun x => code.length - x.1) (0, wAdd .i64 28507 code.length) (by ((conv => whnf); simp only [eS])) (Nat.zero_le _) ?_
 intro ⟨k, h⟩ hk
 dsimp only at hk
 conv => whnf
 refine ifB_i (fun h1 => ?_) (fun h1 => ?_) <;> (conv => whnf) <;> simp only [eH] at h1
 ·obtain ⟨y, hy⟩ := get_lt (show k < code.length by simpa using h1)
  refine ifB_i (fun h2 => ?_) (fun h2 => ?_) <;> (conv => whnf)
  ·refine idx_at (by simp) hy ?_
   conv => whnf
   refine ⟨(k + 1, wAnd .i64 (wAdd .i64 (wAdd .i64 (wMul .i64 h 131) (wConv .i64 y)) 7) 1073741823), by dsimp only; omega, by dsimp only; omega, ?_⟩
   ((conv => whnf); simp only [eS, wI (show k < code.length by omega) (by omega)])
  ·refine ⟨h, trivial, ?_⟩
   conv => whnf
 ·refine ⟨h, trivial, ?_⟩
  conv => whnf
theorem spec_OneLeaf_spec (v : Int) : FnSpec PR f_spec_OneLeaf [ai v] (.agg [.ref 0 0 none]) [(0, .arr t_impl_Node 5 0 .own (eL cN [⟨-1, 0, 0, 0, v⟩]))] 1 := by
 refine FnSpec.intro hT (pf Tryz.func315) rfl (by kernel_rfl) Tryz.ntmps315 rfl ?_
 conv => whnf
 ((conv => whnf); simp only [eS, eL_cons, eL_nil, cN])
structure KidsOk (N : List Nd) : Prop where
 kid : ∀ {j : Nat} {n : Nd}, N[j]? = some n → n.f ≠ -1 → (j : Int) < n.l ∧ n.r = n.l + 1 ∧ n.r < N.length
 one : ∀ {j j' : Nat} {n n' : Nd}, N[j]? = some n → N[j']? = some n' → n.f ≠ -1 → n'.f ≠ -1 → ∀ x : Int, (n.l = x ∨ n.r = x) → (n'.l = x ∨ n'.r = x) → j = j'
theorem nodup_len : ∀ (M : Nat) (l : List Int), l.Nodup → (∀ x ∈ l, 0 ≤ x ∧ x < M) → l.length ≤ M
 | 0, l, hn, hl => by
  cases l with
  | nil => simp
  | cons x r => have := hl x (by simp); omega
 | M + 1, l, hn, hl => by
  have h1 := nodup_len M (l.erase (M : Int)) (hn.erase _) (fun x hx => by
   have hm := List.mem_of_mem_erase hx
   have hne : x ≠ (M : Int) := fun e => by
    subst e
    exact (List.Nodup.not_mem_erase hn) hx
   have := hl x hm
   omega)
  have h2 : l.length ≤ (l.erase (M : Int)).length + 1 := by
   rw [List.length_erase]
   split <;> omega
  omega
theorem eL_join {α : Type} (f : α → List D) (l r : List α) : dApp (eL f l) (eL f r) = eL f (l ++ r) := by simp [dApp, eL]
structure LvInv (N : List Nd) (i : Nat) (R : List Int) : Prop where
 le : i ≤ R.length
 nd : R.Nodup
 mem : ∀ x ∈ R, 0 ≤ x ∧ x < N.length
 src : ∀ x ∈ R, x = 0 ∨ ∃ (j p : Nat) (n : Nd), j < i ∧ R[j]? = some (p : Int) ∧ N[p]? = some n ∧ n.f ≠ -1 ∧ (n.l = x ∨ n.r = x)
theorem LvInv.len {N : List Nd} {i : Nat} {R : List Int} (h : LvInv N i R) : R.length ≤ N.length := nodup_len _ _ h.nd h.mem
theorem LvInv.leaf {N : List Nd} {i : Nat} {R : List Int} (h : LvInv N i R) (hi : i < R.length) : LvInv N (i + 1) R :=
 ⟨hi, h.nd, h.mem, fun x hx => (h.src x hx).imp id fun ⟨j, p, n, h1, h2⟩ => ⟨j, p, n, by omega, h2⟩⟩
theorem LvInv.inner {N : List Nd} (hk : KidsOk N) {i p : Nat} {R : List Int} {n : Nd} (h : LvInv N i R) (hi : R[i]? = some (p : Int)) (hn : N[p]? = some n) (hf : n.f ≠ -1) : LvInv N (i + 1) (R ++ [n.l, n.r]) := by
 obtain ⟨k1, k2, k3⟩ := hk.kid hn hf
 have hil := (List.getElem?_eq_some_iff.1 hi).1
 have hfresh : ∀ x, (n.l = x ∨ n.r = x) → x ∉ R := fun x hx hm => by
  rcases h.src x hm with h0 | ⟨j, q, n', g1, g2, g3, g4, g5⟩
  ·subst h0; omega
  ·have := hk.one g3 hn g4 hf x g5 hx
   subst this
   have hj := (List.getElem?_eq_some_iff.1 g2).1
   have := (List.getElem?_inj hj h.nd).1 (g2.trans hi.symm)
   omega
 refine ⟨by simp; omega, ?_, fun x hx => ?_, fun x hx => ?_⟩
 ·rw [List.nodup_append]
  refine ⟨h.nd, by simp; omega, fun a ha b hb => ?_⟩
  intro e
  subst e
  simp at hb
  rcases hb with rfl | rfl
  ·exact hfresh _ (.inl rfl) ha
  ·exact hfresh _ (.inr rfl) ha
 ·rcases List.mem_append.1 hx with hx | hx
  ·exact h.mem x hx
  ·simp at hx
   rcases hx with rfl | rfl <;> omega
 ·rcases List.mem_append.1 hx with hx | hx
  ·rcases h.src x hx with h0 | ⟨j, q, n', g1, g2, g3⟩
   ·exact .inl h0
   ·exact .inr ⟨j, q, n', by omega, by rw [List.getElem?_append_left (by omega)]; exact g2, g3⟩
  ·simp at hx
   exact .inr ⟨i, p, n, by omega, by rw [List.getElem?_append_left hil]; exact hi, hn, hf, by rcases hx with rfl | rfl <;> simp⟩
theorem spec_l17Levels_spec (N : List Nd) (hk : KidsOk N) (h1 : 0 < N.length) (hl : N.length ≤ 1048576) : FnSpecX PR f_spec_l17Levels [aNs N] (List Nd) (fun t => 0 < t.length ∧ t.length ≤ N.length) (fun _ => .agg [.ref 0 0 none]) (fun t => [(0, .arr t_impl_Node 5 0 .own (eL cN t))]) (fun _ => 1) := by
 refine FnSpecX.intro hT (pf Tryz.func356) rfl (by kernel_rfl) Tryz.ntmps356 rfl ?_
 conv => whnf
 refine tri_loop hT [0, 2, 3, 4, 5, 6] (α := Nat × List Int × List Nd × Int) (fun x => match x.1 with
   | 0 => { t := [(0, aNs N), (2, .c (.ptr 0 0)), (3, .c (.ptr 1 0)), (4, .c (.ref 2 0 none)), (5, ai x.2.2.2), (6, ai (0 : Nat))], h := [(0, .box t_impl_Tree [.nl 5]), (1, .box t_impl_Tree [.nl 5]), (2, .arr t_int 1 0 .own (eL cI x.2.1))], n := 3, N := 46 }
   | i + 1 => { t := [(0, aNs N), (2, .c (.ptr 0 0)), (3, .c (.ptr 1 0)), (4, .c (.ref 3 0 none)), (5, ai x.2.2.2), (6, ai (i + 1 : Nat))], h := [(0, .box t_impl_Tree [.nl 5]), (1, .box t_impl_Tree [.ref 2 0 none]), (2, .arr t_impl_Node 5 0 .own (eL cN x.2.2.1)), (3, .arr t_int 1 0 .own (eL cI x.2.1))], n := 4, N := 46 })
  (fun x => LvInv N x.1 x.2.1 ∧ x.2.2.1.length = x.1 ∧ 0 < x.2.1.length) (fun x => N.length - x.1) (0, [0], [], 1) (by ((conv => whnf); simp only [eS, eL_cons, eL_nil, cI]))
  ⟨⟨by simp, by simp, by simp; omega, by simp⟩, rfl, by simp⟩ ?_
 intro ⟨i, R, O, nx⟩ ⟨hi, hO, hR⟩
 dsimp only at hi hO hR
 have hRl := hi.len
 cases i with
 | zero =>
  obtain rfl := List.eq_nil_of_length_eq_zero hO
  conv => whnf
  refine ifB_i (fun h2 => ?_) (fun h2 => ?_) <;> (conv => whnf)
  ·dsimp only at h2
   simp only [eH] at h2
   rw [show lenRE (eL cI R) none = R.length by simp [lenRE]] at h2
   obtain ⟨y, hy⟩ := get_lt (show 0 < R.length by omega)
   obtain ⟨p, rfl⟩ : ∃ p : Nat, y = p := ⟨y.toNat, by have := hi.mem _ (List.mem_of_getElem? hy); omega⟩
   obtain ⟨n, hn⟩ := get_lt (show p < N.length by have := hi.mem _ (List.mem_of_getElem? hy); omega)
   have hz := hi.inner hk hy hn
   have hz2 := hi.leaf (show 0 < R.length by omega)
   refine ref_at rfl (by simp; omega) ?_
   conv => whnf
   refine ld_at (by simp) hy ?_
   conv => whnf
   refine idx_at (by simp) hn ?_
   conv => whnf
   refine .inl ⟨_, _, _, spec_l17Inner_spec n, rfl, ?_⟩
   conv => whnf
   refine ifB_i (fun h3 => ?_) (fun h3 => ?_) <;> (conv => whnf) <;> simp only [eH] at h3
   ·have hz' := (hz h3).len
    refine And.intro (by unfold Fits; simp at hz' ⊢; omega) ?_
    conv => whnf
    refine And.intro (by unfold Fits; simp at hz' ⊢ <;> omega) ?_
    conv => whnf
    refine ⟨(0 + 1, R ++ [n.l, n.r], [⟨n.f, n.c, nx, wAdd .i64 nx 1, n.v⟩], wAdd .i64 nx 2), by dsimp only; omega, ⟨hz h3, by simp [hO], by simp⟩, ?_⟩
    ((conv => whnf); simp only [eS, partOf_none])
    refine ⟨wI (show 0 < R.length by omega) (by omega), ?_⟩
    exact ⟨by simp [eL, cN], by rw [← eL_join]; simp [eL, cI]⟩
   ·refine And.intro (by unfold Fits; simp at hRl ⊢ <;> omega) ?_
    conv => whnf
    refine ⟨(0 + 1, R, [n], nx), by dsimp only; omega, ⟨hz2, by simp [hO], hR⟩, ?_⟩
    ((conv => whnf); simp only [eS, partOf_none])
    refine ⟨wI (show 0 < R.length by omega) (by omega), ?_⟩
    simp [eL, cN]
  ·dsimp only at h2
   simp only [eH] at h2
   rw [show lenRE (eL cI R) none = R.length by simp [lenRE]] at h2
   omega
 | succ i =>
  conv => whnf
  refine ifB_i (fun h2 => ?_) (fun h2 => ?_) <;> (conv => whnf)
  ·dsimp only at h2
   simp only [eH] at h2
   rw [show lenRE (eL cI R) none = R.length by simp [lenRE]] at h2
   obtain ⟨y, hy⟩ := get_lt (show (i + 1) < R.length by omega)
   obtain ⟨p, rfl⟩ : ∃ p : Nat, y = p := ⟨y.toNat, by have := hi.mem _ (List.mem_of_getElem? hy); omega⟩
   obtain ⟨n, hn⟩ := get_lt (show p < N.length by have := hi.mem _ (List.mem_of_getElem? hy); omega)
   have hz := hi.inner hk hy hn
   have hz2 := hi.leaf (show (i + 1) < R.length by omega)
   refine ref_at rfl (by simp; omega) ?_
   conv => whnf
   refine ld_at (by simp) hy ?_
   conv => whnf
   refine idx_at (by simp) hn ?_
   conv => whnf
   refine .inl ⟨_, _, _, spec_l17Inner_spec n, rfl, ?_⟩
   conv => whnf
   refine ifB_i (fun h3 => ?_) (fun h3 => ?_) <;> (conv => whnf) <;> simp only [eH] at h3
   ·have hz' := (hz h3).len
    refine And.intro (by unfold Fits; simp at hz' ⊢; omega) ?_
    conv => whnf
    refine And.intro (by unfold Fits; simp at hz' ⊢ <;> omega) ?_
    conv => whnf
    refine ⟨((i + 1) + 1, R ++ [n.l, n.r], O ++ [⟨n.f, n.c, nx, wAdd .i64 nx 1, n.v⟩], wAdd .i64 nx 2), by dsimp only; omega, ⟨hz h3, by simp [hO], by simp⟩, ?_⟩
    ((conv => whnf); simp only [eS, partOf_none])
    refine ⟨wI (show i + 1 < R.length by omega) (by omega), ?_⟩
    exact ⟨by rw [← eL_app]; rfl, by rw [← eL_join]; simp [eL, cI]⟩
   ·refine And.intro (by unfold Fits; simp at hRl ⊢ <;> omega) ?_
    conv => whnf
    refine ⟨((i + 1) + 1, R, O ++ [n], nx), by dsimp only; omega, ⟨hz2, by simp [hO], hR⟩, ?_⟩
    ((conv => whnf); simp only [eS, partOf_none])
    refine ⟨wI (show i + 1 < R.length by omega) (by omega), ?_⟩
    rw [← eL_app]; rfl
  ·dsimp only at h2
   simp only [eH] at h2
   rw [show lenRE (eL cI R) none = R.length by simp [lenRE]] at h2
   have h4 := hi.le
   refine ⟨O, by omega, ?_⟩
   conv => whnf
theorem grown_kids {t : List Nd} {ft : Int} (h : shapeOk t ft = true) {k : Nat} (hk : k < t.length) (f c a b : Int) : KidsOk (t.set k ⟨f, c, t.length, t.length + 1, 0⟩ ++ [⟨-1, 0, 0, 0, a⟩, ⟨-1, 0, 0, 0, b⟩]) := by
 have key : ∀ {j : Nat} {n : Nd}, (t.set k ⟨f, c, t.length, t.length + 1, 0⟩ ++ [⟨-1, 0, 0, 0, a⟩, ⟨-1, 0, 0, 0, b⟩])[j]? = some n → n.f ≠ -1 → (j = k ∧ n = ⟨f, c, t.length, t.length + 1, 0⟩) ∨ (j < t.length ∧ t[j]? = some n) := by
  intro j n hj hf
  by_cases hl : j < t.length
  ·rw [List.getElem?_append_left (by simpa using hl), List.getElem?_set] at hj
   split at hj
   ·rename_i e
    subst e
    exact .inl ⟨rfl, (Option.some.inj hj).symm⟩
   ·exact .inr ⟨hl, hj⟩
  ·rw [List.getElem?_append_right (by simpa using hl)] at hj
   rcases hd : j - (t.set k ⟨f, c, t.length, t.length + 1, 0⟩).length with _ | _ | d <;> rw [hd] at hj <;> simp at hj <;> subst hj <;> exact absurd rfl hf
 constructor
 ·intro j n hj hf
  rcases key hj hf with ⟨rfl, rfl⟩ | ⟨hl, hj'⟩
  ·simp; omega
  ·have := shape_kids h hj' hf
   simp
   omega
 ·intro j j' n n' hj hj' hf hf' x hx hx'
  rcases key hj hf with ⟨rfl, rfl⟩ | ⟨hl, g⟩ <;> rcases key hj' hf' with ⟨rfl, rfl⟩ | ⟨hl', g'⟩
  ·rfl
  ·have := shape_kids h g' hf'
   dsimp only at hx
   omega
  ·have := shape_kids h g hf
   dsimp only at hx'
   omega
  ·exact shape_once h g g' hf hf' hx hx'
theorem spec_l17Grown_spec (t : List Nd) (ft : Int) (h : shapeOk t ft = true) (hl : t.length ≤ 31) (k : Nat) (hk : k < t.length) (x : Nd) (a b : Int) : FnSpecX PR f_spec_l17Grown [aT t, ai k, aN x, ai a, ai b] (List Nd) (fun t' => 0 < t'.length ∧ t'.length ≤ t.length + 2) (fun _ => .agg [.ref 0 0 none]) (fun t => [(0, .arr t_impl_Node 5 0 .own (eL cN t))]) (fun _ => 1) := by
 refine FnSpecX.intro hT (pf Tryz.func331) rfl (by kernel_rfl) Tryz.ntmps331 rfl ?_
 conv => whnf
 refine And.intro (by unfold Fits; simp; omega) ?_
 rw [show dApp [] (eL cN t) = eL cN t by simp [dApp]]
 conv => whnf
 obtain ⟨y, hy⟩ := get_lt hk
 refine ref_at rfl (by simpa using hk) ?_
 conv => whnf
 refine st_at (k := k) (by simp) hy (by simp [cN]) ?_
 conv => whnf
 have e1 : nInt (lenRE (eL cN t) none) = (t.length : Int) := by simp [lenRE]
 have e2 : wAdd .i64 (t.length : Int) 1 = (t.length : Int) + 1 := wAdd64 (by omega) (by omega)
 rw [e1, e2]
 rw [show dSet (eL cN t) (nAdd (offR none) (nOf (k : Int))) (dOver (cN y) 0 [.int .i64 x.f, .int .i64 x.c, .int .i64 (t.length : Int), .int .i64 ((t.length : Int) + 1), .int .i64 0]) = eL cN (t.set k ⟨x.f, x.c, t.length, t.length + 1, 0⟩) by
  rw [dOver_all (by simp [cN]), show nAdd (offR none) (nOf (k : Int)) = k by simp]
  exact eL_set cN t k ⟨x.f, x.c, t.length, t.length + 1, 0⟩]
 refine And.intro (by unfold Fits; simp; omega) ?_
 rw [show dApp (eL cN (t.set k ⟨x.f, x.c, t.length, t.length + 1, 0⟩)) (partOf [[D.int IntKind.i64 (-1), D.int IntKind.i64 0, D.int IntKind.i64 0, D.int IntKind.i64 0, D.int IntKind.i64 a], [D.int IntKind.i64 (-1), D.int IntKind.i64 0, D.int IntKind.i64 0, D.int IntKind.i64 0, D.int IntKind.i64 b]] none) = eL cN (t.set k ⟨x.f, x.c, t.length, t.length + 1, 0⟩ ++ [⟨-1, 0, 0, 0, a⟩, ⟨-1, 0, 0, 0, b⟩]) by
  rw [← eL_join]; simp [eL, cN]]
 conv => whnf
 refine .inr (.inr (.inr (.inr (.inr (.inl ⟨_, _, _, _, _, spec_l17Levels_spec _ (grown_kids h hk x.f x.c a b) (by simp) (by simp; omega), fun t' ht' => ⟨rfl, ?_⟩⟩)))))
 simp at ht'
 refine ⟨t', by omega, ?_⟩
 conv => whnf
end Go.H.S
namespace Go.H.S
open Go Go.Proofs Go.H
attribute [local irreducible] Tri FnSpec FnSpecM FnSpecX FnSpecJ FnSpecB
theorem leavesK_mem : ∀ {t : List Nd} {k j : Nat} {n : Nd}, t[j]? = some n → n.f = -1 → ((k + j : Nat) : Int) ∈ leavesK t k
 | [], k, j, n, h, hf => by simp at h
 | x :: r, k, 0, n, h, hf => by
  simp at h
  subst h
  simp [leavesK, hf]
 | x :: r, k, j + 1, n, h, hf => by
  have := leavesK_mem (k := k + 1) (show r[j]? = some n by simpa using h) hf
  rw [show k + 1 + j = k + (j + 1) by omega] at this
  simp only [leavesK]
  split
  ·exact List.mem_cons_of_mem _ this
  ·exact this
theorem shape_leaves {t : List Nd} {ft : Int} (h : shapeOk t ft = true) : 0 < (leavesK t 0).length := by
 have h0 : 0 < t.length := by
  cases t with
  | nil => simp [shapeOk, shapeL] at h
  | cons x r => simp
 obtain ⟨n, hn⟩ := get_lt (show t.length - 1 < t.length by omega)
 have hf : n.f = -1 := by
  by_cases hf : n.f = -1
  ·exact hf
  ·have := shape_kids h hn hf
   omega
 exact List.length_pos_of_mem (leavesK_mem (k := 0) hn hf)
theorem treeOk_one (v ft : Int) (hft : 0 ≤ ft ∧ ft ≤ 4) (hv : -1099511627776 ≤ v ∧ v ≤ 1099511627776) : treeOk [⟨-1, 0, 0, 0, v⟩] ft = true := by
 have hu : up [⟨-1, 0, 0, 0, v⟩] 0 = -1 := by simp [up, idxL, pUp]
 have hs : steps [⟨-1, 0, 0, 0, v⟩] 32 0 = some [0] := by simp [steps, hu]
 have hl : levelL [⟨-1, 0, 0, 0, v⟩] 0 = 0 := by
  simp only [levelL]
  rw [if_pos (by simp), lvl_lt _ (by rw [hu]; decide)]
 have hw : waysBad [⟨-1, 0, 0, 0, v⟩] [⟨-1, 0, 0, 0, v⟩] 0 = false := by
  simp [waysBad, nodeBad, hs, iEq, bNot, bAnd]
 simp [treeOk, hft, shapeOk, shapeL, leafBad, depthK, hl, hw]
 omega
theorem flat_nodes (xs : List Nd) : FlatR (eL cN xs) := fun c hc d hd => by
 rw [eL] at hc
 obtain ⟨x, _, rfl⟩ := List.mem_map.1 hc
 simp [cN] at hd
 rcases hd with rfl | rfl | rfl | rfl | rfl <;> rfl
set_option maxHeartbeats 4000000 in
theorem spec_l17Right_spec (code : List Int) (i h ft : Int) (hi : inCur code (i, h)) (hl : code.length ≤ 1048576) (hft : 1 ≤ ft ∧ ft ≤ 4) : FnSpecB PR f_spec_l17Right [.c (.ptr 0 0), ai ft] t_spec_l1Cur (cur code i h) (List Nd × Int × Int)
  (fun x => treeOk x.1 ft = true ∧ inCur code x.2) (fun x => .agg [.ref 1 0 none]) (fun x => cur code x.2.1 x.2.2) (fun x => [(1, .arr t_impl_Node 5 0 .own (eL cN x.1))]) (fun _ => 2) := by
 refine FnSpecB.intro hT 0 (pf Tryz.func295) rfl (by kernel_rfl) Tryz.ntmps295 rfl rfl ?_
 intro v0
 conv => whnf
 refine .inr (.inr (.inr (.inr (.inl ⟨0, ?_⟩))))
 conv => whnf
 refine ⟨_, _, _, _, _, _, spec_l1Below_spec code i h _ hi hl, fun ⟨x, i1, h1'⟩ ⟨hx, hi1⟩ => ⟨rfl, ?_⟩⟩
 dsimp only at hx hi1
 conv => whnf
 have hx2 := hx.2.1 (by decide)
 rw [show wMul .i64 50 (wSub .i64 x 10) = 50 * (x - 10) by rw [wSub64, wMul64] <;> omega]
 refine .inl ⟨_, _, _, spec_OneLeaf_spec _, rfl, ?_⟩
 conv => whnf
 refine .inr (.inr (.inr (.inr (.inl ⟨0, ?_⟩))))
 conv => whnf
 refine ⟨_, _, _, _, _, _, spec_l1Below_spec code i1 h1' _ hi1 hl, fun ⟨n, i2, h2'⟩ ⟨hn, hi2⟩ => ⟨rfl, ?_⟩⟩
 dsimp only at hn hi2
 conv => whnf
 obtain ⟨m, rfl⟩ : ∃ m : Nat, n = m := ⟨n.toNat, by omega⟩
 have hm := hn.2.1 (by decide)
 refine tri_loop hT [0, 1, 4, 5, 6, 7] (α := Nat × List Nd × Int × Int) (fun x => { t := [(0, .w (.ptr 0 0) v0), (1, ai ft), (4, .c (.ptr 1 0)), (5, .c (.ptr 2 0)), (6, ai m), (7, ai x.1)], h := [(0, .box t_spec_l1Cur (cur code x.2.2.1 x.2.2.2)), (1, .box t_impl_Tree [.nl 5]), (2, .box t_impl_Tree [.ref 3 0 none]), (3, .arr t_impl_Node 5 0 .own (eL cN x.2.1))], n := 4, N := 54 })
  (fun x => x.1 ≤ m ∧ treeOk x.2.1 ft = true ∧ inCur code x.2.2) (fun x => m - x.1) (0, [⟨-1, 0, 0, 0, 50 * (x - 10)⟩], i2, h2') (by ((conv => whnf); simp only [eS])) ⟨Nat.zero_le _, treeOk_one _ ft (by omega) (by omega), hi2⟩ ?_
 intro ⟨k, t, i3, h3⟩ ⟨hk, ht, hi3⟩
 dsimp only at hk ht hi3
 conv => whnf
 have htl : t.length ≤ 31 := by simp [treeOk] at ht; omega
 have hsh : shapeOk t ft = true := by simp [treeOk] at ht; exact ht.2.2.1
 refine ifB_i (fun h1 => ?_) (fun h1 => ?_) <;> (conv => whnf) <;> simp only [eH] at h1
 ·refine .inr (.inl ⟨_, _, _, spec_LeavesOf_spec t (by omega), rfl, ⟨flat_cI _, trivial⟩, ?_⟩)
  conv => whnf
  have hlv := shape_leaves hsh
  have hlv2 := leavesK_len t 0
  refine .inr (.inr (.inr (.inr (.inl ⟨0, ?_⟩))))
  conv => whnf
  rw [show nInt (lenRE (eL cI (leavesK t 0)) none) = ((leavesK t 0).length : Int) by simp [lenRE]]
  refine ⟨_, _, _, _, _, _, spec_l1Below_spec code i3 h3 _ hi3 hl, fun ⟨q, i4, h4⟩ ⟨hq, hi4⟩ => ⟨rfl, ?_⟩⟩
  dsimp only at hq hi4
  obtain ⟨q, rfl⟩ : ∃ m : Nat, q = m := ⟨q.toNat, by omega⟩
  have hq2 := hq.2.1 (by omega)
  obtain ⟨p, hp⟩ := get_lt (show q < (leavesK t 0).length by omega)
  have hpl := leavesK_lt t 0 p (List.mem_of_getElem? hp)
  obtain ⟨p, rfl⟩ : ∃ m : Nat, p = m := ⟨p.toNat, by omega⟩
  have hpt : p < t.length := by omega
  conv => whnf
  refine ref_at rfl (by simp; omega) ?_
  conv => whnf
  refine ld_at (by simp) hp ?_
  conv => whnf
  refine tri_everyX hT hmix [0, 1, 4, 5, 6, 7, 10] (Y := List Nd × Int × Int) (fun y => 0 < y.1.length ∧ y.1.length ≤ t.length + 2 ∧ inCur code y.2) (fun y => { t := [(0, .w (.ptr 0 0) v0), (1, ai ft), (4, .c (.ptr 1 0)), (5, .c (.ptr 2 0)), (6, ai m), (7, ai k), (10, .c (.ptr 4 0))], h := [(0, .box t_spec_l1Cur (cur code y.2.1 y.2.2)), (1, .box t_impl_Tree [.nl 5]), (2, .box t_impl_Tree [.ref 3 0 none]), (3, .arr t_impl_Node 5 0 .own (eL cN t)), (4, .box t_impl_Tree [.ref 5 0 none]), (5, .arr t_impl_Node 5 0 .own (eL cN y.1))], n := 6, N := 54 }) rfl ?_ ?_
  ·repeat' first
    | (refine anyV_one rfl ?_; (conv => whnf))
    | (refine anyV_two rfl ?_ ?_ <;> (conv => whnf))
    | (refine anyV_three rfl ?_ ?_ ?_ <;> (conv => whnf))
    | (refine .inr (.inr (.inr (.inr (.inl ⟨0, ?_⟩)))); (conv => whnf); refine ⟨_, _, _, _, _, _, spec_l1Below_spec code _ _ _ (by first | exact hj | exact hi4) hl, fun ⟨x, j, g⟩ ⟨hx, hj⟩ => ⟨rfl, ?_⟩⟩; dsimp only at hx hj; (conv => whnf))
    | (refine .inr (.inr (.inr (.inr (.inr (.inr ⟨_, _, _, _, _, spec_l17Grown_spec t ft hsh htl p hpt ⟨_, _, 0, 0, 0⟩ _ _, fun t' ht' => ⟨rfl, ⟨flat_nodes _, trivial⟩, ?_⟩⟩))))); (conv => whnf))
   all_goals refine anyV_end rfl ?_
   all_goals refine ⟨(t', j, g), ⟨ht'.1, ht'.2, hj⟩, ?_⟩
   all_goals (conv => whnf)
  ·intro ⟨t', i5, h5⟩ ⟨hy1, hy2, hy3⟩
   dsimp only at hy1 hy2 hy3
   conv => whnf
   refine .inr (.inl ⟨_, _, _, spec_TreeOk_spec t' ft (by omega), rfl, trivial, ?_⟩)
   conv => whnf
   refine ifB_i (fun h2 => ?_) (fun h2 => ?_) <;> (conv => whnf)
   ·refine ⟨(k + 1, t', i5, h5), by dsimp only; omega, ⟨by dsimp only; omega, h2, hy3⟩, ?_⟩
    ((conv => whnf); simp only [eS])
    exact wI (show k < m by omega) (by omega)
   ·refine ⟨(k + 1, t, i5, h5), by dsimp only; omega, ⟨by dsimp only; omega, ht, hy3⟩, ?_⟩
    ((conv => whnf); simp only [eS])
    exact wI (show k < m by omega) (by omega)
 ·refine ⟨(t, i3, h3), ⟨ht, hi3⟩, ?_⟩
  conv => whnf
end Go.H.S
namespace Go.H.S
open Go Go.Proofs Go.H
attribute [local irreducible] Tri FnSpec FnSpecM FnSpecX FnSpecJ FnSpecB
theorem spec_l1PickInt_of (code : List Int) (i h : Int) (es : List (List D)) (l : List Int) (he : es = eL cI l) (hi : 0 ≤ i ∧ i ≤ code.length) (hl : code.length ≤ 1048576) (hne : 0 < l.length) (hll : l.length ≤ 1048576) : FnSpecB PR f_spec_l1PickInt [.c (.ptr 0 0), .c (.d (.sl 1 es))] t_spec_l1Cur (cur code i h) (Int × Int × Int)
  (fun x => x.1 ∈ l ∧ inCur code x.2) (fun x => ai x.1) (fun x => cur code x.2.1 x.2.2) (fun _ => []) (fun _ => 1) := he ▸ spec_l1PickInt_spec code i h l hi hl hne hll
theorem part_eL {α : Type} (f : α → List D) (xs : List α) (b : Bool) (o n : Nat) : partOf (eL f xs) (some (b, o, n)) = eL f ((xs.drop o).take n) := by
 simp only [partOf, dPart_eq, eL, List.map_drop, List.map_take]
theorem nodes_set (ns : List Nd) {k' k : Nat} (x y : Nd) {j : Nat} {ds : List D} (hk : k' = k) (h : dOver (cN x) j ds = cN y) : dSet (eL cN ns) k' (dOver (cN x) j ds) = eL cN (ns.set k y) := by
 rw [h, hk]
 exact eL_set cN ns k y
set_option maxHeartbeats 4000000 in
theorem spec_l17Bent_spec (code : List Int) (i h : Int) (hi : inCur code (i, h)) (hl : code.length ≤ 1048576) : FnSpecB PR f_spec_l17Bent [.c (.ptr 0 0)] t_spec_l1Cur (cur code i h) (List Nd × Int × Int)
  (fun x => x.1.length ≤ 32 ∧ inCur code x.2) (fun x => aT x.1) (fun x => cur code x.2.1 x.2.2) (fun _ => []) (fun _ => 1) := by
 refine FnSpecB.intro hT 0 (pf Tryz.func239) rfl (by kernel_rfl) Tryz.ntmps239 rfl rfl ?_
 intro v0
 conv => whnf
 refine .inr (.inr (.inr (.inr (.inl ⟨0, ?_⟩))))
 conv => whnf
 refine ⟨_, _, _, _, _, _, spec_l1Below_spec code i h _ hi hl, fun ⟨x, i1, h1⟩ ⟨hx, hi1⟩ => ⟨rfl, ?_⟩⟩
 dsimp only at hx hi1
 have hx2 := hx.2.1 (by decide)
 conv => whnf
 refine .inr (.inr (.inr (.inr (.inl ⟨0, ?_⟩))))
 conv => whnf
 rw [show wAdd .i64 1 x = 1 + x from wAdd64 (by omega) (by omega)]
 refine ⟨_, _, _, _, _, _, spec_l17Right_spec code i1 h1 (1 + x) hi1 hl (by omega), fun ⟨t, i2, h2⟩ ⟨ht, hi2⟩ => ⟨rfl, ?_⟩⟩
 dsimp only at ht hi2
 have htl : 1 ≤ t.length ∧ t.length ≤ 31 := by simp [treeOk] at ht; omega
 conv => whnf
 refine .inr (.inr (.inr (.inr (.inl ⟨0, ?_⟩))))
 conv => whnf
 rw [show nInt (lenRE (eL cN (t, i2, h2).1) none) = (t.length : Int) by simp [lenRE]]
 refine ⟨_, _, _, _, _, _, spec_l1Below_spec code i2 h2 t.length hi2 hl, fun ⟨k, i3, h3⟩ ⟨hk, hi3⟩ => ⟨rfl, ?_⟩⟩
 dsimp only at hk hi3
 obtain ⟨k, rfl⟩ : ∃ m : Nat, k = m := ⟨k.toNat, by omega⟩
 have hk2 := hk.2.1 (by omega)
 obtain ⟨n, hn⟩ := get_lt (show k < t.length by omega)
 conv => whnf
 refine .inr (.inr (.inr (.inr (.inl ⟨0, ?_⟩))))
 conv => whnf
 refine ⟨_, _, _, _, _, _, spec_l1Below_spec code i3 h3 _ hi3 hl, fun ⟨q, i4, h4⟩ ⟨hq, hi4⟩ => ⟨rfl, ?_⟩⟩
 dsimp only at hq hi4
 conv => whnf
 refine ifB_i (fun g0 => ?_) (fun g0 => ?_) <;> (conv => whnf)
 ·refine tri_everyX hT hmix [0, 2, 3] (Y := List Nd × Int × Int) (fun y => y.1.length ≤ 32 ∧ inCur code y.2) (fun y => { t := [(0, .w (.ptr 0 0) v0), (2, .c (.ptr 1 0)), (3, .c (.ptr 2 0))], h := [(0, .box t_spec_l1Cur (cur code y.2.1 y.2.2)), (1, .box t_impl_Tree [.nl 5]), (2, .box t_impl_Tree [.ref 3 0 none]), (3, .arr t_impl_Node 5 0 .own (eL cN y.1))], n := 4, N := 85 }) rfl ?_ ?_
  ·repeat' first
    | (refine anyV_one rfl ?_; (conv => whnf))
    | (refine anyV_two rfl ?_ ?_ <;> (conv => whnf))
    | (refine anyV_three rfl ?_ ?_ ?_ <;> (conv => whnf))
    | (refine .inr (.inr (.inr (.inr (.inl ⟨0, ?_⟩)))); (conv => whnf); refine ⟨_, _, _, _, _, _, spec_l1PickInt_of code _ _ _ [-1, 0, 1, 4, -2, 9223372036854775807] (by simp [eL, cI]) hi4 hl (by simp) (by simp), fun ⟨y, j, g⟩ ⟨hy, hj⟩ => ⟨rfl, ?_⟩⟩; dsimp only at hy hj; (conv => whnf))
    | (refine ref_at rfl (by simp; omega) ?_; (conv => whnf))
    | (refine st_at (k := k) (by simp) hn (by simp [cN]) ?_; (conv => whnf))
   all_goals refine anyV_end rfl ?_
   all_goals refine ⟨(t.set k ⟨y, n.c, n.l, n.r, n.v⟩, j, g), ⟨by simp; omega, hj⟩, ?_⟩
   all_goals ((conv => whnf); simp only [eS])
   all_goals exact nodes_set t n _ (by simp) (by simp [dOver, cN, over])
  ·intro ⟨t', i5, h5⟩ ⟨hy1, hy2⟩
   dsimp only at hy1 hy2
   conv => whnf
   refine ⟨(t', i5, h5), ⟨hy1, hy2⟩, ?_⟩
   conv => whnf
   rfl
 refine ifB_i (fun g1 => ?_) (fun g1 => ?_) <;> (conv => whnf)
 ·refine tri_everyX hT hmix [0, 2, 3] (Y := List Nd × Int × Int) (fun y => y.1.length ≤ 32 ∧ inCur code y.2) (fun y => { t := [(0, .w (.ptr 0 0) v0), (2, .c (.ptr 1 0)), (3, .c (.ptr 2 0))], h := [(0, .box t_spec_l1Cur (cur code y.2.1 y.2.2)), (1, .box t_impl_Tree [.nl 5]), (2, .box t_impl_Tree [.ref 3 0 none]), (3, .arr t_impl_Node 5 0 .own (eL cN y.1))], n := 4, N := 85 }) rfl ?_ ?_
  ·repeat' first
    | (refine anyV_one rfl ?_; (conv => whnf))
    | (refine anyV_two rfl ?_ ?_ <;> (conv => whnf))
    | (refine anyV_three rfl ?_ ?_ ?_ <;> (conv => whnf))
    | (refine .inr (.inr (.inr (.inr (.inl ⟨0, ?_⟩)))); (conv => whnf); refine ⟨_, _, _, _, _, _, spec_l1PickInt_of code _ _ _ [0, 1, 2147483648, -2147483648, 500] (by simp [eL, cI]) hi4 hl (by simp) (by simp), fun ⟨y, j, g⟩ ⟨hy, hj⟩ => ⟨rfl, ?_⟩⟩; dsimp only at hy hj; (conv => whnf))
    | (refine ref_at rfl (by simp; omega) ?_; (conv => whnf))
    | (refine st_at (k := k) (by simp) hn (by simp [cN]) ?_; (conv => whnf))
   all_goals refine anyV_end rfl ?_
   all_goals refine ⟨(t.set k ⟨n.f, y, n.l, n.r, n.v⟩, j, g), ⟨by simp; omega, hj⟩, ?_⟩
   all_goals ((conv => whnf); simp only [eS])
   all_goals exact nodes_set t n _ (by simp) (by simp [dOver, cN, over])
  ·intro ⟨t', i5, h5⟩ ⟨hy1, hy2⟩
   dsimp only at hy1 hy2
   conv => whnf
   refine ⟨(t', i5, h5), ⟨hy1, hy2⟩, ?_⟩
   conv => whnf
   rfl
 refine ifB_i (fun g2 => ?_) (fun g2 => ?_) <;> (conv => whnf)
 ·refine tri_everyX hT hmix [0, 2, 3] (Y := List Nd × Int × Int) (fun y => y.1.length ≤ 32 ∧ inCur code y.2) (fun y => { t := [(0, .w (.ptr 0 0) v0), (2, .c (.ptr 1 0)), (3, .c (.ptr 2 0))], h := [(0, .box t_spec_l1Cur (cur code y.2.1 y.2.2)), (1, .box t_impl_Tree [.nl 5]), (2, .box t_impl_Tree [.ref 3 0 none]), (3, .arr t_impl_Node 5 0 .own (eL cN y.1))], n := 4, N := 85 }) rfl ?_ ?_
  ·repeat' first
    | (refine anyV_one rfl ?_; (conv => whnf))
    | (refine anyV_two rfl ?_ ?_ <;> (conv => whnf))
    | (refine anyV_three rfl ?_ ?_ ?_ <;> (conv => whnf))
    | (refine .inr (.inr (.inr (.inr (.inl ⟨0, ?_⟩)))); (conv => whnf); refine ⟨_, _, _, _, _, _, spec_l1PickInt_of code _ _ _ [0, 1, 2, -1, 40, (k : Int)] (by simp [eL, cI]) hi4 hl (by simp) (by simp), fun ⟨y, j, g⟩ ⟨hy, hj⟩ => ⟨rfl, ?_⟩⟩; dsimp only at hy hj; (conv => whnf))
    | (refine ref_at rfl (by simp; omega) ?_; (conv => whnf))
    | (refine st_at (k := k) (by simp) hn (by simp [cN]) ?_; (conv => whnf))
   all_goals refine anyV_end rfl ?_
   all_goals refine ⟨(t.set k ⟨n.f, n.c, y, n.r, n.v⟩, j, g), ⟨by simp; omega, hj⟩, ?_⟩
   all_goals ((conv => whnf); simp only [eS])
   all_goals exact nodes_set t n _ (by simp) (by simp [dOver, cN, over])
  ·intro ⟨t', i5, h5⟩ ⟨hy1, hy2⟩
   dsimp only at hy1 hy2
   conv => whnf
   refine ⟨(t', i5, h5), ⟨hy1, hy2⟩, ?_⟩
   conv => whnf
   rfl
 refine ifB_i (fun g3 => ?_) (fun g3 => ?_) <;> (conv => whnf)
 ·refine tri_everyX hT hmix [0, 2, 3] (Y := List Nd × Int × Int) (fun y => y.1.length ≤ 32 ∧ inCur code y.2) (fun y => { t := [(0, .w (.ptr 0 0) v0), (2, .c (.ptr 1 0)), (3, .c (.ptr 2 0))], h := [(0, .box t_spec_l1Cur (cur code y.2.1 y.2.2)), (1, .box t_impl_Tree [.nl 5]), (2, .box t_impl_Tree [.ref 3 0 none]), (3, .arr t_impl_Node 5 0 .own (eL cN y.1))], n := 4, N := 85 }) rfl ?_ ?_
  ·repeat' first
    | (refine anyV_one rfl ?_; (conv => whnf))
    | (refine anyV_two rfl ?_ ?_ <;> (conv => whnf))
    | (refine anyV_three rfl ?_ ?_ ?_ <;> (conv => whnf))
    | (refine .inr (.inr (.inr (.inr (.inl ⟨0, ?_⟩)))); (conv => whnf); refine ⟨_, _, _, _, _, _, spec_l1PickInt_of code _ _ _ [0, 1, 2, -1, 40, (k : Int)] (by simp [eL, cI]) hi4 hl (by simp) (by simp), fun ⟨y, j, g⟩ ⟨hy, hj⟩ => ⟨rfl, ?_⟩⟩; dsimp only at hy hj; (conv => whnf))
    | (refine ref_at rfl (by simp; omega) ?_; (conv => whnf))
    | (refine st_at (k := k) (by simp) hn (by simp [cN]) ?_; (conv => whnf))
   all_goals refine anyV_end rfl ?_
   all_goals refine ⟨(t.set k ⟨n.f, n.c, n.l, y, n.v⟩, j, g), ⟨by simp; omega, hj⟩, ?_⟩
   all_goals ((conv => whnf); simp only [eS])
   all_goals exact nodes_set t n _ (by simp) (by simp [dOver, cN, over])
  ·intro ⟨t', i5, h5⟩ ⟨hy1, hy2⟩
   dsimp only at hy1 hy2
   conv => whnf
   refine ⟨(t', i5, h5), ⟨hy1, hy2⟩, ?_⟩
   conv => whnf
   rfl
 refine ifB_i (fun g4 => ?_) (fun g4 => ?_) <;> (conv => whnf)
 ·refine tri_everyX hT hmix [0, 2, 3] (Y := List Nd × Int × Int) (fun y => y.1.length ≤ 32 ∧ inCur code y.2) (fun y => { t := [(0, .w (.ptr 0 0) v0), (2, .c (.ptr 1 0)), (3, .c (.ptr 2 0))], h := [(0, .box t_spec_l1Cur (cur code y.2.1 y.2.2)), (1, .box t_impl_Tree [.nl 5]), (2, .box t_impl_Tree [.ref 3 0 none]), (3, .arr t_impl_Node 5 0 .own (eL cN y.1))], n := 4, N := 85 }) rfl ?_ ?_
  ·repeat' first
    | (refine anyV_one rfl ?_; (conv => whnf))
    | (refine anyV_two rfl ?_ ?_ <;> (conv => whnf))
    | (refine anyV_three rfl ?_ ?_ ?_ <;> (conv => whnf))
    | (refine .inr (.inr (.inr (.inr (.inl ⟨0, ?_⟩)))); (conv => whnf); refine ⟨_, _, _, _, _, _, spec_l1PickInt_of code _ _ _ [0, 1, 1099511627776, 1099511627777, -1099511627777] (by simp [eL, cI]) hi4 hl (by simp) (by simp), fun ⟨y, j, g⟩ ⟨hy, hj⟩ => ⟨rfl, ?_⟩⟩; dsimp only at hy hj; (conv => whnf))
    | (refine ref_at rfl (by simp; omega) ?_; (conv => whnf))
    | (refine st_at (k := k) (by simp) hn (by simp [cN]) ?_; (conv => whnf))
   all_goals refine anyV_end rfl ?_
   all_goals refine ⟨(t.set k ⟨n.f, n.c, n.l, n.r, y⟩, j, g), ⟨by simp; omega, hj⟩, ?_⟩
   all_goals ((conv => whnf); simp only [eS])
   all_goals exact nodes_set t n _ (by simp) (by simp [dOver, cN, over])
  ·intro ⟨t', i5, h5⟩ ⟨hy1, hy2⟩
   dsimp only at hy1 hy2
   conv => whnf
   refine ⟨(t', i5, h5), ⟨hy1, hy2⟩, ?_⟩
   conv => whnf
   rfl
 refine ifB_i (fun g5 => ?_) (fun g5 => ?_) <;> (conv => whnf)
 ·refine And.intro (by unfold Fits; simp; omega) ?_
  conv => whnf
  refine ⟨(t ++ [⟨-1, 0, 0, 0, 0⟩], i4, h4), ⟨by simp; omega, hi4⟩, ?_⟩
  ((conv => whnf); simp only [eS, aT])
  simp only [partOf_none]
  rw [← eL_join]
  simp [eL, cN]
 refine ifB_i (fun g6 => ?_) (fun g6 => ?_) <;> (conv => whnf)
 ·refine And.intro (by simp [lenRE]; omega) ?_
  conv => whnf
  refine ⟨(t.take k, i4, h4), ⟨by simp; omega, hi4⟩, ?_⟩
  ((conv => whnf); simp only [eS, aT])
  rw [part_eL]
  simp
 refine ⟨(t, i4, h4), ⟨by dsimp only; omega, hi4⟩, ?_⟩
 conv => whnf
 rfl
end Go.H.S
namespace Go.H.S
open Go Go.Proofs Go.H
theorem hplain : ∀ t ti, Tp t = some ti → plainT Tp ti = true := plain_tab (tab := ptab) (by kernel_rfl)
def i64 (x : Int) : Prop := -9223372036854775808 ≤ x ∧ x ≤ 9223372036854775807
theorem ty_bytes {n : Nat} {c : List D} (h : TyD Tp n t_Luint8 c) : ∃ x : List Int, c = [.sl 1 (eL (fun y => [D.int .u8 y]) x)] ∧ (x.length ≤ 9223372036854775807 ∧ ∀ y ∈ x, 0 ≤ y ∧ y ≤ 255) := by
 obtain ⟨es, e, b, f⟩ := h.slice rfl rfl rfl
 obtain ⟨l, rfl, q, k⟩ := eL_of (f := fun y => [D.int .u8 y]) (ok := fun y => 0 ≤ y ∧ y ≤ 255) (fun c hc => (let ⟨_, hm⟩ := f c hc; by
  obtain ⟨x, h1, h2⟩ := hm.int rfl rfl
  refine ⟨x, h1, ?_⟩
  unfold Lit.wf at h2
  simp only [Bool.and_eq_true, decide_eq_true_eq] at h2
  exact ⟨h2.1, h2.2⟩))
 exact ⟨l, by rw [e], by omega, k⟩
end Go.H.S
namespace Go.H.S
open Go Go.Proofs Go.H
attribute [local irreducible] Tri FnSpec FnSpecM
end Go.H.S
namespace Go.H.S
open Go Go.Proofs Go.H
attribute [local irreducible] Tri FnSpec FnSpecM FnSpecX FnSpecJ
end Go.H.S
namespace Go.H.S
open Go Go.Proofs Go.H
attribute [local irreducible] Tri FnSpec FnSpecM FnSpecX FnSpecJ
end Go.H.S
namespace Go.H.S
open Go Go.Proofs Go.H
attribute [local irreducible] Tri FnSpec FnSpecM FnSpecX FnSpecJ
theorem spec_l17Copy_spec (t : List Nd) (hl : t.length ≤ 1000000000) : FnSpec PR f_spec_l17Copy [aT t] (.agg [.ref 0 0 none]) [(0, .arr t_impl_Node 5 0 .own (eL cN t))] 1 := by
 refine FnSpec.intro hT (pf Tryz.func272) rfl (by kernel_rfl) Tryz.ntmps272 rfl ?_
 conv => whnf
 refine And.intro (by simp [eL_length, dLen_len]; omega) ?_
 conv => whnf
 ((conv => whnf); simp only [eS, dApp_nil])
 done
end Go.H.S
