/- Library, part W: TreeOk of the program; it is the reference's. -/
import Derived.Test.YtdolkacinfjhcaaGreatLV
set_option maxRecDepth 100000
set_option linter.unusedSimpArgs false
set_option linter.unusedVariables false
namespace Go.H.S
open Go Go.Proofs Go.H
attribute [local irreducible] Tri z6 zR zV
theorem z5P (x : Int) : z6 PR z98 [ai x] (ab (decide (-2147483647 ≤ x ∧ x ≤ 2147483647))) [] 0 := by
 refine z6.intro hT (pf Tryz.func235) rfl (by kernel_rfl) Tryz.ntmps235 rfl ?_
 conv => whnf
 refine .inl ⟨_, _, _, zP _ _ _, rfl, ?_⟩
 conv => whnf
theorem wN (x : Int) : z6 PR z6g [ai x] (ab (decide (-1099511627776 ≤ x ∧ x ≤ 1099511627776))) [] 0 := by
 refine z6.intro hT (pf Tryz.func234) rfl (by kernel_rfl) Tryz.ntmps234 rfl ?_
 conv => whnf
 refine .inl ⟨_, _, _, zP _ _ _, rfl, ?_⟩
 conv => whnf
end Go.H.S
namespace Go.H.S
open Go Go.Proofs Go.H
attribute [local irreducible] Tri z6 zR zV zY zW
def cU (n : Int) : List D := [.int .u8 n]
abbrev cur (code : List Int) (i h : Int) : List CV := [.d (.sl 1 (eL cU code)), .d (.int .i64 i), .d (.int .i64 h)]
theorem zIR (x : Int) : 0 ≤ wAnd .i64 x 255 ∧ wAnd .i64 x 255 ≤ 255 := by
 unfold wAnd z2o
 have h : ((BitVec.ofInt IntKind.i64.bits x &&& BitVec.ofInt IntKind.i64.bits 255).toNat) ≤ 255 := by
  rw [BitVec.toNat_and]
  exact Nat.and_le_right
 rw [z7v] <;> omega
set_option maxHeartbeats 4000000 in
theorem yg (code : List Int) (i h : Int) (hi : 0 ≤ i ∧ i ≤ code.length) (hl : code.length ≤ 1048576) : zW PR zDW [.c (.ptr 0 0)] zH (cur code i h) (Int × Int × Int) (fun x => (0 ≤ x.1 ∧ x.1 ≤ 255) ∧ 0 ≤ x.2.1 ∧ x.2.1 ≤ code.length) (fun x => ai x.1) (fun x => cur code x.2.1 x.2.2) (fun _ => []) (fun _ => 1) := by
 refine zW.intro hT 0 (pf Tryz.func290) rfl (by kernel_rfl) Tryz.ntmps290 rfl rfl ?_
 intro v0
 conv => whnf
 refine yN hT hmix (by kernel_rfl) ?_
 conv => whnf
 refine And.intro (by simp) ?_
 conv => whnf
 refine And.intro (by simp) ?_
 conv => whnf
 refine yN hT hmix (by kernel_rfl) ?_
 conv => whnf
 generalize hh : wAdd .i64 (wMul .i64 h 6364136223846793005) 1442695040888963407 = h1
 have hb := zIR (wXor .i64 (wShr .i64 h1 33) (wShr .i64 h1 45))
 generalize wAnd .i64 (wXor .i64 (wShr .i64 h1 33) (wShr .i64 h1 45)) 255 = x at *
 refine zK (fun h2 => ?_) (fun h2 => ?_) <;> (conv => whnf) <;> simp only [eH] at h2
 ·obtain ⟨k, rfl⟩ : ∃ k : Nat, i = k := ⟨i.toNat, by omega⟩
  obtain ⟨y, hy⟩ := zI (show k < code.length by omega)
  refine zJ hT hmix [0, 3] { t := [(0, .w (.ptr 0 0) v0), (3, ai (wAnd .i64 (wAdd .i64 x (z2K .i64 y)) 255))], h := [(0, .box zH (cur code k h1))], n := 1, N := 58 } rfl ?_ ?_
  ·repeat' first
    | (refine zM rfl ?_; (conv => whnf))
    | (refine zL rfl ?_ ?_ <;> (conv => whnf))
    | (refine zC rfl ?_ ?_ ?_ <;> (conv => whnf))
    | (refine zO rfl ?_; (conv => whnf))
    | (refine zG (by simp) hy ?_; (conv => whnf))
  conv => whnf
  have hb2 := zIR (wAdd .i64 x (z2K .i64 y))
  refine ⟨(wAnd .i64 (wAdd .i64 x (z2K .i64 y)) 255, (k : Int) + 1, h1), ⟨hb2, by dsimp only; omega, by dsimp only; omega⟩, ?_⟩
  ((conv => whnf); simp only [eS, y6 (show -9223372036854775808 ≤ (k : Int) + 1 by omega) (by omega)])
 ·refine ⟨(x, i, h1), ⟨hb, hi⟩, ?_⟩
  conv => whnf
theorem zGq {x n : Int} (hx : 0 ≤ x) (hn : 0 < n) : 0 ≤ wRem x n ∧ wRem x n < n := by
 unfold wRem
 rw [Int.tmod_eq_emod_of_nonneg hx]
 exact ⟨Int.emod_nonneg _ (by omega), Int.emod_lt_of_pos _ hn⟩
def yK (code : List Int) (x : Int × Int) : Prop := 0 ≤ x.1 ∧ x.1 ≤ code.length
theorem zA (code : List Int) (i h n : Int) (hi : 0 ≤ i ∧ i ≤ code.length) (hl : code.length ≤ 1048576) : zW PR zBS [.c (.ptr 0 0), ai n] zH (cur code i h) (Int × Int × Int)
  (fun x => (0 ≤ x.1 ∧ (0 < n → x.1 < n) ∧ (n ≤ 0 → x.1 = 0)) ∧ yK code x.2) (fun x => ai x.1) (fun x => cur code x.2.1 x.2.2) (fun _ => []) (fun _ => 1) := by
 refine zW.intro hT 0 (pf Tryz.func221) rfl (by kernel_rfl) Tryz.ntmps221 rfl rfl ?_
 intro v0
 conv => whnf
 refine zK (fun h1 => ?_) (fun h1 => ?_) <;> (conv => whnf) <;> simp only [eH] at h1
 ·refine ⟨(0, i, h), ⟨⟨by omega, fun q => by omega, fun _ => rfl⟩, hi⟩, ?_⟩
  conv => whnf
 refine zK (fun h2 => ?_) (fun h2 => ?_) <;> (conv => whnf) <;> simp only [eH] at h2
 ·refine .inr (.inr (.inr (.inr (.inl ⟨0, ?_⟩))))
  conv => whnf
  refine ⟨_, _, _, _, _, _, yg code i h hi hl, fun ⟨x, i1, h1'⟩ ⟨hx, hi1⟩ => ⟨rfl, ?_⟩⟩
  dsimp only at hx hi1
  conv => whnf
  refine And.intro (by simp; omega) ?_
  conv => whnf
  have hm := zGq hx.1 (show 0 < n by omega)
  refine ⟨(wRem x n, i1, h1'), ⟨⟨hm.1, fun _ => hm.2, fun q => by omega⟩, hi1⟩, ?_⟩
  conv => whnf
 refine .inr (.inr (.inr (.inr (.inl ⟨0, ?_⟩))))
 conv => whnf
 refine ⟨_, _, _, _, _, _, yg code i h hi hl, fun ⟨x, i1, h1'⟩ ⟨hx, hi1⟩ => ⟨rfl, ?_⟩⟩
 dsimp only at hx hi1
 conv => whnf
 refine .inr (.inr (.inr (.inr (.inl ⟨0, ?_⟩))))
 conv => whnf
 refine ⟨_, _, _, _, _, _, yg code i1 h1' hi1 hl, fun ⟨y, i2, h2'⟩ ⟨hy, hi2⟩ => ⟨rfl, ?_⟩⟩
 dsimp only at hy hi2
 conv => whnf
 refine .inr (.inr (.inr (.inr (.inl ⟨0, ?_⟩))))
 conv => whnf
 refine ⟨_, _, _, _, _, _, yg code i2 h2' hi2 hl, fun ⟨z, i3, h3'⟩ ⟨hz, hi3⟩ => ⟨rfl, ?_⟩⟩
 dsimp only at hz hi3
 conv => whnf
 refine .inr (.inr (.inr (.inr (.inl ⟨0, ?_⟩))))
 conv => whnf
 refine ⟨_, _, _, _, _, _, yg code i3 h3' hi3 hl, fun ⟨w, i4, h4'⟩ ⟨hw, hi4⟩ => ⟨rfl, ?_⟩⟩
 dsimp only at hw hi4
 conv => whnf
 refine And.intro (by simp; omega) ?_
 conv => whnf
 have e1 : wMul .i64 x 16777216 = x * 16777216 := z1S (by omega) (by omega)
 have e2 : wMul .i64 y 65536 = y * 65536 := z1S (by omega) (by omega)
 have e3 : wMul .i64 z 256 = z * 256 := z1S (by omega) (by omega)
 rw [e1, e2, e3]
 rw [y6 (x := x * 16777216) (y := y * 65536) (by omega) (by omega)]
 rw [y6 (x := x * 16777216 + y * 65536) (y := z * 256) (by omega) (by omega)]
 rw [y6 (x := x * 16777216 + y * 65536 + z * 256) (y := w) (by omega) (by omega)]
 have hm := zGq (x := x * 16777216 + y * 65536 + z * 256 + w) (by omega) (show 0 < n by omega)
 refine ⟨(wRem (x * 16777216 + y * 65536 + z * 256 + w) n, i4, h4'), ⟨⟨hm.1, fun _ => hm.2, fun q => by omega⟩, hi4⟩, ?_⟩
 conv => whnf
theorem z5D (code : List Int) (i h : Int) (l : List Int) (hi : 0 ≤ i ∧ i ≤ code.length) (hl : code.length ≤ 1048576) (hne : 0 < l.length) (hll : l.length ≤ 1048576) : zW PR z3S [.c (.ptr 0 0), aIs l] zH (cur code i h) (Int × Int × Int)
  (fun x => x.1 ∈ l ∧ yK code x.2) (fun x => ai x.1) (fun x => cur code x.2.1 x.2.2) (fun _ => []) (fun _ => 1) := by
 refine zW.intro hT 0 (pf Tryz.func223) rfl (by kernel_rfl) Tryz.ntmps223 rfl rfl ?_
 intro v0
 conv => whnf
 refine .inr (.inr (.inr (.inr (.inl ⟨0, ?_⟩))))
 conv => whnf
 rw [show nInt (dLen (eL cI l)) = (l.length : Int) by simp]
 refine ⟨_, _, _, _, _, _, zA code i h l.length hi hl, fun ⟨x, i1, h1'⟩ ⟨hx, hi1⟩ => ⟨rfl, ?_⟩⟩
 dsimp only at hx hi1
 conv => whnf
 obtain ⟨k, rfl⟩ : ∃ k : Nat, x = k := ⟨x.toNat, by omega⟩
 obtain ⟨y, hy⟩ := zI (show k < l.length by have := hx.2.1 (by omega); omega)
 refine zG (by simp) hy ?_
 conv => whnf
 refine ⟨(y, i1, h1'), ⟨List.mem_of_getElem? hy, hi1⟩, ?_⟩
 conv => whnf
end Go.H.S
namespace Go.H.S
open Go Go.Proofs Go.H
attribute [local irreducible] Tri z6 zR zV zY zW
theorem z9c (code : List Int) (hl : code.length ≤ 1048576) : zV PR zFV [.c (.d (.sl 1 (eL cU code)))] Int (fun _ => True) (fun _ => .c (.ptr 0 0)) (fun h => [(0, .box zH (cur code 0 h))]) (fun _ => 1) := by
 refine zV.intro hT (pf Tryz.func219) rfl (by kernel_rfl) Tryz.ntmps219 rfl ?_
 conv => whnf
 refine zB hT [0, 3, 4] (α := Nat × Int) (fun x => { t := [(0, .c (.d (.sl 1 (eL cU code)))), (3, ai x.2), (4, ai x.1)], h := [], n := 0, N := 32 })
  (fun x => x.1 ≤ code.length) (fun x => code.length - x.1) (0, wAdd .i64 28507 code.length) (by ((conv => whnf); simp only [eS])) (Nat.zero_le _) ?_
 intro ⟨k, h⟩ hk
 dsimp only at hk
 conv => whnf
 refine zK (fun h1 => ?_) (fun h1 => ?_) <;> (conv => whnf) <;> simp only [eH] at h1
 ·obtain ⟨y, hy⟩ := zI (show k < code.length by simpa using h1)
  refine zK (fun h2 => ?_) (fun h2 => ?_) <;> (conv => whnf)
  ·refine zG (by simp) hy ?_
   conv => whnf
   refine ⟨(k + 1, wAnd .i64 (wAdd .i64 (wAdd .i64 (wMul .i64 h 131) (z2K .i64 y)) 7) 1073741823), by dsimp only; omega, by dsimp only; omega, ?_⟩
   ((conv => whnf); simp only [eS, wI (show k < code.length by omega) (by omega)])
  ·refine ⟨h, trivial, ?_⟩
   conv => whnf
 ·refine ⟨h, trivial, ?_⟩
  conv => whnf
structure KidsOk (N : List Nd) : Prop where
 kid : ∀ {j : Nat} {n : Nd}, N[j]? = some n → n.f ≠ -1 → (j : Int) < n.l ∧ n.r = n.l + 1 ∧ n.r < N.length
 one : ∀ {j j' : Nat} {n n' : Nd}, N[j]? = some n → N[j']? = some n' → n.f ≠ -1 → n'.f ≠ -1 → ∀ x : Int, (n.l = x ∨ n.r = x) → (n'.l = x ∨ n'.r = x) → j = j'
theorem zFF : ∀ (M : Nat) (l : List Int), l.Nodup → (∀ x ∈ l, 0 ≤ x ∧ x < M) → l.length ≤ M
 | 0, l, hn, hl => by
  cases l with
  | nil => simp
  | cons x r => have := hl x (by simp); omega
 | M + 1, l, hn, hl => by
  have h1 := zFF M (l.erase (M : Int)) (hn.erase _) (fun x hx => by
   have hm := List.mem_of_mem_erase hx
   have hne : x ≠ (M : Int) := fun e => by
    subst e
    exact (List.Nodup.not_mem_erase hn) hx
   have := hl x hm
   omega)
  have h2 : l.length ≤ (l.erase (M : Int)).length + 1 := by
   rw [List.length_erase]
   split <;> omega
  omega
structure LvInv (N : List Nd) (i : Nat) (R : List Int) : Prop where
 le : i ≤ R.length
 nd : R.Nodup
 mem : ∀ x ∈ R, 0 ≤ x ∧ x < N.length
 src : ∀ x ∈ R, x = 0 ∨ ∃ (j p : Nat) (n : Nd), j < i ∧ R[j]? = some (p : Int) ∧ N[p]? = some n ∧ n.f ≠ -1 ∧ (n.l = x ∨ n.r = x)
theorem LvInv.len {N : List Nd} {i : Nat} {R : List Int} (h : LvInv N i R) : R.length ≤ N.length := zFF _ _ h.nd h.mem
theorem LvInv.leaf {N : List Nd} {i : Nat} {R : List Int} (h : LvInv N i R) (hi : i < R.length) : LvInv N (i + 1) R :=
 ⟨hi, h.nd, h.mem, fun x hx => (h.src x hx).imp id fun ⟨j, p, n, h1, h2⟩ => ⟨j, p, n, by omega, h2⟩⟩
end Go.H.S
namespace Go.H.S
open Go Go.Proofs Go.H
attribute [local irreducible] Tri z6 zR zV zY zW
end Go.H.S
namespace Go.H.S
open Go Go.Proofs Go.H
attribute [local irreducible] Tri z6 zR zV zY zW
theorem y7 (code : List Int) (i h : Int) (es : List (List D)) (l : List Int) (he : es = eL cI l) (hi : 0 ≤ i ∧ i ≤ code.length) (hl : code.length ≤ 1048576) (hne : 0 < l.length) (hll : l.length ≤ 1048576) : zW PR z3S [.c (.ptr 0 0), .c (.d (.sl 1 es))] zH (cur code i h) (Int × Int × Int)
  (fun x => x.1 ∈ l ∧ yK code x.2) (fun x => ai x.1) (fun x => cur code x.2.1 x.2.2) (fun _ => []) (fun _ => 1) := he ▸ z5D code i h l hi hl hne hll
theorem zJ0 {α : Type} (f : α → List D) (xs : List α) (b : Bool) (o n : Nat) : z0A (eL f xs) (some (b, o, n)) = eL f ((xs.drop o).take n) := by
 simp only [z0A, zEX, eL, List.map_drop, List.map_take]
end Go.H.S
namespace Go.H.S
open Go Go.Proofs Go.H
theorem hplain : ∀ t ti, Tp t = some ti → zFD Tp ti = true := zIy (tab := ptab) (by kernel_rfl)
def i64 (x : Int) : Prop := -9223372036854775808 ≤ x ∧ x ≤ 9223372036854775807
theorem wf_i64 {x : Int} (h : (Lit.int .i64 x).wf = true) : i64 x := by
 unfold Lit.wf at h
 simp only [Bool.and_eq_true, decide_eq_true_eq] at h
 exact ⟨h.1, h.2⟩
theorem ty_str {n : Nat} {c : List D} (h : TyD Tp n zy c) : ∃ x, c = cS x ∧ x.size ≤ 9223372036854775807 := h.str rfl rfl
theorem z7w {n : Nat} {c : List D} (h : TyD Tp n zZ c) : ∃ x, c = cI x ∧ i64 x := by
 obtain ⟨x, h1, h2⟩ := h.int rfl rfl
 exact ⟨x, h1, wf_i64 h2⟩
theorem zFy {n : Nat} {c : List D} (h : TyD Tp n yS c) : ∃ x, c = cIs x ∧ (x.length ≤ 9223372036854775807 ∧ ∀ y ∈ x, i64 y) := by
 obtain ⟨es, e, b, f⟩ := h.slice rfl rfl rfl
 obtain ⟨l, rfl, q, k⟩ := zJh (f := cI) (fun c hc => (let ⟨_, hm⟩ := f c hc; z7w hm))
 exact ⟨l, by rw [e]; rfl, by omega, k⟩
theorem zLu {n : Nat} {c : List D} (h : TyD Tp n zEq c) : ∃ x, c = cSs x ∧ (x.length ≤ 9223372036854775807 ∧ ∀ y ∈ x, y.size ≤ 9223372036854775807) := by
 obtain ⟨es, e, b, f⟩ := h.slice rfl rfl rfl
 obtain ⟨l, rfl, q, k⟩ := zJh (f := cS) (fun c hc => (let ⟨_, hm⟩ := f c hc; ty_str hm))
 exact ⟨l, by rw [e]; rfl, by omega, k⟩
theorem ty_bytes {n : Nat} {c : List D} (h : TyD Tp n zKf c) : ∃ x : List Int, c = [.sl 1 (eL (fun y => [D.int .u8 y]) x)] ∧ (x.length ≤ 9223372036854775807 ∧ ∀ y ∈ x, 0 ≤ y ∧ y ≤ 255) := by
 obtain ⟨es, e, b, f⟩ := h.slice rfl rfl rfl
 obtain ⟨l, rfl, q, k⟩ := zJh (f := fun y => [D.int .u8 y]) (ok := fun y => 0 ≤ y ∧ y ≤ 255) (fun c hc => (let ⟨_, hm⟩ := f c hc; by
  obtain ⟨x, h1, h2⟩ := hm.int rfl rfl
  refine ⟨x, h1, ?_⟩
  unfold Lit.wf at h2
  simp only [Bool.and_eq_true, decide_eq_true_eq] at h2
  exact ⟨h2.1, h2.2⟩))
 exact ⟨l, by rw [e], by omega, k⟩
def zH5 (x : Cfg) : Prop := i64 x.rounds ∧ i64 x.depth ∧ i64 x.bins ∧ i64 x.lambda ∧ i64 x.rows ∧ i64 x.num ∧ i64 x.den ∧ ∀ y ∈ x.signs, i64 y
theorem ty_config {n : Nat} {c : List D} (h : TyD Tp n zCs c) : ∃ x : Cfg, (z9L x ∧ zH5 x) ∧ c = [.int .i64 x.rounds, .int .i64 x.depth, .int .i64 x.bins, .int .i64 x.lambda, .int .i64 x.rows, .int .i64 x.num, .int .i64 x.den, .sl 1 (eL cI x.signs)] := by
 obtain ⟨hl, hf⟩ := h.struct (ti := _) rfl rfl
 obtain ⟨_, g0⟩ := hf (0, zZ) (by simp) _ rfl
 obtain ⟨_, g1⟩ := hf (1, zZ) (by simp) _ rfl
 obtain ⟨_, g2⟩ := hf (2, zZ) (by simp) _ rfl
 obtain ⟨_, g3⟩ := hf (3, zZ) (by simp) _ rfl
 obtain ⟨_, g4⟩ := hf (4, zZ) (by simp) _ rfl
 obtain ⟨_, g5⟩ := hf (5, zZ) (by simp) _ rfl
 obtain ⟨_, g6⟩ := hf (6, zZ) (by simp) _ rfl
 obtain ⟨_, g7⟩ := hf (7, yS) (by simp) _ rfl
 obtain ⟨x0, e0, r0⟩ := z7w g0
 obtain ⟨x1, e1, r1⟩ := z7w g1
 obtain ⟨x2, e2, r2⟩ := z7w g2
 obtain ⟨x3, e3, r3⟩ := z7w g3
 obtain ⟨x4, e4, r4⟩ := z7w g4
 obtain ⟨x5, e5, r5⟩ := z7w g5
 obtain ⟨x6, e6, r6⟩ := z7w g6
 obtain ⟨l7, e7, q7, k7⟩ := zFy g7
 refine ⟨⟨x0, x1, x2, x3, x4, x5, x6, l7⟩, ⟨q7, r0, r1, r2, r3, r4, r5, r6, k7⟩, ?_⟩
 match c, hl with
 | [c0, c1, c2, c3, c4, c5, c6, c7], _ =>
  simp [cIs, cI] at e0 e1 e2 e3 e4 e5 e6 e7
  simp [e0, e1, e2, e3, e4, e5, e6, e7]
end Go.H.S
namespace Go.H.S
open Go Go.Proofs Go.H
attribute [local irreducible] Tri z6 zR
theorem zHX {α : Type} (f : α → Nat) (l : List α) : l.length ≤ cost f l := by rw [z7n]; omega
theorem zIC {α : Type} (f : α → Nat) (l : List α) : wh f l ≤ cost f l := by rw [z7n]; omega
theorem zLn {c : Nat} (h : 0 ≤ bud 1048576 c) : c ≤ 1048576 := by have := (z7r h).1; omega
end Go.H.S
namespace Go.H.S
open Go Go.Proofs Go.H
attribute [local irreducible] Tri z6 zR zV zY
theorem zMS (xs : List ByteArray) : z6s (eL cS xs) := fun c hc d hd => by
 rw [eL] at hc
 obtain ⟨x, _, rfl⟩ := List.mem_map.1 hc
 simp [cS] at hd
 subst hd; rfl
theorem zKW {n : Nat} : wRem (n : Int) 10 = ((n % 10 : Nat) : Int) := by
 unfold wRem
 rw [Int.tmod_eq_emod_of_nonneg (by omega)]
 omega
theorem zKX {n : Nat} (h : n ≤ 9223372036854775807) : wQuo .i64 (n : Int) 10 = ((n / 10 : Nat) : Int) := by
 unfold wQuo
 rw [Int.tdiv_eq_ediv_of_nonneg (by omega), z7v (by omega) (by omega)]
 omega
def z9x (k : Int) : Nat → List Int
 | 0 => []
 | n + 1 => k :: z9x (k + 1) n
theorem z9w : ∀ (n : Nat) (k : Int), (z9x k n).length = n
 | 0, _ => rfl
 | n + 1, k => by simp [z9x, z9w n]
theorem zFL : ∀ (n : Nat) (k : Int) (j : Nat), j < n → (z9x k n)[j]? = some (k + j)
 | 0, _, _, h => by omega
 | n + 1, k, 0, _ => by simp [z9x]
 | n + 1, k, j + 1, h => by simp only [z9x, List.getElem?_cons_succ]; rw [zFL n (k + 1) j (by omega)]; congr 1; omega
theorem z2z (xs : List Int) (k : Int) (hk : 0 ≤ k ∧ k ≤ 1000000000000) (hx : xs.length ≤ 1000000000) : zR PR zAX [.c (.ref 0 0 none), ai k] zZ 1 (eL cI xs) (ai (k + xs.length)) (eL cI (z9x k xs.length)) := by
 refine zR.intro hT 0 (pf Tryz.func141) rfl (by kernel_rfl) Tryz.ntmps141 rfl rfl (by simp [zE, z9w]) rfl (z0G _) ?_
 intro v0
 conv => whnf
 refine zB hT [0, 1, 5] (α := Nat × List Int) (fun x => { t := [(0, .w (.ref 0 0 none) v0), (1, ai (k + x.1)), (5, ai x.1)], h := [(0, .arr zZ 1 0 .own (eL cI x.2))], n := 1, N := 19 })
  (fun x => x.1 ≤ xs.length ∧ x.2.length = xs.length ∧ ∀ j, j < x.1 → x.2[j]? = some (k + j)) (fun x => xs.length - x.1) (0, xs) (by ((conv => whnf); simp only [eS, Int.add_zero])) ⟨Nat.zero_le _, rfl, fun j hj => by omega⟩ ?_
 intro ⟨i, ys⟩ ⟨hi, hl, hj⟩
 dsimp only at hi hl hj
 conv => whnf
 refine zK (fun h1 => ?_) (fun h1 => ?_) <;> (conv => whnf) <;> simp at h1
 ·obtain ⟨y, hy⟩ := zI h1
  refine ye (k := i) (by simp) (by simp; omega) ?_
  conv => whnf
  refine z88 (by simp) hy (by simp [cI]) ?_
  conv => whnf
  refine ⟨(i + 1, ys.set i (k + i)), by dsimp only; omega, ⟨by dsimp only; omega, by simp [hl], fun j hlt => ?_⟩, ?_⟩
  ·dsimp only at hlt ⊢
   rw [List.getElem?_set]
   split
   ·rename_i he; subst he; simp [hl, h1]
   ·exact hj j (by omega)
  ·((conv => whnf); simp only [eS])
   refine ⟨⟨by rw [y6] <;> omega, wI h1 (by omega)⟩, ?_⟩
   have := cI_set ys i y (k + i)
   simpa using this
 ·obtain rfl : i = xs.length := by omega
  have : ys = z9x k xs.length := by
   apply List.ext_getElem?
   intro j
   rcases Nat.lt_or_ge j xs.length with q | q
   ·rw [hj j q, zFL _ _ _ q]
   ·rw [List.getElem?_eq_none (by omega), List.getElem?_eq_none (by rw [z9w]; omega)]
  subst this
  conv => whnf
def digs : Nat → Nat → ByteArray → ByteArray
 | 0, _, s => s
 | m + 1, n, s => if n = 0 then s else digs m (n / 10) (sApp ⟨#[UInt8.ofNat (48 + n % 10)]⟩ s)
def zGC (k : Int) : ByteArray := sApp ⟨#[109]⟩ (digs 20 k.toNat ⟨#[]⟩)
theorem zDE (k : Int) (hk : 0 < k ∧ k ≤ 1000000000000) : z6 PR zAW [ai k] (aS (zGC k)) [] 0 := by
 refine z6.intro hT (pf Tryz.func241) rfl (by kernel_rfl) Tryz.ntmps241 rfl ?_
 conv => whnf
 rw [show iLe k 0 = false by simp; omega]
 conv => whnf
 obtain ⟨n, rfl⟩ : ∃ n : Nat, k = n := ⟨k.toNat, by omega⟩
 refine zB hT [0, 3] (α := Nat × Nat × ByteArray) (fun x => { t := [(0, ai x.2.1), (3, aS x.2.2)], h := [], n := 0, N := 20 })
  (fun x => x.2.1 < 10 ^ x.1 ∧ x.1 ≤ 20 ∧ x.2.1 ≤ 1000000000000 ∧ x.2.2.size + x.1 ≤ 20 ∧ digs x.1 x.2.1 x.2.2 = digs 20 n ⟨#[]⟩) (fun x => x.1) (20, n, ⟨#[]⟩) (by (conv => whnf)) ⟨Nat.lt_of_le_of_lt (show n ≤ 1000000000000 by omega) (show 1000000000000 < 10 ^ 20 by decide), Nat.le_refl _, by dsimp only; omega, Nat.le_refl _, rfl⟩ ?_
 intro ⟨m, i, s⟩ ⟨h1, h2, h3, h4, h5⟩
 dsimp only at h1 h2 h3 h4 h5
 conv => whnf
 refine zK (fun g => ?_) (fun g => ?_) <;> (conv => whnf) <;> simp only [eH] at g
 ·obtain ⟨m, rfl⟩ : ∃ m', m = m' + 1 := ⟨m - 1, by rcases m with _ | m <;> simp_all <;> omega⟩
  refine And.intro (by simp [NZ]) ?_
  conv => whnf
  rw [zKW]
  have e1 : wAdd .i64 48 ((i % 10 : Nat) : Int) = ((48 + i % 10 : Nat) : Int) := by rw [y6] <;> omega
  rw [e1]
  have e2 : z2K .u8 ((48 + i % 10 : Nat) : Int) = ((48 + i % 10 : Nat) : Int) := by
   unfold z2K
   have : ∀ j, j < 10 → IntKind.u8.wrap ((48 + j : Nat) : Int) = ((48 + j : Nat) : Int) := by decide
   exact this _ (Nat.mod_lt _ (by decide))
  rw [e2]
  conv => whnf
  refine ⟨⟨#[UInt8.ofNat (48 + i % 10)]⟩, ?_, ?_⟩
  ·simp only [encB, z0A, lenR, offR]
   have : ∀ j, j < 10 → (UInt8.ofNat (48 + j)).toNat = 48 + j := by decide
   have h6 := this (i % 10) (Nat.mod_lt _ (by decide))
   simp [h6]
   try omega
  conv => whnf
  refine And.intro (by unfold zLS; have : (⟨#[UInt8.ofNat (48 + i % 10)]⟩ : ByteArray).size = 1 := rfl; dsimp only; omega) ?_
  conv => whnf
  refine And.intro (by simp [NZ]) ?_
  conv => whnf
  rw [zKX (by dsimp only; omega)]
  conv => whnf
  refine ⟨(m, i / 10, sApp ⟨#[UInt8.ofNat (48 + i % 10)]⟩ s), by dsimp only; omega, ⟨?_, by dsimp only; omega, by dsimp only; omega, ?_, ?_⟩, ?_⟩
  ·dsimp only
   rw [Nat.pow_succ] at h1
   omega
  ·dsimp only
   have : (sApp ⟨#[UInt8.ofNat (48 + i % 10)]⟩ s).size = 1 + s.size := by unfold sApp; rw [ByteArray.size_append]; rfl
   omega
  ·dsimp only
   rw [← h5, digs, if_neg (by omega)]
  conv => whnf
 ·have : digs m i s = s := by
   cases m with
   | zero => rfl
   | succ m => rw [digs, if_pos (by omega)]
  rw [this] at h5
  refine And.intro (by unfold zLS; have : (⟨#[109]⟩ : ByteArray).size = 1 := rfl; dsimp only; omega) ?_
  conv => whnf
  rw [show zGC (n : Int) = sApp ⟨#[109]⟩ s by rw [h5]; rfl]
def z83 (k : Int) : Nat → List ByteArray
 | 0 => []
 | n + 1 => zGC k :: z83 (k + 1) n
theorem z7K : ∀ (n : Nat) (k : Int), (z83 k n).length = n
 | 0, _ => rfl
 | n + 1, k => by simp [z83, z7K n]
theorem zCQ : ∀ (n : Nat) (k : Int) (j : Nat), j < n → (z83 k n)[j]? = some (zGC (k + j))
 | 0, _, _, h => by omega
 | n + 1, k, 0, _ => by simp [z83]
 | n + 1, k, j + 1, h => by simp only [z83, List.getElem?_cons_succ]; rw [zCQ n (k + 1) j (by omega)]; congr 2; omega
theorem cS_set (xs : List ByteArray) (k : Nat) (x y : ByteArray) : dSet (eL cS xs) k (wb (cS x) 0 [.str y]) = eL cS (xs.set k y) := by
 rw [z1n (by rfl)]; exact z1m cS xs k y
theorem z8Y (xs : List ByteArray) (k : Int) (hk : 0 < k ∧ k + xs.length ≤ 1000000000000) (hx : xs.length ≤ 1000000000) : zR PR z6e [.c (.ref 0 0 none), ai k] zy 1 (eL cS xs) (ai (k + xs.length)) (eL cS (z83 k xs.length)) := by
 refine zR.intro hT 0 (pf Tryz.func139) rfl (by kernel_rfl) Tryz.ntmps139 rfl rfl (by simp [zE, z7K]) rfl (zMS _) ?_
 intro v0
 conv => whnf
 refine zB hT [0, 1, 5] (α := Nat × List ByteArray) (fun x => { t := [(0, .w (.ref 0 0 none) v0), (1, ai (k + x.1)), (5, ai x.1)], h := [(0, .arr zy 1 0 .own (eL cS x.2))], n := 1, N := 20 })
  (fun x => x.1 ≤ xs.length ∧ x.2.length = xs.length ∧ ∀ j, j < x.1 → x.2[j]? = some (zGC (k + j))) (fun x => xs.length - x.1) (0, xs) (by ((conv => whnf); simp only [eS, Int.add_zero])) ⟨Nat.zero_le _, rfl, fun j hj => by omega⟩ ?_
 intro ⟨i, ys⟩ ⟨hi, hl, hj⟩
 dsimp only at hi hl hj
 conv => whnf
 refine zK (fun h1 => ?_) (fun h1 => ?_) <;> (conv => whnf) <;> simp at h1
 ·obtain ⟨y, hy⟩ := zI h1
  have hms := zDE (k + i) (by omega)
  refine .inl ⟨_, _, _, hms, rfl, ?_⟩
  conv => whnf
  refine ye (k := i) (by simp) (by simp; omega) ?_
  conv => whnf
  refine z88 (by simp) hy (by simp [cS]) ?_
  conv => whnf
  refine ⟨(i + 1, ys.set i (zGC (k + i))), by dsimp only; omega, ⟨by dsimp only; omega, by simp [hl], fun j hlt => ?_⟩, ?_⟩
  ·dsimp only at hlt ⊢
   rw [List.getElem?_set]
   split
   ·rename_i he; subst he; simp [hl, h1]
   ·exact hj j (by omega)
  ·((conv => whnf); simp only [eS])
   refine ⟨⟨by rw [y6] <;> omega, wI h1 (by omega)⟩, ?_⟩
   have := cS_set ys i y (zGC (k + i))
   simpa using this
 ·obtain rfl : i = xs.length := by omega
  have : ys = z83 k xs.length := by
   apply List.ext_getElem?
   intro j
   rcases Nat.lt_or_ge j xs.length with q | q
   ·rw [hj j q, zCQ _ _ _ q]
   ·rw [List.getElem?_eq_none (by omega), List.getElem?_eq_none (by rw [z7K]; omega)]
  subst this
  conv => whnf
end Go.H.S
namespace Go.H.S
open Go Go.Proofs Go.H
attribute [local irreducible] Tri z6 zR zV zY
theorem zMX {α : Type} (f : α → List D) (xs : List α) (i : Nat) (y : α) : (eL f xs).set i (f y) = eL f (xs.set i y) := by rw [← z1m]; unfold dSet; rfl
theorem zKl {α : Type} {xs : List α} {i j : Nat} {y : α} (h : j ≠ i) : (xs.set i y)[j]? = xs[j]? := by rw [List.getElem?_set, if_neg (fun q => h q.symm)]
theorem zCf {α : Type} (f : α → Nat) : ∀ (xs : List α) (i : Nat) (x : α), xs[i]? = some x → wh f (xs.take (i + 1)) = wh f (xs.take i) + f x
 | [], i, x, h => by simp at h
 | y :: r, 0, x, h => by simp at h; subst h; simp [wh]
 | y :: r, i + 1, x, h => by
  simp only [List.getElem?_cons_succ] at h
  simp only [List.take_succ_cons, wh]
  rw [zCf f r i x h]
  omega
theorem z6n {α : Type} (f : α → Nat) : ∀ (xs : List α) (i : Nat), wh f (xs.take i) ≤ wh f xs
 | [], i => by simp
 | y :: r, 0 => by simp [wh]
 | y :: r, i + 1 => by
  simp only [List.take_succ_cons, wh]
  have := z6n f r i
  omega
theorem zEn (xs : List (List Int)) (hx : xs.length ≤ 4000000000) (hs : ∀ s ∈ xs, s.length ≤ 4000000000) :
  z6 PR z4u [.c (.d (.sl 1 (eL cIs xs)))] (.c (.ref 0 0 none)) [(0, .arr yS 1 0 (.nest [zZ]) (eL cIs xs))] 1 := by
 refine z6.intro hTn (pf Tryz.func93) rfl (by kernel_rfl) Tryz.ntmps93 rfl ?_
 conv => whnf
 refine ⟨by simp; omega, ?_⟩
 conv => whnf
 refine zB hTn [0, 3, 4] (α := Nat × List (List D)) (fun x => { t := [(0, .c (.d (.sl 1 (eL cIs xs)))), (3, .c (.ref 0 0 none)), (4, ai (nInt x.1))], h := [(0, .arr yS 1 0 (.nest [zZ]) x.2)], n := 1, N := 23 })
  (fun x => x.1 ≤ xs.length ∧ Fill cIs 1 xs x.1 x.2) (fun x => xs.length - x.1) (0, _) (by ((conv => whnf); simp only [eS]); rfl) ⟨by omega, Fill.start cIs xs rfl⟩ ?_
 intro ⟨k, es⟩ ⟨hk, hf⟩
 dsimp only at hk hf
 have hl := hf.len
 conv => whnf
 refine zK (fun h1 => ?_) (fun h1 => ?_) <;> (conv => whnf) <;> simp at h1
 ·obtain ⟨s, hs'⟩ := zI h1
  refine zG (by simp) hs' ?_
  conv => whnf
  refine .inl ⟨_, _, _, z1T s (hs s (List.mem_of_getElem? hs')), rfl, ?_⟩
  conv => whnf
  refine ⟨by simp only [z0Z, zQ, hl, zHl, z3q]; omega, ?_⟩
  conv => whnf
  refine ⟨z0G s, fun c' hc' => ?_⟩
  have hr := hf.room hc'
  refine ⟨by simp; omega, ?_⟩
  rw [z1n (by rw [hr]; rfl)]
  conv => whnf
  refine ⟨(k + 1, dSet es k (cIs s)), by dsimp only; omega, ⟨h1, hf.step hs' rfl⟩, ?_⟩
  ((conv => whnf); simp only [eS, wI h1 (by omega), wD, z1B, Int.toNat_natCast, offR, Nat.zero_add])
  rfl
 ·obtain rfl : k = xs.length := by omega
  rw [hf.done]
theorem zBE (xs : List (List Int)) (k : Int) (hk : 0 < k ∧ k + wh List.length xs ≤ 1000000000000) (hx : xs.length ≤ 1000000000) (hxs : ∀ t ∈ xs, t.length ≤ 1000000000) :
  zY PR z94 [.c (.ref 0 0 none), ai k] [(0, .arr yS 1 0 (.nest [zZ]) (eL cIs xs))] 1 (ai (k + wh List.length xs)) := by
 refine zY.intro hTn (pf Tryz.func140) rfl (by kernel_rfl) Tryz.ntmps140 rfl rfl rfl ?_
 conv => whnf
 refine zB hTn [0, 1, 5] (α := Nat × List (List Int)) (fun x => { t := [(0, .c (.ref 0 0 none)), (1, ai (k + wh List.length (xs.take x.1))), (5, ai x.1)], h := [(0, .arr yS 1 0 (.nest [zZ]) (eL cIs x.2))], n := 1, N := 19 })
  (fun x => x.1 ≤ xs.length ∧ x.2.length = xs.length ∧ ∀ j, x.1 ≤ j → x.2[j]? = xs[j]?) (fun x => xs.length - x.1) (0, xs) (by ((conv => whnf); simp only [eS]); simp [wh]) ⟨Nat.zero_le _, rfl, fun j _ => rfl⟩ ?_
 intro ⟨i, ys⟩ ⟨hi, hl, hj⟩
 dsimp only at hi hl hj
 conv => whnf
 refine zK (fun h1 => ?_) (fun h1 => ?_) <;> (conv => whnf) <;> simp at h1
 ·obtain ⟨y, hy⟩ := zI h1
  have hyx : xs[i]? = some y := by rw [← hj i (Nat.le_refl _)]; exact hy
  have hyl := hxs y (List.mem_of_getElem? hyx)
  have hc := zCf List.length xs i y hyx
  have hc2 := z6n List.length xs (i + 1)
  refine ye (k := i) (by simp) (by simp; omega) ?_
  conv => whnf
  refine z33 (k := i) (by simp) hy ?_
  conv => whnf
  refine ⟨i, 0, cIs y, 1, eL cI y, zZ, by simp, by decide, by rw [z48, hy]; rfl, rfl, rfl, _, _, z2z y _ (by dsimp only; omega) hyl, ?_⟩
  conv => whnf
  rw [show (eL cIs ys).set i ((cIs y).set 0 (.sl 1 (eL cI (z9x (k + wh List.length (xs.take i)) y.length)))) = eL cIs (ys.set i (z9x (k + wh List.length (xs.take i)) y.length)) from zMX cIs ys i _]
  conv => whnf
  refine ⟨(i + 1, ys.set i (z9x (k + wh List.length (xs.take i)) y.length)), by dsimp only; omega, ⟨by dsimp only; omega, by simp [hl], fun j hlt => ?_⟩, ?_⟩
  ·dsimp only at hlt ⊢
   rw [zKl (by omega)]
   exact hj j (by omega)
  ·((conv => whnf); simp only [eS, wI h1 (by omega)])
   rw [hc]; omega
 ·obtain rfl : i = xs.length := by omega
  rw [show xs.take xs.length = xs by simp]
end Go.H.S
namespace Go.H.S
open Go Go.Proofs Go.H
attribute [local irreducible] Tri z6 zR zV zY
theorem zAs (xs : List ByteArray) (hx : xs.length ≤ 1000000000) : z6 PR z15 [aSs xs] (.c (.ref 0 0 none)) [(0, .arr zy 1 0 .own (eL cS xs))] 1 := by
 refine z6.intro hT (pf Tryz.func244) rfl (by kernel_rfl) Tryz.ntmps244 rfl ?_
 conv => whnf
 intro b hb
 cases b
 ·conv => whnf
  refine And.intro (by simp [zE, zQ]; omega) ?_
  conv => whnf
  ((conv => whnf); simp only [eS, wo])
  done
 ·have : xs = [] := by
   have := congrArg List.length (hb rfl)
   rw [zE] at this
   exact List.eq_nil_of_length_eq_zero this
  subst this
  conv => whnf
  ((conv => whnf); simp only [eS, zp])
  done
theorem z3X (xs : List Nd) (hx : xs.length ≤ 1000000000) : z6 PR wx [aNs xs] (.c (.ref 0 0 none)) [(0, .arr zt 5 0 .own (eL cN xs))] 1 := by
 refine z6.intro hT (pf Tryz.func310) rfl (by kernel_rfl) Tryz.ntmps310 rfl ?_
 conv => whnf
 intro b hb
 cases b
 ·conv => whnf
  refine And.intro (by simp [zE, zQ]; omega) ?_
  conv => whnf
  ((conv => whnf); simp only [eS, wo])
  done
 ·have : xs = [] := by
   have := congrArg List.length (hb rfl)
   rw [zE] at this
   exact List.eq_nil_of_length_eq_zero this
  subst this
  conv => whnf
  ((conv => whnf); simp only [eS, zp])
  done
theorem z6A (t : List Nd) (hl : t.length ≤ 1000000000) : z6 PR z41 [aT t] (.agg [.ref 0 0 none]) [(0, .arr zt 5 0 .own (eL cN t))] 1 := by
 refine z6.intro hT (pf Tryz.func267) rfl (by kernel_rfl) Tryz.ntmps267 rfl ?_
 conv => whnf
 refine .inl ⟨_, _, _, z3X t hl, rfl, ?_⟩
 conv => whnf
theorem z71 (t : List Nd) (hl : t.length ≤ 1000000000) : z6 PR z4s [aT t] (.agg [.ref 0 0 none]) [(0, .arr zt 5 0 .own (eL cN t))] 1 := by
 refine z6.intro hT (pf Tryz.func272) rfl (by kernel_rfl) Tryz.ntmps272 rfl ?_
 conv => whnf
 refine And.intro (by simp [zE, zQ]; omega) ?_
 conv => whnf
 ((conv => whnf); simp only [eS, wo])
 done
theorem z2g (x lo hi : Int) : z6 PR zBv [ai x, ai lo, ai hi] (ai (z0f x lo hi)) [] 0 := by
 refine z6.intro hT (pf Tryz.func217) rfl (by kernel_rfl) Tryz.ntmps217 rfl ?_
 conv => whnf
 refine zK (fun h => ?_) (fun h => ?_) <;> (conv => whnf) <;> simp only [eH] at h
 ·((conv => whnf); simp only [eS])
  simp only [z0f]
  rw [if_pos (by omega)]
 ·refine zK (fun h2 => ?_) (fun h2 => ?_) <;> (conv => whnf) <;> simp only [eH] at h2 <;> ((conv => whnf); simp only [eS]) <;> simp only [z0f]
  ·rw [if_neg (by omega), if_pos (by omega)]
  ·rw [if_neg (by omega), if_neg (by omega)]
end Go.H.S
