/- Library, part SN: the law FnLossFalls. -/
import Derived.Test.YtdolkacinfjhcaaGreatLSH
import Derived.Test.YtdolkacinfjhcaaGreatLNC
set_option maxRecDepth 100000
set_option linter.unusedSimpArgs false
set_option linter.unusedVariables false
namespace Go.H.S
open Go Go.Proofs Go.H
attribute [local irreducible] Tri z6 zR zV zY zW
def noS (c : Cfg) : Cfg := { c with signs := [] }
abbrev cCfE (c : Cfg) : List CV := [.d (.int .i64 c.rounds), .d (.int .i64 c.depth), .d (.int .i64 c.bins), .d (.int .i64 c.lambda), .d (.int .i64 c.rows), .d (.int .i64 c.num), .d (.int .i64 c.den), .d (.sl 1 [])]
abbrev aCfE (c : Cfg) : AV := .agg (cCfE c)
abbrev rpCfE (c : Cfg) : AV := .c (.d (.rp [.int .i64 c.rounds, .int .i64 c.depth, .int .i64 c.bins, .int .i64 c.lambda, .int .i64 c.rows, .int .i64 c.num, .int .i64 c.den, .sl 1 []]))
theorem zGm (c : Cfg) : aCf (noS c) = aCfE c := by simp [noS, zp]
set_option maxHeartbeats 4000000 in
theorem z27 (t : Tbl) (c : Cfg) (hz : szT t) (h : ¬ (y1 t = true ∧ z0T (noS c) = true)) : z6 PR wA [aTb t, aCfE c] tupS0 [] 0 := by
 have hst := z4p t (noS c) hz (by simp [noS]) h
 rw [zGm] at hst
 refine z6.intro hT (pf Tryz.func48) rfl (by kernel_rfl) Tryz.ntmps48 rfl ?_
 conv => whnf
 refine .inl ⟨_, _, _, hst, rfl, ?_⟩
 conv => whnf
 first | done | rfl
theorem z2u (code : List Int) (hl : code.length ≤ 1048576) : zV PR z4i [.c (.d (.sl 1 (eL cU code)))] (Tbl × Cfg) (fun x => smT x.1 ∧ x.2.signs.length ≤ 5)
  (fun x => .tup [(true, cTb x.1), (true, cCf x.2)]) (fun _ => []) (fun _ => 0) := by
 refine zV.intro hT (pf Tryz.func62) rfl (by kernel_rfl) Tryz.ntmps62 rfl ?_
 conv => whnf
 refine .inr ⟨_, _, _, _, _, z2S code hl, fun ⟨t, c⟩ hx => ⟨rfl, ?_⟩⟩
 conv => whnf
 refine ⟨(t, c), hx, ?_⟩
 conv => whnf
theorem zGI (t : Tbl) (c : Cfg) (hz : szT t) (ht : y1 t = true) (hco : z0T (noS c) = true) : ∃ (n : Nat) (g : Grd) (P : Nat → List Int) (T : Nat → List (List Nd)) (R : Nat → List Int) (L M S : Nat → Int), c.rounds = n ∧ n ≤ 8 ∧
  z6 PR z1K [aTb t, ai c.bins] (aG g) [] 0 ∧ z6 PR z0H [aTb t] (z2p (P 0) (T 0) true) [] 0 ∧ ∀ k, k < n →
   z6 PR w9 [aTb t, aSt (P k) (T k)] (z4Y (L k) true) [] 0 ∧ z6 PR z3U [aIs t.ys, aIs (P k)] (zKc (R k) true) [] 0 ∧ z6 PR z44 [aIs (R k)] (z4Y (M k) true) [] 0 ∧
   z6 PR z0h [aTb t, aG g, aCfE c, aSt (P k) (T k)] (z2p (P (k + 1)) (T (k + 1)) true) [] 0 ∧ z6 PR z0g [aTb t, aG g, aCfE c, aSt (P k) (T k)] (z2p (P (k + 1)) (T (k + 1)) true) [] 0 ∧
   z6 PR w9 [aTb t, aSt (P (k + 1)) (T (k + 1))] (z4Y (L (k + 1)) true) [] 0 ∧ z6 PR z2G [aV (L k), aV (M k)] (z4Y (S k) true) [] 0 ∧ ∃ z : Int, z ≤ 0 ∧ z6 PR z0I [aV (L (k + 1)), aV (S k)] (ai z) [] 0 := by
 have hv := z05 ht
 have hc := z0K.1 hco
 obtain ⟨⟨hb, hbb⟩, hn, hn1, hn8⟩ := z3G hc
 have hgrid := z2t t (noS c).bins.toNat hbb ht hz.n hz.ns hz.tg hz.r hz.c hz.y
 rw [← hb] at hgrid
 have hyl := hv.yl
 have hr40 := hv.r40
 have hr1 := hv.r1
 have hpb : ∀ k, k ≤ 8 → ∀ p ∈ (zm t (noS c) (zi t (noS c).bins.toNat) k).1, -1152921504606846976 ≤ p ∧ p ≤ 1152921504606846976 := fun k hk p hp => by have := z2q hv hbb hc hk p hp; omega
 have hrb : ∀ k, k ≤ 8 → ∀ x ∈ resL t.ys (zm t (noS c) (zi t (noS c).bins.toNat) k).1, -1099511627776 ≤ x ∧ x ≤ 1099511627776 := fun k hk x hx => by
  have h1 := z5i hv hbb hc k hk x hx
  have h2 := zGr hk
  omega
 have hrb2 : ∀ k, k ≤ 8 → ∀ x ∈ resL t.ys (zm t (noS c) (zi t (noS c).bins.toNat) k).1, -2199023255552 ≤ x ∧ x ≤ 2199023255552 := fun k hk x hx => by have := hrb k hk x hx; omega
 have hpl : ∀ k, (zm t (noS c) (zi t (noS c).bins.toNat) k).1.length = t.ys.length := fun k => z0V hv.yl k
 have hrl : ∀ k, (resL t.ys (zm t (noS c) (zi t (noS c).bins.toNat) k).1).length = t.ys.length := fun k => wj (hpl k).symm
 have hsl : ∀ k, k ≤ 8 → z6 PR w9 [aTb t, aSt (zm t (noS c) (zi t (noS c).bins.toNat) k).1 (zm t (noS c) (zi t (noS c).bins.toNat) k).2] (z4Y (sqS (resL t.ys (zm t (noS c) (zi t (noS c).bins.toNat) k).1)) true) [] 0 := fun k hk =>
  z1h t _ _ (hpl k).symm (by omega) hv.yv (hpb k hk) (hrb2 k hk)
 refine ⟨(noS c).rounds.toNat, zi t (noS c).bins.toNat, fun k => (zm t (noS c) (zi t (noS c).bins.toNat) k).1, fun k => (zm t (noS c) (zi t (noS c).bins.toNat) k).2, fun k => resL t.ys (zm t (noS c) (zi t (noS c).bins.toNat) k).1,
  fun k => sqS (resL t.ys (zm t (noS c) (zi t (noS c).bins.toNat) k).1), fun k => z7A (resL t.ys (zm t (noS c) (zi t (noS c).bins.toNat) k).1), fun k => sqS (resL t.ys (zm t (noS c) (zi t (noS c).bins.toNat) k).1) + z7A (resL t.ys (zm t (noS c) (zi t (noS c).bins.toNat) k).1), hn, hn8, hgrid, z06 t hz ht, fun k hk => ?_⟩
 have htk := z9I hv hbb hc (k := k) (by omega)
 have hml := z9N (B := 1099511627776) (xs := resL t.ys (zm t (noS c) (zi t (noS c).bins.toNat) k).1) fun x hx => by have := hrb k (by omega) x hx; omega
 have hrm := zH3 (xs := resL t.ys (zm t (noS c) (zi t (noS c).bins.toNat) k).1) (by rw [hrl]; omega) (by omega)
 have hs0 := zF0 (hrb2 k (by omega))
 have hs1 := zF0 (hrb2 (k + 1) (by omega))
 rw [hrl] at hs0 hs1
 have hroom := zHt hv (hpl k) htk rfl (M := (z04 (resL t.ys (zm t (noS c) (zi t (noS c).bins.toNat) k).1) : Int)) (by omega) (by omega) (fun x hx => by have := zHB hx; omega)
 have hle : (t.ys.length : Int) * (z04 (resL t.ys (zm t (noS c) (zi t (noS c).bins.toNat) k).1) : Int) ≤ z7A (resL t.ys (zm t (noS c) (zi t (noS c).bins.toNat) k).1) := by
  unfold z7A
  rw [hrl, Int.mul_comm]
  exact Int.mul_le_mul (by omega) (by omega) (by omega) (by omega)
 have hri := z2f t (noS c).bins.toNat (noS c) (zm t (noS c) (zi t (noS c).bins.toNat) k).1 (zm t (noS c) (zi t (noS c).bins.toNat) k).2 (yF (zi t (noS c).bins.toNat) (resL t.ys (zm t (noS c) (zi t (noS c).bins.toNat) k).1) (noS c)) hz ht hc hb hbb (z9S hv hbb.2) (hpl k) (hpb k (by omega))
  (by rw [wJ]; omega) (fun x hx => by have := z4G hv hbb hc (k := k) (by omega) x hx; omega) htk (z6R htk) (z37 htk) rfl (fun r => by have := z5u htk r; omega)
 have hrs := z2Q t (noS c).bins.toNat (noS c) (zm t (noS c) (zi t (noS c).bins.toNat) k).1 (zm t (noS c) (zi t (noS c).bins.toNat) k).2 (yF (zi t (noS c).bins.toNat) (resL t.ys (zm t (noS c) (zi t (noS c).bins.toNat) k).1) (noS c)) hz ht hc hb hbb (z9S hv hbb.2) (hpl k) (hpb k (by omega))
  (by rw [wJ]; omega) (fun x hx => by have := z4G hv hbb hc (k := k) (by omega) x hx; omega) htk (z6R htk) (z37 htk) rfl (fun r => by have := z5u htk r; omega)
 rw [zGm] at hri hrs
 have hroom2 : sqS (resL t.ys (zm t (noS c) (zi t (noS c).bins.toNat) (k + 1)).1) ≤ sqS (resL t.ys (zm t (noS c) (zi t (noS c).bins.toNat) k).1) + (t.ys.length : Int) * (z04 (resL t.ys (zm t (noS c) (zi t (noS c).bins.toNat) k).1) : Int) := hroom
 refine ⟨hsl k (by omega), wr t.ys (zm t (noS c) (zi t (noS c).bins.toNat) k).1 (hpl k).symm (by omega) hv.yv (hpb k (by omega)), z6I (resL t.ys (zm t (noS c) (zi t (noS c).bins.toNat) k).1) (by rw [hrl]; omega) (hrb2 k (by omega)), hri, hrs, hsl (k + 1) (by omega), z0w (sqS (resL t.ys (zm t (noS c) (zi t (noS c).bins.toNat) k).1)) (z7A (resL t.ys (zm t (noS c) (zi t (noS c).bins.toNat) k).1)) hs0.1 hrm.1 (by omega), _, ?_, z19 (sqS (resL t.ys (zm t (noS c) (zi t (noS c).bins.toNat) (k + 1)).1)) (sqS (resL t.ys (zm t (noS c) (zi t (noS c).bins.toNat) k).1) + z7A (resL t.ys (zm t (noS c) (zi t (noS c).bins.toNat) k).1)) hs1.1 (by omega)⟩
 unfold sgnI
 split
 ·omega
 ·split <;> omega
set_option maxHeartbeats 4000000 in
theorem law_FnLossFalls (code : List Int) (hm : code.length ≤ 9223372036854775807 ∧ ∀ y ∈ code, 0 ≤ y ∧ y ≤ 255) : z6 PR z6f [.c (.d (.sl 1 (eL cU code)))] (ab true) [] 0 := by
 refine z6.introT hT (pf Tryz.func11) rfl (by kernel_rfl) Tryz.ntmps11 rfl ?_
 refine wS hT ?_
 conv => whnf
 refine wS hT ?_
 conv => whnf
 refine .inl ⟨_, _, _, zDI code, rfl, ?_⟩
 conv => whnf
 refine zK (fun h => ?_) (fun h => ?_) <;> (conv => whnf) <;> simp only [eH] at h
 have hl : code.length ≤ 1048576 := by omega
 refine wS hT ?_
 conv => whnf
 refine .inr ⟨_, _, _, _, _, z2u code hl, fun ⟨t, c⟩ ⟨hst, hcl⟩ => ⟨rfl, ?_⟩⟩
 dsimp only at hst hcl
 have hz := smT_sz hst
 have hco := yO (noS c) (by simp [noS])
 rw [zGm] at hco
 conv => whnf
 refine wS hT ?_
 conv => whnf
 refine z0i 1 7 zZ 1 ?_
 conv => whnf
 refine zC7 1 7 ?_
 conv => whnf
 rw [z7]
 refine zj 0 ?_
 conv => whnf
 refine zj 1 ?_
 conv => whnf
 refine wS hT ?_
 conv => whnf
 refine .inl ⟨_, _, _, ym t hz.n hz.ns hz.tg hz.r hz.c hz.y, rfl, ?_⟩
 cases ht : y1 t with
 | false =>
  conv => whnf
  refine .inl ⟨_, _, _, z27 t c hz (by rw [ht]; simp), rfl, ?_⟩
  conv => whnf
  first | done | rfl
 | true =>
  conv => whnf
  refine .inl ⟨_, _, _, hco, rfl, ?_⟩
  cases hc : z0T (noS c) with
  | false =>
   conv => whnf
   refine .inl ⟨_, _, _, z27 t c hz (by rw [hc]; simp), rfl, ?_⟩
   conv => whnf
   first | done | rfl
  | true =>
   obtain ⟨n, g, P, T, R, L, M, S, hn, hn8, hgrid, hnew, hall⟩ := zGI t c hz ht hc
   conv => whnf
   refine wS hT ?_
   conv => whnf
   refine .inl ⟨_, _, _, hnew, rfl, ?_⟩
   conv => whnf
   refine wS hT ?_
   conv => whnf
   refine .inl ⟨_, _, _, hgrid, rfl, ?_⟩
   conv => whnf
   refine wS hT ?_
   conv => whnf
   refine zj 4 ?_
   conv => whnf
   refine zB hT [3, 4, 7, 9, 10] (α := Nat) (fun k => { t := [(3, rpTb t), (4, rpCfE c), (7, .c (.ptr 0 0)), (9, rpG g), (10, ai k)], h := [(0, .box zn (cSt (P k) (T k)))], n := 1, N := 131 })
    (fun k => k ≤ n) (fun k => n - k) 0 (by (conv => whnf); first | done | rfl) (Nat.zero_le _) ?_
   intro k hk
   conv => whnf
   refine zK (fun q => ?_) (fun q => ?_) <;> (conv => whnf) <;> simp only [eH] at q
   ·have hkn : k < n := by omega
    obtain ⟨f1, f2, f3, f4, f5, f6, f7, z, hz0, f8⟩ := hall k hkn
    refine .inl ⟨_, _, _, f1, rfl, ?_⟩
    conv => whnf
    refine .inl ⟨_, _, _, f2, rfl, ?_⟩
    conv => whnf
    refine .inl ⟨_, _, _, f3, rfl, ?_⟩
    conv => whnf
    refine .inl ⟨_, _, _, f4, rfl, ?_⟩
    conv => whnf
    refine .inl ⟨_, _, _, f6, rfl, ?_⟩
    conv => whnf
    refine .inl ⟨_, _, _, f7, rfl, ?_⟩
    conv => whnf
    refine .inl ⟨_, _, _, f8, rfl, ?_⟩
    conv => whnf
    rw [show iLt 0 z = false from decide_eq_false (by omega)]
    conv => whnf
    refine .inl ⟨_, _, _, f5, rfl, ?_⟩
    conv => whnf
    refine ⟨k + 1, by omega, by omega, ?_⟩
    ((conv => whnf); simp only [eS, wI hkn (by omega)])
    first | done | rfl | exact ⟨rfl, rfl⟩
   ·refine yW hT _ _ _ ?_
    conv => whnf
    first | done | rfl
end Go.H.S
namespace Go.H.S
open Go Go.Proofs Go.H
attribute [local irreducible] Tri z6 zR zV zY zW
set_option maxHeartbeats 4000000 in
theorem z8M (xs : List Int) (hl : xs.length ≤ 1000) (hb : ∀ x ∈ xs, -2199023255552 ≤ x ∧ x ≤ 2199023255552) : z6 PR zDi [aIs xs] (z4Y (sqS xs) true) [] 0 := by
 have eX : nInt (dLen (eL cI xs)) = (xs.length : Int) := by simp
 have h00 : hiU (sqS ([] : List Int)) = 0 ∧ loU (sqS ([] : List Int)) = 0 := zDJ (by simp [sqS])
 refine z6.intro hT (pf Tryz.func153) rfl (by kernel_rfl) Tryz.ntmps153 rfl ?_
 conv => whnf
 refine zB hT [0, 2, 4, 5] (α := Nat) (fun k => { t := [(0, aIs xs), (2, .c (.ptr 0 0)), (4, .c (.ptr 1 0)), (5, ai k)], h := [(0, .box zg [.d (.bool false), .d (.int .u64 0), .d (.int .u64 0)]), (1, .box zg (cV (sqS (xs.take k))))], n := 2, N := 34 })
  (fun k => k ≤ xs.length) (fun k => xs.length - k) 0 (by (conv => whnf); simp only [List.take_zero, cV]; rw [h00.1, h00.2]; first | done | rfl) (Nat.zero_le _) ?_
 intro k hk
 conv => whnf
 refine zK (fun q => ?_) (fun q => ?_) <;> (conv => whnf) <;> simp only [eH] at q
 ·obtain ⟨x, hx⟩ := zI (show k < xs.length by omega)
  have hxb := hb x (List.mem_of_getElem? hx)
  have hsq := zM1 hxb
  have hin := zF0 (xs := xs.take k) fun y hy => hb y (List.mem_of_mem_take hy)
  have htl : (xs.take k).length = k := by rw [List.length_take]; omega
  rw [htl] at hin
  have hst := zGx hx
  have hmw := z3i x (show i64 x by unfold i64; omega)
  have haw := z0w (sqS (xs.take k)) (x * x) hin.1 hsq.1 (by omega)
  rw [← hst] at haw
  generalize x * x = xx at *
  generalize hs1 : sqS (xs.take (k + 1)) = s' at *
  generalize hs0 : sqS (xs.take k) = s0 at *
  refine zJ hT hmix [0, 2, 4, 5, 6, 7] { t := [(0, aIs xs), (2, .c (.ptr 0 0)), (4, .c (.ptr 1 0)), (5, ai k), (6, .c (.ptr 2 0)), (7, ab true)], h := [(0, .box zg [.d (.bool false), .d (.int .u64 0), .d (.int .u64 0)]), (1, .box zg (cV s0)), (2, .box zg (cV s'))], n := 3, N := 34 } rfl ?_ ?_
  ·repeat' first
    | (refine zM rfl ?_; (conv => whnf))
    | (refine zL rfl ?_ ?_ <;> (conv => whnf))
    | (refine zC rfl ?_ ?_ ?_ <;> (conv => whnf))
    | (refine zG (k := k) rfl hx ?_; (conv => whnf))
    | (refine .inl ⟨_, _, _, hmw, rfl, ?_⟩; (conv => whnf))
    | (refine .inl ⟨_, _, _, haw, rfl, ?_⟩; (conv => whnf))
    | (refine zO rfl ?_; (conv => whnf); first | done | rfl)
  conv => whnf
  refine ⟨k + 1, by omega, by omega, ?_⟩
  ((conv => whnf); simp only [eS, wI (show k < xs.length by omega) (by omega)])
  rw [hs1]
  first | done | exact ⟨rfl, rfl⟩ | rfl
 ·obtain rfl : k = xs.length := by omega
  rw [List.take_length]
  first | done | rfl
set_option maxHeartbeats 4000000 in
theorem z5E (t : Tbl) (ps : List Int) (ts : List (List Nd)) (he : t.ys.length = ps.length) (hl : t.ys.length ≤ 1000) (hb : ∀ y ∈ t.ys, -2147483647 ≤ y ∧ y ≤ 2147483647) (hp : ∀ p ∈ ps, -1152921504606846976 ≤ p ∧ p ≤ 1152921504606846976) (hr : ∀ x ∈ resL t.ys ps, -2199023255552 ≤ x ∧ x ≤ 2199023255552) :
  z6 PR z3T [aTb t, aSt ps ts] (z4Y (sqS (resL t.ys ps)) true) [] 0 := by
 have hrl := wj he
 have h1 := wr t.ys ps he hl hb hp
 have h2 := z8M (resL t.ys ps) (by omega) hr
 generalize sqS (resL t.ys ps) = s at *
 generalize resL t.ys ps = res at *
 refine z6.intro hT (pf Tryz.func134) rfl (by kernel_rfl) Tryz.ntmps134 rfl ?_
 conv => whnf
 refine .inl ⟨_, _, _, h1, rfl, ?_⟩
 conv => whnf
 refine .inl ⟨_, _, _, h2, rfl, ?_⟩
 conv => whnf
 first | done | rfl
abbrev cVd (n : Int) : List D := [.bool false, .int .u64 (hiU n), .int .u64 (loU n)]
def z7L (L : Nat → Int) (n : Nat) : List Int := (List.range n).map L
theorem zA0 (L : Nat → Int) (n : Nat) : (z7L L n).length = n := by simp [z7L]
theorem zCR (L : Nat → Int) (n : Nat) : z7L L (n + 1) = z7L L n ++ [L n] := by simp [z7L, List.range_succ]
abbrev zFz (b : Bool) : AV := .tup [(false, [.ref 0 0 none]), (false, [.d (.bool b)])]
def zKz (t : Tbl) (c : Cfg) (k : Nat) : Int := sqS (resL t.ys (zm t c (zi t c.bins.toNat) k).1)
noncomputable def z3g (t : Tbl) (c : Cfg) : List Int × Bool := if y1 t = true ∧ z0T c = true then (z7L (zKz t c) (c.rounds.toNat + 1), true) else ([], false)
theorem z9j (t : Tbl) (c : Cfg) (hz : szT t) (ht : y1 t = true) (hco : z0T c = true) : ∀ k, k ≤ 8 →
  (zm t c (zi t c.bins.toNat) k).1.length = t.ys.length ∧ t.ys.length ≤ 40 ∧ (∀ y ∈ t.ys, -2147483647 ≤ y ∧ y ≤ 2147483647) ∧ (∀ p ∈ (zm t c (zi t c.bins.toNat) k).1, -1152921504606846976 ≤ p ∧ p ≤ 1152921504606846976) ∧ ∀ x ∈ resL t.ys (zm t c (zi t c.bins.toNat) k).1, -2199023255552 ≤ x ∧ x ≤ 2199023255552 := by
 have hv := z05 ht
 have hc := z0K.1 hco
 obtain ⟨⟨hb, hbb⟩, hn, hn1, hn8⟩ := z3G hc
 intro k hk
 refine ⟨z0V hv.yl k, by have := hv.yl; have := hv.r40; omega, hv.yv, fun p hp => by have := z2q hv hbb hc hk p hp; omega, fun x hx => ?_⟩
 have h1 := z5i hv hbb hc k hk x hx
 have h2 := zGr hk
 omega
theorem zCy (t : Tbl) (c : Cfg) (hz : szT t) (ht : y1 t = true) (hco : z0T c = true) (k : Nat) (hk : k ≤ 8) : z6 PR z0g [aTb t, aG (zi t c.bins.toNat), aCf c, aSt (zm t c (zi t c.bins.toNat) k).1 (zm t c (zi t c.bins.toNat) k).2] (z2p (zm t c (zi t c.bins.toNat) (k + 1)).1 (zm t c (zi t c.bins.toNat) (k + 1)).2 true) [] 0 := by
 have hv := z05 ht
 have hc := z0K.1 hco
 obtain ⟨⟨hb, hbb⟩, hn, hn1, hn8⟩ := z3G hc
 have htk := z9I hv hbb hc (k := k) hk
 exact z2Q t c.bins.toNat c (zm t c (zi t c.bins.toNat) k).1 (zm t c (zi t c.bins.toNat) k).2 (yF (zi t c.bins.toNat) (resL t.ys (zm t c (zi t c.bins.toNat) k).1) c) hz ht hc hb hbb (z9S hv hbb.2) (z0V hv.yl k) (fun p hp => by have := z2q hv hbb hc hk p hp; omega)
  (by rw [wJ]; omega) (fun x hx => by have := z4G hv hbb hc hk x hx; omega) htk (z6R htk) (z37 htk) rfl (fun r => by have := z5u htk r; omega)
set_option maxHeartbeats 4000000 in
theorem z72 (t : Tbl) (c : Cfg) (g : Grd) (P : Nat → List Int) (T : Nat → List (List Nd)) (L : Nat → Int) (n : Nat) (hc : z0T c = true) (hcl : c.signs.length ≤ 1048576) (hn : c.rounds = n) (hn8 : n ≤ 8) (hgrid : z6 PR z1K [aTb t, ai c.bins] (aG g) [] 0) (hnew : z6 PR z0H [aTb t] (z2p (P 0) (T 0) true) [] 0)
  (hloss : ∀ k, k ≤ n → z6 PR z3T [aTb t, aSt (P k) (T k)] (z4Y (L k) true) [] 0)
  (hround : ∀ k, k ≤ n → z6 PR z0g [aTb t, aG g, aCf c, aSt (P k) (T k)] (z2p (P (k + 1)) (T (k + 1)) true) [] 0) : z6 PR z11 [aTb t, aCf c] (zFz true) [(0, .arr zg 3 0 .own (eL cVd (z7L L (n + 1))))] 1 := by
 refine z6.intro hT (pf Tryz.func46) rfl (by kernel_rfl) Tryz.ntmps46 rfl ?_
 conv => whnf
 refine .inl ⟨_, _, _, hnew, rfl, ?_⟩
 conv => whnf
 refine .inl ⟨_, _, _, yO c hcl, rfl, ?_⟩
 rw [hc]
 conv => whnf
 refine .inl ⟨_, _, _, hgrid, rfl, ?_⟩
 conv => whnf
 refine zj 0 ?_
 conv => whnf
 refine zj 1 ?_
 conv => whnf
 refine zj 4 ?_
 conv => whnf
 refine zB hT [2, 3, 6, 7, 9, 10] (α := Nat) (fun k => { t := [(2, rpTb t), (3, rpCf c), (6, .c (.ref 0 0 none)), (7, .c (.ptr 1 0)), (9, rpG g), (10, ai k)], h := [(0, .arr zg 3 0 .own (eL cVd (z7L L k))), (1, .box zn (cSt (P k) (T k)))], n := 2, N := 56 })
  (fun k => k ≤ n + 1) (fun k => n + 1 - k) 0 (by (conv => whnf); rw [show z7L L 0 = [] from rfl, zp]; first | done | rfl) (Nat.zero_le _) ?_
 intro k hk
 have hll := zA0 L k
 conv => whnf
 refine zK (fun q => ?_) (fun q => ?_) <;> (conv => whnf) <;> simp only [eH] at q
 ·have hkn : k ≤ n := by omega
  refine .inl ⟨_, _, _, hloss k hkn, rfl, ?_⟩
  conv => whnf
  refine And.intro (by simp [z7, zE, zQ]; omega) ?_
  conv => whnf
  refine .inl ⟨_, _, _, hround k hkn, rfl, ?_⟩
  conv => whnf
  refine ⟨k + 1, by omega, by omega, ?_⟩
  ((conv => whnf); simp only [eS, wI (show k < n + 1 by omega) (by omega)])
  rw [zCR, ← zX]
  simp only [z7]
  first | done | rfl | exact ⟨rfl, rfl⟩
 ·obtain rfl : k = n + 1 := by omega
  first | done | rfl
set_option maxHeartbeats 4000000 in
theorem z73 (t : Tbl) (c : Cfg) (hz : szT t) (hcl : c.signs.length ≤ 1048576) (h : ¬ (y1 t = true ∧ z0T c = true)) : z6 PR z11 [aTb t, aCf c] (zFz false) [(0, .arr zg 3 0 .own (eL cVd []))] 1 := by
 refine z6.intro hT (pf Tryz.func46) rfl (by kernel_rfl) Tryz.ntmps46 rfl ?_
 conv => whnf
 cases ht : y1 t with
 | false =>
  refine .inl ⟨_, _, _, z8H t hz ht, rfl, ?_⟩
  conv => whnf
  rw [zp]
  first | done | rfl
 | true =>
  have hc : z0T c = false := by cases q : z0T c with | true => exact absurd ⟨ht, q⟩ h | false => rfl
  refine .inl ⟨_, _, _, z06 t hz ht, rfl, ?_⟩
  conv => whnf
  refine .inl ⟨_, _, _, yO c hcl, rfl, ?_⟩
  rw [hc]
  conv => whnf
  rw [zp]
  first | done | rfl
theorem z5F (t : Tbl) (c : Cfg) (hz : szT t) (hcl : c.signs.length ≤ 1048576) : z6 PR z11 [aTb t, aCf c] (zFz (z3g t c).2) [(0, .arr zg 3 0 .own (eL cVd (z3g t c).1))] 1 := by
 by_cases h : y1 t = true ∧ z0T c = true
 ·unfold z3g
  rw [if_pos h]
  have hc := z0K.1 h.2
  obtain ⟨⟨hb, hbb⟩, hn, hn1, hn8⟩ := z3G hc
  have hgrid := z2t t c.bins.toNat hbb h.1 hz.n hz.ns hz.tg hz.r hz.c hz.y
  rw [← hb] at hgrid
  have hf := z9j t c hz h.1 h.2
  exact z72 t c (zi t c.bins.toNat) (fun k => (zm t c (zi t c.bins.toNat) k).1) (fun k => (zm t c (zi t c.bins.toNat) k).2) (zKz t c) c.rounds.toNat h.2 hcl hn hn8 hgrid (z06 t hz h.1)
   (fun k hk => by
    obtain ⟨h1, h2, h3, h4, h5⟩ := hf k (by omega)
    exact z5E t (zm t c (zi t c.bins.toNat) k).1 (zm t c (zi t c.bins.toNat) k).2 h1.symm (by omega) h3 h4 h5)
   (fun k hk => zCy t c hz h.1 h.2 k (by omega))
 ·unfold z3g
  rw [if_neg h]
  exact z73 t c hz hcl h
set_option maxHeartbeats 4000000 in
theorem z7R (t : Tbl) (c : Cfg) (P : Nat → List Int) (T : Nat → List (List Nd)) (L : Nat → Int) (n : Nat) (hn8 : n ≤ 8) (hst : z6 PR z1M [aTb t, aCf c] (zLw (wY P T (n + 1)) true) [] 0)
  (hloss : ∀ k, k ≤ n → z6 PR w9 [aTb t, aSt (P k) (T k)] (z4Y (L k) true) [] 0) : z6 PR wA [aTb t, aCf c] (zFz true) [(0, .arr zg 3 0 .own (eL cVd (z7L L (n + 1))))] 1 := by
 have hsl := z9Z P T (n + 1)
 have hat := fun k (hk : k < n + 1) => zHo P T hk
 generalize wY P T (n + 1) = l at *
 have eL2 : nInt (dLen (eL cSx l)) = (l.length : Int) := by simp
 refine z6.intro hT (pf Tryz.func48) rfl (by kernel_rfl) Tryz.ntmps48 rfl ?_
 conv => whnf
 refine .inl ⟨_, _, _, hst, rfl, ?_⟩
 conv => whnf
 refine zj 0 ?_
 conv => whnf
 refine zB hT [2, 8, 22, 23, 24] (α := Nat) (fun k => { t := [(2, rpTb t), (8, .c (.ref 0 0 none)), (22, .c (.d (.sl 2 (eL cSx l)))), (23, ai l.length), (24, ai k)], h := [(0, .arr zg 3 0 .own (eL cVd (z7L L k)))], n := 1, N := 42 })
  (fun k => k ≤ l.length) (fun k => l.length - k) 0 (by (conv => whnf); rw [show z7L L 0 = [] from rfl, zp]; first | done | rfl | (rw [eL2]; rfl)) (Nat.zero_le _) ?_
 intro k hk
 have hll := zA0 L k
 conv => whnf
 refine zK (fun q => ?_) (fun q => ?_) <;> (conv => whnf) <;> simp only [eH] at q
 ·have hkn : k < n + 1 := by omega
  have hx := hat k hkn
  refine zG (by simp) hx ?_
  conv => whnf
  refine .inl ⟨_, _, _, hloss k (by omega), rfl, ?_⟩
  conv => whnf
  refine And.intro (by simp [z7, zE, zQ]; omega) ?_
  conv => whnf
  refine ⟨k + 1, by omega, by omega, ?_⟩
  ((conv => whnf); simp only [eS, wI (show k < l.length by omega) (by omega)])
  rw [zCR, ← zX]
  simp only [z7]
  first | done | rfl | exact ⟨rfl, rfl⟩
 ·obtain rfl : k = n + 1 := by omega
  first | done | rfl
set_option maxHeartbeats 4000000 in
theorem z6E (t : Tbl) (c : Cfg) (hz : szT t) (hcl : c.signs.length ≤ 1048576) (h : ¬ (y1 t = true ∧ z0T c = true)) : z6 PR wA [aTb t, aCf c] (zFz false) [(0, .arr zg 3 0 .own (eL cVd []))] 1 := by
 refine z6.intro hT (pf Tryz.func48) rfl (by kernel_rfl) Tryz.ntmps48 rfl ?_
 conv => whnf
 refine .inl ⟨_, _, _, z4p t c hz hcl h, rfl, ?_⟩
 conv => whnf
 rw [zp]
 first | done | rfl
theorem z6D (t : Tbl) (c : Cfg) (hz : szT t) (hcl : c.signs.length ≤ 1048576) (h : y1 t = true ∧ z0T c = true) : z6 PR wA [aTb t, aCf c] (zFz true) [(0, .arr zg 3 0 .own (eL cVd (z7L (zKz t c) (c.rounds.toNat + 1))))] 1 := by
 have hc := z0K.1 h.2
 obtain ⟨⟨hb, hbb⟩, hn, hn1, hn8⟩ := z3G hc
 have hf := z9j t c hz h.1 h.2
 exact z7R t c (fun k => (zm t c (zi t c.bins.toNat) k).1) (fun k => (zm t c (zi t c.bins.toNat) k).2) (zKz t c) c.rounds.toNat hn8 (zA3 t c hz h.1 h.2)
  (fun k hk => by
   obtain ⟨h1, h2, h3, h4, h5⟩ := hf k (by omega)
   exact z1h t (zm t c (zi t c.bins.toNat) k).1 (zm t c (zi t c.bins.toNat) k).2 h1.symm (by omega) h3 h4 h5)
theorem z5R (t : Tbl) (c : Cfg) (hz : szT t) (hcl : c.signs.length ≤ 1048576) : z6 PR wA [aTb t, aCf c] (zFz (z3g t c).2) [(0, .arr zg 3 0 .own (eL cVd (z3g t c).1))] 1 := by
 by_cases h : y1 t = true ∧ z0T c = true
 ·have := z6D t c hz hcl h
  unfold z3g
  rw [if_pos h]
  exact this
 ·unfold z3g
  rw [if_neg h]
  exact z6E t c hz hcl h
end Go.H.S
namespace Go.H.S
open Go Go.Proofs Go.H
attribute [local irreducible] Tri z6 zR zV zY zW
abbrev cW3 (x : Bool × Int × Int) : List D := [.bool x.1, .int .u64 x.2.1, .int .u64 x.2.2]
def w3 (n : Int) : Bool × Int × Int := (false, hiU n, loU n)
theorem eL_w3 (l : List Int) : eL cVd l = eL cW3 (l.map w3) := by simp [eL, w3, Function.comp_def]
theorem zHR (xs : List (Bool × Int × Int)) : z6s (eL cW3 xs) := fun c hc d hd => by
 rw [eL] at hc
 obtain ⟨x, _, rfl⟩ := List.mem_map.1 hc
 simp at hd
 rcases hd with rfl | rfl | rfl <;> rfl
theorem zLK (ns : List (Bool × Int × Int)) (i : Nat) (x : Bool × Int × Int) (v : Bool) : dSet (eL cW3 ns) i (wb (cW3 x) 0 [.bool v]) = eL cW3 (ns.set i (v, x.2.1, x.2.2)) := by
 rw [← z1m]; congr 1; simp [wb, over]
theorem zLJ (ns : List (Bool × Int × Int)) (i : Nat) (x : Bool × Int × Int) (v : Int) : dSet (eL cW3 ns) i (wb (cW3 x) 1 [.int .u64 v]) = eL cW3 (ns.set i (x.1, v, x.2.2)) := by
 rw [← z1m]; congr 1; simp [wb, over]
theorem zLI (ns : List (Bool × Int × Int)) (i : Nat) (x : Bool × Int × Int) (v : Int) : dSet (eL cW3 ns) i (wb (cW3 x) 2 [.int .u64 v]) = eL cW3 (ns.set i (x.1, x.2.1, v)) := by
 rw [← z1m]; congr 1; simp [wb, over]
def mk3 (k : Int) : Bool × Int × Int := (iEq (wRem k 3) 0, z2K .u64 (k + 1), z2K .u64 (k + 2))
def z3s (k : Int) : Nat → List (Bool × Int × Int)
 | 0 => []
 | n + 1 => mk3 k :: z3s (k + 3) n
theorem z4L : ∀ (n : Nat) (k : Int), (z3s k n).length = n
 | 0, _ => rfl
 | n + 1, k => by simp [z3s, z4L n]
theorem z7J : ∀ (n : Nat) (k : Int) (j : Nat), j < n → (z3s k n)[j]? = some (mk3 (k + 3 * j))
 | 0, _, _, h => by omega
 | n + 1, k, 0, _ => by simp [z3s]
 | n + 1, k, j + 1, h => by
  simp only [z3s, List.getElem?_cons_succ]
  rw [z7J n (k + 3) j (by omega)]
  congr 2
  omega
theorem zGQ (x : Bool × Int × Int) : z6 PR zDx [.agg [.d (.bool x.1), .d (.int .u64 x.2.1), .d (.int .u64 x.2.2)], .agg [.d (.bool x.1), .d (.int .u64 x.2.1), .d (.int .u64 x.2.2)]] (ab true) [] 0 := by
 refine z6.intro hT (pf Tryz.func137) rfl (by kernel_rfl) Tryz.ntmps137 rfl ?_
 conv => whnf
 rw [show bEq x.1 x.1 = true by cases x.1 <;> rfl]
 conv => whnf
 rw [show iEq x.2.1 x.2.1 = true from decide_eq_true rfl]
 conv => whnf
 rw [show iEq x.2.2 x.2.2 = true from decide_eq_true rfl]
 conv => whnf
theorem zFa (xs : List (Bool × Int × Int)) (hx : xs.length ≤ 9223372036854775807) : z6 PR zBi [.c (.d (.sl 3 (eL cW3 xs))), .c (.d (.sl 3 (eL cW3 xs)))] (ab true) [] 0 := by
 refine z6.intro hT (pf Tryz.func49) rfl (by kernel_rfl) Tryz.ntmps49 rfl ?_
 conv => whnf
 rw [show iEq (nInt (dLen (eL cW3 xs))) (nInt (dLen (eL cW3 xs))) = true from decide_eq_true rfl]
 conv => whnf
 refine zB hT [0, 1, 5] (α := Nat) (fun k => { t := [(0, .c (.d (.sl 3 (eL cW3 xs)))), (1, .c (.d (.sl 3 (eL cW3 xs)))), (5, ai k)], h := [], n := 0, N := 27 })
  (fun k => k ≤ xs.length) (fun k => xs.length - k) 0 (by (conv => whnf); first | done | rfl) (Nat.zero_le _) ?_
 intro k hk
 conv => whnf
 refine zK (fun q => ?_) (fun q => ?_) <;> (conv => whnf) <;> simp only [eH] at q
 ·obtain ⟨x, hx2⟩ := zI (show k < xs.length by omega)
  refine zJ hT hmix [0, 1, 5, 26] { t := [(0, .c (.d (.sl 3 (eL cW3 xs)))), (1, .c (.d (.sl 3 (eL cW3 xs)))), (5, ai k), (26, ab false)], h := [], n := 0, N := 27 } rfl ?_ ?_
  ·repeat' first
    | (refine zM rfl ?_; (conv => whnf))
    | (refine zL rfl ?_ ?_ <;> (conv => whnf))
    | (refine zC rfl ?_ ?_ ?_ <;> (conv => whnf))
    | (refine zG (k := k) rfl hx2 ?_; (conv => whnf))
    | (refine .inl ⟨_, _, _, zGQ x, rfl, ?_⟩; (conv => whnf))
    | (refine zO rfl ?_; (conv => whnf); first | done | rfl)
  conv => whnf
  refine ⟨k + 1, by omega, by omega, ?_⟩
  ((conv => whnf); simp only [eS, wI (show k < xs.length by omega) (by omega)])
  first | done | rfl
set_option maxHeartbeats 4000000 in
theorem zBC (ns : List (Bool × Int × Int)) (k : Int) (hk : 0 ≤ k ∧ k ≤ 1000000000000) (hx : ns.length ≤ 1000000000) : zR PR z92 [.c (.ref 0 0 none), ai k] zg 3 (eL cW3 ns) (ai (k + 3 * ns.length)) (eL cW3 (z3s k ns.length)) := by
 refine zR.intro hT 0 (pf Tryz.func53) rfl (by kernel_rfl) Tryz.ntmps53 rfl rfl (by simp [zE, z4L]) rfl (zHR _) ?_
 intro v0
 conv => whnf
 refine zB hT [0, 1, 5] (α := Nat × List (Bool × Int × Int)) (fun x => { t := [(0, .w (.ref 0 0 none) v0), (1, ai (k + 3 * x.1)), (5, ai x.1)], h := [(0, .arr zg 3 0 .own (eL cW3 x.2))], n := 1, N := 38 })
  (fun x => x.1 ≤ ns.length ∧ x.2.length = ns.length ∧ ∀ j : Nat, j < x.1 → x.2[j]? = some (mk3 (k + 3 * j))) (fun x => ns.length - x.1) (0, ns) (by ((conv => whnf); simp only [eS]); simp) ⟨Nat.zero_le _, rfl, fun j hj => by omega⟩ ?_
 intro ⟨i, ys⟩ ⟨hi, hl, hj⟩
 dsimp only at hi hl hj
 conv => whnf
 refine zK (fun h1 => ?_) (fun h1 => ?_) <;> (conv => whnf) <;> simp at h1
 ·obtain ⟨y, hy⟩ := zI h1
  rw [hl] at h1
  have e1 : wAdd .i64 (k + 3 * (i : Int)) 1 = k + 3 * i + 1 := by rw [y6] <;> omega
  have e2 : wAdd .i64 (k + 3 * (i : Int) + 1) 1 = k + 3 * i + 2 := by rw [y6] <;> omega
  have e3 : wAdd .i64 (k + 3 * (i : Int) + 2) 1 = k + 3 * i + 3 := by rw [y6] <;> omega
  have ei : nAdd (offR none) (nOf ((i : Nat) : Int)) = i := by simp
  dsimp only
  obtain ⟨K, hK⟩ : ∃ K : Int, K = k + 3 * i := ⟨_, rfl⟩
  rw [← hK] at e1 e2 e3 ⊢
  refine And.intro (by simp [NZ]) ?_
  conv => whnf
  refine ye (k := i) (by simp) (by simp; omega) ?_
  conv => whnf
  refine z88 (k := i) (by simp) hy (by simp) ?_
  dsimp only
  rw [ei, zLK]
  generalize hb0 : iEq (wRem K 3) 0 = b0
  have q0 : (ys.set i (b0, y.2.1, y.2.2))[i]? = some (b0, y.2.1, y.2.2) := by rw [List.getElem?_set]; simp [hl, h1]
  have l0 : (ys.set i (b0, y.2.1, y.2.2)).length = ns.length := by simp [hl]
  have r0 : ∀ j, j ≠ i → (ys.set i (b0, y.2.1, y.2.2))[j]? = ys[j]? := fun j hj => by rw [List.getElem?_set, if_neg (fun h => hj h.symm)]
  generalize z0e : ys.set i (b0, y.2.1, y.2.2) = z0 at *
  conv => whnf
  rw [e1]
  refine ye (k := i) (by simp) (by simp; omega) ?_
  conv => whnf
  refine z88 (k := i) (by simp) q0 (by simp) ?_
  dsimp only
  rw [ei, zLJ]
  generalize hc1 : z2K .u64 (K + 1) = c1
  have q1 : (z0.set i (b0, c1, y.2.2))[i]? = some (b0, c1, y.2.2) := by rw [List.getElem?_set]; simp [l0, h1]
  have l1 : (z0.set i (b0, c1, y.2.2)).length = ns.length := by simp [l0]
  have r1 : ∀ j, j ≠ i → (z0.set i (b0, c1, y.2.2))[j]? = z0[j]? := fun j hj => by rw [List.getElem?_set, if_neg (fun h => hj h.symm)]
  generalize z1e : z0.set i (b0, c1, y.2.2) = z1 at *
  conv => whnf
  rw [e2]
  refine ye (k := i) (by simp) (by simp; omega) ?_
  conv => whnf
  refine z88 (k := i) (by simp) q1 (by simp) ?_
  dsimp only
  rw [ei, zLI]
  generalize hc2 : z2K .u64 (K + 2) = c2
  have q2 : (z1.set i (b0, c1, c2))[i]? = some (b0, c1, c2) := by rw [List.getElem?_set]; simp [l1, h1]
  have l2 : (z1.set i (b0, c1, c2)).length = ns.length := by simp [l1]
  have r2 : ∀ j, j ≠ i → (z1.set i (b0, c1, c2))[j]? = z1[j]? := fun j hj => by rw [List.getElem?_set, if_neg (fun h => hj h.symm)]
  generalize z2e : z1.set i (b0, c1, c2) = z2 at *
  conv => whnf
  rw [e3]
  refine ⟨(i + 1, z2), by dsimp only; omega, ⟨by dsimp only; omega, l2, fun j hlt => ?_⟩, ?_⟩
  ·dsimp only at hlt ⊢
   rcases Nat.lt_or_ge j i with q | q
   ·rw [r2 j (by omega), r1 j (by omega), r0 j (by omega), hj j q]
   ·obtain rfl : j = i := by omega
    rw [q2, ← hK]
    unfold mk3
    rw [hb0, hc1, hc2]
  ·((conv => whnf); simp only [eS, wI h1 (by omega)])
   omega
 ·obtain rfl : i = ns.length := by omega
  have : ys = z3s k ns.length := by
   apply List.ext_getElem?
   intro j
   rcases Nat.lt_or_ge j ns.length with q | q
   ·rw [hj j q, z7J _ _ _ q]
   ·rw [List.getElem?_eq_none (by omega), List.getElem?_eq_none (by rw [z4L]; omega)]
  subst this
  conv => whnf
set_option maxHeartbeats 4000000 in
theorem z4q (k : Int) (n : Nat) (hk : 0 ≤ k ∧ k ≤ 1000000000000) (hx : n ≤ 1000000000) : z6 PR z95 [.c (.d (.sl 3 (eL cW3 (z3s k n)))), ai k] (ai (k + 3 * n)) [] 0 := by
 have hml := z4L n k
 refine z6.intro hT (pf Tryz.func54) rfl (by kernel_rfl) Tryz.ntmps54 rfl ?_
 conv => whnf
 refine zB hT [0, 1, 5] (α := Nat) (fun x => { t := [(0, .c (.d (.sl 3 (eL cW3 (z3s k n))))), (1, ai (k + 3 * x)), (5, ai x)], h := [], n := 0, N := 44 })
  (fun x => x ≤ n) (fun x => n - x) 0 (by (conv => whnf); first | done | rfl | (simp; done) | ((conv => whnf); simp only [eS])) (Nat.zero_le _) ?_
 intro i hi
 conv => whnf
 refine zK (fun h1 => ?_) (fun h1 => ?_) <;> (conv => whnf) <;> simp [hml] at h1
 ·have hy := z7J n k i h1
  have e1 : wAdd .i64 (k + 3 * (i : Int)) 1 = k + 3 * i + 1 := by rw [y6] <;> omega
  have e2 : wAdd .i64 (k + 3 * (i : Int) + 1) 1 = k + 3 * i + 2 := by rw [y6] <;> omega
  have e3 : wAdd .i64 (k + 3 * (i : Int) + 2) 1 = k + 3 * i + 3 := by rw [y6] <;> omega
  unfold mk3 at hy
  obtain ⟨K, hK⟩ : ∃ K : Int, K = k + 3 * i := ⟨_, rfl⟩
  rw [← hK] at e1 e2 e3 hy ⊢
  refine zG (by simp) hy ?_
  conv => whnf
  refine And.intro (by simp [NZ]) ?_
  conv => whnf
  generalize hb0 : iEq (wRem K 3) 0 = b0 at *
  rw [show bEq b0 b0 = true by cases b0 <;> rfl]
  conv => whnf
  refine zG (by simp) hy ?_
  conv => whnf
  rw [e1]
  generalize hc1 : z2K .u64 (K + 1) = c1 at *
  rw [show iEq c1 c1 = true from decide_eq_true rfl]
  conv => whnf
  refine zG (by simp) hy ?_
  conv => whnf
  rw [e2]
  generalize hc2 : z2K .u64 (K + 2) = c2 at *
  rw [show iEq c2 c2 = true from decide_eq_true rfl]
  conv => whnf
  rw [e3]
  refine ⟨i + 1, by omega, by omega, ?_⟩
  ((conv => whnf); simp only [eS, wI h1 (by omega)])
  omega
 ·obtain rfl : i = n := by omega
  conv => whnf
theorem zEl (x : Tbl) (ho : zG3 x) : z6 PR z4t [aTb x] (.agg [.ref 0 0 none, .d (.str x.target), .ref 1 0 none, .ref 2 0 none]) [(0, .arr zy 1 0 .own (eL cS x.names)), (1, .arr yS 1 0 (.nest [zZ]) (eL cIs x.rows)), (2, .arr zZ 1 0 .own (eL cI x.ys))] 3 := by
 obtain ⟨o0, o1, o2⟩ := ho
 refine z6.intro hTn (pf Tryz.func47) rfl (by kernel_rfl) Tryz.ntmps47 rfl ?_
 conv => whnf
 refine .inl ⟨_, _, _, z4m x.names o0, rfl, ?_⟩
 conv => whnf
 refine .inl ⟨_, _, _, zEn x.rows o1.1 o1.2, rfl, ?_⟩
 conv => whnf
 refine .inl ⟨_, _, _, z1T x.ys o2, rfl, ?_⟩
 conv => whnf
theorem zBD (x : Tbl) (hn : x.names.length ≤ 1048576) (hr : x.rows.length ≤ 1048576) (hy : x.ys.length ≤ 1048576) (hc : wh List.length x.rows ≤ 1048576) :
  zY PR z93 [.agg [.ref 0 0 none, .d (.str x.target), .ref 1 0 none, .ref 2 0 none], ai 1] [(0, .arr zy 1 0 .own (eL cS x.names)), (1, .arr yS 1 0 (.nest [zZ]) (eL cIs x.rows)), (2, .arr zZ 1 0 .own (eL cI x.ys))] 3 (ai (1 + x.names.length + wh List.length x.rows + x.ys.length)) := by
 refine zY.intro hTn (pf Tryz.func51) rfl (by kernel_rfl) Tryz.ntmps51 rfl rfl rfl ?_
 conv => whnf
 refine .inr (.inr (.inl ⟨0, ?_⟩))
 conv => whnf
 refine .inl ⟨_, _, z8Y x.names 1 (by omega) (by omega), ?_⟩
 conv => whnf
 refine .inr (.inr (.inr (.inl ⟨[(1, 0)], ?_⟩)))
 conv => whnf
 refine ⟨[.c (.ref 0 0 none), ai (1 + x.names.length)], _, ⟨rfl, rfl, rfl⟩, zBE x.rows _ (by omega) (by omega) (fun t h => by have := zAn List.length h; omega), ?_⟩
 conv => whnf
 refine .inr (.inr (.inl ⟨2, ?_⟩))
 conv => whnf
 refine .inl ⟨_, _, z2z x.ys (1 + x.names.length + wh List.length x.rows) (by omega) (by omega), ?_⟩
 conv => whnf
theorem z9y (x : Cfg) (k : Int) (hk : 0 ≤ k ∧ k ≤ 1000000000) (hs : x.signs.length ≤ 1048576) :
  zY PR z7f [.agg [.d (.int .i64 x.rounds), .d (.int .i64 x.depth), .d (.int .i64 x.bins), .d (.int .i64 x.lambda), .d (.int .i64 x.rows), .d (.int .i64 x.num), .d (.int .i64 x.den), .ref 0 0 none], ai k] [(0, .arr zZ 1 0 .own (eL cI x.signs))] 1 (ai (k + x.signs.length)) := by
 refine zY.intro hTn (pf Tryz.func52) rfl (by kernel_rfl) Tryz.ntmps52 rfl rfl rfl ?_
 conv => whnf
 refine .inr (.inr (.inl ⟨0, ?_⟩))
 conv => whnf
 refine .inl ⟨_, _, z2z x.signs k (by omega) (by omega), ?_⟩
 conv => whnf
end Go.H.S
namespace Go.H.S
open Go Go.Proofs Go.H
attribute [local irreducible] Tri z6 zR zV zY zW
theorem zG1 {t : Tbl} (ho : z9r t) (h : wg t ≤ 1048576) : zG3 t ∧ szT t ∧ wh List.length t.rows ≤ 1048576 := by
 unfold wg at h
 have h1 := zHX ByteArray.size t.names
 have h2 := zHX List.length t.rows
 have h5 := zIC List.length t.rows
 have h3 : ∀ r ∈ t.rows, r.length ≤ 1048576 := fun r hr => by have := zAn List.length hr; omega
 exact ⟨⟨by omega, ⟨by omega, fun r hr => by have := h3 r hr; omega⟩, by omega⟩, ⟨by omega, ho.1.2, ho.2.1, by omega, h3, by omega⟩, by omega⟩
def zIv (x : Tbl) : Prop := (∀ r ∈ x.rows, ∀ y ∈ r, i64 y) ∧ (∀ y ∈ x.ys, i64 y)
theorem ty_table {n : Nat} {c : List D} (h : TyD Tp n zEp c) : ∃ x : Tbl, (z9r x ∧ zIv x) ∧ c = [.sl 1 (eL cS x.names), .str x.target, .sl 1 (eL cIs x.rows), .sl 1 (eL cI x.ys)] := by
 obtain ⟨hl, hf⟩ := h.struct (ti := _) rfl rfl
 obtain ⟨_, g0⟩ := hf (0, zEq) (by simp) _ rfl
 obtain ⟨_, g1⟩ := hf (1, zy) (by simp) _ rfl
 obtain ⟨_, g2⟩ := hf (2, zM0) (by simp) _ rfl
 obtain ⟨_, g3⟩ := hf (3, yS) (by simp) _ rfl
 obtain ⟨l0, e0, q0, k0⟩ := zLu g0
 obtain ⟨s1, e1, r1⟩ := g1.str rfl rfl
 obtain ⟨es2, e2, b2, f2⟩ := g2.slice rfl rfl rfl
 obtain ⟨l2, rfl, q2, k2⟩ := zJh (f := cIs) (fun c hc => (let ⟨_, hm⟩ := f2 c hc; zFy hm))
 obtain ⟨l3, e3, q3, k3⟩ := zFy g3
 refine ⟨⟨l0, s1, l2, l3⟩, ⟨⟨⟨q0, k0⟩, r1, ⟨by dsimp only; omega, fun t ht => (k2 t ht).1⟩, q3⟩, fun t ht => (k2 t ht).2, k3⟩, ?_⟩
 match c, hl with
 | [c0, c1, c2, c3], _ =>
  simp [cSs, cIs, cI] at e0 e1 e2 e3
  simp [e0, e1, e2, e3]
theorem zHp (t : Tbl) (c : Cfg) : (z3g t c).1.length ≤ 9 := by
 unfold z3g
 split
 ·rename_i h
  obtain ⟨_, _, _, hn8⟩ := z3G (z0K.1 h.2)
  rw [zA0]
  omega
 ·simp
set_option maxHeartbeats 4000000 in
theorem law_FnExactStageLoss (t : Tbl) (c : Cfg) (ht : z9r t ∧ zIv t) (hc : z9L c ∧ zH5 c) : z6 PR z3D [aTb t, aCf c] (ab true) [] 0 := by
 refine z6.intro hTn (pf Tryz.func8) rfl (by kernel_rfl) Tryz.ntmps8 rfl ?_
 conv => whnf
 refine .inl ⟨_, _, _, zEs t 1048576 (by omega) (by omega) ht.1, rfl, ?_⟩
 conv => whnf
 refine zK (fun h1 => ?_) (fun h1 => ?_) <;> (conv => whnf) <;> simp only [eH] at h1
 rw [show bud 1048576 (wg t) = ((1048576 - wg t : Nat) : Int) from by have := zLn h1; rw [zKB] <;> omega]
 have hcg := zLn h1
 obtain ⟨hsm, hz, hcr⟩ := zG1 ht.1 hcg
 refine .inl ⟨_, _, _, zCt c _ (by omega) (by omega) hc.1, rfl, ?_⟩
 conv => whnf
 refine zK (fun h3 => ?_) (fun h3 => ?_) <;> (conv => whnf) <;> simp only [eH] at h3
 have hcl : c.signs.length ≤ 1048576 := by have := (z7r h3).1; unfold z4S at this; omega
 have hsc : zD0 c := by unfold zD0; omega
 have hsp := z5F t c hz hcl
 refine zj 0 ?_
 conv => whnf
 refine zj 1 ?_
 conv => whnf
 have him := z5R t c hz hcl
 have hll := zHp t c
 generalize z3g t c = r at *
 obtain ⟨L, ok⟩ := r
 dsimp only at hsp him hll
 rw [eL_w3] at hsp him
 have hwl : (L.map w3).length ≤ 9 := by rw [List.length_map]; omega
 clear hll
 generalize L.map w3 = wl at *
 clear L
 have heq := zFa wl (by omega)
 refine zJ hTn hmix [2, 3, 6, 7] { t := [(2, rpTb t), (3, rpCf c), (6, .c (.ref 0 0 none)), (7, ab ok)], h := [(0, .arr zg 3 0 .own (eL cW3 wl))], n := 1, N := 119 } rfl ?_ ?_
 ·repeat' first
   | (refine zM rfl ?_; (conv => whnf))
   | (refine zL rfl ?_ ?_ <;> (conv => whnf))
   | (refine .inl ⟨_, _, _, z3e t hsm, rfl, ?_⟩; (conv => whnf))
   | (refine .inl ⟨_, _, _, z1F c hsc, rfl, ?_⟩; (conv => whnf))
   | (refine .inl ⟨_, _, _, hsp, rfl, ?_⟩; (conv => whnf))
   | (refine zO rfl ?_; (conv => whnf); first | done | (simp only [z7]; done) | (simp only [z7]; rfl))
 conv => whnf
 refine .inl ⟨_, _, _, zEl t hsm, rfl, ?_⟩
 conv => whnf
 refine .inl ⟨_, _, _, z1F c hsc, rfl, ?_⟩
 conv => whnf
 refine .inr (.inl ⟨_, _, _, him, rfl, ⟨zHR _, trivial⟩, ?_⟩)
 conv => whnf
 refine .inr (.inl ⟨_, _, _, heq, rfl, trivial, ?_⟩)
 conv => whnf
 rw [show bEq ok ok = true from by cases ok <;> rfl]
 conv => whnf
 refine zJ hTn hmix [2, 3, 6, 7, 8, 9, 10, 11, 58] { t := [(2, rpTb t), (3, rpCf c), (6, .c (.ref 0 0 none)), (7, ab ok), (8, .c (.ptr 1 0)), (9, .c (.ptr 5 0)), (10, .c (.ref 7 0 none)), (11, ab ok), (58, ab (bNot true))], h := [(0, .arr zg 3 0 .own (eL cW3 wl)), (1, .box zF [.ref 2 0 none, .d (.str t.target), .ref 3 0 none, .ref 4 0 none]), (2, .arr zy 1 0 .own (eL cS t.names)), (3, .arr yS 1 0 (.nest [zZ]) (eL cIs t.rows)), (4, .arr zZ 1 0 .own (eL cI t.ys)), (5, .box zc [.d (.int .i64 c.rounds), .d (.int .i64 c.depth), .d (.int .i64 c.bins), .d (.int .i64 c.lambda), .d (.int .i64 c.rows), .d (.int .i64 c.num), .d (.int .i64 c.den), .ref 6 0 none]), (6, .arr zZ 1 0 .own (eL cI c.signs)), (7, .arr zg 3 0 .own (eL cW3 wl))], n := 8, N := 119 } rfl ?_ ?_
 ·repeat' first
   | (refine zM rfl ?_; (conv => whnf))
   | (refine zL rfl ?_ ?_ <;> (conv => whnf))
   | (refine zO rfl ?_; (conv => whnf); first | done | (simp only [z7]; done) | (simp only [z7]; rfl))
   | (refine .inl ⟨_, _, _, z3e t hsm, rfl, ?_⟩; (conv => whnf))
   | (refine .inr (.inl ⟨_, _, _, zFb t ht.1, rfl, trivial, ?_⟩); (conv => whnf))
 conv => whnf
 refine zJ hTn hmix [2, 3, 6, 7, 8, 9, 10, 11, 63] { t := [(2, rpTb t), (3, rpCf c), (6, .c (.ref 0 0 none)), (7, ab ok), (8, .c (.ptr 1 0)), (9, .c (.ptr 5 0)), (10, .c (.ref 7 0 none)), (11, ab ok), (63, ab (bNot true))], h := [(0, .arr zg 3 0 .own (eL cW3 wl)), (1, .box zF [.ref 2 0 none, .d (.str t.target), .ref 3 0 none, .ref 4 0 none]), (2, .arr zy 1 0 .own (eL cS t.names)), (3, .arr yS 1 0 (.nest [zZ]) (eL cIs t.rows)), (4, .arr zZ 1 0 .own (eL cI t.ys)), (5, .box zc [.d (.int .i64 c.rounds), .d (.int .i64 c.depth), .d (.int .i64 c.bins), .d (.int .i64 c.lambda), .d (.int .i64 c.rows), .d (.int .i64 c.num), .d (.int .i64 c.den), .ref 6 0 none]), (6, .arr zZ 1 0 .own (eL cI c.signs)), (7, .arr zg 3 0 .own (eL cW3 wl))], n := 8, N := 119 } rfl ?_ ?_
 ·repeat' first
   | (refine zM rfl ?_; (conv => whnf))
   | (refine zL rfl ?_ ?_ <;> (conv => whnf))
   | (refine zO rfl ?_; (conv => whnf); first | done | (simp only [z7]; done) | (simp only [z7]; rfl))
   | (refine .inl ⟨_, _, _, z1F c hsc, rfl, ?_⟩; (conv => whnf))
   | (refine .inr (.inl ⟨_, _, _, zES c hc.1, rfl, trivial, ?_⟩); (conv => whnf))
 conv => whnf
 refine .inr (.inr (.inr (.inl ⟨[(2, 0), (3, 1), (4, 2)], ?_⟩)))
 conv => whnf
 refine ⟨[.agg [.ref 0 0 none, .d (.str t.target), .ref 1 0 none, .ref 2 0 none], ai 1], _, ⟨rfl, rfl, rfl⟩, zBD t hz.n hz.r hz.y hcr, ?_⟩
 conv => whnf
 obtain ⟨K, hK⟩ : ∃ K : Int, K = 1 + (t.names.length : Int) + wh List.length t.rows + t.ys.length := ⟨_, rfl⟩
 rw [← hK]
 have hzn := hz.n
 have hzy := hz.y
 have hK2 : 0 < K ∧ K ≤ 100000000 := by omega
 refine .inr (.inr (.inr (.inl ⟨[(6, 0)], ?_⟩)))
 conv => whnf
 refine ⟨[.agg [.d (.int .i64 c.rounds), .d (.int .i64 c.depth), .d (.int .i64 c.bins), .d (.int .i64 c.lambda), .d (.int .i64 c.rows), .d (.int .i64 c.num), .d (.int .i64 c.den), .ref 0 0 none], ai K], _, ⟨rfl, rfl, rfl⟩, z9y c K (by omega) hcl, ?_⟩
 conv => whnf
 rw [show iLt (K + (c.signs.length : Int)) 0 = false from decide_eq_false (by omega)]
 conv => whnf
 refine .inr (.inl ⟨_, _, _, heq, rfl, trivial, ?_⟩)
 conv => whnf
 rw [show bEq ok ok = true from by cases ok <;> rfl]
 conv => whnf
 refine .inr (.inr (.inl ⟨7, ?_⟩))
 conv => whnf
 refine .inl ⟨_, _, zBC wl 1 (by omega) (by omega), ?_⟩
 conv => whnf
 refine .inr (.inl ⟨_, _, _, z4q 1 wl.length (by omega) (by omega), rfl, trivial, ?_⟩)
 conv => whnf
 rw [show iLt (1 + 3 * (wl.length : Int)) 0 = false from decide_eq_false (by omega)]
 conv => whnf
 rw [show iEq (1 + 3 * (wl.length : Int)) (1 + 3 * wl.length) = true from decide_eq_true rfl]
 conv => whnf
 refine zJ hTn hmix [6, 7, 10, 13, 15, 16] { t := [(6, .c (.ref 0 0 none)), (7, ab ok), (10, .c (.ref 1 0 none)), (13, ai (1 + 3 * wl.length)), (15, .c (.ref 2 0 none)), (16, ab ok)], h := [(0, .arr zg 3 0 .own (eL cW3 wl)), (1, .arr zg 3 0 .own (eL cW3 (z3s 1 wl.length))), (2, .arr zg 3 0 .own (eL cW3 wl))], n := 3, N := 119 } rfl ?_ ?_
 ·repeat' first
   | (refine zM rfl ?_; (conv => whnf))
   | (refine zL rfl ?_ ?_ <;> (conv => whnf))
   | (refine .inl ⟨_, _, _, z3e t hsm, rfl, ?_⟩; (conv => whnf))
   | (refine .inl ⟨_, _, _, z1F c hsc, rfl, ?_⟩; (conv => whnf))
   | (refine .inl ⟨_, _, _, him, rfl, ?_⟩; (conv => whnf))
   | (refine zO rfl ?_; (conv => whnf); first | done | (simp only [z7]; done) | (simp only [z7]; rfl))
 conv => whnf
 refine .inr (.inl ⟨_, _, _, heq, rfl, trivial, ?_⟩)
 conv => whnf
 rw [show bEq ok ok = true from by cases ok <;> rfl]
 conv => whnf
 refine .inr (.inl ⟨_, _, _, z4q 1 wl.length (by omega) (by omega), rfl, trivial, ?_⟩)
 conv => whnf
 rw [show iLt (1 + 3 * (wl.length : Int)) 0 = false from decide_eq_false (by omega)]
 conv => whnf
 rw [show iEq (1 + 3 * (wl.length : Int)) (1 + 3 * wl.length) = true from decide_eq_true rfl]
 conv => whnf
end Go.H.S
