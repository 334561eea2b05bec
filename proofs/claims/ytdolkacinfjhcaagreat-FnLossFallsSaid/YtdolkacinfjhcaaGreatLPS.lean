/- Library, part PS: spec.GrowTree: contract. -/
import Derived.Test.YtdolkacinfjhcaaGreatLPR
set_option maxRecDepth 100000
set_option linter.unusedSimpArgs false
set_option linter.unusedVariables false
namespace Go.H.S
open Go Go.Proofs Go.H
attribute [local irreducible] Tri z6 zR zV zY zW hiU loU
set_option maxHeartbeats 4000000 in
theorem z5o (g : Grd) (grads : List Int) (c : Cfg) (hg : smG g) (hr : grads.length ≤ 1048576) (hc : c.signs.length ≤ 1048576) (ht : yw g grads c) : z6 PR zAO [aG g, aIs grads, aCf c] tupTk [(0, .arr zt 5 0 .own (eL cN (yF g grads c)))] 1 := by
 have hgl : grads.length = yR g := ht.2.2.1
 have hcs := (wE c).1 ht.2.1.1
 refine z6.intro hT (pf Tryz.func32) rfl (by kernel_rfl) Tryz.ntmps32 rfl ?_
 conv => whnf
 refine .inl ⟨_, _, _, z3J g grads c hg hr hc, rfl, ?_⟩
 rw [z4H ht]
 conv => whnf
 refine .inl ⟨_, _, _, zBA _, rfl, ?_⟩
 conv => whnf
 refine .inl ⟨_, _, _, zB9, rfl, ?_⟩
 conv => whnf
 refine zj 0 ?_
 conv => whnf
 refine zj 1 ?_
 conv => whnf
 refine z0i 3 0 zt 5 ?_
 conv => whnf
 have hA : y9 (nInt (dLen (eL cI grads))) = y9 (grads.length : Int) := by simp
 have h0 := zAC ht
 refine zB hT [1, 3, 5, 6, 8, 9, 10] (α := Nat × List Itm × List Nd) (fun x => { t := [(1, aIs grads), (3, rpG g), (5, rpC c), (6, .c (.ptr 0 0)), (8, .c (.ptr 1 0)), (9, .c (.ref 3 0 none)), (10, ai x.1)], h := [(0, .box zT [.nl 5]), (1, .box zT [.ref 2 0 none]), (2, .arr zt 5 0 .own (eL cN x.2.2)), (3, .arr wB 4 0 .own (eL cIt x.2.1))], n := 4, N := 159 })
  (fun x => x.1 ≤ x.2.1.length ∧ zq g grads c x.1 = (x.2.1, x.2.2) ∧ grP g grads c x.1) (fun x => 32 - x.1) (0, [⟨y9 grads.length, z6Y, 0⟩], []) (by ((conv => whnf); simp only [eS, zp]); exact ⟨⟨rfl, rfl⟩, by simp [eL, cIt]⟩) ⟨by simp, rfl, h0⟩ ?_
 intro ⟨k, q, o⟩ ⟨hkl, hgk, hP⟩
 dsimp only at hkl hgk hP
 have hq1 : (zq g grads c k).1 = q := by rw [hgk]
 have ho1 : (zq g grads c k).2 = o := by rw [hgk]
 have hqn := z6S hP (by rw [hq1]; exact hkl)
 have hon := hP.out
 rw [hq1] at hqn
 rw [ho1] at hon
 conv => whnf
 refine zK (fun h1 => ?_) (fun h1 => ?_) <;> (conv => whnf) <;> simp [iLt] at h1
 ·obtain ⟨x, hx⟩ := zI (show k < q.length by omega)
  have hx' : (zq g grads c k).1[k]? = some x := by rw [hq1]; exact hx
  have hst := z1k hx'
  have hnx := zAD hP hx'
  have hxp := hP.it x (List.mem_of_getElem? hx')
  rw [hq1, ho1] at hst
  refine ye (k := k) (by simp) (by simp; omega) ?_
  conv => whnf
  refine z33 (by simp) hx ?_
  conv => whnf
  refine .inl ⟨_, _, _, z8L g grads c x.rows x.bd hg ht hxp.1 hxp.2.1, rfl, ?_⟩
  by_cases h2 : x.lev < c.depth
  ·have q3 : iLe c.depth x.lev = false := decide_eq_false (by omega)
   have hpi : z0l g grads c x = z5N g grads c x.rows x.bd := by unfold z0l; rw [if_pos h2]
   cases hz : z5N g grads c x.rows x.bd with
   | none =>
    rw [show z7t none = (noCd, false) from rfl]
    conv => whnf
    rw [q3]
    conv => whnf
    have hpn : z0l g grads c x = none := by rw [hpi, hz]
    have hst2 : zq g grads c (k + 1) = (q, o ++ [z1c grads c x]) := by rw [hst, z2L, hpn]
    have hsm := z3f ht.2.2.2 x.rows
    refine zj 4 ?_
    conv => whnf
    refine zJ hT hmix [1, 3, 5, 6, 8, 9, 10, 14] { t := [(1, aIs grads), (3, rpG g), (5, rpC c), (6, .c (.ptr 0 0)), (8, .c (.ptr 1 0)), (9, .c (.ref 3 0 none)), (10, ai k), (14, ai (z2D x.rows.length (sumR grads x.rows) c.lambda x.bd))], h := [(0, .box zT [.nl 5]), (1, .box zT [.ref 2 0 none]), (2, .arr zt 5 0 .own (eL cN o)), (3, .arr wB 4 0 .own (eL cIt q))], n := 4, N := 159 } rfl ?_ ?_
    ·repeat' first
      | (refine zM rfl ?_; (conv => whnf))
      | (refine zL rfl ?_ ?_ <;> (conv => whnf))
      | (refine zC rfl ?_ ?_ ?_ <;> (conv => whnf))
      | (refine .inl ⟨_, _, _, z3I grads x.rows ht.2.2.2 hxp.1.len (fun r h => by have := hxp.1.mem r h; omega), rfl, ?_⟩; (conv => whnf))
      | (refine .inl ⟨_, _, _, wi _ _ c.lambda _ (by have := hxp.1.len; omega) ht.2.1.lam (by have := hxp.1.len; omega) hxp.2.1, rfl, ?_⟩; (conv => whnf))
      | (refine zO rfl ?_; (conv => whnf); first | done | rfl)
    ·conv => whnf
     refine And.intro (by simp [zE, zQ]; omega) ?_
     conv => whnf
     refine ⟨(k + 1, q, o ++ [z1c grads c x]), by dsimp only; omega, ⟨by dsimp only; omega, hst2, hnx⟩, ?_⟩
     ((conv => whnf); simp only [eS, wI (show k < 40 by omega) (by omega)])
     rw [← zX]
     rfl
   | some z =>
    obtain ⟨f, b, hf, hb, hze⟩ := z61 hz
    obtain ⟨g1, g2, _, g4, _⟩ := z39 ht.1 hf
    obtain ⟨cv, hcv⟩ := zI hb
    have hcd : cdP z := by rw [hze]; exact zGY ht hxp.1 hf hb
    have hcut : zAm g (f : Int) (b : Int) = cv := by unfold zAm; rw [Int.toNat_natCast, Int.toNat_natCast, hcv]; rfl
    obtain ⟨zf, zb, zl, zr⟩ := z
    obtain rfl : zf = (f : Int) := congrArg Cd.f hze
    obtain rfl : zb = (b : Int) := congrArg Cd.b hze
    have hst2 : zq g grads c (k + 1) = (q ++ [kidL g c x ⟨(f : Int), (b : Int), zl, zr⟩, kidR g c x ⟨(f : Int), (b : Int), zl, zr⟩], o ++ [yr g ⟨(f : Int), (b : Int), zl, zr⟩ q.length]) := by rw [hst, z2L, hpi, hz]
    have hkl2 : k + 1 ≤ (zq g grads c (k + 1)).1.length := by rw [hst2]; simp; omega
    have hq2 := z6S hnx hkl2
    rw [hst2] at hq2
    simp only [List.length_append, List.length_cons, List.length_nil] at hq2
    have hbq := hxp.2.1
    have pl := z68 (n := zl.1) (s := zl.2) (lam := c.lambda) hbq.1
    have pr := z68 (n := zr.1) (s := zr.2) (lam := c.lambda) hbq.1
    have hxl := hxp.1.len
    rw [show z7t (some ⟨(f : Int), (b : Int), zl, zr⟩) = (⟨(f : Int), (b : Int), zl, zr⟩, true) from rfl]
    conv => whnf
    rw [q3]
    conv => whnf
    refine zj 4 ?_
    conv => whnf
    refine zj 5 ?_
    conv => whnf
    refine zJ hT hmix [1, 3, 5, 6, 8, 9, 10, 11, 12, 16, 17] { t := [(1, aIs grads), (3, rpG g), (5, rpC c), (6, .c (.ptr 0 0)), (8, .c (.ptr 1 0)), (9, .c (.ref 3 0 none)), (10, ai k), (11, .c (.d (.rp [.sl 1 (eL cI x.rows), .int .i64 x.bd.1, .int .i64 x.bd.2, .int .i64 x.lev]))), (12, .c (.d (.rp [.int .i64 (f : Int), .int .i64 (b : Int), .int .i64 zl.1, .int .i64 zl.2, .int .i64 zr.1, .int .i64 zr.2]))), (16, aIs (yJ (ya g f) x.rows b).1), (17, aIs (yJ (ya g f) x.rows b).2)], h := [(0, .box zT [.nl 5]), (1, .box zT [.ref 2 0 none]), (2, .arr zt 5 0 .own (eL cN o)), (3, .arr wB 4 0 .own (eL cIt q))], n := 4, N := 159 } rfl ?_ ?_
    ·repeat' first
      | (refine zM rfl ?_; (conv => whnf))
      | (refine zL rfl ?_ ?_ <;> (conv => whnf))
      | (refine zC rfl ?_ ?_ ?_ <;> (conv => whnf))
      | (refine zG (by simp) g2 ?_; (conv => whnf))
      | (refine .inl ⟨_, _, _, z8I (ya g f) x.rows (b : Int) (by omega) (by omega), rfl, ?_⟩; (conv => whnf))
      | (refine zO rfl ?_; (conv => whnf); first | done | rfl)
    conv => whnf
    refine .inl ⟨_, _, _, z18 c x.bd ⟨(f : Int), (b : Int), zl, zr⟩ ht.2.1 hbq hcd, rfl, ?_⟩
    conv => whnf
    refine zJ hT hmix [1, 3, 5, 6, 8, 9, 10, 11, 12, 16, 17, 21, 22] { t := [(1, aIs grads), (3, rpG g), (5, rpC c), (6, .c (.ptr 0 0)), (8, .c (.ptr 1 0)), (9, .c (.ref 3 0 none)), (10, ai k), (11, .c (.d (.rp [.sl 1 (eL cI x.rows), .int .i64 x.bd.1, .int .i64 x.bd.2, .int .i64 x.lev]))), (12, .c (.d (.rp [.int .i64 (f : Int), .int .i64 (b : Int), .int .i64 zl.1, .int .i64 zl.2, .int .i64 zr.1, .int .i64 zr.2]))), (16, aIs (yJ (ya g f) x.rows b).1), (17, aIs (yJ (ya g f) x.rows b).2), (21, .c (.ptr 4 0)), (22, .c (.ptr 5 0))], h := [(0, .box zT [.nl 5]), (1, .box zT [.ref 2 0 none]), (2, .arr zt 5 0 .own (eL cN o)), (3, .arr wB 4 0 .own (eL cIt q)), (4, .box zo (cB (w5 (yQ c (f : Int)) x.bd (z1I c x.bd ⟨(f : Int), (b : Int), zl, zr⟩) (z1H c x.bd ⟨(f : Int), (b : Int), zl, zr⟩)).1)), (5, .box zo (cB (w5 (yQ c (f : Int)) x.bd (z1I c x.bd ⟨(f : Int), (b : Int), zl, zr⟩) (z1H c x.bd ⟨(f : Int), (b : Int), zl, zr⟩)).2))], n := 6, N := 159 } rfl ?_ ?_
    ·repeat' first
      | (refine zM rfl ?_; (conv => whnf))
      | (refine zL rfl ?_ ?_ <;> (conv => whnf))
      | (refine zC rfl ?_ ?_ ?_ <;> (conv => whnf))
      | (refine zw rfl ?_ ?_ ?_ ?_ <;> (conv => whnf))
      | (refine z6r rfl ?_ ?_ ?_ ?_ ?_ <;> (conv => whnf))
      | (refine .inl ⟨_, _, _, z2P c (f : Int) hc, rfl, ?_⟩; (conv => whnf))
      | (refine .inl ⟨_, _, _, z74 (yQ c (f : Int)) x.bd (z1I c x.bd ⟨(f : Int), (b : Int), zl, zr⟩) (z1H c x.bd ⟨(f : Int), (b : Int), zl, zr⟩) hbq (by unfold z1I; unfold yI at hbq; dsimp only; omega) (by unfold z1H; unfold yI at hbq; dsimp only; omega), rfl, ?_⟩; (conv => whnf))
      | (refine zO rfl ?_; (conv => whnf); first | done | rfl)
    conv => whnf
    refine zj 4 ?_
    conv => whnf
    refine zj 5 ?_
    conv => whnf
    have e1 : wAdd .i64 (nInt (z0a (eL cIt q) none)) 1 = ((q.length + 1 : Nat) : Int) := by rw [y6] <;> simp <;> omega
    have e0 : nInt (z0a (eL cIt q) none) = (q.length : Int) := by simp
    have e2 : wAdd .i64 x.lev 1 = x.lev + 1 := by have := hxp.2.2; exact y6 (by omega) (by omega)
    have hin : yr g ⟨(f : Int), (b : Int), zl, zr⟩ q.length = ⟨(f : Int), cv, (q.length : Int), ((q.length + 1 : Nat) : Int), 0⟩ := by unfold yr; dsimp only; rw [hcut]
    refine zJ hT hmix [1, 3, 5, 6, 8, 9, 10, 11, 16, 17, 21, 22] { t := [(1, aIs grads), (3, rpG g), (5, rpC c), (6, .c (.ptr 0 0)), (8, .c (.ptr 1 0)), (9, .c (.ref 3 0 none)), (10, ai k), (11, .c (.d (.rp [.sl 1 (eL cI x.rows), .int .i64 x.bd.1, .int .i64 x.bd.2, .int .i64 x.lev]))), (16, aIs (yJ (ya g f) x.rows b).1), (17, aIs (yJ (ya g f) x.rows b).2), (21, rpB (w5 (yQ c (f : Int)) x.bd (z1I c x.bd ⟨(f : Int), (b : Int), zl, zr⟩) (z1H c x.bd ⟨(f : Int), (b : Int), zl, zr⟩)).1), (22, rpB (w5 (yQ c (f : Int)) x.bd (z1I c x.bd ⟨(f : Int), (b : Int), zl, zr⟩) (z1H c x.bd ⟨(f : Int), (b : Int), zl, zr⟩)).2)], h := [(0, .box zT [.nl 5]), (1, .box zT [.ref 2 0 none]), (2, .arr zt 5 0 .own (eL cN (o ++ [yr g ⟨(f : Int), (b : Int), zl, zr⟩ q.length]))), (3, .arr wB 4 0 .own (eL cIt q))], n := 4, N := 159 } rfl ?_ ?_
    ·repeat' first
      | (refine zM rfl ?_; (conv => whnf))
      | (refine zL rfl ?_ ?_ <;> (conv => whnf))
      | (refine zC rfl ?_ ?_ ?_ <;> (conv => whnf))
      | (refine zw rfl ?_ ?_ ?_ ?_ <;> (conv => whnf))
      | (refine zG (by simp) g1 ?_; (conv => whnf))
      | (refine zG (by simp) hcv ?_; (conv => whnf))
      | (refine And.intro (by simp [zE, zQ]; omega) ?_; (conv => whnf))
      | (refine zO rfl ?_; (conv => whnf); rw [hin, e1, e0, ← zX]; first | done | rfl)
    conv => whnf
    refine And.intro (by simp [zE, zQ]; omega) ?_
    conv => whnf
    rw [e2]
    refine ⟨(k + 1, q ++ [kidL g c x ⟨(f : Int), (b : Int), zl, zr⟩, kidR g c x ⟨(f : Int), (b : Int), zl, zr⟩], o ++ [yr g ⟨(f : Int), (b : Int), zl, zr⟩ q.length]), by dsimp only; omega, ⟨by simp; omega, hst2, hnx⟩, ?_⟩
    ((conv => whnf); simp only [eS, wI (show k < 40 by omega) (by omega)])
    rw [z7, zLk]
    rfl
  ·have q3 : iLe c.depth x.lev = true := decide_eq_true (by omega)
   conv => whnf
   rw [q3]
   conv => whnf
   have hpn : z0l g grads c x = none := by unfold z0l; rw [if_neg (by omega)]
   have hst2 : zq g grads c (k + 1) = (q, o ++ [z1c grads c x]) := by rw [hst, z2L, hpn]
   have hsm := z3f ht.2.2.2 x.rows
   refine zj 4 ?_
   conv => whnf
   refine zJ hT hmix [1, 3, 5, 6, 8, 9, 10, 14] { t := [(1, aIs grads), (3, rpG g), (5, rpC c), (6, .c (.ptr 0 0)), (8, .c (.ptr 1 0)), (9, .c (.ref 3 0 none)), (10, ai k), (14, ai (z2D x.rows.length (sumR grads x.rows) c.lambda x.bd))], h := [(0, .box zT [.nl 5]), (1, .box zT [.ref 2 0 none]), (2, .arr zt 5 0 .own (eL cN o)), (3, .arr wB 4 0 .own (eL cIt q))], n := 4, N := 159 } rfl ?_ ?_
   ·repeat' first
     | (refine zM rfl ?_; (conv => whnf))
     | (refine zL rfl ?_ ?_ <;> (conv => whnf))
     | (refine zC rfl ?_ ?_ ?_ <;> (conv => whnf))
     | (refine .inl ⟨_, _, _, z3I grads x.rows ht.2.2.2 hxp.1.len (fun r h => by have := hxp.1.mem r h; omega), rfl, ?_⟩; (conv => whnf))
     | (refine .inl ⟨_, _, _, wi _ _ c.lambda _ (by have := hxp.1.len; omega) ht.2.1.lam (by have := hxp.1.len; omega) hxp.2.1, rfl, ?_⟩; (conv => whnf))
     | (refine zO rfl ?_; (conv => whnf); first | done | rfl)
   ·conv => whnf
    refine And.intro (by simp [zE, zQ]; omega) ?_
    conv => whnf
    refine ⟨(k + 1, q, o ++ [z1c grads c x]), by dsimp only; omega, ⟨by dsimp only; omega, hst2, hnx⟩, ?_⟩
    ((conv => whnf); simp only [eS, wI (show k < 40 by omega) (by omega)])
    rw [← zX]
    rfl
 ·obtain rfl : k = q.length := by omega
  have hge := z38 hP (by rw [hq1])
  rw [ho1] at hge
  rw [← hge]
end Go.H.S
