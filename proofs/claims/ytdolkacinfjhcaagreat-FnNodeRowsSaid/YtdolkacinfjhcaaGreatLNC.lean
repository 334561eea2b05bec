/- Library, part W: TreeOk of the program; it is the reference's. -/
import Derived.Test.YtdolkacinfjhcaaGreatLV
set_option maxRecDepth 100000
set_option linter.unusedSimpArgs false
set_option linter.unusedVariables false
namespace Go.H.S
open Go Go.Proofs Go.H
attribute [local irreducible] Tri z6 zV zU
theorem wD (x : Int) : z6 PR z9J [ai x] (ab (decide (-2147483647 ≤ x ∧ x ≤ 2147483647))) [] 0 := by
 refine z6.intro hT (pf Tryz.func235) rfl (by kernel_rfl) Tryz.ntmps235 rfl ?_
 conv => whnf
 refine .inl ⟨_, _, _, zG _ _ _, rfl, ?_⟩
 conv => whnf
theorem yz (x : Int) : z6 PR z6w [ai x] (ab (decide (-1099511627776 ≤ x ∧ x ≤ 1099511627776))) [] 0 := by
 refine z6.intro hT (pf Tryz.func234) rfl (by kernel_rfl) Tryz.ntmps234 rfl ?_
 conv => whnf
 refine .inl ⟨_, _, _, zG _ _ _, rfl, ?_⟩
 conv => whnf
theorem z7o (t : List Nd) (node : Int) (hl : t.length ≤ 9223372036854775807) : z6 PR zBv [aT t, ai node] (ai ((wayL t node).length - 1)) [] 0 := by
 have hw := zCi t node
 refine z6.intro hT (pf Tryz.func96) rfl (by kernel_rfl) Tryz.ntmps96 rfl ?_
 conv => whnf
 refine .inl ⟨_, _, _, z1l t node hl, rfl, ?_⟩
 ((conv => whnf); simp only [eS, z0C])
 exact yB (by omega) (by omega)
theorem z7i (t : List Nd) (ft : Int) (hft : 0 ≤ ft ∧ ft ≤ 4) (hl : t.length ≤ 1048576) : z6 PR zBl [aT t, ai ft] (ab (yC t ft)) [] 0 := by
 refine z6.intro hT (pf Tryz.func123) rfl (by kernel_rfl) Tryz.ntmps123 rfl ?_
 conv => whnf
 refine zB hT [1, 2, 5, 9, 10, 11] (α := Nat × Nat) (fun x => { t := [(1, ai ft), (2, .c (.ptr 0 0)), (5, ai x.2), (9, aNs t), (10, ai t.length), (11, ai x.1)], h := [(0, .box zL (cTr t))], n := 1, N := 72 })
  (fun x => x.1 ≤ t.length ∧ x.2 ≤ 2 * x.1 + 1 ∧ yK ft (t.drop x.1) x.1 x.2 = yK ft t 0 1) (fun x => t.length - x.1) (0, 1) (by ((conv => whnf); simp only [eS]); rfl) ⟨Nat.zero_le _, by simp, by simp⟩ ?_
 intro ⟨k, nx⟩ ⟨hk, hx, hs⟩
 dsimp only at hk hx hs
 conv => whnf
 refine zK (fun h1 => ?_) (fun h1 => ?_) <;> (conv => whnf) <;> simp at h1
 ·obtain ⟨n, hn⟩ := zH h1
  rw [zy hn, yK] at hs
  refine zE (by simp) hn ?_
  conv => whnf
  refine .inl ⟨_, _, _, wL n, rfl, ?_⟩
  conv => whnf
  refine zK (fun h2 => ?_) (fun h2 => ?_) <;> (conv => whnf) <;> simp only [eH] at h2
  ·rw [if_pos h2] at hs
   generalize hb : bNot (bAnd (iEq n.f (-1)) (bAnd (iEq n.c 0) (bAnd (iEq n.l 0) (bAnd (iEq n.r 0) (bAnd (iEq n.v n.v) true))))) = b
   cases b <;> (conv => whnf)
   ·refine .inl ⟨_, _, _, yz n.v, rfl, ?_⟩
    conv => whnf
    generalize hb2 : decide (-1099511627776 ≤ n.v ∧ n.v ≤ 1099511627776) = b2
    cases b2 <;> (conv => whnf)
    ·have hlb : wR n = true := by simp [wR, hb2]
     rw [if_pos hlb] at hs
     rw [yd hs]
    ·have hlb : wR n = false := by
      obtain ⟨f, c, l, r, v⟩ := n
      simp only [wR, hb2]
      simp_all [bNot, bAnd, iEq]
     rw [hlb] at hs
     refine ⟨(k + 1, nx), by dsimp only; omega, ⟨h1, by dsimp only; omega, by simpa using hs⟩, ?_⟩
     ((conv => whnf); simp only [eS, wI h1 (by omega)])
   ·have hlb : wR n = true := by
     obtain ⟨f, c, l, r, v⟩ := n
     simp only [wR]
     simp_all [bNot, bAnd, iEq]
    rw [if_pos hlb] at hs
    rw [yd hs]
  ·rw [if_neg h2] at hs
   refine .inl ⟨_, _, _, zG _ _ _, rfl, ?_⟩
   rw [show wSub .i64 ft 1 = ft - 1 from yB (by omega) (by omega)]
   conv => whnf
   generalize hb1 : decide (0 ≤ n.f ∧ n.f ≤ ft - 1) = b1
   cases b1 <;> (conv => whnf)
   ·have hib : zw n ft k nx = true := by
     have : ¬ (0 ≤ n.f ∧ n.f ≤ ft - 1) := by simpa using hb1
     simp [zw, this]
    rw [if_pos hib] at hs
    rw [yd hs]
   ·refine .inl ⟨_, _, _, wD _, rfl, ?_⟩
    conv => whnf
    generalize hb2 : decide (-2147483647 ≤ n.c ∧ n.c ≤ 2147483647) = b2
    cases b2 <;> (conv => whnf)
    ·have hib : zw n ft k nx = true := by
      have : ¬ (-2147483647 ≤ n.c ∧ n.c ≤ 2147483647) := by simpa using hb2
      simp [zw, this]
     rw [if_pos hib] at hs
     rw [yd hs]
    ·generalize hb3 : iEq n.v 0 = b3
     cases b3 <;> (conv => whnf)
     ·have hib : zw n ft k nx = true := by
       have : ¬ n.v = 0 := by simpa [iEq] using hb3
       simp [zw, this]
      rw [if_pos hib] at hs
      rw [yd hs]
     generalize hb4 : iEq n.l (nx : Int) = b4
     cases b4 <;> (conv => whnf)
     ·have hib : zw n ft k nx = true := by
       have : ¬ n.l = nx := by simpa [iEq] using hb4
       simp [zw, this]
      rw [if_pos hib] at hs
      rw [yd hs]
     rw [show wAdd .i64 (nx : Int) 1 = nx + 1 from y1 (by omega) (by omega)]
     generalize hb5 : iEq n.r ((nx : Int) + 1) = b5
     cases b5 <;> (conv => whnf)
     ·have hib : zw n ft k nx = true := by
       have : ¬ n.r = nx + 1 := by simpa [iEq] using hb5
       simp [zw, this]
      rw [if_pos hib] at hs
      rw [yd hs]
     have q4 : n.l = nx := by simpa [iEq] using hb4
     generalize hb6 : iLe (nx : Int) ((k, nx).fst : Int) = b6
     dsimp only at hb6
     cases b6 <;> (conv => whnf)
     rotate_left
     ·have hib : zw n ft k nx = true := by
       have : (nx : Int) ≤ k := by simpa [iLe] using hb6
       simp [zw, q4]
       omega
      rw [if_pos hib] at hs
      rw [yd hs]
     have hib : zw n ft k nx = false := by
      have q3 : n.v = 0 := by simpa [iEq] using hb3
      have q5 : n.r = nx + 1 := by simpa [iEq] using hb5
      have q6 : ¬ (nx : Int) ≤ k := by simpa [iLe] using hb6
      have q1 : 0 ≤ n.f ∧ n.f ≤ ft - 1 := by simpa using hb1
      have q2 : -2147483647 ≤ n.c ∧ n.c ≤ 2147483647 := by simpa using hb2
      simp [zw, q1, q2, q3, q4, q5]
      omega
     rw [hib] at hs
     refine ⟨(k + 1, nx + 2), by dsimp only; omega, ⟨h1, by dsimp only; omega, by simpa using hs⟩, ?_⟩
     ((conv => whnf); simp only [eS, wI h1 (by omega), y1 (show -9223372036854775808 ≤ (nx : Int) + 2 by omega) (by omega), Int.natCast_add, Int.cast_ofNat_Int])
 ·obtain rfl : k = t.length := by omega
  simp only [List.drop_length, yK] at hs
  ((conv => whnf); simp only [eS])
  simp only [yC, ← hs, iEq, Option.some.injEq]
def z3o (t : List Nd) (n : Nd) : List Int → Bool
 | a :: b :: r => badP t n a b || z3o t n (b :: r)
 | _ => false
def z0M (t : List Nd) (k : Int) (n : Nd) : Bool :=
 if n.f = -1 then decide (4 < ((wayL t k).length : Int) - 1) else z3o t n (wayL t k)
def z0L (t : List Nd) : List Nd → Nat → Bool
 | [], _ => false
 | n :: r, k => z0M t k n || z0L t r (k + 1)
def z3q (t : List Nd) (ft : Int) : Bool :=
 decide (1 ≤ (t.length : Int) ∧ (t.length : Int) ≤ 31) && (decide (0 ≤ ft ∧ ft ≤ 4) && (yC t ft && !z0L t t 0))
set_option maxHeartbeats 1000000 in
theorem zAB (t : List Nd) (ft : Int) (hl : t.length ≤ 1048576) : z6 PR z6y [aT t, ai ft] (ab (z3q t ft)) [] 0 := by
 refine z6.intro hT (pf Tryz.func36) rfl (by kernel_rfl) Tryz.ntmps36 rfl ?_
 conv => whnf
 refine .inl ⟨_, _, _, zG _ _ _, rfl, ?_⟩
 conv => whnf
 refine zK (fun h2 => ?_) (fun h2 => ?_) <;> (conv => whnf) <;> simp only [eH] at h2
 ·have : decide (0 ≤ ft ∧ ft ≤ 4) = false := by simpa using h2
  simp [z3q, this]
 refine .inl ⟨_, _, _, zG _ _ _, rfl, ?_⟩
 conv => whnf
 refine zK (fun h1 => ?_) (fun h1 => ?_) <;> (conv => whnf) <;> simp only [eH] at h1
 ·simp [z3q, h1]
 have h1' := of_decide_eq_true h1
 have h2' := of_decide_eq_true h2
 refine .inl ⟨_, _, _, z7i t ft h2' (by omega), rfl, ?_⟩
 conv => whnf
 refine zK (fun h3 => ?_) (fun h3 => ?_) <;> (conv => whnf) <;> simp only [eH] at h3
 ·simp [z3q, h3]
 have hto : z3q t ft = !z0L t t 0 := by simp [z3q, h1, h2, h3]
 rw [hto]
 refine zB hT [2, 28, 29, 30] (α := Nat) (fun x => { t := [(2, .c (.ptr 0 0)), (28, aNs t), (29, ai t.length), (30, ai x)], h := [(0, .box zL (cTr t))], n := 1, N := 99 })
  (fun x => x ≤ t.length ∧ z0L t (t.drop x) x = z0L t t 0) (fun x => t.length - x) 0 (by ((conv => whnf); simp only [eS])) ⟨Nat.zero_le _, by simp⟩ ?_
 intro k ⟨hk, hw⟩
 conv => whnf
 refine zK (fun h4 => ?_) (fun h4 => ?_) <;> (conv => whnf) <;> simp at h4
 ·obtain ⟨n, hn⟩ := zH h4
  rw [zy hn, z0L] at hw
  refine zE (by simp) hn ?_
  conv => whnf
  refine .inl ⟨_, _, _, wL n, rfl, ?_⟩
  conv => whnf
  refine zK (fun h5 => ?_) (fun h5 => ?_) <;> (conv => whnf) <;> simp only [eH] at h5
  ·refine .inl ⟨_, _, _, z7o t k (by omega), rfl, ?_⟩
   conv => whnf
   refine zK (fun h6 => ?_) (fun h6 => ?_) <;> (conv => whnf) <;> simp only [eH] at h6
   ·have : z0M t k n = true := by simp only [z0M, if_pos h5]; exact decide_eq_true h6
    rw [← hw, this]
    rfl
   ·have : z0M t k n = false := by simp only [z0M, if_pos h5]; exact decide_eq_false (by omega)
    rw [this, Bool.false_or] at hw
    refine ⟨k + 1, by omega, ⟨h4, hw⟩, ?_⟩
    ((conv => whnf); simp only [eS, wI h4 (by omega)])
  ·have hib : z0M t k n = z3o t n (wayL t k) := by simp only [z0M, if_neg h5]
   rw [hib] at hw
   obtain ⟨l0, hl0, _⟩ := z1b h3 31 k (by omega)
   have hway : wayL t k = l0.reverse := by unfold wayL; rw [if_pos (by omega), hl0]
   have hlen : 1 ≤ (wayL t k).length := by
    rw [hway, yN] at *
    simp only [Option.map_eq_some_iff] at hl0
    obtain ⟨r, _, rfl⟩ := hl0
    simp
   have hlt : ∀ y ∈ wayL t k, 0 ≤ y ∧ y < t.length := fun y hy => zGf t 32 k l0 (by omega) hl0 y (by rw [hway] at hy; simpa using hy)
   refine .inl ⟨_, _, _, z1l t k (by omega), rfl, ?_⟩
   generalize wayL t k = w at *
   conv => whnf
   have hwl : w.length ≤ 32 := by rw [hway]; have := z63 t 32 k l0 hl0; simpa using this
   obtain ⟨m, hm⟩ : ∃ m, w.length = m + 1 := ⟨w.length - 1, by omega⟩
   have e1 : wSub .i64 (nInt (z0W (eL cI w) none)) 1 = (m : Int) := by
    rw [yB] <;> simp <;> omega
   rw [e1]
   refine ⟨by simp [InS]; omega, ?_⟩
   conv => whnf
   refine zB hT [2, 6, 7, 28, 29, 30, 48, 49, 50] (α := Nat) (fun x => { t := [(2, .c (.ptr 0 0)), (6, .c (.ptr 1 0)), (7, .c (.ref 2 0 none)), (28, aNs t), (29, ai t.length), (30, ai k), (48, .c (.ref 2 0 (some (true, 0, m)))), (49, ai m), (50, ai x)], h := [(0, .box zL (cTr t)), (1, .box zn (cNd n)), (2, .arr zW 1 0 .own (eL cI w))], n := 3, N := 99 })
    (fun x => x ≤ m ∧ z3o t n (w.drop x) = z3o t n w) (fun x => m - x) 0 (by ((conv => whnf); simp only [eS]); simp) ⟨Nat.zero_le _, by simp⟩ ?_
   intro j ⟨g1, g2⟩
   conv => whnf
   refine zK (fun g3 => ?_) (fun g3 => ?_) <;> (conv => whnf) <;> simp at g3
   ·obtain ⟨a, ha⟩ := zH (show j < w.length by omega)
    obtain ⟨b, hb⟩ := zH (show j + 1 < w.length by omega)
    refine yF (k := j) (by simp) (by simp; omega) ?_
    conv => whnf
    refine wK (by simp) ha ?_
    conv => whnf
    obtain ⟨i, hi⟩ : ∃ i : Nat, a = i := ⟨a.toNat, by have := hlt a (List.mem_of_getElem? ha); omega⟩
    subst hi
    have hil := (hlt _ (List.mem_of_getElem? ha)).2
    obtain ⟨x, hx⟩ := zH (show i < t.length by omega)
    refine zE (by simp) hx ?_
    conv => whnf
    rw [zy ha, zy hb, z3o] at g2
    have hin : ∀ v0, (iEq x.f n.f && (iEq b x.r && iLe n.c x.c || iEq b x.l && iLe x.c n.c)) = v0 → badP t n i b = v0 := by
     rintro _ rfl
     simp only [badP, Int.toNat_natCast, hx, iEq, eq_comm]
    refine zK (fun g4 => ?_) (fun g4 => ?_) <;> (conv => whnf) <;> simp only [eH] at g4
    ·rw [hin false (by simp [iEq, g4]), Bool.false_or] at g2
     refine ⟨j + 1, by omega, ⟨by omega, by rw [← g2, zy hb]⟩, ?_⟩
     ((conv => whnf); simp only [eS, wI g3 (by omega)])
    ·have g4' : iEq x.f n.f = true := by simpa [iEq] using g4
     refine yR hT hmix (by kernel_rfl) ?_
     conv => whnf
     repeat' (first | (refine And.intro (fun q => ?_) (fun q => ?_) <;> cases q <;> (conv => whnf)) | (refine yF (wI g3 (by omega)) (by simp; omega) ?_; (conv => whnf)) | (refine wK (by simp [wI g3 (show m ≤ 9223372036854775807 by omega)]) hb ?_; (conv => whnf)) | fail)
     generalize e3 : iEq b x.l = c3
     cases c3
     ·repeat' (first | (refine And.intro (fun q => ?_) (fun q => ?_) <;> cases q <;> (conv => whnf)) | (refine yF (wI g3 (by omega)) (by simp; omega) ?_; (conv => whnf)) | (refine wK (by simp [wI g3 (show m ≤ 9223372036854775807 by omega)]) hb ?_; (conv => whnf)) | fail)
      generalize e2 : iEq b x.r = c2
      cases c2
      ·repeat' (first | (refine And.intro (fun q => ?_) (fun q => ?_) <;> cases q <;> (conv => whnf)) | (refine yF (wI g3 (by omega)) (by simp; omega) ?_; (conv => whnf)) | (refine wK (by simp [wI g3 (show m ≤ 9223372036854775807 by omega)]) hb ?_; (conv => whnf)) | fail)
       rw [hin false (by first | (simp [e2, e3]; done) | (simp [e2, e5]; done) | (simp [e3, e4]; done) | (simp [e4, e5]; done)), Bool.false_or] at g2
       refine ⟨j + 1, by omega, ⟨by omega, by rw [← g2, zy hb]⟩, ?_⟩
       ((conv => whnf); simp only [eS, wI g3 (by omega)])
      ·repeat' (first | (refine And.intro (fun q => ?_) (fun q => ?_) <;> cases q <;> (conv => whnf)) | (refine yF (wI g3 (by omega)) (by simp; omega) ?_; (conv => whnf)) | (refine wK (by simp [wI g3 (show m ≤ 9223372036854775807 by omega)]) hb ?_; (conv => whnf)) | fail)
       generalize e4 : iLe n.c x.c = c4
       cases c4
       ·repeat' (first | (refine And.intro (fun q => ?_) (fun q => ?_) <;> cases q <;> (conv => whnf)) | (refine yF (wI g3 (by omega)) (by simp; omega) ?_; (conv => whnf)) | (refine wK (by simp [wI g3 (show m ≤ 9223372036854775807 by omega)]) hb ?_; (conv => whnf)) | fail)
        rw [hin false (by first | (simp [e2, e3]; done) | (simp [e2, e5]; done) | (simp [e3, e4]; done) | (simp [e4, e5]; done)), Bool.false_or] at g2
        refine ⟨j + 1, by omega, ⟨by omega, by rw [← g2, zy hb]⟩, ?_⟩
        ((conv => whnf); simp only [eS, wI g3 (by omega)])
       ·repeat' (first | (refine And.intro (fun q => ?_) (fun q => ?_) <;> cases q <;> (conv => whnf)) | (refine yF (wI g3 (by omega)) (by simp; omega) ?_; (conv => whnf)) | (refine wK (by simp [wI g3 (show m ≤ 9223372036854775807 by omega)]) hb ?_; (conv => whnf)) | fail)
        rw [hin true (by first | (simp [g4', e2, e4]; done) | (simp [g4', e3, e5]; done))] at g2
        rw [← g2] at hw
        rw [← hw]
        rfl
     ·repeat' (first | (refine And.intro (fun q => ?_) (fun q => ?_) <;> cases q <;> (conv => whnf)) | (refine yF (wI g3 (by omega)) (by simp; omega) ?_; (conv => whnf)) | (refine wK (by simp [wI g3 (show m ≤ 9223372036854775807 by omega)]) hb ?_; (conv => whnf)) | fail)
      generalize e5 : iLe x.c n.c = c5
      cases c5
      ·repeat' (first | (refine And.intro (fun q => ?_) (fun q => ?_) <;> cases q <;> (conv => whnf)) | (refine yF (wI g3 (by omega)) (by simp; omega) ?_; (conv => whnf)) | (refine wK (by simp [wI g3 (show m ≤ 9223372036854775807 by omega)]) hb ?_; (conv => whnf)) | fail)
       generalize e2 : iEq b x.r = c2
       cases c2
       ·repeat' (first | (refine And.intro (fun q => ?_) (fun q => ?_) <;> cases q <;> (conv => whnf)) | (refine yF (wI g3 (by omega)) (by simp; omega) ?_; (conv => whnf)) | (refine wK (by simp [wI g3 (show m ≤ 9223372036854775807 by omega)]) hb ?_; (conv => whnf)) | fail)
        rw [hin false (by first | (simp [e2, e3]; done) | (simp [e2, e5]; done) | (simp [e3, e4]; done) | (simp [e4, e5]; done)), Bool.false_or] at g2
        refine ⟨j + 1, by omega, ⟨by omega, by rw [← g2, zy hb]⟩, ?_⟩
        ((conv => whnf); simp only [eS, wI g3 (by omega)])
       ·repeat' (first | (refine And.intro (fun q => ?_) (fun q => ?_) <;> cases q <;> (conv => whnf)) | (refine yF (wI g3 (by omega)) (by simp; omega) ?_; (conv => whnf)) | (refine wK (by simp [wI g3 (show m ≤ 9223372036854775807 by omega)]) hb ?_; (conv => whnf)) | fail)
        generalize e4 : iLe n.c x.c = c4
        cases c4
        ·repeat' (first | (refine And.intro (fun q => ?_) (fun q => ?_) <;> cases q <;> (conv => whnf)) | (refine yF (wI g3 (by omega)) (by simp; omega) ?_; (conv => whnf)) | (refine wK (by simp [wI g3 (show m ≤ 9223372036854775807 by omega)]) hb ?_; (conv => whnf)) | fail)
         rw [hin false (by first | (simp [e2, e3]; done) | (simp [e2, e5]; done) | (simp [e3, e4]; done) | (simp [e4, e5]; done)), Bool.false_or] at g2
         refine ⟨j + 1, by omega, ⟨by omega, by rw [← g2, zy hb]⟩, ?_⟩
         ((conv => whnf); simp only [eS, wI g3 (by omega)])
        ·repeat' (first | (refine And.intro (fun q => ?_) (fun q => ?_) <;> cases q <;> (conv => whnf)) | (refine yF (wI g3 (by omega)) (by simp; omega) ?_; (conv => whnf)) | (refine wK (by simp [wI g3 (show m ≤ 9223372036854775807 by omega)]) hb ?_; (conv => whnf)) | fail)
         rw [hin true (by first | (simp [g4', e2, e4]; done) | (simp [g4', e3, e5]; done))] at g2
         rw [← g2] at hw
         rw [← hw]
         rfl
      ·repeat' (first | (refine And.intro (fun q => ?_) (fun q => ?_) <;> cases q <;> (conv => whnf)) | (refine yF (wI g3 (by omega)) (by simp; omega) ?_; (conv => whnf)) | (refine wK (by simp [wI g3 (show m ≤ 9223372036854775807 by omega)]) hb ?_; (conv => whnf)) | fail)
       rw [hin true (by first | (simp [g4', e2, e4]; done) | (simp [g4', e3, e5]; done))] at g2
       rw [← g2] at hw
       rw [← hw]
       rfl
   ·refine ⟨k + 1, by omega, ⟨h4, ?_⟩, ?_⟩
    ·obtain rfl : j = m := by omega
     obtain ⟨a, ha⟩ := zH (show j < w.length by omega)
     have hd : w.drop (j + 1) = [] := List.drop_eq_nil_of_le (by omega)
     rw [zy ha, hd] at g2
     rw [← g2] at hw
     exact hw
    ·((conv => whnf); simp only [eS, wI h4 (by omega)])
 ·obtain rfl : k = t.length := by omega
  simp only [List.drop_length, z0L] at hw
  conv => whnf
  rw [← hw]
  rfl
theorem zCC {t : List Nd} : ∀ {n : Nat} {x : Int} {l : List Int}, yN t n x = some l → yN t (n + 1) x = some l
 | 0, x, l, h => by simp [yN] at h
 | n + 1, x, l, h => by
  rw [yN] at h ⊢
  split
  ·rw [if_pos (by assumption)] at h; exact h
  ·rw [if_neg (by assumption)] at h
   simp only [Option.map_eq_some_iff] at h ⊢
   obtain ⟨r, h1, h2⟩ := h
   exact ⟨r, zCC h1, h2⟩
theorem zFc (t : List Nd) (n : Nd) : ∀ l : List Int, z01 t n l = true ↔ ∃ (j : Nat) (a b : Int), l[j]? = some a ∧ l[j + 1]? = some b ∧ badP t n b a = true
 | [] => by simp [z01]
 | [a] => by simp [z01]
 | a :: b :: r => by
  simp only [z01, Bool.or_eq_true, zFc t n (b :: r)]
  constructor
  ·rintro (h | ⟨j, x, y, h1, h2, h3⟩)
   ·exact ⟨0, a, b, rfl, rfl, h⟩
   ·exact ⟨j + 1, x, y, by simpa using h1, by simpa using h2, h3⟩
  ·rintro ⟨j, x, y, h1, h2, h3⟩
   cases j with
   | zero => simp at h1 h2; subst h1; subst h2; exact .inl h3
   | succ j => exact .inr ⟨j, x, y, by simpa using h1, by simpa using h2, h3⟩
theorem zHv (t : List Nd) (n : Nd) : ∀ l : List Int, z3o t n l = true ↔ ∃ (j : Nat) (a b : Int), l[j]? = some a ∧ l[j + 1]? = some b ∧ badP t n a b = true
 | [] => by simp [z3o]
 | [a] => by simp [z3o]
 | a :: b :: r => by
  simp only [z3o, Bool.or_eq_true, zHv t n (b :: r)]
  constructor
  ·rintro (h | ⟨j, x, y, h1, h2, h3⟩)
   ·exact ⟨0, a, b, rfl, rfl, h⟩
   ·exact ⟨j + 1, x, y, by simpa using h1, by simpa using h2, h3⟩
  ·rintro ⟨j, x, y, h1, h2, h3⟩
   cases j with
   | zero => simp at h1 h2; subst h1; subst h2; exact .inl h3
   | succ j => exact .inr ⟨j, x, y, by simpa using h1, by simpa using h2, h3⟩
theorem zHu (t : List Nd) (n : Nd) (l : List Int) : z3o t n l.reverse = z01 t n l := by
 rw [Bool.eq_iff_iff, zHv, zFc]
 constructor
 ·rintro ⟨j, a, b, h1, h2, h3⟩
  have hj : j + 1 < l.length := by simpa using (List.getElem?_eq_some_iff.1 h2).1
  rw [List.getElem?_reverse (by omega)] at h1
  rw [List.getElem?_reverse (by omega)] at h2
  exact ⟨l.length - 1 - (j + 1), b, a, h2, by rw [← h1]; congr 1; omega, h3⟩
 ·rintro ⟨j, a, b, h1, h2, h3⟩
  have hj : j + 1 < l.length := (List.getElem?_eq_some_iff.1 h2).1
  refine ⟨l.length - 1 - (j + 1), b, a, ?_, ?_, h3⟩
  ·rw [List.getElem?_reverse (by omega), ← h2]; congr 1; omega
  ·rw [List.getElem?_reverse (by omega), ← h1]; congr 1; omega
theorem z8N (t : List Nd) : ∀ (l : List Nd) (k : Nat), z0L t l k = true ↔ ∃ (j : Nat) (n : Nd), l[j]? = some n ∧ z0M t ((k + j : Nat) : Int) n = true
 | [], k => by simp [z0L]
 | n :: r, k => by
  simp only [z0L, Bool.or_eq_true, z8N t r (k + 1)]
  constructor
  ·rintro (h | ⟨j, x, h1, h2⟩)
   ·exact ⟨0, n, rfl, h⟩
   ·exact ⟨j + 1, x, by simpa using h1, by rw [show k + (j + 1) = k + 1 + j by omega]; exact h2⟩
  ·rintro ⟨j, x, h1, h2⟩
   cases j with
   | zero => simp at h1; subst h1; exact .inl h2
   | succ j => exact .inr ⟨j, x, by simpa using h1, by rw [show k + 1 + j = k + (j + 1) by omega]; exact h2⟩
theorem z9d (t : List Nd) : ∀ (l : List Nd) (k : Nat), z1Y t l k = true ↔ ∃ (j : Nat) (n : Nd), l[j]? = some n ∧ z5e t ((k + j : Nat) : Int) n = true
 | [], k => by simp [z1Y]
 | n :: r, k => by
  simp only [z1Y, Bool.or_eq_true, z9d t r (k + 1)]
  constructor
  ·rintro (h | ⟨j, x, h1, h2⟩)
   ·exact ⟨0, n, rfl, h⟩
   ·exact ⟨j + 1, x, by simpa using h1, by rw [show k + (j + 1) = k + 1 + j by omega]; exact h2⟩
  ·rintro ⟨j, x, h1, h2⟩
   cases j with
   | zero => simp at h1; subst h1; exact .inl h2
   | succ j => exact .inr ⟨j, x, by simpa using h1, by rw [show k + 1 + j = k + (j + 1) by omega]; exact h2⟩
theorem zFT (t : List Nd) (c : Int) (hc : -1 ≤ c) : ∀ m : Nat, z3g t m ≤ c ↔ ∀ j : Nat, j < m → z0p t j ≤ c
 | 0 => by simp [z3g, hc]
 | m + 1 => by
  simp only [z3g]
  rw [show max (z3g t m) (z0p t m) ≤ c ↔ z3g t m ≤ c ∧ z0p t m ≤ c by omega, zFT t c hc m]
  constructor
  ·rintro ⟨h1, h2⟩ j hj
   rcases Nat.lt_or_ge j m with q | q
   ·exact h1 j q
   ·obtain rfl : j = m := by omega
    exact h2
  ·intro h
   exact ⟨fun j hj => h j (by omega), h m (by omega)⟩
theorem z6S {t : List Nd} {j : Nat} {l : List Int} (hj : j < t.length) (hs : yN t 32 j = some l) : z0p t j = (l.length : Int) - 1 := by
 unfold z0p lvl
 rw [if_pos (by omega)]
 simp only [hs, Int.add_zero]
theorem zIj {t : List Nd} {ft : Int} (h : yC t ft = true) (hl : t.length ≤ 31) {j c : Nat} (hj : j < t.length) (hc : c < t.length) (hu : up t c = j) : z0p t c = z0p t j + 1 := by
 obtain ⟨lc, h1, _⟩ := z1b h 31 c (by omega)
 obtain ⟨lj, h2, _⟩ := z1b h 31 j (by omega)
 have h1' := h1
 rw [yN, if_neg (by omega), hu] at h1'
 simp only [Option.map_eq_some_iff] at h1'
 obtain ⟨r, h3, rfl⟩ := h1'
 have h4 := zCC h3
 rw [h2] at h4
 cases h4
 rw [z6S hc h1, z6S hj h2]
 simp
theorem zFy {t : List Nd} {ft : Int} (h : yC t ft = true) (hl : t.length ≤ 31) (hleaf : ∀ (j : Nat) (n : Nd), t[j]? = some n → n.f = -1 → z0p t j ≤ 4) : ∀ (d : Nat) (j : Nat), t.length - j = d → j < t.length → z0p t j ≤ 4 := by
 intro d
 induction d using Nat.strongRecOn with
 | _ d ih =>
  intro j hd hj
  obtain ⟨n, hn⟩ := zH hj
  by_cases hf : n.f = -1
  ·exact hleaf j n hn hf
  ·have hk := w6 h hn hf
   have hu := zKp h hn hf (.inl rfl)
   obtain ⟨c, hc⟩ : ∃ c : Nat, n.l = c := ⟨n.l.toNat, by omega⟩
   rw [hc] at hu hk
   have := zIj h hl hj (show c < t.length by omega) hu
   have := ih (t.length - c) (by omega) c rfl (by omega)
   omega
theorem zFm (t : List Nd) (ft : Int) : z3q t ft = yZ t ft := by
 unfold z3q yZ
 by_cases h1 : 1 ≤ (t.length : Int) ∧ (t.length : Int) ≤ 31
 ·rw [decide_eq_true h1, Bool.true_and, Bool.true_and]
  congr 1
  cases h3 : yC t ft with
  | false => rfl
  | true =>
   rw [Bool.true_and, Bool.true_and]
   have hst : ∀ j : Nat, j < t.length → ∃ l, yN t 32 j = some l ∧ wayL t j = l.reverse := fun j hj => by
    obtain ⟨l, hl, _⟩ := z1b h3 31 j (by omega)
    exact ⟨l, hl, by unfold wayL; rw [if_pos (by omega), hl]⟩
   rw [Bool.eq_iff_iff]
   simp only [Bool.not_eq_true', Bool.and_eq_true, decide_eq_true_eq]
   rw [zFT t 4 (by omega)]
   have n1 := z8N t t 0
   have n2 := z9d t t 0
   simp only [Nat.zero_add] at n1 n2
   constructor
   ·intro hb
    have hno : ∀ (j : Nat) (n : Nd), t[j]? = some n → z0M t j n = false := fun j n hn => by
     cases hq : z0M t j n with
     | false => rfl
     | true => rw [n1.2 ⟨j, n, hn, hq⟩] at hb; cases hb
    refine ⟨fun j hj => zFy h3 (by omega) (fun j n hn hf => ?_) _ j rfl hj, ?_⟩
    ·have := hno j n hn
     simp only [z0M, if_pos hf, decide_eq_false_iff_not] at this
     have hj := (List.getElem?_eq_some_iff.1 hn).1
     obtain ⟨l, hl, hw⟩ := hst j hj
     rw [z6S hj hl]
     rw [hw] at this
     simp at this
     omega
    ·cases hq : z1Y t t 0 with
     | false => rfl
     | true =>
      obtain ⟨j, n, hn, hbad⟩ := n2.1 hq
      have hj := (List.getElem?_eq_some_iff.1 hn).1
      obtain ⟨l, hl, hw⟩ := hst j hj
      simp only [z5e, hl, bAnd, Bool.and_eq_true, bNot, Bool.not_eq_true', iEq, decide_eq_false_iff_not] at hbad
      have := hno j n hn
      simp only [z0M, if_neg hbad.1, hw, zHu] at this
      rw [hbad.2] at this
      cases this
   ·rintro ⟨hd, hw⟩
    cases hq : z0L t t 0 with
    | false => rfl
    | true =>
     obtain ⟨j, n, hn, hbad⟩ := n1.1 hq
     have hj := (List.getElem?_eq_some_iff.1 hn).1
     obtain ⟨l, hl, hwy⟩ := hst j hj
     have hlev := hd j hj
     rw [z6S hj hl] at hlev
     by_cases hf : n.f = -1
     ·simp only [z0M, if_pos hf, decide_eq_true_eq, hwy, List.length_reverse] at hbad
      omega
     ·simp only [z0M, if_neg hf, hwy, zHu] at hbad
      have : z5e t j n = true := by simp [z5e, hl, bAnd, bNot, iEq, hf, hbad]
      rw [n2.2 ⟨j, n, hn, this⟩] at hw
      cases hw
 ·rw [decide_eq_false h1]; rfl
theorem z3Y (t : List Nd) (ft : Int) (hl : t.length ≤ 1048576) : z6 PR z6y [aT t, ai ft] (ab (yZ t ft)) [] 0 := zFm t ft ▸ zAB t ft hl
end Go.H.S
namespace Go.H.S
open Go Go.Proofs Go.H
attribute [local irreducible] Tri z6 zV zU zj zX
def cU (n : Int) : List D := [.int .u8 n]
abbrev cur (code : List Int) (i h : Int) : List CV := [.d (.sl 1 (eL cU code)), .d (.int .i64 i), .d (.int .i64 h)]
theorem zHz (x : Int) : 0 ≤ wAnd .i64 x 255 ∧ wAnd .i64 x 255 ≤ 255 := by
 unfold wAnd z2z
 have h : ((BitVec.ofInt IntKind.i64.bits x &&& BitVec.ofInt IntKind.i64.bits 255).toNat) ≤ 255 := by
  rw [BitVec.toNat_and]
  exact Nat.and_le_right
 rw [z8F] <;> omega
set_option maxHeartbeats 4000000 in
theorem yq (code : List Int) (i h : Int) (hi : 0 ≤ i ∧ i ≤ code.length) (hl : code.length ≤ 1048576) : zX PR zDQ [.c (.ptr 0 0)] zI (cur code i h) (Int × Int × Int) (fun x => (0 ≤ x.1 ∧ x.1 ≤ 255) ∧ 0 ≤ x.2.1 ∧ x.2.1 ≤ code.length) (fun x => ai x.1) (fun x => cur code x.2.1 x.2.2) (fun _ => []) (fun _ => 1) := by
 refine zX.intro hT 0 (pf Tryz.func290) rfl (by kernel_rfl) Tryz.ntmps290 rfl rfl ?_
 intro v0
 conv => whnf
 refine yR hT hmix (by kernel_rfl) ?_
 conv => whnf
 refine And.intro (by simp) ?_
 conv => whnf
 refine And.intro (by simp) ?_
 conv => whnf
 refine yR hT hmix (by kernel_rfl) ?_
 conv => whnf
 generalize hh : wAdd .i64 (wMul .i64 h 6364136223846793005) 1442695040888963407 = h1
 have hb := zHz (wXor .i64 (wShr .i64 h1 33) (wShr .i64 h1 45))
 generalize wAnd .i64 (wXor .i64 (wShr .i64 h1 33) (wShr .i64 h1 45)) 255 = x at *
 refine zK (fun h2 => ?_) (fun h2 => ?_) <;> (conv => whnf) <;> simp only [eH] at h2
 ·obtain ⟨k, rfl⟩ : ∃ k : Nat, i = k := ⟨i.toNat, by omega⟩
  obtain ⟨y, hy⟩ := zH (show k < code.length by omega)
  refine zO hT hmix [0, 3] { t := [(0, .w (.ptr 0 0) v0), (3, ai (wAnd .i64 (wAdd .i64 x (z8U .i64 y)) 255))], h := [(0, .box zI (cur code k h1))], n := 1, N := 58 } rfl ?_ ?_
  ·repeat' first
    | (refine zR rfl ?_; (conv => whnf))
    | (refine zQ rfl ?_ ?_ <;> (conv => whnf))
    | (refine zC rfl ?_ ?_ ?_ <;> (conv => whnf))
    | (refine zP rfl ?_; (conv => whnf))
    | (refine zE (by simp) hy ?_; (conv => whnf))
  conv => whnf
  have hb2 := zHz (wAdd .i64 x (z8U .i64 y))
  refine ⟨(wAnd .i64 (wAdd .i64 x (z8U .i64 y)) 255, (k : Int) + 1, h1), ⟨hb2, by dsimp only; omega, by dsimp only; omega⟩, ?_⟩
  ((conv => whnf); simp only [eS, y1 (show -9223372036854775808 ≤ (k : Int) + 1 by omega) (by omega)])
 ·refine ⟨(x, i, h1), ⟨hb, hi⟩, ?_⟩
  conv => whnf
theorem z5w {x n : Int} (hx : 0 ≤ x) (hn : 0 < n) : 0 ≤ wRem x n ∧ wRem x n < n := by
 unfold wRem
 rw [Int.tmod_eq_emod_of_nonneg hx]
 exact ⟨Int.emod_nonneg _ (by omega), Int.emod_lt_of_pos _ hn⟩
def yV (code : List Int) (x : Int × Int) : Prop := 0 ≤ x.1 ∧ x.1 ≤ code.length
theorem zA (code : List Int) (i h n : Int) (hi : 0 ≤ i ∧ i ≤ code.length) (hl : code.length ≤ 1048576) : zX PR zBU [.c (.ptr 0 0), ai n] zI (cur code i h) (Int × Int × Int)
  (fun x => (0 ≤ x.1 ∧ (0 < n → x.1 < n) ∧ (n ≤ 0 → x.1 = 0)) ∧ yV code x.2) (fun x => ai x.1) (fun x => cur code x.2.1 x.2.2) (fun _ => []) (fun _ => 1) := by
 refine zX.intro hT 0 (pf Tryz.func221) rfl (by kernel_rfl) Tryz.ntmps221 rfl rfl ?_
 intro v0
 conv => whnf
 refine zK (fun h1 => ?_) (fun h1 => ?_) <;> (conv => whnf) <;> simp only [eH] at h1
 ·refine ⟨(0, i, h), ⟨⟨by omega, fun q => by omega, fun _ => rfl⟩, hi⟩, ?_⟩
  conv => whnf
 refine zK (fun h2 => ?_) (fun h2 => ?_) <;> (conv => whnf) <;> simp only [eH] at h2
 ·refine .inr (.inr (.inr (.inr (.inl ⟨0, ?_⟩))))
  conv => whnf
  refine ⟨_, _, _, _, _, _, yq code i h hi hl, fun ⟨x, i1, h1'⟩ ⟨hx, hi1⟩ => ⟨rfl, ?_⟩⟩
  dsimp only at hx hi1
  conv => whnf
  refine And.intro (by simp; omega) ?_
  conv => whnf
  have hm := z5w hx.1 (show 0 < n by omega)
  refine ⟨(wRem x n, i1, h1'), ⟨⟨hm.1, fun _ => hm.2, fun q => by omega⟩, hi1⟩, ?_⟩
  conv => whnf
 refine .inr (.inr (.inr (.inr (.inl ⟨0, ?_⟩))))
 conv => whnf
 refine ⟨_, _, _, _, _, _, yq code i h hi hl, fun ⟨x, i1, h1'⟩ ⟨hx, hi1⟩ => ⟨rfl, ?_⟩⟩
 dsimp only at hx hi1
 conv => whnf
 refine .inr (.inr (.inr (.inr (.inl ⟨0, ?_⟩))))
 conv => whnf
 refine ⟨_, _, _, _, _, _, yq code i1 h1' hi1 hl, fun ⟨y, i2, h2'⟩ ⟨hy, hi2⟩ => ⟨rfl, ?_⟩⟩
 dsimp only at hy hi2
 conv => whnf
 refine .inr (.inr (.inr (.inr (.inl ⟨0, ?_⟩))))
 conv => whnf
 refine ⟨_, _, _, _, _, _, yq code i2 h2' hi2 hl, fun ⟨z, i3, h3'⟩ ⟨hz, hi3⟩ => ⟨rfl, ?_⟩⟩
 dsimp only at hz hi3
 conv => whnf
 refine .inr (.inr (.inr (.inr (.inl ⟨0, ?_⟩))))
 conv => whnf
 refine ⟨_, _, _, _, _, _, yq code i3 h3' hi3 hl, fun ⟨w, i4, h4'⟩ ⟨hw, hi4⟩ => ⟨rfl, ?_⟩⟩
 dsimp only at hw hi4
 conv => whnf
 refine And.intro (by simp; omega) ?_
 conv => whnf
 have e1 : wMul .i64 x 16777216 = x * 16777216 := z1Z (by omega) (by omega)
 have e2 : wMul .i64 y 65536 = y * 65536 := z1Z (by omega) (by omega)
 have e3 : wMul .i64 z 256 = z * 256 := z1Z (by omega) (by omega)
 rw [e1, e2, e3]
 rw [y1 (x := x * 16777216) (y := y * 65536) (by omega) (by omega)]
 rw [y1 (x := x * 16777216 + y * 65536) (y := z * 256) (by omega) (by omega)]
 rw [y1 (x := x * 16777216 + y * 65536 + z * 256) (y := w) (by omega) (by omega)]
 have hm := z5w (x := x * 16777216 + y * 65536 + z * 256 + w) (by omega) (show 0 < n by omega)
 refine ⟨(wRem (x * 16777216 + y * 65536 + z * 256 + w) n, i4, h4'), ⟨⟨hm.1, fun _ => hm.2, fun q => by omega⟩, hi4⟩, ?_⟩
 conv => whnf
theorem z5S (code : List Int) (i h : Int) (l : List Int) (hi : 0 ≤ i ∧ i ≤ code.length) (hl : code.length ≤ 1048576) (hne : 0 < l.length) (hll : l.length ≤ 1048576) : zX PR z3b [.c (.ptr 0 0), aIs l] zI (cur code i h) (Int × Int × Int)
  (fun x => x.1 ∈ l ∧ yV code x.2) (fun x => ai x.1) (fun x => cur code x.2.1 x.2.2) (fun _ => []) (fun _ => 1) := by
 refine zX.intro hT 0 (pf Tryz.func223) rfl (by kernel_rfl) Tryz.ntmps223 rfl rfl ?_
 intro v0
 conv => whnf
 refine .inr (.inr (.inr (.inr (.inl ⟨0, ?_⟩))))
 conv => whnf
 rw [show nInt (dLen (eL cI l)) = (l.length : Int) by simp]
 refine ⟨_, _, _, _, _, _, zA code i h l.length hi hl, fun ⟨x, i1, h1'⟩ ⟨hx, hi1⟩ => ⟨rfl, ?_⟩⟩
 dsimp only at hx hi1
 conv => whnf
 obtain ⟨k, rfl⟩ : ∃ k : Nat, x = k := ⟨x.toNat, by omega⟩
 obtain ⟨y, hy⟩ := zH (show k < l.length by have := hx.2.1 (by omega); omega)
 refine zE (by simp) hy ?_
 conv => whnf
 refine ⟨(y, i1, h1'), ⟨List.mem_of_getElem? hy, hi1⟩, ?_⟩
 conv => whnf
end Go.H.S
namespace Go.H.S
open Go Go.Proofs Go.H
attribute [local irreducible] Tri z6 zV zU zj zX
theorem z9k (code : List Int) (hl : code.length ≤ 1048576) : zU PR zFI [.c (.d (.sl 1 (eL cU code)))] Int (fun _ => True) (fun _ => .c (.ptr 0 0)) (fun h => [(0, .box zI (cur code 0 h))]) (fun _ => 1) := by
 refine zU.intro hT (pf Tryz.func219) rfl (by kernel_rfl) Tryz.ntmps219 rfl ?_
 conv => whnf
 refine zB hT [0, 3, 4] (α := Nat × Int) (fun x => { t := [(0, .c (.d (.sl 1 (eL cU code)))), (3, ai x.2), (4, ai x.1)], h := [], n := 0, N := 32 })
  (fun x => x.1 ≤ code.length) (fun x => code.length - x.1) (0, wAdd .i64 28507 code.length) (by ((conv => whnf); simp only [eS])) (Nat.zero_le _) ?_
 intro ⟨k, h⟩ hk
 dsimp only at hk
 conv => whnf
 refine zK (fun h1 => ?_) (fun h1 => ?_) <;> (conv => whnf) <;> simp only [eH] at h1
 ·obtain ⟨y, hy⟩ := zH (show k < code.length by simpa using h1)
  refine zK (fun h2 => ?_) (fun h2 => ?_) <;> (conv => whnf)
  ·refine zE (by simp) hy ?_
   conv => whnf
   refine ⟨(k + 1, wAnd .i64 (wAdd .i64 (wAdd .i64 (wMul .i64 h 131) (z8U .i64 y)) 7) 1073741823), by dsimp only; omega, by dsimp only; omega, ?_⟩
   ((conv => whnf); simp only [eS, wI (show k < code.length by omega) (by omega)])
  ·refine ⟨h, trivial, ?_⟩
   conv => whnf
 ·refine ⟨h, trivial, ?_⟩
  conv => whnf
structure KidsOk (N : List Nd) : Prop where
 kid : ∀ {j : Nat} {n : Nd}, N[j]? = some n → n.f ≠ -1 → (j : Int) < n.l ∧ n.r = n.l + 1 ∧ n.r < N.length
 one : ∀ {j j' : Nat} {n n' : Nd}, N[j]? = some n → N[j']? = some n' → n.f ≠ -1 → n'.f ≠ -1 → ∀ x : Int, (n.l = x ∨ n.r = x) → (n'.l = x ∨ n'.r = x) → j = j'
theorem zF2 : ∀ (M : Nat) (l : List Int), l.Nodup → (∀ x ∈ l, 0 ≤ x ∧ x < M) → l.length ≤ M
 | 0, l, hn, hl => by
  cases l with
  | nil => simp
  | cons x r => have := hl x (by simp); omega
 | M + 1, l, hn, hl => by
  have h1 := zF2 M (l.erase (M : Int)) (hn.erase _) (fun x hx => by
   have hm := List.mem_of_mem_erase hx
   have hne : x ≠ (M : Int) := fun e => by
    subst e
    exact (List.Nodup.not_mem_erase hn) hx
   have := hl x hm
   omega)
  have h2 : l.length ≤ (l.erase (M : Int)).length + 1 := by
   rw [List.length_erase]
   split <;> omega
  omega
structure LvInv (N : List Nd) (i : Nat) (R : List Int) : Prop where
 le : i ≤ R.length
 nd : R.Nodup
 mem : ∀ x ∈ R, 0 ≤ x ∧ x < N.length
 src : ∀ x ∈ R, x = 0 ∨ ∃ (j p : Nat) (n : Nd), j < i ∧ R[j]? = some (p : Int) ∧ N[p]? = some n ∧ n.f ≠ -1 ∧ (n.l = x ∨ n.r = x)
theorem LvInv.len {N : List Nd} {i : Nat} {R : List Int} (h : LvInv N i R) : R.length ≤ N.length := zF2 _ _ h.nd h.mem
theorem LvInv.leaf {N : List Nd} {i : Nat} {R : List Int} (h : LvInv N i R) (hi : i < R.length) : LvInv N (i + 1) R :=
 ⟨hi, h.nd, h.mem, fun x hx => (h.src x hx).imp id fun ⟨j, p, n, h1, h2⟩ => ⟨j, p, n, by omega, h2⟩⟩
end Go.H.S
namespace Go.H.S
open Go Go.Proofs Go.H
attribute [local irreducible] Tri z6 zV zU zj zX
end Go.H.S
namespace Go.H.S
open Go Go.Proofs Go.H
attribute [local irreducible] Tri z6 zV zU zj zX
theorem y9 (code : List Int) (i h : Int) (es : List (List D)) (l : List Int) (he : es = eL cI l) (hi : 0 ≤ i ∧ i ≤ code.length) (hl : code.length ≤ 1048576) (hne : 0 < l.length) (hll : l.length ≤ 1048576) : zX PR z3b [.c (.ptr 0 0), .c (.d (.sl 1 es))] zI (cur code i h) (Int × Int × Int)
  (fun x => x.1 ∈ l ∧ yV code x.2) (fun x => ai x.1) (fun x => cur code x.2.1 x.2.2) (fun _ => []) (fun _ => 1) := he ▸ z5S code i h l hi hl hne hll
theorem zIV {α : Type} (f : α → List D) (xs : List α) (b : Bool) (o n : Nat) : z0b (eL f xs) (some (b, o, n)) = eL f ((xs.drop o).take n) := by
 simp only [z0b, zEL, eL, List.map_drop, List.map_take]
end Go.H.S
namespace Go.H.S
open Go Go.Proofs Go.H
theorem hplain : ∀ t ti, Tp t = some ti → zEz Tp ti = true := zIT (tab := ptab) (by kernel_rfl)
def i64 (x : Int) : Prop := -9223372036854775808 ≤ x ∧ x ≤ 9223372036854775807
theorem ty_bytes {n : Nat} {c : List D} (h : TyD Tp n zK3 c) : ∃ x : List Int, c = [.sl 1 (eL (fun y => [D.int .u8 y]) x)] ∧ (x.length ≤ 9223372036854775807 ∧ ∀ y ∈ x, 0 ≤ y ∧ y ≤ 255) := by
 obtain ⟨es, e, b, f⟩ := h.slice rfl rfl rfl
 obtain ⟨l, rfl, q, k⟩ := eL_of (f := fun y => [D.int .u8 y]) (ok := fun y => 0 ≤ y ∧ y ≤ 255) (fun c hc => (let ⟨_, hm⟩ := f c hc; by
  obtain ⟨x, h1, h2⟩ := hm.int rfl rfl
  refine ⟨x, h1, ?_⟩
  unfold Lit.wf at h2
  simp only [Bool.and_eq_true, decide_eq_true_eq] at h2
  exact ⟨h2.1, h2.2⟩))
 exact ⟨l, by rw [e], by omega, k⟩
end Go.H.S
namespace Go.H.S
open Go Go.Proofs Go.H
attribute [local irreducible] Tri z6 zV
end Go.H.S
namespace Go.H.S
open Go Go.Proofs Go.H
attribute [local irreducible] Tri z6 zV zU zj
end Go.H.S
namespace Go.H.S
open Go Go.Proofs Go.H
attribute [local irreducible] Tri z6 zV zU zj
end Go.H.S
namespace Go.H.S
open Go Go.Proofs Go.H
attribute [local irreducible] Tri z6 zV zU zj
theorem z4O (xs : List ByteArray) (hx : xs.length ≤ 1000000000) : z6 PR z1B [aSs xs] (.c (.ref 0 0 none)) [(0, .arr yE 1 0 .own (eL cS xs))] 1 := by
 refine z6.intro hT (pf Tryz.func244) rfl (by kernel_rfl) Tryz.ntmps244 rfl ?_
 conv => whnf
 intro b hb
 cases b
 ·conv => whnf
  refine And.intro (by simp [zF, zS]; omega) ?_
  conv => whnf
  ((conv => whnf); simp only [eS, wE])
  done
 ·have : xs = [] := by
   have := congrArg List.length (hb rfl)
   rw [zF] at this
   exact List.eq_nil_of_length_eq_zero this
  subst this
  conv => whnf
  ((conv => whnf); simp only [eS, zg])
  done
theorem z3h (xs : List Nd) (hx : xs.length ≤ 1000000000) : z6 PR z08 [aNs xs] (.c (.ref 0 0 none)) [(0, .arr zn 5 0 .own (eL cN xs))] 1 := by
 refine z6.intro hT (pf Tryz.func310) rfl (by kernel_rfl) Tryz.ntmps310 rfl ?_
 conv => whnf
 intro b hb
 cases b
 ·conv => whnf
  refine And.intro (by simp [zF, zS]; omega) ?_
  conv => whnf
  ((conv => whnf); simp only [eS, wE])
  done
 ·have : xs = [] := by
   have := congrArg List.length (hb rfl)
   rw [zF] at this
   exact List.eq_nil_of_length_eq_zero this
  subst this
  conv => whnf
  ((conv => whnf); simp only [eS, zg])
  done
theorem z6Z (t : List Nd) (hl : t.length ≤ 1000000000) : z6 PR z4G [aT t] (.agg [.ref 0 0 none]) [(0, .arr zn 5 0 .own (eL cN t))] 1 := by
 refine z6.intro hT (pf Tryz.func267) rfl (by kernel_rfl) Tryz.ntmps267 rfl ?_
 conv => whnf
 refine .inl ⟨_, _, _, z3h t hl, rfl, ?_⟩
 conv => whnf
theorem z7I (t : List Nd) (hl : t.length ≤ 1000000000) : z6 PR z56 [aT t] (.agg [.ref 0 0 none]) [(0, .arr zn 5 0 .own (eL cN t))] 1 := by
 refine z6.intro hT (pf Tryz.func272) rfl (by kernel_rfl) Tryz.ntmps272 rfl ?_
 conv => whnf
 refine And.intro (by simp [zF, zS]; omega) ?_
 conv => whnf
 ((conv => whnf); simp only [eS, wE])
 done
theorem z2s (x lo hi : Int) : z6 PR zBy [ai x, ai lo, ai hi] (ai (z1F x lo hi)) [] 0 := by
 refine z6.intro hT (pf Tryz.func217) rfl (by kernel_rfl) Tryz.ntmps217 rfl ?_
 conv => whnf
 refine zK (fun h => ?_) (fun h => ?_) <;> (conv => whnf) <;> simp only [eH] at h
 ·((conv => whnf); simp only [eS])
  simp only [z1F]
  rw [if_pos (by omega)]
 ·refine zK (fun h2 => ?_) (fun h2 => ?_) <;> (conv => whnf) <;> simp only [eH] at h2 <;> ((conv => whnf); simp only [eS]) <;> simp only [z1F]
  ·rw [if_neg (by omega), if_pos (by omega)]
  ·rw [if_neg (by omega), if_neg (by omega)]
end Go.H.S
