/- Library, part S: spans in a right tree (plain). -/
import Derived.Test.YtdolkacinfjhcaaGreatLV
import Derived.Test.YtdolkacinfjhcaaGreatLNC
import Derived.Test.YtdolkacinfjhcaaGreatLY
import Derived.Test.YtdolkacinfjhcaaGreatLQO
import Derived.Test.YtdolkacinfjhcaaGreatLPQ
import Derived.Test.YtdolkacinfjhcaaGreatLPL
import Derived.Test.YtdolkacinfjhcaaGreatLPS
set_option linter.unusedSimpArgs false
set_option linter.unusedVariables false
set_option maxRecDepth 100000
namespace Go.H.S
open Go Go.Proofs Go.H
def zKQ (S : Int → Prop) (a : Int × Int × Bool) : Prop :=
 (a.2.2 = true → S a.1 ∧ S a.2.1 ∧ ∀ v, S v → a.1 ≤ v ∧ v ≤ a.2.1) ∧ (a.2.2 = false → ∀ v, ¬ S v)
theorem zKQ.congr {S S' : Int → Prop} {a : Int × Int × Bool} (h : zKQ S a) (he : ∀ v, S v ↔ S' v) : zKQ S' a := by
 have : S = S' := funext fun v => propext (he v)
 rw [← this]; exact h
theorem zHG : ∀ (t : List Nd) (k : Nat) (y : Int), y ∈ wu t k ↔ ∃ (j : Nat) (n : Nd), y = (k : Int) + j ∧ t[j]? = some n ∧ n.f = -1
 | [], k, y => by simp [wu]
 | x :: r, k, y => by
  have ih := zHG r (k + 1) y
  have hstep : (∃ (j : Nat) (n : Nd), y = (k : Int) + j ∧ (x :: r)[j]? = some n ∧ n.f = -1) ↔ (y = k ∧ x.f = -1) ∨ ∃ (j : Nat) (n : Nd), y = ((k + 1 : Nat) : Int) + j ∧ r[j]? = some n ∧ n.f = -1 := by
   constructor
   ·rintro ⟨j, n, h1, h2, h3⟩
    cases j with
    | zero => simp at h2; subst h2; exact .inl ⟨by omega, h3⟩
    | succ j => rw [List.getElem?_cons_succ] at h2; exact .inr ⟨j, n, by omega, h2, h3⟩
   ·rintro (⟨h1, h2⟩ | ⟨j, n, h1, h2, h3⟩)
    ·exact ⟨0, x, by omega, by simp, h2⟩
    ·exact ⟨j + 1, n, by omega, by rw [List.getElem?_cons_succ]; exact h2, h3⟩
  rw [hstep, ← ih]
  simp only [wu]
  split
  ·rename_i hf; simp [hf]
  ·rename_i hf; simp [hf]
end Go.H.S
namespace Go.H.S
open Go Go.Proofs Go.H
inductive Ends (t : List Nd) (g : Nd → Bool) : Int → Nat → Prop
 | leaf {j : Nat} {n : Nd} : t[j]? = some n → n.f = -1 → Ends t g j j
 | left {j k : Nat} {n : Nd} : t[j]? = some n → n.f ≠ -1 → g n = true → Ends t g n.l k → Ends t g j k
 | right {j k : Nat} {n : Nd} : t[j]? = some n → n.f ≠ -1 → g n = false → Ends t g n.r k → Ends t g j k
end Go.H.S
namespace Go.H.S
open Go Go.Proofs Go.H
attribute [local irreducible] Tri z6 zR zV zY zW
def zHs (row : List Int) (f : Int) : Int := (row[f.toNat]?).getD 0
def goL (row : List Int) (n : Nd) : Bool := iLe (zHs row n.f) n.c
def yE (t : List Nd) (row : List Int) : Nat → Int → Option (List Int)
 | 0, _ => none
 | m + 1, x => if 0 ≤ x then match t[x.toNat]? with
   | none => none
   | some n => if n.f = -1 then some [x] else if 0 ≤ n.f ∧ n.f ≤ (row.length : Int) - 1 then (yE t row m (if goL row n = true then n.l else n.r)).map (x :: ·) else none
  else none
def resR : Option (List Int) → AV
 | none => .c (.nl 0)
 | some _ => .c (.ref 0 0 none)
def entsR : Option (List Int) → List (Nat × Ent)
 | none => []
 | some l => [(0, .arr zZ 1 0 .own (eL cI l))]
def numR : Option (List Int) → Nat
 | none => 0
 | some _ => 1
set_option maxHeartbeats 1000000 in
theorem zA4 (t : List Nd) (row : List Int) (hl : t.length ≤ 1048576) (hr : row.length ≤ 1048576) : zV PR zFX [aT t, aIs row] (Option (List Int)) (fun x => x = yE t row (t.length + 1) 0) resR entsR numR := by
 refine zV.intro hT (pf Tryz.func192) rfl (by kernel_rfl) Tryz.ntmps192 rfl ?_
 conv => whnf
 refine zB hT [1, 2, 5, 6, 12, 13] (α := Nat × Int × List Int) (fun x => { t := [(1, aIs row), (2, .c (.ptr 0 0)), (5, .c (.ref 1 0 none)), (6, ai x.2.1), (12, ai (t.length + 1 : Nat)), (13, ai x.1)], h := [(0, .box zT (cTr t)), (1, .arr zZ 1 0 .own (eL cI x.2.2))], n := 2, N := 57 })
  (fun x => x.1 ≤ t.length + 1 ∧ x.2.2.length ≤ x.1 ∧ (yE t row (t.length + 1 - x.1) x.2.1).map (x.2.2 ++ ·) = yE t row (t.length + 1) 0) (fun x => t.length + 1 - x.1) (0, 0, []) (by ((conv => whnf); simp only [eS, zp]); exact y6 (by omega) (by omega)) ⟨by simp, by simp, by simp⟩ ?_
 intro ⟨k, x, o⟩ ⟨hk, ho, he⟩
 dsimp only at hk ho he
 conv => whnf
 refine zK (fun h1 => ?_) (fun h1 => ?_) <;> (conv => whnf) <;> simp only [eH] at h1
 ·obtain ⟨m, hm⟩ : ∃ m, t.length + 1 - k = m + 1 := ⟨t.length - k, by omega⟩
  rw [hm, yE] at he
  rw [show nInt (dLen (eL cN t)) = (t.length : Int) by simp]
  rw [show wSub .i64 (t.length : Int) 1 = (t.length : Int) - 1 from yB (by omega) (by omega)]
  refine .inl ⟨_, _, _, zP _ _ _, rfl, ?_⟩
  conv => whnf
  refine zK (fun h2 => ?_) (fun h2 => ?_) <;> (conv => whnf)
  ·simp at h2
   refine ⟨none, ?_, ?_⟩
   ·rw [← he]
    split
    ·rename_i h3
     have : t[x.toNat]? = none := List.getElem?_eq_none (by have := h2 h3; omega)
     simp [this]
    ·rfl
   ·conv => whnf
    rfl
  ·simp at h2
   obtain ⟨j, rfl⟩ : ∃ j : Nat, x = j := ⟨x.toNat, by omega⟩
   obtain ⟨n, hn⟩ := zI (show j < t.length by omega)
   rw [if_pos h2.1, show (j : Int).toNat = j by simp, hn] at he
   dsimp only at he
   refine zG (by simp) hn ?_
   conv => whnf
   refine And.intro (by unfold Fits; simp; omega) ?_
   conv => whnf
   refine .inl ⟨_, _, _, z3N n, rfl, ?_⟩
   conv => whnf
   refine zK (fun h3 => ?_) (fun h3 => ?_) <;> (conv => whnf) <;> simp only [eH] at h3
   ·rw [if_pos h3] at he
    refine ⟨some (o ++ [(j : Int)]), he, ?_⟩
    ((conv => whnf); simp only [eS])
    refine ⟨rfl, ?_, rfl⟩
    rw [entsR, ← zX]
    rfl
   ·rw [if_neg h3] at he
    refine .inl ⟨_, _, _, zP _ _ _, rfl, ?_⟩
    conv => whnf
    have er : wSub .i64 (nInt (dLen (eL cI row))) 1 = (row.length : Int) - 1 := by rw [show nInt (dLen (eL cI row)) = (row.length : Int) by simp]; exact yB (by omega) (by omega)
    refine zK (fun h4 => ?_) (fun h4 => ?_) <;> (conv => whnf)
    ·rw [er] at h4
     simp at h4
     refine ⟨none, ?_, ?_⟩
     ·rw [if_neg (by omega)] at he
      exact he
     ·conv => whnf
      rfl
    ·rw [er] at h4
     simp at h4
     rw [if_pos (by omega)] at he
     obtain ⟨q, hq⟩ : ∃ q : Nat, n.f = q := ⟨n.f.toNat, by omega⟩
     obtain ⟨v, hv⟩ := zI (show q < row.length by omega)
     have hg : goL row n = iLe v n.c := by simp [goL, zHs, hq, hv]
     refine yN hT hmix (by kernel_rfl) ?_
     conv => whnf
     repeat' (first | (refine And.intro (fun q => ?_) (fun q => ?_) <;> cases q <;> (conv => whnf)) | fail)
     rw [hq]
     refine zG (by simp) hv ?_
     conv => whnf
     repeat' (first | (refine And.intro (fun q => ?_) (fun q => ?_) <;> cases q <;> (conv => whnf)) | fail)
     have hm2 : t.length + 1 - (k + 1) = m := by omega
     rw [hg] at he
     refine zK (fun h5 => ?_) (fun h5 => ?_) <;> (conv => whnf)
     ·refine ⟨(k + 1, n.l, o ++ [(j : Int)]), by dsimp only; omega, ⟨by dsimp only; omega, by simp; omega, ?_⟩, ?_⟩
      ·dsimp only
       rw [hm2, ← he, if_pos h5]
       cases yE t row m n.l <;> simp
      ·((conv => whnf); simp only [eS])
       refine ⟨wI (show k < t.length + 1 by omega) (by omega), ?_⟩
       rw [← zX]
       rfl
     ·refine ⟨(k + 1, n.r, o ++ [(j : Int)]), by dsimp only; omega, ⟨by dsimp only; omega, by simp; omega, ?_⟩, ?_⟩
      ·dsimp only
       rw [hm2, ← he, if_neg (by simp [h5])]
       cases yE t row m n.r <;> simp
      ·((conv => whnf); simp only [eS])
       refine ⟨wI (show k < t.length + 1 by omega) (by omega), ?_⟩
       rw [← zX]
       rfl
 ·have : t.length + 1 - k = 0 := by omega
  rw [this] at he
  refine ⟨none, he, ?_⟩
  conv => whnf
  rfl
def endL (t : List Nd) (row : List Int) : Int := match yE t row (t.length + 1) 0 with
 | some l => l.getLast?.getD (-1)
 | none => -1
def wa (t : List Nd) (row : List Int) : Int := if endL t row < 0 then 0 else match t[(endL t row).toNat]? with | some n => n.v | none => 0
theorem z1Y {t : List Nd} {row : List Int} : ∀ {m : Nat} {x : Int} {l : List Int}, yE t row m x = some l → ∃ (k : Nat) (n : Nd), l.getLast? = some (k : Int) ∧ t[k]? = some n ∧ n.f = -1 ∧ Ends t (goL row) x k ∧ 0 < l.length ∧ l.length ≤ m
 | 0, x, l, h => by simp [yE] at h
 | m + 1, x, l, h => by
  simp only [yE] at h
  split at h
  ·rename_i h0
   split at h
   ·cases h
   ·rename_i n hn
    obtain ⟨j, rfl⟩ : ∃ j : Nat, x = j := ⟨x.toNat, by omega⟩
    rw [show (j : Int).toNat = j by simp] at hn
    split at h
    ·rename_i hf
     cases h
     exact ⟨j, n, by simp, hn, hf, .leaf hn hf, by simp, by simp⟩
    ·rename_i hf
     split at h
     ·simp only [Option.map_eq_some_iff] at h
      obtain ⟨r, hr, rfl⟩ := h
      obtain ⟨k, n', h1, h2, h3, h4, h5, h6⟩ := z1Y hr
      refine ⟨k, n', ?_, h2, h3, ?_, by simp, by simp; omega⟩
      ·cases r with
       | nil => simp at h5
       | cons a b => simpa [List.getLast?_cons_cons] using h1
      ·cases hg : goL row n with
       | true => rw [hg] at h4; exact .left hn hf hg h4
       | false => rw [hg] at h4; exact .right hn hf hg h4
     ·cases h
  ·cases h
theorem z7T (t : List Nd) (row : List Int) (hl : t.length ≤ 1048576) (hr : row.length ≤ 1048576) : z6 PR zBq [aT t, aIs row] (ai (endL t row)) [] 0 := by
 refine z6.intro hT (pf Tryz.func270) rfl (by kernel_rfl) Tryz.ntmps270 rfl ?_
 conv => whnf
 refine .inr ⟨_, _, _, _, _, zA4 t row hl hr, fun x hx => ⟨by cases x <;> rfl, ?_⟩⟩
 cases x with
 | none =>
  conv => whnf
  rw [endL, ← hx]
 | some l =>
  conv => whnf
  obtain ⟨k, n, h1, h2, h3, h4, h5, h6⟩ := z1Y hx.symm
  have he : endL t row = (k : Int) := by rw [endL, ← hx]; simp [h1]
  rw [he]
  rw [show nInt (z0a (eL cI l) none) = (l.length : Int) by simp [z0a]]
  refine zK (fun h7 => ?_) (fun h7 => ?_) <;> (conv => whnf) <;> simp only [eH] at h7
  ·omega
  ·rw [show nInt (z0a (eL cI l) none) = (l.length : Int) by simp [z0a]]
   rw [show wSub .i64 (l.length : Int) 1 = ((l.length - 1 : Nat) : Int) by rw [yB] <;> omega]
   refine ye rfl (by simp; omega) ?_
   conv => whnf
   refine z33 (k := l.length - 1) (by simp) (by rw [← List.getLast?_eq_getElem?]; exact h1) ?_
   conv => whnf
theorem z6O (t : List Nd) (row : List Int) (hl : t.length ≤ 1048576) (hr : row.length ≤ 1048576) : z6 PR zAe [aT t, aIs row] (ai (wa t row)) [] 0 := by
 refine z6.intro hT (pf Tryz.func179) rfl (by kernel_rfl) Tryz.ntmps179 rfl ?_
 conv => whnf
 refine .inl ⟨_, _, _, z7T t row hl hr, rfl, ?_⟩
 conv => whnf
 refine zK (fun h1 => ?_) (fun h1 => ?_) <;> (conv => whnf) <;> simp only [eH] at h1
 ·rw [wa, if_pos h1]
 ·have hz : ∃ (k : Nat) (n : Nd), endL t row = k ∧ t[k]? = some n := by
   unfold endL at h1 ⊢
   cases hx : yE t row (t.length + 1) 0 with
   | none => rw [hx] at h1; simp at h1
   | some l =>
    obtain ⟨k, n, h2, h3, _⟩ := z1Y hx
    exact ⟨k, n, by simp [h2], h3⟩
  obtain ⟨k, n, hk, hn⟩ := hz
  rw [hk]
  refine zG (by simp) hn ?_
  conv => whnf
  rw [wa, hk, if_neg (by omega), show (k : Int).toNat = k by simp, hn]
end Go.H.S
namespace Go.H.S
open Go Go.Proofs Go.H
end Go.H.S
namespace Go.H.S
open Go Go.Proofs Go.H
attribute [local irreducible] Tri z6 zR zV zY zW
theorem zDI (code : List Int) : z6 PR zIA [.c (.d (.sl 1 (eL cU code)))] (ab (iLt 1048576 code.length)) [] 0 := by
 refine z6.intro hT (pf Tryz.func29) rfl (by kernel_rfl) Tryz.ntmps29 rfl ?_
 conv => whnf
 rw [show nInt (dLen (eL cU code)) = (code.length : Int) by simp]
end Go.H.S
namespace Go.H.S
open Go Go.Proofs Go.H
attribute [local irreducible] Tri z6 zR zV zY zW
end Go.H.S
namespace Go.H.S
open Go Go.Proofs Go.H
attribute [local irreducible] Tri z6 zR zV zY zW
end Go.H.S
namespace Go.H.S
open Go Go.Proofs Go.H
attribute [local irreducible] Tri z6 zR zV zY
end Go.H.S
namespace Go.H.S
open Go Go.Proofs Go.H
attribute [local irreducible] Tri z6 zR zV zY zW
set_option maxHeartbeats 1000000 in
theorem z8G (t : List Nd) (row : List Int) (hl : t.length ≤ 1048576) (hr : row.length ≤ 1048576) : z6 PR zDY [aT t, aIs row] (.c (.ref 0 0 none)) [(0, .arr zZ 1 0 .own (eL cI ((yE t row (t.length + 1) 0).getD [])))] 1 := by
 refine z6.intro hT (pf Tryz.func312) rfl (by kernel_rfl) Tryz.ntmps312 rfl ?_
 conv => whnf
 refine zB hT [1, 2, 5, 6, 7] (α := Nat × Int × List Int) (fun x => { t := [(1, aIs row), (2, .c (.ptr 0 0)), (5, .c (.ref 1 0 none)), (6, ai x.2.1), (7, ai x.1)], h := [(0, .box zT (cTr t)), (1, .arr zZ 1 0 .own (eL cI x.2.2))], n := 2, N := 59 })
  (fun x => x.1 ≤ t.length + 1 ∧ x.2.2.length ≤ x.1 ∧ (yE t row (t.length + 1 - x.1) x.2.1).map (x.2.2 ++ ·) = yE t row (t.length + 1) 0) (fun x => t.length + 1 - x.1) (0, 0, []) (by ((conv => whnf); simp only [eS, zp])) ⟨by simp, by simp, by simp⟩ ?_
 intro ⟨k, x, o⟩ ⟨hk, ho, he⟩
 dsimp only at hk ho he
 conv => whnf
 rw [show nInt (dLen (eL cN t)) = (t.length : Int) by simp]
 refine zK (fun h1 => ?_) (fun h1 => ?_) <;> (conv => whnf) <;> simp only [eH] at h1
 ·obtain ⟨m, hm⟩ : ∃ m, t.length + 1 - k = m + 1 := ⟨t.length - k, by omega⟩
  rw [hm, yE] at he
  rw [show nInt (dLen (eL cN t)) = (t.length : Int) by simp]
  rw [show wSub .i64 (t.length : Int) 1 = (t.length : Int) - 1 from yB (by omega) (by omega)]
  refine .inl ⟨_, _, _, zS _ _ _, rfl, ?_⟩
  conv => whnf
  refine zK (fun h2 => ?_) (fun h2 => ?_) <;> (conv => whnf)
  ·simp at h2
   have hz : yE t row (t.length + 1) 0 = none := by
    rw [← he]
    split
    ·rename_i h3
     have : t[x.toNat]? = none := List.getElem?_eq_none (by have := h2 h3; omega)
     simp [this]
    ·rfl
   rw [hz]
   simp [zp]
  ·simp at h2
   obtain ⟨j, rfl⟩ : ∃ j : Nat, x = j := ⟨x.toNat, by omega⟩
   obtain ⟨n, hn⟩ := zI (show j < t.length by omega)
   rw [if_pos h2.1, show (j : Int).toNat = j by simp, hn] at he
   dsimp only at he
   refine zG (by simp) hn ?_
   conv => whnf
   refine And.intro (by unfold Fits; simp; omega) ?_
   conv => whnf
   refine .inl ⟨_, _, _, z20 n, rfl, ?_⟩
   conv => whnf
   refine zK (fun h3 => ?_) (fun h3 => ?_) <;> (conv => whnf) <;> simp [bNot, iEq] at h3
   ·rw [if_pos h3] at he
    simp only [Option.map_some] at he
    rw [← he, Option.getD_some, ← zX]
    rfl
   ·rw [if_neg h3] at he
    refine .inl ⟨_, _, _, zS _ _ _, rfl, ?_⟩
    conv => whnf
    have er : wSub .i64 (nInt (dLen (eL cI row))) 1 = (row.length : Int) - 1 := by rw [show nInt (dLen (eL cI row)) = (row.length : Int) by simp]; exact yB (by omega) (by omega)
    refine zK (fun h4 => ?_) (fun h4 => ?_) <;> (conv => whnf)
    ·rw [er] at h4
     simp at h4
     rw [if_neg (by omega)] at he
     simp only [Option.map_none] at he
     rw [← he]
     simp [zp]
    ·rw [er] at h4
     simp at h4
     rw [if_pos (by omega)] at he
     obtain ⟨q, hq⟩ : ∃ q : Nat, n.f = q := ⟨n.f.toNat, by omega⟩
     obtain ⟨v, hv⟩ := zI (show q < row.length by omega)
     have hg : goL row n = iLe v n.c := by simp [goL, zHs, hq, hv]
     refine yN hT hmix (by kernel_rfl) ?_
     conv => whnf
     repeat' (first | (refine And.intro (fun q => ?_) (fun q => ?_) <;> cases q <;> (conv => whnf)) | fail)
     rw [hq]
     refine zG (by simp) hv ?_
     conv => whnf
     repeat' (first | (refine And.intro (fun q => ?_) (fun q => ?_) <;> cases q <;> (conv => whnf)) | fail)
     have hm2 : t.length + 1 - (k + 1) = m := by omega
     rw [hg] at he
     refine zK (fun h5 => ?_) (fun h5 => ?_) <;> (conv => whnf)
     ·refine ⟨(k + 1, n.l, o ++ [(j : Int)]), by dsimp only; omega, ⟨by dsimp only; omega, by simp; omega, ?_⟩, ?_⟩
      ·dsimp only
       rw [hm2, ← he, if_pos h5]
       cases yE t row m n.l <;> simp
      ·((conv => whnf); simp only [eS])
       refine ⟨wI (show k < t.length + 1 by omega) (by omega), ?_⟩
       rw [← zX]
       rfl
     ·refine ⟨(k + 1, n.r, o ++ [(j : Int)]), by dsimp only; omega, ⟨by dsimp only; omega, by simp; omega, ?_⟩, ?_⟩
      ·dsimp only
       rw [hm2, ← he, if_neg (by simp [h5])]
       cases yE t row m n.r <;> simp
      ·((conv => whnf); simp only [eS])
       refine ⟨wI (show k < t.length + 1 by omega) (by omega), ?_⟩
       rw [← zX]
       rfl
 ·have : t.length + 1 - k = 0 := by omega
  rw [this, yE] at he
  simp only [Option.map_none] at he
  rw [← he]
  simp [zp]
theorem zIt (t : List Nd) (row : List Int) : ((yE t row (t.length + 1) 0).getD [] = [] ∧ endL t row = -1) ∨
  ((yE t row (t.length + 1) 0).getD []).getLast? = some (endL t row) ∧ 0 < ((yE t row (t.length + 1) 0).getD []).length ∧ ((yE t row (t.length + 1) 0).getD []).length ≤ t.length + 1 := by
 cases hx : yE t row (t.length + 1) 0 with
 | none => exact .inl ⟨rfl, by rw [endL, hx]⟩
 | some l =>
  obtain ⟨k, n, h1, h2, h3, h4, h5, h6⟩ := z1Y hx
  exact .inr ⟨by rw [endL, hx]; simp [h1], h5, h6⟩
theorem z75 (t : List Nd) (row : List Int) (hl : t.length ≤ 1048576) (hr : row.length ≤ 1048576) : z6 PR zBX [aT t, aIs row] (ai (endL t row)) [] 0 := by
 have hw := z8G t row hl hr
 have he := zIt t row
 generalize endL t row = e at *
 generalize (yE t row (t.length + 1) 0).getD [] = l at *
 refine z6.intro hT (pf Tryz.func274) rfl (by kernel_rfl) Tryz.ntmps274 rfl ?_
 conv => whnf
 refine .inl ⟨_, _, _, hw, rfl, ?_⟩
 conv => whnf
 rw [show nInt (z0a (eL cI l) none) = (l.length : Int) by simp [z0a]]
 refine zK (fun h7 => ?_) (fun h7 => ?_) <;> (conv => whnf) <;> simp only [eH] at h7
 ·rcases he with ⟨_, h1⟩ | ⟨_, h1, _⟩
  ·rw [h1]
  ·omega
 ·rcases he with ⟨h1, _⟩ | ⟨h1, h2, h3⟩
  ·subst h1
   exact absurd rfl h7
  ·rw [show nInt (z0a (eL cI l) none) = (l.length : Int) by simp [z0a]]
   rw [show wSub .i64 (l.length : Int) 1 = ((l.length - 1 : Nat) : Int) by rw [yB] <;> omega]
   refine ye rfl (by simp; omega) ?_
   conv => whnf
   refine z33 (k := l.length - 1) (by simp) (by rw [← List.getLast?_eq_getElem?]; exact h1) ?_
   conv => whnf
theorem z5p (t : List Nd) (row : List Int) (hl : t.length ≤ 1048576) (hr : row.length ≤ 1048576) : z6 PR zAQ [aT t, aIs row] (ai (wa t row)) [] 0 := by
 refine z6.intro hT (pf Tryz.func187) rfl (by kernel_rfl) Tryz.ntmps187 rfl ?_
 conv => whnf
 refine .inl ⟨_, _, _, z75 t row hl hr, rfl, ?_⟩
 conv => whnf
 refine zK (fun h1 => ?_) (fun h1 => ?_) <;> (conv => whnf) <;> simp only [eH] at h1
 ·rw [wa, if_pos h1]
 ·have hz : ∃ (k : Nat) (n : Nd), endL t row = k ∧ t[k]? = some n := by
   unfold endL at h1 ⊢
   cases hx : yE t row (t.length + 1) 0 with
   | none => rw [hx] at h1; simp at h1
   | some l =>
    obtain ⟨k, n, h2, h3, _⟩ := z1Y hx
    exact ⟨k, n, by simp [h2], h3⟩
  obtain ⟨k, n, hk, hn⟩ := hz
  rw [hk]
  refine zG (by simp) hn ?_
  conv => whnf
  rw [wa, hk, if_neg (by omega), show (k : Int).toNat = k by simp, hn]
end Go.H.S
namespace Go.H.S
open Go Go.Proofs Go.H
theorem z2y (ft : Int) (n : Nd) : ∀ (l : List Nd) (i next : Int), yT ft (l ++ [n]) i next = (yT ft l i next).bind fun m => yT ft [n] (i + l.length) m
 | [], i, next => by simp [yT]
 | x :: r, i, next => by
  simp only [List.cons_append, yT]
  split
  ·split
   ·rfl
   ·rw [z2y ft n r (i + 1) next, show i + 1 + (r.length : Int) = i + ((x :: r).length : Nat) by simp; omega]; rfl
  ·split
   ·rfl
   ·rw [z2y ft n r (i + 1) (next + 2), show i + 1 + (r.length : Int) = i + ((x :: r).length : Nat) by simp; omega]; rfl
theorem zG6 {grads : List Int} {c : Cfg} {x : Itm} (hb : yI x.bd) (ft i m : Int) : yT ft [z1c grads c x] i m = some m := by
 have h := z68 (n := x.rows.length) (s := sumR grads x.rows) (lam := c.lambda) hb.1
 have h1 : z7O (z1c grads c x) = false := by
  unfold yI at hb
  have h2 : decide (z1c grads c x ≠ ⟨-1, 0, 0, 0, (z1c grads c x).v⟩) = false := decide_eq_false (fun q => q rfl)
  have h3 : decide (-1099511627776 ≤ (z1c grads c x).v ∧ (z1c grads c x).v ≤ 1099511627776) = true := decide_eq_true (by show -1099511627776 ≤ z2D _ _ _ _ ∧ z2D _ _ _ _ ≤ _; omega)
  unfold z7O
  rw [h2, h3]
  rfl
 simp only [yT]
 rw [if_pos (show (z1c grads c x).f = -1 from rfl), h1]
 rfl
theorem zF5 {g : Grd} {z : Cd} {f b : Nat} (hg : zBI g) (hf : f < g.cuts.length) (hb : b < (wH g f).length) (hzf : z.f = f) (hzb : z.b = b) {k n : Nat} (hk : k < n) : yT g.cuts.length [yr g z n] k n = some ((n + 2 : Nat) : Int) := by
 obtain ⟨_, _, g3, _⟩ := z39 hg hf
 obtain ⟨cv, hcv⟩ := zI hb
 have hc : zAm g z.f z.b = cv := by unfold zAm; rw [hzf, hzb, Int.toNat_natCast, Int.toNat_natCast, hcv]; rfl
 have hcr : -2147483647 ≤ cv ∧ cv ≤ 2147483647 := by
  have := g3.2.2 cv (List.mem_of_getElem? hcv)
  unfold decP at this
  omega
 have h1 : z1J (yr g z n) g.cuts.length k n = false := by
  rw [hzf] at hc
  simp only [z1J, yr, hzf, hc, Bool.or_eq_false_iff, decide_eq_false_iff_not]
  refine ⟨⟨⟨⟨⟨?_, ?_⟩, ?_⟩, ?_⟩, ?_⟩, ?_⟩ <;> omega
 have h2 : ¬ (yr g z n).f = -1 := by show ¬ z.f = -1; rw [hzf]; omega
 simp only [yT]
 rw [if_neg h2, h1]
 simp
theorem z02 {g : Grd} {grads : List Int} {c : Cfg} (ht : yw g grads c) : ∀ k, k ≤ (zq g grads c k).1.length → grP g grads c k ∧ yT g.cuts.length (zq g grads c k).2 0 1 = some ((zq g grads c k).1.length : Int)
 | 0, _ => ⟨zAC ht, by simp [zq, yT]⟩
 | k + 1, hk => by
  cases hx : (zq g grads c k).1[k]? with
  | none =>
   have hle : (zq g grads c k).1.length ≤ k := by
    rcases Nat.lt_or_ge k (zq g grads c k).1.length with q | q
    ·rw [List.getElem?_eq_getElem q] at hx; cases hx
    ·exact q
   rw [zq, hx] at hk
   dsimp only at hk
   omega
  | some x =>
   have hlt : k < (zq g grads c k).1.length := by
    rcases Nat.lt_or_ge k (zq g grads c k).1.length with q | q
    ·exact q
    ·rw [List.getElem?_eq_none q] at hx; cases hx
   obtain ⟨hp, ih⟩ := z02 ht k (by omega)
   refine ⟨zAD hp hx, ?_⟩
   have hip := hp.it x (List.mem_of_getElem? hx)
   have ho := hp.out
   have e := z1k hx
   cases hz : z0l g grads c x with
   | none =>
    have e2 : zq g grads c (k + 1) = ((zq g grads c k).1, (zq g grads c k).2 ++ [z1c grads c x]) := by rw [e, z2L, hz]
    rw [e2]
    dsimp only
    rw [z2y, ih]
    show yT _ _ _ _ = _
    rw [zG6 hip.2.1]
   | some z =>
    have hz2 : z5N g grads c x.rows x.bd = some z := by
     unfold z0l at hz
     split at hz
     ·exact hz
     ·cases hz
    obtain ⟨f, b, hf, hb, hze⟩ := z61 hz2
    have e2 : zq g grads c (k + 1) = ((zq g grads c k).1 ++ [kidL g c x z, kidR g c x z], (zq g grads c k).2 ++ [yr g z (zq g grads c k).1.length]) := by rw [e, z2L, hz]
    rw [e2]
    dsimp only
    rw [z2y, ih, ho]
    show yT _ _ _ _ = _
    rw [Int.zero_add, zF5 ht.1 hf hb (by rw [hze]; rfl) (by rw [hze]; rfl) hlt]
    simp
theorem z6T {g : Grd} {grads : List Int} {c : Cfg} (ht : yw g grads c) : ∃ k, k ≤ 31 ∧ k = (zq g grads c k).1.length := by
 have key : ∀ j, (∃ k, k < j ∧ k = (zq g grads c k).1.length) ∨ j ≤ (zq g grads c j).1.length := by
  intro j
  induction j with
  | zero => exact .inr (Nat.zero_le _)
  | succ j ih =>
   rcases ih with ⟨k, h1, h2⟩ | h
   ·exact .inl ⟨k, by omega, h2⟩
   ·rcases Nat.lt_or_ge j (zq g grads c j).1.length with q | q
    ·obtain ⟨x, hx⟩ := zI q
     refine .inr ?_
     rw [z1k hx]
     unfold z2L
     split
     ·dsimp only; omega
     ·simp; omega
    ·exact .inl ⟨j, by omega, by omega⟩
 rcases key 32 with ⟨k, h1, h2⟩ | h
 ·exact ⟨k, by omega, h2⟩
 ·have := (z02 ht 32 h).1.wt
  omega
theorem yz {g : Grd} {grads : List Int} {c : Cfg} (ht : yw g grads c) : yn (yF g grads c) g.cuts.length = true ∧ 1 ≤ (yF g grads c).length ∧ (yF g grads c).length ≤ 31 := by
 obtain ⟨k, hk, he⟩ := z6T ht
 obtain ⟨hp, hs⟩ := z02 ht k (by omega)
 have hg := z38 hp he
 have ho := hp.out
 rw [hg] at hs ho
 rw [← he] at hs
 have h1 : 1 ≤ k := by
  rcases Nat.eq_zero_or_pos k with rfl | q
  ·simp [zq] at he
  ·exact q
 refine ⟨?_, by omega, by omega⟩
 unfold yn
 rw [hs, ho]
 exact decide_eq_true rfl
theorem zDM {g : Grd} {grads : List Int} {c : Cfg} (k : Nat) : ∀ j, ∃ a b, zq g grads c (k + j) = ((zq g grads c k).1 ++ a, (zq g grads c k).2 ++ b)
 | 0 => ⟨[], [], by simp⟩
 | j + 1 => by
  obtain ⟨a, b, h⟩ := zDM (g := g) (grads := grads) (c := c) k j
  rw [← Nat.add_assoc, zq]
  split
  ·exact ⟨a, b, h⟩
  ·rw [h]
   unfold z2L
   split
   ·exact ⟨a, _, by rw [List.append_assoc]⟩
   ·exact ⟨_, _, by rw [List.append_assoc, List.append_assoc]⟩
def quL (g : Grd) (grads : List Int) (c : Cfg) : List Itm := (zq g grads c 31).1
theorem z2i {g : Grd} {grads : List Int} {c : Cfg} (ht : yw g grads c) : (quL g grads c).length = (yF g grads c).length ∧ ∀ j, j < (yF g grads c).length → ∃ x, (quL g grads c)[j]? = some x ∧ itmP g c x ∧
  ((z0l g grads c x = none ∧ (yF g grads c)[j]? = some (z1c grads c x)) ∨ ∃ z, z0l g grads c x = some z ∧ (yF g grads c)[j]? = some (yr g z (zq g grads c j).1.length) ∧ j < (zq g grads c j).1.length ∧ (quL g grads c)[(zq g grads c j).1.length]? = some (kidL g c x z) ∧ (quL g grads c)[(zq g grads c j).1.length + 1]? = some (kidR g c x z)) := by
 obtain ⟨K, hK, he⟩ := z6T ht
 obtain ⟨hp, _⟩ := z02 ht K (by omega)
 have hg := z38 hp he
 have ho := hp.out
 have hq : quL g grads c = (zq g grads c K).1 := by
  unfold quL
  rw [show 31 = K + (31 - K) by omega, z1j (by omega)]
 rw [← hg, ho, hq]
 refine ⟨he.symm, fun j hj => ?_⟩
 have hlt : j < (zq g grads c j).1.length := by
  rcases Nat.lt_or_ge j (zq g grads c j).1.length with q | q
  ·exact q
  ·have := z1j q (K - j)
   rw [show j + (K - j) = K by omega] at this
   rw [this] at he
   omega
 obtain ⟨x, hx⟩ := zI hlt
 obtain ⟨hpj, _⟩ := z02 ht j (by omega)
 have hip := hpj.it x (List.mem_of_getElem? hx)
 have hoj := hpj.out
 have e := z1k hx
 obtain ⟨a, b, hab⟩ := zDM (g := g) (grads := grads) (c := c) (j + 1) (K - (j + 1))
 rw [show j + 1 + (K - (j + 1)) = K by omega, e] at hab
 rw [hab]
 cases hz : z0l g grads c x with
 | none =>
  have e2 : z2L g grads c (zq g grads c j).1 (zq g grads c j).2 x = ((zq g grads c j).1, (zq g grads c j).2 ++ [z1c grads c x]) := by rw [z2L, hz]
  rw [e2]
  dsimp only
  refine ⟨x, by rw [List.getElem?_append_left hlt]; exact hx, hip, .inl ⟨hz, ?_⟩⟩
  rw [List.getElem?_append_left (by simp; omega), List.getElem?_append_right (by omega), hoj]
  simp
 | some z =>
  have e2 : z2L g grads c (zq g grads c j).1 (zq g grads c j).2 x = ((zq g grads c j).1 ++ [kidL g c x z, kidR g c x z], (zq g grads c j).2 ++ [yr g z (zq g grads c j).1.length]) := by rw [z2L, hz]
  rw [e2]
  dsimp only
  refine ⟨x, by rw [List.append_assoc, List.getElem?_append_left hlt]; exact hx, hip, .inr ⟨z, hz, ?_, hlt, ?_, ?_⟩⟩
  ·rw [List.getElem?_append_left (by simp; omega), List.getElem?_append_right (by omega), hoj]
   simp
  ·rw [List.append_assoc, List.getElem?_append_right (by omega)]
   simp
  ·rw [List.append_assoc, List.getElem?_append_right (by omega)]
   simp
theorem zCB {t : List Nd} : ∀ (n : Nat) (x : Int) (l : List Int), z4Z t n x = some l → z4Z t (n + 1) x = some l
 | 0, x, l, h => by simp [z4Z] at h
 | n + 1, x, l, h => by
  rw [z4Z] at h ⊢
  split
  ·rename_i q
   rw [if_pos q] at h
   exact h
  ·rename_i q
   rw [if_neg q] at h
   rw [Option.map_eq_some_iff] at h ⊢
   obtain ⟨r, h1, h2⟩ := h
   exact ⟨r, zCB n _ r h1, h2⟩
theorem zFw {t : List Nd} {ft : Int} (h : yn t ft = true) (hl : t.length ≤ 31) {j : Nat} {n : Nd} (hj : t[j]? = some n) (hf : n.f ≠ -1) {x : Int} (hx : n.l = x ∨ n.r = x) (hjx : (j : Int) < x) (hxr : x < t.length) : wayL t x = wayL t j ++ [x] := by
 have hu := up_kid h hj hf hx
 obtain ⟨l, hs, _⟩ := zEx h 30 j (by omega)
 have hs2 := zCB _ _ _ hs
 have hx2 : z4Z t 32 x = some (x :: l) := by
  rw [z4Z, hu, if_neg (by omega), hs]
  rfl
 unfold wayL
 rw [if_pos (by omega), if_pos (by omega), hx2, hs2]
 simp
theorem z4K {g : Grd} {t : List Nd} (a z : Int) : ∀ (w : List Int) (rows : List Int), zD9 g t rows (w ++ [a, z]) = z82 g t (zD9 g t rows (w ++ [a])) a z
 | [], rows => by simp [zD9]
 | [y], rows => by simp [zD9]
 | y :: y' :: w, rows => by
  have ih := z4K (g := g) (t := t) a z (y' :: w) (z82 g t rows y y')
  simp only [List.cons_append] at ih ⊢
  rw [zD9, zD9, ih]
theorem zCh (v : Int) : ∀ (l : List Int), (∀ u ∈ l, v ≤ u) → yG l v = 0
 | [], _ => rfl
 | x :: r, h => by
  have h1 := h x (by simp)
  rw [yG, if_neg (by omega), zCh v r (fun u hu => h u (by simp [hu]))]
theorem zIu (x : Int) (r : List Int) (hm : ∀ (j : Nat) (a b : Int), (x :: r)[j]? = some a → (x :: r)[j + 1]? = some b → a < b) : ∀ (b : Nat) (v : Int), r[b]? = some v → x < v := by
 intro b
 induction b with
 | zero => intro v hv; exact hm 0 x v (by simp) (by simpa using hv)
 | succ b ihb =>
  intro v hv
  obtain ⟨u, hu⟩ : ∃ u, r[b]? = some u := zI (by have := (List.getElem?_eq_some_iff.1 hv).1; omega)
  have h1 := ihb u hu
  have h2 := hm (b + 1) u v (by simpa using hu) (by simpa using hv)
  omega
theorem zHg : ∀ (l : List Int) (b : Nat) (v : Int), (∀ (j : Nat) (x y : Int), l[j]? = some x → l[j + 1]? = some y → x < y) → l[b]? = some v → yG l v = b
 | [], b, v, _, h => by simp at h
 | x :: r, 0, v, hm, h => by
  simp at h
  subst h
  have h0 := zCh x r (fun u hu => by
   obtain ⟨i, hi⟩ := List.getElem?_of_mem hu
   have := zIu x r hm i u hi
   omega)
  simp [yG, h0]
 | x :: r, b + 1, v, hm, h => by
  have hr : r[b]? = some v := by simpa using h
  have ih := zHg r b v (fun j x y h1 h2 => hm (j + 1) x y (by simpa using h1) (by simpa using h2)) hr
  have := zIu x r hm b v hr
  rw [yG, if_pos this]
  omega
theorem nr_kid {g : Grd} {c : Cfg} {x : Itm} {z : Cd} {f b : Nat} (hg : zBI g) (hf : f < g.cuts.length) (hb : b < (wH g f).length) (hzf : z.f = f) (hzb : z.b = b) {t : List Nd} {j L : Nat} (hj : t[j]? = some (yr g z L)) :
  z82 g t x.rows j L = (kidL g c x z).rows ∧ z82 g t x.rows j ((L + 1 : Nat) : Int) = (kidR g c x z).rows := by
 obtain ⟨g1, g2, g3, _⟩ := z39 hg hf
 obtain ⟨cv, hcv⟩ := zI hb
 have hc : zAm g z.f z.b = cv := by unfold zAm; rw [hzf, hzb, Int.toNat_natCast, Int.toNat_natCast, hcv]; rfl
 have hbin : yG (wH g f) cv = b := zHg _ _ _ g3.1 hcv
 have hff : (yr g z L).f.toNat = f := by show z.f.toNat = f; rw [hzf, Int.toNat_natCast]
 have hcc : (yr g z L).c = cv := hc
 unfold z82 kidL kidR
 rw [Int.toNat_natCast, hj]
 dsimp only
 rw [hff, g1, g2]
 dsimp only
 rw [hcc, hbin, show z.f.toNat = f by rw [hzf, Int.toNat_natCast], hzb]
 refine ⟨if_pos rfl, if_neg ?_⟩
 show ¬ (L : Int) = ((L + 1 : Nat) : Int)
 omega
theorem z9P {g : Grd} {grads : List Int} {c : Cfg} (ht : yw g grads c) (P : Nat → Itm → Prop) (h0 : P 0 ⟨y9 grads.length, z6Y, 0⟩)
  (hk : ∀ (j L : Nat) (x : Itm) (z : Cd), P j x → itmP g c x → z0l g grads c x = some z → (yF g grads c)[j]? = some (yr g z L) → j < L → L + 1 < (yF g grads c).length → P L (kidL g c x z) ∧ P (L + 1) (kidR g c x z)) :
  ∀ k, k ≤ (yF g grads c).length → ∀ j x, (zq g grads c k).1[j]? = some x → P j x
 | 0, _, j, x, hx => by
  simp only [zq] at hx
  match j, hx with
  | 0, hx => simp at hx; subst hx; exact h0
  | j + 1, hx => simp at hx
 | k + 1, hkn, j, x, hx => by
  obtain ⟨hlen, hn⟩ := z2i ht
  obtain ⟨y, hy, hyp, hc⟩ := hn k (by omega)
  have ih := z9P ht P h0 hk k (by omega)
  cases hyk : (zq g grads c k).1[k]? with
  | none => rw [zq, hyk] at hx; exact ih j x hx
  | some y' =>
   have hpre := zDM (g := g) (grads := grads) (c := c) k (31 - k)
   have hn31 : (yF g grads c).length ≤ 31 := (yz ht).2.2
   rw [show k + (31 - k) = 31 by omega] at hpre
   obtain ⟨a, b, hab⟩ := hpre
   have hlt : k < (zq g grads c k).1.length := (List.getElem?_eq_some_iff.1 hyk).1
   have hyy : y' = y := by
    have : (quL g grads c)[k]? = some y' := by unfold quL; rw [hab]; dsimp only; rw [List.getElem?_append_left hlt]; exact hyk
    rw [hy] at this
    cases this; rfl
   subst hyy
   rw [z1k hyk] at hx
   have hpk := ih k y' hyk
   rcases hc with ⟨hz, _⟩ | ⟨z, hz, hnode, hL, hl1, hl2⟩
   ·rw [z2L, hz] at hx
    exact ih j x hx
   ·rw [z2L, hz] at hx
    dsimp only at hx
    have hL1 : (zq g grads c k).1.length + 1 < (yF g grads c).length := by
     rw [← hlen]; exact (List.getElem?_eq_some_iff.1 hl2).1
    obtain ⟨p1, p2⟩ := hk k _ y' z hpk hyp hz hnode hL hL1
    rcases Nat.lt_or_ge j (zq g grads c k).1.length with q | q
    ·rw [List.getElem?_append_left q] at hx
     exact ih j x hx
    ·rw [List.getElem?_append_right q] at hx
     obtain ⟨i, hi⟩ : ∃ i, j = (zq g grads c k).1.length + i := ⟨j - (zq g grads c k).1.length, by omega⟩
     subst hi
     rw [Nat.add_sub_cancel_left] at hx
     match i, hx with
     | 0, hx => simp at hx; subst hx; exact p1
     | 1, hx => simp at hx; subst hx; exact p2
     | i + 2, hx => simp at hx
theorem zCn {t : List Nd} {ft : Int} (h : yn t ft = true) (h1 : 1 ≤ t.length) : wayL t 0 = [0] := by
 have hu : up t 0 < 0 := by
  rcases Int.lt_or_le (up t 0) 0 with q | q
  ·exact q
  ·obtain ⟨j, n, _, _, _, _, hlt⟩ := zKZ h q
   omega
 have hs : z4Z t 32 0 = some [0] := by rw [z4Z, if_pos hu]; rfl
 unfold wayL
 rw [if_pos (by omega), hs]
 rfl
theorem zI8 {g : Grd} {grads : List Int} {c : Cfg} (ht : yw g grads c) {j : Nat} {x : Itm} (hx : (quL g grads c)[j]? = some x) :
  ∃ w, wayL (yF g grads c) j = w ++ [(j : Int)] ∧ yo g (yF g grads c) j = x.rows ∧ (w.length : Int) = x.lev := by
 obtain ⟨hsh, hn1, hn31⟩ := yz ht
 obtain ⟨K, hK, he⟩ := z6T ht
 have hgl : grads.length = yR g := ht.2.2.1
 obtain ⟨hp, _⟩ := z02 ht K (by omega)
 have hlen : (yF g grads c).length = K := by rw [← z38 hp he]; exact hp.out
 have hq : quL g grads c = (zq g grads c K).1 := by
  unfold quL
  rw [show 31 = K + (31 - K) by omega, z1j (by omega)]
 rw [hq] at hx
 refine z9P ht (fun j x => ∃ w, wayL (yF g grads c) j = w ++ [(j : Int)] ∧ yo g (yF g grads c) j = x.rows ∧ (w.length : Int) = x.lev) ?_ ?_ K (by omega) j x hx
 ·refine ⟨[], zCn hsh hn1, ?_, rfl⟩
  unfold yo
  rw [show ((0 : Nat) : Int) = 0 from rfl, zCn hsh hn1, hgl]
  rfl
 ·intro j L x z ⟨w, hw, hr, hl⟩ hip hz hj hjL hL
  have hz2 : x.lev < c.depth ∧ z5N g grads c x.rows x.bd = some z := by
   unfold z0l at hz
   split at hz
   ·rename_i q; exact ⟨q, hz⟩
   ·cases hz
  obtain ⟨f, b, hf, hb, hze⟩ := z61 hz2.2
  have hzf : z.f = f := by rw [hze]; rfl
  have hzb : z.b = b := by rw [hze]; rfl
  have hnf : (yr g z L).f ≠ -1 := by show z.f ≠ -1; rw [hzf]; omega
  obtain ⟨k1, k2⟩ := nr_kid (x := x) (c := c) ht.1 hf hb hzf hzb hj
  have w1 := zFw hsh hn31 hj hnf (x := (L : Int)) (.inl rfl) (by omega) (by omega)
  have w2 := zFw hsh hn31 hj hnf (x := ((L + 1 : Nat) : Int)) (.inr rfl) (by omega) (by omega)
  rw [hw] at w1 w2
  unfold yo at hr ⊢
  rw [hw] at hr
  refine ⟨⟨w ++ [(j : Int)], w1, ?_, ?_⟩, ⟨w ++ [(j : Int)], w2, ?_, ?_⟩⟩
  ·rw [w1, List.append_assoc, List.singleton_append, z4K, hr]; exact k1
  ·show _ = x.lev + 1; simp; omega
  ·rw [w2, List.append_assoc, List.singleton_append, z4K, hr]; exact k2
  ·show _ = x.lev + 1; simp; omega
theorem zKi {bins rows : List Int} (b : Int) (h : ∀ r ∈ rows, 0 ≤ r ∧ r < (bins.length : Int)) : (yJ bins rows b).1 = z67 bins rows b ∧ (yJ bins rows b).2 = z5w bins rows b := by
 have key : ∀ r ∈ rows, z1w bins b r = some (decide (w4 bins r ≤ b)) := fun r hr => by
  obtain ⟨h1, h2⟩ := h r hr
  obtain ⟨v, hv⟩ := zI (show r.toNat < bins.length by omega)
  unfold z1w w4
  rw [if_pos (by omega), hv]
  rfl
 refine ⟨List.filter_congr fun r hr => ?_, List.filter_congr fun r hr => ?_⟩
 ·rw [key r hr]; simp
 ·rw [key r hr]; simp
end Go.H.S
namespace Go.H.S
open Go Go.Proofs Go.H
theorem zL3 {g : Grd} {grads : List Int} {c : Cfg} (ht : yw g grads c) (P : Nat → Itm → Prop) (h0 : P 0 ⟨y9 grads.length, z6Y, 0⟩)
  (hk : ∀ (j L : Nat) (x : Itm) (z : Cd), P j x → itmP g c x → z0l g grads c x = some z → (yF g grads c)[j]? = some (yr g z L) → j < L → L + 1 < (yF g grads c).length → P L (kidL g c x z) ∧ P (L + 1) (kidR g c x z))
  {j : Nat} {x : Itm} (hx : (quL g grads c)[j]? = some x) : P j x := by
 obtain ⟨K, hK, he⟩ := z6T ht
 obtain ⟨hp, _⟩ := z02 ht K (by omega)
 have hlen : (yF g grads c).length = K := by rw [← z38 hp he]; exact hp.out
 have hq : quL g grads c = (zq g grads c K).1 := by
  unfold quL
  rw [show 31 = K + (31 - K) by omega, z1j (by omega)]
 rw [hq] at hx
 exact z9P ht P h0 hk K (by omega) j x hx
theorem zHy {g : Grd} {grads : List Int} {c : Cfg} {x : Itm} {z : Cd} (h : z0l g grads c x = some z) : x.lev < c.depth ∧ z5N g grads c x.rows x.bd = some z := by
 unfold z0l at h
 split at h
 ·rename_i q; exact ⟨q, h⟩
 ·cases h
structure Parted (g : Grd) (c : Cfg) (x : Itm) (z : Cd) (f b : Nat) : Prop where
 hf : f < g.cuts.length
 hb : b < (wH g f).length
 zf : z.f = f
 zb : z.b = b
 q1 : (kidL g c x z).rows = z67 (ya g f) x.rows b
 q2 : (kidR g c x z).rows = z5w (ya g f) x.rows b
 n1 : c.rows ≤ ((z67 (ya g f) x.rows b).length : Int)
 n2 : c.rows ≤ ((z5w (ya g f) x.rows b).length : Int)
theorem zLZ {g : Grd} {grads : List Int} {c : Cfg} (ht : yw g grads c) {x : Itm} {z : Cd} (hip : itmP g c x) (hz : z0l g grads c x = some z) : ∃ f b, Parted g c x z f b := by
 obtain ⟨f, b, hf, hb, hze, h1, h2⟩ := zAx (zFr (zHy hz).2).1
 have hzf : z.f = f := by rw [hze]; rfl
 have hzb : z.b = b := by rw [hze]; rfl
 obtain ⟨_, _, g3, hbl, _⟩ := z39 ht.1 hf
 obtain ⟨s1, s2⟩ := zKi (bins := ya g f) (rows := x.rows) (b : Int) (fun r hr => by rw [hbl]; exact hip.1.mem r hr)
 have q1 : (kidL g c x z).rows = z67 (ya g f) x.rows b := by unfold kidL; dsimp only; rw [hzf, hzb, Int.toNat_natCast]; exact s1
 have q2 : (kidR g c x z).rows = z5w (ya g f) x.rows b := by unfold kidR; dsimp only; rw [hzf, hzb, Int.toNat_natCast]; exact s2
 rw [hze] at h1 h2
 exact ⟨f, b, ⟨hf, hb, hzf, hzb, q1, q2, h1, h2⟩⟩
end Go.H.S
namespace Go.H.S
open Go Go.Proofs Go.H
attribute [local irreducible] Tri z6 zR zV zY zW
def addL (tr : List Nd) (rows : List (List Int)) (ps : List Int) : List Int := List.zipWith (fun p r => p + wa tr r) ps rows
theorem zFt {tr : List Nd} {rows : List (List Int)} {ps : List Int} {k : Nat} {p : Int} {r : List Int} (hp : ps[k]? = some p) (hr : rows[k]? = some r) : (addL tr rows ps).take (k + 1) = (addL tr rows ps).take k ++ [p + wa tr r] := by
 have h : (addL tr rows ps)[k]? = some (p + wa tr r) := by rw [addL, List.getElem?_zipWith, hp, hr]
 rw [List.take_add_one, h]; rfl
theorem z4X {tr : List Nd} {rows : List (List Int)} {ps : List Int} (h : ps.length = rows.length) : (addL tr rows ps).length = ps.length := by simp [addL, h]
set_option maxHeartbeats 4000000 in
theorem z2Q (t : Tbl) (b : Nat) (c : Cfg) (ps : List Int) (ts : List (List Nd)) (tr : List Nd) (hz : szT t) (ht : y1 t = true) (hc : cfgP c) (hb : c.bins = (b : Int)) (hbb : 2 ≤ b ∧ b ≤ 8) (hsm : smG (zi t b)) (hpl : ps.length = t.ys.length) (hpb : ∀ p ∈ ps, -1152921504606846976 ≤ p ∧ p ≤ 1152921504606846976)
  (hts : ts.length ≤ 1000) (htl : ∀ x ∈ ts, x.length ≤ 1000) (htk : yw (zi t b) (resL t.ys ps) c) (hgl : tr.length ≤ 1000) (hlf : ∀ n ∈ tr, zI5 n) (htr : yF (zi t b) (resL t.ys ps) c = tr) (hev : ∀ r, -1152921504606846976 ≤ wa (shrT c tr) r ∧ wa (shrT c tr) r ≤ 1152921504606846976) :
  z6 PR z0g [aTb t, aG (zi t b), aCf c, aSt ps ts] (z2p (addL (shrT c tr) t.rows ps) (ts ++ [shrT c tr]) true) [] 0 := by
 have hv := z05 ht
 have hcl : c.signs.length ≤ 1048576 := by have := hc.2.2.2.2; omega
 have hrl := wj hpl.symm
 have hyl := hv.yl
 have hr40 := hv.r40
 have hgrow := z5o (zi t b) (resL t.ys ps) c hsm (by omega) hcl htk
 rw [htr] at hgrow
 clear htr htk
 have hgrid := z2t t b hbb ht hz.n hz.ns hz.tg hz.r hz.c hz.y
 have hres := wr t.ys ps hpl.symm (by omega) hv.yv hpb
 generalize zi t b = g at hsm hgrow hgrid ⊢
 generalize resL t.ys ps = res at *
 refine z6.intro hT (pf Tryz.func73) rfl (by kernel_rfl) Tryz.ntmps73 rfl ?_
 conv => whnf
 refine zj 0 ?_
 conv => whnf
 refine zj 1 ?_
 conv => whnf
 refine zj 2 ?_
 conv => whnf
 refine zj 3 ?_
 conv => whnf
 refine zJ hT hmix [4, 5, 6, 7, 8, 31] { t := [(4, rpTb t), (5, .c (.d (.rp [.sl 1 (eL cIs g.cuts), .sl 1 (eL cIs g.bins)]))), (6, .c (.d (.rp [.int .i64 c.rounds, .int .i64 c.depth, .int .i64 c.bins, .int .i64 c.lambda, .int .i64 c.rows, .int .i64 c.num, .int .i64 c.den, .sl 1 (eL cI c.signs)]))), (7, .c (.d (.rp [.sl 1 (eL cI ps), .sl 1 (eL cT ts)]))), (8, .c (.ptr 0 0)), (31, ab false)], h := [(0, .box zn [.nl 1, .nl 1])], n := 1, N := 104 } rfl ?_ ?_
 ·repeat' first
   | (refine zM rfl ?_; (conv => whnf))
   | (refine zL rfl ?_ ?_ <;> (conv => whnf))
   | (refine zC rfl ?_ ?_ ?_ <;> (conv => whnf))
   | (refine .inl ⟨_, _, _, ym t hz.n hz.ns hz.tg hz.r hz.c hz.y, rfl, ?_⟩; rw [ht]; (conv => whnf))
   | (rw [hb]; refine .inl ⟨_, _, _, hgrid, rfl, ?_⟩; (conv => whnf))
   | (refine .inl ⟨_, _, _, z5m g hsm, rfl, ?_⟩; (conv => whnf))
   | (refine zO rfl ?_; (conv => whnf); first | done | rfl)
 conv => whnf
 refine .inl ⟨_, _, _, hres, rfl, ?_⟩
 conv => whnf
 refine .inl ⟨_, _, _, hgrow, rfl, ?_⟩
 conv => whnf
 refine .inl ⟨_, _, _, z4b tr c hc hgl hlf, rfl, ?_⟩
 conv => whnf
 refine zj 3 ?_
 conv => whnf
 refine zJ hT hmix [4, 7, 8, 14, 16] { t := [(4, rpTb t), (7, .c (.d (.rp [.sl 1 (eL cI ps), .sl 1 (eL cT ts)]))), (8, .c (.ptr 0 0)), (14, .c (.d (.rp [.sl 5 (eL cN (shrT c tr))]))), (16, .c (.ptr 1 0))], h := [(0, .box zn [.nl 1, .nl 1]), (1, .box zn [.nl 1, .ref 2 0 none]), (2, .arr zT 1 0 .own (eL cT (ts ++ [shrT c tr])))], n := 3, N := 104 } rfl ?_ ?_
 ·repeat' first
   | (refine zM rfl ?_; (conv => whnf))
   | (refine zL rfl ?_ ?_ <;> (conv => whnf))
   | (refine zC rfl ?_ ?_ ?_ <;> (conv => whnf))
   | (refine zw rfl ?_ ?_ ?_ ?_ <;> (conv => whnf))
   | (refine .inl ⟨_, _, _, z9b ts (by omega) (fun x hx => by have := htl x hx; omega), rfl, ?_⟩; (conv => whnf))
   | (refine And.intro (by simp [zE, zQ]; omega) ?_; (conv => whnf))
   | (refine zO rfl ?_; (conv => whnf); simp only [z7]; rw [show dApp (eL cT ts) [[D.sl 5 (eL cN (shrT c tr))]] = eL cT (ts ++ [shrT c tr]) from zX cT ts _]; first | done | rfl)
 conv => whnf
 refine z0i 1 0 zZ 1 ?_
 conv => whnf
 refine zB hT [4, 7, 8, 14, 16, 17] (α := Nat) (fun k => { t := [(4, rpTb t), (7, .c (.d (.rp [.sl 1 (eL cI ps), .sl 1 (eL cT ts)]))), (8, .c (.ptr 0 0)), (14, .c (.d (.rp [.sl 5 (eL cN (shrT c tr))]))), (16, .c (.ptr 1 0)), (17, ai k)], h := [(0, .box zn [.nl 1, .nl 1]), (1, .box zn [.ref 2 0 none, .ref 3 0 none]), (2, .arr zZ 1 0 .own (eL cI ((addL (shrT c tr) t.rows ps).take k))), (3, .arr zT 1 0 .own (eL cT (ts ++ [shrT c tr])))], n := 4, N := 104 })
  (fun k => k ≤ ps.length) (fun k => ps.length - k) 0 (by (conv => whnf); simp only [List.take_zero, zp]; rfl) (Nat.zero_le _) ?_
 intro k hk
 conv => whnf
 refine zK (fun q => ?_) (fun q => ?_) <;> (conv => whnf) <;> simp only [eH] at q
 ·obtain ⟨p, hp⟩ := zI (show k < ps.length by omega)
  obtain ⟨r, hr⟩ := zI (show k < t.rows.length by omega)
  have hpk := hpb p (List.mem_of_getElem? hp)
  have hrc := hv.cols r (List.mem_of_getElem? hr)
  have hn4 := hv.n4
  have hek := hev r
  have hsl : (shrT c tr).length ≤ 1048576 := by simp [shrT]; omega
  refine zJ hT hmix [4, 7, 8, 14, 16, 17, 18, 19] { t := [(4, rpTb t), (7, .c (.d (.rp [.sl 1 (eL cI ps), .sl 1 (eL cT ts)]))), (8, .c (.ptr 0 0)), (14, .c (.d (.rp [.sl 5 (eL cN (shrT c tr))]))), (16, .c (.ptr 1 0)), (17, ai k), (18, ai (p + wa (shrT c tr) r)), (19, ab true)], h := [(0, .box zn [.nl 1, .nl 1]), (1, .box zn [.ref 2 0 none, .ref 3 0 none]), (2, .arr zZ 1 0 .own (eL cI ((addL (shrT c tr) t.rows ps).take k))), (3, .arr zT 1 0 .own (eL cT (ts ++ [shrT c tr])))], n := 4, N := 104 } rfl ?_ ?_
  ·repeat' first
    | (refine zM rfl ?_; (conv => whnf))
    | (refine zL rfl ?_ ?_ <;> (conv => whnf))
    | (refine zC rfl ?_ ?_ ?_ <;> (conv => whnf))
    | (refine zG (k := k) rfl hp ?_; (conv => whnf))
    | (refine zG (k := k) rfl hr ?_; (conv => whnf))
    | (refine .inl ⟨_, _, _, z5p (shrT c tr) r hsl (by omega), rfl, ?_⟩; (conv => whnf))
    | (refine .inl ⟨_, _, _, wT p (wa (shrT c tr) r) (by omega) (by omega), rfl, ?_⟩; (conv => whnf))
    | (refine zO rfl ?_; (conv => whnf); first | done | rfl)
  conv => whnf
  have hal := z4X (tr := shrT c tr) (hpl.trans hyl)
  refine And.intro (by simp [z7, zE, zQ]; omega) ?_
  conv => whnf
  refine ⟨k + 1, by omega, by omega, ?_⟩
  ((conv => whnf); simp only [eS, wI (show k < ps.length by omega) (by omega)])
  rw [zFt hp hr, ← zX, z7]
  first | done | rfl | exact ⟨rfl, rfl⟩
 ·obtain rfl : k = ps.length := by omega
  rw [← z4X (tr := shrT c tr) (hpl.trans hyl), List.take_length]
  simp only [z7]
  first | done | rfl
end Go.H.S
namespace Go.H.S
open Go Go.Proofs Go.H
theorem zFZ {t : List Nd} {row : List Int} {B : Int} (h0 : 0 ≤ B) (h : ∀ n ∈ t, -B ≤ n.v ∧ n.v ≤ B) : -B ≤ wa t row ∧ wa t row ≤ B := by
 unfold wa
 split
 ·omega
 ·split
  ·rename_i n hn
   exact h n (List.mem_of_getElem? hn)
  ·omega
theorem zMZ {v n d B : Int} (h0 : 0 ≤ B) (hd : 1 ≤ d) (hn : 1 ≤ n) (hnd : n ≤ d) (hv : -B ≤ v ∧ v ≤ B) : -B ≤ v * n / d ∧ v * n / d ≤ B := by
 have a : v * n ≤ B * d := Int.le_trans (Int.mul_le_mul_of_nonneg_right hv.2 (by omega)) (Int.mul_le_mul_of_nonneg_left hnd h0)
 have b : -B * d ≤ v * n := by
  have h1 : -B * n ≤ v * n := Int.mul_le_mul_of_nonneg_right hv.1 (by omega)
  have h2 : B * n ≤ B * d := Int.mul_le_mul_of_nonneg_left hnd h0
  rw [Int.neg_mul] at h1 ⊢
  omega
 exact ⟨(Int.le_ediv_iff_mul_le (by omega)).2 b, Int.ediv_le_of_le_mul (by omega) a⟩
theorem zH1 {c : Cfg} {t : List Nd} {B : Int} (h0 : 0 ≤ B) (hc : cfgP c) (h : ∀ n ∈ t, -B ≤ n.v ∧ n.v ≤ B) : ∀ n ∈ shrT c t, -B ≤ n.v ∧ n.v ≤ B := by
 intro n hn
 simp only [shrT, List.mem_map] at hn
 obtain ⟨m, hm, rfl⟩ := hn
 unfold shrN
 split
 ·exact zMZ h0 hc.2.2.1.1 hc.2.2.2.1.1 hc.2.2.2.1.2 (h m hm)
 ·exact h m hm
theorem z37 {g : Grd} {grads : List Int} {c : Cfg} (ht : yw g grads c) : ∀ n ∈ yF g grads c, zI5 n := fun n hn hf => by
 obtain ⟨j, hj⟩ := List.getElem?_of_mem hn
 exact z9f (yz ht).1 hj hf
theorem z6R {g : Grd} {grads : List Int} {c : Cfg} (ht : yw g grads c) : (yF g grads c).length ≤ 1000 := by
 have := (yz ht).2.2
 omega
theorem zMO {g : Grd} {grads : List Int} {c : Cfg} (ht : yw g grads c) : ∀ n ∈ yF g grads c, -1099511627776 ≤ n.v ∧ n.v ≤ 1099511627776 := fun n hn => by
 obtain ⟨j, hj⟩ := List.getElem?_of_mem hn
 by_cases hf : n.f = -1
 ·exact z9f (yz ht).1 hj hf
 ·have := (z00 (yz ht).1 hj hf).2.2.1
  omega
theorem z5u {g : Grd} {grads : List Int} {c : Cfg} (ht : yw g grads c) (row : List Int) : -1099511627776 ≤ wa (shrT c (yF g grads c)) row ∧ wa (shrT c (yF g grads c)) row ≤ 1099511627776 :=
 zFZ (by decide) (zH1 (by decide) ht.2.1 (zMO ht))
theorem zKo {ys ps : List Int} {A B : Int} (hy : ∀ y ∈ ys, -A ≤ y ∧ y ≤ A) (hp : ∀ p ∈ ps, -B ≤ p ∧ p ≤ B) : ∀ x ∈ resL ys ps, -(A + B) ≤ x ∧ x ≤ A + B := by
 intro x hx
 obtain ⟨k, hk⟩ := List.getElem?_of_mem hx
 rw [resL, List.getElem?_zipWith] at hk
 cases h1 : ys[k]? with
 | none => rw [h1] at hk; simp at hk
 | some p =>
  cases h2 : ps[k]? with
  | none => rw [h1, h2] at hk; simp at hk
  | some r =>
   rw [h1, h2] at hk
   simp at hk
   subst hk
   have := hy p (List.mem_of_getElem? h1)
   have := hp r (List.mem_of_getElem? h2)
   omega
theorem zA2 {n s lam M : Int} {b : Int × Int} (hM : 0 ≤ M) (hn : 0 ≤ n) (hl : 1 ≤ lam) (hs : -(n * M) ≤ s ∧ s ≤ n * M) (h1 : b.1 ≤ M) (h2 : -M ≤ b.2) : -M ≤ z2D n s lam b ∧ z2D n s lam b ≤ M := by
 have hm : n * M ≤ (n + lam) * M := Int.mul_le_mul_of_nonneg_right (by omega) hM
 have a : s / (n + lam) ≤ M := Int.ediv_le_of_le_mul (by omega) (by rw [Int.mul_comm M]; omega)
 have a2 : -M ≤ s / (n + lam) := (Int.le_ediv_iff_mul_le (by omega)).2 (by rw [Int.neg_mul, Int.mul_comm M]; omega)
 unfold z2D z0f
 split
 ·omega
 ·split <;> omega
theorem z9J {grads : List Int} {M : Int} (hM : 0 ≤ M) (h : ∀ x ∈ grads, -M ≤ x ∧ x ≤ M) : ∀ rs : List Int, -((rs.length : Int) * M) ≤ sumR grads rs ∧ sumR grads rs ≤ (rs.length : Int) * M
 | [] => by simp [sumR]
 | r :: rs => by
  have ih := z9J hM h rs
  have hg : -M ≤ gAt grads r ∧ gAt grads r ≤ M := by
   unfold gAt
   cases hx : grads[r.toNat]? with
   | none => simp; omega
   | some x => simp; exact h x (List.mem_of_getElem? hx)
  have e : ((r :: rs).length : Int) * M = (rs.length : Int) * M + M := by simp only [List.length_cons, Int.natCast_add, Int.natCast_one]; rw [Int.add_mul, Int.one_mul]
  rw [e]
  simp only [sumR]
  omega
theorem zKv {p q M : Int} {b : Int × Int} (hp : -M ≤ p ∧ p ≤ M) (hq : -M ≤ q ∧ q ≤ M) (h1 : b.1 ≤ M) (h2 : -M ≤ b.2) : -M ≤ midV p q b ∧ midV p q b ≤ M := by
 unfold midV z0f
 split
 ·omega
 ·split <;> omega
theorem zKk {g : Grd} {grads : List Int} {c : Cfg} {rows : List Int} {bd : Int × Int} {z : Cd} {M : Int} (hM : 0 ≤ M) (h : ∀ x ∈ grads, -M ≤ x ∧ x ≤ M) (hl : 1 ≤ c.lambda) (hz : z5N g grads c rows bd = some z) (h1 : bd.1 ≤ M) (h2 : -M ≤ bd.2) :
  (-M ≤ z1I c bd z ∧ z1I c bd z ≤ M) ∧ (-M ≤ z1H c bd z ∧ z1H c bd z ≤ M) := by
 obtain ⟨f, k, _, _, rfl⟩ := z61 hz
 exact ⟨zA2 hM (by exact Int.natCast_nonneg _) hl (z9J hM h _) h1 h2, zA2 hM (by exact Int.natCast_nonneg _) hl (z9J hM h _) h1 h2⟩
theorem zIj {sign : Int} {b : Int × Int} {p q M : Int} (hM : 0 ≤ M) (hp : -M ≤ p ∧ p ≤ M) (hq : -M ≤ q ∧ q ≤ M) (h1 : b.1 ≤ M) (h2 : -M ≤ b.2) :
  ((w5 sign b p q).1.1 ≤ M ∧ -M ≤ (w5 sign b p q).1.2) ∧ ((w5 sign b p q).2.1 ≤ M ∧ -M ≤ (w5 sign b p q).2.2) := by
 have hm := zKv hp hq h1 h2
 unfold w5
 split
 ·exact ⟨⟨h1, hm.1⟩, ⟨hm.2, h2⟩⟩
 ·split
  ·exact ⟨⟨hm.2, h2⟩, ⟨h1, hm.1⟩⟩
  ·exact ⟨⟨h1, h2⟩, ⟨h1, h2⟩⟩
theorem zJW {g : Grd} {grads : List Int} {c : Cfg} (ht : yw g grads c) {M : Int} (hM : 0 ≤ M) (hM2 : M ≤ 1099511627776) (h : ∀ x ∈ grads, -M ≤ x ∧ x ≤ M) : ∀ n ∈ yF g grads c, -M ≤ n.v ∧ n.v ≤ M := fun n hn => by
 have hlam := (cfgP.lam ht.2.1).1
 have hk : ∀ (j L : Nat) (x : Itm) (z : Cd), (x.bd.1 ≤ M ∧ -M ≤ x.bd.2) → itmP g c x → z0l g grads c x = some z → (yF g grads c)[j]? = some (yr g z L) → j < L → L + 1 < (yF g grads c).length → ((kidL g c x z).bd.1 ≤ M ∧ -M ≤ (kidL g c x z).bd.2) ∧ ((kidR g c x z).bd.1 ≤ M ∧ -M ≤ (kidR g c x z).bd.2) := fun j L x z hx _ hz _ _ _ => by
  have hz2 : z5N g grads c x.rows x.bd = some z := by
   unfold z0l at hz
   split at hz
   ·exact hz
   ·cases hz
  obtain ⟨a, b⟩ := zKk hM h hlam hz2 hx.1 hx.2
  exact zIj hM a b hx.1 hx.2
 obtain ⟨K, hK, he⟩ := z6T ht
 obtain ⟨hp, _⟩ := z02 ht K (by omega)
 have hlen : (yF g grads c).length = K := by rw [← z38 hp he]; exact hp.out
 have hq : quL g grads c = (zq g grads c K).1 := by
  unfold quL
  rw [show 31 = K + (31 - K) by omega, z1j (by omega)]
 obtain ⟨j, hj⟩ := List.getElem?_of_mem hn
 have hjl := (List.getElem?_eq_some_iff.1 hj).1
 obtain ⟨x, hx, _, hn2⟩ := (z2i ht).2 j hjl
 rw [hq] at hx
 have hb := z9P ht (fun _ (x : Itm) => x.bd.1 ≤ M ∧ -M ≤ x.bd.2) ⟨by show (-1099511627776 : Int) ≤ M; omega, by show -M ≤ (1099511627776 : Int); omega⟩ hk K (by omega) j x hx
 rcases hn2 with ⟨_, e⟩ | ⟨z, _, e, _⟩
 ·rw [hj] at e
  cases e
  exact zA2 hM (by exact Int.natCast_nonneg _) hlam (z9J hM h _) hb.1 hb.2
 ·rw [hj] at e
  cases e
  exact ⟨by show -M ≤ (0 : Int); omega, hM⟩
end Go.H.S
namespace Go.H.S
open Go Go.Proofs Go.H
def zm (t : Tbl) (c : Cfg) (g : Grd) : Nat → List Int × List (List Nd)
 | 0 => (z6Z t, [])
 | k + 1 => (addL (shrT c (yF g (resL t.ys (zm t c g k).1) c)) t.rows (zm t c g k).1, (zm t c g k).2 ++ [shrT c (yF g (resL t.ys (zm t c g k).1) c)])
theorem wJ (t : Tbl) (c : Cfg) (g : Grd) : ∀ k, (zm t c g k).2.length = k
 | 0 => rfl
 | k + 1 => by simp [zm, wJ t c g k]
theorem z0V {t : Tbl} {c : Cfg} {g : Grd} (hl : t.ys.length = t.rows.length) : ∀ k, (zm t c g k).1.length = t.ys.length
 | 0 => by simp [zm, z6Z]
 | k + 1 => by
  have ih := z0V (c := c) (g := g) hl k
  show (addL _ _ _).length = _
  rw [z4X (by omega)]
  exact ih
theorem zKn {tr : List Nd} {rows : List (List Int)} {ys ps : List Int} {M : Int} (h : ∀ x ∈ resL ys ps, -M ≤ x ∧ x ≤ M) (hv : ∀ r, -M ≤ wa tr r ∧ wa tr r ≤ M) : ∀ x ∈ resL ys (addL tr rows ps), -(2 * M) ≤ x ∧ x ≤ 2 * M := by
 intro x hx
 obtain ⟨k, hk⟩ := List.getElem?_of_mem hx
 rw [resL, List.getElem?_zipWith, addL, List.getElem?_zipWith] at hk
 cases h1 : ys[k]? with
 | none => rw [h1] at hk; simp at hk
 | some y =>
  cases h2 : ps[k]? with
  | none => rw [h1, h2] at hk; simp at hk
  | some p =>
   cases h3 : rows[k]? with
   | none => rw [h1, h2, h3] at hk; simp at hk
   | some r =>
    rw [h1, h2, h3] at hk
    simp at hk
    subst hk
    have hm : (resL ys ps)[k]? = some (y - p) := by rw [resL, List.getElem?_zipWith, h1, h2]
    have a := h _ (List.mem_of_getElem? hm)
    have b := hv r
    omega
theorem zLN {ys : List Int} {B : Int} (h0 : 0 ≤ B) (h1 : 1 ≤ ys.length) (h : ∀ y ∈ ys, -B ≤ y ∧ y ≤ B) : -B ≤ zC2 ys ∧ zC2 ys ≤ B := by
 have hs := zCu ys h
 unfold zC2
 exact ⟨(Int.le_ediv_iff_mul_le (by omega)).2 (by rw [Int.neg_mul]; exact hs.1), Int.ediv_le_of_le_mul (by omega) hs.2⟩
theorem zIw {t : Tbl} (hv : tabV t) : ∀ x ∈ resL t.ys (z6Z t), -4294967296 ≤ x ∧ x ≤ 4294967296 := by
 have hb := zLN (B := 2147483647) (by decide) (by have := hv.yl; have := hv.r1; omega) hv.yv
 have := zKo (A := 2147483647) (B := 2147483647) hv.yv (ps := z6Z t) (fun p hp => by
  unfold z6Z at hp
  rw [List.mem_replicate] at hp
  rw [hp.2]; exact hb)
 intro x hx
 have := this x hx
 omega
theorem zC9 {t : Tbl} {c : Cfg} {g : Grd} (hv : tabV t) (ht : ∀ k, k < 8 → (∀ x ∈ resL t.ys (zm t c g k).1, -1099511627776 ≤ x ∧ x ≤ 1099511627776) → yw g (resL t.ys (zm t c g k).1) c) :
  ∀ k, k ≤ 8 → ∀ x ∈ resL t.ys (zm t c g k).1, -(4294967296 * 2 ^ k) ≤ x ∧ x ≤ 4294967296 * 2 ^ k
 | 0, _ => by
  have := zIw hv
  intro x hx
  have := this x hx
  simpa using this
 | k + 1, hk => by
  have ih := zC9 hv ht k (by omega)
  have hM2 : (4294967296 : Int) * 2 ^ k ≤ 549755813888 := by
   have hk7 : k ≤ 7 := by omega
   match k, hk7 with
   | 0, _ | 1, _ | 2, _ | 3, _ | 4, _ | 5, _ | 6, _ | 7, _ => decide
  have hM : (0 : Int) ≤ 4294967296 * 2 ^ k := by
   have : (0 : Int) ≤ 2 ^ k := Int.pow_nonneg (by decide)
   omega
  have htk := ht k (by omega) (fun x hx => by have := ih x hx; omega)
  have hn := zKn ih (tr := shrT c (yF g (resL t.ys (zm t c g k).1) c)) (rows := t.rows) fun r => zFZ hM (zH1 hM htk.2.1 (zJW htk hM (by omega) ih))
  intro x hx
  have := hn x hx
  rw [Int.pow_succ]
  omega
end Go.H.S
namespace Go.H.S
open Go Go.Proofs Go.H
theorem zHV (xs : List Int) (i : Nat) (x : Int) (hx : xs[i]? = some x) : Go.Lib.compactUpTo xs.toArray (i + 1) = Go.Lib.compactUpTo xs.toArray i ++ (if Go.Lib.keeps xs.toArray i then [x] else []) := by
 rw [Go.Lib.compactUpTo_succ]
 have e1 : xs.toArray[i]! = x := by
  rw [getElem!_pos _ i (by simp; exact (List.getElem?_eq_some_iff.1 hx).1)]
  simpa using (List.getElem?_eq_some_iff.1 hx).2
 rw [e1]
theorem zGV (xs : List Int) : ∀ i, i ≤ xs.length → ∀ x ∈ Go.Lib.compactUpTo xs.toArray i, ∃ j, j < i ∧ xs[j]? = some x
 | 0, _, x, hx => by simp [Go.Lib.compactUpTo] at hx
 | i + 1, h, x, hx => by
  obtain ⟨y, hy⟩ := zI (show i < xs.length by omega)
  rw [zHV xs i y hy] at hx
  rcases List.mem_append.1 hx with hx | hx
  ·obtain ⟨j, h1, h2⟩ := zGV xs i (by omega) x hx
   exact ⟨j, by omega, h2⟩
  ·split at hx
   ·simp at hx; subst hx; exact ⟨i, by omega, hy⟩
   ·simp at hx
theorem zLm {xs : List Int} (hs : xs.Pairwise (· ≤ ·)) : ∀ i, i ≤ xs.length → (Go.Lib.compactUpTo xs.toArray i).Pairwise (· < ·)
 | 0, _ => by simp [Go.Lib.compactUpTo]
 | i + 1, h => by
  obtain ⟨y, hy⟩ := zI (show i < xs.length by omega)
  rw [zHV xs i y hy, List.pairwise_append]
  refine ⟨zLm hs i (by omega), by split <;> simp, fun a ha b hb => ?_⟩
  split at hb
  ·rename_i hk
   simp at hb
   subst hb
   obtain ⟨j, hj, hja⟩ := zGV xs i (by omega) a ha
   obtain ⟨z, hz⟩ := zI (show i - 1 < xs.length by omega)
   have e1 : xs.toArray[i]! = b := by
    rw [getElem!_pos _ i (by simp; omega)]
    simpa using (List.getElem?_eq_some_iff.1 hy).2
   have e2 : xs.toArray[i - 1]! = z := by
    rw [getElem!_pos _ (i - 1) (by simp; omega)]
    simpa using (List.getElem?_eq_some_iff.1 hz).2
   have hne : z ≠ b := by
    simp [Go.Lib.keeps] at hk
    rcases hk with hk | hk
    ·omega
    ·rw [← e1, ← e2]
     intro q
     apply hk
     simpa using q.symm
   have hle : ∀ (p q : Nat) (u v : Int), p ≤ q → xs[p]? = some u → xs[q]? = some v → u ≤ v := fun p q u v hpq hu hv => by
    rcases Nat.lt_or_ge p q with hlt | hge
    ·obtain ⟨hp1, hp2⟩ := List.getElem?_eq_some_iff.1 hu
     obtain ⟨hq1, hq2⟩ := List.getElem?_eq_some_iff.1 hv
     rw [← hp2, ← hq2]
     exact List.pairwise_iff_getElem.1 hs p q hp1 hq1 hlt
    ·have : p = q := by omega
     subst this
     rw [hu] at hv
     cases hv
     exact Int.le_refl _
   have h1 := hle j (i - 1) a z (by omega) hja hz
   have h2 := hle (i - 1) i z b (by omega) hz hy
   omega
  ·simp at hb
theorem zM3 {l : List Int} (h : l.Pairwise (· < ·)) {j : Nat} {a b : Int} (ha : l[j]? = some a) (hb : l[j + 1]? = some b) : a < b := by
 obtain ⟨h1, h2⟩ := List.getElem?_eq_some_iff.1 ha
 obtain ⟨h3, h4⟩ := List.getElem?_eq_some_iff.1 hb
 rw [← h2, ← h4]
 exact List.pairwise_iff_getElem.1 h j (j + 1) h1 h3 (by omega)
theorem zFe (xs : List Int) : (wR xs).Pairwise (· < ·) := zLm (z3j xs) _ (Nat.le_refl _)
theorem zEU {xs : List Int} {x : Int} (h : x ∈ wR xs) : x ∈ xs := by
 obtain ⟨j, _, hj⟩ := zGV (yd xs) _ (Nat.le_refl _) x h
 have := List.mem_of_getElem? hj
 simpa [yd] using this
theorem zJp (s : List Int) (n b : Nat) : cutK s n b 0 = none := by simp [cutK]
theorem zFh (s : List Int) (n b : Nat) (hb : 1 ≤ b) : (yH s n b b).length ≤ b - 1 := by
 obtain ⟨k, rfl⟩ : ∃ k, b = k + 1 := ⟨b - 1, by omega⟩
 unfold yH
 rw [List.range_succ_eq_map, List.filterMap_cons, zJp]
 have := List.length_filterMap_le (cutK s n (k + 1)) ((List.range k).map Nat.succ)
 simpa using this
theorem zGU {s : List Int} {n b k : Nat} {x : Int} (h : x ∈ yH s n b k) : x = 0 ∨ x ∈ s := by
 unfold yH at h
 obtain ⟨j, _, hj⟩ := List.mem_filterMap.1 h
 unfold cutK at hj
 split at hj
 ·simp only [Option.some.injEq] at hj
  cases hs : s[n * j / b - 1]? with
  | none => rw [hs] at hj; simp at hj; exact .inl hj.symm
  | some v => rw [hs] at hj; simp at hj; subst hj; exact .inr (List.mem_of_getElem? hs)
 ·cases hj
theorem zGX {t : Tbl} (hv : tabV t) (f : Nat) : ∀ x ∈ y0 t f, decP x := by
 intro x hx
 unfold y0 at hx
 obtain ⟨r, hr, e⟩ := List.mem_map.1 hx
 cases hf : r[f]? with
 | none => rw [hf] at e; simp at e; subst e; exact ⟨by decide, by decide⟩
 | some y => rw [hf] at e; simp at e; subst e; exact hv.rv r hr _ (List.mem_of_getElem? hf)
theorem zMb {t : Tbl} (hv : tabV t) {b : Nat} (hb : 2 ≤ b ∧ b ≤ 8) (f : Nat) : zFg (z1v t b f) := by
 refine ⟨fun j x y hx hy => zM3 (zFe _) hx hy, ?_, fun x hx => ?_⟩
 ·have h1 := z6l (yH (yd (y0 t f)) (y0 t f).length b b)
  have h2 := zFh (yd (y0 t f)) (y0 t f).length b (by omega)
  show (wR _).length ≤ 7
  omega
 ·have h1 := zEU hx
  rcases zGU h1 with h | h
  ·subst h; exact ⟨by decide, by decide⟩
  ·exact zGX hv f x (by simpa [yd] using h)
theorem zEZ {t : Tbl} {b f : Nat} (hf : f < t.names.length) : (zi t b).cuts[f]? = some (z1v t b f) := by simp [zi, z0J, hf]
theorem zEc {t : Tbl} {b f : Nat} (hf : f < t.names.length) : (zi t b).bins[f]? = some (z9F t b f) := by simp [zi, z0M, hf]
theorem z6o (t : Tbl) (b f : Nat) : (z9F t b f).length = t.rows.length := by simp [z9F, y0]
theorem z7Z {t : Tbl} (hv : tabV t) (b : Nat) : yR (zi t b) = t.rows.length := by
 have h := zEc (b := b) (f := 0) (t := t) (by have := hv.n1; omega)
 unfold yR
 cases hb : (zi t b).bins with
 | nil => rw [hb] at h; cases h
 | cons x r => rw [hb] at h; simp at h; subst h; exact z6o t b 0
theorem zL5 {t : Tbl} (hv : tabV t) {b : Nat} (hb : 2 ≤ b ∧ b ≤ 8) : zBI (zi t b) := by
 have hc : (zi t b).cuts.length = t.names.length := z2l t b _
 have hbl : (zi t b).bins.length = t.names.length := z4V t b _
 have hr := z7Z hv b
 refine ⟨by rw [hc]; exact ⟨hv.n1, hv.n4⟩, by omega, by rw [hr]; exact ⟨hv.r1, hv.r40⟩, fun k c bs h1 h2 => ?_⟩
 have hk : k < t.names.length := by have := (List.getElem?_eq_some_iff.1 h1).1; omega
 rw [zEZ hk] at h1
 rw [zEc hk] at h2
 cases h1
 cases h2
 refine ⟨zMb hv hb k, by rw [hr, z6o], fun x hx => ?_⟩
 unfold z9F at hx
 obtain ⟨v, _, e⟩ := List.mem_map.1 hx
 have := z6q (z1v t b k) v
 omega
theorem z9S {t : Tbl} (hv : tabV t) {b : Nat} (hb : b ≤ 8) : smG (zi t b) := by
 have hc : (zi t b).cuts.length = t.names.length := z2l t b _
 have hbl : (zi t b).bins.length = t.names.length := z4V t b _
 have := hv.n4
 have := hv.r40
 refine ⟨by omega, by omega, fun x hx => ?_, fun x hx => ?_⟩
 ·simp only [zi, z0J] at hx
  obtain ⟨f, _, rfl⟩ := List.mem_map.1 hx
  have := zAl t (f := f) hb
  omega
 ·simp only [zi, z0M] at hx
  obtain ⟨f, _, rfl⟩ := List.mem_map.1 hx
  rw [z6o]
  omega
theorem zC8 {t : Tbl} {c : Cfg} {b : Nat} (hv : tabV t) (hb : 2 ≤ b ∧ b ≤ 8) (hc : cfgP c) (k : Nat) (h : ∀ x ∈ resL t.ys (zm t c (zi t b) k).1, -1099511627776 ≤ x ∧ x ≤ 1099511627776) : yw (zi t b) (resL t.ys (zm t c (zi t b) k).1) c := by
 refine ⟨zL5 hv hb, hc, ?_, fun x hx => ?_⟩
 ·rw [z7Z hv b, wj (z0V hv.yl k).symm]
  exact hv.yl
 ·have := h x hx
  omega
theorem zGr {k : Nat} (hk : k ≤ 8) : (4294967296 : Int) * 2 ^ k ≤ 1099511627776 ∧ (0 : Int) ≤ 4294967296 * 2 ^ k := by
 match k, hk with
 | 0, _ | 1, _ | 2, _ | 3, _ | 4, _ | 5, _ | 6, _ | 7, _ | 8, _ => decide
theorem z5i {t : Tbl} {c : Cfg} {b : Nat} (hv : tabV t) (hb : 2 ≤ b ∧ b ≤ 8) (hc : cfgP c) (k : Nat) (hk : k ≤ 8) : ∀ x ∈ resL t.ys (zm t c (zi t b) k).1, -(4294967296 * 2 ^ k) ≤ x ∧ x ≤ 4294967296 * 2 ^ k :=
 zC9 hv (fun k _ h => zC8 hv hb hc k h) k hk
theorem z9I {t : Tbl} {c : Cfg} {b : Nat} (hv : tabV t) (hb : 2 ≤ b ∧ b ≤ 8) (hc : cfgP c) {k : Nat} (hk : k ≤ 8) : yw (zi t b) (resL t.ys (zm t c (zi t b) k).1) c := by
 refine zC8 hv hb hc k fun x hx => ?_
 have h1 := z5i hv hb hc k hk x hx
 have h2 := zGr hk
 omega
theorem z2q {t : Tbl} {c : Cfg} {b : Nat} (hv : tabV t) (hb : 2 ≤ b ∧ b ≤ 8) (hc : cfgP c) {k : Nat} (hk : k ≤ 8) : ∀ p ∈ (zm t c (zi t b) k).1, -2199023255552 ≤ p ∧ p ≤ 2199023255552 := by
 intro p hp
 obtain ⟨i, hi⟩ := List.getElem?_of_mem hp
 have hl := z0V (c := c) (g := zi t b) hv.yl k
 obtain ⟨y, hy⟩ := zI (show i < t.ys.length by have := (List.getElem?_eq_some_iff.1 hi).1; omega)
 have hm : (resL t.ys (zm t c (zi t b) k).1)[i]? = some (y - p) := by rw [resL, List.getElem?_zipWith, hy, hi]
 have h1 := z5i hv hb hc k hk _ (List.mem_of_getElem? hm)
 have h2 := zGr hk
 have h3 := hv.yv y (List.mem_of_getElem? hy)
 omega
theorem zEk (t : Tbl) (c : Cfg) (g : Grd) : ∀ k i, i < k → (zm t c g k).2[i]? = some (shrT c (yF g (resL t.ys (zm t c g i).1) c))
 | k + 1, i, h => by
  have hl := wJ t c g k
  show ((zm t c g k).2 ++ [_])[i]? = _
  rcases Nat.lt_or_ge i k with q | q
  ·rw [List.getElem?_append_left (by omega)]
   exact zEk t c g k i q
  ·obtain rfl : i = k := by omega
   rw [List.getElem?_append_right (by omega), hl, Nat.sub_self]
   rfl
end Go.H.S
namespace Go.H.S
open Go Go.Proofs Go.H
attribute [local irreducible] Tri z6 zR zV zY
end Go.H.S
namespace Go.H.S
open Go Go.Proofs Go.H
theorem zJV {g : Grd} {grads : List Int} {c : Cfg} (ht : yw g grads c) {n : Nd} (hn : n ∈ yF g grads c) {f : Nat} (hf : n.f = (f : Int)) : n.c ∈ wH g f := by
 obtain ⟨j, hj⟩ := List.getElem?_of_mem hn
 obtain ⟨x, hx, hip, h⟩ := (z2i ht).2 j (List.getElem?_eq_some_iff.1 hj).1
 rcases h with ⟨_, h⟩ | ⟨z, hz, h, _⟩
 ·rw [hj] at h
  cases h
  exfalso
  have : (z1c grads c x).f = -1 := rfl
  omega
 ·obtain ⟨f2, b, hp⟩ := zLZ ht hip hz
  rw [hj] at h
  cases h
  have h1 : z.f = (f : Int) := hf
  obtain rfl : f2 = f := by have := hp.zf; omega
  show zAm g z.f z.b ∈ _
  unfold zAm
  rw [hp.zf, hp.zb, Int.toNat_natCast, Int.toNat_natCast]
  obtain ⟨u, hu⟩ := zI hp.hb
  rw [hu]
  exact List.mem_of_getElem? hu
theorem zMc {t : Tbl} {b f : Nat} (hf : f < t.names.length) : wH (zi t b) f = z1v t b f := by
 unfold wH
 rw [zEZ hf]
 rfl
end Go.H.S
namespace Go.H.S
open Go Go.Proofs Go.H
attribute [local irreducible] Tri z6 zR zV zY zW
theorem z8n (t : Tbl) (f : Nat) (hf : f < t.names.length) (hn : t.names.length ≤ 1000) (hr : t.rows.length ≤ 1048576) (hc : ∀ r ∈ t.rows, r.length ≤ 1048576) : z6 PR zEL [aTb t, ai f] (.c (.ref 0 0 none)) [(0, .arr zZ 1 0 .own (eL cI (y0 t f)))] 1 := by
 have e1 : wSub .i64 (nInt (dLen (eL cS t.names))) 1 = (t.names.length : Int) - 1 := by rw [show nInt (dLen (eL cS t.names)) = (t.names.length : Int) by simp]; exact yB (by omega) (by omega)
 refine z6.intro hT (pf Tryz.func83) rfl (by kernel_rfl) Tryz.ntmps83 rfl ?_
 conv => whnf
 rw [e1]
 refine .inl ⟨_, _, _, zP _ _ _, rfl, ?_⟩
 rw [show decide ((0 : Int) ≤ (f : Int) ∧ (f : Int) ≤ (t.names.length : Int) - 1) = true from decide_eq_true (by omega)]
 conv => whnf
 refine zB hT [1, 5, 19, 20, 21] (α := Nat) (fun k => { t := [(1, ai f), (5, .c (.ref 0 0 none)), (19, aIss t.rows), (20, ai t.rows.length), (21, ai k)], h := [(0, .arr zZ 1 0 .own (eL cI ((t.rows.take k).map fun r => (r[f]?).getD 0)))], n := 1, N := 39 })
  (fun k => k ≤ t.rows.length) (fun k => t.rows.length - k) 0 (by (conv => whnf); simp only [List.take_zero, List.map_nil, zp]; first | done | rfl | (rw [show nInt (dLen (eL cIs t.rows)) = (t.rows.length : Int) by simp]; rfl)) (Nat.zero_le _) ?_
 intro k hk
 conv => whnf
 refine zK (fun h1 => ?_) (fun h1 => ?_) <;> (conv => whnf) <;> simp only [eH] at h1
 ·obtain ⟨r, hrk⟩ := zI (show k < t.rows.length by omega)
  have hrl := hc r (List.mem_of_getElem? hrk)
  have hstep := zAp (f := f) hrk
  refine zG (by simp) hrk ?_
  conv => whnf
  refine zK (fun h2 => ?_) (fun h2 => ?_) <;> (conv => whnf) <;> simp only [eH] at h2
  ·obtain ⟨v, hv⟩ := zI (show f < r.length by omega)
   refine zG (k := f) rfl hv ?_
   conv => whnf
   refine And.intro (by simp [zE, zQ]; omega) ?_
   conv => whnf
   refine ⟨k + 1, by omega, by omega, ?_⟩
   ((conv => whnf); simp only [eS, wI (show k < t.rows.length by omega) (by omega)])
   rw [hstep, hv, ← zX]
   first | exact ⟨rfl, rfl⟩ | rfl
  ·refine And.intro (by simp [zE, zQ]; omega) ?_
   conv => whnf
   refine ⟨k + 1, by omega, by omega, ?_⟩
   ((conv => whnf); simp only [eS, wI (show k < t.rows.length by omega) (by omega)])
   rw [hstep, List.getElem?_eq_none (by omega), ← zX]
   first | exact ⟨rfl, rfl⟩ | rfl
 ·obtain rfl : k = t.rows.length := by omega
  rw [List.take_length]
  first | done | rfl
theorem zF2 {s : List Int} (h : s.Pairwise (· ≤ ·)) {i j : Nat} {y z : Int} (hij : i ≤ j) (hy : s[i]? = some y) (hz : s[j]? = some z) : y ≤ z := by
 obtain ⟨h1, h2⟩ := List.getElem?_eq_some_iff.1 hy
 obtain ⟨h3, h4⟩ := List.getElem?_eq_some_iff.1 hz
 rcases Nat.lt_or_ge i j with q | q
 ·rw [← h2, ← h4]
  exact List.pairwise_iff_getElem.1 h i j h1 h3 q
 ·obtain rfl : i = j := by omega
  rw [hy] at hz
  cases hz
  exact Int.le_refl _
theorem z50 {s : List Int} (h : s.Pairwise (· ≤ ·)) (n b : Nat) (hb : 1 ≤ b) (hn : s.length = n) : ∀ k, k ≤ b → (yH s n b k).Pairwise (· ≤ ·) ∧ ∀ x ∈ yH s n b k, ∃ j, j ≤ n * (k - 1) / b - 1 ∧ s[j]? = some x
 | 0, _ => by simp [yH]
 | k + 1, hk => by
  obtain ⟨h1, h2⟩ := z50 h n b hb hn k (by omega)
  rw [z4A]
  have hmono : n * (k - 1) / b - 1 ≤ n * k / b - 1 := by
   have : n * (k - 1) / b ≤ n * k / b := Nat.div_le_div_right (Nat.mul_le_mul_left n (by omega))
   omega
  cases hc : cutK s n b k with
  | none =>
   simp only [Option.toList_none, List.append_nil, Nat.add_sub_cancel]
   refine ⟨h1, fun x hx => ?_⟩
   obtain ⟨j, hj, hx2⟩ := h2 x hx
   exact ⟨j, by omega, hx2⟩
  | some v =>
   have hv : s[n * k / b - 1]? = some v := by
    unfold cutK at hc
    split at hc
    ·rename_i q
     have hlt : n * k / b - 1 < s.length := by
      have : n * k / b ≤ n := by
       rw [Nat.div_le_iff_le_mul_add_pred (by omega)]
       have := Nat.mul_le_mul_left n (show k ≤ b by omega)
       rw [Nat.mul_comm b n]
       omega
      omega
     obtain ⟨y, hy⟩ := zI hlt
     rw [hy] at hc
     simp at hc
     rw [hy, hc]
    ·cases hc
   simp only [Option.toList_some, Nat.add_sub_cancel]
   refine ⟨List.pairwise_append.2 ⟨h1, by simp, fun a ha c hcv => ?_⟩, fun x hx => ?_⟩
   ·simp at hcv
    subst hcv
    obtain ⟨j, hj, hx2⟩ := h2 a ha
    exact zF2 h (show j ≤ n * k / b - 1 by omega) hx2 hv
   ·rcases List.mem_append.1 hx with hx | hx
    ·obtain ⟨j, hj, hx2⟩ := h2 x hx
     exact ⟨j, by omega, hx2⟩
    ·simp at hx
     subst hx
     exact ⟨_, Nat.le_refl _, hv⟩
theorem zKj {s : List Int} (h : s.Pairwise (· ≤ ·)) : yd s = s := (zCD h (List.Perm.refl _)).symm
set_option maxHeartbeats 4000000 in
theorem z8m (xs : List Int) (b : Nat) (hb : 2 ≤ b ∧ b ≤ 8) (hx : 1 ≤ xs.length ∧ xs.length ≤ 40) : z6 PR zEK [aIs xs, ai b] (.c (.ref 0 0 none)) [(0, .arr zZ 1 0 .own (eL cI (z5a xs b)))] 1 := by
 have eX : nInt (dLen (eL cI xs)) = (xs.length : Int) := by simp
 have hso := z3j xs
 refine z6.intro hT (pf Tryz.func82) rfl (by kernel_rfl) Tryz.ntmps82 rfl ?_
 conv => whnf
 refine .inl ⟨_, _, _, zP _ _ _, rfl, ?_⟩
 rw [show decide ((2 : Int) ≤ (b : Int) ∧ (b : Int) ≤ 8) = true from decide_eq_true (by omega)]
 conv => whnf
 rw [eX]
 refine .inl ⟨_, _, _, zP _ _ _, rfl, ?_⟩
 rw [show decide ((1 : Int) ≤ (xs.length : Int) ∧ (xs.length : Int) ≤ 40) = true from decide_eq_true (by omega)]
 conv => whnf
 refine .inl ⟨_, _, _, z6F xs (by omega), rfl, ?_⟩
 have hsl := z08 xs
 have hd : z5a xs b = wR (yH (yd xs) xs.length b b) := rfl
 rw [hd]
 clear hd
 generalize yd xs = s at *
 generalize hnn : xs.length = n at *
 conv => whnf
 have h0 : yH s n b 1 = [] := by simp [yH, cutK]
 have heD : wR (yH s n b b) = Go.Lib.compact (yH s n b b) := by
  show Go.Lib.compact (yd (yH s n b b)) = _
  rw [zKj (z50 hso n b (by omega) hsl b (Nat.le_refl _)).1]
 refine zB hT [0, 1, 5, 6, 7] (α := Nat) (fun k => { t := [(0, aIs xs), (1, ai b), (5, .c (.ref 0 0 none)), (6, aIs s), (7, ai k)], h := [(0, .arr zZ 1 0 .own (eL cI (yH s n b k)))], n := 1, N := 59 })
  (fun k => 1 ≤ k ∧ k ≤ b) (fun k => b - k) 1 (by ((conv => whnf); simp only [eS, h0, zp, z7]); first | done | rfl | exact ⟨rfl, rfl⟩) (by omega) ?_
 intro k ⟨hk1, hk⟩
 conv => whnf
 refine zK (fun q1 => ?_) (fun q1 => ?_) <;> (conv => whnf) <;> simp only [eH] at q1
 ·have hnk : n * k ≤ 320 := by
   have : n * k ≤ 40 * 8 := Nat.mul_le_mul hx.2 (by omega)
   omega
  have hnb : n * k / b < n := by
   rw [Nat.div_lt_iff_lt_mul (by omega)]
   exact Nat.mul_lt_mul_of_pos_left (by omega) (by omega)
  have hc : (n : Int) * (k : Int) = ((n * k : Nat) : Int) := (Int.natCast_mul n k).symm
  have e1 : wMul .i64 (n : Int) (k : Int) = ((n * k : Nat) : Int) := by rw [z1S (by rw [hc]; omega) (by rw [hc]; omega), hc]
  have e2 : wQuo .i64 ((n * k : Nat) : Int) (b : Int) = ((n * k / b : Nat) : Int) := by rw [z4E (by omega) (by omega)]; rfl
  have hstep := z4A s n b k
  have hcl := z1o s n b k
  have hck : cutK s n b k = if 1 ≤ n * k / b ∧ (s[n * k / b - 1]?).getD 0 < (s[n - 1]?).getD 0 then some ((s[n * k / b - 1]?).getD 0) else none := rfl
  rw [eX]
  refine And.intro (by unfold NZ; omega) ?_
  rw [e1]
  conv => whnf
  rw [e2]
  generalize n * k / b = i at *
  obtain ⟨z, hz⟩ := zI (show n - 1 < s.length by omega)
  have e4 : wSub .i64 (nInt (dLen (eL cI s))) 1 = ((n - 1 : Nat) : Int) := by rw [show nInt (dLen (eL cI s)) = (n : Int) by simp [hsl], yB] <;> omega
  refine yN hT hmix (by kernel_rfl) ?_
  conv => whnf
  cases q2 : iLe 1 (i : Int) <;> simp only [eH] at q2 <;> (conv => whnf)
  ·repeat' (first | (refine And.intro (fun q => ?_) (fun q => ?_) <;> cases q <;> (conv => whnf)) | fail)
   refine ⟨k + 1, by omega, by omega, ?_⟩
   rw [if_neg (by omega)] at hck
   rw [hck] at hstep
   simp only [Option.toList_none, List.append_nil] at hstep
   ((conv => whnf); simp only [eS, wI (show k < b by omega) (by omega)])
   rw [hstep]
  ·obtain ⟨y, hy⟩ := zI (show i - 1 < s.length by omega)
   have hyz := zF2 hso (show i - 1 ≤ n - 1 by omega) hy hz
   have e3 : wSub .i64 (i : Int) 1 = ((i - 1 : Nat) : Int) := by rw [yB] <;> omega
   rw [hy, hz] at hck
   simp only [Option.getD_some] at hck
   repeat' first
    | (refine And.intro (fun q => ?_) (fun q => ?_) <;> cases q <;> (conv => whnf))
    | (refine zG e3 hy ?_; (conv => whnf))
    | (refine zG e4 hz ?_; (conv => whnf))
   refine zK (fun q3 => ?_) (fun q3 => ?_) <;> (conv => whnf) <;> simp only [eH] at q3
   ·refine zG e3 hy ?_
    conv => whnf
    refine And.intro (by simp [zE, zQ]; omega) ?_
    conv => whnf
    rw [if_pos ⟨by omega, by omega⟩] at hck
    rw [hck] at hstep
    simp only [Option.toList_some] at hstep
    refine ⟨k + 1, by omega, by omega, ?_⟩
    ((conv => whnf); simp only [eS, wI (show k < b by omega) (by omega)])
    rw [hstep, ← zX]
    first | exact ⟨rfl, rfl⟩ | rfl
   ·rw [if_neg (by omega)] at hck
    rw [hck] at hstep
    simp only [Option.toList_none, List.append_nil] at hstep
    refine ⟨k + 1, by omega, by omega, ?_⟩
    ((conv => whnf); simp only [eS, wI (show k < b by omega) (by omega)])
    rw [hstep]
 ·obtain rfl : k = b := by omega
  have hcl := z1o s n k k
  rw [heD]
  refine .inr (.inr (.inl ⟨0, ?_⟩))
  conv => whnf
  refine .inr ⟨_, z5H (yH s n k k) (by omega), ?_⟩
  conv => whnf
  first | done | rfl
end Go.H.S
