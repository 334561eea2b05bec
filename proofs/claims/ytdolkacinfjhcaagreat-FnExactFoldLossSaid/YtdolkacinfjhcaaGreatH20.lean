/- Framework H, part 20: the table of types, checked by one Bool. -/
import Derived.Test.YtdolkacinfjhcaaGreatH18
set_option linter.unusedSimpArgs false
set_option linter.unusedVariables false
set_option linter.constructorNameAsVariable false
namespace Go.H
open Go.RowKit
def valIs : CV → Value → Bool
 | .d (.int k n), .int k' n' => kindEq k k' && decide (n = n')
 | .d (.bool b), .bool b' => decide (b = b')
 | .d (.str s), .string s' => decide (s.data.toList = s'.data.toList)
 | .nl _, .slice none 0 0 => true
 | _, _ => false
def valsAre : List CV → List Value → Bool
 | [], [] => true
 | x :: r, v :: s => valIs x v && valsAre r s
 | _, _ => false
def TK.check (P : Program) (t : TypeId) : TK → Bool
 | .int k => match P.underlying t with | some (.int k') => kindEq k k' | _ => false
 | .bool => match P.underlying t with | some .bool => true | _ => false
 | .str => match P.underlying t with | some .string => true | _ => false
 | .ptr => match P.underlying t with | some (.pointer _) => true | _ => false
 | .slice e => match P.underlying t with | some (.slice e') => decide (e = e') | _ => false
 | .arr n e => match P.underlying t with | some (.array n' e') => decide (n = n') && decide (e = e') | _ => false
 | .struct fs => match P.underlying t with
  | some (.struct fields) => decide (fields.toList.map (fun f => (f.offset, f.type)) = fs) && fields.toList.all (fun f => decide (f.name ≠ "_")) && !P.stoodInHeld t && !P.eqGuardType P.depth t
  | _ => false
 | .other => match P.underlying t with | some (.struct _) => false | some (.array _ _) => false | some _ => true | none => false
def TI.check (P : Program) (t : TypeId) (i : TI) : Bool :=
 i.k.check P t && (i.agg || Nat.beq i.size 1) && Nat.beq i.zero.length i.size &&
  match P.info? t with
  | some info => Nat.beq info.size i.size && Nat.beq info.bytes i.bytes && (match info.zero with | some z => valsAre i.zero z.cells.toList | none => false)
  | none => false
theorem valIs_sound {x : CV} {v : Value} (h : valIs x v = true) : cvVal x = some v := by
 unfold valIs at h
 split at h
 ·simp only [Bool.and_eq_true, decide_eq_true_eq, kindEq] at h
  obtain ⟨rfl, rfl⟩ := h
  rfl
 ·simp only [decide_eq_true_eq] at h; subst h; rfl
 ·rename_i s s'
  simp only [decide_eq_true_eq] at h
  have : s = s' := by
   cases s; cases s'
   simp only at h
   congr 1
   exact Array.toList_inj.1 h
  subst this; rfl
 ·rfl
 ·cases h
theorem valsAre_sound : ∀ {l : List CV} {vs : List Value}, valsAre l vs = true → vs.length = l.length ∧ ∀ (j : Nat) (x : CV), l[j]? = some x → ∃ u, cvVal x = some u ∧ vs[j]? = some u
 | [], [], _ => ⟨rfl, fun j x h => by simp at h⟩
 | x :: r, v :: s, h => by
  simp only [valsAre, Bool.and_eq_true] at h
  obtain ⟨h1, h2⟩ := valsAre_sound h.2
  refine ⟨by simp [h1], fun j y hj => ?_⟩
  cases j with
  | zero => simp at hj; subst hj; exact ⟨v, valIs_sound h.1, rfl⟩
  | succ j => exact h2 j y (by simpa using hj)
 | [], _ :: _, h => by simp [valsAre] at h
 | _ :: _, [], h => by simp [valsAre] at h
theorem TK.check_sound {P : Program} {t : TypeId} {k : TK} (h : k.check P t = true) : k.fits P t := by
 cases k with
 | int k =>
  simp only [TK.check] at h
  split at h
  ·rename_i k' hk; simp only [kindEq, decide_eq_true_eq] at h; subst h; exact hk
  ·cases h
 | bool =>
  simp only [TK.check] at h
  split at h
  ·rename_i hk; exact hk
  ·cases h
 | str =>
  simp only [TK.check] at h
  split at h
  ·rename_i hk; exact hk
  ·cases h
 | ptr =>
  simp only [TK.check] at h
  split at h
  ·rename_i e hk; exact ⟨e, hk⟩
  ·cases h
 | slice e =>
  simp only [TK.check] at h
  split at h
  ·rename_i e' hk; simp only [decide_eq_true_eq] at h; subst h; exact hk
  ·cases h
 | arr n e =>
  simp only [TK.check] at h
  split at h
  ·rename_i n' e' hk; simp only [Bool.and_eq_true, decide_eq_true_eq] at h; obtain ⟨rfl, rfl⟩ := h; exact hk
  ·cases h
 | struct fs =>
  simp only [TK.check] at h
  split at h
  ·rename_i fields hk
   simp only [Bool.and_eq_true, decide_eq_true_eq, List.all_eq_true, Bool.not_eq_true'] at h
   obtain ⟨⟨⟨h1, h2⟩, h3⟩, h4⟩ := h
   exact ⟨fields, hk, h1, h2, h3, h4⟩
  ·cases h
 | other =>
  simp only [TK.check] at h
  split at h
  ·cases h
  ·cases h
  ·rename_i d hd1 hd2 hk
   refine ⟨d, hk, ?_⟩
   split
   ·rename_i f; exact hd1 f rfl
   ·rename_i n e; exact hd2 n e rfl
   ·trivial
  ·cases h
theorem TI.check_sound {P : Program} {t : TypeId} {i : TI} (h : i.check P t = true) : i.fits P t := by
 simp only [TI.check, Bool.and_eq_true] at h
 obtain ⟨⟨⟨h1, h2⟩, h3⟩, h4⟩ := h
 split at h4
 ·rename_i info hi
  simp only [Bool.and_eq_true] at h4
  obtain ⟨⟨h5, h6⟩, h7⟩ := h4
  split at h7
  ·rename_i z hz
   obtain ⟨v1, v2⟩ := valsAre_sound h7
   have hs := Nat.eq_of_beq_eq_true h3
   refine ⟨TK.check_sound h1, fun hg => ?_, info, z, hi, Nat.eq_of_beq_eq_true h5, Nat.eq_of_beq_eq_true h6, hz, ?_, hs, fun j x hj => ?_⟩
   ·rw [hg] at h2
    simp only [Bool.false_or] at h2
    exact Nat.eq_of_beq_eq_true h2
   ·have : z.cells.toList.length = z.cells.size := by simp
    omega
   ·obtain ⟨u, q1, q2⟩ := v2 j x hj
    exact ⟨u, q1, by rw [← Array.getElem?_toList]; exact q2⟩
  ·cases h7
 ·cases h4
def tabOk (P : Program) : List (Nat × TI) → Bool
 | [] => true
 | (t, i) :: r => i.check P t && tabOk P r
theorem tabOk_sound {P : Program} {tab : List (Nat × TI)} (h : tabOk P tab = true) : TOk P (fun t => look tab t) := by
 induction tab with
 | nil => intro t i hl; simp [look] at hl
 | cons p r ih =>
  obtain ⟨k, x⟩ := p
  simp only [tabOk, Bool.and_eq_true] at h
  intro t i hl
  simp only [look] at hl
  split at hl
  ·rename_i hb
   obtain rfl := Nat.eq_of_beq_eq_true hb
   cases hl
   exact TI.check_sound h.1
  ·exact ih h.2 t i hl
end Go.H
