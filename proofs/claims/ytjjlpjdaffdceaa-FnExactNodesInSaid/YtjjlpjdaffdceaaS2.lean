/- Seat 1, part 2: how data are laid, and the sizes. -/
import Derived.Test.YtjjlpjdaffdceaaS1
namespace Go.H.S1
open Go Go.Proofs Go.H

structure N5 where
  a : Int
  b : Int
  c : Int
  d : Int
  e : Int
  deriving DecidableEq
def cS (s : ByteArray) : List D := [.str s]
def cI (n : Int) : List D := [.int .i64 n]
def cN (n : N5) : List D := [.int .i64 n.a, .int .i64 n.b, .int .i64 n.c, .int .i64 n.d, .int .i64 n.e]
def cT (t : List N5) : List D := [.sl 5 (eL cN t)]

/-- What is left of a budget. -/
@[cbv_opaque] def bud (m : Int) (c : Nat) : Int := if (c : Int) ≤ m then m - c else -1
theorem bud_lt {m : Int} {c : Nat} (h : m < c) : bud m c = -1 := by simp only [bud]; rw [if_neg (by omega)]
theorem bud_step {m : Int} {c r : Nat} (h : (c : Int) ≤ m) : bud m (c + r) = bud (m - c) r := by
  simp only [bud]
  by_cases h' : ((c + r : Nat) : Int) ≤ m
  · rw [if_pos h', if_pos (by omega)]; omega
  · rw [if_neg h', if_neg (by omega)]
theorem bud_zero {m : Int} (h : 0 ≤ m) : bud m 0 = m := by simp [bud, h]
theorem bud_neg {m : Int} {c r : Nat} (h : bud m c < 0) (_ : 0 ≤ m) : bud m (c + r) = -1 := by
  simp only [bud] at *
  split at h
  · omega
  · rw [if_neg (by omega)]
theorem bud_pos {m : Int} {c : Nat} (h : 0 ≤ bud m c) : (c : Int) ≤ m ∧ bud m c = m - c := by
  simp only [bud] at *
  split at h
  · rename_i hc; exact ⟨hc, by rw [if_pos hc]⟩
  · omega

theorem bud_nn {m : Int} {c : Nat} (h : bud m c < 0) (_ : 0 ≤ m) : bud m c = -1 := by
  simp only [bud] at *
  split at h
  · omega
  · rename_i hc; rw [if_neg hc]
theorem bud_le {m : Int} {c : Nat} (h : m ≤ 1048576) : bud m c ≤ 1048576 := by
  simp only [bud]
  split <;> omega
theorem bud_bud {m : Int} {a b : Nat} (h : 0 ≤ bud m a) : bud (bud m a) b = bud m (a + b) := by
  obtain ⟨h1, h2⟩ := bud_pos h
  rw [h2, bud_step h1]

def costL {α : Type} (f : α → Nat) : List α → Nat
  | [] => 0
  | x :: r => f x + costL f r
attribute [cbv_opaque] costL
/-- A slice's size: its length and its elements' sizes. -/
@[cbv_opaque] def cost {α : Type} (f : α → Nat) (l : List α) : Nat := l.length + costL f l

set_option maxRecDepth 100000
theorem szStringS_spec (xs : List ByteArray) (n : Int) (h0 : 0 ≤ n) (hn : n ≤ 1048576) (hx : xs.length ≤ 9223372036854775807) (hs : ∀ s ∈ xs, s.size ≤ 9223372036854775807) :
    FnSpec Try.prog 21 [.c (.d (.sl 1 (eL cS xs))), .c (.d (.int .i64 n))] (.c (.d (.int .i64 (bud n (cost ByteArray.size xs))))) [] 0 := by
  refine FnSpec.intro hT Try.func21 rfl (by kernel_rfl) rfl ?_
  have e : wSub .i64 n (nInt (nLen xs)) = n - xs.length := wSub64 (by simp; omega) (by simp; omega)
  conv => cbv
  generalize wSub .i64 n (nInt (nLen xs)) = v at e ⊢
  refine ⟨fun hb => ?_, fun hb => ?_⟩ <;> simp only [iLt_t, iLt_f] at hb <;> conv => cbv
  · have : bud n (cost ByteArray.size xs) = -1 := by rw [cost]; exact bud_lt (by omega)
    rw [this]
  · refine tri_loop hT [0, 1, 5] (by conv => lhs; cbv) (α := Nat × Int) (fun x => { t := [(0, .c (.d (.sl 1 (eL cS xs)))), (1, .c (.d (.int .i64 x.2))), (5, .c (.d (.int .i64 (nInt x.1))))], h := [], n := 0, N := 28 })
      (fun x => x.1 ≤ xs.length ∧ 0 ≤ x.2 ∧ x.2 ≤ 1048576 ∧ bud x.2 (costL ByteArray.size (xs.drop x.1)) = bud n (cost ByteArray.size xs)) (fun x => xs.length - x.1) (0, v) (by rfl)
      ⟨by omega, by dsimp only; omega, by dsimp only; omega, by rw [cost, bud_step (by omega), ← e]; rfl⟩ ?_
    intro ⟨k, m⟩ ⟨hk, hm0, hm1, hm⟩
    dsimp only at hk hm hm0 hm1
    conv => cbv
    refine ⟨fun h1 => ?_, fun h1 => ?_⟩ <;> conv => cbv
    · simp at h1
      refine ⟨by simp; omega, fun c hc => ?_⟩
      obtain ⟨s, hs', rfl⟩ := at_eL hc
      conv => cbv
      simp at hs'
      have hss := hs s (List.mem_of_getElem? hs')
      have e2 : wSub .i64 m (sLen s) = m - s.size := wSub64 (by simp; omega) (by simp; omega)
      generalize wSub .i64 m (sLen s) = u at e2 ⊢
      rw [drop_at hs', costL] at hm
      refine ⟨fun h2 => ?_, fun h2 => ?_⟩ <;> simp only [iLt_t, iLt_f] at h2 <;> conv => cbv
      · rw [bud_lt (by omega)] at hm
        rw [← hm]
      · rw [bud_step (by omega), ← e2] at hm
        refine ⟨(k + 1, u), by dsimp only; omega, ⟨h1, h2, by dsimp only; omega, hm⟩, ?_⟩
        conv => lhs; cbv
        rw [wInc h1 hx]
    · simp at h1
      obtain rfl : k = xs.length := by omega
      simp only [List.drop_length, costL] at hm
      rw [bud_zero hm0] at hm
      rw [hm]

end Go.H.S1
