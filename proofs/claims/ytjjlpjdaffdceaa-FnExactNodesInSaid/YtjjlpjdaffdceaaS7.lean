/- Seat 1, part 7: the nodes of a model. -/
import Derived.Test.YtjjlpjdaffdceaaS6
namespace Go.H.S1
open Go Go.Proofs Go.H

set_option maxRecDepth 100000

theorem wPlus {a b : Nat} (h : a + b ≤ 9223372036854775807) : wAdd .i64 (nInt a) (nInt b) = nInt (a + b) := by
  rw [wAdd64] <;> simp only [nInt_eq] <;> omega

theorem specNodesIn_spec (m : M) (hm : m.ok) (hb : costL List.length m.trees ≤ 1048576) : FnSpec Try.prog 8 [.agg [.d (.sl 1 (eL cS m.names)), .d (.sl 1 (eL cI m.signs)), .d (.int .i64 m.base), .d (.sl 1 (eL cT m.trees))]] (.c (.d (.int .i64 (nInt (costL List.length m.trees))))) [] 0 := by
  have hmt := hm.trees
  clear hm
  obtain ⟨names, signs, base, trees⟩ := m
  dsimp only at *
  refine FnSpec.intro hT Try.func8 rfl (by kernel_rfl) rfl ?_
  conv => cbv
  refine tri_loop hT [1, 3, 4] (by conv => lhs; cbv) (α := Nat × Nat) (fun x => { t := [(1, .c (.ptr 0 0)), (3, .c (.d (.int .i64 (nInt x.2)))), (4, .c (.d (.int .i64 (nInt x.1))))], h := [(0, .box 31 [.d (.sl 1 (eL cS names)), .d (.sl 1 (eL cI signs)), .d (.int .i64 base), .d (.sl 1 (eL cT trees))])], n := 1, N := 22 })
      (fun x => x.1 ≤ trees.length ∧ x.2 + costL List.length (trees.drop x.1) = costL List.length trees) (fun x => trees.length - x.1) (0, 0) (by rfl) ⟨Nat.zero_le _, by simp⟩ ?_
  intro ⟨k, s⟩ ⟨hk, hs⟩
  dsimp only at hk hs
  conv => cbv
  refine ⟨fun h1 => ?_, fun h1 => ?_⟩ <;> conv => cbv
  · simp at h1
    refine ⟨by simp; omega, fun c hc => ?_⟩
    obtain ⟨t, ht, rfl⟩ := at_eL hc
    simp at ht
    rw [drop_at ht, costL] at hs
    conv => cbv
    refine ⟨(k + 1, s + t.length), by dsimp only; omega, ⟨h1, by dsimp only; omega⟩, ?_⟩
    conv => lhs; cbv
    rw [wInc h1 hmt, show nLen t = t.length from rfl, wPlus (by omega)]
  · simp at h1
    obtain rfl : k = trees.length := by omega
    simp only [List.drop_length, costL] at hs
    rw [show s = costL List.length trees by omega]

theorem implNodesIn_spec (m : M) (hm : m.ok) (hb : costL List.length m.trees ≤ 1048576) : FnSpec Try.prog 10 [.agg [.d (.sl 1 (eL cS m.names)), .d (.sl 1 (eL cI m.signs)), .d (.int .i64 m.base), .d (.sl 1 (eL cT m.trees))]] (.c (.d (.int .i64 (nInt (costL List.length m.trees))))) [] 0 := by
  have hmt := hm.trees
  clear hm
  obtain ⟨names, signs, base, trees⟩ := m
  dsimp only at *
  refine FnSpec.intro hT Try.func10 rfl (by kernel_rfl) rfl ?_
  conv => cbv
  refine tri_loop hT [3, 7, 8, 9] (by conv => lhs; cbv) (α := Nat × Nat) (fun x => { t := [(3, .c (.d (.int .i64 (nInt x.2)))), (7, .c (.d (.sl 1 (eL cT trees)))), (8, .c (.d (.int .i64 (nInt (nLen trees))))), (9, .c (.d (.int .i64 (nInt x.1))))], h := [], n := 0, N := 20 })
      (fun x => x.1 ≤ trees.length ∧ x.2 + costL List.length (trees.drop x.1) = costL List.length trees) (fun x => trees.length - x.1) (0, 0) (by rfl) ⟨Nat.zero_le _, by simp⟩ ?_
  intro ⟨k, s⟩ ⟨hk, hs⟩
  dsimp only at hk hs
  conv => cbv
  refine ⟨fun h1 => ?_, fun h1 => ?_⟩ <;> conv => cbv
  · simp at h1
    refine ⟨by simp; omega, fun c hc => ?_⟩
    obtain ⟨t, ht, rfl⟩ := at_eL hc
    simp at ht
    rw [drop_at ht, costL] at hs
    conv => cbv
    refine ⟨(k + 1, s + t.length), by dsimp only; omega, ⟨h1, by dsimp only; omega⟩, ?_⟩
    conv => lhs; cbv
    rw [wInc h1 hmt, show nLen t = t.length from rfl, wPlus (by omega)]
  · simp at h1
    obtain rfl : k = trees.length := by omega
    simp only [List.drop_length, costL] at hs
    rw [show s = costL List.length trees by omega]

end Go.H.S1
