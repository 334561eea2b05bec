/- Seat 1, part 5: a thing equals itself. -/
import Derived.Test.YtjjlpjdaffdceaaS4
namespace Go.H.S1
open Go Go.Proofs Go.H

set_option maxRecDepth 100000

theorem eqStringS_spec (xs : List ByteArray) (hx : xs.length ≤ 9223372036854775807) : FnSpec Try.prog 27 [.c (.d (.sl 1 (eL cS xs))), .c (.d (.sl 1 (eL cS xs)))] (.c (.d (.bool true))) [] 0 := by
  refine FnSpec.intro hT Try.func27 rfl (by kernel_rfl) rfl ?_
  conv => cbv
  refine ⟨fun hb => ?_, fun hb => ?_⟩
  · simp at hb
  conv => cbv
  refine tri_loop hT [0, 1, 5] (by conv => lhs; cbv) (α := Nat) (fun x => { t := [(0, .c (.d (.sl 1 (eL cS xs)))), (1, .c (.d (.sl 1 (eL cS xs)))), (5, .c (.d (.int .i64 (nInt x))))], h := [], n := 0, N := 26 })
      (fun x => x ≤ xs.length) (fun x => xs.length - x) 0 (by rfl) (Nat.zero_le _) ?_
  intro k hk
  conv => cbv
  refine ⟨fun h1 => ?_, fun h1 => ?_⟩ <;> conv => cbv
  · simp at h1
    obtain ⟨s, hs⟩ : ∃ s, xs[k]? = some s := ⟨_, List.getElem?_eq_getElem h1⟩
    refine tri_conf hT hmix (by kernel_rfl) ?_
    conv => cbv
    refine ⟨by simp; omega, fun c hc => ?_⟩
    obtain ⟨s', hs', rfl⟩ := at_eL hc
    simp [hs] at hs'
    subst hs'
    conv => cbv
    refine ⟨by simp; omega, fun c hc => ?_⟩
    obtain ⟨s', hs', rfl⟩ := at_eL hc
    simp [hs] at hs'
    subst hs'
    conv => cbv
    refine ⟨fun h2 => ?_, fun h2 => ?_⟩
    · simp at h2
    conv => cbv
    refine ⟨k + 1, by omega, h1, ?_⟩
    conv => lhs; cbv
    rw [wInc h1 hx]
  · trivial

theorem eqIntS_spec (xs : List Int) (hx : xs.length ≤ 9223372036854775807) : FnSpec Try.prog 28 [.c (.d (.sl 1 (eL cI xs))), .c (.d (.sl 1 (eL cI xs)))] (.c (.d (.bool true))) [] 0 := by
  refine FnSpec.intro hT Try.func28 rfl (by kernel_rfl) rfl ?_
  conv => cbv
  refine ⟨fun hb => ?_, fun hb => ?_⟩
  · simp at hb
  conv => cbv
  refine tri_loop hT [0, 1, 5] (by conv => lhs; cbv) (α := Nat) (fun x => { t := [(0, .c (.d (.sl 1 (eL cI xs)))), (1, .c (.d (.sl 1 (eL cI xs)))), (5, .c (.d (.int .i64 (nInt x))))], h := [], n := 0, N := 26 })
      (fun x => x ≤ xs.length) (fun x => xs.length - x) 0 (by rfl) (Nat.zero_le _) ?_
  intro k hk
  conv => cbv
  refine ⟨fun h1 => ?_, fun h1 => ?_⟩ <;> conv => cbv
  · simp at h1
    obtain ⟨s, hs⟩ : ∃ s, xs[k]? = some s := ⟨_, List.getElem?_eq_getElem h1⟩
    refine tri_conf hT hmix (by kernel_rfl) ?_
    conv => cbv
    refine ⟨by simp; omega, fun c hc => ?_⟩
    obtain ⟨s', hs', rfl⟩ := at_eL hc
    simp [hs] at hs'
    subst hs'
    conv => cbv
    refine ⟨by simp; omega, fun c hc => ?_⟩
    obtain ⟨s', hs', rfl⟩ := at_eL hc
    simp [hs] at hs'
    subst hs'
    conv => cbv
    refine ⟨fun h2 => ?_, fun h2 => ?_⟩
    · simp at h2
    conv => cbv
    refine ⟨k + 1, by omega, h1, ?_⟩
    conv => lhs; cbv
    rw [wInc h1 hx]
  · trivial

theorem eqNode_spec (n : N5) : FnSpec Try.prog 50 [.agg [.d (.int .i64 n.a), .d (.int .i64 n.b), .d (.int .i64 n.c), .d (.int .i64 n.d), .d (.int .i64 n.e)], .agg [.d (.int .i64 n.a), .d (.int .i64 n.b), .d (.int .i64 n.c), .d (.int .i64 n.d), .d (.int .i64 n.e)]] (.c (.d (.bool true))) [] 0 := by
  refine FnSpec.intro hT Try.func50 rfl (by kernel_rfl) rfl ?_
  conv => cbv
  iterate 5
    refine ⟨fun hb => ?_, fun hb => ?_⟩
    · simp at hb
    conv => cbv
  trivial

theorem eqNodeS_spec (xs : List N5) (hx : xs.length ≤ 9223372036854775807) : FnSpec Try.prog 42 [.c (.d (.sl 5 (eL cN xs))), .c (.d (.sl 5 (eL cN xs)))] (.c (.d (.bool true))) [] 0 := by
  refine FnSpec.intro hT Try.func42 rfl (by kernel_rfl) rfl ?_
  conv => cbv
  refine ⟨fun hb => ?_, fun hb => ?_⟩
  · simp at hb
  conv => cbv
  refine tri_loop hT [0, 1, 5] (by conv => lhs; cbv) (α := Nat) (fun x => { t := [(0, .c (.d (.sl 5 (eL cN xs)))), (1, .c (.d (.sl 5 (eL cN xs)))), (5, .c (.d (.int .i64 (nInt x))))], h := [], n := 0, N := 27 })
      (fun x => x ≤ xs.length) (fun x => xs.length - x) 0 (by rfl) (Nat.zero_le _) ?_
  intro k hk
  conv => cbv
  refine ⟨fun h1 => ?_, fun h1 => ?_⟩ <;> conv => cbv
  · simp at h1
    obtain ⟨s, hs⟩ : ∃ s, xs[k]? = some s := ⟨_, List.getElem?_eq_getElem h1⟩
    refine tri_conf hT hmix (by kernel_rfl) ?_
    conv => cbv
    refine ⟨by simp; omega, fun c hc => ?_⟩
    obtain ⟨s', hs', rfl⟩ := at_eL hc
    simp [hs] at hs'
    subst hs'
    conv => cbv
    refine ⟨by simp; omega, fun c hc => ?_⟩
    obtain ⟨s', hs', rfl⟩ := at_eL hc
    simp [hs] at hs'
    subst hs'
    conv => cbv
    refine ⟨_, _, eqNode_spec s, rfl, ?_⟩
    conv => cbv
    refine ⟨fun h2 => ?_, fun h2 => ?_⟩
    · simp at h2
    conv => cbv
    refine ⟨k + 1, by omega, h1, ?_⟩
    conv => lhs; cbv
    rw [wInc h1 hx]
  · trivial

theorem eqTree_spec (t : List N5) (hx : t.length ≤ 9223372036854775807) : FnSpec Try.prog 18 [.agg [.d (.sl 5 (eL cN t))], .agg [.d (.sl 5 (eL cN t))]] (.c (.d (.bool true))) [] 0 := by
  refine FnSpec.intro hT Try.func18 rfl (by kernel_rfl) rfl ?_
  conv => cbv
  refine ⟨_, _, _, eqNodeS_spec t hx, rfl, ?_⟩
  conv => cbv
  refine ⟨fun hb => ?_, fun hb => ?_⟩
  · simp at hb
  conv => cbv
  trivial

theorem eqTreeS_spec (xs : List (List N5)) (hx : xs.length ≤ 9223372036854775807) (ht : ∀ t ∈ xs, t.length ≤ 9223372036854775807) : FnSpec Try.prog 29 [.c (.d (.sl 1 (eL cT xs))), .c (.d (.sl 1 (eL cT xs)))] (.c (.d (.bool true))) [] 0 := by
  refine FnSpec.intro hT Try.func29 rfl (by kernel_rfl) rfl ?_
  conv => cbv
  refine ⟨fun hb => ?_, fun hb => ?_⟩
  · simp at hb
  conv => cbv
  refine tri_loop hT [0, 1, 5] (by conv => lhs; cbv) (α := Nat) (fun x => { t := [(0, .c (.d (.sl 1 (eL cT xs)))), (1, .c (.d (.sl 1 (eL cT xs)))), (5, .c (.d (.int .i64 (nInt x))))], h := [], n := 0, N := 27 })
      (fun x => x ≤ xs.length) (fun x => xs.length - x) 0 (by rfl) (Nat.zero_le _) ?_
  intro k hk
  conv => cbv
  refine ⟨fun h1 => ?_, fun h1 => ?_⟩ <;> conv => cbv
  · simp at h1
    obtain ⟨s, hs⟩ : ∃ s, xs[k]? = some s := ⟨_, List.getElem?_eq_getElem h1⟩
    refine tri_conf hT hmix (by kernel_rfl) ?_
    conv => cbv
    refine ⟨by simp; omega, fun c hc => ?_⟩
    obtain ⟨s', hs', rfl⟩ := at_eL hc
    simp [hs] at hs'
    subst hs'
    conv => cbv
    refine ⟨by simp; omega, fun c hc => ?_⟩
    obtain ⟨s', hs', rfl⟩ := at_eL hc
    simp [hs] at hs'
    subst hs'
    conv => cbv
    refine ⟨_, _, eqTree_spec s (ht s (List.mem_of_getElem? hs)), rfl, ?_⟩
    conv => cbv
    refine ⟨fun h2 => ?_, fun h2 => ?_⟩
    · simp at h2
    conv => cbv
    refine ⟨k + 1, by omega, h1, ?_⟩
    conv => lhs; cbv
    rw [wInc h1 hx]
  · trivial

end Go.H.S1
