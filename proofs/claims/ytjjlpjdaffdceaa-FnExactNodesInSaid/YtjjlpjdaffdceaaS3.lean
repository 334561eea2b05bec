/- Seat 1, part 3: copies. -/
import Derived.Test.YtjjlpjdaffdceaaS2
namespace Go.H.S1
open Go Go.Proofs Go.H

set_option maxRecDepth 100000

theorem toNode_spec (n : N5) : FnSpec Try.prog 45 [.agg [.d (.int .i64 n.a), .d (.int .i64 n.b), .d (.int .i64 n.c), .d (.int .i64 n.d), .d (.int .i64 n.e)]] (.agg [.d (.int .i64 n.a), .d (.int .i64 n.b), .d (.int .i64 n.c), .d (.int .i64 n.d), .d (.int .i64 n.e)]) [] 0 := by
  refine FnSpec.intro hT Try.func45 rfl (by kernel_rfl) rfl ?_
  cbv

theorem toStringS_spec (xs : List ByteArray) (hx : xs.length ≤ 4000000000) : FnSpec Try.prog 24 [.c (.d (.sl 1 (eL cS xs)))] (.c (.ref 0 0 none)) [(0, .arr 9 1 0 true (eL cS xs))] 1 := by
  refine FnSpec.intro hT Try.func24 rfl (by kernel_rfl) rfl ?_
  cbv
  refine ⟨by simp; omega, ?_⟩
  cbv
  refine tri_loop hT [0, 3, 4] (by conv => lhs; cbv) (α := Nat × List (List D)) (fun x => { t := [(0, .c (.d (.sl 1 (eL cS xs)))), (3, .c (.ref 0 0 none)), (4, .c (.d (.int .i64 (nInt x.1))))], h := [(0, .arr 9 1 0 true x.2)], n := 1, N := 22 })
      (fun x => x.1 ≤ xs.length ∧ Fill cS 1 xs x.1 x.2) (fun x => xs.length - x.1) (0, _) (by rfl) ⟨by omega, Fill.start cS xs rfl⟩ ?_
  intro ⟨k, es⟩ ⟨hk, hf⟩
  dsimp only at hk hf
  cbv
  refine ⟨fun h1 => ?_, fun h1 => ?_⟩ <;> cbv
  · simp at h1
    refine ⟨by simp; omega, fun c hc => ?_⟩
    obtain ⟨s, hs, rfl⟩ := at_eL hc
    cbv
    simp at hs
    have hl := hf.len
    refine ⟨by simp; rw [dLen, hl]; omega, ?_⟩
    cbv
    intro c' hc'
    have hr := hf.room hc'
    refine ⟨by simp; omega, ?_⟩
    rw [dOver_all (by rw [hr]; rfl)]
    cbv
    refine ⟨(k + 1, dSet es k (cS s)), by dsimp only; omega, ⟨h1, hf.step hs rfl⟩, ?_⟩
    conv => lhs; cbv
    rw [wInc h1 (by omega)]
    rfl
  · simp at h1
    obtain rfl : k = xs.length := by omega
    rw [hf.done]

theorem toIntS_spec (xs : List Int) (hx : xs.length ≤ 4000000000) : FnSpec Try.prog 25 [.c (.d (.sl 1 (eL cI xs)))] (.c (.ref 0 0 none)) [(0, .arr 3 1 0 true (eL cI xs))] 1 := by
  refine FnSpec.intro hT Try.func25 rfl (by kernel_rfl) rfl ?_
  cbv
  refine ⟨by simp; omega, ?_⟩
  cbv
  refine tri_loop hT [0, 3, 4] (by conv => lhs; cbv) (α := Nat × List (List D)) (fun x => { t := [(0, .c (.d (.sl 1 (eL cI xs)))), (3, .c (.ref 0 0 none)), (4, .c (.d (.int .i64 (nInt x.1))))], h := [(0, .arr 3 1 0 true x.2)], n := 1, N := 22 })
      (fun x => x.1 ≤ xs.length ∧ Fill cI 1 xs x.1 x.2) (fun x => xs.length - x.1) (0, _) (by rfl) ⟨by omega, Fill.start cI xs rfl⟩ ?_
  intro ⟨k, es⟩ ⟨hk, hf⟩
  dsimp only at hk hf
  cbv
  refine ⟨fun h1 => ?_, fun h1 => ?_⟩ <;> cbv
  · simp at h1
    refine ⟨by simp; omega, fun c hc => ?_⟩
    obtain ⟨s, hs, rfl⟩ := at_eL hc
    cbv
    simp at hs
    have hl := hf.len
    refine ⟨by simp; rw [dLen, hl]; omega, ?_⟩
    cbv
    intro c' hc'
    have hr := hf.room hc'
    refine ⟨by simp; omega, ?_⟩
    rw [dOver_all (by rw [hr]; rfl)]
    cbv
    refine ⟨(k + 1, dSet es k (cI s)), by dsimp only; omega, ⟨h1, hf.step hs rfl⟩, ?_⟩
    conv => lhs; cbv
    rw [wInc h1 (by omega)]
    rfl
  · simp at h1
    obtain rfl : k = xs.length := by omega
    rw [hf.done]

theorem toNodeS_spec (xs : List N5) (hx : xs.length ≤ 4000000000) : FnSpec Try.prog 38 [.c (.d (.sl 5 (eL cN xs)))] (.c (.ref 0 0 none)) [(0, .arr 61 5 0 true (eL cN xs))] 1 := by
  refine FnSpec.intro hT Try.func38 rfl (by kernel_rfl) rfl ?_
  cbv
  refine ⟨by simp; omega, ?_⟩
  cbv
  refine tri_loop hT [0, 3, 4] (by conv => lhs; cbv) (α := Nat × List (List D)) (fun x => { t := [(0, .c (.d (.sl 5 (eL cN xs)))), (3, .c (.ref 0 0 none)), (4, .c (.d (.int .i64 (nInt x.1))))], h := [(0, .arr 61 5 0 true x.2)], n := 1, N := 23 })
      (fun x => x.1 ≤ xs.length ∧ Fill cN 5 xs x.1 x.2) (fun x => xs.length - x.1) (0, _) (by rfl) ⟨by omega, Fill.start cN xs rfl⟩ ?_
  intro ⟨k, es⟩ ⟨hk, hf⟩
  dsimp only at hk hf
  cbv
  refine ⟨fun h1 => ?_, fun h1 => ?_⟩ <;> cbv
  · simp at h1
    refine ⟨by simp; omega, fun c hc => ?_⟩
    obtain ⟨s, hs, rfl⟩ := at_eL hc
    cbv
    simp at hs
    have hl := hf.len
    refine ⟨_, _, _, toNode_spec s, rfl, ?_⟩
    cbv
    refine ⟨by simp; rw [dLen, hl]; omega, ?_⟩
    cbv
    intro c' hc'
    have hr := hf.room hc'
    refine ⟨by simp; omega, ?_⟩
    rw [dOver_all (by rw [hr]; rfl)]
    cbv
    refine ⟨(k + 1, dSet es k (cN s)), by dsimp only; omega, ⟨h1, hf.step hs rfl⟩, ?_⟩
    conv => lhs; cbv
    rw [wInc h1 (by omega)]
    rfl
  · simp at h1
    obtain rfl : k = xs.length := by omega
    rw [hf.done]

theorem toTree_spec (t : List N5) (hx : t.length ≤ 4000000000) : FnSpec Try.prog 16 [.agg [.d (.sl 5 (eL cN t))]] (.agg [.ref 0 0 none]) [(0, .arr 61 5 0 true (eL cN t))] 1 := by
  refine FnSpec.intro hT Try.func16 rfl (by kernel_rfl) rfl ?_
  cbv
  refine ⟨_, _, _, toNodeS_spec t hx, rfl, ?_⟩
  cbv

theorem toTreeS_spec (xs : List (List N5)) (hx : xs.length ≤ 4000000000) (ht : ∀ t ∈ xs, t.length ≤ 4000000000) : FnSpec Try.prog 26 [.c (.d (.sl 1 (eL cT xs)))] (.c (.ref 0 0 none)) [(0, .arr 45 1 0 true (eL cT xs))] 1 := by
  refine FnSpec.intro hT Try.func26 rfl (by kernel_rfl) rfl ?_
  cbv
  refine ⟨by simp; omega, ?_⟩
  cbv
  refine tri_loop hT [0, 3, 4] (by conv => lhs; cbv) (α := Nat × List (List D)) (fun x => { t := [(0, .c (.d (.sl 1 (eL cT xs)))), (3, .c (.ref 0 0 none)), (4, .c (.d (.int .i64 (nInt x.1))))], h := [(0, .arr 45 1 0 true x.2)], n := 1, N := 23 })
      (fun x => x.1 ≤ xs.length ∧ Fill cT 1 xs x.1 x.2) (fun x => xs.length - x.1) (0, _) (by rfl) ⟨by omega, Fill.start cT xs rfl⟩ ?_
  intro ⟨k, es⟩ ⟨hk, hf⟩
  dsimp only at hk hf
  cbv
  refine ⟨fun h1 => ?_, fun h1 => ?_⟩ <;> cbv
  · simp at h1
    refine ⟨by simp; omega, fun c hc => ?_⟩
    obtain ⟨s, hs, rfl⟩ := at_eL hc
    cbv
    simp at hs
    have hl := hf.len
    refine ⟨_, _, _, toTree_spec s (ht s (List.mem_of_getElem? hs)), rfl, ?_⟩
    cbv
    refine ⟨by simp; rw [dLen, hl]; omega, ?_⟩
    cbv
    intro c' hc'
    have hr := hf.room hc'
    refine ⟨by simp; omega, ?_⟩
    rw [dOver_all (by rw [hr]; rfl)]
    cbv
    refine ⟨(k + 1, dSet es k (cT s)), by dsimp only; omega, ⟨h1, hf.step hs rfl⟩, ?_⟩
    conv => lhs; cbv
    rw [wInc h1 (by omega)]
    rfl
  · simp at h1
    obtain rfl : k = xs.length := by omega
    rw [hf.done]

end Go.H.S1
