/- Seat 1, part 4: the sizes of nested data. -/
import Derived.Test.YtjjlpjdaffdceaaS2
namespace Go.H.S1
open Go Go.Proofs Go.H

set_option maxRecDepth 100000
theorem szIntS_spec (xs : List Int) (n : Int) (h0 : 0 ≤ n) (hn : n ≤ 1048576) (hx : xs.length ≤ 9223372036854775807) :
    FnSpec Try.prog 22 [.c (.d (.sl 1 (eL cI xs))), .c (.d (.int .i64 n))] (.c (.d (.int .i64 (bud n xs.length)))) [] 0 := by
  refine FnSpec.intro hT Try.func22 rfl (by kernel_rfl) rfl ?_
  have e : wSub .i64 n (nInt (nLen xs)) = n - xs.length := wSub64 (by simp; omega) (by simp; omega)
  generalize hb : bud n xs.length = b
  conv => cbv
  generalize wSub .i64 n (nInt (nLen xs)) = v at e ⊢
  refine ⟨fun h => ?_, fun h => ?_⟩ <;> simp only [iLt_t, iLt_f] at h <;> conv => cbv
  · rw [bud_lt (by omega)] at hb
    rw [← hb]
  · rw [show xs.length = xs.length + 0 from rfl, bud_step (by omega), bud_zero (by omega), ← e] at hb
    rw [← hb]

theorem szNodeS_spec (xs : List N5) (n : Int) (h0 : 0 ≤ n) (hn : n ≤ 1048576) (hx : xs.length ≤ 9223372036854775807) :
    FnSpec Try.prog 32 [.c (.d (.sl 5 (eL cN xs))), .c (.d (.int .i64 n))] (.c (.d (.int .i64 (bud n xs.length)))) [] 0 := by
  refine FnSpec.intro hT Try.func32 rfl (by kernel_rfl) rfl ?_
  have e : wSub .i64 n (nInt (nLen xs)) = n - xs.length := wSub64 (by simp; omega) (by simp; omega)
  generalize hb : bud n xs.length = b
  conv => cbv
  generalize wSub .i64 n (nInt (nLen xs)) = v at e ⊢
  refine ⟨fun h => ?_, fun h => ?_⟩ <;> simp only [iLt_t, iLt_f] at h <;> conv => cbv
  · rw [bud_lt (by omega)] at hb
    rw [← hb]
  · rw [show xs.length = xs.length + 0 from rfl, bud_step (by omega), bud_zero (by omega), ← e] at hb
    rw [← hb]

theorem szTree_spec (t : List N5) (n : Int) (h0 : 0 ≤ n) (hn : n ≤ 1048576) (hx : t.length ≤ 9223372036854775807) :
    FnSpec Try.prog 14 [.agg [.d (.sl 5 (eL cN t))], .c (.d (.int .i64 n))] (.c (.d (.int .i64 (bud n t.length)))) [] 0 := by
  refine FnSpec.intro hT Try.func14 rfl (by kernel_rfl) rfl ?_
  have hs := szNodeS_spec t n h0 hn hx
  generalize hb : bud n t.length = b at hs ⊢
  conv => cbv
  refine ⟨_, _, _, hs, rfl, ?_⟩
  conv => cbv
  refine ⟨fun h => ?_, fun h => ?_⟩ <;> simp only [iLt_t, iLt_f] at h <;> conv => cbv
  · rw [← hb] at h ⊢
    rw [bud_nn h h0]
  · trivial

theorem szTreeS_spec (xs : List (List N5)) (n : Int) (h0 : 0 ≤ n) (hn : n ≤ 1048576) (hx : xs.length ≤ 9223372036854775807) (hs : ∀ s ∈ xs, s.length ≤ 9223372036854775807) :
    FnSpec Try.prog 23 [.c (.d (.sl 1 (eL cT xs))), .c (.d (.int .i64 n))] (.c (.d (.int .i64 (bud n (cost List.length xs))))) [] 0 := by
  refine FnSpec.intro hT Try.func23 rfl (by kernel_rfl) rfl ?_
  have e : wSub .i64 n (nInt (nLen xs)) = n - xs.length := wSub64 (by simp; omega) (by simp; omega)
  conv => cbv
  generalize wSub .i64 n (nInt (nLen xs)) = v at e ⊢
  refine ⟨fun hb => ?_, fun hb => ?_⟩ <;> simp only [iLt_t, iLt_f] at hb <;> conv => cbv
  · have : bud n (cost List.length xs) = -1 := by rw [cost]; exact bud_lt (by omega)
    rw [this]
  · refine tri_loop hT [0, 1, 5] (by conv => lhs; cbv) (α := Nat × Int) (fun x => { t := [(0, .c (.d (.sl 1 (eL cT xs)))), (1, .c (.d (.int .i64 x.2))), (5, .c (.d (.int .i64 (nInt x.1))))], h := [], n := 0, N := 27 })
      (fun x => x.1 ≤ xs.length ∧ 0 ≤ x.2 ∧ x.2 ≤ 1048576 ∧ bud x.2 (costL List.length (xs.drop x.1)) = bud n (cost List.length xs)) (fun x => xs.length - x.1) (0, v) (by rfl)
      ⟨by omega, by dsimp only; omega, by dsimp only; omega, by rw [cost, bud_step (by omega), ← e]; rfl⟩ ?_
    intro ⟨k, m⟩ ⟨hk, hm0, hm1, hm⟩
    dsimp only at hk hm hm0 hm1
    conv => cbv
    refine ⟨fun h1 => ?_, fun h1 => ?_⟩ <;> conv => cbv
    · simp at h1
      refine ⟨by simp; omega, fun c hc => ?_⟩
      obtain ⟨s, hs', rfl⟩ := at_eL hc
      simp at hs'
      have hss := hs s (List.mem_of_getElem? hs')
      rw [drop_at hs', costL] at hm
      have hsp := szTree_spec s m hm0 hm1 hss
      generalize hu : bud m s.length = u at hsp
      conv => cbv
      refine ⟨_, _, _, hsp, rfl, ?_⟩
      conv => cbv
      refine ⟨fun h2 => ?_, fun h2 => ?_⟩ <;> simp only [iLt_t, iLt_f] at h2 <;> conv => cbv
      · rw [← hu] at h2
        rw [bud_neg h2 hm0] at hm
        rw [← hm]
      · rw [← bud_bud (by omega), hu] at hm
        refine ⟨(k + 1, u), by dsimp only; omega, ⟨h1, h2, by rw [← hu]; exact bud_le hm1, hm⟩, ?_⟩
        conv => lhs; cbv
        rw [wInc h1 hx]
    · simp at h1
      obtain rfl : k = xs.length := by omega
      simp only [List.drop_length, costL] at hm
      rw [bud_zero hm0] at hm
      rw [hm]

structure M where
  names : List ByteArray
  signs : List Int
  base : Int
  trees : List (List N5)
def aM (m : M) : AV := .agg [.d (.sl 1 (eL cS m.names)), .d (.sl 1 (eL cI m.signs)), .d (.int .i64 m.base), .d (.sl 1 (eL cT m.trees))]
/-- No slice and no string is greater than memory. -/
structure M.ok (m : M) : Prop where
  names : m.names.length ≤ 9223372036854775807
  sizes : ∀ s ∈ m.names, s.size ≤ 9223372036854775807
  signs : m.signs.length ≤ 9223372036854775807
  trees : m.trees.length ≤ 9223372036854775807
  nodes : ∀ s ∈ m.trees, s.length ≤ 9223372036854775807
@[cbv_opaque] def M.cost (m : M) : Nat := S1.cost ByteArray.size m.names + m.signs.length + S1.cost List.length m.trees

theorem szModel_spec (m : M) (n : Int) (h0 : 0 ≤ n) (hn : n ≤ 1048576) (hm : m.ok) :
    FnSpec Try.prog 7 [.agg [.d (.sl 1 (eL cS m.names)), .d (.sl 1 (eL cI m.signs)), .d (.int .i64 m.base), .d (.sl 1 (eL cT m.trees))], .c (.d (.int .i64 n))] (.c (.d (.int .i64 (bud n m.cost)))) [] 0 := by
  refine FnSpec.intro hT Try.func7 rfl (by kernel_rfl) rfl ?_
  have hs := szStringS_spec m.names n h0 hn hm.names hm.sizes
  generalize hu : bud n (cost ByteArray.size m.names) = u at hs
  conv => cbv
  refine ⟨_, _, _, hs, rfl, ?_⟩
  conv => cbv
  refine ⟨fun h => ?_, fun h => ?_⟩ <;> simp only [iLt_t, iLt_f] at h <;> conv => cbv
  · rw [M.cost, Nat.add_assoc, bud_neg (by rw [hu]; exact h) h0]
  have hs := szIntS_spec m.signs u h (by rw [← hu]; exact bud_le hn) hm.signs
  generalize hv : bud u m.signs.length = v at hs
  refine ⟨_, _, _, hs, rfl, ?_⟩
  have hv' := hv
  rw [← hu, bud_bud (by rw [hu]; exact h)] at hv'
  conv => cbv
  refine ⟨fun h2 => ?_, fun h2 => ?_⟩ <;> simp only [iLt_t, iLt_f] at h2 <;> conv => cbv
  · rw [M.cost, bud_neg (by rw [hv']; exact h2) h0]
  have hs := szTreeS_spec m.trees v h2 (by rw [← hv']; exact bud_le hn) hm.trees hm.nodes
  have hw : bud v (cost List.length m.trees) = bud n m.cost := by
    rw [M.cost, ← bud_bud (by rw [hv']; exact h2), hv']
  rw [hw] at hs
  generalize bud n m.cost = w at hs hw ⊢
  refine ⟨_, _, _, hs, rfl, ?_⟩
  conv => cbv
  refine ⟨fun h3 => ?_, fun h3 => ?_⟩ <;> simp only [iLt_t, iLt_f] at h3 <;> conv => cbv
  · rw [← hw] at h3 ⊢
    rw [bud_nn h3 h2]
  · trivial

end Go.H.S1
