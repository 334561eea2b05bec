/- Seat 1, part 8: the law NodesIn. -/
import Derived.Test.YtjjlpjdaffdceaaS7
namespace Go.H.S1
open Go Go.Proofs Go.H

set_option maxRecDepth 100000

theorem M.small_of {m : M} (h : (m.cost : Int) ≤ 1048576) : m.small ∧ costL List.length m.trees ≤ 1048576 := by
  have hc : m.names.length ≤ 1048576 ∧ m.signs.length ≤ 1048576 ∧ m.trees.length ≤ 1048576 ∧ costL List.length m.trees ≤ 1048576 := by
    simp only [M.cost, S1.cost] at h
    omega
  obtain ⟨h1, h2, h3, h4⟩ := hc
  refine ⟨⟨by omega, by omega, by omega, fun s hs => ?_⟩, h4⟩
  have : ∀ (l : List (List N5)), s ∈ l → s.length ≤ costL List.length l := by
    intro l hl
    induction l with
    | nil => cases hl
    | cons x r ih =>
      simp only [costL]
      rcases List.mem_cons.1 hl with rfl | hm
      · omega
      · have := ih hm; omega
  have := this m.trees hs
  omega

theorem law_spec (m : M) (hm : m.ok) : FnSpec Try.prog 3 [.agg [.d (.sl 1 (eL cS m.names)), .d (.sl 1 (eL cI m.signs)), .d (.int .i64 m.base), .d (.sl 1 (eL cT m.trees))]] (.c (.d (.bool true))) [] 0 := by
  refine FnSpec.intro hT Try.func3 rfl (by kernel_rfl) rfl ?_
  have hs := szModel_spec m 1048576 (by omega) (by omega) hm
  have hpos := @bud_pos 1048576 m.cost
  generalize bud 1048576 m.cost = u at hs hpos
  conv => cbv
  refine ⟨_, _, _, hs, rfl, ?_⟩
  conv => cbv
  refine ⟨fun h => ?_, fun h => ?_⟩ <;> conv => cbv
  · trivial
  simp at h
  obtain ⟨hsm, hcost⟩ := M.small_of (hpos h).1
  refine ⟨_, _, _, toModel_spec m hsm, rfl, ?_⟩
  conv => cbv
  refine .inl ⟨_, _, _, specNodesIn_spec m hm hcost, rfl, ?_⟩
  conv => cbv
  refine ⟨_, _, _, toModel_spec m hsm, rfl, ?_⟩
  conv => cbv
  refine .inl ⟨_, _, _, implNodesIn_spec m hm hcost, rfl, ?_⟩
  conv => cbv
  refine ⟨fun h2 => ?_, fun h2 => ?_⟩
  · simp at h2
  conv => cbv
  refine tri_any hT hmix [26] (stM := { t := [(26, .c (.d (.bool (bNot true))))], h := [], n := 0, N := 27 }) ?_ ?_
  · conv => cbv
    repeat' apply And.intro
    all_goals first | exact trivial | (refine ⟨_, _, _, toModel_spec m hsm, rfl, ?_⟩; conv => cbv)
    all_goals repeat' apply And.intro
    all_goals first | exact trivial | (refine .inl ⟨_, _, _, eqModel_spec m hm, rfl, ?_⟩; conv => cbv)
    all_goals repeat' apply And.intro
    all_goals first | exact trivial | (refine .inl ⟨_, _, _, eqModel_spec m hm, rfl, ?_⟩; conv => cbv)
    all_goals repeat' apply And.intro
    all_goals exact trivial
  conv => cbv
  refine ⟨fun hb => ?_, fun hb => ?_⟩
  · simp at hb
  conv => cbv
  trivial

end Go.H.S1
