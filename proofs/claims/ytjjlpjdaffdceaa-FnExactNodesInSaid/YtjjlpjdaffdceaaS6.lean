/- Seat 1, part 6: models copied and compared. -/
import Derived.Test.YtjjlpjdaffdceaaS3
import Derived.Test.YtjjlpjdaffdceaaS5
namespace Go.H.S1
open Go Go.Proofs Go.H

set_option maxRecDepth 100000

/-- Small enough to be copied. -/
structure M.small (m : M) : Prop where
  names : m.names.length ≤ 4000000000
  signs : m.signs.length ≤ 4000000000
  trees : m.trees.length ≤ 4000000000
  nodes : ∀ s ∈ m.trees, s.length ≤ 4000000000

def M.rows (m : M) : List (Nat × Ent) := [(0, .arr 9 1 0 true (eL cS m.names)), (1, .arr 3 1 0 true (eL cI m.signs)), (2, .arr 45 1 0 true (eL cT m.trees))]

theorem toModel_spec (m : M) (hm : m.small) : FnSpec Try.prog 9 [.agg [.d (.sl 1 (eL cS m.names)), .d (.sl 1 (eL cI m.signs)), .d (.int .i64 m.base), .d (.sl 1 (eL cT m.trees))]] (.agg [.ref 0 0 none, .ref 1 0 none, .d (.int .i64 m.base), .ref 2 0 none])
    [(0, .arr 9 1 0 true (eL cS m.names)), (1, .arr 3 1 0 true (eL cI m.signs)), (2, .arr 45 1 0 true (eL cT m.trees))] 3 := by
  refine FnSpec.intro hT Try.func9 rfl (by kernel_rfl) rfl ?_
  conv => cbv
  refine ⟨_, _, _, toStringS_spec m.names hm.names, rfl, ?_⟩
  conv => cbv
  refine ⟨_, _, _, toIntS_spec m.signs hm.signs, rfl, ?_⟩
  conv => cbv
  refine ⟨_, _, _, toTreeS_spec m.trees hm.trees hm.nodes, rfl, ?_⟩
  conv => cbv
  trivial

theorem eqModel_spec (m : M) (hm : m.ok) : FnSpec Try.prog 11 [.agg [.d (.sl 1 (eL cS m.names)), .d (.sl 1 (eL cI m.signs)), .d (.int .i64 m.base), .d (.sl 1 (eL cT m.trees))], .agg [.d (.sl 1 (eL cS m.names)), .d (.sl 1 (eL cI m.signs)), .d (.int .i64 m.base), .d (.sl 1 (eL cT m.trees))]] (.c (.d (.bool true))) [] 0 := by
  refine FnSpec.intro hT Try.func11 rfl (by kernel_rfl) rfl ?_
  conv => cbv
  refine ⟨_, _, _, eqStringS_spec m.names hm.names, rfl, ?_⟩
  conv => cbv
  refine ⟨fun hb => ?_, fun hb => ?_⟩
  · simp at hb
  conv => cbv
  refine ⟨_, _, _, eqIntS_spec m.signs hm.signs, rfl, ?_⟩
  conv => cbv
  refine ⟨fun hb => ?_, fun hb => ?_⟩
  · simp at hb
  conv => cbv
  refine ⟨fun hb => ?_, fun hb => ?_⟩
  · simp at hb
  conv => cbv
  refine ⟨_, _, _, eqTreeS_spec m.trees hm.trees hm.nodes, rfl, ?_⟩
  conv => cbv
  refine ⟨fun hb => ?_, fun hb => ?_⟩
  · simp at hb
  conv => cbv
  trivial

end Go.H.S1
