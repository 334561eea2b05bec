/- Library, part PF: impl.CompareWide. -/
import Derived.Test.YtdolkacinfjhcaaGreatLPE
set_option maxRecDepth 100000
set_option linter.unusedSimpArgs false
set_option linter.unusedVariables false
namespace Go.H.S
open Go Go.Proofs Go.H
attribute [local irreducible] Tri z6 zR zV zY zW
set_option maxHeartbeats 40000000 in
theorem z4g (ah al bh bl : Int) : z6 PR z2A [rawW ah al, rawW bh bl] (ai (lexI ah al bh bl)) [] 0 := by
 refine z6.intro hT (pf Tryz.func354) rfl (by kernel_rfl) Tryz.ntmps354 rfl ?_
 conv => whnf
 refine zJ hT hmix [2, 3] { t := [(2, .c (.ptr 0 0)), (3, .c (.ptr 1 0))], h := [(0, .box zg [.d (.bool false), .d (.int .u64 ah), .d (.int .u64 al)]), (1, .box zg [.d (.bool false), .d (.int .u64 bh), .d (.int .u64 bl)])], n := 2, N := 44 } rfl ?_ ?_
 ·repeat' first
   | (refine zM rfl ?_; (conv => whnf))
   | (refine zL rfl ?_ ?_ <;> (conv => whnf))
   | (refine zC rfl ?_ ?_ ?_ <;> (conv => whnf))
   | (refine zw rfl ?_ ?_ ?_ ?_ <;> (conv => whnf))
   | (refine z6r rfl ?_ ?_ ?_ ?_ ?_ <;> (conv => whnf))
   | (refine zHj rfl ?_ ?_ ?_ ?_ ?_ ?_ <;> (conv => whnf))
   | (refine .inl ⟨_, _, _, z1f _ _, rfl, ?_⟩; (conv => whnf))
   | (refine zO rfl ?_; (conv => whnf); first | done | rfl)
 conv => whnf
 refine .inl ⟨_, _, _, z3w _ _ _ _, rfl, ?_⟩
 conv => whnf
theorem z4h (a b : Int) (ha : 0 ≤ a) (hb : 0 ≤ b) : z6 PR z2A [aV a, aV b] (ai (sgnI (a - b))) [] 0 := by
 rw [← zJA ha hb]
 exact z4g _ _ _ _
end Go.H.S
