/- Library, part PF: impl.CompareWide. -/
import Derived.Test.YtdolkacinfjhcaaGreatLPE
set_option maxRecDepth 100000
set_option linter.unusedSimpArgs false
set_option linter.unusedVariables false
namespace Go.H.S
open Go Go.Proofs Go.H
attribute [local irreducible] Tri z6 zV zU zj zX
set_option maxHeartbeats 40000000 in
theorem z4u (ah al bh bl : Int) : z6 PR z2L [rawW ah al, rawW bh bl] (ai (lexI ah al bh bl)) [] 0 := by
 refine z6.intro hT (pf Tryz.func354) rfl (by kernel_rfl) Tryz.ntmps354 rfl ?_
 conv => whnf
 refine zO hT hmix [2, 3] { t := [(2, .c (.ptr 0 0)), (3, .c (.ptr 1 0))], h := [(0, .box z0d [.d (.bool false), .d (.int .u64 ah), .d (.int .u64 al)]), (1, .box z0d [.d (.bool false), .d (.int .u64 bh), .d (.int .u64 bl)])], n := 2, N := 44 } rfl ?_ ?_
 ·repeat' first
   | (refine zR rfl ?_; (conv => whnf))
   | (refine zQ rfl ?_ ?_ <;> (conv => whnf))
   | (refine zC rfl ?_ ?_ ?_ <;> (conv => whnf))
   | (refine zo rfl ?_ ?_ ?_ ?_ <;> (conv => whnf))
   | (refine z78 rfl ?_ ?_ ?_ ?_ ?_ <;> (conv => whnf))
   | (refine zHL rfl ?_ ?_ ?_ ?_ ?_ ?_ <;> (conv => whnf))
   | (refine .inl ⟨_, _, _, z1k _ _, rfl, ?_⟩; (conv => whnf))
   | (refine zP rfl ?_; (conv => whnf); first | done | rfl)
 conv => whnf
 refine .inl ⟨_, _, _, z47 _ _ _ _, rfl, ?_⟩
 conv => whnf
theorem z4v (a b : Int) (ha : 0 ≤ a) (hb : 0 ≤ b) : z6 PR z2L [aV a, aV b] (ai (sgnI (a - b))) [] 0 := by
 rw [← zIf ha hb]
 exact z4u _ _ _ _
end Go.H.S
