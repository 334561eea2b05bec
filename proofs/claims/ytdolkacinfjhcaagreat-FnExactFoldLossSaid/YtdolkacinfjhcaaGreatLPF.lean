/- Library, part PF: impl.CompareWide. -/
import Derived.Test.YtdolkacinfjhcaaGreatLPE
set_option maxRecDepth 100000
set_option linter.unusedSimpArgs false
set_option linter.unusedVariables false
namespace Go.H.S
open Go Go.Proofs Go.H
attribute [local irreducible] Tri FnSpec FnSpecM FnSpecX FnSpecJ FnSpecB
set_option maxHeartbeats 40000000 in
theorem impl_CompareWide_raw (ah al bh bl : Int) : FnSpec PR f_impl_CompareWide [rawW ah al, rawW bh bl] (ai (lexI ah al bh bl)) [] 0 := by
 refine FnSpec.intro hT (pf Tryz.func354) rfl (by kernel_rfl) Tryz.ntmps354 rfl ?_
 conv => whnf
 refine tri_every hT hmix [2, 3] { t := [(2, .c (.ptr 0 0)), (3, .c (.ptr 1 0))], h := [(0, .box t_impl_Wide [.d (.bool false), .d (.int .u64 ah), .d (.int .u64 al)]), (1, .box t_impl_Wide [.d (.bool false), .d (.int .u64 bh), .d (.int .u64 bl)])], n := 2, N := 44 } rfl ?_ ?_
 ·repeat' first
   | (refine anyV_one rfl ?_; (conv => whnf))
   | (refine anyV_two rfl ?_ ?_ <;> (conv => whnf))
   | (refine anyV_three rfl ?_ ?_ ?_ <;> (conv => whnf))
   | (refine anyV_four rfl ?_ ?_ ?_ ?_ <;> (conv => whnf))
   | (refine anyV_five rfl ?_ ?_ ?_ ?_ ?_ <;> (conv => whnf))
   | (refine anyV_six rfl ?_ ?_ ?_ ?_ ?_ ?_ <;> (conv => whnf))
   | (refine .inl ⟨_, _, _, impl_wideOf_raw _ _, rfl, ?_⟩; (conv => whnf))
   | (refine anyV_end rfl ?_; (conv => whnf); first | done | rfl)
 conv => whnf
 refine .inl ⟨_, _, _, impl_compareSizes_raw _ _ _ _, rfl, ?_⟩
 conv => whnf
theorem impl_CompareWide_pos (a b : Int) (ha : 0 ≤ a) (hb : 0 ≤ b) : FnSpec PR f_impl_CompareWide [aV a, aV b] (ai (sgnI (a - b))) [] 0 := by
 rw [← lex_sgn ha hb]
 exact impl_CompareWide_raw _ _ _ _
end Go.H.S
