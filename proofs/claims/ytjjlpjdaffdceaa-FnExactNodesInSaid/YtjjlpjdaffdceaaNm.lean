/- The numbers of functions and types in this seat, and the table of types. -/
import Derived.Test.YtjjlpjdaffdceaaProg
import Derived.Test.YtjjlpjdaffdceaaH27
namespace Go.H.S
open Go Go.Proofs Go.H
@[irreducible] noncomputable def PR : Program := Try.prog
def tab : List (Nat × TI) :=
[(2, ⟨.int .i64, 1, 8, [.d (.int .i64 0)]⟩),
  (3, ⟨.int .i64, 1, 8, [.d (.int .i64 0)]⟩),
  (4, ⟨.bool, 1, 1, [.d (.bool false)]⟩),
  (5, ⟨.int .u8, 1, 1, [.d (.int .u8 0)]⟩),
  (9, ⟨.str, 1, 16, [.d (.str ⟨#[]⟩)]⟩),
  (21, ⟨.int .i32, 1, 4, [.d (.int .i32 0)]⟩),
  (22, ⟨.slice 9, 1, 24, [.nl 1]⟩),
  (23, ⟨.slice 3, 1, 24, [.nl 1]⟩),
  (24, ⟨.slice 39, 1, 24, [.nl 1]⟩),
  (25, ⟨.struct [(0, 22), (1, 23), (2, 3), (3, 24)], 4, 80, [.nl 1, .nl 1, .d (.int .i64 0), .nl 1]⟩),
  (26, ⟨.struct [(0, 22), (1, 23), (2, 3), (3, 24)], 4, 80, [.nl 1, .nl 1, .d (.int .i64 0), .nl 1]⟩),
  (29, ⟨.slice 45, 1, 24, [.nl 1]⟩),
  (30, ⟨.struct [(0, 22), (1, 23), (2, 3), (3, 29)], 4, 80, [.nl 1, .nl 1, .d (.int .i64 0), .nl 1]⟩),
  (31, ⟨.struct [(0, 22), (1, 23), (2, 3), (3, 29)], 4, 80, [.nl 1, .nl 1, .d (.int .i64 0), .nl 1]⟩),
  (37, ⟨.slice 72, 1, 24, [.nl 5]⟩),
  (38, ⟨.struct [(0, 37)], 1, 24, [.nl 5]⟩),
  (39, ⟨.struct [(0, 37)], 1, 24, [.nl 5]⟩),
  (43, ⟨.slice 61, 1, 24, [.nl 5]⟩),
  (44, ⟨.struct [(0, 43)], 1, 24, [.nl 5]⟩),
  (45, ⟨.struct [(0, 43)], 1, 24, [.nl 5]⟩),
  (60, ⟨.struct [(0, 3), (1, 3), (2, 3), (3, 3), (4, 3)], 5, 40, [.d (.int .i64 0), .d (.int .i64 0), .d (.int .i64 0), .d (.int .i64 0), .d (.int .i64 0)]⟩),
  (61, ⟨.struct [(0, 3), (1, 3), (2, 3), (3, 3), (4, 3)], 5, 40, [.d (.int .i64 0), .d (.int .i64 0), .d (.int .i64 0), .d (.int .i64 0), .d (.int .i64 0)]⟩),
  (72, ⟨.struct [(0, 3), (1, 3), (2, 3), (3, 3), (4, 3)], 5, 40, [.d (.int .i64 0), .d (.int .i64 0), .d (.int .i64 0), .d (.int .i64 0), .d (.int .i64 0)]⟩),
  (84, ⟨.int .u32, 1, 4, [.d (.int .u32 0)]⟩)]
def T (t : TypeId) : Option TI := look tab t
theorem hT0 : TOk Try.prog T := tabOk_sound (by kernel_rfl)
theorem hT : TOk PR T := by unfold PR; exact hT0
theorem hmix : PR.follows .mixedOrders = true := by unfold PR; kernel_rfl
abbrev t_int64 : TypeId := 2
abbrev t_int : TypeId := 3
abbrev t_bool : TypeId := 4
abbrev t_uint8 : TypeId := 5
abbrev t_abi_BoundsErrorCode : TypeId := 6
abbrev t_runtime_boundsError : TypeId := 8
abbrev t_string : TypeId := 9
abbrev t_runtime_errorString : TypeId := 10
abbrev t_runtime_plainError : TypeId := 11
abbrev t_uintptr : TypeId := 12
abbrev t_runtime_errorAddressString : TypeId := 14
abbrev t_Pruntime_TypeAssertionError : TypeId := 15
abbrev t_Pruntime_PanicNilError : TypeId := 16
abbrev t_Pabi_Type : TypeId := 17
abbrev t_maps_unhashableTypeError : TypeId := 19
abbrev t_int32 : TypeId := 21
abbrev t_Lstring : TypeId := 22
abbrev t_Lint : TypeId := 23
abbrev t_Llaws_Tree : TypeId := 24
abbrev t_laws_Model : TypeId := 26
abbrev t_Limpl_Tree : TypeId := 29
abbrev t_impl_Model : TypeId := 31
abbrev t_Llaws_Node : TypeId := 37
abbrev t_laws_Tree : TypeId := 39
abbrev t_Limpl_Node : TypeId := 43
abbrev t_impl_Tree : TypeId := 45
abbrev t_impl_Node : TypeId := 61
abbrev t_laws_Node : TypeId := 72
abbrev t_runtime_TypeAssertionError : TypeId := 79
abbrev t_0_Pruntime_PanicNilError : TypeId := 80
abbrev t_runtime_PanicNilError : TypeId := 82
abbrev t_uint32 : TypeId := 84
abbrev t_abi_TFlag : TypeId := 85
abbrev t_abi_Kind : TypeId := 86
abbrev t_Puint8 : TypeId := 88
abbrev t_abi_NameOff : TypeId := 89
abbrev t_abi_TypeOff : TypeId := 90
abbrev t_abi_Type : TypeId := 92
abbrev t_unsafe_Pointer : TypeId := 93
abbrev f_laws_FnExactNodesIn : FuncId := 3
theorem p_laws_FnExactNodesIn : PR.funcs[f_laws_FnExactNodesIn]? = some Try.f3 := by unfold PR; exact Try.func3
@[reducible] noncomputable def c_laws_FnExactNodesIn : Func := Try.f3
theorem n_laws_FnExactNodesIn : c_laws_FnExactNodesIn.ntmps = 27 := Try.ntmps3
abbrev f_laws_FnExactUsesOf : FuncId := 4
theorem p_laws_FnExactUsesOf : PR.funcs[f_laws_FnExactUsesOf]? = some Try.f4 := by unfold PR; exact Try.func4
@[reducible] noncomputable def c_laws_FnExactUsesOf : Func := Try.f4
theorem n_laws_FnExactUsesOf : c_laws_FnExactUsesOf.ntmps = 31 := Try.ntmps4
abbrev f_laws_FnExactSpanOf : FuncId := 5
theorem p_laws_FnExactSpanOf : PR.funcs[f_laws_FnExactSpanOf]? = some Try.f5 := by unfold PR; exact Try.func5
@[reducible] noncomputable def c_laws_FnExactSpanOf : Func := Try.f5
theorem n_laws_FnExactSpanOf : c_laws_FnExactSpanOf.ntmps = 53 := Try.ntmps5
abbrev f_laws_FnExactTreeFollows : FuncId := 6
theorem p_laws_FnExactTreeFollows : PR.funcs[f_laws_FnExactTreeFollows]? = some Try.f6 := by unfold PR; exact Try.func6
@[reducible] noncomputable def c_laws_FnExactTreeFollows : Func := Try.f6
theorem n_laws_FnExactTreeFollows : c_laws_FnExactTreeFollows.ntmps = 35 := Try.ntmps6
abbrev f_laws_szModel : FuncId := 7
theorem p_laws_szModel : PR.funcs[f_laws_szModel]? = some Try.f7 := by unfold PR; exact Try.func7
@[reducible] noncomputable def c_laws_szModel : Func := Try.f7
theorem n_laws_szModel : c_laws_szModel.ntmps = 24 := Try.ntmps7
abbrev f_spec_NodesIn : FuncId := 8
theorem p_spec_NodesIn : PR.funcs[f_spec_NodesIn]? = some Try.f8 := by unfold PR; exact Try.func8
@[reducible] noncomputable def c_spec_NodesIn : Func := Try.f8
theorem n_spec_NodesIn : c_spec_NodesIn.ntmps = 22 := Try.ntmps8
abbrev f_laws_toModel : FuncId := 9
theorem p_laws_toModel : PR.funcs[f_laws_toModel]? = some Try.f9 := by unfold PR; exact Try.func9
@[reducible] noncomputable def c_laws_toModel : Func := Try.f9
theorem n_laws_toModel : c_laws_toModel.ntmps = 20 := Try.ntmps9
abbrev f_impl_NodesIn : FuncId := 10
theorem p_impl_NodesIn : PR.funcs[f_impl_NodesIn]? = some Try.f10 := by unfold PR; exact Try.func10
@[reducible] noncomputable def c_impl_NodesIn : Func := Try.f10
theorem n_impl_NodesIn : c_impl_NodesIn.ntmps = 20 := Try.ntmps10
abbrev f_laws_eqModel : FuncId := 11
theorem p_laws_eqModel : PR.funcs[f_laws_eqModel]? = some Try.f11 := by unfold PR; exact Try.func11
@[reducible] noncomputable def c_laws_eqModel : Func := Try.f11
theorem n_laws_eqModel : c_laws_eqModel.ntmps = 28 := Try.ntmps11
abbrev f_spec_UsesOf : FuncId := 12
theorem p_spec_UsesOf : PR.funcs[f_spec_UsesOf]? = some Try.f12 := by unfold PR; exact Try.func12
@[reducible] noncomputable def c_spec_UsesOf : Func := Try.f12
theorem n_spec_UsesOf : c_spec_UsesOf.ntmps = 47 := Try.ntmps12
abbrev f_impl_UsesOf : FuncId := 13
theorem p_impl_UsesOf : PR.funcs[f_impl_UsesOf]? = some Try.f13 := by unfold PR; exact Try.func13
@[reducible] noncomputable def c_impl_UsesOf : Func := Try.f13
theorem n_impl_UsesOf : c_impl_UsesOf.ntmps = 38 := Try.ntmps13
abbrev f_laws_szTree : FuncId := 14
theorem p_laws_szTree : PR.funcs[f_laws_szTree]? = some Try.f14 := by unfold PR; exact Try.func14
@[reducible] noncomputable def c_laws_szTree : Func := Try.f14
theorem n_laws_szTree : c_laws_szTree.ntmps = 12 := Try.ntmps14
abbrev f_spec_SpanOf : FuncId := 15
theorem p_spec_SpanOf : PR.funcs[f_spec_SpanOf]? = some Try.f15 := by unfold PR; exact Try.func15
@[reducible] noncomputable def c_spec_SpanOf : Func := Try.f15
theorem n_spec_SpanOf : c_spec_SpanOf.ntmps = 52 := Try.ntmps15
abbrev f_laws_toTree : FuncId := 16
theorem p_laws_toTree : PR.funcs[f_laws_toTree]? = some Try.f16 := by unfold PR; exact Try.func16
@[reducible] noncomputable def c_laws_toTree : Func := Try.f16
theorem n_laws_toTree : c_laws_toTree.ntmps = 9 := Try.ntmps16
abbrev f_impl_SpanOf : FuncId := 17
theorem p_impl_SpanOf : PR.funcs[f_impl_SpanOf]? = some Try.f17 := by unfold PR; exact Try.func17
@[reducible] noncomputable def c_impl_SpanOf : Func := Try.f17
theorem n_impl_SpanOf : c_impl_SpanOf.ntmps = 46 := Try.ntmps17
abbrev f_laws_eqTree : FuncId := 18
theorem p_laws_eqTree : PR.funcs[f_laws_eqTree]? = some Try.f18 := by unfold PR; exact Try.func18
@[reducible] noncomputable def c_laws_eqTree : Func := Try.f18
theorem n_laws_eqTree : c_laws_eqTree.ntmps = 11 := Try.ntmps18
abbrev f_spec_TreeFollows : FuncId := 19
theorem p_spec_TreeFollows : PR.funcs[f_spec_TreeFollows]? = some Try.f19 := by unfold PR; exact Try.func19
@[reducible] noncomputable def c_spec_TreeFollows : Func := Try.f19
theorem n_spec_TreeFollows : c_spec_TreeFollows.ntmps = 74 := Try.ntmps19
abbrev f_impl_TreeFollows : FuncId := 20
theorem p_impl_TreeFollows : PR.funcs[f_impl_TreeFollows]? = some Try.f20 := by unfold PR; exact Try.func20
@[reducible] noncomputable def c_impl_TreeFollows : Func := Try.f20
theorem n_impl_TreeFollows : c_impl_TreeFollows.ntmps = 69 := Try.ntmps20
abbrev f_laws_szStringS : FuncId := 21
theorem p_laws_szStringS : PR.funcs[f_laws_szStringS]? = some Try.f21 := by unfold PR; exact Try.func21
@[reducible] noncomputable def c_laws_szStringS : Func := Try.f21
theorem n_laws_szStringS : c_laws_szStringS.ntmps = 28 := Try.ntmps21
abbrev f_laws_szIntS : FuncId := 22
theorem p_laws_szIntS : PR.funcs[f_laws_szIntS]? = some Try.f22 := by unfold PR; exact Try.func22
@[reducible] noncomputable def c_laws_szIntS : Func := Try.f22
theorem n_laws_szIntS : c_laws_szIntS.ntmps = 12 := Try.ntmps22
abbrev f_laws_szTreeS : FuncId := 23
theorem p_laws_szTreeS : PR.funcs[f_laws_szTreeS]? = some Try.f23 := by unfold PR; exact Try.func23
@[reducible] noncomputable def c_laws_szTreeS : Func := Try.f23
theorem n_laws_szTreeS : c_laws_szTreeS.ntmps = 27 := Try.ntmps23
abbrev f_laws_toStringS : FuncId := 24
theorem p_laws_toStringS : PR.funcs[f_laws_toStringS]? = some Try.f24 := by unfold PR; exact Try.func24
@[reducible] noncomputable def c_laws_toStringS : Func := Try.f24
theorem n_laws_toStringS : c_laws_toStringS.ntmps = 22 := Try.ntmps24
abbrev f_laws_toIntS : FuncId := 25
theorem p_laws_toIntS : PR.funcs[f_laws_toIntS]? = some Try.f25 := by unfold PR; exact Try.func25
@[reducible] noncomputable def c_laws_toIntS : Func := Try.f25
theorem n_laws_toIntS : c_laws_toIntS.ntmps = 22 := Try.ntmps25
abbrev f_laws_toTreeS : FuncId := 26
theorem p_laws_toTreeS : PR.funcs[f_laws_toTreeS]? = some Try.f26 := by unfold PR; exact Try.func26
@[reducible] noncomputable def c_laws_toTreeS : Func := Try.f26
theorem n_laws_toTreeS : c_laws_toTreeS.ntmps = 23 := Try.ntmps26
abbrev f_laws_eqStringS : FuncId := 27
theorem p_laws_eqStringS : PR.funcs[f_laws_eqStringS]? = some Try.f27 := by unfold PR; exact Try.func27
@[reducible] noncomputable def c_laws_eqStringS : Func := Try.f27
theorem n_laws_eqStringS : c_laws_eqStringS.ntmps = 26 := Try.ntmps27
abbrev f_laws_eqIntS : FuncId := 28
theorem p_laws_eqIntS : PR.funcs[f_laws_eqIntS]? = some Try.f28 := by unfold PR; exact Try.func28
@[reducible] noncomputable def c_laws_eqIntS : Func := Try.f28
theorem n_laws_eqIntS : c_laws_eqIntS.ntmps = 26 := Try.ntmps28
abbrev f_laws_eqTreeS : FuncId := 29
theorem p_laws_eqTreeS : PR.funcs[f_laws_eqTreeS]? = some Try.f29 := by unfold PR; exact Try.func29
@[reducible] noncomputable def c_laws_eqTreeS : Func := Try.f29
theorem n_laws_eqTreeS : c_laws_eqTreeS.ntmps = 27 := Try.ntmps29
abbrev f_spec_l17Inner : FuncId := 30
theorem p_spec_l17Inner : PR.funcs[f_spec_l17Inner]? = some Try.f30 := by unfold PR; exact Try.func30
@[reducible] noncomputable def c_spec_l17Inner : Func := Try.f30
theorem n_spec_l17Inner : c_spec_l17Inner.ntmps = 6 := Try.ntmps30
abbrev f_impl_isLeaf : FuncId := 31
theorem p_impl_isLeaf : PR.funcs[f_impl_isLeaf]? = some Try.f31 := by unfold PR; exact Try.func31
@[reducible] noncomputable def c_impl_isLeaf : Func := Try.f31
theorem n_impl_isLeaf : c_impl_isLeaf.ntmps = 6 := Try.ntmps31
abbrev f_laws_szNodeS : FuncId := 32
theorem p_laws_szNodeS : PR.funcs[f_laws_szNodeS]? = some Try.f32 := by unfold PR; exact Try.func32
@[reducible] noncomputable def c_laws_szNodeS : Func := Try.f32
theorem n_laws_szNodeS : c_laws_szNodeS.ntmps = 12 := Try.ntmps32
abbrev f_spec_LeavesOf : FuncId := 33
theorem p_spec_LeavesOf : PR.funcs[f_spec_LeavesOf]? = some Try.f33 := by unfold PR; exact Try.func33
@[reducible] noncomputable def c_spec_LeavesOf : Func := Try.f33
theorem n_spec_LeavesOf : c_spec_LeavesOf.ntmps = 25 := Try.ntmps33
abbrev f_spec_l27Has : FuncId := 34
theorem p_spec_l27Has : PR.funcs[f_spec_l27Has]? = some Try.f34 := by unfold PR; exact Try.func34
@[reducible] noncomputable def c_spec_l27Has : Func := Try.f34
theorem n_spec_l27Has : c_spec_l27Has.ntmps = 18 := Try.ntmps34
abbrev f_spec_WayTo : FuncId := 35
theorem p_spec_WayTo : PR.funcs[f_spec_WayTo]? = some Try.f35 := by unfold PR; exact Try.func35
@[reducible] noncomputable def c_spec_WayTo : Func := Try.f35
theorem n_spec_WayTo : c_spec_WayTo.ntmps = 22 := Try.ntmps35
abbrev f_spec_l1Min : FuncId := 36
theorem p_spec_l1Min : PR.funcs[f_spec_l1Min]? = some Try.f36 := by unfold PR; exact Try.func36
@[reducible] noncomputable def c_spec_l1Min : Func := Try.f36
theorem n_spec_l1Min : c_spec_l1Min.ntmps = 10 := Try.ntmps36
abbrev f_spec_l1Max : FuncId := 37
theorem p_spec_l1Max : PR.funcs[f_spec_l1Max]? = some Try.f37 := by unfold PR; exact Try.func37
@[reducible] noncomputable def c_spec_l1Max : Func := Try.f37
theorem n_spec_l1Max : c_spec_l1Max.ntmps = 10 := Try.ntmps37
abbrev f_laws_toNodeS : FuncId := 38
theorem p_laws_toNodeS : PR.funcs[f_laws_toNodeS]? = some Try.f38 := by unfold PR; exact Try.func38
@[reducible] noncomputable def c_laws_toNodeS : Func := Try.f38
theorem n_laws_toNodeS : c_laws_toNodeS.ntmps = 23 := Try.ntmps38
abbrev f_impl_LeavesOf : FuncId := 39
theorem p_impl_LeavesOf : PR.funcs[f_impl_LeavesOf]? = some Try.f39 := by unfold PR; exact Try.func39
@[reducible] noncomputable def c_impl_LeavesOf : Func := Try.f39
theorem n_impl_LeavesOf : c_impl_LeavesOf.ntmps = 23 := Try.ntmps39
abbrev f_slices_Contains_Lint_int : FuncId := 40
theorem p_slices_Contains_Lint_int : PR.funcs[f_slices_Contains_Lint_int]? = some Try.f40 := by unfold PR; exact Try.func40
@[reducible] noncomputable def c_slices_Contains_Lint_int : Func := Try.f40
theorem n_slices_Contains_Lint_int : c_slices_Contains_Lint_int.ntmps = 9 := Try.ntmps40
abbrev f_impl_wayTo : FuncId := 41
theorem p_impl_wayTo : PR.funcs[f_impl_wayTo]? = some Try.f41 := by unfold PR; exact Try.func41
@[reducible] noncomputable def c_impl_wayTo : Func := Try.f41
theorem n_impl_wayTo : c_impl_wayTo.ntmps = 34 := Try.ntmps41
abbrev f_laws_eqNodeS : FuncId := 42
theorem p_laws_eqNodeS : PR.funcs[f_laws_eqNodeS]? = some Try.f42 := by unfold PR; exact Try.func42
@[reducible] noncomputable def c_laws_eqNodeS : Func := Try.f42
theorem n_laws_eqNodeS : c_laws_eqNodeS.ntmps = 27 := Try.ntmps42
abbrev f_spec_LevelOf : FuncId := 43
theorem p_spec_LevelOf : PR.funcs[f_spec_LevelOf]? = some Try.f43 := by unfold PR; exact Try.func43
@[reducible] noncomputable def c_spec_LevelOf : Func := Try.f43
theorem n_spec_LevelOf : c_spec_LevelOf.ntmps = 23 := Try.ntmps43
abbrev f_spec_l17Up : FuncId := 44
theorem p_spec_l17Up : PR.funcs[f_spec_l17Up]? = some Try.f44 := by unfold PR; exact Try.func44
@[reducible] noncomputable def c_spec_l17Up : Func := Try.f44
theorem n_spec_l17Up : c_spec_l17Up.ntmps = 40 := Try.ntmps44
abbrev f_laws_toNode : FuncId := 45
theorem p_laws_toNode : PR.funcs[f_laws_toNode]? = some Try.f45 := by unfold PR; exact Try.func45
@[reducible] noncomputable def c_laws_toNode : Func := Try.f45
theorem n_laws_toNode : c_laws_toNode.ntmps = 20 := Try.ntmps45
abbrev f_slices_Index_Lint_int : FuncId := 46
theorem p_slices_Index_Lint_int : PR.funcs[f_slices_Index_Lint_int]? = some Try.f46 := by unfold PR; exact Try.func46
@[reducible] noncomputable def c_slices_Index_Lint_int : Func := Try.f46
theorem n_slices_Index_Lint_int : c_slices_Index_Lint_int.ntmps = 19 := Try.ntmps46
abbrev f_impl_within : FuncId := 47
theorem p_impl_within : PR.funcs[f_impl_within]? = some Try.f47 := by unfold PR; exact Try.func47
@[reducible] noncomputable def c_impl_within : Func := Try.f47
theorem n_impl_within : c_impl_within.ntmps = 15 := Try.ntmps47
abbrev f_impl_parent : FuncId := 48
theorem p_impl_parent : PR.funcs[f_impl_parent]? = some Try.f48 := by unfold PR; exact Try.func48
@[reducible] noncomputable def c_impl_parent : Func := Try.f48
theorem n_impl_parent : c_impl_parent.ntmps = 9 := Try.ntmps48
abbrev f_slices_Reverse_Lint_int : FuncId := 49
theorem p_slices_Reverse_Lint_int : PR.funcs[f_slices_Reverse_Lint_int]? = some Try.f49 := by unfold PR; exact Try.func49
@[reducible] noncomputable def c_slices_Reverse_Lint_int : Func := Try.f49
theorem n_slices_Reverse_Lint_int : c_slices_Reverse_Lint_int.ntmps = 28 := Try.ntmps49
abbrev f_laws_eqNode : FuncId := 50
theorem p_laws_eqNode : PR.funcs[f_laws_eqNode]? = some Try.f50 := by unfold PR; exact Try.func50
@[reducible] noncomputable def c_laws_eqNode : Func := Try.f50
theorem n_laws_eqNode : c_laws_eqNode.ntmps = 30 := Try.ntmps50
abbrev f_spec_l1In : FuncId := 51
theorem p_spec_l1In : PR.funcs[f_spec_l1In]? = some Try.f51 := by unfold PR; exact Try.func51
@[reducible] noncomputable def c_spec_l1In : Func := Try.f51
theorem n_spec_l1In : c_spec_l1In.ntmps = 15 := Try.ntmps51
abbrev f_slices_IndexFunc_Limpl_Node_impl_Node : FuncId := 52
theorem p_slices_IndexFunc_Limpl_Node_impl_Node : PR.funcs[f_slices_IndexFunc_Limpl_Node_impl_Node]? = some Try.f52 := by unfold PR; exact Try.func52
@[reducible] noncomputable def c_slices_IndexFunc_Limpl_Node_impl_Node : Func := Try.f52
theorem n_slices_IndexFunc_Limpl_Node_impl_Node : c_slices_IndexFunc_Limpl_Node_impl_Node.ntmps = 19 := Try.ntmps52
abbrev f_impl_parent_1 : FuncId := 53
theorem p_impl_parent_1 : PR.funcs[f_impl_parent_1]? = some Try.f53 := by unfold PR; exact Try.func53
@[reducible] noncomputable def c_impl_parent_1 : Func := Try.f53
theorem n_impl_parent_1 : c_impl_parent_1.ntmps = 19 := Try.ntmps53
end Go.H.S
