/- The numbers of functions and types in this seat, and the table of types. -/
import Derived.Test.YtdolkacinfjhcaaProg
import Derived.Test.YtdolkacinfjhcaaH28
namespace Go.H.S
open Go Go.Proofs Go.H
@[irreducible] noncomputable def PR : Program := Try.prog
def tab : List (Nat × TI) :=
[(2, ⟨.int .i64, 1, 8, [.d (.int .i64 0)], none⟩),
  (3, ⟨.int .i64, 1, 8, [.d (.int .i64 0)], none⟩),
  (4, ⟨.bool, 1, 1, [.d (.bool false)], none⟩),
  (5, ⟨.int .u8, 1, 1, [.d (.int .u8 0)], none⟩),
  (9, ⟨.str, 1, 16, [.d (.str ⟨#[]⟩)], none⟩),
  (21, ⟨.int .i32, 1, 4, [.d (.int .i32 0)], none⟩),
  (22, ⟨.slice 5, 1, 24, [.nl 1], none⟩),
  (24, ⟨.slice 9, 1, 24, [.nl 1], none⟩),
  (25, ⟨.slice 3, 1, 24, [.nl 1], none⟩),
  (26, ⟨.slice 38, 1, 24, [.nl 1], none⟩),
  (27, ⟨.struct [(0, 24), (1, 25), (2, 3), (3, 26)], 4, 80, [.nl 1, .nl 1, .d (.int .i64 0), .nl 1], none⟩),
  (28, ⟨.struct [(0, 24), (1, 25), (2, 3), (3, 26)], 4, 80, [.nl 1, .nl 1, .d (.int .i64 0), .nl 1], none⟩),
  (36, ⟨.slice 42, 1, 24, [.nl 5], none⟩),
  (37, ⟨.struct [(0, 36)], 1, 24, [.nl 5], none⟩),
  (38, ⟨.struct [(0, 36)], 1, 24, [.nl 5], none⟩),
  (41, ⟨.struct [(0, 3), (1, 3), (2, 3), (3, 3), (4, 3)], 5, 40, [.d (.int .i64 0), .d (.int .i64 0), .d (.int .i64 0), .d (.int .i64 0), .d (.int .i64 0)], none⟩),
  (42, ⟨.struct [(0, 3), (1, 3), (2, 3), (3, 3), (4, 3)], 5, 40, [.d (.int .i64 0), .d (.int .i64 0), .d (.int .i64 0), .d (.int .i64 0), .d (.int .i64 0)], none⟩),
  (59, ⟨.struct [(0, 22), (1, 3), (2, 3)], 3, 40, [.nl 1, .d (.int .i64 0), .d (.int .i64 0)], none⟩),
  (60, ⟨.struct [(0, 22), (1, 3), (2, 3)], 3, 40, [.nl 1, .d (.int .i64 0), .d (.int .i64 0)], none⟩),
  (77, ⟨.int .u64, 1, 8, [.d (.int .u64 0)], none⟩),
  (95, ⟨.int .u32, 1, 4, [.d (.int .u32 0)], none⟩)]
def T (t : TypeId) : Option TI := look tab t
theorem hT0 : TOk Try.prog T := tabOk_sound (by kernel_rfl)
theorem hT : TOk PR T := by unfold PR; exact hT0
def ntab : List (Nat × TI) :=
[(2, ⟨.int .i64, 1, 8, [.d (.int .i64 0)], none⟩),
  (3, ⟨.int .i64, 1, 8, [.d (.int .i64 0)], none⟩),
  (4, ⟨.bool, 1, 1, [.d (.bool false)], none⟩),
  (5, ⟨.int .u8, 1, 1, [.d (.int .u8 0)], none⟩),
  (9, ⟨.str, 1, 16, [.d (.str ⟨#[]⟩)], none⟩),
  (21, ⟨.int .i32, 1, 4, [.d (.int .i32 0)], none⟩),
  (22, ⟨.slice 5, 1, 24, [.nl 1], some [5]⟩),
  (24, ⟨.slice 9, 1, 24, [.nl 1], some [9]⟩),
  (25, ⟨.slice 3, 1, 24, [.nl 1], some [3]⟩),
  (26, ⟨.slice 38, 1, 24, [.nl 1], none⟩),
  (27, ⟨.struct [(0, 24), (1, 25), (2, 3), (3, 26)], 4, 80, [.nl 1, .nl 1, .d (.int .i64 0), .nl 1], none⟩),
  (28, ⟨.struct [(0, 24), (1, 25), (2, 3), (3, 26)], 4, 80, [.nl 1, .nl 1, .d (.int .i64 0), .nl 1], none⟩),
  (36, ⟨.slice 42, 1, 24, [.nl 5], some [42]⟩),
  (37, ⟨.struct [(0, 36)], 1, 24, [.nl 5], some [42]⟩),
  (38, ⟨.struct [(0, 36)], 1, 24, [.nl 5], some [42]⟩),
  (41, ⟨.struct [(0, 3), (1, 3), (2, 3), (3, 3), (4, 3)], 5, 40, [.d (.int .i64 0), .d (.int .i64 0), .d (.int .i64 0), .d (.int .i64 0), .d (.int .i64 0)], none⟩),
  (42, ⟨.struct [(0, 3), (1, 3), (2, 3), (3, 3), (4, 3)], 5, 40, [.d (.int .i64 0), .d (.int .i64 0), .d (.int .i64 0), .d (.int .i64 0), .d (.int .i64 0)], none⟩),
  (59, ⟨.struct [(0, 22), (1, 3), (2, 3)], 3, 40, [.nl 1, .d (.int .i64 0), .d (.int .i64 0)], some [5, 0, 0]⟩),
  (60, ⟨.struct [(0, 22), (1, 3), (2, 3)], 3, 40, [.nl 1, .d (.int .i64 0), .d (.int .i64 0)], some [5, 0, 0]⟩),
  (77, ⟨.int .u64, 1, 8, [.d (.int .u64 0)], none⟩),
  (95, ⟨.int .u32, 1, 4, [.d (.int .u32 0)], none⟩)]
def TN (t : TypeId) : Option TI := look ntab t
theorem hTn0 : TOk Try.prog TN := tabOk_sound (by kernel_rfl)
theorem hTn : TOk PR TN := by unfold PR; exact hTn0
def ptab : List (Nat × TI) :=
[(2, ⟨.int .i64, 1, 8, [.d (.int .i64 0)], none⟩),
  (3, ⟨.int .i64, 1, 8, [.d (.int .i64 0)], none⟩),
  (4, ⟨.bool, 1, 1, [.d (.bool false)], none⟩),
  (5, ⟨.int .u8, 1, 1, [.d (.int .u8 0)], none⟩),
  (9, ⟨.str, 1, 16, [.d (.str ⟨#[]⟩)], none⟩),
  (21, ⟨.int .i32, 1, 4, [.d (.int .i32 0)], none⟩),
  (22, ⟨.slice 5, 1, 24, [.nl 1], none⟩),
  (24, ⟨.slice 9, 1, 24, [.nl 1], none⟩),
  (25, ⟨.slice 3, 1, 24, [.nl 1], none⟩),
  (26, ⟨.slice 38, 1, 24, [.nl 1], none⟩),
  (27, ⟨.struct [(0, 24), (1, 25), (2, 3), (3, 26)], 4, 80, [.nl 1, .nl 1, .d (.int .i64 0), .nl 1], none⟩),
  (28, ⟨.struct [(0, 24), (1, 25), (2, 3), (3, 26)], 4, 80, [.nl 1, .nl 1, .d (.int .i64 0), .nl 1], none⟩),
  (36, ⟨.slice 42, 1, 24, [.nl 5], none⟩),
  (37, ⟨.struct [(0, 36)], 1, 24, [.nl 5], none⟩),
  (38, ⟨.struct [(0, 36)], 1, 24, [.nl 5], none⟩),
  (41, ⟨.struct [(0, 3), (1, 3), (2, 3), (3, 3), (4, 3)], 5, 40, [.d (.int .i64 0), .d (.int .i64 0), .d (.int .i64 0), .d (.int .i64 0), .d (.int .i64 0)], none⟩),
  (42, ⟨.struct [(0, 3), (1, 3), (2, 3), (3, 3), (4, 3)], 5, 40, [.d (.int .i64 0), .d (.int .i64 0), .d (.int .i64 0), .d (.int .i64 0), .d (.int .i64 0)], none⟩),
  (59, ⟨.struct [(0, 22), (1, 3), (2, 3)], 3, 40, [.nl 1, .d (.int .i64 0), .d (.int .i64 0)], none⟩),
  (60, ⟨.struct [(0, 22), (1, 3), (2, 3)], 3, 40, [.nl 1, .d (.int .i64 0), .d (.int .i64 0)], none⟩),
  (77, ⟨.int .u64, 1, 8, [.d (.int .u64 0)], none⟩),
  (95, ⟨.int .u32, 1, 4, [.d (.int .u32 0)], none⟩)]
def Tp (t : TypeId) : Option TI := look ptab t
theorem hTp : TOk Try.prog Tp := tabOk_sound (by kernel_rfl)
theorem hmix : PR.follows .mixedOrders = true := by unfold PR; kernel_rfl
abbrev t_int64 : TypeId := 2
abbrev t_int : TypeId := 3
abbrev t_bool : TypeId := 4
abbrev t_uint8 : TypeId := 5
abbrev t_abi_BoundsErrorCode : TypeId := 6
abbrev t_runtime_boundsError : TypeId := 8
abbrev t_string : TypeId := 9
abbrev t_runtime_errorString : TypeId := 10
abbrev t_runtime_plainError : TypeId := 11
abbrev t_uintptr : TypeId := 12
abbrev t_runtime_errorAddressString : TypeId := 14
abbrev t_Pruntime_TypeAssertionError : TypeId := 15
abbrev t_Pruntime_PanicNilError : TypeId := 16
abbrev t_Pabi_Type : TypeId := 17
abbrev t_maps_unhashableTypeError : TypeId := 19
abbrev t_int32 : TypeId := 21
abbrev t_Luint8 : TypeId := 22
abbrev t_Lstring : TypeId := 24
abbrev t_Lint : TypeId := 25
abbrev t_Limpl_Tree : TypeId := 26
abbrev t_impl_Model : TypeId := 28
abbrev t_Limpl_Node : TypeId := 36
abbrev t_impl_Tree : TypeId := 38
abbrev t_impl_Node : TypeId := 42
abbrev t_Pspec_l1Cur : TypeId := 43
abbrev t_spec_l1Cur : TypeId := 60
abbrev t_uint : TypeId := 77
abbrev t_runtime_TypeAssertionError : TypeId := 90
abbrev t_0_Pruntime_PanicNilError : TypeId := 91
abbrev t_runtime_PanicNilError : TypeId := 93
abbrev t_uint32 : TypeId := 95
abbrev t_abi_TFlag : TypeId := 96
abbrev t_abi_Kind : TypeId := 97
abbrev t_Puint8 : TypeId := 99
abbrev t_abi_NameOff : TypeId := 100
abbrev t_abi_TypeOff : TypeId := 101
abbrev t_abi_Type : TypeId := 103
abbrev t_unsafe_Pointer : TypeId := 104
abbrev f_laws_FnStages : FuncId := 3
theorem p_laws_FnStages : PR.funcs[f_laws_FnStages]? = some Try.f3 := by unfold PR; exact Try.func3
@[reducible] noncomputable def c_laws_FnStages : Func := Try.f3
theorem n_laws_FnStages : c_laws_FnStages.ntmps = 86 := Try.ntmps3
abbrev f_laws_big : FuncId := 4
theorem p_laws_big : PR.funcs[f_laws_big]? = some Try.f4 := by unfold PR; exact Try.func4
@[reducible] noncomputable def c_laws_big : Func := Try.f4
theorem n_laws_big : c_laws_big.ntmps = 6 := Try.ntmps4
abbrev f_spec_DrawStages : FuncId := 5
theorem p_spec_DrawStages : PR.funcs[f_spec_DrawStages]? = some Try.f5 := by unfold PR; exact Try.func5
@[reducible] noncomputable def c_spec_DrawStages : Func := Try.f5
theorem n_spec_DrawStages : c_spec_DrawStages.ntmps = 8 := Try.ntmps5
abbrev f_impl_Stages : FuncId := 6
theorem p_impl_Stages : PR.funcs[f_impl_Stages]? = some Try.f6 := by unfold PR; exact Try.func6
@[reducible] noncomputable def c_impl_Stages : Func := Try.f6
theorem n_impl_Stages : c_impl_Stages.ntmps = 33 := Try.ntmps6
abbrev f_laws_sameInts : FuncId := 7
theorem p_laws_sameInts : PR.funcs[f_laws_sameInts]? = some Try.f7 := by unfold PR; exact Try.func7
@[reducible] noncomputable def c_laws_sameInts : Func := Try.f7
theorem n_laws_sameInts : c_laws_sameInts.ntmps = 26 := Try.ntmps7
abbrev f_spec_Stages : FuncId := 8
theorem p_spec_Stages : PR.funcs[f_spec_Stages]? = some Try.f8 := by unfold PR; exact Try.func8
@[reducible] noncomputable def c_spec_Stages : Func := Try.f8
theorem n_spec_Stages : c_spec_Stages.ntmps = 33 := Try.ntmps8
abbrev f_impl_Predict : FuncId := 9
theorem p_impl_Predict : PR.funcs[f_impl_Predict]? = some Try.f9 := by unfold PR; exact Try.func9
@[reducible] noncomputable def c_impl_Predict : Func := Try.f9
theorem n_impl_Predict : c_impl_Predict.ntmps = 36 := Try.ntmps9
abbrev f_impl_EvalTree : FuncId := 10
theorem p_impl_EvalTree : PR.funcs[f_impl_EvalTree]? = some Try.f10 := by unfold PR; exact Try.func10
@[reducible] noncomputable def c_impl_EvalTree : Func := Try.f10
theorem n_impl_EvalTree : c_impl_EvalTree.ntmps = 17 := Try.ntmps10
abbrev f_spec_DrawPredict : FuncId := 11
theorem p_spec_DrawPredict : PR.funcs[f_spec_DrawPredict]? = some Try.f11 := by unfold PR; exact Try.func11
@[reducible] noncomputable def c_spec_DrawPredict : Func := Try.f11
theorem n_spec_DrawPredict : c_spec_DrawPredict.ntmps = 22 := Try.ntmps11
abbrev f_impl_FirstTrees : FuncId := 12
theorem p_impl_FirstTrees : PR.funcs[f_impl_FirstTrees]? = some Try.f12 := by unfold PR; exact Try.func12
@[reducible] noncomputable def c_impl_FirstTrees : Func := Try.f12
theorem n_impl_FirstTrees : c_impl_FirstTrees.ntmps = 18 := Try.ntmps12
abbrev f_spec_Predict : FuncId := 13
theorem p_spec_Predict : PR.funcs[f_spec_Predict]? = some Try.f13 := by unfold PR; exact Try.func13
@[reducible] noncomputable def c_spec_Predict : Func := Try.f13
theorem n_spec_Predict : c_spec_Predict.ntmps = 38 := Try.ntmps13
abbrev f_spec_FirstTrees : FuncId := 14
theorem p_spec_FirstTrees : PR.funcs[f_spec_FirstTrees]? = some Try.f14 := by unfold PR; exact Try.func14
@[reducible] noncomputable def c_spec_FirstTrees : Func := Try.f14
theorem n_spec_FirstTrees : c_spec_FirstTrees.ntmps = 18 := Try.ntmps14
abbrev f_impl_ModelOk : FuncId := 15
theorem p_impl_ModelOk : PR.funcs[f_impl_ModelOk]? = some Try.f15 := by unfold PR; exact Try.func15
@[reducible] noncomputable def c_impl_ModelOk : Func := Try.f15
theorem n_impl_ModelOk : c_impl_ModelOk.ntmps = 50 := Try.ntmps15
abbrev f_impl_RouteTo : FuncId := 16
theorem p_impl_RouteTo : PR.funcs[f_impl_RouteTo]? = some Try.f16 := by unfold PR; exact Try.func16
@[reducible] noncomputable def c_impl_RouteTo : Func := Try.f16
theorem n_impl_RouteTo : c_impl_RouteTo.ntmps = 18 := Try.ntmps16
abbrev f_spec_l1New : FuncId := 17
theorem p_spec_l1New : PR.funcs[f_spec_l1New]? = some Try.f17 := by unfold PR; exact Try.func17
@[reducible] noncomputable def c_spec_l1New : Func := Try.f17
theorem n_spec_l1New : c_spec_l1New.ntmps = 32 := Try.ntmps17
abbrev f_spec_l24Bent : FuncId := 18
theorem p_spec_l24Bent : PR.funcs[f_spec_l24Bent]? = some Try.f18 := by unfold PR; exact Try.func18
@[reducible] noncomputable def c_spec_l24Bent : Func := Try.f18
theorem n_spec_l24Bent : c_spec_l24Bent.ntmps = 61 := Try.ntmps18
abbrev f_spec_l1Once : FuncId := 19
theorem p_spec_l1Once : PR.funcs[f_spec_l1Once]? = some Try.f19 := by unfold PR; exact Try.func19
@[reducible] noncomputable def c_spec_l1Once : Func := Try.f19
theorem n_spec_l1Once : c_spec_l1Once.ntmps = 9 := Try.ntmps19
abbrev f_spec_l1Below : FuncId := 20
theorem p_spec_l1Below : PR.funcs[f_spec_l1Below]? = some Try.f20 := by unfold PR; exact Try.func20
@[reducible] noncomputable def c_spec_l1Below : Func := Try.f20
theorem n_spec_l1Below : c_spec_l1Below.ntmps = 37 := Try.ntmps20
abbrev f_spec_l18Row : FuncId := 21
theorem p_spec_l18Row : PR.funcs[f_spec_l18Row]? = some Try.f21 := by unfold PR; exact Try.func21
@[reducible] noncomputable def c_spec_l18Row : Func := Try.f21
theorem n_spec_l18Row : c_spec_l18Row.ntmps = 31 := Try.ntmps21
abbrev f_impl_copyModel : FuncId := 22
theorem p_impl_copyModel : PR.funcs[f_impl_copyModel]? = some Try.f22 := by unfold PR; exact Try.func22
@[reducible] noncomputable def c_impl_copyModel : Func := Try.f22
theorem n_impl_copyModel : c_impl_copyModel.ntmps = 15 := Try.ntmps22
abbrev f_impl_Brought : FuncId := 23
theorem p_impl_Brought : PR.funcs[f_impl_Brought]? = some Try.f23 := by unfold PR; exact Try.func23
@[reducible] noncomputable def c_impl_Brought : Func := Try.f23
theorem n_impl_Brought : c_impl_Brought.ntmps = 18 := Try.ntmps23
abbrev f_spec_ModelOk : FuncId := 24
theorem p_spec_ModelOk : PR.funcs[f_spec_ModelOk]? = some Try.f24 := by unfold PR; exact Try.func24
@[reducible] noncomputable def c_spec_ModelOk : Func := Try.f24
theorem n_spec_ModelOk : c_spec_ModelOk.ntmps = 91 := Try.ntmps24
abbrev f_spec_EvalTree : FuncId := 25
theorem p_spec_EvalTree : PR.funcs[f_spec_EvalTree]? = some Try.f25 := by unfold PR; exact Try.func25
@[reducible] noncomputable def c_spec_EvalTree : Func := Try.f25
theorem n_spec_EvalTree : c_spec_EvalTree.ntmps = 17 := Try.ntmps25
abbrev f_spec_l24Copy : FuncId := 26
theorem p_spec_l24Copy : PR.funcs[f_spec_l24Copy]? = some Try.f26 := by unfold PR; exact Try.func26
@[reducible] noncomputable def c_spec_l24Copy : Func := Try.f26
theorem n_spec_l24Copy : c_spec_l24Copy.ntmps = 17 := Try.ntmps26
abbrev f_spec_Brought : FuncId := 27
theorem p_spec_Brought : PR.funcs[f_spec_Brought]? = some Try.f27 := by unfold PR; exact Try.func27
@[reducible] noncomputable def c_spec_Brought : Func := Try.f27
theorem n_spec_Brought : c_spec_Brought.ntmps = 16 := Try.ntmps27
abbrev f_impl_within : FuncId := 28
theorem p_impl_within : PR.funcs[f_impl_within]? = some Try.f28 := by unfold PR; exact Try.func28
@[reducible] noncomputable def c_impl_within : Func := Try.f28
theorem n_impl_within : c_impl_within.ntmps = 15 := Try.ntmps28
abbrev f_impl_areNames : FuncId := 29
theorem p_impl_areNames : PR.funcs[f_impl_areNames]? = some Try.f29 := by unfold PR; exact Try.func29
@[reducible] noncomputable def c_impl_areNames : Func := Try.f29
theorem n_impl_areNames : c_impl_areNames.ntmps = 23 := Try.ntmps29
abbrev f_slices_ContainsFunc_Lint_int : FuncId := 30
theorem p_slices_ContainsFunc_Lint_int : PR.funcs[f_slices_ContainsFunc_Lint_int]? = some Try.f30 := by unfold PR; exact Try.func30
@[reducible] noncomputable def c_slices_ContainsFunc_Lint_int : Func := Try.f30
theorem n_slices_ContainsFunc_Lint_int : c_slices_ContainsFunc_Lint_int.ntmps = 9 := Try.ntmps30
abbrev f_impl_ModelOk_1 : FuncId := 31
theorem p_impl_ModelOk_1 : PR.funcs[f_impl_ModelOk_1]? = some Try.f31 := by unfold PR; exact Try.func31
@[reducible] noncomputable def c_impl_ModelOk_1 : Func := Try.f31
theorem n_impl_ModelOk_1 : c_impl_ModelOk_1.ntmps = 6 := Try.ntmps31
abbrev f_impl_isSign : FuncId := 32
theorem p_impl_isSign : PR.funcs[f_impl_isSign]? = some Try.f32 := by unfold PR; exact Try.func32
@[reducible] noncomputable def c_impl_isSign : Func := Try.f32
theorem n_impl_isSign : c_impl_isSign.ntmps = 5 := Try.ntmps32
abbrev f_impl_isDecimal : FuncId := 33
theorem p_impl_isDecimal : PR.funcs[f_impl_isDecimal]? = some Try.f33 := by unfold PR; exact Try.func33
@[reducible] noncomputable def c_impl_isDecimal : Func := Try.f33
theorem n_impl_isDecimal : c_impl_isDecimal.ntmps = 5 := Try.ntmps33
abbrev f_slices_ContainsFunc_Limpl_Tree_impl_Tree : FuncId := 34
theorem p_slices_ContainsFunc_Limpl_Tree_impl_Tree : PR.funcs[f_slices_ContainsFunc_Limpl_Tree_impl_Tree]? = some Try.f34 := by unfold PR; exact Try.func34
@[reducible] noncomputable def c_slices_ContainsFunc_Limpl_Tree_impl_Tree : Func := Try.f34
theorem n_slices_ContainsFunc_Limpl_Tree_impl_Tree : c_slices_ContainsFunc_Limpl_Tree_impl_Tree.ntmps = 9 := Try.ntmps34
abbrev f_impl_ModelOk_2 : FuncId := 35
theorem p_impl_ModelOk_2 : PR.funcs[f_impl_ModelOk_2]? = some Try.f35 := by unfold PR; exact Try.func35
@[reducible] noncomputable def c_impl_ModelOk_2 : Func := Try.f35
theorem n_impl_ModelOk_2 : c_impl_ModelOk_2.ntmps = 8 := Try.ntmps35
abbrev f_impl_TreeOk : FuncId := 36
theorem p_impl_TreeOk : PR.funcs[f_impl_TreeOk]? = some Try.f36 := by unfold PR; exact Try.func36
@[reducible] noncomputable def c_impl_TreeOk : Func := Try.f36
theorem n_impl_TreeOk : c_impl_TreeOk.ntmps = 99 := Try.ntmps36
abbrev f_impl_route : FuncId := 37
theorem p_impl_route : PR.funcs[f_impl_route]? = some Try.f37 := by unfold PR; exact Try.func37
@[reducible] noncomputable def c_impl_route : Func := Try.f37
theorem n_impl_route : c_impl_route.ntmps = 57 := Try.ntmps37
abbrev f_spec_l24Right : FuncId := 38
theorem p_spec_l24Right : PR.funcs[f_spec_l24Right]? = some Try.f38 := by unfold PR; exact Try.func38
@[reducible] noncomputable def c_spec_l24Right : Func := Try.f38
theorem n_spec_l24Right : c_spec_l24Right.ntmps = 55 := Try.ntmps38
abbrev f_spec_l1Pick : FuncId := 39
theorem p_spec_l1Pick : PR.funcs[f_spec_l1Pick]? = some Try.f39 := by unfold PR; exact Try.func39
@[reducible] noncomputable def c_spec_l1Pick : Func := Try.f39
theorem n_spec_l1Pick : c_spec_l1Pick.ntmps = 12 := Try.ntmps39
abbrev f_spec_l1PickInt : FuncId := 40
theorem p_spec_l1PickInt : PR.funcs[f_spec_l1PickInt]? = some Try.f40 := by unfold PR; exact Try.func40
@[reducible] noncomputable def c_spec_l1PickInt : Func := Try.f40
theorem n_spec_l1PickInt : c_spec_l1PickInt.ntmps = 12 := Try.ntmps40
abbrev f_spec_l17Bent : FuncId := 41
theorem p_spec_l17Bent : PR.funcs[f_spec_l17Bent]? = some Try.f41 := by unfold PR; exact Try.func41
@[reducible] noncomputable def c_spec_l17Bent : Func := Try.f41
theorem n_spec_l17Bent : c_spec_l17Bent.ntmps = 85 := Try.ntmps41
abbrev f_spec_OneLeaf : FuncId := 42
theorem p_spec_OneLeaf : PR.funcs[f_spec_OneLeaf]? = some Try.f42 := by unfold PR; exact Try.func42
@[reducible] noncomputable def c_spec_OneLeaf : Func := Try.f42
theorem n_spec_OneLeaf : c_spec_OneLeaf.ntmps = 7 := Try.ntmps42
abbrev f_spec_l1Byte : FuncId := 43
theorem p_spec_l1Byte : PR.funcs[f_spec_l1Byte]? = some Try.f43 := by unfold PR; exact Try.func43
@[reducible] noncomputable def c_spec_l1Byte : Func := Try.f43
theorem n_spec_l1Byte : c_spec_l1Byte.ntmps = 58 := Try.ntmps43
abbrev f_spec_l1Whole : FuncId := 44
theorem p_spec_l1Whole : PR.funcs[f_spec_l1Whole]? = some Try.f44 := by unfold PR; exact Try.func44
@[reducible] noncomputable def c_spec_l1Whole : Func := Try.f44
theorem n_spec_l1Whole : c_spec_l1Whole.ntmps = 32 := Try.ntmps44
abbrev f_slices_Clone_Lstring_string : FuncId := 45
theorem p_slices_Clone_Lstring_string : PR.funcs[f_slices_Clone_Lstring_string]? = some Try.f45 := by unfold PR; exact Try.func45
@[reducible] noncomputable def c_slices_Clone_Lstring_string : Func := Try.f45
theorem n_slices_Clone_Lstring_string : c_slices_Clone_Lstring_string.ntmps = 8 := Try.ntmps45
abbrev f_slices_Clone_Lint_int : FuncId := 46
theorem p_slices_Clone_Lint_int : PR.funcs[f_slices_Clone_Lint_int]? = some Try.f46 := by unfold PR; exact Try.func46
@[reducible] noncomputable def c_slices_Clone_Lint_int : Func := Try.f46
theorem n_slices_Clone_Lint_int : c_slices_Clone_Lint_int.ntmps = 8 := Try.ntmps46
abbrev f_impl_copyTrees : FuncId := 47
theorem p_impl_copyTrees : PR.funcs[f_impl_copyTrees]? = some Try.f47 := by unfold PR; exact Try.func47
@[reducible] noncomputable def c_impl_copyTrees : Func := Try.f47
theorem n_impl_copyTrees : c_impl_copyTrees.ntmps = 20 := Try.ntmps47
abbrev f_spec_l1In : FuncId := 48
theorem p_spec_l1In : PR.funcs[f_spec_l1In]? = some Try.f48 := by unfold PR; exact Try.func48
@[reducible] noncomputable def c_spec_l1In : Func := Try.f48
theorem n_spec_l1In : c_spec_l1In.ntmps = 15 := Try.ntmps48
abbrev f_spec_l6Value : FuncId := 49
theorem p_spec_l6Value : PR.funcs[f_spec_l6Value]? = some Try.f49 := by unfold PR; exact Try.func49
@[reducible] noncomputable def c_spec_l6Value : Func := Try.f49
theorem n_spec_l6Value : c_spec_l6Value.ntmps = 5 := Try.ntmps49
abbrev f_spec_NameOk : FuncId := 50
theorem p_spec_NameOk : PR.funcs[f_spec_NameOk]? = some Try.f50 := by unfold PR; exact Try.func50
@[reducible] noncomputable def c_spec_NameOk : Func := Try.f50
theorem n_spec_NameOk : c_spec_NameOk.ntmps = 33 := Try.ntmps50
abbrev f_spec_l9Has : FuncId := 51
theorem p_spec_l9Has : PR.funcs[f_spec_l9Has]? = some Try.f51 := by unfold PR; exact Try.func51
@[reducible] noncomputable def c_spec_l9Has : Func := Try.f51
theorem n_spec_l9Has : c_spec_l9Has.ntmps = 18 := Try.ntmps51
abbrev f_spec_TreeOk : FuncId := 52
theorem p_spec_TreeOk : PR.funcs[f_spec_TreeOk]? = some Try.f52 := by unfold PR; exact Try.func52
@[reducible] noncomputable def c_spec_TreeOk : Func := Try.f52
theorem n_spec_TreeOk : c_spec_TreeOk.ntmps = 27 := Try.ntmps52
abbrev f_spec_RouteTo : FuncId := 53
theorem p_spec_RouteTo : PR.funcs[f_spec_RouteTo]? = some Try.f53 := by unfold PR; exact Try.func53
@[reducible] noncomputable def c_spec_RouteTo : Func := Try.f53
theorem n_spec_RouteTo : c_spec_RouteTo.ntmps = 18 := Try.ntmps53
abbrev f_spec_l22Trees : FuncId := 54
theorem p_spec_l22Trees : PR.funcs[f_spec_l22Trees]? = some Try.f54 := by unfold PR; exact Try.func54
@[reducible] noncomputable def c_spec_l22Trees : Func := Try.f54
theorem n_spec_l22Trees : c_spec_l22Trees.ntmps = 21 := Try.ntmps54
abbrev f_impl_NameOk : FuncId := 55
theorem p_impl_NameOk : PR.funcs[f_impl_NameOk]? = some Try.f55 := by unfold PR; exact Try.func55
@[reducible] noncomputable def c_impl_NameOk : Func := Try.f55
theorem n_impl_NameOk : c_impl_NameOk.ntmps = 42 := Try.ntmps55
abbrev f_slices_Contains_Lstring_string : FuncId := 56
theorem p_slices_Contains_Lstring_string : PR.funcs[f_slices_Contains_Lstring_string]? = some Try.f56 := by unfold PR; exact Try.func56
@[reducible] noncomputable def c_slices_Contains_Lstring_string : Func := Try.f56
theorem n_slices_Contains_Lstring_string : c_slices_Contains_Lstring_string.ntmps = 9 := Try.ntmps56
abbrev f_slices_IndexFunc_Lint_int : FuncId := 57
theorem p_slices_IndexFunc_Lint_int : PR.funcs[f_slices_IndexFunc_Lint_int]? = some Try.f57 := by unfold PR; exact Try.func57
@[reducible] noncomputable def c_slices_IndexFunc_Lint_int : Func := Try.f57
theorem n_slices_IndexFunc_Lint_int : c_slices_IndexFunc_Lint_int.ntmps = 19 := Try.ntmps57
abbrev f_slices_IndexFunc_Limpl_Tree_impl_Tree : FuncId := 58
theorem p_slices_IndexFunc_Limpl_Tree_impl_Tree : PR.funcs[f_slices_IndexFunc_Limpl_Tree_impl_Tree]? = some Try.f58 := by unfold PR; exact Try.func58
@[reducible] noncomputable def c_slices_IndexFunc_Limpl_Tree_impl_Tree : Func := Try.f58
theorem n_slices_IndexFunc_Limpl_Tree_impl_Tree : c_slices_IndexFunc_Limpl_Tree_impl_Tree.ntmps = 19 := Try.ntmps58
abbrev f_impl_shapeOk : FuncId := 59
theorem p_impl_shapeOk : PR.funcs[f_impl_shapeOk]? = some Try.f59 := by unfold PR; exact Try.func59
@[reducible] noncomputable def c_impl_shapeOk : Func := Try.f59
theorem n_impl_shapeOk : c_impl_shapeOk.ntmps = 72 := Try.ntmps59
abbrev f_impl_isLeaf : FuncId := 60
theorem p_impl_isLeaf : PR.funcs[f_impl_isLeaf]? = some Try.f60 := by unfold PR; exact Try.func60
@[reducible] noncomputable def c_impl_isLeaf : Func := Try.f60
theorem n_impl_isLeaf : c_impl_isLeaf.ntmps = 6 := Try.ntmps60
abbrev f_impl_LevelOf : FuncId := 61
theorem p_impl_LevelOf : PR.funcs[f_impl_LevelOf]? = some Try.f61 := by unfold PR; exact Try.func61
@[reducible] noncomputable def c_impl_LevelOf : Func := Try.f61
theorem n_impl_LevelOf : c_impl_LevelOf.ntmps = 10 := Try.ntmps61
abbrev f_impl_wayTo : FuncId := 62
theorem p_impl_wayTo : PR.funcs[f_impl_wayTo]? = some Try.f62 := by unfold PR; exact Try.func62
@[reducible] noncomputable def c_impl_wayTo : Func := Try.f62
theorem n_impl_wayTo : c_impl_wayTo.ntmps = 34 := Try.ntmps62
abbrev f_spec_l17Right : FuncId := 63
theorem p_spec_l17Right : PR.funcs[f_spec_l17Right]? = some Try.f63 := by unfold PR; exact Try.func63
@[reducible] noncomputable def c_spec_l17Right : Func := Try.f63
theorem n_spec_l17Right : c_spec_l17Right.ntmps = 54 := Try.ntmps63
abbrev f_impl_copyTree : FuncId := 64
theorem p_impl_copyTree : PR.funcs[f_impl_copyTree]? = some Try.f64 := by unfold PR; exact Try.func64
@[reducible] noncomputable def c_impl_copyTree : Func := Try.f64
theorem n_impl_copyTree : c_impl_copyTree.ntmps = 7 := Try.ntmps64
abbrev f_spec_l17Shape : FuncId := 65
theorem p_spec_l17Shape : PR.funcs[f_spec_l17Shape]? = some Try.f65 := by unfold PR; exact Try.func65
@[reducible] noncomputable def c_spec_l17Shape : Func := Try.f65
theorem n_spec_l17Shape : c_spec_l17Shape.ntmps = 77 := Try.ntmps65
abbrev f_spec_DepthOf : FuncId := 66
theorem p_spec_DepthOf : PR.funcs[f_spec_DepthOf]? = some Try.f66 := by unfold PR; exact Try.func66
@[reducible] noncomputable def c_spec_DepthOf : Func := Try.f66
theorem n_spec_DepthOf : c_spec_DepthOf.ntmps = 18 := Try.ntmps66
abbrev f_spec_l17Ways : FuncId := 67
theorem p_spec_l17Ways : PR.funcs[f_spec_l17Ways]? = some Try.f67 := by unfold PR; exact Try.func67
@[reducible] noncomputable def c_spec_l17Ways : Func := Try.f67
theorem n_spec_l17Ways : c_spec_l17Ways.ntmps = 79 := Try.ntmps67
abbrev f_spec_l18Way : FuncId := 68
theorem p_spec_l18Way : PR.funcs[f_spec_l18Way]? = some Try.f68 := by unfold PR; exact Try.func68
@[reducible] noncomputable def c_spec_l18Way : Func := Try.f68
theorem n_spec_l18Way : c_spec_l18Way.ntmps = 59 := Try.ntmps68
abbrev f_spec_l17Copy : FuncId := 69
theorem p_spec_l17Copy : PR.funcs[f_spec_l17Copy]? = some Try.f69 := by unfold PR; exact Try.func69
@[reducible] noncomputable def c_spec_l17Copy : Func := Try.f69
theorem n_spec_l17Copy : c_spec_l17Copy.ntmps = 8 := Try.ntmps69
abbrev f_slices_Index_Lstring_string : FuncId := 70
theorem p_slices_Index_Lstring_string : PR.funcs[f_slices_Index_Lstring_string]? = some Try.f70 := by unfold PR; exact Try.func70
@[reducible] noncomputable def c_slices_Index_Lstring_string : Func := Try.f70
theorem n_slices_Index_Lstring_string : c_slices_Index_Lstring_string.ntmps = 19 := Try.ntmps70
abbrev f_impl_isLeafValue : FuncId := 71
theorem p_impl_isLeafValue : PR.funcs[f_impl_isLeafValue]? = some Try.f71 := by unfold PR; exact Try.func71
@[reducible] noncomputable def c_impl_isLeafValue : Func := Try.f71
theorem n_impl_isLeafValue : c_impl_isLeafValue.ntmps = 5 := Try.ntmps71
abbrev f_impl_parent : FuncId := 72
theorem p_impl_parent : PR.funcs[f_impl_parent]? = some Try.f72 := by unfold PR; exact Try.func72
@[reducible] noncomputable def c_impl_parent : Func := Try.f72
theorem n_impl_parent : c_impl_parent.ntmps = 9 := Try.ntmps72
abbrev f_slices_Reverse_Lint_int : FuncId := 73
theorem p_slices_Reverse_Lint_int : PR.funcs[f_slices_Reverse_Lint_int]? = some Try.f73 := by unfold PR; exact Try.func73
@[reducible] noncomputable def c_slices_Reverse_Lint_int : Func := Try.f73
theorem n_slices_Reverse_Lint_int : c_slices_Reverse_Lint_int.ntmps = 28 := Try.ntmps73
abbrev f_spec_LeavesOf : FuncId := 74
theorem p_spec_LeavesOf : PR.funcs[f_spec_LeavesOf]? = some Try.f74 := by unfold PR; exact Try.func74
@[reducible] noncomputable def c_spec_LeavesOf : Func := Try.f74
theorem n_spec_LeavesOf : c_spec_LeavesOf.ntmps = 25 := Try.ntmps74
abbrev f_spec_l17Grown : FuncId := 75
theorem p_spec_l17Grown : PR.funcs[f_spec_l17Grown]? = some Try.f75 := by unfold PR; exact Try.func75
@[reducible] noncomputable def c_spec_l17Grown : Func := Try.f75
theorem n_spec_l17Grown : c_spec_l17Grown.ntmps = 37 := Try.ntmps75
abbrev f_slices_Clone_Limpl_Node_impl_Node : FuncId := 76
theorem p_slices_Clone_Limpl_Node_impl_Node : PR.funcs[f_slices_Clone_Limpl_Node_impl_Node]? = some Try.f76 := by unfold PR; exact Try.func76
@[reducible] noncomputable def c_slices_Clone_Limpl_Node_impl_Node : Func := Try.f76
theorem n_slices_Clone_Limpl_Node_impl_Node : c_slices_Clone_Limpl_Node_impl_Node.ntmps = 8 := Try.ntmps76
abbrev f_spec_l17Inner : FuncId := 77
theorem p_spec_l17Inner : PR.funcs[f_spec_l17Inner]? = some Try.f77 := by unfold PR; exact Try.func77
@[reducible] noncomputable def c_spec_l17Inner : Func := Try.f77
theorem n_spec_l17Inner : c_spec_l17Inner.ntmps = 6 := Try.ntmps77
abbrev f_spec_l14Leaf : FuncId := 78
theorem p_spec_l14Leaf : PR.funcs[f_spec_l14Leaf]? = some Try.f78 := by unfold PR; exact Try.func78
@[reducible] noncomputable def c_spec_l14Leaf : Func := Try.f78
theorem n_spec_l14Leaf : c_spec_l14Leaf.ntmps = 5 := Try.ntmps78
abbrev f_spec_l1Max : FuncId := 79
theorem p_spec_l1Max : PR.funcs[f_spec_l1Max]? = some Try.f79 := by unfold PR; exact Try.func79
@[reducible] noncomputable def c_spec_l1Max : Func := Try.f79
theorem n_spec_l1Max : c_spec_l1Max.ntmps = 10 := Try.ntmps79
abbrev f_spec_LevelOf : FuncId := 80
theorem p_spec_LevelOf : PR.funcs[f_spec_LevelOf]? = some Try.f80 := by unfold PR; exact Try.func80
@[reducible] noncomputable def c_spec_LevelOf : Func := Try.f80
theorem n_spec_LevelOf : c_spec_LevelOf.ntmps = 23 := Try.ntmps80
abbrev f_spec_l17Up : FuncId := 81
theorem p_spec_l17Up : PR.funcs[f_spec_l17Up]? = some Try.f81 := by unfold PR; exact Try.func81
@[reducible] noncomputable def c_spec_l17Up : Func := Try.f81
theorem n_spec_l17Up : c_spec_l17Up.ntmps = 40 := Try.ntmps81
abbrev f_slices_IndexFunc_Limpl_Node_impl_Node : FuncId := 82
theorem p_slices_IndexFunc_Limpl_Node_impl_Node : PR.funcs[f_slices_IndexFunc_Limpl_Node_impl_Node]? = some Try.f82 := by unfold PR; exact Try.func82
@[reducible] noncomputable def c_slices_IndexFunc_Limpl_Node_impl_Node : Func := Try.f82
theorem n_slices_IndexFunc_Limpl_Node_impl_Node : c_slices_IndexFunc_Limpl_Node_impl_Node.ntmps = 19 := Try.ntmps82
abbrev f_impl_parent_1 : FuncId := 83
theorem p_impl_parent_1 : PR.funcs[f_impl_parent_1]? = some Try.f83 := by unfold PR; exact Try.func83
@[reducible] noncomputable def c_impl_parent_1 : Func := Try.f83
theorem n_impl_parent_1 : c_impl_parent_1.ntmps = 19 := Try.ntmps83
abbrev f_spec_l17Levels : FuncId := 84
theorem p_spec_l17Levels : PR.funcs[f_spec_l17Levels]? = some Try.f84 := by unfold PR; exact Try.func84
@[reducible] noncomputable def c_spec_l17Levels : Func := Try.f84
theorem n_spec_l17Levels : c_spec_l17Levels.ntmps = 46 := Try.ntmps84
end Go.H.S
