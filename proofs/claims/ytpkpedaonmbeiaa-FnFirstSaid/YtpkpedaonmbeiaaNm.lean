/- The numbers of functions and types in this seat, and the table of types. -/
import Derived.Test.YtpkpedaonmbeiaaProg
import Derived.Test.YtpkpedaonmbeiaaH28
namespace Go.H.S
open Go Go.Proofs Go.H
@[irreducible] noncomputable def PR : Program := Try.prog
def tab : List (Nat × TI) :=
[(2, ⟨.int .i64, 1, 8, [.d (.int .i64 0)], none⟩),
  (3, ⟨.int .i64, 1, 8, [.d (.int .i64 0)], none⟩),
  (4, ⟨.bool, 1, 1, [.d (.bool false)], none⟩),
  (5, ⟨.int .u8, 1, 1, [.d (.int .u8 0)], none⟩),
  (9, ⟨.str, 1, 16, [.d (.str ⟨#[]⟩)], none⟩),
  (21, ⟨.int .i32, 1, 4, [.d (.int .i32 0)], none⟩),
  (22, ⟨.slice 5, 1, 24, [.nl 1], none⟩),
  (24, ⟨.slice 33, 1, 24, [.nl 5], none⟩),
  (25, ⟨.struct [(0, 24)], 1, 24, [.nl 5], none⟩),
  (26, ⟨.struct [(0, 24)], 1, 24, [.nl 5], none⟩),
  (32, ⟨.struct [(0, 3), (1, 3), (2, 3), (3, 3), (4, 3)], 5, 40, [.d (.int .i64 0), .d (.int .i64 0), .d (.int .i64 0), .d (.int .i64 0), .d (.int .i64 0)], none⟩),
  (33, ⟨.struct [(0, 3), (1, 3), (2, 3), (3, 3), (4, 3)], 5, 40, [.d (.int .i64 0), .d (.int .i64 0), .d (.int .i64 0), .d (.int .i64 0), .d (.int .i64 0)], none⟩),
  (35, ⟨.slice 9, 1, 24, [.nl 1], none⟩),
  (36, ⟨.slice 37, 1, 24, [.nl 1], none⟩),
  (37, ⟨.slice 3, 1, 24, [.nl 1], none⟩),
  (38, ⟨.struct [(0, 35), (1, 9), (2, 36), (3, 37)], 4, 88, [.nl 1, .d (.str ⟨#[]⟩), .nl 1, .nl 1], none⟩),
  (39, ⟨.struct [(0, 35), (1, 9), (2, 36), (3, 37)], 4, 88, [.nl 1, .d (.str ⟨#[]⟩), .nl 1, .nl 1], none⟩),
  (46, ⟨.slice 88, 1, 24, [.nl 1], none⟩),
  (47, ⟨.struct [(0, 35), (1, 37), (2, 3), (3, 46)], 4, 80, [.nl 1, .nl 1, .d (.int .i64 0), .nl 1], none⟩),
  (48, ⟨.struct [(0, 35), (1, 37), (2, 3), (3, 46)], 4, 80, [.nl 1, .nl 1, .d (.int .i64 0), .nl 1], none⟩),
  (49, ⟨.struct [(0, 9), (1, 9), (2, 48), (6, 4)], 7, 120, [.d (.str ⟨#[]⟩), .d (.str ⟨#[]⟩), .nl 1, .nl 1, .d (.int .i64 0), .nl 1, .d (.bool false)], none⟩),
  (50, ⟨.struct [(0, 9), (1, 9), (2, 48), (6, 4)], 7, 120, [.d (.str ⟨#[]⟩), .d (.str ⟨#[]⟩), .nl 1, .nl 1, .d (.int .i64 0), .nl 1, .d (.bool false)], none⟩),
  (53, ⟨.slice 26, 1, 24, [.nl 1], none⟩),
  (54, ⟨.struct [(0, 35), (1, 37), (2, 3), (3, 53)], 4, 80, [.nl 1, .nl 1, .d (.int .i64 0), .nl 1], none⟩),
  (55, ⟨.struct [(0, 35), (1, 37), (2, 3), (3, 53)], 4, 80, [.nl 1, .nl 1, .d (.int .i64 0), .nl 1], none⟩),
  (56, ⟨.struct [(0, 9), (1, 9), (2, 55), (6, 4)], 7, 120, [.d (.str ⟨#[]⟩), .d (.str ⟨#[]⟩), .nl 1, .nl 1, .d (.int .i64 0), .nl 1, .d (.bool false)], none⟩),
  (57, ⟨.struct [(0, 9), (1, 9), (2, 55), (6, 4)], 7, 120, [.d (.str ⟨#[]⟩), .d (.str ⟨#[]⟩), .nl 1, .nl 1, .d (.int .i64 0), .nl 1, .d (.bool false)], none⟩),
  (60, ⟨.struct [(0, 35), (1, 9), (2, 36), (3, 37)], 4, 88, [.nl 1, .d (.str ⟨#[]⟩), .nl 1, .nl 1], none⟩),
  (84, ⟨.struct [(0, 36), (1, 36)], 2, 48, [.nl 1, .nl 1], none⟩),
  (85, ⟨.struct [(0, 36), (1, 36)], 2, 48, [.nl 1, .nl 1], none⟩),
  (86, ⟨.slice 164, 1, 24, [.nl 5], none⟩),
  (87, ⟨.struct [(0, 86)], 1, 24, [.nl 5], none⟩),
  (88, ⟨.struct [(0, 86)], 1, 24, [.nl 5], none⟩),
  (92, ⟨.struct [(0, 36), (1, 36)], 2, 48, [.nl 1, .nl 1], none⟩),
  (112, ⟨.arr 2 39, 8, 176, [.nl 1, .d (.str ⟨#[]⟩), .nl 1, .nl 1, .nl 1, .d (.str ⟨#[]⟩), .nl 1, .nl 1], none⟩),
  (146, ⟨.struct [(0, 22), (1, 3), (2, 3)], 3, 40, [.nl 1, .d (.int .i64 0), .d (.int .i64 0)], none⟩),
  (147, ⟨.struct [(0, 22), (1, 3), (2, 3)], 3, 40, [.nl 1, .d (.int .i64 0), .d (.int .i64 0)], none⟩),
  (153, ⟨.slice 35, 1, 24, [.nl 1], none⟩),
  (164, ⟨.struct [(0, 3), (1, 3), (2, 3), (3, 3), (4, 3)], 5, 40, [.d (.int .i64 0), .d (.int .i64 0), .d (.int .i64 0), .d (.int .i64 0), .d (.int .i64 0)], none⟩),
  (170, ⟨.int .u64, 1, 8, [.d (.int .u64 0)], none⟩),
  (184, ⟨.int .u32, 1, 4, [.d (.int .u32 0)], none⟩)]
def T (t : TypeId) : Option TI := look tab t
theorem hT0 : TOk Try.prog T := tabOk_sound (by kernel_rfl)
theorem hT : TOk PR T := by unfold PR; exact hT0
def ntab : List (Nat × TI) :=
[(2, ⟨.int .i64, 1, 8, [.d (.int .i64 0)], none⟩),
  (3, ⟨.int .i64, 1, 8, [.d (.int .i64 0)], none⟩),
  (4, ⟨.bool, 1, 1, [.d (.bool false)], none⟩),
  (5, ⟨.int .u8, 1, 1, [.d (.int .u8 0)], none⟩),
  (9, ⟨.str, 1, 16, [.d (.str ⟨#[]⟩)], none⟩),
  (21, ⟨.int .i32, 1, 4, [.d (.int .i32 0)], none⟩),
  (22, ⟨.slice 5, 1, 24, [.nl 1], some [5]⟩),
  (24, ⟨.slice 33, 1, 24, [.nl 5], some [33]⟩),
  (25, ⟨.struct [(0, 24)], 1, 24, [.nl 5], some [33]⟩),
  (26, ⟨.struct [(0, 24)], 1, 24, [.nl 5], some [33]⟩),
  (32, ⟨.struct [(0, 3), (1, 3), (2, 3), (3, 3), (4, 3)], 5, 40, [.d (.int .i64 0), .d (.int .i64 0), .d (.int .i64 0), .d (.int .i64 0), .d (.int .i64 0)], none⟩),
  (33, ⟨.struct [(0, 3), (1, 3), (2, 3), (3, 3), (4, 3)], 5, 40, [.d (.int .i64 0), .d (.int .i64 0), .d (.int .i64 0), .d (.int .i64 0), .d (.int .i64 0)], none⟩),
  (35, ⟨.slice 9, 1, 24, [.nl 1], some [9]⟩),
  (36, ⟨.slice 37, 1, 24, [.nl 1], none⟩),
  (37, ⟨.slice 3, 1, 24, [.nl 1], some [3]⟩),
  (38, ⟨.struct [(0, 35), (1, 9), (2, 36), (3, 37)], 4, 88, [.nl 1, .d (.str ⟨#[]⟩), .nl 1, .nl 1], none⟩),
  (39, ⟨.struct [(0, 35), (1, 9), (2, 36), (3, 37)], 4, 88, [.nl 1, .d (.str ⟨#[]⟩), .nl 1, .nl 1], none⟩),
  (46, ⟨.slice 88, 1, 24, [.nl 1], none⟩),
  (47, ⟨.struct [(0, 35), (1, 37), (2, 3), (3, 46)], 4, 80, [.nl 1, .nl 1, .d (.int .i64 0), .nl 1], none⟩),
  (48, ⟨.struct [(0, 35), (1, 37), (2, 3), (3, 46)], 4, 80, [.nl 1, .nl 1, .d (.int .i64 0), .nl 1], none⟩),
  (49, ⟨.struct [(0, 9), (1, 9), (2, 48), (6, 4)], 7, 120, [.d (.str ⟨#[]⟩), .d (.str ⟨#[]⟩), .nl 1, .nl 1, .d (.int .i64 0), .nl 1, .d (.bool false)], none⟩),
  (50, ⟨.struct [(0, 9), (1, 9), (2, 48), (6, 4)], 7, 120, [.d (.str ⟨#[]⟩), .d (.str ⟨#[]⟩), .nl 1, .nl 1, .d (.int .i64 0), .nl 1, .d (.bool false)], none⟩),
  (53, ⟨.slice 26, 1, 24, [.nl 1], none⟩),
  (54, ⟨.struct [(0, 35), (1, 37), (2, 3), (3, 53)], 4, 80, [.nl 1, .nl 1, .d (.int .i64 0), .nl 1], none⟩),
  (55, ⟨.struct [(0, 35), (1, 37), (2, 3), (3, 53)], 4, 80, [.nl 1, .nl 1, .d (.int .i64 0), .nl 1], none⟩),
  (56, ⟨.struct [(0, 9), (1, 9), (2, 55), (6, 4)], 7, 120, [.d (.str ⟨#[]⟩), .d (.str ⟨#[]⟩), .nl 1, .nl 1, .d (.int .i64 0), .nl 1, .d (.bool false)], none⟩),
  (57, ⟨.struct [(0, 9), (1, 9), (2, 55), (6, 4)], 7, 120, [.d (.str ⟨#[]⟩), .d (.str ⟨#[]⟩), .nl 1, .nl 1, .d (.int .i64 0), .nl 1, .d (.bool false)], none⟩),
  (60, ⟨.struct [(0, 35), (1, 9), (2, 36), (3, 37)], 4, 88, [.nl 1, .d (.str ⟨#[]⟩), .nl 1, .nl 1], none⟩),
  (84, ⟨.struct [(0, 36), (1, 36)], 2, 48, [.nl 1, .nl 1], none⟩),
  (85, ⟨.struct [(0, 36), (1, 36)], 2, 48, [.nl 1, .nl 1], none⟩),
  (86, ⟨.slice 164, 1, 24, [.nl 5], some [164]⟩),
  (87, ⟨.struct [(0, 86)], 1, 24, [.nl 5], some [164]⟩),
  (88, ⟨.struct [(0, 86)], 1, 24, [.nl 5], some [164]⟩),
  (92, ⟨.struct [(0, 36), (1, 36)], 2, 48, [.nl 1, .nl 1], none⟩),
  (112, ⟨.arr 2 39, 8, 176, [.nl 1, .d (.str ⟨#[]⟩), .nl 1, .nl 1, .nl 1, .d (.str ⟨#[]⟩), .nl 1, .nl 1], none⟩),
  (146, ⟨.struct [(0, 22), (1, 3), (2, 3)], 3, 40, [.nl 1, .d (.int .i64 0), .d (.int .i64 0)], some [5, 0, 0]⟩),
  (147, ⟨.struct [(0, 22), (1, 3), (2, 3)], 3, 40, [.nl 1, .d (.int .i64 0), .d (.int .i64 0)], some [5, 0, 0]⟩),
  (153, ⟨.slice 35, 1, 24, [.nl 1], none⟩),
  (164, ⟨.struct [(0, 3), (1, 3), (2, 3), (3, 3), (4, 3)], 5, 40, [.d (.int .i64 0), .d (.int .i64 0), .d (.int .i64 0), .d (.int .i64 0), .d (.int .i64 0)], none⟩),
  (170, ⟨.int .u64, 1, 8, [.d (.int .u64 0)], none⟩),
  (184, ⟨.int .u32, 1, 4, [.d (.int .u32 0)], none⟩)]
def TN (t : TypeId) : Option TI := look ntab t
theorem hTn0 : TOk Try.prog TN := tabOk_sound (by kernel_rfl)
theorem hTn : TOk PR TN := by unfold PR; exact hTn0
def ptab : List (Nat × TI) :=
[(2, ⟨.int .i64, 1, 8, [.d (.int .i64 0)], none⟩),
  (3, ⟨.int .i64, 1, 8, [.d (.int .i64 0)], none⟩),
  (4, ⟨.bool, 1, 1, [.d (.bool false)], none⟩),
  (5, ⟨.int .u8, 1, 1, [.d (.int .u8 0)], none⟩),
  (9, ⟨.str, 1, 16, [.d (.str ⟨#[]⟩)], none⟩),
  (21, ⟨.int .i32, 1, 4, [.d (.int .i32 0)], none⟩),
  (22, ⟨.slice 5, 1, 24, [.nl 1], none⟩),
  (24, ⟨.slice 33, 1, 24, [.nl 5], none⟩),
  (25, ⟨.struct [(0, 24)], 1, 24, [.nl 5], none⟩),
  (26, ⟨.struct [(0, 24)], 1, 24, [.nl 5], none⟩),
  (32, ⟨.struct [(0, 3), (1, 3), (2, 3), (3, 3), (4, 3)], 5, 40, [.d (.int .i64 0), .d (.int .i64 0), .d (.int .i64 0), .d (.int .i64 0), .d (.int .i64 0)], none⟩),
  (33, ⟨.struct [(0, 3), (1, 3), (2, 3), (3, 3), (4, 3)], 5, 40, [.d (.int .i64 0), .d (.int .i64 0), .d (.int .i64 0), .d (.int .i64 0), .d (.int .i64 0)], none⟩),
  (35, ⟨.slice 9, 1, 24, [.nl 1], none⟩),
  (36, ⟨.slice 37, 1, 24, [.nl 1], none⟩),
  (37, ⟨.slice 3, 1, 24, [.nl 1], none⟩),
  (38, ⟨.struct [(0, 35), (1, 9), (2, 36), (3, 37)], 4, 88, [.nl 1, .d (.str ⟨#[]⟩), .nl 1, .nl 1], none⟩),
  (39, ⟨.struct [(0, 35), (1, 9), (2, 36), (3, 37)], 4, 88, [.nl 1, .d (.str ⟨#[]⟩), .nl 1, .nl 1], none⟩),
  (46, ⟨.slice 88, 1, 24, [.nl 1], none⟩),
  (47, ⟨.struct [(0, 35), (1, 37), (2, 3), (3, 46)], 4, 80, [.nl 1, .nl 1, .d (.int .i64 0), .nl 1], none⟩),
  (48, ⟨.struct [(0, 35), (1, 37), (2, 3), (3, 46)], 4, 80, [.nl 1, .nl 1, .d (.int .i64 0), .nl 1], none⟩),
  (49, ⟨.struct [(0, 9), (1, 9), (2, 48), (6, 4)], 7, 120, [.d (.str ⟨#[]⟩), .d (.str ⟨#[]⟩), .nl 1, .nl 1, .d (.int .i64 0), .nl 1, .d (.bool false)], none⟩),
  (50, ⟨.struct [(0, 9), (1, 9), (2, 48), (6, 4)], 7, 120, [.d (.str ⟨#[]⟩), .d (.str ⟨#[]⟩), .nl 1, .nl 1, .d (.int .i64 0), .nl 1, .d (.bool false)], none⟩),
  (53, ⟨.slice 26, 1, 24, [.nl 1], none⟩),
  (54, ⟨.struct [(0, 35), (1, 37), (2, 3), (3, 53)], 4, 80, [.nl 1, .nl 1, .d (.int .i64 0), .nl 1], none⟩),
  (55, ⟨.struct [(0, 35), (1, 37), (2, 3), (3, 53)], 4, 80, [.nl 1, .nl 1, .d (.int .i64 0), .nl 1], none⟩),
  (56, ⟨.struct [(0, 9), (1, 9), (2, 55), (6, 4)], 7, 120, [.d (.str ⟨#[]⟩), .d (.str ⟨#[]⟩), .nl 1, .nl 1, .d (.int .i64 0), .nl 1, .d (.bool false)], none⟩),
  (57, ⟨.struct [(0, 9), (1, 9), (2, 55), (6, 4)], 7, 120, [.d (.str ⟨#[]⟩), .d (.str ⟨#[]⟩), .nl 1, .nl 1, .d (.int .i64 0), .nl 1, .d (.bool false)], none⟩),
  (60, ⟨.struct [(0, 35), (1, 9), (2, 36), (3, 37)], 4, 88, [.nl 1, .d (.str ⟨#[]⟩), .nl 1, .nl 1], none⟩),
  (84, ⟨.struct [(0, 36), (1, 36)], 2, 48, [.nl 1, .nl 1], none⟩),
  (85, ⟨.struct [(0, 36), (1, 36)], 2, 48, [.nl 1, .nl 1], none⟩),
  (86, ⟨.slice 164, 1, 24, [.nl 5], none⟩),
  (87, ⟨.struct [(0, 86)], 1, 24, [.nl 5], none⟩),
  (88, ⟨.struct [(0, 86)], 1, 24, [.nl 5], none⟩),
  (92, ⟨.struct [(0, 36), (1, 36)], 2, 48, [.nl 1, .nl 1], none⟩),
  (146, ⟨.struct [(0, 22), (1, 3), (2, 3)], 3, 40, [.nl 1, .d (.int .i64 0), .d (.int .i64 0)], none⟩),
  (147, ⟨.struct [(0, 22), (1, 3), (2, 3)], 3, 40, [.nl 1, .d (.int .i64 0), .d (.int .i64 0)], none⟩),
  (153, ⟨.slice 35, 1, 24, [.nl 1], none⟩),
  (164, ⟨.struct [(0, 3), (1, 3), (2, 3), (3, 3), (4, 3)], 5, 40, [.d (.int .i64 0), .d (.int .i64 0), .d (.int .i64 0), .d (.int .i64 0), .d (.int .i64 0)], none⟩),
  (170, ⟨.int .u64, 1, 8, [.d (.int .u64 0)], none⟩),
  (184, ⟨.int .u32, 1, 4, [.d (.int .u32 0)], none⟩)]
def Tp (t : TypeId) : Option TI := look ptab t
theorem hTp : TOk Try.prog Tp := tabOk_sound (by kernel_rfl)
theorem hmix : PR.follows .mixedOrders = true := by unfold PR; kernel_rfl
abbrev t_int64 : TypeId := 2
abbrev t_int : TypeId := 3
abbrev t_bool : TypeId := 4
abbrev t_uint8 : TypeId := 5
abbrev t_abi_BoundsErrorCode : TypeId := 6
abbrev t_runtime_boundsError : TypeId := 8
abbrev t_string : TypeId := 9
abbrev t_runtime_errorString : TypeId := 10
abbrev t_runtime_plainError : TypeId := 11
abbrev t_uintptr : TypeId := 12
abbrev t_runtime_errorAddressString : TypeId := 14
abbrev t_Pruntime_TypeAssertionError : TypeId := 15
abbrev t_Pruntime_PanicNilError : TypeId := 16
abbrev t_Pabi_Type : TypeId := 17
abbrev t_maps_unhashableTypeError : TypeId := 19
abbrev t_int32 : TypeId := 21
abbrev t_Luint8 : TypeId := 22
abbrev t_Limpl_Node : TypeId := 24
abbrev t_impl_Tree : TypeId := 26
abbrev t_impl_Node : TypeId := 33
abbrev t_Lstring : TypeId := 35
abbrev t_LLint : TypeId := 36
abbrev t_Lint : TypeId := 37
abbrev t_impl_Table : TypeId := 39
abbrev t_Llaws_Tree : TypeId := 46
abbrev t_laws_Model : TypeId := 48
abbrev t_laws_Desk : TypeId := 50
abbrev t_Limpl_Tree : TypeId := 53
abbrev t_impl_Model : TypeId := 55
abbrev t_impl_Desk : TypeId := 57
abbrev t_laws_Table : TypeId := 60
abbrev t_laws_Grid : TypeId := 85
abbrev t_Llaws_Node : TypeId := 86
abbrev t_laws_Tree : TypeId := 88
abbrev t_impl_Grid : TypeId := 92
abbrev t_Pspec_l1Cur : TypeId := 107
abbrev t_2_impl_Table : TypeId := 112
abbrev t_spec_l1Cur : TypeId := 147
abbrev t_LLstring : TypeId := 153
abbrev t_laws_Node : TypeId := 164
abbrev t_uint : TypeId := 170
abbrev t_runtime_TypeAssertionError : TypeId := 179
abbrev t_0_Pruntime_PanicNilError : TypeId := 180
abbrev t_runtime_PanicNilError : TypeId := 182
abbrev t_uint32 : TypeId := 184
abbrev t_abi_TFlag : TypeId := 185
abbrev t_abi_Kind : TypeId := 186
abbrev t_Puint8 : TypeId := 188
abbrev t_abi_NameOff : TypeId := 189
abbrev t_abi_TypeOff : TypeId := 190
abbrev t_abi_Type : TypeId := 192
abbrev t_unsafe_Pointer : TypeId := 193
abbrev f_laws_FnSpan : FuncId := 3
theorem p_laws_FnSpan : PR.funcs[f_laws_FnSpan]? = some Try.f3 := by unfold PR; exact Try.func3
@[reducible] noncomputable def c_laws_FnSpan : Func := Try.f3
theorem n_laws_FnSpan : c_laws_FnSpan.ntmps = 148 := Try.ntmps3
abbrev f_laws_FnFolds : FuncId := 4
theorem p_laws_FnFolds : PR.funcs[f_laws_FnFolds]? = some Try.f4 := by unfold PR; exact Try.func4
@[reducible] noncomputable def c_laws_FnFolds : Func := Try.f4
theorem n_laws_FnFolds : c_laws_FnFolds.ntmps = 145 := Try.ntmps4
abbrev f_laws_FnExactSameDesk : FuncId := 5
theorem p_laws_FnExactSameDesk : PR.funcs[f_laws_FnExactSameDesk]? = some Try.f5 := by unfold PR; exact Try.func5
@[reducible] noncomputable def c_laws_FnExactSameDesk : Func := Try.f5
theorem n_laws_FnExactSameDesk : c_laws_FnExactSameDesk.ntmps = 45 := Try.ntmps5
abbrev f_laws_FnExactFoldOf : FuncId := 6
theorem p_laws_FnExactFoldOf : PR.funcs[f_laws_FnExactFoldOf]? = some Try.f6 := by unfold PR; exact Try.func6
@[reducible] noncomputable def c_laws_FnExactFoldOf : Func := Try.f6
theorem n_laws_FnExactFoldOf : c_laws_FnExactFoldOf.ntmps = 122 := Try.ntmps6
abbrev f_laws_FnFollows : FuncId := 7
theorem p_laws_FnFollows : PR.funcs[f_laws_FnFollows]? = some Try.f7 := by unfold PR; exact Try.func7
@[reducible] noncomputable def c_laws_FnFollows : Func := Try.f7
theorem n_laws_FnFollows : c_laws_FnFollows.ntmps = 99 := Try.ntmps7
abbrev f_laws_FnExactFirstTrees : FuncId := 8
theorem p_laws_FnExactFirstTrees : PR.funcs[f_laws_FnExactFirstTrees]? = some Try.f8 := by unfold PR; exact Try.func8
@[reducible] noncomputable def c_laws_FnExactFirstTrees : Func := Try.f8
theorem n_laws_FnExactFirstTrees : c_laws_FnExactFirstTrees.ntmps = 74 := Try.ntmps8
abbrev f_laws_FnExactModelFollows : FuncId := 9
theorem p_laws_FnExactModelFollows : PR.funcs[f_laws_FnExactModelFollows]? = some Try.f9 := by unfold PR; exact Try.func9
@[reducible] noncomputable def c_laws_FnExactModelFollows : Func := Try.f9
theorem n_laws_FnExactModelFollows : c_laws_FnExactModelFollows.ntmps = 27 := Try.ntmps9
abbrev f_laws_FnExactRanked : FuncId := 10
theorem p_laws_FnExactRanked : PR.funcs[f_laws_FnExactRanked]? = some Try.f10 := by unfold PR; exact Try.func10
@[reducible] noncomputable def c_laws_FnExactRanked : Func := Try.f10
theorem n_laws_FnExactRanked : c_laws_FnExactRanked.ntmps = 69 := Try.ntmps10
abbrev f_laws_FnUses : FuncId := 11
theorem p_laws_FnUses : PR.funcs[f_laws_FnUses]? = some Try.f11 := by unfold PR; exact Try.func11
@[reducible] noncomputable def c_laws_FnUses : Func := Try.f11
theorem n_laws_FnUses : c_laws_FnUses.ntmps = 99 := Try.ntmps11
abbrev f_laws_FnFirst : FuncId := 12
theorem p_laws_FnFirst : PR.funcs[f_laws_FnFirst]? = some Try.f12 := by unfold PR; exact Try.func12
@[reducible] noncomputable def c_laws_FnFirst : Func := Try.f12
theorem n_laws_FnFirst : c_laws_FnFirst.ntmps = 45 := Try.ntmps12
abbrev f_laws_FnExactNodeRows : FuncId := 13
theorem p_laws_FnExactNodeRows : PR.funcs[f_laws_FnExactNodeRows]? = some Try.f13 := by unfold PR; exact Try.func13
@[reducible] noncomputable def c_laws_FnExactNodeRows : Func := Try.f13
theorem n_laws_FnExactNodeRows : c_laws_FnExactNodeRows.ntmps = 97 := Try.ntmps13
abbrev f_laws_big : FuncId := 14
theorem p_laws_big : PR.funcs[f_laws_big]? = some Try.f14 := by unfold PR; exact Try.func14
@[reducible] noncomputable def c_laws_big : Func := Try.f14
theorem n_laws_big : c_laws_big.ntmps = 6 := Try.ntmps14
abbrev f_spec_DrawSpanOf : FuncId := 15
theorem p_spec_DrawSpanOf : PR.funcs[f_spec_DrawSpanOf]? = some Try.f15 := by unfold PR; exact Try.func15
@[reducible] noncomputable def c_spec_DrawSpanOf : Func := Try.f15
theorem n_spec_DrawSpanOf : c_spec_DrawSpanOf.ntmps = 8 := Try.ntmps15
abbrev f_impl_SpanOf : FuncId := 16
theorem p_impl_SpanOf : PR.funcs[f_impl_SpanOf]? = some Try.f16 := by unfold PR; exact Try.func16
@[reducible] noncomputable def c_impl_SpanOf : Func := Try.f16
theorem n_impl_SpanOf : c_impl_SpanOf.ntmps = 46 := Try.ntmps16
abbrev f_spec_SpanOf : FuncId := 17
theorem p_spec_SpanOf : PR.funcs[f_spec_SpanOf]? = some Try.f17 := by unfold PR; exact Try.func17
@[reducible] noncomputable def c_spec_SpanOf : Func := Try.f17
theorem n_spec_SpanOf : c_spec_SpanOf.ntmps = 52 := Try.ntmps17
abbrev f_spec_TreeOk : FuncId := 18
theorem p_spec_TreeOk : PR.funcs[f_spec_TreeOk]? = some Try.f18 := by unfold PR; exact Try.func18
@[reducible] noncomputable def c_spec_TreeOk : Func := Try.f18
theorem n_spec_TreeOk : c_spec_TreeOk.ntmps = 27 := Try.ntmps18
abbrev f_spec_Brought : FuncId := 19
theorem p_spec_Brought : PR.funcs[f_spec_Brought]? = some Try.f19 := by unfold PR; exact Try.func19
@[reducible] noncomputable def c_spec_Brought : Func := Try.f19
theorem n_spec_Brought : c_spec_Brought.ntmps = 16 := Try.ntmps19
abbrev f_spec_DrawFoldOf : FuncId := 20
theorem p_spec_DrawFoldOf : PR.funcs[f_spec_DrawFoldOf]? = some Try.f20 := by unfold PR; exact Try.func20
@[reducible] noncomputable def c_spec_DrawFoldOf : Func := Try.f20
theorem n_spec_DrawFoldOf : c_spec_DrawFoldOf.ntmps = 21 := Try.ntmps20
abbrev f_impl_FoldOf : FuncId := 21
theorem p_impl_FoldOf : PR.funcs[f_impl_FoldOf]? = some Try.f21 := by unfold PR; exact Try.func21
@[reducible] noncomputable def c_impl_FoldOf : Func := Try.f21
theorem n_impl_FoldOf : c_impl_FoldOf.ntmps = 89 := Try.ntmps21
abbrev f_spec_FoldOf : FuncId := 22
theorem p_spec_FoldOf : PR.funcs[f_spec_FoldOf]? = some Try.f22 := by unfold PR; exact Try.func22
@[reducible] noncomputable def c_spec_FoldOf : Func := Try.f22
theorem n_spec_FoldOf : c_spec_FoldOf.ntmps = 96 := Try.ntmps22
abbrev f_spec_SameTable : FuncId := 23
theorem p_spec_SameTable : PR.funcs[f_spec_SameTable]? = some Try.f23 := by unfold PR; exact Try.func23
@[reducible] noncomputable def c_spec_SameTable : Func := Try.f23
theorem n_spec_SameTable : c_spec_SameTable.ntmps = 31 := Try.ntmps23
abbrev f_laws_sameInts : FuncId := 24
theorem p_laws_sameInts : PR.funcs[f_laws_sameInts]? = some Try.f24 := by unfold PR; exact Try.func24
@[reducible] noncomputable def c_laws_sameInts : Func := Try.f24
theorem n_laws_sameInts : c_laws_sameInts.ntmps = 26 := Try.ntmps24
abbrev f_laws_szDesk : FuncId := 25
theorem p_laws_szDesk : PR.funcs[f_laws_szDesk]? = some Try.f25 := by unfold PR; exact Try.func25
@[reducible] noncomputable def c_laws_szDesk : Func := Try.f25
theorem n_laws_szDesk : c_laws_szDesk.ntmps = 26 := Try.ntmps25
abbrev f_spec_SameDesk : FuncId := 26
theorem p_spec_SameDesk : PR.funcs[f_spec_SameDesk]? = some Try.f26 := by unfold PR; exact Try.func26
@[reducible] noncomputable def c_spec_SameDesk : Func := Try.f26
theorem n_spec_SameDesk : c_spec_SameDesk.ntmps = 31 := Try.ntmps26
abbrev f_laws_toDesk : FuncId := 27
theorem p_laws_toDesk : PR.funcs[f_laws_toDesk]? = some Try.f27 := by unfold PR; exact Try.func27
@[reducible] noncomputable def c_laws_toDesk : Func := Try.f27
theorem n_laws_toDesk : c_laws_toDesk.ntmps = 18 := Try.ntmps27
abbrev f_impl_SameDesk : FuncId := 28
theorem p_impl_SameDesk : PR.funcs[f_impl_SameDesk]? = some Try.f28 := by unfold PR; exact Try.func28
@[reducible] noncomputable def c_impl_SameDesk : Func := Try.f28
theorem n_impl_SameDesk : c_impl_SameDesk.ntmps = 31 := Try.ntmps28
abbrev f_laws_eqDesk : FuncId := 29
theorem p_laws_eqDesk : PR.funcs[f_laws_eqDesk]? = some Try.f29 := by unfold PR; exact Try.func29
@[reducible] noncomputable def c_laws_eqDesk : Func := Try.f29
theorem n_laws_eqDesk : c_laws_eqDesk.ntmps = 26 := Try.ntmps29
abbrev f_laws_szTable : FuncId := 30
theorem p_laws_szTable : PR.funcs[f_laws_szTable]? = some Try.f30 := by unfold PR; exact Try.func30
@[reducible] noncomputable def c_laws_szTable : Func := Try.f30
theorem n_laws_szTable : c_laws_szTable.ntmps = 31 := Try.ntmps30
abbrev f_laws_toTable : FuncId := 31
theorem p_laws_toTable : PR.funcs[f_laws_toTable]? = some Try.f31 := by unfold PR; exact Try.func31
@[reducible] noncomputable def c_laws_toTable : Func := Try.f31
theorem n_laws_toTable : c_laws_toTable.ntmps = 20 := Try.ntmps31
abbrev f_laws_eqTable : FuncId := 32
theorem p_laws_eqTable : PR.funcs[f_laws_eqTable]? = some Try.f32 := by unfold PR; exact Try.func32
@[reducible] noncomputable def c_laws_eqTable : Func := Try.f32
theorem n_laws_eqTable : c_laws_eqTable.ntmps = 28 := Try.ntmps32
abbrev f_laws_markTable : FuncId := 33
theorem p_laws_markTable : PR.funcs[f_laws_markTable]? = some Try.f33 := by unfold PR; exact Try.func33
@[reducible] noncomputable def c_laws_markTable : Func := Try.f33
theorem n_laws_markTable : c_laws_markTable.ntmps = 18 := Try.ntmps33
abbrev f_laws_heldTable : FuncId := 34
theorem p_laws_heldTable : PR.funcs[f_laws_heldTable]? = some Try.f34 := by unfold PR; exact Try.func34
@[reducible] noncomputable def c_laws_heldTable : Func := Try.f34
theorem n_laws_heldTable : c_laws_heldTable.ntmps = 24 := Try.ntmps34
abbrev f_spec_DrawTreeFollows : FuncId := 35
theorem p_spec_DrawTreeFollows : PR.funcs[f_spec_DrawTreeFollows]? = some Try.f35 := by unfold PR; exact Try.func35
@[reducible] noncomputable def c_spec_DrawTreeFollows : Func := Try.f35
theorem n_spec_DrawTreeFollows : c_spec_DrawTreeFollows.ntmps = 16 := Try.ntmps35
abbrev f_impl_TreeFollows : FuncId := 36
theorem p_impl_TreeFollows : PR.funcs[f_impl_TreeFollows]? = some Try.f36 := by unfold PR; exact Try.func36
@[reducible] noncomputable def c_impl_TreeFollows : Func := Try.f36
theorem n_impl_TreeFollows : c_impl_TreeFollows.ntmps = 69 := Try.ntmps36
abbrev f_spec_TreeFollows : FuncId := 37
theorem p_spec_TreeFollows : PR.funcs[f_spec_TreeFollows]? = some Try.f37 := by unfold PR; exact Try.func37
@[reducible] noncomputable def c_spec_TreeFollows : Func := Try.f37
theorem n_spec_TreeFollows : c_spec_TreeFollows.ntmps = 74 := Try.ntmps37
abbrev f_laws_at0 : FuncId := 38
theorem p_laws_at0 : PR.funcs[f_laws_at0]? = some Try.f38 := by unfold PR; exact Try.func38
@[reducible] noncomputable def c_laws_at0 : Func := Try.f38
theorem n_laws_at0 : c_laws_at0.ntmps = 20 := Try.ntmps38
abbrev f_impl_EvalTree : FuncId := 39
theorem p_impl_EvalTree : PR.funcs[f_impl_EvalTree]? = some Try.f39 := by unfold PR; exact Try.func39
@[reducible] noncomputable def c_impl_EvalTree : Func := Try.f39
theorem n_impl_EvalTree : c_impl_EvalTree.ntmps = 17 := Try.ntmps39
abbrev f_laws_szModel : FuncId := 40
theorem p_laws_szModel : PR.funcs[f_laws_szModel]? = some Try.f40 := by unfold PR; exact Try.func40
@[reducible] noncomputable def c_laws_szModel : Func := Try.f40
theorem n_laws_szModel : c_laws_szModel.ntmps = 24 := Try.ntmps40
abbrev f_spec_FirstTrees : FuncId := 41
theorem p_spec_FirstTrees : PR.funcs[f_spec_FirstTrees]? = some Try.f41 := by unfold PR; exact Try.func41
@[reducible] noncomputable def c_spec_FirstTrees : Func := Try.f41
theorem n_spec_FirstTrees : c_spec_FirstTrees.ntmps = 18 := Try.ntmps41
abbrev f_laws_toModel : FuncId := 42
theorem p_laws_toModel : PR.funcs[f_laws_toModel]? = some Try.f42 := by unfold PR; exact Try.func42
@[reducible] noncomputable def c_laws_toModel : Func := Try.f42
theorem n_laws_toModel : c_laws_toModel.ntmps = 20 := Try.ntmps42
abbrev f_impl_FirstTrees : FuncId := 43
theorem p_impl_FirstTrees : PR.funcs[f_impl_FirstTrees]? = some Try.f43 := by unfold PR; exact Try.func43
@[reducible] noncomputable def c_impl_FirstTrees : Func := Try.f43
theorem n_impl_FirstTrees : c_impl_FirstTrees.ntmps = 18 := Try.ntmps43
abbrev f_laws_eqModel : FuncId := 44
theorem p_laws_eqModel : PR.funcs[f_laws_eqModel]? = some Try.f44 := by unfold PR; exact Try.func44
@[reducible] noncomputable def c_laws_eqModel : Func := Try.f44
theorem n_laws_eqModel : c_laws_eqModel.ntmps = 28 := Try.ntmps44
abbrev f_laws_markModel : FuncId := 45
theorem p_laws_markModel : PR.funcs[f_laws_markModel]? = some Try.f45 := by unfold PR; exact Try.func45
@[reducible] noncomputable def c_laws_markModel : Func := Try.f45
theorem n_laws_markModel : c_laws_markModel.ntmps = 18 := Try.ntmps45
abbrev f_laws_heldModel : FuncId := 46
theorem p_laws_heldModel : PR.funcs[f_laws_heldModel]? = some Try.f46 := by unfold PR; exact Try.func46
@[reducible] noncomputable def c_laws_heldModel : Func := Try.f46
theorem n_laws_heldModel : c_laws_heldModel.ntmps = 24 := Try.ntmps46
abbrev f_spec_ModelFollows : FuncId := 47
theorem p_spec_ModelFollows : PR.funcs[f_spec_ModelFollows]? = some Try.f47 := by unfold PR; exact Try.func47
@[reducible] noncomputable def c_spec_ModelFollows : Func := Try.f47
theorem n_spec_ModelFollows : c_spec_ModelFollows.ntmps = 32 := Try.ntmps47
abbrev f_impl_ModelFollows : FuncId := 48
theorem p_impl_ModelFollows : PR.funcs[f_impl_ModelFollows]? = some Try.f48 := by unfold PR; exact Try.func48
@[reducible] noncomputable def c_impl_ModelFollows : Func := Try.f48
theorem n_impl_ModelFollows : c_impl_ModelFollows.ntmps = 18 := Try.ntmps48
abbrev f_spec_Ranked : FuncId := 49
theorem p_spec_Ranked : PR.funcs[f_spec_Ranked]? = some Try.f49 := by unfold PR; exact Try.func49
@[reducible] noncomputable def c_spec_Ranked : Func := Try.f49
theorem n_spec_Ranked : c_spec_Ranked.ntmps = 48 := Try.ntmps49
abbrev f_impl_Ranked : FuncId := 50
theorem p_impl_Ranked : PR.funcs[f_impl_Ranked]? = some Try.f50 := by unfold PR; exact Try.func50
@[reducible] noncomputable def c_impl_Ranked : Func := Try.f50
theorem n_impl_Ranked : c_impl_Ranked.ntmps = 21 := Try.ntmps50
abbrev f_laws_eqIntS : FuncId := 51
theorem p_laws_eqIntS : PR.funcs[f_laws_eqIntS]? = some Try.f51 := by unfold PR; exact Try.func51
@[reducible] noncomputable def c_laws_eqIntS : Func := Try.f51
theorem n_laws_eqIntS : c_laws_eqIntS.ntmps = 26 := Try.ntmps51
abbrev f_laws_markIntS : FuncId := 52
theorem p_laws_markIntS : PR.funcs[f_laws_markIntS]? = some Try.f52 := by unfold PR; exact Try.func52
@[reducible] noncomputable def c_laws_markIntS : Func := Try.f52
theorem n_laws_markIntS : c_laws_markIntS.ntmps = 19 := Try.ntmps52
abbrev f_laws_heldIntS : FuncId := 53
theorem p_laws_heldIntS : PR.funcs[f_laws_heldIntS]? = some Try.f53 := by unfold PR; exact Try.func53
@[reducible] noncomputable def c_laws_heldIntS : Func := Try.f53
theorem n_laws_heldIntS : c_laws_heldIntS.ntmps = 21 := Try.ntmps53
abbrev f_spec_DrawRanked : FuncId := 54
theorem p_spec_DrawRanked : PR.funcs[f_spec_DrawRanked]? = some Try.f54 := by unfold PR; exact Try.func54
@[reducible] noncomputable def c_spec_DrawRanked : Func := Try.f54
theorem n_spec_DrawRanked : c_spec_DrawRanked.ntmps = 6 := Try.ntmps54
abbrev f_impl_NodesIn : FuncId := 55
theorem p_impl_NodesIn : PR.funcs[f_impl_NodesIn]? = some Try.f55 := by unfold PR; exact Try.func55
@[reducible] noncomputable def c_impl_NodesIn : Func := Try.f55
theorem n_impl_NodesIn : c_impl_NodesIn.ntmps = 20 := Try.ntmps55
abbrev f_spec_NodesIn : FuncId := 56
theorem p_spec_NodesIn : PR.funcs[f_spec_NodesIn]? = some Try.f56 := by unfold PR; exact Try.func56
@[reducible] noncomputable def c_spec_NodesIn : Func := Try.f56
theorem n_spec_NodesIn : c_spec_NodesIn.ntmps = 22 := Try.ntmps56
abbrev f_impl_UsesOf : FuncId := 57
theorem p_impl_UsesOf : PR.funcs[f_impl_UsesOf]? = some Try.f57 := by unfold PR; exact Try.func57
@[reducible] noncomputable def c_impl_UsesOf : Func := Try.f57
theorem n_impl_UsesOf : c_impl_UsesOf.ntmps = 38 := Try.ntmps57
abbrev f_spec_ModelOk : FuncId := 58
theorem p_spec_ModelOk : PR.funcs[f_spec_ModelOk]? = some Try.f58 := by unfold PR; exact Try.func58
@[reducible] noncomputable def c_spec_ModelOk : Func := Try.f58
theorem n_spec_ModelOk : c_spec_ModelOk.ntmps = 91 := Try.ntmps58
abbrev f_spec_DrawFirstTrees : FuncId := 59
theorem p_spec_DrawFirstTrees : PR.funcs[f_spec_DrawFirstTrees]? = some Try.f59 := by unfold PR; exact Try.func59
@[reducible] noncomputable def c_spec_DrawFirstTrees : Func := Try.f59
theorem n_spec_DrawFirstTrees : c_spec_DrawFirstTrees.ntmps = 12 := Try.ntmps59
abbrev f_spec_SameModel : FuncId := 60
theorem p_spec_SameModel : PR.funcs[f_spec_SameModel]? = some Try.f60 := by unfold PR; exact Try.func60
@[reducible] noncomputable def c_spec_SameModel : Func := Try.f60
theorem n_spec_SameModel : c_spec_SameModel.ntmps = 55 := Try.ntmps60
abbrev f_impl_ModelOk : FuncId := 61
theorem p_impl_ModelOk : PR.funcs[f_impl_ModelOk]? = some Try.f61 := by unfold PR; exact Try.func61
@[reducible] noncomputable def c_impl_ModelOk : Func := Try.f61
theorem n_impl_ModelOk : c_impl_ModelOk.ntmps = 50 := Try.ntmps61
abbrev f_laws_szGrid : FuncId := 62
theorem p_laws_szGrid : PR.funcs[f_laws_szGrid]? = some Try.f62 := by unfold PR; exact Try.func62
@[reducible] noncomputable def c_laws_szGrid : Func := Try.f62
theorem n_laws_szGrid : c_laws_szGrid.ntmps = 18 := Try.ntmps62
abbrev f_laws_szTree : FuncId := 63
theorem p_laws_szTree : PR.funcs[f_laws_szTree]? = some Try.f63 := by unfold PR; exact Try.func63
@[reducible] noncomputable def c_laws_szTree : Func := Try.f63
theorem n_laws_szTree : c_laws_szTree.ntmps = 12 := Try.ntmps63
abbrev f_spec_NodeRows : FuncId := 64
theorem p_spec_NodeRows : PR.funcs[f_spec_NodeRows]? = some Try.f64 := by unfold PR; exact Try.func64
@[reducible] noncomputable def c_spec_NodeRows : Func := Try.f64
theorem n_spec_NodeRows : c_spec_NodeRows.ntmps = 86 := Try.ntmps64
abbrev f_laws_toGrid : FuncId := 65
theorem p_laws_toGrid : PR.funcs[f_laws_toGrid]? = some Try.f65 := by unfold PR; exact Try.func65
@[reducible] noncomputable def c_laws_toGrid : Func := Try.f65
theorem n_laws_toGrid : c_laws_toGrid.ntmps = 13 := Try.ntmps65
abbrev f_laws_toTree : FuncId := 66
theorem p_laws_toTree : PR.funcs[f_laws_toTree]? = some Try.f66 := by unfold PR; exact Try.func66
@[reducible] noncomputable def c_laws_toTree : Func := Try.f66
theorem n_laws_toTree : c_laws_toTree.ntmps = 9 := Try.ntmps66
abbrev f_impl_NodeRows : FuncId := 67
theorem p_impl_NodeRows : PR.funcs[f_impl_NodeRows]? = some Try.f67 := by unfold PR; exact Try.func67
@[reducible] noncomputable def c_impl_NodeRows : Func := Try.f67
theorem n_impl_NodeRows : c_impl_NodeRows.ntmps = 31 := Try.ntmps67
abbrev f_laws_eqGrid : FuncId := 68
theorem p_laws_eqGrid : PR.funcs[f_laws_eqGrid]? = some Try.f68 := by unfold PR; exact Try.func68
@[reducible] noncomputable def c_laws_eqGrid : Func := Try.f68
theorem n_laws_eqGrid : c_laws_eqGrid.ntmps = 17 := Try.ntmps68
abbrev f_laws_eqTree : FuncId := 69
theorem p_laws_eqTree : PR.funcs[f_laws_eqTree]? = some Try.f69 := by unfold PR; exact Try.func69
@[reducible] noncomputable def c_laws_eqTree : Func := Try.f69
theorem n_laws_eqTree : c_laws_eqTree.ntmps = 11 := Try.ntmps69
abbrev f_laws_markGrid : FuncId := 70
theorem p_laws_markGrid : PR.funcs[f_laws_markGrid]? = some Try.f70 := by unfold PR; exact Try.func70
@[reducible] noncomputable def c_laws_markGrid : Func := Try.f70
theorem n_laws_markGrid : c_laws_markGrid.ntmps = 14 := Try.ntmps70
abbrev f_laws_markTree : FuncId := 71
theorem p_laws_markTree : PR.funcs[f_laws_markTree]? = some Try.f71 := by unfold PR; exact Try.func71
@[reducible] noncomputable def c_laws_markTree : Func := Try.f71
theorem n_laws_markTree : c_laws_markTree.ntmps = 10 := Try.ntmps71
abbrev f_spec_DrawLevelOf : FuncId := 72
theorem p_spec_DrawLevelOf : PR.funcs[f_spec_DrawLevelOf]? = some Try.f72 := by unfold PR; exact Try.func72
@[reducible] noncomputable def c_spec_DrawLevelOf : Func := Try.f72
theorem n_spec_DrawLevelOf : c_spec_DrawLevelOf.ntmps = 20 := Try.ntmps72
abbrev f_impl_LeavesOf : FuncId := 73
theorem p_impl_LeavesOf : PR.funcs[f_impl_LeavesOf]? = some Try.f73 := by unfold PR; exact Try.func73
@[reducible] noncomputable def c_impl_LeavesOf : Func := Try.f73
theorem n_impl_LeavesOf : c_impl_LeavesOf.ntmps = 23 := Try.ntmps73
abbrev f_slices_Contains_Lint_int : FuncId := 74
theorem p_slices_Contains_Lint_int : PR.funcs[f_slices_Contains_Lint_int]? = some Try.f74 := by unfold PR; exact Try.func74
@[reducible] noncomputable def c_slices_Contains_Lint_int : Func := Try.f74
theorem n_slices_Contains_Lint_int : c_slices_Contains_Lint_int.ntmps = 9 := Try.ntmps74
abbrev f_impl_wayTo : FuncId := 75
theorem p_impl_wayTo : PR.funcs[f_impl_wayTo]? = some Try.f75 := by unfold PR; exact Try.func75
@[reducible] noncomputable def c_impl_wayTo : Func := Try.f75
theorem n_impl_wayTo : c_impl_wayTo.ntmps = 34 := Try.ntmps75
abbrev f_spec_LeavesOf : FuncId := 76
theorem p_spec_LeavesOf : PR.funcs[f_spec_LeavesOf]? = some Try.f76 := by unfold PR; exact Try.func76
@[reducible] noncomputable def c_spec_LeavesOf : Func := Try.f76
theorem n_spec_LeavesOf : c_spec_LeavesOf.ntmps = 25 := Try.ntmps76
abbrev f_spec_l27Has : FuncId := 77
theorem p_spec_l27Has : PR.funcs[f_spec_l27Has]? = some Try.f77 := by unfold PR; exact Try.func77
@[reducible] noncomputable def c_spec_l27Has : Func := Try.f77
theorem n_spec_l27Has : c_spec_l27Has.ntmps = 18 := Try.ntmps77
abbrev f_spec_WayTo : FuncId := 78
theorem p_spec_WayTo : PR.funcs[f_spec_WayTo]? = some Try.f78 := by unfold PR; exact Try.func78
@[reducible] noncomputable def c_spec_WayTo : Func := Try.f78
theorem n_spec_WayTo : c_spec_WayTo.ntmps = 22 := Try.ntmps78
abbrev f_spec_l1Min : FuncId := 79
theorem p_spec_l1Min : PR.funcs[f_spec_l1Min]? = some Try.f79 := by unfold PR; exact Try.func79
@[reducible] noncomputable def c_spec_l1Min : Func := Try.f79
theorem n_spec_l1Min : c_spec_l1Min.ntmps = 10 := Try.ntmps79
abbrev f_spec_l1Max : FuncId := 80
theorem p_spec_l1Max : PR.funcs[f_spec_l1Max]? = some Try.f80 := by unfold PR; exact Try.func80
@[reducible] noncomputable def c_spec_l1Max : Func := Try.f80
theorem n_spec_l1Max : c_spec_l1Max.ntmps = 10 := Try.ntmps80
abbrev f_spec_l1In : FuncId := 81
theorem p_spec_l1In : PR.funcs[f_spec_l1In]? = some Try.f81 := by unfold PR; exact Try.func81
@[reducible] noncomputable def c_spec_l1In : Func := Try.f81
theorem n_spec_l1In : c_spec_l1In.ntmps = 15 := Try.ntmps81
abbrev f_spec_l17Shape : FuncId := 82
theorem p_spec_l17Shape : PR.funcs[f_spec_l17Shape]? = some Try.f82 := by unfold PR; exact Try.func82
@[reducible] noncomputable def c_spec_l17Shape : Func := Try.f82
theorem n_spec_l17Shape : c_spec_l17Shape.ntmps = 77 := Try.ntmps82
abbrev f_spec_DepthOf : FuncId := 83
theorem p_spec_DepthOf : PR.funcs[f_spec_DepthOf]? = some Try.f83 := by unfold PR; exact Try.func83
@[reducible] noncomputable def c_spec_DepthOf : Func := Try.f83
theorem n_spec_DepthOf : c_spec_DepthOf.ntmps = 18 := Try.ntmps83
abbrev f_spec_l17Ways : FuncId := 84
theorem p_spec_l17Ways : PR.funcs[f_spec_l17Ways]? = some Try.f84 := by unfold PR; exact Try.func84
@[reducible] noncomputable def c_spec_l17Ways : Func := Try.f84
theorem n_spec_l17Ways : c_spec_l17Ways.ntmps = 79 := Try.ntmps84
abbrev f_spec_l1New : FuncId := 85
theorem p_spec_l1New : PR.funcs[f_spec_l1New]? = some Try.f85 := by unfold PR; exact Try.func85
@[reducible] noncomputable def c_spec_l1New : Func := Try.f85
theorem n_spec_l1New : c_spec_l1New.ntmps = 32 := Try.ntmps85
abbrev f_spec_l1PickInt : FuncId := 86
theorem p_spec_l1PickInt : PR.funcs[f_spec_l1PickInt]? = some Try.f86 := by unfold PR; exact Try.func86
@[reducible] noncomputable def c_spec_l1PickInt : Func := Try.f86
theorem n_spec_l1PickInt : c_spec_l1PickInt.ntmps = 12 := Try.ntmps86
abbrev f_spec_l9Bent : FuncId := 87
theorem p_spec_l9Bent : PR.funcs[f_spec_l9Bent]? = some Try.f87 := by unfold PR; exact Try.func87
@[reducible] noncomputable def c_spec_l9Bent : Func := Try.f87
theorem n_spec_l9Bent : c_spec_l9Bent.ntmps = 100 := Try.ntmps87
abbrev f_impl_TableOk : FuncId := 88
theorem p_impl_TableOk : PR.funcs[f_impl_TableOk]? = some Try.f88 := by unfold PR; exact Try.func88
@[reducible] noncomputable def c_impl_TableOk : Func := Try.f88
theorem n_impl_TableOk : c_impl_TableOk.ntmps = 46 := Try.ntmps88
abbrev f_impl_within : FuncId := 89
theorem p_impl_within : PR.funcs[f_impl_within]? = some Try.f89 := by unfold PR; exact Try.func89
@[reducible] noncomputable def c_impl_within : Func := Try.f89
theorem n_impl_within : c_impl_within.ntmps = 15 := Try.ntmps89
abbrev f_slices_Clone_Lstring_string : FuncId := 90
theorem p_slices_Clone_Lstring_string : PR.funcs[f_slices_Clone_Lstring_string]? = some Try.f90 := by unfold PR; exact Try.func90
@[reducible] noncomputable def c_slices_Clone_Lstring_string : Func := Try.f90
theorem n_slices_Clone_Lstring_string : c_slices_Clone_Lstring_string.ntmps = 8 := Try.ntmps90
abbrev f_slices_Clone_Lint_int : FuncId := 91
theorem p_slices_Clone_Lint_int : PR.funcs[f_slices_Clone_Lint_int]? = some Try.f91 := by unfold PR; exact Try.func91
@[reducible] noncomputable def c_slices_Clone_Lint_int : Func := Try.f91
theorem n_slices_Clone_Lint_int : c_slices_Clone_Lint_int.ntmps = 8 := Try.ntmps91
abbrev f_spec_TableOk : FuncId := 92
theorem p_spec_TableOk : PR.funcs[f_spec_TableOk]? = some Try.f92 := by unfold PR; exact Try.func92
@[reducible] noncomputable def c_spec_TableOk : Func := Try.f92
theorem n_spec_TableOk : c_spec_TableOk.ntmps = 105 := Try.ntmps92
abbrev f_spec_l9Texts : FuncId := 93
theorem p_spec_l9Texts : PR.funcs[f_spec_l9Texts]? = some Try.f93 := by unfold PR; exact Try.func93
@[reducible] noncomputable def c_spec_l9Texts : Func := Try.f93
theorem n_spec_l9Texts : c_spec_l9Texts.ntmps = 10 := Try.ntmps93
abbrev f_spec_l9Grids : FuncId := 94
theorem p_spec_l9Grids : PR.funcs[f_spec_l9Grids]? = some Try.f94 := by unfold PR; exact Try.func94
@[reducible] noncomputable def c_spec_l9Grids : Func := Try.f94
theorem n_spec_l9Grids : c_spec_l9Grids.ntmps = 27 := Try.ntmps94
abbrev f_spec_l8Ints : FuncId := 95
theorem p_spec_l8Ints : PR.funcs[f_spec_l8Ints]? = some Try.f95 := by unfold PR; exact Try.func95
@[reducible] noncomputable def c_spec_l8Ints : Func := Try.f95
theorem n_spec_l8Ints : c_spec_l8Ints.ntmps = 26 := Try.ntmps95
abbrev f_impl_SameModel : FuncId := 96
theorem p_impl_SameModel : PR.funcs[f_impl_SameModel]? = some Try.f96 := by unfold PR; exact Try.func96
@[reducible] noncomputable def c_impl_SameModel : Func := Try.f96
theorem n_impl_SameModel : c_impl_SameModel.ntmps = 31 := Try.ntmps96
abbrev f_laws_szStringS : FuncId := 97
theorem p_laws_szStringS : PR.funcs[f_laws_szStringS]? = some Try.f97 := by unfold PR; exact Try.func97
@[reducible] noncomputable def c_laws_szStringS : Func := Try.f97
theorem n_laws_szStringS : c_laws_szStringS.ntmps = 28 := Try.ntmps97
abbrev f_laws_szIntSS : FuncId := 98
theorem p_laws_szIntSS : PR.funcs[f_laws_szIntSS]? = some Try.f98 := by unfold PR; exact Try.func98
@[reducible] noncomputable def c_laws_szIntSS : Func := Try.f98
theorem n_laws_szIntSS : c_laws_szIntSS.ntmps = 27 := Try.ntmps98
abbrev f_laws_szIntS : FuncId := 99
theorem p_laws_szIntS : PR.funcs[f_laws_szIntS]? = some Try.f99 := by unfold PR; exact Try.func99
@[reducible] noncomputable def c_laws_szIntS : Func := Try.f99
theorem n_laws_szIntS : c_laws_szIntS.ntmps = 12 := Try.ntmps99
abbrev f_laws_toStringS : FuncId := 100
theorem p_laws_toStringS : PR.funcs[f_laws_toStringS]? = some Try.f100 := by unfold PR; exact Try.func100
@[reducible] noncomputable def c_laws_toStringS : Func := Try.f100
theorem n_laws_toStringS : c_laws_toStringS.ntmps = 22 := Try.ntmps100
abbrev f_laws_toIntSS : FuncId := 101
theorem p_laws_toIntSS : PR.funcs[f_laws_toIntSS]? = some Try.f101 := by unfold PR; exact Try.func101
@[reducible] noncomputable def c_laws_toIntSS : Func := Try.f101
theorem n_laws_toIntSS : c_laws_toIntSS.ntmps = 23 := Try.ntmps101
abbrev f_laws_toIntS : FuncId := 102
theorem p_laws_toIntS : PR.funcs[f_laws_toIntS]? = some Try.f102 := by unfold PR; exact Try.func102
@[reducible] noncomputable def c_laws_toIntS : Func := Try.f102
theorem n_laws_toIntS : c_laws_toIntS.ntmps = 22 := Try.ntmps102
abbrev f_laws_eqStringS : FuncId := 103
theorem p_laws_eqStringS : PR.funcs[f_laws_eqStringS]? = some Try.f103 := by unfold PR; exact Try.func103
@[reducible] noncomputable def c_laws_eqStringS : Func := Try.f103
theorem n_laws_eqStringS : c_laws_eqStringS.ntmps = 26 := Try.ntmps103
abbrev f_laws_eqIntSS : FuncId := 104
theorem p_laws_eqIntSS : PR.funcs[f_laws_eqIntSS]? = some Try.f104 := by unfold PR; exact Try.func104
@[reducible] noncomputable def c_laws_eqIntSS : Func := Try.f104
theorem n_laws_eqIntSS : c_laws_eqIntSS.ntmps = 27 := Try.ntmps104
abbrev f_laws_markStringS : FuncId := 105
theorem p_laws_markStringS : PR.funcs[f_laws_markStringS]? = some Try.f105 := by unfold PR; exact Try.func105
@[reducible] noncomputable def c_laws_markStringS : Func := Try.f105
theorem n_laws_markStringS : c_laws_markStringS.ntmps = 20 := Try.ntmps105
abbrev f_laws_markIntSS : FuncId := 106
theorem p_laws_markIntSS : PR.funcs[f_laws_markIntSS]? = some Try.f106 := by unfold PR; exact Try.func106
@[reducible] noncomputable def c_laws_markIntSS : Func := Try.f106
theorem n_laws_markIntSS : c_laws_markIntSS.ntmps = 19 := Try.ntmps106
abbrev f_laws_heldStringS : FuncId := 107
theorem p_laws_heldStringS : PR.funcs[f_laws_heldStringS]? = some Try.f107 := by unfold PR; exact Try.func107
@[reducible] noncomputable def c_laws_heldStringS : Func := Try.f107
theorem n_laws_heldStringS : c_laws_heldStringS.ntmps = 22 := Try.ntmps107
abbrev f_laws_heldIntSS : FuncId := 108
theorem p_laws_heldIntSS : PR.funcs[f_laws_heldIntSS]? = some Try.f108 := by unfold PR; exact Try.func108
@[reducible] noncomputable def c_laws_heldIntSS : Func := Try.f108
theorem n_laws_heldIntSS : c_laws_heldIntSS.ntmps = 21 := Try.ntmps108
abbrev f_spec_l17Bent : FuncId := 109
theorem p_spec_l17Bent : PR.funcs[f_spec_l17Bent]? = some Try.f109 := by unfold PR; exact Try.func109
@[reducible] noncomputable def c_spec_l17Bent : Func := Try.f109
theorem n_spec_l17Bent : c_spec_l17Bent.ntmps = 85 := Try.ntmps109
abbrev f_spec_l1Below : FuncId := 110
theorem p_spec_l1Below : PR.funcs[f_spec_l1Below]? = some Try.f110 := by unfold PR; exact Try.func110
@[reducible] noncomputable def c_spec_l1Below : Func := Try.f110
theorem n_spec_l1Below : c_spec_l1Below.ntmps = 37 := Try.ntmps110
abbrev f_impl_isLeaf : FuncId := 111
theorem p_impl_isLeaf : PR.funcs[f_impl_isLeaf]? = some Try.f111 := by unfold PR; exact Try.func111
@[reducible] noncomputable def c_impl_isLeaf : Func := Try.f111
theorem n_impl_isLeaf : c_impl_isLeaf.ntmps = 6 := Try.ntmps111
abbrev f_spec_l17Inner : FuncId := 112
theorem p_spec_l17Inner : PR.funcs[f_spec_l17Inner]? = some Try.f112 := by unfold PR; exact Try.func112
@[reducible] noncomputable def c_spec_l17Inner : Func := Try.f112
theorem n_spec_l17Inner : c_spec_l17Inner.ntmps = 6 := Try.ntmps112
abbrev f_impl_RouteTo : FuncId := 113
theorem p_impl_RouteTo : PR.funcs[f_impl_RouteTo]? = some Try.f113 := by unfold PR; exact Try.func113
@[reducible] noncomputable def c_impl_RouteTo : Func := Try.f113
theorem n_impl_RouteTo : c_impl_RouteTo.ntmps = 18 := Try.ntmps113
abbrev f_laws_szTreeS : FuncId := 114
theorem p_laws_szTreeS : PR.funcs[f_laws_szTreeS]? = some Try.f114 := by unfold PR; exact Try.func114
@[reducible] noncomputable def c_laws_szTreeS : Func := Try.f114
theorem n_laws_szTreeS : c_laws_szTreeS.ntmps = 27 := Try.ntmps114
abbrev f_spec_l24Copy : FuncId := 115
theorem p_spec_l24Copy : PR.funcs[f_spec_l24Copy]? = some Try.f115 := by unfold PR; exact Try.func115
@[reducible] noncomputable def c_spec_l24Copy : Func := Try.f115
theorem n_spec_l24Copy : c_spec_l24Copy.ntmps = 17 := Try.ntmps115
abbrev f_laws_toTreeS : FuncId := 116
theorem p_laws_toTreeS : PR.funcs[f_laws_toTreeS]? = some Try.f116 := by unfold PR; exact Try.func116
@[reducible] noncomputable def c_laws_toTreeS : Func := Try.f116
theorem n_laws_toTreeS : c_laws_toTreeS.ntmps = 23 := Try.ntmps116
abbrev f_impl_copyModel : FuncId := 117
theorem p_impl_copyModel : PR.funcs[f_impl_copyModel]? = some Try.f117 := by unfold PR; exact Try.func117
@[reducible] noncomputable def c_impl_copyModel : Func := Try.f117
theorem n_impl_copyModel : c_impl_copyModel.ntmps = 15 := Try.ntmps117
abbrev f_impl_Brought : FuncId := 118
theorem p_impl_Brought : PR.funcs[f_impl_Brought]? = some Try.f118 := by unfold PR; exact Try.func118
@[reducible] noncomputable def c_impl_Brought : Func := Try.f118
theorem n_impl_Brought : c_impl_Brought.ntmps = 18 := Try.ntmps118
abbrev f_laws_eqTreeS : FuncId := 119
theorem p_laws_eqTreeS : PR.funcs[f_laws_eqTreeS]? = some Try.f119 := by unfold PR; exact Try.func119
@[reducible] noncomputable def c_laws_eqTreeS : Func := Try.f119
theorem n_laws_eqTreeS : c_laws_eqTreeS.ntmps = 27 := Try.ntmps119
abbrev f_laws_markTreeS : FuncId := 120
theorem p_laws_markTreeS : PR.funcs[f_laws_markTreeS]? = some Try.f120 := by unfold PR; exact Try.func120
@[reducible] noncomputable def c_laws_markTreeS : Func := Try.f120
theorem n_laws_markTreeS : c_laws_markTreeS.ntmps = 20 := Try.ntmps120
abbrev f_laws_heldTreeS : FuncId := 121
theorem p_laws_heldTreeS : PR.funcs[f_laws_heldTreeS]? = some Try.f121 := by unfold PR; exact Try.func121
@[reducible] noncomputable def c_laws_heldTreeS : Func := Try.f121
theorem n_laws_heldTreeS : c_laws_heldTreeS.ntmps = 22 := Try.ntmps121
abbrev f_slices_ContainsFunc_Limpl_Tree_impl_Tree : FuncId := 122
theorem p_slices_ContainsFunc_Limpl_Tree_impl_Tree : PR.funcs[f_slices_ContainsFunc_Limpl_Tree_impl_Tree]? = some Try.f122 := by unfold PR; exact Try.func122
@[reducible] noncomputable def c_slices_ContainsFunc_Limpl_Tree_impl_Tree : Func := Try.f122
theorem n_slices_ContainsFunc_Limpl_Tree_impl_Tree : c_slices_ContainsFunc_Limpl_Tree_impl_Tree.ntmps = 9 := Try.ntmps122
abbrev f_impl_ModelFollows_1 : FuncId := 123
theorem p_impl_ModelFollows_1 : PR.funcs[f_impl_ModelFollows_1]? = some Try.f123 := by unfold PR; exact Try.func123
@[reducible] noncomputable def c_impl_ModelFollows_1 : Func := Try.f123
theorem n_impl_ModelFollows_1 : c_impl_ModelFollows_1.ntmps = 10 := Try.ntmps123
abbrev f_spec_UsesOf : FuncId := 124
theorem p_spec_UsesOf : PR.funcs[f_spec_UsesOf]? = some Try.f124 := by unfold PR; exact Try.func124
@[reducible] noncomputable def c_spec_UsesOf : Func := Try.f124
theorem n_spec_UsesOf : c_spec_UsesOf.ntmps = 47 := Try.ntmps124
abbrev f_slices_SortStableFunc_Lint_int : FuncId := 125
theorem p_slices_SortStableFunc_Lint_int : PR.funcs[f_slices_SortStableFunc_Lint_int]? = some Try.f125 := by unfold PR; exact Try.func125
@[reducible] noncomputable def c_slices_SortStableFunc_Lint_int : Func := Try.f125
theorem n_slices_SortStableFunc_Lint_int : c_slices_SortStableFunc_Lint_int.ntmps = 9 := Try.ntmps125
abbrev f_impl_Ranked_1 : FuncId := 126
theorem p_impl_Ranked_1 : PR.funcs[f_impl_Ranked_1]? = some Try.f126 := by unfold PR; exact Try.func126
@[reducible] noncomputable def c_impl_Ranked_1 : Func := Try.f126
theorem n_impl_Ranked_1 : c_impl_Ranked_1.ntmps = 13 := Try.ntmps126
abbrev f_cmp_Compare_int : FuncId := 127
theorem p_cmp_Compare_int : PR.funcs[f_cmp_Compare_int]? = some Try.f127 := by unfold PR; exact Try.func127
@[reducible] noncomputable def c_cmp_Compare_int : Func := Try.f127
theorem n_cmp_Compare_int : c_cmp_Compare_int.ntmps = 20 := Try.ntmps127
abbrev f_spec_l24Bent : FuncId := 128
theorem p_spec_l24Bent : PR.funcs[f_spec_l24Bent]? = some Try.f128 := by unfold PR; exact Try.func128
@[reducible] noncomputable def c_spec_l24Bent : Func := Try.f128
theorem n_spec_l24Bent : c_spec_l24Bent.ntmps = 61 := Try.ntmps128
abbrev f_spec_l6Value : FuncId := 129
theorem p_spec_l6Value : PR.funcs[f_spec_l6Value]? = some Try.f129 := by unfold PR; exact Try.func129
@[reducible] noncomputable def c_spec_l6Value : Func := Try.f129
theorem n_spec_l6Value : c_spec_l6Value.ntmps = 5 := Try.ntmps129
abbrev f_spec_NameOk : FuncId := 130
theorem p_spec_NameOk : PR.funcs[f_spec_NameOk]? = some Try.f130 := by unfold PR; exact Try.func130
@[reducible] noncomputable def c_spec_NameOk : Func := Try.f130
theorem n_spec_NameOk : c_spec_NameOk.ntmps = 33 := Try.ntmps130
abbrev f_spec_l9Has : FuncId := 131
theorem p_spec_l9Has : PR.funcs[f_spec_l9Has]? = some Try.f131 := by unfold PR; exact Try.func131
@[reducible] noncomputable def c_spec_l9Has : Func := Try.f131
theorem n_spec_l9Has : c_spec_l9Has.ntmps = 18 := Try.ntmps131
abbrev f_spec_SameTree : FuncId := 132
theorem p_spec_SameTree : PR.funcs[f_spec_SameTree]? = some Try.f132 := by unfold PR; exact Try.func132
@[reducible] noncomputable def c_spec_SameTree : Func := Try.f132
theorem n_spec_SameTree : c_spec_SameTree.ntmps = 31 := Try.ntmps132
abbrev f_impl_areNames : FuncId := 133
theorem p_impl_areNames : PR.funcs[f_impl_areNames]? = some Try.f133 := by unfold PR; exact Try.func133
@[reducible] noncomputable def c_impl_areNames : Func := Try.f133
theorem n_impl_areNames : c_impl_areNames.ntmps = 23 := Try.ntmps133
abbrev f_slices_ContainsFunc_Lint_int : FuncId := 134
theorem p_slices_ContainsFunc_Lint_int : PR.funcs[f_slices_ContainsFunc_Lint_int]? = some Try.f134 := by unfold PR; exact Try.func134
@[reducible] noncomputable def c_slices_ContainsFunc_Lint_int : Func := Try.f134
theorem n_slices_ContainsFunc_Lint_int : c_slices_ContainsFunc_Lint_int.ntmps = 9 := Try.ntmps134
abbrev f_impl_ModelOk_1 : FuncId := 135
theorem p_impl_ModelOk_1 : PR.funcs[f_impl_ModelOk_1]? = some Try.f135 := by unfold PR; exact Try.func135
@[reducible] noncomputable def c_impl_ModelOk_1 : Func := Try.f135
theorem n_impl_ModelOk_1 : c_impl_ModelOk_1.ntmps = 6 := Try.ntmps135
abbrev f_impl_isSign : FuncId := 136
theorem p_impl_isSign : PR.funcs[f_impl_isSign]? = some Try.f136 := by unfold PR; exact Try.func136
@[reducible] noncomputable def c_impl_isSign : Func := Try.f136
theorem n_impl_isSign : c_impl_isSign.ntmps = 5 := Try.ntmps136
abbrev f_impl_isDecimal : FuncId := 137
theorem p_impl_isDecimal : PR.funcs[f_impl_isDecimal]? = some Try.f137 := by unfold PR; exact Try.func137
@[reducible] noncomputable def c_impl_isDecimal : Func := Try.f137
theorem n_impl_isDecimal : c_impl_isDecimal.ntmps = 5 := Try.ntmps137
abbrev f_impl_ModelOk_2 : FuncId := 138
theorem p_impl_ModelOk_2 : PR.funcs[f_impl_ModelOk_2]? = some Try.f138 := by unfold PR; exact Try.func138
@[reducible] noncomputable def c_impl_ModelOk_2 : Func := Try.f138
theorem n_impl_ModelOk_2 : c_impl_ModelOk_2.ntmps = 8 := Try.ntmps138
abbrev f_impl_TreeOk : FuncId := 139
theorem p_impl_TreeOk : PR.funcs[f_impl_TreeOk]? = some Try.f139 := by unfold PR; exact Try.func139
@[reducible] noncomputable def c_impl_TreeOk : Func := Try.f139
theorem n_impl_TreeOk : c_impl_TreeOk.ntmps = 99 := Try.ntmps139
abbrev f_laws_szNodeS : FuncId := 140
theorem p_laws_szNodeS : PR.funcs[f_laws_szNodeS]? = some Try.f140 := by unfold PR; exact Try.func140
@[reducible] noncomputable def c_laws_szNodeS : Func := Try.f140
theorem n_laws_szNodeS : c_laws_szNodeS.ntmps = 12 := Try.ntmps140
abbrev f_spec_GridOk : FuncId := 141
theorem p_spec_GridOk : PR.funcs[f_spec_GridOk]? = some Try.f141 := by unfold PR; exact Try.func141
@[reducible] noncomputable def c_spec_GridOk : Func := Try.f141
theorem n_spec_GridOk : c_spec_GridOk.ntmps = 76 := Try.ntmps141
abbrev f_spec_AllRows : FuncId := 142
theorem p_spec_AllRows : PR.funcs[f_spec_AllRows]? = some Try.f142 := by unfold PR; exact Try.func142
@[reducible] noncomputable def c_spec_AllRows : Func := Try.f142
theorem n_spec_AllRows : c_spec_AllRows.ntmps = 20 := Try.ntmps142
abbrev f_spec_RowsIn : FuncId := 143
theorem p_spec_RowsIn : PR.funcs[f_spec_RowsIn]? = some Try.f143 := by unfold PR; exact Try.func143
@[reducible] noncomputable def c_spec_RowsIn : Func := Try.f143
theorem n_spec_RowsIn : c_spec_RowsIn.ntmps = 12 := Try.ntmps143
abbrev f_spec_SplitRows : FuncId := 144
theorem p_spec_SplitRows : PR.funcs[f_spec_SplitRows]? = some Try.f144 := by unfold PR; exact Try.func144
@[reducible] noncomputable def c_spec_SplitRows : Func := Try.f144
theorem n_spec_SplitRows : c_spec_SplitRows.ntmps = 55 := Try.ntmps144
abbrev f_spec_BinOf : FuncId := 145
theorem p_spec_BinOf : PR.funcs[f_spec_BinOf]? = some Try.f145 := by unfold PR; exact Try.func145
@[reducible] noncomputable def c_spec_BinOf : Func := Try.f145
theorem n_spec_BinOf : c_spec_BinOf.ntmps = 22 := Try.ntmps145
abbrev f_laws_toNodeS : FuncId := 146
theorem p_laws_toNodeS : PR.funcs[f_laws_toNodeS]? = some Try.f146 := by unfold PR; exact Try.func146
@[reducible] noncomputable def c_laws_toNodeS : Func := Try.f146
theorem n_laws_toNodeS : c_laws_toNodeS.ntmps = 23 := Try.ntmps146
abbrev f_impl_GridOk : FuncId := 147
theorem p_impl_GridOk : PR.funcs[f_impl_GridOk]? = some Try.f147 := by unfold PR; exact Try.func147
@[reducible] noncomputable def c_impl_GridOk : Func := Try.f147
theorem n_impl_GridOk : c_impl_GridOk.ntmps = 57 := Try.ntmps147
abbrev f_impl_nodeRows : FuncId := 148
theorem p_impl_nodeRows : PR.funcs[f_impl_nodeRows]? = some Try.f148 := by unfold PR; exact Try.func148
@[reducible] noncomputable def c_impl_nodeRows : Func := Try.f148
theorem n_impl_nodeRows : c_impl_nodeRows.ntmps = 65 := Try.ntmps148
abbrev f_laws_eqNodeS : FuncId := 149
theorem p_laws_eqNodeS : PR.funcs[f_laws_eqNodeS]? = some Try.f149 := by unfold PR; exact Try.func149
@[reducible] noncomputable def c_laws_eqNodeS : Func := Try.f149
theorem n_laws_eqNodeS : c_laws_eqNodeS.ntmps = 27 := Try.ntmps149
abbrev f_laws_markNodeS : FuncId := 150
theorem p_laws_markNodeS : PR.funcs[f_laws_markNodeS]? = some Try.f150 := by unfold PR; exact Try.func150
@[reducible] noncomputable def c_laws_markNodeS : Func := Try.f150
theorem n_laws_markNodeS : c_laws_markNodeS.ntmps = 48 := Try.ntmps150
abbrev f_slices_Index_Lint_int : FuncId := 151
theorem p_slices_Index_Lint_int : PR.funcs[f_slices_Index_Lint_int]? = some Try.f151 := by unfold PR; exact Try.func151
@[reducible] noncomputable def c_slices_Index_Lint_int : Func := Try.f151
theorem n_slices_Index_Lint_int : c_slices_Index_Lint_int.ntmps = 19 := Try.ntmps151
abbrev f_impl_parent : FuncId := 152
theorem p_impl_parent : PR.funcs[f_impl_parent]? = some Try.f152 := by unfold PR; exact Try.func152
@[reducible] noncomputable def c_impl_parent : Func := Try.f152
theorem n_impl_parent : c_impl_parent.ntmps = 9 := Try.ntmps152
abbrev f_slices_Reverse_Lint_int : FuncId := 153
theorem p_slices_Reverse_Lint_int : PR.funcs[f_slices_Reverse_Lint_int]? = some Try.f153 := by unfold PR; exact Try.func153
@[reducible] noncomputable def c_slices_Reverse_Lint_int : Func := Try.f153
theorem n_slices_Reverse_Lint_int : c_slices_Reverse_Lint_int.ntmps = 28 := Try.ntmps153
abbrev f_spec_LevelOf : FuncId := 154
theorem p_spec_LevelOf : PR.funcs[f_spec_LevelOf]? = some Try.f154 := by unfold PR; exact Try.func154
@[reducible] noncomputable def c_spec_LevelOf : Func := Try.f154
theorem n_spec_LevelOf : c_spec_LevelOf.ntmps = 23 := Try.ntmps154
abbrev f_spec_l17Up : FuncId := 155
theorem p_spec_l17Up : PR.funcs[f_spec_l17Up]? = some Try.f155 := by unfold PR; exact Try.func155
@[reducible] noncomputable def c_spec_l17Up : Func := Try.f155
theorem n_spec_l17Up : c_spec_l17Up.ntmps = 40 := Try.ntmps155
abbrev f_spec_l14Leaf : FuncId := 156
theorem p_spec_l14Leaf : PR.funcs[f_spec_l14Leaf]? = some Try.f156 := by unfold PR; exact Try.func156
@[reducible] noncomputable def c_spec_l14Leaf : Func := Try.f156
theorem n_spec_l14Leaf : c_spec_l14Leaf.ntmps = 5 := Try.ntmps156
abbrev f_spec_l9Right : FuncId := 157
theorem p_spec_l9Right : PR.funcs[f_spec_l9Right]? = some Try.f157 := by unfold PR; exact Try.func157
@[reducible] noncomputable def c_spec_l9Right : Func := Try.f157
theorem n_spec_l9Right : c_spec_l9Right.ntmps = 84 := Try.ntmps157
abbrev f_spec_l1Pick : FuncId := 158
theorem p_spec_l1Pick : PR.funcs[f_spec_l1Pick]? = some Try.f158 := by unfold PR; exact Try.func158
@[reducible] noncomputable def c_spec_l1Pick : Func := Try.f158
theorem n_spec_l1Pick : c_spec_l1Pick.ntmps = 12 := Try.ntmps158
abbrev f_spec_l1Whole : FuncId := 159
theorem p_spec_l1Whole : PR.funcs[f_spec_l1Whole]? = some Try.f159 := by unfold PR; exact Try.func159
@[reducible] noncomputable def c_spec_l1Whole : Func := Try.f159
theorem n_spec_l1Whole : c_spec_l1Whole.ntmps = 32 := Try.ntmps159
abbrev f_impl_areDecimals : FuncId := 160
theorem p_impl_areDecimals : PR.funcs[f_impl_areDecimals]? = some Try.f160 := by unfold PR; exact Try.func160
@[reducible] noncomputable def c_impl_areDecimals : Func := Try.f160
theorem n_impl_areDecimals : c_impl_areDecimals.ntmps = 6 := Try.ntmps160
abbrev f_slices_ContainsFunc_LLint_Lint : FuncId := 161
theorem p_slices_ContainsFunc_LLint_Lint : PR.funcs[f_slices_ContainsFunc_LLint_Lint]? = some Try.f161 := by unfold PR; exact Try.func161
@[reducible] noncomputable def c_slices_ContainsFunc_LLint_Lint : Func := Try.f161
theorem n_slices_ContainsFunc_LLint_Lint : c_slices_ContainsFunc_LLint_Lint.ntmps = 9 := Try.ntmps161
abbrev f_impl_TableOk_1 : FuncId := 162
theorem p_impl_TableOk_1 : PR.funcs[f_impl_TableOk_1]? = some Try.f162 := by unfold PR; exact Try.func162
@[reducible] noncomputable def c_impl_TableOk_1 : Func := Try.f162
theorem n_impl_TableOk_1 : c_impl_TableOk_1.ntmps = 15 := Try.ntmps162
abbrev f_spec_SameRows : FuncId := 163
theorem p_spec_SameRows : PR.funcs[f_spec_SameRows]? = some Try.f163 := by unfold PR; exact Try.func163
@[reducible] noncomputable def c_spec_SameRows : Func := Try.f163
theorem n_spec_SameRows : c_spec_SameRows.ntmps = 53 := Try.ntmps163
abbrev f_slices_Equal_Lstring_string : FuncId := 164
theorem p_slices_Equal_Lstring_string : PR.funcs[f_slices_Equal_Lstring_string]? = some Try.f164 := by unfold PR; exact Try.func164
@[reducible] noncomputable def c_slices_Equal_Lstring_string : Func := Try.f164
theorem n_slices_Equal_Lstring_string : c_slices_Equal_Lstring_string.ntmps = 26 := Try.ntmps164
abbrev f_slices_Equal_Lint_int : FuncId := 165
theorem p_slices_Equal_Lint_int : PR.funcs[f_slices_Equal_Lint_int]? = some Try.f165 := by unfold PR; exact Try.func165
@[reducible] noncomputable def c_slices_Equal_Lint_int : Func := Try.f165
theorem n_slices_Equal_Lint_int : c_slices_Equal_Lint_int.ntmps = 26 := Try.ntmps165
abbrev f_slices_EqualFunc_Limpl_Tree_Limpl_Tree_impl_Tree_impl_Tree : FuncId := 166
theorem p_slices_EqualFunc_Limpl_Tree_Limpl_Tree_impl_Tree_impl_Tree : PR.funcs[f_slices_EqualFunc_Limpl_Tree_Limpl_Tree_impl_Tree_impl_Tree]? = some Try.f166 := by unfold PR; exact Try.func166
@[reducible] noncomputable def c_slices_EqualFunc_Limpl_Tree_Limpl_Tree_impl_Tree_impl_Tree : Func := Try.f166
theorem n_slices_EqualFunc_Limpl_Tree_Limpl_Tree_impl_Tree_impl_Tree : c_slices_EqualFunc_Limpl_Tree_Limpl_Tree_impl_Tree_impl_Tree.ntmps = 32 := Try.ntmps166
abbrev f_impl_SameTree : FuncId := 167
theorem p_impl_SameTree : PR.funcs[f_impl_SameTree]? = some Try.f167 := by unfold PR; exact Try.func167
@[reducible] noncomputable def c_impl_SameTree : Func := Try.f167
theorem n_impl_SameTree : c_impl_SameTree.ntmps = 10 := Try.ntmps167
abbrev f_laws_markText : FuncId := 168
theorem p_laws_markText : PR.funcs[f_laws_markText]? = some Try.f168 := by unfold PR; exact Try.func168
@[reducible] noncomputable def c_laws_markText : Func := Try.f168
theorem n_laws_markText : c_laws_markText.ntmps = 20 := Try.ntmps168
abbrev f_spec_l17Right : FuncId := 169
theorem p_spec_l17Right : PR.funcs[f_spec_l17Right]? = some Try.f169 := by unfold PR; exact Try.func169
@[reducible] noncomputable def c_spec_l17Right : Func := Try.f169
theorem n_spec_l17Right : c_spec_l17Right.ntmps = 54 := Try.ntmps169
abbrev f_spec_l1Byte : FuncId := 170
theorem p_spec_l1Byte : PR.funcs[f_spec_l1Byte]? = some Try.f170 := by unfold PR; exact Try.func170
@[reducible] noncomputable def c_spec_l1Byte : Func := Try.f170
theorem n_spec_l1Byte : c_spec_l1Byte.ntmps = 58 := Try.ntmps170
abbrev f_impl_route : FuncId := 171
theorem p_impl_route : PR.funcs[f_impl_route]? = some Try.f171 := by unfold PR; exact Try.func171
@[reducible] noncomputable def c_impl_route : Func := Try.f171
theorem n_impl_route : c_impl_route.ntmps = 57 := Try.ntmps171
abbrev f_spec_l22Trees : FuncId := 172
theorem p_spec_l22Trees : PR.funcs[f_spec_l22Trees]? = some Try.f172 := by unfold PR; exact Try.func172
@[reducible] noncomputable def c_spec_l22Trees : Func := Try.f172
theorem n_spec_l22Trees : c_spec_l22Trees.ntmps = 21 := Try.ntmps172
abbrev f_impl_copyTrees : FuncId := 173
theorem p_impl_copyTrees : PR.funcs[f_impl_copyTrees]? = some Try.f173 := by unfold PR; exact Try.func173
@[reducible] noncomputable def c_impl_copyTrees : Func := Try.f173
theorem n_impl_copyTrees : c_impl_copyTrees.ntmps = 20 := Try.ntmps173
abbrev f_laws_heldNodeS : FuncId := 174
theorem p_laws_heldNodeS : PR.funcs[f_laws_heldNodeS]? = some Try.f174 := by unfold PR; exact Try.func174
@[reducible] noncomputable def c_laws_heldNodeS : Func := Try.f174
theorem n_laws_heldNodeS : c_laws_heldNodeS.ntmps = 58 := Try.ntmps174
abbrev f_slices_IndexFunc_Limpl_Tree_impl_Tree : FuncId := 175
theorem p_slices_IndexFunc_Limpl_Tree_impl_Tree : PR.funcs[f_slices_IndexFunc_Limpl_Tree_impl_Tree]? = some Try.f175 := by unfold PR; exact Try.func175
@[reducible] noncomputable def c_slices_IndexFunc_Limpl_Tree_impl_Tree : Func := Try.f175
theorem n_slices_IndexFunc_Limpl_Tree_impl_Tree : c_slices_IndexFunc_Limpl_Tree_impl_Tree.ntmps = 19 := Try.ntmps175
abbrev f_slices_stableCmpFunc_int : FuncId := 176
theorem p_slices_stableCmpFunc_int : PR.funcs[f_slices_stableCmpFunc_int]? = some Try.f176 := by unfold PR; exact Try.func176
@[reducible] noncomputable def c_slices_stableCmpFunc_int : Func := Try.f176
theorem n_slices_stableCmpFunc_int : c_slices_stableCmpFunc_int.ntmps = 63 := Try.ntmps176
abbrev f_cmp_isNaN_int : FuncId := 177
theorem p_cmp_isNaN_int : PR.funcs[f_cmp_isNaN_int]? = some Try.f177 := by unfold PR; exact Try.func177
@[reducible] noncomputable def c_cmp_isNaN_int : Func := Try.f177
theorem n_cmp_isNaN_int : c_cmp_isNaN_int.ntmps = 6 := Try.ntmps177
abbrev f_spec_l24Right : FuncId := 178
theorem p_spec_l24Right : PR.funcs[f_spec_l24Right]? = some Try.f178 := by unfold PR; exact Try.func178
@[reducible] noncomputable def c_spec_l24Right : Func := Try.f178
theorem n_spec_l24Right : c_spec_l24Right.ntmps = 55 := Try.ntmps178
abbrev f_spec_OneLeaf : FuncId := 179
theorem p_spec_OneLeaf : PR.funcs[f_spec_OneLeaf]? = some Try.f179 := by unfold PR; exact Try.func179
@[reducible] noncomputable def c_spec_OneLeaf : Func := Try.f179
theorem n_spec_OneLeaf : c_spec_OneLeaf.ntmps = 7 := Try.ntmps179
abbrev f_impl_NameOk : FuncId := 180
theorem p_impl_NameOk : PR.funcs[f_impl_NameOk]? = some Try.f180 := by unfold PR; exact Try.func180
@[reducible] noncomputable def c_impl_NameOk : Func := Try.f180
theorem n_impl_NameOk : c_impl_NameOk.ntmps = 42 := Try.ntmps180
abbrev f_slices_Contains_Lstring_string : FuncId := 181
theorem p_slices_Contains_Lstring_string : PR.funcs[f_slices_Contains_Lstring_string]? = some Try.f181 := by unfold PR; exact Try.func181
@[reducible] noncomputable def c_slices_Contains_Lstring_string : Func := Try.f181
theorem n_slices_Contains_Lstring_string : c_slices_Contains_Lstring_string.ntmps = 9 := Try.ntmps181
abbrev f_slices_IndexFunc_Lint_int : FuncId := 182
theorem p_slices_IndexFunc_Lint_int : PR.funcs[f_slices_IndexFunc_Lint_int]? = some Try.f182 := by unfold PR; exact Try.func182
@[reducible] noncomputable def c_slices_IndexFunc_Lint_int : Func := Try.f182
theorem n_slices_IndexFunc_Lint_int : c_slices_IndexFunc_Lint_int.ntmps = 19 := Try.ntmps182
abbrev f_impl_shapeOk : FuncId := 183
theorem p_impl_shapeOk : PR.funcs[f_impl_shapeOk]? = some Try.f183 := by unfold PR; exact Try.func183
@[reducible] noncomputable def c_impl_shapeOk : Func := Try.f183
theorem n_impl_shapeOk : c_impl_shapeOk.ntmps = 72 := Try.ntmps183
abbrev f_impl_LevelOf : FuncId := 184
theorem p_impl_LevelOf : PR.funcs[f_impl_LevelOf]? = some Try.f184 := by unfold PR; exact Try.func184
@[reducible] noncomputable def c_impl_LevelOf : Func := Try.f184
theorem n_impl_LevelOf : c_impl_LevelOf.ntmps = 10 := Try.ntmps184
abbrev f_spec_CutsOk : FuncId := 185
theorem p_spec_CutsOk : PR.funcs[f_spec_CutsOk]? = some Try.f185 := by unfold PR; exact Try.func185
@[reducible] noncomputable def c_spec_CutsOk : Func := Try.f185
theorem n_spec_CutsOk : c_spec_CutsOk.ntmps = 35 := Try.ntmps185
abbrev f_laws_toNode : FuncId := 186
theorem p_laws_toNode : PR.funcs[f_laws_toNode]? = some Try.f186 := by unfold PR; exact Try.func186
@[reducible] noncomputable def c_laws_toNode : Func := Try.f186
theorem n_laws_toNode : c_laws_toNode.ntmps = 20 := Try.ntmps186
abbrev f_impl_RowsIn : FuncId := 187
theorem p_impl_RowsIn : PR.funcs[f_impl_RowsIn]? = some Try.f187 := by unfold PR; exact Try.func187
@[reducible] noncomputable def c_impl_RowsIn : Func := Try.f187
theorem n_impl_RowsIn : c_impl_RowsIn.ntmps = 12 := Try.ntmps187
abbrev f_impl_CutsOk : FuncId := 188
theorem p_impl_CutsOk : PR.funcs[f_impl_CutsOk]? = some Try.f188 := by unfold PR; exact Try.func188
@[reducible] noncomputable def c_impl_CutsOk : Func := Try.f188
theorem n_impl_CutsOk : c_impl_CutsOk.ntmps = 27 := Try.ntmps188
abbrev f_impl_GridOk_1 : FuncId := 189
theorem p_impl_GridOk_1 : PR.funcs[f_impl_GridOk_1]? = some Try.f189 := by unfold PR; exact Try.func189
@[reducible] noncomputable def c_impl_GridOk_1 : Func := Try.f189
theorem n_impl_GridOk_1 : c_impl_GridOk_1.ntmps = 9 := Try.ntmps189
abbrev f_impl_AllRows : FuncId := 190
theorem p_impl_AllRows : PR.funcs[f_impl_AllRows]? = some Try.f190 := by unfold PR; exact Try.func190
@[reducible] noncomputable def c_impl_AllRows : Func := Try.f190
theorem n_impl_AllRows : c_impl_AllRows.ntmps = 20 := Try.ntmps190
abbrev f_impl_SplitRows : FuncId := 191
theorem p_impl_SplitRows : PR.funcs[f_impl_SplitRows]? = some Try.f191 := by unfold PR; exact Try.func191
@[reducible] noncomputable def c_impl_SplitRows : Func := Try.f191
theorem n_impl_SplitRows : c_impl_SplitRows.ntmps = 45 := Try.ntmps191
abbrev f_impl_BinOf : FuncId := 192
theorem p_impl_BinOf : PR.funcs[f_impl_BinOf]? = some Try.f192 := by unfold PR; exact Try.func192
@[reducible] noncomputable def c_impl_BinOf : Func := Try.f192
theorem n_impl_BinOf : c_impl_BinOf.ntmps = 21 := Try.ntmps192
abbrev f_laws_eqNode : FuncId := 193
theorem p_laws_eqNode : PR.funcs[f_laws_eqNode]? = some Try.f193 := by unfold PR; exact Try.func193
@[reducible] noncomputable def c_laws_eqNode : Func := Try.f193
theorem n_laws_eqNode : c_laws_eqNode.ntmps = 30 := Try.ntmps193
abbrev f_slices_IndexFunc_Limpl_Node_impl_Node : FuncId := 194
theorem p_slices_IndexFunc_Limpl_Node_impl_Node : PR.funcs[f_slices_IndexFunc_Limpl_Node_impl_Node]? = some Try.f194 := by unfold PR; exact Try.func194
@[reducible] noncomputable def c_slices_IndexFunc_Limpl_Node_impl_Node : Func := Try.f194
theorem n_slices_IndexFunc_Limpl_Node_impl_Node : c_slices_IndexFunc_Limpl_Node_impl_Node.ntmps = 19 := Try.ntmps194
abbrev f_impl_parent_1 : FuncId := 195
theorem p_impl_parent_1 : PR.funcs[f_impl_parent_1]? = some Try.f195 := by unfold PR; exact Try.func195
@[reducible] noncomputable def c_impl_parent_1 : Func := Try.f195
theorem n_impl_parent_1 : c_impl_parent_1.ntmps = 19 := Try.ntmps195
abbrev f_spec_l1Once : FuncId := 196
theorem p_spec_l1Once : PR.funcs[f_spec_l1Once]? = some Try.f196 := by unfold PR; exact Try.func196
@[reducible] noncomputable def c_spec_l1Once : Func := Try.f196
theorem n_spec_l1Once : c_spec_l1Once.ntmps = 9 := Try.ntmps196
abbrev f_spec_l6Small : FuncId := 197
theorem p_spec_l6Small : PR.funcs[f_spec_l6Small]? = some Try.f197 := by unfold PR; exact Try.func197
@[reducible] noncomputable def c_spec_l6Small : Func := Try.f197
theorem n_spec_l6Small : c_spec_l6Small.ntmps = 18 := Try.ntmps197
abbrev f_impl_areDecimals_1 : FuncId := 198
theorem p_impl_areDecimals_1 : PR.funcs[f_impl_areDecimals_1]? = some Try.f198 := by unfold PR; exact Try.func198
@[reducible] noncomputable def c_impl_areDecimals_1 : Func := Try.f198
theorem n_impl_areDecimals_1 : c_impl_areDecimals_1.ntmps = 6 := Try.ntmps198
abbrev f_slices_IndexFunc_LLint_Lint : FuncId := 199
theorem p_slices_IndexFunc_LLint_Lint : PR.funcs[f_slices_IndexFunc_LLint_Lint]? = some Try.f199 := by unfold PR; exact Try.func199
@[reducible] noncomputable def c_slices_IndexFunc_LLint_Lint : Func := Try.f199
theorem n_slices_IndexFunc_LLint_Lint : c_slices_IndexFunc_LLint_Lint.ntmps = 19 := Try.ntmps199
abbrev f_slices_Equal_Limpl_Node_impl_Node : FuncId := 200
theorem p_slices_Equal_Limpl_Node_impl_Node : PR.funcs[f_slices_Equal_Limpl_Node_impl_Node]? = some Try.f200 := by unfold PR; exact Try.func200
@[reducible] noncomputable def c_slices_Equal_Limpl_Node_impl_Node : Func := Try.f200
theorem n_slices_Equal_Limpl_Node_impl_Node : c_slices_Equal_Limpl_Node_impl_Node.ntmps = 26 := Try.ntmps200
abbrev f_spec_l17Grown : FuncId := 201
theorem p_spec_l17Grown : PR.funcs[f_spec_l17Grown]? = some Try.f201 := by unfold PR; exact Try.func201
@[reducible] noncomputable def c_spec_l17Grown : Func := Try.f201
theorem n_spec_l17Grown : c_spec_l17Grown.ntmps = 37 := Try.ntmps201
abbrev f_spec_l17Copy : FuncId := 202
theorem p_spec_l17Copy : PR.funcs[f_spec_l17Copy]? = some Try.f202 := by unfold PR; exact Try.func202
@[reducible] noncomputable def c_spec_l17Copy : Func := Try.f202
theorem n_spec_l17Copy : c_spec_l17Copy.ntmps = 8 := Try.ntmps202
abbrev f_impl_copyTree : FuncId := 203
theorem p_impl_copyTree : PR.funcs[f_impl_copyTree]? = some Try.f203 := by unfold PR; exact Try.func203
@[reducible] noncomputable def c_impl_copyTree : Func := Try.f203
theorem n_impl_copyTree : c_impl_copyTree.ntmps = 7 := Try.ntmps203
abbrev f_slices_insertionSortCmpFunc_int : FuncId := 204
theorem p_slices_insertionSortCmpFunc_int : PR.funcs[f_slices_insertionSortCmpFunc_int]? = some Try.f204 := by unfold PR; exact Try.func204
@[reducible] noncomputable def c_slices_insertionSortCmpFunc_int : Func := Try.f204
theorem n_slices_insertionSortCmpFunc_int : c_slices_insertionSortCmpFunc_int.ntmps = 53 := Try.ntmps204
abbrev f_slices_symMergeCmpFunc_int : FuncId := 205
theorem p_slices_symMergeCmpFunc_int : PR.funcs[f_slices_symMergeCmpFunc_int]? = some Try.f205 := by unfold PR; exact Try.func205
@[reducible] noncomputable def c_slices_symMergeCmpFunc_int : Func := Try.f205
theorem n_slices_symMergeCmpFunc_int : c_slices_symMergeCmpFunc_int.ntmps = 220 := Try.ntmps205
abbrev f_slices_Index_Lstring_string : FuncId := 206
theorem p_slices_Index_Lstring_string : PR.funcs[f_slices_Index_Lstring_string]? = some Try.f206 := by unfold PR; exact Try.func206
@[reducible] noncomputable def c_slices_Index_Lstring_string : Func := Try.f206
theorem n_slices_Index_Lstring_string : c_slices_Index_Lstring_string.ntmps = 19 := Try.ntmps206
abbrev f_impl_isLeafValue : FuncId := 207
theorem p_impl_isLeafValue : PR.funcs[f_impl_isLeafValue]? = some Try.f207 := by unfold PR; exact Try.func207
@[reducible] noncomputable def c_impl_isLeafValue : Func := Try.f207
theorem n_impl_isLeafValue : c_impl_isLeafValue.ntmps = 5 := Try.ntmps207
abbrev f_spec_l17Levels : FuncId := 208
theorem p_spec_l17Levels : PR.funcs[f_spec_l17Levels]? = some Try.f208 := by unfold PR; exact Try.func208
@[reducible] noncomputable def c_spec_l17Levels : Func := Try.f208
theorem n_spec_l17Levels : c_spec_l17Levels.ntmps = 46 := Try.ntmps208
abbrev f_slices_Clone_Limpl_Node_impl_Node : FuncId := 209
theorem p_slices_Clone_Limpl_Node_impl_Node : PR.funcs[f_slices_Clone_Limpl_Node_impl_Node]? = some Try.f209 := by unfold PR; exact Try.func209
@[reducible] noncomputable def c_slices_Clone_Limpl_Node_impl_Node : Func := Try.f209
theorem n_slices_Clone_Limpl_Node_impl_Node : c_slices_Clone_Limpl_Node_impl_Node.ntmps = 8 := Try.ntmps209
abbrev f_slices_rotateCmpFunc_int : FuncId := 210
theorem p_slices_rotateCmpFunc_int : PR.funcs[f_slices_rotateCmpFunc_int]? = some Try.f210 := by unfold PR; exact Try.func210
@[reducible] noncomputable def c_slices_rotateCmpFunc_int : Func := Try.f210
theorem n_slices_rotateCmpFunc_int : c_slices_rotateCmpFunc_int.ntmps = 58 := Try.ntmps210
abbrev f_slices_swapRangeCmpFunc_int : FuncId := 211
theorem p_slices_swapRangeCmpFunc_int : PR.funcs[f_slices_swapRangeCmpFunc_int]? = some Try.f211 := by unfold PR; exact Try.func211
@[reducible] noncomputable def c_slices_swapRangeCmpFunc_int : Func := Try.f211
theorem n_slices_swapRangeCmpFunc_int : c_slices_swapRangeCmpFunc_int.ntmps = 38 := Try.ntmps211
end Go.H.S
