/- The numbers of functions and types in this seat, and the table of types. -/
import Derived.Test.YtdolkacinfjhcaaGreatProg
import Derived.Test.YtdolkacinfjhcaaGreatH28
namespace Go.H.S
open Go Go.Proofs Go.H
@[irreducible] noncomputable def PR : Program := Tryz.prog
def tab : List (Nat × TI) :=
[(2, ⟨.int .i64, 1, 8, [.d (.int .i64 0)], none⟩),
  (3, ⟨.int .i64, 1, 8, [.d (.int .i64 0)], none⟩),
  (4, ⟨.bool, 1, 1, [.d (.bool false)], none⟩),
  (5, ⟨.int .u8, 1, 1, [.d (.int .u8 0)], none⟩),
  (9, ⟨.str, 1, 16, [.d (.str ⟨#[]⟩)], none⟩),
  (21, ⟨.int .i32, 1, 4, [.d (.int .i32 0)], none⟩),
  (22, ⟨.slice 25, 1, 24, [.nl 1], none⟩),
  (23, ⟨.struct [(0, 22), (1, 22)], 2, 48, [.nl 1, .nl 1], none⟩),
  (24, ⟨.struct [(0, 22), (1, 22)], 2, 48, [.nl 1, .nl 1], none⟩),
  (25, ⟨.slice 3, 1, 24, [.nl 1], none⟩),
  (26, ⟨.struct [(0, 3), (1, 3), (2, 3), (3, 3), (4, 3), (5, 3), (6, 3), (7, 25)], 8, 80, [.d (.int .i64 0), .d (.int .i64 0), .d (.int .i64 0), .d (.int .i64 0), .d (.int .i64 0), .d (.int .i64 0), .d (.int .i64 0), .nl 1], none⟩),
  (27, ⟨.struct [(0, 3), (1, 3), (2, 3), (3, 3), (4, 3), (5, 3), (6, 3), (7, 25)], 8, 80, [.d (.int .i64 0), .d (.int .i64 0), .d (.int .i64 0), .d (.int .i64 0), .d (.int .i64 0), .d (.int .i64 0), .d (.int .i64 0), .nl 1], none⟩),
  (28, ⟨.slice 209, 1, 24, [.nl 5], none⟩),
  (29, ⟨.struct [(0, 28)], 1, 24, [.nl 5], none⟩),
  (30, ⟨.struct [(0, 28)], 1, 24, [.nl 5], none⟩),
  (35, ⟨.struct [(0, 22), (1, 22)], 2, 48, [.nl 1, .nl 1], none⟩),
  (38, ⟨.struct [(0, 3), (1, 3), (2, 3), (3, 3), (4, 3), (5, 3), (6, 3), (7, 25)], 8, 80, [.d (.int .i64 0), .d (.int .i64 0), .d (.int .i64 0), .d (.int .i64 0), .d (.int .i64 0), .d (.int .i64 0), .d (.int .i64 0), .nl 1], none⟩),
  (40, ⟨.slice 69, 1, 24, [.nl 5], none⟩),
  (41, ⟨.struct [(0, 40)], 1, 24, [.nl 5], none⟩),
  (42, ⟨.struct [(0, 40)], 1, 24, [.nl 5], none⟩),
  (51, ⟨.slice 5, 1, 24, [.nl 1], none⟩),
  (63, ⟨.struct [(0, 3), (1, 3)], 2, 16, [.d (.int .i64 0), .d (.int .i64 0)], none⟩),
  (64, ⟨.struct [(0, 3), (1, 3)], 2, 16, [.d (.int .i64 0), .d (.int .i64 0)], none⟩),
  (68, ⟨.struct [(0, 3), (1, 3), (2, 3), (3, 3), (4, 3)], 5, 40, [.d (.int .i64 0), .d (.int .i64 0), .d (.int .i64 0), .d (.int .i64 0), .d (.int .i64 0)], none⟩),
  (69, ⟨.struct [(0, 3), (1, 3), (2, 3), (3, 3), (4, 3)], 5, 40, [.d (.int .i64 0), .d (.int .i64 0), .d (.int .i64 0), .d (.int .i64 0), .d (.int .i64 0)], none⟩),
  (73, ⟨.slice 9, 1, 24, [.nl 1], none⟩),
  (74, ⟨.struct [(0, 73), (1, 9), (2, 22), (3, 25)], 4, 88, [.nl 1, .d (.str ⟨#[]⟩), .nl 1, .nl 1], none⟩),
  (75, ⟨.struct [(0, 73), (1, 9), (2, 22), (3, 25)], 4, 88, [.nl 1, .d (.str ⟨#[]⟩), .nl 1, .nl 1], none⟩),
  (77, ⟨.slice 108, 1, 24, [.nl 3], none⟩),
  (80, ⟨.struct [(0, 73), (1, 9), (2, 22), (3, 25)], 4, 88, [.nl 1, .d (.str ⟨#[]⟩), .nl 1, .nl 1], none⟩),
  (88, ⟨.slice 42, 1, 24, [.nl 1], none⟩),
  (89, ⟨.struct [(0, 73), (1, 25), (2, 3), (3, 88)], 4, 80, [.nl 1, .nl 1, .d (.int .i64 0), .nl 1], none⟩),
  (90, ⟨.struct [(0, 73), (1, 25), (2, 3), (3, 88)], 4, 80, [.nl 1, .nl 1, .d (.int .i64 0), .nl 1], none⟩),
  (101, ⟨.struct [(0, 25), (1, 88)], 2, 48, [.nl 1, .nl 1], none⟩),
  (102, ⟨.struct [(0, 25), (1, 88)], 2, 48, [.nl 1, .nl 1], none⟩),
  (106, ⟨.int .u64, 1, 8, [.d (.int .u64 0)], none⟩),
  (107, ⟨.struct [(0, 4), (1, 106), (2, 106)], 3, 24, [.d (.bool false), .d (.int .u64 0), .d (.int .u64 0)], none⟩),
  (108, ⟨.struct [(0, 4), (1, 106), (2, 106)], 3, 24, [.d (.bool false), .d (.int .u64 0), .d (.int .u64 0)], none⟩),
  (128, ⟨.struct [(0, 3), (1, 3)], 2, 16, [.d (.int .i64 0), .d (.int .i64 0)], none⟩),
  (129, ⟨.struct [(0, 3), (1, 3)], 2, 16, [.d (.int .i64 0), .d (.int .i64 0)], none⟩),
  (130, ⟨.struct [(0, 3), (1, 3), (2, 129), (4, 129)], 6, 48, [.d (.int .i64 0), .d (.int .i64 0), .d (.int .i64 0), .d (.int .i64 0), .d (.int .i64 0), .d (.int .i64 0)], none⟩),
  (131, ⟨.struct [(0, 3), (1, 3), (2, 129), (4, 129)], 6, 48, [.d (.int .i64 0), .d (.int .i64 0), .d (.int .i64 0), .d (.int .i64 0), .d (.int .i64 0), .d (.int .i64 0)], none⟩),
  (149, ⟨.struct [(0, 25), (1, 64), (3, 3)], 4, 48, [.nl 1, .d (.int .i64 0), .d (.int .i64 0), .d (.int .i64 0)], none⟩),
  (150, ⟨.struct [(0, 25), (1, 64), (3, 3)], 4, 48, [.nl 1, .d (.int .i64 0), .d (.int .i64 0), .d (.int .i64 0)], none⟩),
  (151, ⟨.slice 150, 1, 24, [.nl 4], none⟩),
  (158, ⟨.struct [(0, 25), (1, 64), (3, 3)], 4, 48, [.nl 1, .d (.int .i64 0), .d (.int .i64 0), .d (.int .i64 0)], none⟩),
  (159, ⟨.struct [(0, 25), (1, 64), (3, 3)], 4, 48, [.nl 1, .d (.int .i64 0), .d (.int .i64 0), .d (.int .i64 0)], none⟩),
  (160, ⟨.slice 159, 1, 24, [.nl 4], none⟩),
  (171, ⟨.slice 102, 1, 24, [.nl 2], none⟩),
  (201, ⟨.slice 240, 1, 24, [.nl 1], none⟩),
  (205, ⟨.slice 131, 1, 24, [.nl 6], none⟩),
  (209, ⟨.struct [(0, 3), (1, 3), (2, 3), (3, 3), (4, 3)], 5, 40, [.d (.int .i64 0), .d (.int .i64 0), .d (.int .i64 0), .d (.int .i64 0), .d (.int .i64 0)], none⟩),
  (229, ⟨.arr 2 80, 8, 176, [.nl 1, .d (.str ⟨#[]⟩), .nl 1, .nl 1, .nl 1, .d (.str ⟨#[]⟩), .nl 1, .nl 1], none⟩),
  (240, ⟨.slice 129, 1, 24, [.nl 2], none⟩),
  (248, ⟨.struct [(0, 51), (1, 3), (2, 3)], 3, 40, [.nl 1, .d (.int .i64 0), .d (.int .i64 0)], none⟩),
  (249, ⟨.struct [(0, 51), (1, 3), (2, 3)], 3, 40, [.nl 1, .d (.int .i64 0), .d (.int .i64 0)], none⟩),
  (251, ⟨.int .u64, 1, 8, [.d (.int .u64 0)], none⟩),
  (266, ⟨.struct [(0, 108), (3, 3)], 4, 32, [.d (.bool false), .d (.int .u64 0), .d (.int .u64 0), .d (.int .i64 0)], none⟩),
  (267, ⟨.struct [(0, 108), (3, 3)], 4, 32, [.d (.bool false), .d (.int .u64 0), .d (.int .u64 0), .d (.int .i64 0)], none⟩),
  (277, ⟨.int .i64, 1, 8, [.d (.int .i64 0)], none⟩),
  (284, ⟨.int .u32, 1, 4, [.d (.int .u32 0)], none⟩),
  (292, ⟨.int .u64, 1, 8, [.d (.int .u64 0)], none⟩)]
def T (t : TypeId) : Option TI := look tab t
theorem hT0 : TOk Tryz.prog T := tabOk_sound (by kernel_rfl)
theorem hT : TOk PR T := by unfold PR; exact hT0
def ntab : List (Nat × TI) :=
[(2, ⟨.int .i64, 1, 8, [.d (.int .i64 0)], none⟩),
  (3, ⟨.int .i64, 1, 8, [.d (.int .i64 0)], none⟩),
  (4, ⟨.bool, 1, 1, [.d (.bool false)], none⟩),
  (5, ⟨.int .u8, 1, 1, [.d (.int .u8 0)], none⟩),
  (9, ⟨.str, 1, 16, [.d (.str ⟨#[]⟩)], none⟩),
  (21, ⟨.int .i32, 1, 4, [.d (.int .i32 0)], none⟩),
  (22, ⟨.slice 25, 1, 24, [.nl 1], none⟩),
  (23, ⟨.struct [(0, 22), (1, 22)], 2, 48, [.nl 1, .nl 1], none⟩),
  (24, ⟨.struct [(0, 22), (1, 22)], 2, 48, [.nl 1, .nl 1], none⟩),
  (25, ⟨.slice 3, 1, 24, [.nl 1], some [3]⟩),
  (26, ⟨.struct [(0, 3), (1, 3), (2, 3), (3, 3), (4, 3), (5, 3), (6, 3), (7, 25)], 8, 80, [.d (.int .i64 0), .d (.int .i64 0), .d (.int .i64 0), .d (.int .i64 0), .d (.int .i64 0), .d (.int .i64 0), .d (.int .i64 0), .nl 1], some [0, 0, 0, 0, 0, 0, 0, 3]⟩),
  (27, ⟨.struct [(0, 3), (1, 3), (2, 3), (3, 3), (4, 3), (5, 3), (6, 3), (7, 25)], 8, 80, [.d (.int .i64 0), .d (.int .i64 0), .d (.int .i64 0), .d (.int .i64 0), .d (.int .i64 0), .d (.int .i64 0), .d (.int .i64 0), .nl 1], some [0, 0, 0, 0, 0, 0, 0, 3]⟩),
  (28, ⟨.slice 209, 1, 24, [.nl 5], some [209]⟩),
  (29, ⟨.struct [(0, 28)], 1, 24, [.nl 5], some [209]⟩),
  (30, ⟨.struct [(0, 28)], 1, 24, [.nl 5], some [209]⟩),
  (35, ⟨.struct [(0, 22), (1, 22)], 2, 48, [.nl 1, .nl 1], none⟩),
  (38, ⟨.struct [(0, 3), (1, 3), (2, 3), (3, 3), (4, 3), (5, 3), (6, 3), (7, 25)], 8, 80, [.d (.int .i64 0), .d (.int .i64 0), .d (.int .i64 0), .d (.int .i64 0), .d (.int .i64 0), .d (.int .i64 0), .d (.int .i64 0), .nl 1], some [0, 0, 0, 0, 0, 0, 0, 3]⟩),
  (40, ⟨.slice 69, 1, 24, [.nl 5], some [69]⟩),
  (41, ⟨.struct [(0, 40)], 1, 24, [.nl 5], some [69]⟩),
  (42, ⟨.struct [(0, 40)], 1, 24, [.nl 5], some [69]⟩),
  (51, ⟨.slice 5, 1, 24, [.nl 1], some [5]⟩),
  (63, ⟨.struct [(0, 3), (1, 3)], 2, 16, [.d (.int .i64 0), .d (.int .i64 0)], none⟩),
  (64, ⟨.struct [(0, 3), (1, 3)], 2, 16, [.d (.int .i64 0), .d (.int .i64 0)], none⟩),
  (68, ⟨.struct [(0, 3), (1, 3), (2, 3), (3, 3), (4, 3)], 5, 40, [.d (.int .i64 0), .d (.int .i64 0), .d (.int .i64 0), .d (.int .i64 0), .d (.int .i64 0)], none⟩),
  (69, ⟨.struct [(0, 3), (1, 3), (2, 3), (3, 3), (4, 3)], 5, 40, [.d (.int .i64 0), .d (.int .i64 0), .d (.int .i64 0), .d (.int .i64 0), .d (.int .i64 0)], none⟩),
  (73, ⟨.slice 9, 1, 24, [.nl 1], some [9]⟩),
  (74, ⟨.struct [(0, 73), (1, 9), (2, 22), (3, 25)], 4, 88, [.nl 1, .d (.str ⟨#[]⟩), .nl 1, .nl 1], none⟩),
  (75, ⟨.struct [(0, 73), (1, 9), (2, 22), (3, 25)], 4, 88, [.nl 1, .d (.str ⟨#[]⟩), .nl 1, .nl 1], none⟩),
  (77, ⟨.slice 108, 1, 24, [.nl 3], some [108]⟩),
  (80, ⟨.struct [(0, 73), (1, 9), (2, 22), (3, 25)], 4, 88, [.nl 1, .d (.str ⟨#[]⟩), .nl 1, .nl 1], none⟩),
  (88, ⟨.slice 42, 1, 24, [.nl 1], none⟩),
  (89, ⟨.struct [(0, 73), (1, 25), (2, 3), (3, 88)], 4, 80, [.nl 1, .nl 1, .d (.int .i64 0), .nl 1], none⟩),
  (90, ⟨.struct [(0, 73), (1, 25), (2, 3), (3, 88)], 4, 80, [.nl 1, .nl 1, .d (.int .i64 0), .nl 1], none⟩),
  (101, ⟨.struct [(0, 25), (1, 88)], 2, 48, [.nl 1, .nl 1], none⟩),
  (102, ⟨.struct [(0, 25), (1, 88)], 2, 48, [.nl 1, .nl 1], none⟩),
  (106, ⟨.int .u64, 1, 8, [.d (.int .u64 0)], none⟩),
  (107, ⟨.struct [(0, 4), (1, 106), (2, 106)], 3, 24, [.d (.bool false), .d (.int .u64 0), .d (.int .u64 0)], none⟩),
  (108, ⟨.struct [(0, 4), (1, 106), (2, 106)], 3, 24, [.d (.bool false), .d (.int .u64 0), .d (.int .u64 0)], none⟩),
  (128, ⟨.struct [(0, 3), (1, 3)], 2, 16, [.d (.int .i64 0), .d (.int .i64 0)], none⟩),
  (129, ⟨.struct [(0, 3), (1, 3)], 2, 16, [.d (.int .i64 0), .d (.int .i64 0)], none⟩),
  (130, ⟨.struct [(0, 3), (1, 3), (2, 129), (4, 129)], 6, 48, [.d (.int .i64 0), .d (.int .i64 0), .d (.int .i64 0), .d (.int .i64 0), .d (.int .i64 0), .d (.int .i64 0)], none⟩),
  (131, ⟨.struct [(0, 3), (1, 3), (2, 129), (4, 129)], 6, 48, [.d (.int .i64 0), .d (.int .i64 0), .d (.int .i64 0), .d (.int .i64 0), .d (.int .i64 0), .d (.int .i64 0)], none⟩),
  (149, ⟨.struct [(0, 25), (1, 64), (3, 3)], 4, 48, [.nl 1, .d (.int .i64 0), .d (.int .i64 0), .d (.int .i64 0)], some [3, 0, 0, 0]⟩),
  (150, ⟨.struct [(0, 25), (1, 64), (3, 3)], 4, 48, [.nl 1, .d (.int .i64 0), .d (.int .i64 0), .d (.int .i64 0)], some [3, 0, 0, 0]⟩),
  (151, ⟨.slice 150, 1, 24, [.nl 4], none⟩),
  (158, ⟨.struct [(0, 25), (1, 64), (3, 3)], 4, 48, [.nl 1, .d (.int .i64 0), .d (.int .i64 0), .d (.int .i64 0)], some [3, 0, 0, 0]⟩),
  (159, ⟨.struct [(0, 25), (1, 64), (3, 3)], 4, 48, [.nl 1, .d (.int .i64 0), .d (.int .i64 0), .d (.int .i64 0)], some [3, 0, 0, 0]⟩),
  (160, ⟨.slice 159, 1, 24, [.nl 4], none⟩),
  (171, ⟨.slice 102, 1, 24, [.nl 2], none⟩),
  (201, ⟨.slice 240, 1, 24, [.nl 1], none⟩),
  (205, ⟨.slice 131, 1, 24, [.nl 6], some [131]⟩),
  (209, ⟨.struct [(0, 3), (1, 3), (2, 3), (3, 3), (4, 3)], 5, 40, [.d (.int .i64 0), .d (.int .i64 0), .d (.int .i64 0), .d (.int .i64 0), .d (.int .i64 0)], none⟩),
  (229, ⟨.arr 2 80, 8, 176, [.nl 1, .d (.str ⟨#[]⟩), .nl 1, .nl 1, .nl 1, .d (.str ⟨#[]⟩), .nl 1, .nl 1], none⟩),
  (240, ⟨.slice 129, 1, 24, [.nl 2], some [129]⟩),
  (248, ⟨.struct [(0, 51), (1, 3), (2, 3)], 3, 40, [.nl 1, .d (.int .i64 0), .d (.int .i64 0)], some [5, 0, 0]⟩),
  (249, ⟨.struct [(0, 51), (1, 3), (2, 3)], 3, 40, [.nl 1, .d (.int .i64 0), .d (.int .i64 0)], some [5, 0, 0]⟩),
  (251, ⟨.int .u64, 1, 8, [.d (.int .u64 0)], none⟩),
  (266, ⟨.struct [(0, 108), (3, 3)], 4, 32, [.d (.bool false), .d (.int .u64 0), .d (.int .u64 0), .d (.int .i64 0)], none⟩),
  (267, ⟨.struct [(0, 108), (3, 3)], 4, 32, [.d (.bool false), .d (.int .u64 0), .d (.int .u64 0), .d (.int .i64 0)], none⟩),
  (277, ⟨.int .i64, 1, 8, [.d (.int .i64 0)], none⟩),
  (284, ⟨.int .u32, 1, 4, [.d (.int .u32 0)], none⟩),
  (292, ⟨.int .u64, 1, 8, [.d (.int .u64 0)], none⟩)]
def TN (t : TypeId) : Option TI := look ntab t
theorem hTn0 : TOk Tryz.prog TN := tabOk_sound (by kernel_rfl)
theorem hTn : TOk PR TN := by unfold PR; exact hTn0
def ptab : List (Nat × TI) :=
[(2, ⟨.int .i64, 1, 8, [.d (.int .i64 0)], none⟩),
  (3, ⟨.int .i64, 1, 8, [.d (.int .i64 0)], none⟩),
  (4, ⟨.bool, 1, 1, [.d (.bool false)], none⟩),
  (5, ⟨.int .u8, 1, 1, [.d (.int .u8 0)], none⟩),
  (9, ⟨.str, 1, 16, [.d (.str ⟨#[]⟩)], none⟩),
  (21, ⟨.int .i32, 1, 4, [.d (.int .i32 0)], none⟩),
  (22, ⟨.slice 25, 1, 24, [.nl 1], none⟩),
  (23, ⟨.struct [(0, 22), (1, 22)], 2, 48, [.nl 1, .nl 1], none⟩),
  (24, ⟨.struct [(0, 22), (1, 22)], 2, 48, [.nl 1, .nl 1], none⟩),
  (25, ⟨.slice 3, 1, 24, [.nl 1], none⟩),
  (26, ⟨.struct [(0, 3), (1, 3), (2, 3), (3, 3), (4, 3), (5, 3), (6, 3), (7, 25)], 8, 80, [.d (.int .i64 0), .d (.int .i64 0), .d (.int .i64 0), .d (.int .i64 0), .d (.int .i64 0), .d (.int .i64 0), .d (.int .i64 0), .nl 1], none⟩),
  (27, ⟨.struct [(0, 3), (1, 3), (2, 3), (3, 3), (4, 3), (5, 3), (6, 3), (7, 25)], 8, 80, [.d (.int .i64 0), .d (.int .i64 0), .d (.int .i64 0), .d (.int .i64 0), .d (.int .i64 0), .d (.int .i64 0), .d (.int .i64 0), .nl 1], none⟩),
  (28, ⟨.slice 209, 1, 24, [.nl 5], none⟩),
  (29, ⟨.struct [(0, 28)], 1, 24, [.nl 5], none⟩),
  (30, ⟨.struct [(0, 28)], 1, 24, [.nl 5], none⟩),
  (35, ⟨.struct [(0, 22), (1, 22)], 2, 48, [.nl 1, .nl 1], none⟩),
  (38, ⟨.struct [(0, 3), (1, 3), (2, 3), (3, 3), (4, 3), (5, 3), (6, 3), (7, 25)], 8, 80, [.d (.int .i64 0), .d (.int .i64 0), .d (.int .i64 0), .d (.int .i64 0), .d (.int .i64 0), .d (.int .i64 0), .d (.int .i64 0), .nl 1], none⟩),
  (40, ⟨.slice 69, 1, 24, [.nl 5], none⟩),
  (41, ⟨.struct [(0, 40)], 1, 24, [.nl 5], none⟩),
  (42, ⟨.struct [(0, 40)], 1, 24, [.nl 5], none⟩),
  (51, ⟨.slice 5, 1, 24, [.nl 1], none⟩),
  (63, ⟨.struct [(0, 3), (1, 3)], 2, 16, [.d (.int .i64 0), .d (.int .i64 0)], none⟩),
  (64, ⟨.struct [(0, 3), (1, 3)], 2, 16, [.d (.int .i64 0), .d (.int .i64 0)], none⟩),
  (68, ⟨.struct [(0, 3), (1, 3), (2, 3), (3, 3), (4, 3)], 5, 40, [.d (.int .i64 0), .d (.int .i64 0), .d (.int .i64 0), .d (.int .i64 0), .d (.int .i64 0)], none⟩),
  (69, ⟨.struct [(0, 3), (1, 3), (2, 3), (3, 3), (4, 3)], 5, 40, [.d (.int .i64 0), .d (.int .i64 0), .d (.int .i64 0), .d (.int .i64 0), .d (.int .i64 0)], none⟩),
  (73, ⟨.slice 9, 1, 24, [.nl 1], none⟩),
  (74, ⟨.struct [(0, 73), (1, 9), (2, 22), (3, 25)], 4, 88, [.nl 1, .d (.str ⟨#[]⟩), .nl 1, .nl 1], none⟩),
  (75, ⟨.struct [(0, 73), (1, 9), (2, 22), (3, 25)], 4, 88, [.nl 1, .d (.str ⟨#[]⟩), .nl 1, .nl 1], none⟩),
  (77, ⟨.slice 108, 1, 24, [.nl 3], none⟩),
  (80, ⟨.struct [(0, 73), (1, 9), (2, 22), (3, 25)], 4, 88, [.nl 1, .d (.str ⟨#[]⟩), .nl 1, .nl 1], none⟩),
  (88, ⟨.slice 42, 1, 24, [.nl 1], none⟩),
  (89, ⟨.struct [(0, 73), (1, 25), (2, 3), (3, 88)], 4, 80, [.nl 1, .nl 1, .d (.int .i64 0), .nl 1], none⟩),
  (90, ⟨.struct [(0, 73), (1, 25), (2, 3), (3, 88)], 4, 80, [.nl 1, .nl 1, .d (.int .i64 0), .nl 1], none⟩),
  (101, ⟨.struct [(0, 25), (1, 88)], 2, 48, [.nl 1, .nl 1], none⟩),
  (102, ⟨.struct [(0, 25), (1, 88)], 2, 48, [.nl 1, .nl 1], none⟩),
  (106, ⟨.int .u64, 1, 8, [.d (.int .u64 0)], none⟩),
  (107, ⟨.struct [(0, 4), (1, 106), (2, 106)], 3, 24, [.d (.bool false), .d (.int .u64 0), .d (.int .u64 0)], none⟩),
  (108, ⟨.struct [(0, 4), (1, 106), (2, 106)], 3, 24, [.d (.bool false), .d (.int .u64 0), .d (.int .u64 0)], none⟩),
  (128, ⟨.struct [(0, 3), (1, 3)], 2, 16, [.d (.int .i64 0), .d (.int .i64 0)], none⟩),
  (129, ⟨.struct [(0, 3), (1, 3)], 2, 16, [.d (.int .i64 0), .d (.int .i64 0)], none⟩),
  (130, ⟨.struct [(0, 3), (1, 3), (2, 129), (4, 129)], 6, 48, [.d (.int .i64 0), .d (.int .i64 0), .d (.int .i64 0), .d (.int .i64 0), .d (.int .i64 0), .d (.int .i64 0)], none⟩),
  (131, ⟨.struct [(0, 3), (1, 3), (2, 129), (4, 129)], 6, 48, [.d (.int .i64 0), .d (.int .i64 0), .d (.int .i64 0), .d (.int .i64 0), .d (.int .i64 0), .d (.int .i64 0)], none⟩),
  (149, ⟨.struct [(0, 25), (1, 64), (3, 3)], 4, 48, [.nl 1, .d (.int .i64 0), .d (.int .i64 0), .d (.int .i64 0)], none⟩),
  (150, ⟨.struct [(0, 25), (1, 64), (3, 3)], 4, 48, [.nl 1, .d (.int .i64 0), .d (.int .i64 0), .d (.int .i64 0)], none⟩),
  (151, ⟨.slice 150, 1, 24, [.nl 4], none⟩),
  (158, ⟨.struct [(0, 25), (1, 64), (3, 3)], 4, 48, [.nl 1, .d (.int .i64 0), .d (.int .i64 0), .d (.int .i64 0)], none⟩),
  (159, ⟨.struct [(0, 25), (1, 64), (3, 3)], 4, 48, [.nl 1, .d (.int .i64 0), .d (.int .i64 0), .d (.int .i64 0)], none⟩),
  (160, ⟨.slice 159, 1, 24, [.nl 4], none⟩),
  (171, ⟨.slice 102, 1, 24, [.nl 2], none⟩),
  (201, ⟨.slice 240, 1, 24, [.nl 1], none⟩),
  (205, ⟨.slice 131, 1, 24, [.nl 6], none⟩),
  (209, ⟨.struct [(0, 3), (1, 3), (2, 3), (3, 3), (4, 3)], 5, 40, [.d (.int .i64 0), .d (.int .i64 0), .d (.int .i64 0), .d (.int .i64 0), .d (.int .i64 0)], none⟩),
  (240, ⟨.slice 129, 1, 24, [.nl 2], none⟩),
  (248, ⟨.struct [(0, 51), (1, 3), (2, 3)], 3, 40, [.nl 1, .d (.int .i64 0), .d (.int .i64 0)], none⟩),
  (249, ⟨.struct [(0, 51), (1, 3), (2, 3)], 3, 40, [.nl 1, .d (.int .i64 0), .d (.int .i64 0)], none⟩),
  (251, ⟨.int .u64, 1, 8, [.d (.int .u64 0)], none⟩),
  (266, ⟨.struct [(0, 108), (3, 3)], 4, 32, [.d (.bool false), .d (.int .u64 0), .d (.int .u64 0), .d (.int .i64 0)], none⟩),
  (267, ⟨.struct [(0, 108), (3, 3)], 4, 32, [.d (.bool false), .d (.int .u64 0), .d (.int .u64 0), .d (.int .i64 0)], none⟩),
  (277, ⟨.int .i64, 1, 8, [.d (.int .i64 0)], none⟩),
  (284, ⟨.int .u32, 1, 4, [.d (.int .u32 0)], none⟩),
  (292, ⟨.int .u64, 1, 8, [.d (.int .u64 0)], none⟩)]
def Tp (t : TypeId) : Option TI := look ptab t
theorem hTp : TOk Tryz.prog Tp := tabOk_sound (by kernel_rfl)
theorem hmix : PR.follows .mixedOrders = true := by unfold PR; kernel_rfl
abbrev t_int64 : TypeId := 2
abbrev t_int : TypeId := 3
abbrev t_bool : TypeId := 4
abbrev t_uint8 : TypeId := 5
abbrev t_abi_BoundsErrorCode : TypeId := 6
abbrev t_runtime_boundsError : TypeId := 8
abbrev t_string : TypeId := 9
abbrev t_runtime_errorString : TypeId := 10
abbrev t_runtime_plainError : TypeId := 11
abbrev t_uintptr : TypeId := 12
abbrev t_runtime_errorAddressString : TypeId := 14
abbrev t_Pruntime_TypeAssertionError : TypeId := 15
abbrev t_Pruntime_PanicNilError : TypeId := 16
abbrev t_Pabi_Type : TypeId := 17
abbrev t_maps_unhashableTypeError : TypeId := 19
abbrev t_int32 : TypeId := 21
abbrev t_LLint : TypeId := 22
abbrev t_laws_Grid : TypeId := 24
abbrev t_Lint : TypeId := 25
abbrev t_laws_Config : TypeId := 27
abbrev t_Llaws_Node : TypeId := 28
abbrev t_laws_Tree : TypeId := 30
abbrev t_impl_Grid : TypeId := 35
abbrev t_impl_Config : TypeId := 38
abbrev t_Limpl_Node : TypeId := 40
abbrev t_impl_Tree : TypeId := 42
abbrev t_Luint8 : TypeId := 51
abbrev t_impl_Bound : TypeId := 64
abbrev t_impl_Node : TypeId := 69
abbrev t_Lstring : TypeId := 73
abbrev t_laws_Table : TypeId := 75
abbrev t_Limpl_Wide : TypeId := 77
abbrev t_impl_Table : TypeId := 80
abbrev t_Limpl_Tree : TypeId := 88
abbrev t_impl_Model : TypeId := 90
abbrev t_impl_State : TypeId := 102
abbrev t_uint64 : TypeId := 106
abbrev t_impl_Wide : TypeId := 108
abbrev t_impl_Slot : TypeId := 129
abbrev t_impl_Cand : TypeId := 131
abbrev t_Pspec_l1Cur : TypeId := 143
abbrev t_impl_pending : TypeId := 150
abbrev t_Limpl_pending : TypeId := 151
abbrev t_spec_l19Item : TypeId := 159
abbrev t_Lspec_l19Item : TypeId := 160
abbrev t_Limpl_State : TypeId := 171
abbrev t_LLimpl_Slot : TypeId := 201
abbrev t_Limpl_Cand : TypeId := 205
abbrev t_laws_Node : TypeId := 209
abbrev t_2_impl_Table : TypeId := 229
abbrev t_Limpl_Slot : TypeId := 240
abbrev t_spec_l1Cur : TypeId := 249
abbrev t_uint : TypeId := 251
abbrev t_impl_Frac : TypeId := 267
abbrev t_slices_sortedHint : TypeId := 277
abbrev t_uint32 : TypeId := 284
abbrev t_slices_xorshift : TypeId := 292
abbrev t_Pint : TypeId := 296
abbrev t_Pslices_xorshift : TypeId := 301
abbrev t_runtime_TypeAssertionError : TypeId := 306
abbrev t_0_Pruntime_PanicNilError : TypeId := 307
abbrev t_runtime_PanicNilError : TypeId := 309
abbrev t_abi_TFlag : TypeId := 311
abbrev t_abi_Kind : TypeId := 312
abbrev t_Puint8 : TypeId := 314
abbrev t_abi_NameOff : TypeId := 315
abbrev t_abi_TypeOff : TypeId := 316
abbrev t_abi_Type : TypeId := 318
abbrev t_unsafe_Pointer : TypeId := 319
abbrev f_laws_FnExactBestAt : FuncId := 3
theorem p_laws_FnExactBestAt : PR.funcs[f_laws_FnExactBestAt]? = some Tryz.f3 := by unfold PR; exact Tryz.func3
@[reducible] noncomputable def c_laws_FnExactBestAt : Func := Tryz.f3
theorem n_laws_FnExactBestAt : c_laws_FnExactBestAt.ntmps = 83 := Tryz.ntmps3
abbrev f_laws_FnExactAllBest : FuncId := 4
theorem p_laws_FnExactAllBest : PR.funcs[f_laws_FnExactAllBest]? = some Tryz.f4 := by unfold PR; exact Tryz.func4
@[reducible] noncomputable def c_laws_FnExactAllBest : Func := Tryz.f4
theorem n_laws_FnExactAllBest : c_laws_FnExactAllBest.ntmps = 79 := Tryz.ntmps4
abbrev f_laws_szGrid : FuncId := 14
theorem p_laws_szGrid : PR.funcs[f_laws_szGrid]? = some Tryz.f14 := by unfold PR; exact Tryz.func14
@[reducible] noncomputable def c_laws_szGrid : Func := Tryz.f14
theorem n_laws_szGrid : c_laws_szGrid.ntmps = 18 := Tryz.ntmps14
abbrev f_laws_szConfig : FuncId := 15
theorem p_laws_szConfig : PR.funcs[f_laws_szConfig]? = some Tryz.f15 := by unfold PR; exact Tryz.func15
@[reducible] noncomputable def c_laws_szConfig : Func := Tryz.f15
theorem n_laws_szConfig : c_laws_szConfig.ntmps = 12 := Tryz.ntmps15
abbrev f_laws_szTree : FuncId := 16
theorem p_laws_szTree : PR.funcs[f_laws_szTree]? = some Tryz.f16 := by unfold PR; exact Tryz.func16
@[reducible] noncomputable def c_laws_szTree : Func := Tryz.f16
theorem n_laws_szTree : c_laws_szTree.ntmps = 12 := Tryz.ntmps16
abbrev f_spec_BestAt : FuncId := 17
theorem p_spec_BestAt : PR.funcs[f_spec_BestAt]? = some Tryz.f17 := by unfold PR; exact Tryz.func17
@[reducible] noncomputable def c_spec_BestAt : Func := Tryz.f17
theorem n_spec_BestAt : c_spec_BestAt.ntmps = 96 := Tryz.ntmps17
abbrev f_laws_toGrid : FuncId := 18
theorem p_laws_toGrid : PR.funcs[f_laws_toGrid]? = some Tryz.f18 := by unfold PR; exact Tryz.func18
@[reducible] noncomputable def c_laws_toGrid : Func := Tryz.f18
theorem n_laws_toGrid : c_laws_toGrid.ntmps = 13 := Tryz.ntmps18
abbrev f_laws_toIntS : FuncId := 19
theorem p_laws_toIntS : PR.funcs[f_laws_toIntS]? = some Tryz.f19 := by unfold PR; exact Tryz.func19
@[reducible] noncomputable def c_laws_toIntS : Func := Tryz.f19
theorem n_laws_toIntS : c_laws_toIntS.ntmps = 22 := Tryz.ntmps19
abbrev f_laws_toConfig : FuncId := 20
theorem p_laws_toConfig : PR.funcs[f_laws_toConfig]? = some Tryz.f20 := by unfold PR; exact Tryz.func20
@[reducible] noncomputable def c_laws_toConfig : Func := Tryz.f20
theorem n_laws_toConfig : c_laws_toConfig.ntmps = 30 := Tryz.ntmps20
abbrev f_laws_toTree : FuncId := 21
theorem p_laws_toTree : PR.funcs[f_laws_toTree]? = some Tryz.f21 := by unfold PR; exact Tryz.func21
@[reducible] noncomputable def c_laws_toTree : Func := Tryz.f21
theorem n_laws_toTree : c_laws_toTree.ntmps = 9 := Tryz.ntmps21
abbrev f_impl_BestAt : FuncId := 22
theorem p_impl_BestAt : PR.funcs[f_impl_BestAt]? = some Tryz.f22 := by unfold PR; exact Tryz.func22
@[reducible] noncomputable def c_impl_BestAt : Func := Tryz.f22
theorem n_impl_BestAt : c_impl_BestAt.ntmps = 93 := Tryz.ntmps22
abbrev f_laws_eqGrid : FuncId := 23
theorem p_laws_eqGrid : PR.funcs[f_laws_eqGrid]? = some Tryz.f23 := by unfold PR; exact Tryz.func23
@[reducible] noncomputable def c_laws_eqGrid : Func := Tryz.f23
theorem n_laws_eqGrid : c_laws_eqGrid.ntmps = 17 := Tryz.ntmps23
abbrev f_laws_eqIntS : FuncId := 24
theorem p_laws_eqIntS : PR.funcs[f_laws_eqIntS]? = some Tryz.f24 := by unfold PR; exact Tryz.func24
@[reducible] noncomputable def c_laws_eqIntS : Func := Tryz.f24
theorem n_laws_eqIntS : c_laws_eqIntS.ntmps = 26 := Tryz.ntmps24
abbrev f_laws_eqConfig : FuncId := 25
theorem p_laws_eqConfig : PR.funcs[f_laws_eqConfig]? = some Tryz.f25 := by unfold PR; exact Tryz.func25
@[reducible] noncomputable def c_laws_eqConfig : Func := Tryz.f25
theorem n_laws_eqConfig : c_laws_eqConfig.ntmps = 46 := Tryz.ntmps25
abbrev f_laws_eqTree : FuncId := 26
theorem p_laws_eqTree : PR.funcs[f_laws_eqTree]? = some Tryz.f26 := by unfold PR; exact Tryz.func26
@[reducible] noncomputable def c_laws_eqTree : Func := Tryz.f26
theorem n_laws_eqTree : c_laws_eqTree.ntmps = 11 := Tryz.ntmps26
abbrev f_spec_AllBest : FuncId := 27
theorem p_spec_AllBest : PR.funcs[f_spec_AllBest]? = some Tryz.f27 := by unfold PR; exact Tryz.func27
@[reducible] noncomputable def c_spec_AllBest : Func := Tryz.f27
theorem n_spec_AllBest : c_spec_AllBest.ntmps = 30 := Tryz.ntmps27
abbrev f_impl_AllBest : FuncId := 28
theorem p_impl_AllBest : PR.funcs[f_impl_AllBest]? = some Tryz.f28 := by unfold PR; exact Tryz.func28
@[reducible] noncomputable def c_impl_AllBest : Func := Tryz.f28
theorem n_impl_AllBest : c_impl_AllBest.ntmps = 30 := Tryz.ntmps28
abbrev f_impl_TaskOk : FuncId := 34
theorem p_impl_TaskOk : PR.funcs[f_impl_TaskOk]? = some Tryz.f34 := by unfold PR; exact Tryz.func34
@[reducible] noncomputable def c_impl_TaskOk : Func := Tryz.f34
theorem n_impl_TaskOk : c_impl_TaskOk.ntmps = 25 := Tryz.ntmps34
abbrev f_impl_NodeRows : FuncId := 35
theorem p_impl_NodeRows : PR.funcs[f_impl_NodeRows]? = some Tryz.f35 := by unfold PR; exact Tryz.func35
@[reducible] noncomputable def c_impl_NodeRows : Func := Tryz.f35
theorem n_impl_NodeRows : c_impl_NodeRows.ntmps = 31 := Tryz.ntmps35
abbrev f_impl_TreeOk : FuncId := 36
theorem p_impl_TreeOk : PR.funcs[f_impl_TreeOk]? = some Tryz.f36 := by unfold PR; exact Tryz.func36
@[reducible] noncomputable def c_impl_TreeOk : Func := Tryz.f36
theorem n_impl_TreeOk : c_impl_TreeOk.ntmps = 99 := Tryz.ntmps36
abbrev f_spec_TreeOk : FuncId := 37
theorem p_spec_TreeOk : PR.funcs[f_spec_TreeOk]? = some Tryz.f37 := by unfold PR; exact Tryz.func37
@[reducible] noncomputable def c_spec_TreeOk : Func := Tryz.f37
theorem n_spec_TreeOk : c_spec_TreeOk.ntmps = 27 := Tryz.ntmps37
abbrev f_impl_BoundAt : FuncId := 40
theorem p_impl_BoundAt : PR.funcs[f_impl_BoundAt]? = some Tryz.f40 := by unfold PR; exact Tryz.func40
@[reducible] noncomputable def c_impl_BoundAt : Func := Tryz.f40
theorem n_impl_BoundAt : c_impl_BoundAt.ntmps = 105 := Tryz.ntmps40
abbrev f_spec_BoundAt : FuncId := 41
theorem p_spec_BoundAt : PR.funcs[f_spec_BoundAt]? = some Tryz.f41 := by unfold PR; exact Tryz.func41
@[reducible] noncomputable def c_spec_BoundAt : Func := Tryz.f41
theorem n_spec_BoundAt : c_spec_BoundAt.ntmps = 109 := Tryz.ntmps41
abbrev f_spec_BoundOk : FuncId := 42
theorem p_spec_BoundOk : PR.funcs[f_spec_BoundOk]? = some Tryz.f42 := by unfold PR; exact Tryz.func42
@[reducible] noncomputable def c_spec_BoundOk : Func := Tryz.f42
theorem n_spec_BoundOk : c_spec_BoundOk.ntmps = 18 := Tryz.ntmps42
abbrev f_spec_ConfigOk : FuncId := 64
theorem p_spec_ConfigOk : PR.funcs[f_spec_ConfigOk]? = some Tryz.f64 := by unfold PR; exact Tryz.func64
@[reducible] noncomputable def c_spec_ConfigOk : Func := Tryz.f64
theorem n_spec_ConfigOk : c_spec_ConfigOk.ntmps = 56 := Tryz.ntmps64
abbrev f_spec_AddWide : FuncId := 71
theorem p_spec_AddWide : PR.funcs[f_spec_AddWide]? = some Tryz.f71 := by unfold PR; exact Tryz.func71
@[reducible] noncomputable def c_spec_AddWide : Func := Tryz.f71
theorem n_spec_AddWide : c_spec_AddWide.ntmps = 85 := Tryz.ntmps71
abbrev f_spec_CompareWide : FuncId := 72
theorem p_spec_CompareWide : PR.funcs[f_spec_CompareWide]? = some Tryz.f72 := by unfold PR; exact Tryz.func72
@[reducible] noncomputable def c_spec_CompareWide : Func := Tryz.f72
theorem n_spec_CompareWide : c_spec_CompareWide.ntmps = 41 := Tryz.ntmps72
abbrev f_spec_NodeRows : FuncId := 78
theorem p_spec_NodeRows : PR.funcs[f_spec_NodeRows]? = some Tryz.f78 := by unfold PR; exact Tryz.func78
@[reducible] noncomputable def c_spec_NodeRows : Func := Tryz.f78
theorem n_spec_NodeRows : c_spec_NodeRows.ntmps = 86 := Tryz.ntmps78
abbrev f_laws_szIntSS : FuncId := 85
theorem p_laws_szIntSS : PR.funcs[f_laws_szIntSS]? = some Tryz.f85 := by unfold PR; exact Tryz.func85
@[reducible] noncomputable def c_laws_szIntSS : Func := Tryz.f85
theorem n_laws_szIntSS : c_laws_szIntSS.ntmps = 27 := Tryz.ntmps85
abbrev f_laws_szIntS : FuncId := 86
theorem p_laws_szIntS : PR.funcs[f_laws_szIntS]? = some Tryz.f86 := by unfold PR; exact Tryz.func86
@[reducible] noncomputable def c_laws_szIntS : Func := Tryz.f86
theorem n_laws_szIntS : c_laws_szIntS.ntmps = 12 := Tryz.ntmps86
abbrev f_laws_szNodeS : FuncId := 87
theorem p_laws_szNodeS : PR.funcs[f_laws_szNodeS]? = some Tryz.f87 := by unfold PR; exact Tryz.func87
@[reducible] noncomputable def c_laws_szNodeS : Func := Tryz.f87
theorem n_laws_szNodeS : c_laws_szNodeS.ntmps = 12 := Tryz.ntmps87
abbrev f_spec_PartOf : FuncId := 88
theorem p_spec_PartOf : PR.funcs[f_spec_PartOf]? = some Tryz.f88 := by unfold PR; exact Tryz.func88
@[reducible] noncomputable def c_spec_PartOf : Func := Tryz.f88
theorem n_spec_PartOf : c_spec_PartOf.ntmps = 39 := Tryz.ntmps88
abbrev f_spec_LevelOf : FuncId := 89
theorem p_spec_LevelOf : PR.funcs[f_spec_LevelOf]? = some Tryz.f89 := by unfold PR; exact Tryz.func89
@[reducible] noncomputable def c_spec_LevelOf : Func := Tryz.f89
theorem n_spec_LevelOf : c_spec_LevelOf.ntmps = 23 := Tryz.ntmps89
abbrev f_spec_LeafOf : FuncId := 90
theorem p_spec_LeafOf : PR.funcs[f_spec_LeafOf]? = some Tryz.f90 := by unfold PR; exact Tryz.func90
@[reducible] noncomputable def c_spec_LeafOf : Func := Tryz.f90
theorem n_spec_LeafOf : c_spec_LeafOf.ntmps = 40 := Tryz.ntmps90
abbrev f_spec_l19Sum : FuncId := 91
theorem p_spec_l19Sum : PR.funcs[f_spec_l19Sum]? = some Tryz.f91 := by unfold PR; exact Tryz.func91
@[reducible] noncomputable def c_spec_l19Sum : Func := Tryz.f91
theorem n_spec_l19Sum : c_spec_l19Sum.ntmps = 29 := Tryz.ntmps91
abbrev f_spec_l17Inner : FuncId := 92
theorem p_spec_l17Inner : PR.funcs[f_spec_l17Inner]? = some Tryz.f92 := by unfold PR; exact Tryz.func92
@[reducible] noncomputable def c_spec_l17Inner : Func := Tryz.f92
theorem n_spec_l17Inner : c_spec_l17Inner.ntmps = 6 := Tryz.ntmps92
abbrev f_laws_toIntSS : FuncId := 93
theorem p_laws_toIntSS : PR.funcs[f_laws_toIntSS]? = some Tryz.f93 := by unfold PR; exact Tryz.func93
@[reducible] noncomputable def c_laws_toIntSS : Func := Tryz.f93
theorem n_laws_toIntSS : c_laws_toIntSS.ntmps = 23 := Tryz.ntmps93
abbrev f_laws_toNodeS : FuncId := 94
theorem p_laws_toNodeS : PR.funcs[f_laws_toNodeS]? = some Tryz.f94 := by unfold PR; exact Tryz.func94
@[reducible] noncomputable def c_laws_toNodeS : Func := Tryz.f94
theorem n_laws_toNodeS : c_laws_toNodeS.ntmps = 23 := Tryz.ntmps94
abbrev f_impl_nodeRows : FuncId := 95
theorem p_impl_nodeRows : PR.funcs[f_impl_nodeRows]? = some Tryz.f95 := by unfold PR; exact Tryz.func95
@[reducible] noncomputable def c_impl_nodeRows : Func := Tryz.f95
theorem n_impl_nodeRows : c_impl_nodeRows.ntmps = 65 := Tryz.ntmps95
abbrev f_impl_LevelOf : FuncId := 96
theorem p_impl_LevelOf : PR.funcs[f_impl_LevelOf]? = some Tryz.f96 := by unfold PR; exact Tryz.func96
@[reducible] noncomputable def c_impl_LevelOf : Func := Tryz.f96
theorem n_impl_LevelOf : c_impl_LevelOf.ntmps = 10 := Tryz.ntmps96
abbrev f_impl_PartOf : FuncId := 97
theorem p_impl_PartOf : PR.funcs[f_impl_PartOf]? = some Tryz.f97 := by unfold PR; exact Tryz.func97
@[reducible] noncomputable def c_impl_PartOf : Func := Tryz.f97
theorem n_impl_PartOf : c_impl_PartOf.ntmps = 39 := Tryz.ntmps97
abbrev f_impl_LeafOf : FuncId := 98
theorem p_impl_LeafOf : PR.funcs[f_impl_LeafOf]? = some Tryz.f98 := by unfold PR; exact Tryz.func98
@[reducible] noncomputable def c_impl_LeafOf : Func := Tryz.f98
theorem n_impl_LeafOf : c_impl_LeafOf.ntmps = 36 := Tryz.ntmps98
abbrev f_impl_slotOf : FuncId := 99
theorem p_impl_slotOf : PR.funcs[f_impl_slotOf]? = some Tryz.f99 := by unfold PR; exact Tryz.func99
@[reducible] noncomputable def c_impl_slotOf : Func := Tryz.f99
theorem n_impl_slotOf : c_impl_slotOf.ntmps = 27 := Tryz.ntmps99
abbrev f_impl_isLeaf : FuncId := 100
theorem p_impl_isLeaf : PR.funcs[f_impl_isLeaf]? = some Tryz.f100 := by unfold PR; exact Tryz.func100
@[reducible] noncomputable def c_impl_isLeaf : Func := Tryz.f100
theorem n_impl_isLeaf : c_impl_isLeaf.ntmps = 6 := Tryz.ntmps100
abbrev f_laws_eqIntSS : FuncId := 101
theorem p_laws_eqIntSS : PR.funcs[f_laws_eqIntSS]? = some Tryz.f101 := by unfold PR; exact Tryz.func101
@[reducible] noncomputable def c_laws_eqIntSS : Func := Tryz.f101
theorem n_laws_eqIntSS : c_laws_eqIntSS.ntmps = 27 := Tryz.ntmps101
abbrev f_laws_eqNodeS : FuncId := 102
theorem p_laws_eqNodeS : PR.funcs[f_laws_eqNodeS]? = some Tryz.f102 := by unfold PR; exact Tryz.func102
@[reducible] noncomputable def c_laws_eqNodeS : Func := Tryz.f102
theorem n_laws_eqNodeS : c_laws_eqNodeS.ntmps = 27 := Tryz.ntmps102
abbrev f_impl_AllRows : FuncId := 104
theorem p_impl_AllRows : PR.funcs[f_impl_AllRows]? = some Tryz.f104 := by unfold PR; exact Tryz.func104
@[reducible] noncomputable def c_impl_AllRows : Func := Tryz.f104
theorem n_impl_AllRows : c_impl_AllRows.ntmps = 20 := Tryz.ntmps104
abbrev f_impl_RowsIn : FuncId := 105
theorem p_impl_RowsIn : PR.funcs[f_impl_RowsIn]? = some Tryz.f105 := by unfold PR; exact Tryz.func105
@[reducible] noncomputable def c_impl_RowsIn : Func := Tryz.f105
theorem n_impl_RowsIn : c_impl_RowsIn.ntmps = 12 := Tryz.ntmps105
abbrev f_impl_Free : FuncId := 106
theorem p_impl_Free : PR.funcs[f_impl_Free]? = some Tryz.f106 := by unfold PR; exact Tryz.func106
@[reducible] noncomputable def c_impl_Free : Func := Tryz.f106
theorem n_impl_Free : c_impl_Free.ntmps = 2 := Tryz.ntmps106
abbrev f_impl_SideValues : FuncId := 107
theorem p_impl_SideValues : PR.funcs[f_impl_SideValues]? = some Tryz.f107 := by unfold PR; exact Tryz.func107
@[reducible] noncomputable def c_impl_SideValues : Func := Tryz.f107
theorem n_impl_SideValues : c_impl_SideValues.ntmps = 39 := Tryz.ntmps107
abbrev f_impl_SidesOf : FuncId := 108
theorem p_impl_SidesOf : PR.funcs[f_impl_SidesOf]? = some Tryz.f108 := by unfold PR; exact Tryz.func108
@[reducible] noncomputable def c_impl_SidesOf : Func := Tryz.f108
theorem n_impl_SidesOf : c_impl_SidesOf.ntmps = 47 := Tryz.ntmps108
abbrev f_impl_SignFor : FuncId := 109
theorem p_impl_SignFor : PR.funcs[f_impl_SignFor]? = some Tryz.f109 := by unfold PR; exact Tryz.func109
@[reducible] noncomputable def c_impl_SignFor : Func := Tryz.f109
theorem n_impl_SignFor : c_impl_SignFor.ntmps = 17 := Tryz.ntmps109
abbrev f_impl_SplitRows : FuncId := 110
theorem p_impl_SplitRows : PR.funcs[f_impl_SplitRows]? = some Tryz.f110 := by unfold PR; exact Tryz.func110
@[reducible] noncomputable def c_impl_SplitRows : Func := Tryz.f110
theorem n_impl_SplitRows : c_impl_SplitRows.ntmps = 45 := Tryz.ntmps110
abbrev f_spec_TaskOk : FuncId := 111
theorem p_spec_TaskOk : PR.funcs[f_spec_TaskOk]? = some Tryz.f111 := by unfold PR; exact Tryz.func111
@[reducible] noncomputable def c_spec_TaskOk : Func := Tryz.f111
theorem n_spec_TaskOk : c_spec_TaskOk.ntmps = 35 := Tryz.ntmps111
abbrev f_spec_AllRows : FuncId := 112
theorem p_spec_AllRows : PR.funcs[f_spec_AllRows]? = some Tryz.f112 := by unfold PR; exact Tryz.func112
@[reducible] noncomputable def c_spec_AllRows : Func := Tryz.f112
theorem n_spec_AllRows : c_spec_AllRows.ntmps = 20 := Tryz.ntmps112
abbrev f_spec_Free : FuncId := 113
theorem p_spec_Free : PR.funcs[f_spec_Free]? = some Tryz.f113 := by unfold PR; exact Tryz.func113
@[reducible] noncomputable def c_spec_Free : Func := Tryz.f113
theorem n_spec_Free : c_spec_Free.ntmps = 2 := Tryz.ntmps113
abbrev f_spec_SplitRows : FuncId := 114
theorem p_spec_SplitRows : PR.funcs[f_spec_SplitRows]? = some Tryz.f114 := by unfold PR; exact Tryz.func114
@[reducible] noncomputable def c_spec_SplitRows : Func := Tryz.f114
theorem n_spec_SplitRows : c_spec_SplitRows.ntmps = 55 := Tryz.ntmps114
abbrev f_spec_SideValues : FuncId := 115
theorem p_spec_SideValues : PR.funcs[f_spec_SideValues]? = some Tryz.f115 := by unfold PR; exact Tryz.func115
@[reducible] noncomputable def c_spec_SideValues : Func := Tryz.f115
theorem n_spec_SideValues : c_spec_SideValues.ntmps = 39 := Tryz.ntmps115
abbrev f_spec_SidesOf : FuncId := 116
theorem p_spec_SidesOf : PR.funcs[f_spec_SidesOf]? = some Tryz.f116 := by unfold PR; exact Tryz.func116
@[reducible] noncomputable def c_spec_SidesOf : Func := Tryz.f116
theorem n_spec_SidesOf : c_spec_SidesOf.ntmps = 47 := Tryz.ntmps116
abbrev f_spec_SignFor : FuncId := 117
theorem p_spec_SignFor : PR.funcs[f_spec_SignFor]? = some Tryz.f117 := by unfold PR; exact Tryz.func117
@[reducible] noncomputable def c_spec_SignFor : Func := Tryz.f117
theorem n_spec_SignFor : c_spec_SignFor.ntmps = 17 := Tryz.ntmps117
abbrev f_impl_GridOk : FuncId := 118
theorem p_impl_GridOk : PR.funcs[f_impl_GridOk]? = some Tryz.f118 := by unfold PR; exact Tryz.func118
@[reducible] noncomputable def c_impl_GridOk : Func := Tryz.f118
theorem n_impl_GridOk : c_impl_GridOk.ntmps = 57 := Tryz.ntmps118
abbrev f_impl_ConfigOk : FuncId := 119
theorem p_impl_ConfigOk : PR.funcs[f_impl_ConfigOk]? = some Tryz.f119 := by unfold PR; exact Tryz.func119
@[reducible] noncomputable def c_impl_ConfigOk : Func := Tryz.f119
theorem n_impl_ConfigOk : c_impl_ConfigOk.ntmps = 50 := Tryz.ntmps119
abbrev f_slices_ContainsFunc_Lint_int : FuncId := 120
theorem p_slices_ContainsFunc_Lint_int : PR.funcs[f_slices_ContainsFunc_Lint_int]? = some Tryz.f120 := by unfold PR; exact Tryz.func120
@[reducible] noncomputable def c_slices_ContainsFunc_Lint_int : Func := Tryz.f120
theorem n_slices_ContainsFunc_Lint_int : c_slices_ContainsFunc_Lint_int.ntmps = 9 := Tryz.ntmps120
abbrev f_impl_TaskOk_1 : FuncId := 121
theorem p_impl_TaskOk_1 : PR.funcs[f_impl_TaskOk_1]? = some Tryz.f121 := by unfold PR; exact Tryz.func121
@[reducible] noncomputable def c_impl_TaskOk_1 : Func := Tryz.f121
theorem n_impl_TaskOk_1 : c_impl_TaskOk_1.ntmps = 6 := Tryz.ntmps121
abbrev f_impl_within : FuncId := 122
theorem p_impl_within : PR.funcs[f_impl_within]? = some Tryz.f122 := by unfold PR; exact Tryz.func122
@[reducible] noncomputable def c_impl_within : Func := Tryz.f122
theorem n_impl_within : c_impl_within.ntmps = 15 := Tryz.ntmps122
abbrev f_impl_shapeOk : FuncId := 123
theorem p_impl_shapeOk : PR.funcs[f_impl_shapeOk]? = some Tryz.f123 := by unfold PR; exact Tryz.func123
@[reducible] noncomputable def c_impl_shapeOk : Func := Tryz.f123
theorem n_impl_shapeOk : c_impl_shapeOk.ntmps = 72 := Tryz.ntmps123
abbrev f_impl_wayTo : FuncId := 124
theorem p_impl_wayTo : PR.funcs[f_impl_wayTo]? = some Tryz.f124 := by unfold PR; exact Tryz.func124
@[reducible] noncomputable def c_impl_wayTo : Func := Tryz.f124
theorem n_impl_wayTo : c_impl_wayTo.ntmps = 34 := Tryz.ntmps124
abbrev f_spec_l1In : FuncId := 125
theorem p_spec_l1In : PR.funcs[f_spec_l1In]? = some Tryz.f125 := by unfold PR; exact Tryz.func125
@[reducible] noncomputable def c_spec_l1In : Func := Tryz.f125
theorem n_spec_l1In : c_spec_l1In.ntmps = 15 := Tryz.ntmps125
abbrev f_spec_l17Shape : FuncId := 126
theorem p_spec_l17Shape : PR.funcs[f_spec_l17Shape]? = some Tryz.f126 := by unfold PR; exact Tryz.func126
@[reducible] noncomputable def c_spec_l17Shape : Func := Tryz.f126
theorem n_spec_l17Shape : c_spec_l17Shape.ntmps = 77 := Tryz.ntmps126
abbrev f_spec_DepthOf : FuncId := 127
theorem p_spec_DepthOf : PR.funcs[f_spec_DepthOf]? = some Tryz.f127 := by unfold PR; exact Tryz.func127
@[reducible] noncomputable def c_spec_DepthOf : Func := Tryz.f127
theorem n_spec_DepthOf : c_spec_DepthOf.ntmps = 18 := Tryz.ntmps127
abbrev f_spec_l17Ways : FuncId := 128
theorem p_spec_l17Ways : PR.funcs[f_spec_l17Ways]? = some Tryz.f128 := by unfold PR; exact Tryz.func128
@[reducible] noncomputable def c_spec_l17Ways : Func := Tryz.f128
theorem n_spec_l17Ways : c_spec_l17Ways.ntmps = 79 := Tryz.ntmps128
abbrev f_spec_WayTo : FuncId := 130
theorem p_spec_WayTo : PR.funcs[f_spec_WayTo]? = some Tryz.f130 := by unfold PR; exact Tryz.func130
@[reducible] noncomputable def c_spec_WayTo : Func := Tryz.f130
theorem n_spec_WayTo : c_spec_WayTo.ntmps = 22 := Tryz.ntmps130
abbrev f_spec_l14Leaf : FuncId := 131
theorem p_spec_l14Leaf : PR.funcs[f_spec_l14Leaf]? = some Tryz.f131 := by unfold PR; exact Tryz.func131
@[reducible] noncomputable def c_spec_l14Leaf : Func := Tryz.f131
theorem n_spec_l14Leaf : c_spec_l14Leaf.ntmps = 5 := Tryz.ntmps131
abbrev f_spec_l6Value : FuncId := 161
theorem p_spec_l6Value : PR.funcs[f_spec_l6Value]? = some Tryz.f161 := by unfold PR; exact Tryz.func161
@[reducible] noncomputable def c_spec_l6Value : Func := Tryz.f161
theorem n_spec_l6Value : c_spec_l6Value.ntmps = 5 := Tryz.ntmps161
abbrev f_spec_l8Numbers : FuncId := 162
theorem p_spec_l8Numbers : PR.funcs[f_spec_l8Numbers]? = some Tryz.f162 := by unfold PR; exact Tryz.func162
@[reducible] noncomputable def c_spec_l8Numbers : Func := Tryz.f162
theorem n_spec_l8Numbers : c_spec_l8Numbers.ntmps = 14 := Tryz.ntmps162
abbrev f_spec_l8Least : FuncId := 163
theorem p_spec_l8Least : PR.funcs[f_spec_l8Least]? = some Tryz.f163 := by unfold PR; exact Tryz.func163
@[reducible] noncomputable def c_spec_l8Least : Func := Tryz.f163
theorem n_spec_l8Least : c_spec_l8Least.ntmps = 2 := Tryz.ntmps163
abbrev f_spec_l8Most : FuncId := 164
theorem p_spec_l8Most : PR.funcs[f_spec_l8Most]? = some Tryz.f164 := by unfold PR; exact Tryz.func164
@[reducible] noncomputable def c_spec_l8Most : Func := Tryz.f164
theorem n_spec_l8Most : c_spec_l8Most.ntmps = 2 := Tryz.ntmps164
abbrev f_spec_BinOf : FuncId := 168
theorem p_spec_BinOf : PR.funcs[f_spec_BinOf]? = some Tryz.f168 := by unfold PR; exact Tryz.func168
@[reducible] noncomputable def c_spec_BinOf : Func := Tryz.f168
theorem n_spec_BinOf : c_spec_BinOf.ntmps = 22 := Tryz.ntmps168
abbrev f_spec_SubInt : FuncId := 169
theorem p_spec_SubInt : PR.funcs[f_spec_SubInt]? = some Tryz.f169 := by unfold PR; exact Tryz.func169
@[reducible] noncomputable def c_spec_SubInt : Func := Tryz.f169
theorem n_spec_SubInt : c_spec_SubInt.ntmps = 27 := Tryz.ntmps169
abbrev f_impl_AddWide : FuncId := 170
theorem p_impl_AddWide : PR.funcs[f_impl_AddWide]? = some Tryz.f170 := by unfold PR; exact Tryz.func170
@[reducible] noncomputable def c_impl_AddWide : Func := Tryz.f170
theorem n_impl_AddWide : c_impl_AddWide.ntmps = 84 := Tryz.ntmps170
abbrev f_impl_ScaleWide : FuncId := 173
theorem p_impl_ScaleWide : PR.funcs[f_impl_ScaleWide]? = some Tryz.f173 := by unfold PR; exact Tryz.func173
@[reducible] noncomputable def c_impl_ScaleWide : Func := Tryz.f173
theorem n_impl_ScaleWide : c_impl_ScaleWide.ntmps = 60 := Tryz.ntmps173
abbrev f_impl_AddInt : FuncId := 178
theorem p_impl_AddInt : PR.funcs[f_impl_AddInt]? = some Tryz.f178 := by unfold PR; exact Tryz.func178
@[reducible] noncomputable def c_impl_AddInt : Func := Tryz.f178
theorem n_impl_AddInt : c_impl_AddInt.ntmps = 23 := Tryz.ntmps178
abbrev f_spec_WideOk : FuncId := 180
theorem p_spec_WideOk : PR.funcs[f_spec_WideOk]? = some Tryz.f180 := by unfold PR; exact Tryz.func180
@[reducible] noncomputable def c_spec_WideOk : Func := Tryz.f180
theorem n_spec_WideOk : c_spec_WideOk.ntmps = 21 := Tryz.ntmps180
abbrev f_spec_l3Order : FuncId := 181
theorem p_spec_l3Order : PR.funcs[f_spec_l3Order]? = some Tryz.f181 := by unfold PR; exact Tryz.func181
@[reducible] noncomputable def c_spec_l3Order : Func := Tryz.f181
theorem n_spec_l3Order : c_spec_l3Order.ntmps = 38 := Tryz.ntmps181
abbrev f_spec_l3Zero : FuncId := 182
theorem p_spec_l3Zero : PR.funcs[f_spec_l3Zero]? = some Tryz.f182 := by unfold PR; exact Tryz.func182
@[reducible] noncomputable def c_spec_l3Zero : Func := Tryz.f182
theorem n_spec_l3Zero : c_spec_l3Zero.ntmps = 11 := Tryz.ntmps182
abbrev f_spec_AddInt : FuncId := 186
theorem p_spec_AddInt : PR.funcs[f_spec_AddInt]? = some Tryz.f186 := by unfold PR; exact Tryz.func186
@[reducible] noncomputable def c_spec_AddInt : Func := Tryz.f186
theorem n_spec_AddInt : c_spec_AddInt.ntmps = 27 := Tryz.ntmps186
abbrev f_spec_GridOk : FuncId := 193
theorem p_spec_GridOk : PR.funcs[f_spec_GridOk]? = some Tryz.f193 := by unfold PR; exact Tryz.func193
@[reducible] noncomputable def c_spec_GridOk : Func := Tryz.f193
theorem n_spec_GridOk : c_spec_GridOk.ntmps = 76 := Tryz.ntmps193
abbrev f_spec_RowsIn : FuncId := 194
theorem p_spec_RowsIn : PR.funcs[f_spec_RowsIn]? = some Tryz.f194 := by unfold PR; exact Tryz.func194
@[reducible] noncomputable def c_spec_RowsIn : Func := Tryz.f194
theorem n_spec_RowsIn : c_spec_RowsIn.ntmps = 12 := Tryz.ntmps194
abbrev f_spec_NodeHists : FuncId := 203
theorem p_spec_NodeHists : PR.funcs[f_spec_NodeHists]? = some Tryz.f203 := by unfold PR; exact Tryz.func203
@[reducible] noncomputable def c_spec_NodeHists : Func := Tryz.f203
theorem n_spec_NodeHists : c_spec_NodeHists.ntmps = 50 := Tryz.ntmps203
abbrev f_spec_BestOf : FuncId := 204
theorem p_spec_BestOf : PR.funcs[f_spec_BestOf]? = some Tryz.f204 := by unfold PR; exact Tryz.func204
@[reducible] noncomputable def c_spec_BestOf : Func := Tryz.f204
theorem n_spec_BestOf : c_spec_BestOf.ntmps = 61 := Tryz.ntmps204
abbrev f_spec_CandsOf : FuncId := 205
theorem p_spec_CandsOf : PR.funcs[f_spec_CandsOf]? = some Tryz.f205 := by unfold PR; exact Tryz.func205
@[reducible] noncomputable def c_spec_CandsOf : Func := Tryz.f205
theorem n_spec_CandsOf : c_spec_CandsOf.ntmps = 101 := Tryz.ntmps205
abbrev f_spec_l17Up : FuncId := 206
theorem p_spec_l17Up : PR.funcs[f_spec_l17Up]? = some Tryz.f206 := by unfold PR; exact Tryz.func206
@[reducible] noncomputable def c_spec_l17Up : Func := Tryz.f206
theorem n_spec_l17Up : c_spec_l17Up.ntmps = 40 := Tryz.ntmps206
abbrev f_spec_FloorDiv : FuncId := 207
theorem p_spec_FloorDiv : PR.funcs[f_spec_FloorDiv]? = some Tryz.f207 := by unfold PR; exact Tryz.func207
@[reducible] noncomputable def c_spec_FloorDiv : Func := Tryz.f207
theorem n_spec_FloorDiv : c_spec_FloorDiv.ntmps = 34 := Tryz.ntmps207
abbrev f_spec_Brought : FuncId := 208
theorem p_spec_Brought : PR.funcs[f_spec_Brought]? = some Tryz.f208 := by unfold PR; exact Tryz.func208
@[reducible] noncomputable def c_spec_Brought : Func := Tryz.f208
theorem n_spec_Brought : c_spec_Brought.ntmps = 16 := Tryz.ntmps208
abbrev f_laws_toNode : FuncId := 209
theorem p_laws_toNode : PR.funcs[f_laws_toNode]? = some Tryz.f209 := by unfold PR; exact Tryz.func209
@[reducible] noncomputable def c_laws_toNode : Func := Tryz.f209
theorem n_laws_toNode : c_laws_toNode.ntmps = 20 := Tryz.ntmps209
abbrev f_impl_BinOf : FuncId := 210
theorem p_impl_BinOf : PR.funcs[f_impl_BinOf]? = some Tryz.f210 := by unfold PR; exact Tryz.func210
@[reducible] noncomputable def c_impl_BinOf : Func := Tryz.f210
theorem n_impl_BinOf : c_impl_BinOf.ntmps = 21 := Tryz.ntmps210
abbrev f_impl_NodeHists : FuncId := 211
theorem p_impl_NodeHists : PR.funcs[f_impl_NodeHists]? = some Tryz.f211 := by unfold PR; exact Tryz.func211
@[reducible] noncomputable def c_impl_NodeHists : Func := Tryz.f211
theorem n_impl_NodeHists : c_impl_NodeHists.ntmps = 47 := Tryz.ntmps211
abbrev f_impl_BestOf : FuncId := 212
theorem p_impl_BestOf : PR.funcs[f_impl_BestOf]? = some Tryz.f212 := by unfold PR; exact Tryz.func212
@[reducible] noncomputable def c_impl_BestOf : Func := Tryz.f212
theorem n_impl_BestOf : c_impl_BestOf.ntmps = 65 := Tryz.ntmps212
abbrev f_impl_CandsOf : FuncId := 213
theorem p_impl_CandsOf : PR.funcs[f_impl_CandsOf]? = some Tryz.f213 := by unfold PR; exact Tryz.func213
@[reducible] noncomputable def c_impl_CandsOf : Func := Tryz.f213
theorem n_impl_CandsOf : c_impl_CandsOf.ntmps = 77 := Tryz.ntmps213
abbrev f_impl_isCount : FuncId := 214
theorem p_impl_isCount : PR.funcs[f_impl_isCount]? = some Tryz.f214 := by unfold PR; exact Tryz.func214
@[reducible] noncomputable def c_impl_isCount : Func := Tryz.f214
theorem n_impl_isCount : c_impl_isCount.ntmps = 11 := Tryz.ntmps214
abbrev f_impl_BoundOk : FuncId := 215
theorem p_impl_BoundOk : PR.funcs[f_impl_BoundOk]? = some Tryz.f215 := by unfold PR; exact Tryz.func215
@[reducible] noncomputable def c_impl_BoundOk : Func := Tryz.f215
theorem n_impl_BoundOk : c_impl_BoundOk.ntmps = 18 := Tryz.ntmps215
abbrev f_impl_FloorDiv : FuncId := 216
theorem p_impl_FloorDiv : PR.funcs[f_impl_FloorDiv]? = some Tryz.f216 := by unfold PR; exact Tryz.func216
@[reducible] noncomputable def c_impl_FloorDiv : Func := Tryz.f216
theorem n_impl_FloorDiv : c_impl_FloorDiv.ntmps = 34 := Tryz.ntmps216
abbrev f_impl_Brought : FuncId := 217
theorem p_impl_Brought : PR.funcs[f_impl_Brought]? = some Tryz.f217 := by unfold PR; exact Tryz.func217
@[reducible] noncomputable def c_impl_Brought : Func := Tryz.f217
theorem n_impl_Brought : c_impl_Brought.ntmps = 18 := Tryz.ntmps217
abbrev f_laws_eqNode : FuncId := 218
theorem p_laws_eqNode : PR.funcs[f_laws_eqNode]? = some Tryz.f218 := by unfold PR; exact Tryz.func218
@[reducible] noncomputable def c_laws_eqNode : Func := Tryz.f218
theorem n_laws_eqNode : c_laws_eqNode.ntmps = 30 := Tryz.ntmps218
abbrev f_impl_HalfSum : FuncId := 227
theorem p_impl_HalfSum : PR.funcs[f_impl_HalfSum]? = some Tryz.f227 := by unfold PR; exact Tryz.func227
@[reducible] noncomputable def c_impl_HalfSum : Func := Tryz.f227
theorem n_impl_HalfSum : c_impl_HalfSum.ntmps = 15 := Tryz.ntmps227
abbrev f_spec_HalfSum : FuncId := 228
theorem p_spec_HalfSum : PR.funcs[f_spec_HalfSum]? = some Tryz.f228 := by unfold PR; exact Tryz.func228
@[reducible] noncomputable def c_spec_HalfSum : Func := Tryz.f228
theorem n_spec_HalfSum : c_spec_HalfSum.ntmps = 13 := Tryz.ntmps228
abbrev f_impl_CutsOk : FuncId := 229
theorem p_impl_CutsOk : PR.funcs[f_impl_CutsOk]? = some Tryz.f229 := by unfold PR; exact Tryz.func229
@[reducible] noncomputable def c_impl_CutsOk : Func := Tryz.f229
theorem n_impl_CutsOk : c_impl_CutsOk.ntmps = 27 := Tryz.ntmps229
abbrev f_impl_GridOk_1 : FuncId := 230
theorem p_impl_GridOk_1 : PR.funcs[f_impl_GridOk_1]? = some Tryz.f230 := by unfold PR; exact Tryz.func230
@[reducible] noncomputable def c_impl_GridOk_1 : Func := Tryz.f230
theorem n_impl_GridOk_1 : c_impl_GridOk_1.ntmps = 9 := Tryz.ntmps230
abbrev f_impl_ConfigOk_1 : FuncId := 231
theorem p_impl_ConfigOk_1 : PR.funcs[f_impl_ConfigOk_1]? = some Tryz.f231 := by unfold PR; exact Tryz.func231
@[reducible] noncomputable def c_impl_ConfigOk_1 : Func := Tryz.f231
theorem n_impl_ConfigOk_1 : c_impl_ConfigOk_1.ntmps = 6 := Tryz.ntmps231
abbrev f_impl_isSign : FuncId := 232
theorem p_impl_isSign : PR.funcs[f_impl_isSign]? = some Tryz.f232 := by unfold PR; exact Tryz.func232
@[reducible] noncomputable def c_impl_isSign : Func := Tryz.f232
theorem n_impl_isSign : c_impl_isSign.ntmps = 5 := Tryz.ntmps232
abbrev f_slices_IndexFunc_Lint_int : FuncId := 233
theorem p_slices_IndexFunc_Lint_int : PR.funcs[f_slices_IndexFunc_Lint_int]? = some Tryz.f233 := by unfold PR; exact Tryz.func233
@[reducible] noncomputable def c_slices_IndexFunc_Lint_int : Func := Tryz.f233
theorem n_slices_IndexFunc_Lint_int : c_slices_IndexFunc_Lint_int.ntmps = 19 := Tryz.ntmps233
abbrev f_impl_isLeafValue : FuncId := 234
theorem p_impl_isLeafValue : PR.funcs[f_impl_isLeafValue]? = some Tryz.f234 := by unfold PR; exact Tryz.func234
@[reducible] noncomputable def c_impl_isLeafValue : Func := Tryz.f234
theorem n_impl_isLeafValue : c_impl_isLeafValue.ntmps = 5 := Tryz.ntmps234
abbrev f_impl_isDecimal : FuncId := 235
theorem p_impl_isDecimal : PR.funcs[f_impl_isDecimal]? = some Tryz.f235 := by unfold PR; exact Tryz.func235
@[reducible] noncomputable def c_impl_isDecimal : Func := Tryz.f235
theorem n_impl_isDecimal : c_impl_isDecimal.ntmps = 5 := Tryz.ntmps235
abbrev f_impl_parent : FuncId := 236
theorem p_impl_parent : PR.funcs[f_impl_parent]? = some Tryz.f236 := by unfold PR; exact Tryz.func236
@[reducible] noncomputable def c_impl_parent : Func := Tryz.f236
theorem n_impl_parent : c_impl_parent.ntmps = 9 := Tryz.ntmps236
abbrev f_slices_Reverse_Lint_int : FuncId := 237
theorem p_slices_Reverse_Lint_int : PR.funcs[f_slices_Reverse_Lint_int]? = some Tryz.f237 := by unfold PR; exact Tryz.func237
@[reducible] noncomputable def c_slices_Reverse_Lint_int : Func := Tryz.f237
theorem n_slices_Reverse_Lint_int : c_slices_Reverse_Lint_int.ntmps = 28 := Tryz.ntmps237
abbrev f_spec_l1Max : FuncId := 238
theorem p_spec_l1Max : PR.funcs[f_spec_l1Max]? = some Tryz.f238 := by unfold PR; exact Tryz.func238
@[reducible] noncomputable def c_spec_l1Max : Func := Tryz.f238
theorem n_spec_l1Max : c_spec_l1Max.ntmps = 10 := Tryz.ntmps238
abbrev f_spec_MulWide : FuncId := 250
theorem p_spec_MulWide : PR.funcs[f_spec_MulWide]? = some Tryz.f250 := by unfold PR; exact Tryz.func250
@[reducible] noncomputable def c_spec_MulWide : Func := Tryz.f250
theorem n_spec_MulWide : c_spec_MulWide.ntmps = 31 := Tryz.ntmps250
abbrev f_impl_areDecimals : FuncId := 252
theorem p_impl_areDecimals : PR.funcs[f_impl_areDecimals]? = some Tryz.f252 := by unfold PR; exact Tryz.func252
@[reducible] noncomputable def c_impl_areDecimals : Func := Tryz.f252
theorem n_impl_areDecimals : c_impl_areDecimals.ntmps = 6 := Tryz.ntmps252
abbrev f_impl_SubInt : FuncId := 256
theorem p_impl_SubInt : PR.funcs[f_impl_SubInt]? = some Tryz.f256 := by unfold PR; exact Tryz.func256
@[reducible] noncomputable def c_impl_SubInt : Func := Tryz.f256
theorem n_impl_SubInt : c_impl_SubInt.ntmps = 23 := Tryz.ntmps256
abbrev f_impl_MulWide : FuncId := 257
theorem p_impl_MulWide : PR.funcs[f_impl_MulWide]? = some Tryz.f257 := by unfold PR; exact Tryz.func257
@[reducible] noncomputable def c_impl_MulWide : Func := Tryz.f257
theorem n_impl_MulWide : c_impl_MulWide.ntmps = 23 := Tryz.ntmps257
abbrev f_impl_WideOk : FuncId := 259
theorem p_impl_WideOk : PR.funcs[f_impl_WideOk]? = some Tryz.f259 := by unfold PR; exact Tryz.func259
@[reducible] noncomputable def c_impl_WideOk : Func := Tryz.f259
theorem n_impl_WideOk : c_impl_WideOk.ntmps = 21 := Tryz.ntmps259
abbrev f_impl_compareSizes : FuncId := 260
theorem p_impl_compareSizes : PR.funcs[f_impl_compareSizes]? = some Tryz.f260 := by unfold PR; exact Tryz.func260
@[reducible] noncomputable def c_impl_compareSizes : Func := Tryz.f260
theorem n_impl_compareSizes : c_impl_compareSizes.ntmps = 17 := Tryz.ntmps260
abbrev f_impl_wideOf : FuncId := 262
theorem p_impl_wideOf : PR.funcs[f_impl_wideOf]? = some Tryz.f262 := by unfold PR; exact Tryz.func262
@[reducible] noncomputable def c_impl_wideOf : Func := Tryz.f262
theorem n_impl_wideOf : c_impl_wideOf.ntmps = 19 := Tryz.ntmps262
abbrev f_math_bits_Add64 : FuncId := 263
theorem p_math_bits_Add64 : PR.funcs[f_math_bits_Add64]? = some Tryz.f263 := by unfold PR; exact Tryz.func263
@[reducible] noncomputable def c_math_bits_Add64 : Func := Tryz.f263
theorem n_math_bits_Add64 : c_math_bits_Add64.ntmps = 3 := Tryz.ntmps263
abbrev f_impl_size : FuncId := 264
theorem p_impl_size : PR.funcs[f_impl_size]? = some Tryz.f264 := by unfold PR; exact Tryz.func264
@[reducible] noncomputable def c_impl_size : Func := Tryz.f264
theorem n_impl_size : c_impl_size.ntmps = 10 := Tryz.ntmps264
abbrev f_math_bits_Mul64 : FuncId := 265
theorem p_math_bits_Mul64 : PR.funcs[f_math_bits_Mul64]? = some Tryz.f265 := by unfold PR; exact Tryz.func265
@[reducible] noncomputable def c_math_bits_Mul64 : Func := Tryz.f265
theorem n_math_bits_Mul64 : c_math_bits_Mul64.ntmps = 51 := Tryz.ntmps265
abbrev f_spec_CutsOk : FuncId := 278
theorem p_spec_CutsOk : PR.funcs[f_spec_CutsOk]? = some Tryz.f278 := by unfold PR; exact Tryz.func278
@[reducible] noncomputable def c_spec_CutsOk : Func := Tryz.f278
theorem n_spec_CutsOk : c_spec_CutsOk.ntmps = 35 := Tryz.ntmps278
abbrev f_spec_HistOf : FuncId := 281
theorem p_spec_HistOf : PR.funcs[f_spec_HistOf]? = some Tryz.f281 := by unfold PR; exact Tryz.func281
@[reducible] noncomputable def c_spec_HistOf : Func := Tryz.f281
theorem n_spec_HistOf : c_spec_HistOf.ntmps = 85 := Tryz.ntmps281
abbrev f_spec_MayPart : FuncId := 282
theorem p_spec_MayPart : PR.funcs[f_spec_MayPart]? = some Tryz.f282 := by unfold PR; exact Tryz.func282
@[reducible] noncomputable def c_spec_MayPart : Func := Tryz.f282
theorem n_spec_MayPart : c_spec_MayPart.ntmps = 54 := Tryz.ntmps282
abbrev f_spec_Better : FuncId := 283
theorem p_spec_Better : PR.funcs[f_spec_Better]? = some Tryz.f283 := by unfold PR; exact Tryz.func283
@[reducible] noncomputable def c_spec_Better : Func := Tryz.f283
theorem n_spec_Better : c_spec_Better.ntmps = 51 := Tryz.ntmps283
abbrev f_spec_Prefix : FuncId := 284
theorem p_spec_Prefix : PR.funcs[f_spec_Prefix]? = some Tryz.f284 := by unfold PR; exact Tryz.func284
@[reducible] noncomputable def c_spec_Prefix : Func := Tryz.f284
theorem n_spec_Prefix : c_spec_Prefix.ntmps = 35 := Tryz.ntmps284
abbrev f_impl_HistOf : FuncId := 285
theorem p_impl_HistOf : PR.funcs[f_impl_HistOf]? = some Tryz.f285 := by unfold PR; exact Tryz.func285
@[reducible] noncomputable def c_impl_HistOf : Func := Tryz.f285
theorem n_impl_HistOf : c_impl_HistOf.ntmps = 72 := Tryz.ntmps285
abbrev f_impl_MayPart : FuncId := 286
theorem p_impl_MayPart : PR.funcs[f_impl_MayPart]? = some Tryz.f286 := by unfold PR; exact Tryz.func286
@[reducible] noncomputable def c_impl_MayPart : Func := Tryz.f286
theorem n_impl_MayPart : c_impl_MayPart.ntmps = 54 := Tryz.ntmps286
abbrev f_impl_Better : FuncId := 287
theorem p_impl_Better : PR.funcs[f_impl_Better]? = some Tryz.f287 := by unfold PR; exact Tryz.func287
@[reducible] noncomputable def c_impl_Better : Func := Tryz.f287
theorem n_impl_Better : c_impl_Better.ntmps = 51 := Tryz.ntmps287
abbrev f_impl_Prefix : FuncId := 288
theorem p_impl_Prefix : PR.funcs[f_impl_Prefix]? = some Tryz.f288 := by unfold PR; exact Tryz.func288
@[reducible] noncomputable def c_impl_Prefix : Func := Tryz.f288
theorem n_impl_Prefix : c_impl_Prefix.ntmps = 33 := Tryz.ntmps288
abbrev f_impl_Slot_minus : FuncId := 289
theorem p_impl_Slot_minus : PR.funcs[f_impl_Slot_minus]? = some Tryz.f289 := by unfold PR; exact Tryz.func289
@[reducible] noncomputable def c_impl_Slot_minus : Func := Tryz.f289
theorem n_impl_Slot_minus : c_impl_Slot_minus.ntmps = 36 := Tryz.ntmps289
abbrev f_slices_IndexFunc_Limpl_Node_impl_Node : FuncId := 293
theorem p_slices_IndexFunc_Limpl_Node_impl_Node : PR.funcs[f_slices_IndexFunc_Limpl_Node_impl_Node]? = some Tryz.f293 := by unfold PR; exact Tryz.func293
@[reducible] noncomputable def c_slices_IndexFunc_Limpl_Node_impl_Node : Func := Tryz.f293
theorem n_slices_IndexFunc_Limpl_Node_impl_Node : c_slices_IndexFunc_Limpl_Node_impl_Node.ntmps = 19 := Tryz.ntmps293
abbrev f_impl_parent_1 : FuncId := 294
theorem p_impl_parent_1 : PR.funcs[f_impl_parent_1]? = some Tryz.f294 := by unfold PR; exact Tryz.func294
@[reducible] noncomputable def c_impl_parent_1 : Func := Tryz.f294
theorem n_impl_parent_1 : c_impl_parent_1.ntmps = 19 := Tryz.ntmps294
abbrev f_spec_l3Product : FuncId := 299
theorem p_spec_l3Product : PR.funcs[f_spec_l3Product]? = some Tryz.f299 := by unfold PR; exact Tryz.func299
@[reducible] noncomputable def c_spec_l3Product : Func := Tryz.f299
theorem n_spec_l3Product : c_spec_l3Product.ntmps = 50 := Tryz.ntmps299
abbrev f_spec_l3Abs : FuncId := 300
theorem p_spec_l3Abs : PR.funcs[f_spec_l3Abs]? = some Tryz.f300 := by unfold PR; exact Tryz.func300
@[reducible] noncomputable def c_spec_l3Abs : Func := Tryz.f300
theorem n_spec_l3Abs : c_spec_l3Abs.ntmps = 12 := Tryz.ntmps300
abbrev f_impl_areDecimals_1 : FuncId := 303
theorem p_impl_areDecimals_1 : PR.funcs[f_impl_areDecimals_1]? = some Tryz.f303 := by unfold PR; exact Tryz.func303
@[reducible] noncomputable def c_impl_areDecimals_1 : Func := Tryz.f303
theorem n_impl_areDecimals_1 : c_impl_areDecimals_1.ntmps = 6 := Tryz.ntmps303
abbrev f_cmp_Or_int : FuncId := 305
theorem p_cmp_Or_int : PR.funcs[f_cmp_Or_int]? = some Tryz.f305 := by unfold PR; exact Tryz.func305
@[reducible] noncomputable def c_cmp_Or_int : Func := Tryz.f305
theorem n_cmp_Or_int : c_cmp_Or_int.ntmps = 18 := Tryz.ntmps305
abbrev f_cmp_Compare_uint64 : FuncId := 306
theorem p_cmp_Compare_uint64 : PR.funcs[f_cmp_Compare_uint64]? = some Tryz.f306 := by unfold PR; exact Tryz.func306
@[reducible] noncomputable def c_cmp_Compare_uint64 : Func := Tryz.f306
theorem n_cmp_Compare_uint64 : c_cmp_Compare_uint64.ntmps = 20 := Tryz.ntmps306
abbrev f_spec_l13Add : FuncId := 318
theorem p_spec_l13Add : PR.funcs[f_spec_l13Add]? = some Tryz.f318 := by unfold PR; exact Tryz.func318
@[reducible] noncomputable def c_spec_l13Add : Func := Tryz.f318
theorem n_spec_l13Add : c_spec_l13Add.ntmps = 36 := Tryz.ntmps318
abbrev f_spec_Agrees : FuncId := 319
theorem p_spec_Agrees : PR.funcs[f_spec_Agrees]? = some Tryz.f319 := by unfold PR; exact Tryz.func319
@[reducible] noncomputable def c_spec_Agrees : Func := Tryz.f319
theorem n_spec_Agrees : c_spec_Agrees.ntmps = 31 := Tryz.ntmps319
abbrev f_spec_Improves : FuncId := 320
theorem p_spec_Improves : PR.funcs[f_spec_Improves]? = some Tryz.f320 := by unfold PR; exact Tryz.func320
@[reducible] noncomputable def c_spec_Improves : Func := Tryz.f320
theorem n_spec_Improves : c_spec_Improves.ntmps = 51 := Tryz.ntmps320
abbrev f_spec_GainOf : FuncId := 321
theorem p_spec_GainOf : PR.funcs[f_spec_GainOf]? = some Tryz.f321 := by unfold PR; exact Tryz.func321
@[reducible] noncomputable def c_spec_GainOf : Func := Tryz.f321
theorem n_spec_GainOf : c_spec_GainOf.ntmps = 36 := Tryz.ntmps321
abbrev f_spec_CompareFrac : FuncId := 322
theorem p_spec_CompareFrac : PR.funcs[f_spec_CompareFrac]? = some Tryz.f322 := by unfold PR; exact Tryz.func322
@[reducible] noncomputable def c_spec_CompareFrac : Func := Tryz.f322
theorem n_spec_CompareFrac : c_spec_CompareFrac.ntmps = 21 := Tryz.ntmps322
abbrev f_spec_CandLess : FuncId := 323
theorem p_spec_CandLess : PR.funcs[f_spec_CandLess]? = some Tryz.f323 := by unfold PR; exact Tryz.func323
@[reducible] noncomputable def c_spec_CandLess : Func := Tryz.f323
theorem n_spec_CandLess : c_spec_CandLess.ntmps = 24 := Tryz.ntmps323
abbrev f_impl_Slot_plus : FuncId := 324
theorem p_impl_Slot_plus : PR.funcs[f_impl_Slot_plus]? = some Tryz.f324 := by unfold PR; exact Tryz.func324
@[reducible] noncomputable def c_impl_Slot_plus : Func := Tryz.f324
theorem n_impl_Slot_plus : c_impl_Slot_plus.ntmps = 36 := Tryz.ntmps324
abbrev f_impl_Agrees : FuncId := 325
theorem p_impl_Agrees : PR.funcs[f_impl_Agrees]? = some Tryz.f325 := by unfold PR; exact Tryz.func325
@[reducible] noncomputable def c_impl_Agrees : Func := Tryz.f325
theorem n_impl_Agrees : c_impl_Agrees.ntmps = 18 := Tryz.ntmps325
abbrev f_impl_Improves : FuncId := 326
theorem p_impl_Improves : PR.funcs[f_impl_Improves]? = some Tryz.f326 := by unfold PR; exact Tryz.func326
@[reducible] noncomputable def c_impl_Improves : Func := Tryz.f326
theorem n_impl_Improves : c_impl_Improves.ntmps = 50 := Tryz.ntmps326
abbrev f_impl_GainOf : FuncId := 327
theorem p_impl_GainOf : PR.funcs[f_impl_GainOf]? = some Tryz.f327 := by unfold PR; exact Tryz.func327
@[reducible] noncomputable def c_impl_GainOf : Func := Tryz.f327
theorem n_impl_GainOf : c_impl_GainOf.ntmps = 36 := Tryz.ntmps327
abbrev f_impl_CompareFrac : FuncId := 328
theorem p_impl_CompareFrac : PR.funcs[f_impl_CompareFrac]? = some Tryz.f328 := by unfold PR; exact Tryz.func328
@[reducible] noncomputable def c_impl_CompareFrac : Func := Tryz.f328
theorem n_impl_CompareFrac : c_impl_CompareFrac.ntmps = 21 := Tryz.ntmps328
abbrev f_impl_CandLess : FuncId := 329
theorem p_impl_CandLess : PR.funcs[f_impl_CandLess]? = some Tryz.f329 := by unfold PR; exact Tryz.func329
@[reducible] noncomputable def c_impl_CandLess : Func := Tryz.f329
theorem n_impl_CandLess : c_impl_CandLess.ntmps = 18 := Tryz.ntmps329
abbrev f_cmp_isNaN_uint64 : FuncId := 334
theorem p_cmp_isNaN_uint64 : PR.funcs[f_cmp_isNaN_uint64]? = some Tryz.f334 := by unfold PR; exact Tryz.func334
@[reducible] noncomputable def c_cmp_isNaN_uint64 : Func := Tryz.f334
theorem n_cmp_isNaN_uint64 : c_cmp_isNaN_uint64.ntmps = 6 := Tryz.ntmps334
abbrev f_spec_BothOf : FuncId := 346
theorem p_spec_BothOf : PR.funcs[f_spec_BothOf]? = some Tryz.f346 := by unfold PR; exact Tryz.func346
@[reducible] noncomputable def c_spec_BothOf : Func := Tryz.f346
theorem n_spec_BothOf : c_spec_BothOf.ntmps = 11 := Tryz.ntmps346
abbrev f_spec_PlainGain : FuncId := 347
theorem p_spec_PlainGain : PR.funcs[f_spec_PlainGain]? = some Tryz.f347 := by unfold PR; exact Tryz.func347
@[reducible] noncomputable def c_spec_PlainGain : Func := Tryz.f347
theorem n_spec_PlainGain : c_spec_PlainGain.ntmps = 25 := Tryz.ntmps347
abbrev f_spec_AddFrac : FuncId := 348
theorem p_spec_AddFrac : PR.funcs[f_spec_AddFrac]? = some Tryz.f348 := by unfold PR; exact Tryz.func348
@[reducible] noncomputable def c_spec_AddFrac : Func := Tryz.f348
theorem n_spec_AddFrac : c_spec_AddFrac.ntmps = 44 := Tryz.ntmps348
abbrev f_spec_l5Cross : FuncId := 349
theorem p_spec_l5Cross : PR.funcs[f_spec_l5Cross]? = some Tryz.f349 := by unfold PR; exact Tryz.func349
@[reducible] noncomputable def c_spec_l5Cross : Func := Tryz.f349
theorem n_spec_l5Cross : c_spec_l5Cross.ntmps = 43 := Tryz.ntmps349
abbrev f_impl_BothOf : FuncId := 350
theorem p_impl_BothOf : PR.funcs[f_impl_BothOf]? = some Tryz.f350 := by unfold PR; exact Tryz.func350
@[reducible] noncomputable def c_impl_BothOf : Func := Tryz.f350
theorem n_impl_BothOf : c_impl_BothOf.ntmps = 11 := Tryz.ntmps350
abbrev f_impl_PlainGain : FuncId := 351
theorem p_impl_PlainGain : PR.funcs[f_impl_PlainGain]? = some Tryz.f351 := by unfold PR; exact Tryz.func351
@[reducible] noncomputable def c_impl_PlainGain : Func := Tryz.f351
theorem n_impl_PlainGain : c_impl_PlainGain.ntmps = 21 := Tryz.ntmps351
abbrev f_impl_AddFrac : FuncId := 352
theorem p_impl_AddFrac : PR.funcs[f_impl_AddFrac]? = some Tryz.f352 := by unfold PR; exact Tryz.func352
@[reducible] noncomputable def c_impl_AddFrac : Func := Tryz.f352
theorem n_impl_AddFrac : c_impl_AddFrac.ntmps = 38 := Tryz.ntmps352
abbrev f_impl_crossed : FuncId := 353
theorem p_impl_crossed : PR.funcs[f_impl_crossed]? = some Tryz.f353 := by unfold PR; exact Tryz.func353
@[reducible] noncomputable def c_impl_crossed : Func := Tryz.f353
theorem n_impl_crossed : c_impl_crossed.ntmps = 43 := Tryz.ntmps353
abbrev f_impl_CompareWide : FuncId := 354
theorem p_impl_CompareWide : PR.funcs[f_impl_CompareWide]? = some Tryz.f354 := by unfold PR; exact Tryz.func354
@[reducible] noncomputable def c_impl_CompareWide : Func := Tryz.f354
theorem n_impl_CompareWide : c_impl_CompareWide.ntmps = 44 := Tryz.ntmps354
abbrev f_cmp_Compare_int : FuncId := 355
theorem p_cmp_Compare_int : PR.funcs[f_cmp_Compare_int]? = some Tryz.f355 := by unfold PR; exact Tryz.func355
@[reducible] noncomputable def c_cmp_Compare_int : Func := Tryz.f355
theorem n_cmp_Compare_int : c_cmp_Compare_int.ntmps = 20 := Tryz.ntmps355
abbrev f_cmp_isNaN_int : FuncId := 362
theorem p_cmp_isNaN_int : PR.funcs[f_cmp_isNaN_int]? = some Tryz.f362 := by unfold PR; exact Tryz.func362
@[reducible] noncomputable def c_cmp_isNaN_int : Func := Tryz.f362
theorem n_cmp_isNaN_int : c_cmp_isNaN_int.ntmps = 6 := Tryz.ntmps362
abbrev f_spec_SquareOver : FuncId := 363
theorem p_spec_SquareOver : PR.funcs[f_spec_SquareOver]? = some Tryz.f363 := by unfold PR; exact Tryz.func363
@[reducible] noncomputable def c_spec_SquareOver : Func := Tryz.f363
theorem n_spec_SquareOver : c_spec_SquareOver.ntmps = 17 := Tryz.ntmps363
abbrev f_spec_FracOk : FuncId := 364
theorem p_spec_FracOk : PR.funcs[f_spec_FracOk]? = some Tryz.f364 := by unfold PR; exact Tryz.func364
@[reducible] noncomputable def c_spec_FracOk : Func := Tryz.f364
theorem n_spec_FracOk : c_spec_FracOk.ntmps = 11 := Tryz.ntmps364
abbrev f_spec_ScaleWide : FuncId := 365
theorem p_spec_ScaleWide : PR.funcs[f_spec_ScaleWide]? = some Tryz.f365 := by unfold PR; exact Tryz.func365
@[reducible] noncomputable def c_spec_ScaleWide : Func := Tryz.f365
theorem n_spec_ScaleWide : c_spec_ScaleWide.ntmps = 61 := Tryz.ntmps365
abbrev f_impl_SquareOver : FuncId := 366
theorem p_impl_SquareOver : PR.funcs[f_impl_SquareOver]? = some Tryz.f366 := by unfold PR; exact Tryz.func366
@[reducible] noncomputable def c_impl_SquareOver : Func := Tryz.f366
theorem n_impl_SquareOver : c_impl_SquareOver.ntmps = 13 := Tryz.ntmps366
abbrev f_impl_fracOf : FuncId := 367
theorem p_impl_fracOf : PR.funcs[f_impl_fracOf]? = some Tryz.f367 := by unfold PR; exact Tryz.func367
@[reducible] noncomputable def c_impl_fracOf : Func := Tryz.f367
theorem n_impl_fracOf : c_impl_fracOf.ntmps = 15 := Tryz.ntmps367
abbrev f_impl_FracOk : FuncId := 368
theorem p_impl_FracOk : PR.funcs[f_impl_FracOk]? = some Tryz.f368 := by unfold PR; exact Tryz.func368
@[reducible] noncomputable def c_impl_FracOk : Func := Tryz.f368
theorem n_impl_FracOk : c_impl_FracOk.ntmps = 11 := Tryz.ntmps368
end Go.H.S
