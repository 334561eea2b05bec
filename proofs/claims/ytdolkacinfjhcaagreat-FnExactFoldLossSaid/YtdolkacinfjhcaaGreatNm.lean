/- The numbers of functions and types in this seat, and the table of types. -/
import Derived.Test.YtdolkacinfjhcaaGreatProg
import Derived.Test.YtdolkacinfjhcaaGreatH28
namespace Go.H.S
open Go Go.Proofs Go.H
@[irreducible] noncomputable def PR : Program := Tryz.prog
def tab : List (Nat × TI) :=
[(2, ⟨.int .i64, 1, 8, [.d (.int .i64 0)], none⟩),
  (3, ⟨.int .i64, 1, 8, [.d (.int .i64 0)], none⟩),
  (4, ⟨.bool, 1, 1, [.d (.bool false)], none⟩),
  (5, ⟨.int .u8, 1, 1, [.d (.int .u8 0)], none⟩),
  (9, ⟨.str, 1, 16, [.d (.str ⟨#[]⟩)], none⟩),
  (21, ⟨.int .i32, 1, 4, [.d (.int .i32 0)], none⟩),
  (22, ⟨.slice 25, 1, 24, [.nl 1], none⟩),
  (23, ⟨.struct [(0, 22), (1, 22)], 2, 48, [.nl 1, .nl 1], none⟩),
  (24, ⟨.struct [(0, 22), (1, 22)], 2, 48, [.nl 1, .nl 1], none⟩),
  (25, ⟨.slice 3, 1, 24, [.nl 1], none⟩),
  (26, ⟨.struct [(0, 3), (1, 3), (2, 3), (3, 3), (4, 3), (5, 3), (6, 3), (7, 25)], 8, 80, [.d (.int .i64 0), .d (.int .i64 0), .d (.int .i64 0), .d (.int .i64 0), .d (.int .i64 0), .d (.int .i64 0), .d (.int .i64 0), .nl 1], none⟩),
  (27, ⟨.struct [(0, 3), (1, 3), (2, 3), (3, 3), (4, 3), (5, 3), (6, 3), (7, 25)], 8, 80, [.d (.int .i64 0), .d (.int .i64 0), .d (.int .i64 0), .d (.int .i64 0), .d (.int .i64 0), .d (.int .i64 0), .d (.int .i64 0), .nl 1], none⟩),
  (28, ⟨.slice 209, 1, 24, [.nl 5], none⟩),
  (29, ⟨.struct [(0, 28)], 1, 24, [.nl 5], none⟩),
  (30, ⟨.struct [(0, 28)], 1, 24, [.nl 5], none⟩),
  (35, ⟨.struct [(0, 22), (1, 22)], 2, 48, [.nl 1, .nl 1], none⟩),
  (38, ⟨.struct [(0, 3), (1, 3), (2, 3), (3, 3), (4, 3), (5, 3), (6, 3), (7, 25)], 8, 80, [.d (.int .i64 0), .d (.int .i64 0), .d (.int .i64 0), .d (.int .i64 0), .d (.int .i64 0), .d (.int .i64 0), .d (.int .i64 0), .nl 1], none⟩),
  (40, ⟨.slice 69, 1, 24, [.nl 5], none⟩),
  (41, ⟨.struct [(0, 40)], 1, 24, [.nl 5], none⟩),
  (42, ⟨.struct [(0, 40)], 1, 24, [.nl 5], none⟩),
  (51, ⟨.slice 5, 1, 24, [.nl 1], none⟩),
  (63, ⟨.struct [(0, 3), (1, 3)], 2, 16, [.d (.int .i64 0), .d (.int .i64 0)], none⟩),
  (64, ⟨.struct [(0, 3), (1, 3)], 2, 16, [.d (.int .i64 0), .d (.int .i64 0)], none⟩),
  (68, ⟨.struct [(0, 3), (1, 3), (2, 3), (3, 3), (4, 3)], 5, 40, [.d (.int .i64 0), .d (.int .i64 0), .d (.int .i64 0), .d (.int .i64 0), .d (.int .i64 0)], none⟩),
  (69, ⟨.struct [(0, 3), (1, 3), (2, 3), (3, 3), (4, 3)], 5, 40, [.d (.int .i64 0), .d (.int .i64 0), .d (.int .i64 0), .d (.int .i64 0), .d (.int .i64 0)], none⟩),
  (73, ⟨.slice 9, 1, 24, [.nl 1], none⟩),
  (74, ⟨.struct [(0, 73), (1, 9), (2, 22), (3, 25)], 4, 88, [.nl 1, .d (.str ⟨#[]⟩), .nl 1, .nl 1], none⟩),
  (75, ⟨.struct [(0, 73), (1, 9), (2, 22), (3, 25)], 4, 88, [.nl 1, .d (.str ⟨#[]⟩), .nl 1, .nl 1], none⟩),
  (77, ⟨.slice 108, 1, 24, [.nl 3], none⟩),
  (80, ⟨.struct [(0, 73), (1, 9), (2, 22), (3, 25)], 4, 88, [.nl 1, .d (.str ⟨#[]⟩), .nl 1, .nl 1], none⟩),
  (88, ⟨.slice 42, 1, 24, [.nl 1], none⟩),
  (89, ⟨.struct [(0, 73), (1, 25), (2, 3), (3, 88)], 4, 80, [.nl 1, .nl 1, .d (.int .i64 0), .nl 1], none⟩),
  (90, ⟨.struct [(0, 73), (1, 25), (2, 3), (3, 88)], 4, 80, [.nl 1, .nl 1, .d (.int .i64 0), .nl 1], none⟩),
  (101, ⟨.struct [(0, 25), (1, 88)], 2, 48, [.nl 1, .nl 1], none⟩),
  (102, ⟨.struct [(0, 25), (1, 88)], 2, 48, [.nl 1, .nl 1], none⟩),
  (106, ⟨.int .u64, 1, 8, [.d (.int .u64 0)], none⟩),
  (107, ⟨.struct [(0, 4), (1, 106), (2, 106)], 3, 24, [.d (.bool false), .d (.int .u64 0), .d (.int .u64 0)], none⟩),
  (108, ⟨.struct [(0, 4), (1, 106), (2, 106)], 3, 24, [.d (.bool false), .d (.int .u64 0), .d (.int .u64 0)], none⟩),
  (128, ⟨.struct [(0, 3), (1, 3)], 2, 16, [.d (.int .i64 0), .d (.int .i64 0)], none⟩),
  (129, ⟨.struct [(0, 3), (1, 3)], 2, 16, [.d (.int .i64 0), .d (.int .i64 0)], none⟩),
  (130, ⟨.struct [(0, 3), (1, 3), (2, 129), (4, 129)], 6, 48, [.d (.int .i64 0), .d (.int .i64 0), .d (.int .i64 0), .d (.int .i64 0), .d (.int .i64 0), .d (.int .i64 0)], none⟩),
  (131, ⟨.struct [(0, 3), (1, 3), (2, 129), (4, 129)], 6, 48, [.d (.int .i64 0), .d (.int .i64 0), .d (.int .i64 0), .d (.int .i64 0), .d (.int .i64 0), .d (.int .i64 0)], none⟩),
  (149, ⟨.struct [(0, 25), (1, 64), (3, 3)], 4, 48, [.nl 1, .d (.int .i64 0), .d (.int .i64 0), .d (.int .i64 0)], none⟩),
  (150, ⟨.struct [(0, 25), (1, 64), (3, 3)], 4, 48, [.nl 1, .d (.int .i64 0), .d (.int .i64 0), .d (.int .i64 0)], none⟩),
  (151, ⟨.slice 150, 1, 24, [.nl 4], none⟩),
  (158, ⟨.struct [(0, 25), (1, 64), (3, 3)], 4, 48, [.nl 1, .d (.int .i64 0), .d (.int .i64 0), .d (.int .i64 0)], none⟩),
  (159, ⟨.struct [(0, 25), (1, 64), (3, 3)], 4, 48, [.nl 1, .d (.int .i64 0), .d (.int .i64 0), .d (.int .i64 0)], none⟩),
  (160, ⟨.slice 159, 1, 24, [.nl 4], none⟩),
  (171, ⟨.slice 102, 1, 24, [.nl 2], none⟩),
  (201, ⟨.slice 240, 1, 24, [.nl 1], none⟩),
  (205, ⟨.slice 131, 1, 24, [.nl 6], none⟩),
  (209, ⟨.struct [(0, 3), (1, 3), (2, 3), (3, 3), (4, 3)], 5, 40, [.d (.int .i64 0), .d (.int .i64 0), .d (.int .i64 0), .d (.int .i64 0), .d (.int .i64 0)], none⟩),
  (229, ⟨.arr 2 80, 8, 176, [.nl 1, .d (.str ⟨#[]⟩), .nl 1, .nl 1, .nl 1, .d (.str ⟨#[]⟩), .nl 1, .nl 1], none⟩),
  (240, ⟨.slice 129, 1, 24, [.nl 2], none⟩),
  (248, ⟨.struct [(0, 51), (1, 3), (2, 3)], 3, 40, [.nl 1, .d (.int .i64 0), .d (.int .i64 0)], none⟩),
  (249, ⟨.struct [(0, 51), (1, 3), (2, 3)], 3, 40, [.nl 1, .d (.int .i64 0), .d (.int .i64 0)], none⟩),
  (251, ⟨.int .u64, 1, 8, [.d (.int .u64 0)], none⟩),
  (266, ⟨.struct [(0, 108), (3, 3)], 4, 32, [.d (.bool false), .d (.int .u64 0), .d (.int .u64 0), .d (.int .i64 0)], none⟩),
  (267, ⟨.struct [(0, 108), (3, 3)], 4, 32, [.d (.bool false), .d (.int .u64 0), .d (.int .u64 0), .d (.int .i64 0)], none⟩),
  (277, ⟨.int .i64, 1, 8, [.d (.int .i64 0)], none⟩),
  (284, ⟨.int .u32, 1, 4, [.d (.int .u32 0)], none⟩),
  (292, ⟨.int .u64, 1, 8, [.d (.int .u64 0)], none⟩)]
def T (t : TypeId) : Option TI := look tab t
theorem hT0 : TOk Tryz.prog T := tabOk_sound (by kernel_rfl)
theorem hT : TOk PR T := by unfold PR; exact hT0
def ntab : List (Nat × TI) :=
[(2, ⟨.int .i64, 1, 8, [.d (.int .i64 0)], none⟩),
  (3, ⟨.int .i64, 1, 8, [.d (.int .i64 0)], none⟩),
  (4, ⟨.bool, 1, 1, [.d (.bool false)], none⟩),
  (5, ⟨.int .u8, 1, 1, [.d (.int .u8 0)], none⟩),
  (9, ⟨.str, 1, 16, [.d (.str ⟨#[]⟩)], none⟩),
  (21, ⟨.int .i32, 1, 4, [.d (.int .i32 0)], none⟩),
  (22, ⟨.slice 25, 1, 24, [.nl 1], none⟩),
  (23, ⟨.struct [(0, 22), (1, 22)], 2, 48, [.nl 1, .nl 1], none⟩),
  (24, ⟨.struct [(0, 22), (1, 22)], 2, 48, [.nl 1, .nl 1], none⟩),
  (25, ⟨.slice 3, 1, 24, [.nl 1], some [3]⟩),
  (26, ⟨.struct [(0, 3), (1, 3), (2, 3), (3, 3), (4, 3), (5, 3), (6, 3), (7, 25)], 8, 80, [.d (.int .i64 0), .d (.int .i64 0), .d (.int .i64 0), .d (.int .i64 0), .d (.int .i64 0), .d (.int .i64 0), .d (.int .i64 0), .nl 1], some [0, 0, 0, 0, 0, 0, 0, 3]⟩),
  (27, ⟨.struct [(0, 3), (1, 3), (2, 3), (3, 3), (4, 3), (5, 3), (6, 3), (7, 25)], 8, 80, [.d (.int .i64 0), .d (.int .i64 0), .d (.int .i64 0), .d (.int .i64 0), .d (.int .i64 0), .d (.int .i64 0), .d (.int .i64 0), .nl 1], some [0, 0, 0, 0, 0, 0, 0, 3]⟩),
  (28, ⟨.slice 209, 1, 24, [.nl 5], some [209]⟩),
  (29, ⟨.struct [(0, 28)], 1, 24, [.nl 5], some [209]⟩),
  (30, ⟨.struct [(0, 28)], 1, 24, [.nl 5], some [209]⟩),
  (35, ⟨.struct [(0, 22), (1, 22)], 2, 48, [.nl 1, .nl 1], none⟩),
  (38, ⟨.struct [(0, 3), (1, 3), (2, 3), (3, 3), (4, 3), (5, 3), (6, 3), (7, 25)], 8, 80, [.d (.int .i64 0), .d (.int .i64 0), .d (.int .i64 0), .d (.int .i64 0), .d (.int .i64 0), .d (.int .i64 0), .d (.int .i64 0), .nl 1], some [0, 0, 0, 0, 0, 0, 0, 3]⟩),
  (40, ⟨.slice 69, 1, 24, [.nl 5], some [69]⟩),
  (41, ⟨.struct [(0, 40)], 1, 24, [.nl 5], some [69]⟩),
  (42, ⟨.struct [(0, 40)], 1, 24, [.nl 5], some [69]⟩),
  (51, ⟨.slice 5, 1, 24, [.nl 1], some [5]⟩),
  (63, ⟨.struct [(0, 3), (1, 3)], 2, 16, [.d (.int .i64 0), .d (.int .i64 0)], none⟩),
  (64, ⟨.struct [(0, 3), (1, 3)], 2, 16, [.d (.int .i64 0), .d (.int .i64 0)], none⟩),
  (68, ⟨.struct [(0, 3), (1, 3), (2, 3), (3, 3), (4, 3)], 5, 40, [.d (.int .i64 0), .d (.int .i64 0), .d (.int .i64 0), .d (.int .i64 0), .d (.int .i64 0)], none⟩),
  (69, ⟨.struct [(0, 3), (1, 3), (2, 3), (3, 3), (4, 3)], 5, 40, [.d (.int .i64 0), .d (.int .i64 0), .d (.int .i64 0), .d (.int .i64 0), .d (.int .i64 0)], none⟩),
  (73, ⟨.slice 9, 1, 24, [.nl 1], some [9]⟩),
  (74, ⟨.struct [(0, 73), (1, 9), (2, 22), (3, 25)], 4, 88, [.nl 1, .d (.str ⟨#[]⟩), .nl 1, .nl 1], none⟩),
  (75, ⟨.struct [(0, 73), (1, 9), (2, 22), (3, 25)], 4, 88, [.nl 1, .d (.str ⟨#[]⟩), .nl 1, .nl 1], none⟩),
  (77, ⟨.slice 108, 1, 24, [.nl 3], some [108]⟩),
  (80, ⟨.struct [(0, 73), (1, 9), (2, 22), (3, 25)], 4, 88, [.nl 1, .d (.str ⟨#[]⟩), .nl 1, .nl 1], none⟩),
  (88, ⟨.slice 42, 1, 24, [.nl 1], none⟩),
  (89, ⟨.struct [(0, 73), (1, 25), (2, 3), (3, 88)], 4, 80, [.nl 1, .nl 1, .d (.int .i64 0), .nl 1], none⟩),
  (90, ⟨.struct [(0, 73), (1, 25), (2, 3), (3, 88)], 4, 80, [.nl 1, .nl 1, .d (.int .i64 0), .nl 1], none⟩),
  (101, ⟨.struct [(0, 25), (1, 88)], 2, 48, [.nl 1, .nl 1], none⟩),
  (102, ⟨.struct [(0, 25), (1, 88)], 2, 48, [.nl 1, .nl 1], none⟩),
  (106, ⟨.int .u64, 1, 8, [.d (.int .u64 0)], none⟩),
  (107, ⟨.struct [(0, 4), (1, 106), (2, 106)], 3, 24, [.d (.bool false), .d (.int .u64 0), .d (.int .u64 0)], none⟩),
  (108, ⟨.struct [(0, 4), (1, 106), (2, 106)], 3, 24, [.d (.bool false), .d (.int .u64 0), .d (.int .u64 0)], none⟩),
  (128, ⟨.struct [(0, 3), (1, 3)], 2, 16, [.d (.int .i64 0), .d (.int .i64 0)], none⟩),
  (129, ⟨.struct [(0, 3), (1, 3)], 2, 16, [.d (.int .i64 0), .d (.int .i64 0)], none⟩),
  (130, ⟨.struct [(0, 3), (1, 3), (2, 129), (4, 129)], 6, 48, [.d (.int .i64 0), .d (.int .i64 0), .d (.int .i64 0), .d (.int .i64 0), .d (.int .i64 0), .d (.int .i64 0)], none⟩),
  (131, ⟨.struct [(0, 3), (1, 3), (2, 129), (4, 129)], 6, 48, [.d (.int .i64 0), .d (.int .i64 0), .d (.int .i64 0), .d (.int .i64 0), .d (.int .i64 0), .d (.int .i64 0)], none⟩),
  (149, ⟨.struct [(0, 25), (1, 64), (3, 3)], 4, 48, [.nl 1, .d (.int .i64 0), .d (.int .i64 0), .d (.int .i64 0)], some [3, 0, 0, 0]⟩),
  (150, ⟨.struct [(0, 25), (1, 64), (3, 3)], 4, 48, [.nl 1, .d (.int .i64 0), .d (.int .i64 0), .d (.int .i64 0)], some [3, 0, 0, 0]⟩),
  (151, ⟨.slice 150, 1, 24, [.nl 4], none⟩),
  (158, ⟨.struct [(0, 25), (1, 64), (3, 3)], 4, 48, [.nl 1, .d (.int .i64 0), .d (.int .i64 0), .d (.int .i64 0)], some [3, 0, 0, 0]⟩),
  (159, ⟨.struct [(0, 25), (1, 64), (3, 3)], 4, 48, [.nl 1, .d (.int .i64 0), .d (.int .i64 0), .d (.int .i64 0)], some [3, 0, 0, 0]⟩),
  (160, ⟨.slice 159, 1, 24, [.nl 4], none⟩),
  (171, ⟨.slice 102, 1, 24, [.nl 2], none⟩),
  (201, ⟨.slice 240, 1, 24, [.nl 1], none⟩),
  (205, ⟨.slice 131, 1, 24, [.nl 6], some [131]⟩),
  (209, ⟨.struct [(0, 3), (1, 3), (2, 3), (3, 3), (4, 3)], 5, 40, [.d (.int .i64 0), .d (.int .i64 0), .d (.int .i64 0), .d (.int .i64 0), .d (.int .i64 0)], none⟩),
  (229, ⟨.arr 2 80, 8, 176, [.nl 1, .d (.str ⟨#[]⟩), .nl 1, .nl 1, .nl 1, .d (.str ⟨#[]⟩), .nl 1, .nl 1], none⟩),
  (240, ⟨.slice 129, 1, 24, [.nl 2], some [129]⟩),
  (248, ⟨.struct [(0, 51), (1, 3), (2, 3)], 3, 40, [.nl 1, .d (.int .i64 0), .d (.int .i64 0)], some [5, 0, 0]⟩),
  (249, ⟨.struct [(0, 51), (1, 3), (2, 3)], 3, 40, [.nl 1, .d (.int .i64 0), .d (.int .i64 0)], some [5, 0, 0]⟩),
  (251, ⟨.int .u64, 1, 8, [.d (.int .u64 0)], none⟩),
  (266, ⟨.struct [(0, 108), (3, 3)], 4, 32, [.d (.bool false), .d (.int .u64 0), .d (.int .u64 0), .d (.int .i64 0)], none⟩),
  (267, ⟨.struct [(0, 108), (3, 3)], 4, 32, [.d (.bool false), .d (.int .u64 0), .d (.int .u64 0), .d (.int .i64 0)], none⟩),
  (277, ⟨.int .i64, 1, 8, [.d (.int .i64 0)], none⟩),
  (284, ⟨.int .u32, 1, 4, [.d (.int .u32 0)], none⟩),
  (292, ⟨.int .u64, 1, 8, [.d (.int .u64 0)], none⟩)]
def TN (t : TypeId) : Option TI := look ntab t
theorem hTn0 : TOk Tryz.prog TN := tabOk_sound (by kernel_rfl)
theorem hTn : TOk PR TN := by unfold PR; exact hTn0
def ptab : List (Nat × TI) :=
[(2, ⟨.int .i64, 1, 8, [.d (.int .i64 0)], none⟩),
  (3, ⟨.int .i64, 1, 8, [.d (.int .i64 0)], none⟩),
  (4, ⟨.bool, 1, 1, [.d (.bool false)], none⟩),
  (5, ⟨.int .u8, 1, 1, [.d (.int .u8 0)], none⟩),
  (9, ⟨.str, 1, 16, [.d (.str ⟨#[]⟩)], none⟩),
  (21, ⟨.int .i32, 1, 4, [.d (.int .i32 0)], none⟩),
  (22, ⟨.slice 25, 1, 24, [.nl 1], none⟩),
  (23, ⟨.struct [(0, 22), (1, 22)], 2, 48, [.nl 1, .nl 1], none⟩),
  (24, ⟨.struct [(0, 22), (1, 22)], 2, 48, [.nl 1, .nl 1], none⟩),
  (25, ⟨.slice 3, 1, 24, [.nl 1], none⟩),
  (26, ⟨.struct [(0, 3), (1, 3), (2, 3), (3, 3), (4, 3), (5, 3), (6, 3), (7, 25)], 8, 80, [.d (.int .i64 0), .d (.int .i64 0), .d (.int .i64 0), .d (.int .i64 0), .d (.int .i64 0), .d (.int .i64 0), .d (.int .i64 0), .nl 1], none⟩),
  (27, ⟨.struct [(0, 3), (1, 3), (2, 3), (3, 3), (4, 3), (5, 3), (6, 3), (7, 25)], 8, 80, [.d (.int .i64 0), .d (.int .i64 0), .d (.int .i64 0), .d (.int .i64 0), .d (.int .i64 0), .d (.int .i64 0), .d (.int .i64 0), .nl 1], none⟩),
  (28, ⟨.slice 209, 1, 24, [.nl 5], none⟩),
  (29, ⟨.struct [(0, 28)], 1, 24, [.nl 5], none⟩),
  (30, ⟨.struct [(0, 28)], 1, 24, [.nl 5], none⟩),
  (35, ⟨.struct [(0, 22), (1, 22)], 2, 48, [.nl 1, .nl 1], none⟩),
  (38, ⟨.struct [(0, 3), (1, 3), (2, 3), (3, 3), (4, 3), (5, 3), (6, 3), (7, 25)], 8, 80, [.d (.int .i64 0), .d (.int .i64 0), .d (.int .i64 0), .d (.int .i64 0), .d (.int .i64 0), .d (.int .i64 0), .d (.int .i64 0), .nl 1], none⟩),
  (40, ⟨.slice 69, 1, 24, [.nl 5], none⟩),
  (41, ⟨.struct [(0, 40)], 1, 24, [.nl 5], none⟩),
  (42, ⟨.struct [(0, 40)], 1, 24, [.nl 5], none⟩),
  (51, ⟨.slice 5, 1, 24, [.nl 1], none⟩),
  (63, ⟨.struct [(0, 3), (1, 3)], 2, 16, [.d (.int .i64 0), .d (.int .i64 0)], none⟩),
  (64, ⟨.struct [(0, 3), (1, 3)], 2, 16, [.d (.int .i64 0), .d (.int .i64 0)], none⟩),
  (68, ⟨.struct [(0, 3), (1, 3), (2, 3), (3, 3), (4, 3)], 5, 40, [.d (.int .i64 0), .d (.int .i64 0), .d (.int .i64 0), .d (.int .i64 0), .d (.int .i64 0)], none⟩),
  (69, ⟨.struct [(0, 3), (1, 3), (2, 3), (3, 3), (4, 3)], 5, 40, [.d (.int .i64 0), .d (.int .i64 0), .d (.int .i64 0), .d (.int .i64 0), .d (.int .i64 0)], none⟩),
  (73, ⟨.slice 9, 1, 24, [.nl 1], none⟩),
  (74, ⟨.struct [(0, 73), (1, 9), (2, 22), (3, 25)], 4, 88, [.nl 1, .d (.str ⟨#[]⟩), .nl 1, .nl 1], none⟩),
  (75, ⟨.struct [(0, 73), (1, 9), (2, 22), (3, 25)], 4, 88, [.nl 1, .d (.str ⟨#[]⟩), .nl 1, .nl 1], none⟩),
  (77, ⟨.slice 108, 1, 24, [.nl 3], none⟩),
  (80, ⟨.struct [(0, 73), (1, 9), (2, 22), (3, 25)], 4, 88, [.nl 1, .d (.str ⟨#[]⟩), .nl 1, .nl 1], none⟩),
  (88, ⟨.slice 42, 1, 24, [.nl 1], none⟩),
  (89, ⟨.struct [(0, 73), (1, 25), (2, 3), (3, 88)], 4, 80, [.nl 1, .nl 1, .d (.int .i64 0), .nl 1], none⟩),
  (90, ⟨.struct [(0, 73), (1, 25), (2, 3), (3, 88)], 4, 80, [.nl 1, .nl 1, .d (.int .i64 0), .nl 1], none⟩),
  (101, ⟨.struct [(0, 25), (1, 88)], 2, 48, [.nl 1, .nl 1], none⟩),
  (102, ⟨.struct [(0, 25), (1, 88)], 2, 48, [.nl 1, .nl 1], none⟩),
  (106, ⟨.int .u64, 1, 8, [.d (.int .u64 0)], none⟩),
  (107, ⟨.struct [(0, 4), (1, 106), (2, 106)], 3, 24, [.d (.bool false), .d (.int .u64 0), .d (.int .u64 0)], none⟩),
  (108, ⟨.struct [(0, 4), (1, 106), (2, 106)], 3, 24, [.d (.bool false), .d (.int .u64 0), .d (.int .u64 0)], none⟩),
  (128, ⟨.struct [(0, 3), (1, 3)], 2, 16, [.d (.int .i64 0), .d (.int .i64 0)], none⟩),
  (129, ⟨.struct [(0, 3), (1, 3)], 2, 16, [.d (.int .i64 0), .d (.int .i64 0)], none⟩),
  (130, ⟨.struct [(0, 3), (1, 3), (2, 129), (4, 129)], 6, 48, [.d (.int .i64 0), .d (.int .i64 0), .d (.int .i64 0), .d (.int .i64 0), .d (.int .i64 0), .d (.int .i64 0)], none⟩),
  (131, ⟨.struct [(0, 3), (1, 3), (2, 129), (4, 129)], 6, 48, [.d (.int .i64 0), .d (.int .i64 0), .d (.int .i64 0), .d (.int .i64 0), .d (.int .i64 0), .d (.int .i64 0)], none⟩),
  (149, ⟨.struct [(0, 25), (1, 64), (3, 3)], 4, 48, [.nl 1, .d (.int .i64 0), .d (.int .i64 0), .d (.int .i64 0)], none⟩),
  (150, ⟨.struct [(0, 25), (1, 64), (3, 3)], 4, 48, [.nl 1, .d (.int .i64 0), .d (.int .i64 0), .d (.int .i64 0)], none⟩),
  (151, ⟨.slice 150, 1, 24, [.nl 4], none⟩),
  (158, ⟨.struct [(0, 25), (1, 64), (3, 3)], 4, 48, [.nl 1, .d (.int .i64 0), .d (.int .i64 0), .d (.int .i64 0)], none⟩),
  (159, ⟨.struct [(0, 25), (1, 64), (3, 3)], 4, 48, [.nl 1, .d (.int .i64 0), .d (.int .i64 0), .d (.int .i64 0)], none⟩),
  (160, ⟨.slice 159, 1, 24, [.nl 4], none⟩),
  (171, ⟨.slice 102, 1, 24, [.nl 2], none⟩),
  (201, ⟨.slice 240, 1, 24, [.nl 1], none⟩),
  (205, ⟨.slice 131, 1, 24, [.nl 6], none⟩),
  (209, ⟨.struct [(0, 3), (1, 3), (2, 3), (3, 3), (4, 3)], 5, 40, [.d (.int .i64 0), .d (.int .i64 0), .d (.int .i64 0), .d (.int .i64 0), .d (.int .i64 0)], none⟩),
  (240, ⟨.slice 129, 1, 24, [.nl 2], none⟩),
  (248, ⟨.struct [(0, 51), (1, 3), (2, 3)], 3, 40, [.nl 1, .d (.int .i64 0), .d (.int .i64 0)], none⟩),
  (249, ⟨.struct [(0, 51), (1, 3), (2, 3)], 3, 40, [.nl 1, .d (.int .i64 0), .d (.int .i64 0)], none⟩),
  (251, ⟨.int .u64, 1, 8, [.d (.int .u64 0)], none⟩),
  (266, ⟨.struct [(0, 108), (3, 3)], 4, 32, [.d (.bool false), .d (.int .u64 0), .d (.int .u64 0), .d (.int .i64 0)], none⟩),
  (267, ⟨.struct [(0, 108), (3, 3)], 4, 32, [.d (.bool false), .d (.int .u64 0), .d (.int .u64 0), .d (.int .i64 0)], none⟩),
  (277, ⟨.int .i64, 1, 8, [.d (.int .i64 0)], none⟩),
  (284, ⟨.int .u32, 1, 4, [.d (.int .u32 0)], none⟩),
  (292, ⟨.int .u64, 1, 8, [.d (.int .u64 0)], none⟩)]
def Tp (t : TypeId) : Option TI := look ptab t
theorem hTp : TOk Tryz.prog Tp := tabOk_sound (by kernel_rfl)
theorem hmix : PR.follows .mixedOrders = true := by unfold PR; kernel_rfl
abbrev t_int : TypeId := 3
abbrev t_string : TypeId := 9
abbrev t_LLint : TypeId := 22
abbrev t_Lint : TypeId := 25
abbrev t_laws_Config : TypeId := 27
abbrev t_impl_Grid : TypeId := 35
abbrev t_impl_Config : TypeId := 38
abbrev t_impl_Tree : TypeId := 42
abbrev t_impl_Bound : TypeId := 64
abbrev t_impl_Node : TypeId := 69
abbrev t_Lstring : TypeId := 73
abbrev t_laws_Table : TypeId := 75
abbrev t_impl_Table : TypeId := 80
abbrev t_impl_Model : TypeId := 90
abbrev t_impl_State : TypeId := 102
abbrev t_impl_Wide : TypeId := 108
abbrev t_impl_Slot : TypeId := 129
abbrev t_impl_Cand : TypeId := 131
abbrev t_impl_pending : TypeId := 150
abbrev t_spec_l19Item : TypeId := 159
abbrev t_2_impl_Table : TypeId := 229
abbrev t_Limpl_Slot : TypeId := 240
abbrev f_laws_FnExactFoldLoss : FuncId := 10
abbrev f_laws_szConfig : FuncId := 15
abbrev f_laws_toIntS : FuncId := 19
abbrev f_laws_toConfig : FuncId := 20
abbrev f_laws_eqIntS : FuncId := 24
abbrev f_laws_eqConfig : FuncId := 25
abbrev f_impl_GrowTree : FuncId := 31
abbrev f_spec_GrowTree : FuncId := 32
abbrev f_impl_TaskOk : FuncId := 34
abbrev f_impl_TreeOk : FuncId := 36
abbrev f_spec_TreeOk : FuncId := 37
abbrev f_spec_BoundOk : FuncId := 42
abbrev f_laws_szTable : FuncId := 45
abbrev f_laws_toTable : FuncId := 47
abbrev f_laws_eqWideS : FuncId := 49
abbrev f_laws_eqTable : FuncId := 50
abbrev f_laws_markTable : FuncId := 51
abbrev f_laws_markConfig : FuncId := 52
abbrev f_laws_markWideS : FuncId := 53
abbrev f_laws_heldWideS : FuncId := 54
abbrev f_spec_TrainModel : FuncId := 55
abbrev f_impl_TrainModel : FuncId := 56
abbrev f_spec_FoldLoss : FuncId := 60
abbrev f_impl_FoldLoss : FuncId := 61
abbrev f_spec_TableOk : FuncId := 63
abbrev f_spec_ConfigOk : FuncId := 64
abbrev f_spec_StateNew : FuncId := 65
abbrev f_spec_GridOf : FuncId := 66
abbrev f_spec_Residuals : FuncId := 68
abbrev f_impl_RoundOf : FuncId := 70
abbrev f_spec_AddWide : FuncId := 71
abbrev f_spec_CompareWide : FuncId := 72
abbrev f_spec_RoundOf : FuncId := 73
abbrev f_impl_CutsOf : FuncId := 82
abbrev f_impl_Column : FuncId := 83
abbrev f_laws_szIntSS : FuncId := 85
abbrev f_laws_szIntS : FuncId := 86
abbrev f_spec_PartOf : FuncId := 88
abbrev f_spec_LevelOf : FuncId := 89
abbrev f_spec_LeafOf : FuncId := 90
abbrev f_spec_l19Sum : FuncId := 91
abbrev f_spec_l17Inner : FuncId := 92
abbrev f_laws_toIntSS : FuncId := 93
abbrev f_impl_LevelOf : FuncId := 96
abbrev f_impl_PartOf : FuncId := 97
abbrev f_impl_LeafOf : FuncId := 98
abbrev f_impl_slotOf : FuncId := 99
abbrev f_impl_isLeaf : FuncId := 100
abbrev f_laws_eqIntSS : FuncId := 101
abbrev f_impl_AllRows : FuncId := 104
abbrev f_impl_RowsIn : FuncId := 105
abbrev f_impl_Free : FuncId := 106
abbrev f_impl_SideValues : FuncId := 107
abbrev f_impl_SidesOf : FuncId := 108
abbrev f_impl_SignFor : FuncId := 109
abbrev f_impl_SplitRows : FuncId := 110
abbrev f_spec_TaskOk : FuncId := 111
abbrev f_spec_AllRows : FuncId := 112
abbrev f_spec_Free : FuncId := 113
abbrev f_spec_SplitRows : FuncId := 114
abbrev f_spec_SideValues : FuncId := 115
abbrev f_spec_SidesOf : FuncId := 116
abbrev f_spec_SignFor : FuncId := 117
abbrev f_impl_GridOk : FuncId := 118
abbrev f_impl_ConfigOk : FuncId := 119
abbrev f_slices_ContainsFunc_Lint_int : FuncId := 120
abbrev f_impl_TaskOk_1 : FuncId := 121
abbrev f_impl_within : FuncId := 122
abbrev f_impl_shapeOk : FuncId := 123
abbrev f_impl_wayTo : FuncId := 124
abbrev f_spec_l1In : FuncId := 125
abbrev f_spec_l17Shape : FuncId := 126
abbrev f_spec_DepthOf : FuncId := 127
abbrev f_spec_l17Ways : FuncId := 128
abbrev f_spec_l14Leaf : FuncId := 131
abbrev f_laws_szStringS : FuncId := 133
abbrev f_laws_toStringS : FuncId := 135
abbrev f_impl_stages : FuncId := 136
abbrev f_laws_eqWide : FuncId := 137
abbrev f_laws_eqStringS : FuncId := 138
abbrev f_laws_markStringS : FuncId := 139
abbrev f_laws_markIntSS : FuncId := 140
abbrev f_laws_markIntS : FuncId := 141
abbrev f_spec_Boost : FuncId := 142
abbrev f_spec_ModelFrom : FuncId := 143
abbrev f_impl_Boost : FuncId := 144
abbrev f_impl_ModelFrom : FuncId := 145
abbrev f_spec_FoldOf : FuncId := 151
abbrev f_spec_PredictAll : FuncId := 152
abbrev f_spec_LossOf : FuncId := 153
abbrev f_impl_TableOk : FuncId := 154
abbrev f_impl_FoldOf : FuncId := 155
abbrev f_impl_PredictAll : FuncId := 156
abbrev f_impl_Residuals : FuncId := 157
abbrev f_impl_LossOf : FuncId := 158
abbrev f_spec_NameOk : FuncId := 159
abbrev f_spec_l9Has : FuncId := 160
abbrev f_spec_l6Value : FuncId := 161
abbrev f_spec_l8Numbers : FuncId := 162
abbrev f_spec_l8Least : FuncId := 163
abbrev f_spec_l8Most : FuncId := 164
abbrev f_spec_BaseOf : FuncId := 165
abbrev f_spec_Column : FuncId := 166
abbrev f_spec_CutsOf : FuncId := 167
abbrev f_spec_BinOf : FuncId := 168
abbrev f_spec_SubInt : FuncId := 169
abbrev f_impl_AddWide : FuncId := 170
abbrev f_impl_ScaleWide : FuncId := 173
abbrev f_impl_SameGrid : FuncId := 174
abbrev f_impl_GridOf : FuncId := 175
abbrev f_impl_ShrunkTree : FuncId := 176
abbrev f_impl_copyTrees : FuncId := 177
abbrev f_impl_AddInt : FuncId := 178
abbrev f_impl_EvalTree : FuncId := 179
abbrev f_spec_WideOk : FuncId := 180
abbrev f_spec_l3Order : FuncId := 181
abbrev f_spec_l3Zero : FuncId := 182
abbrev f_spec_SameGrid : FuncId := 183
abbrev f_spec_ShrunkTree : FuncId := 184
abbrev f_spec_l22Trees : FuncId := 185
abbrev f_spec_AddInt : FuncId := 186
abbrev f_spec_EvalTree : FuncId := 187
abbrev f_impl_route : FuncId := 192
abbrev f_spec_GridOk : FuncId := 193
abbrev f_spec_RowsIn : FuncId := 194
abbrev f_spec_Distinct : FuncId := 199
abbrev f_impl_SortInts : FuncId := 200
abbrev f_slices_Compact_Lint_int : FuncId := 201
abbrev f_spec_NodeHists : FuncId := 203
abbrev f_spec_BestOf : FuncId := 204
abbrev f_spec_CandsOf : FuncId := 205
abbrev f_spec_l17Up : FuncId := 206
abbrev f_spec_FloorDiv : FuncId := 207
abbrev f_spec_Brought : FuncId := 208
abbrev f_impl_BinOf : FuncId := 210
abbrev f_impl_NodeHists : FuncId := 211
abbrev f_impl_BestOf : FuncId := 212
abbrev f_impl_CandsOf : FuncId := 213
abbrev f_impl_isCount : FuncId := 214
abbrev f_impl_BoundOk : FuncId := 215
abbrev f_impl_FloorDiv : FuncId := 216
abbrev f_impl_Brought : FuncId := 217
abbrev f_impl_HalfSum : FuncId := 227
abbrev f_spec_HalfSum : FuncId := 228
abbrev f_impl_CutsOk : FuncId := 229
abbrev f_impl_GridOk_1 : FuncId := 230
abbrev f_impl_ConfigOk_1 : FuncId := 231
abbrev f_impl_isSign : FuncId := 232
abbrev f_slices_IndexFunc_Lint_int : FuncId := 233
abbrev f_impl_isLeafValue : FuncId := 234
abbrev f_impl_isDecimal : FuncId := 235
abbrev f_impl_parent : FuncId := 236
abbrev f_slices_Reverse_Lint_int : FuncId := 237
abbrev f_spec_l1Max : FuncId := 238
abbrev f_impl_StateNew : FuncId := 240
abbrev f_laws_markText : FuncId := 241
abbrev f_spec_ModelOk : FuncId := 242
abbrev f_impl_BaseOf : FuncId := 243
abbrev f_slices_Clone_Lstring_string : FuncId := 244
abbrev f_slices_Clone_Lint_int : FuncId := 245
abbrev f_impl_ModelOk : FuncId := 246
abbrev f_spec_Predict : FuncId := 249
abbrev f_spec_MulWide : FuncId := 250
abbrev f_impl_areNames : FuncId := 251
abbrev f_impl_areDecimals : FuncId := 252
abbrev f_slices_ContainsFunc_LLint_Lint : FuncId := 253
abbrev f_impl_TableOk_1 : FuncId := 254
abbrev f_impl_Predict : FuncId := 255
abbrev f_impl_SubInt : FuncId := 256
abbrev f_impl_MulWide : FuncId := 257
abbrev f_spec_SortInts : FuncId := 258
abbrev f_impl_WideOk : FuncId := 259
abbrev f_impl_compareSizes : FuncId := 260
abbrev f_impl_wideOf : FuncId := 262
abbrev f_math_bits_Add64 : FuncId := 263
abbrev f_impl_size : FuncId := 264
abbrev f_math_bits_Mul64 : FuncId := 265
abbrev f_impl_sameLists : FuncId := 266
abbrev f_impl_copyTree : FuncId := 267
abbrev f_impl_LeavesOf : FuncId := 268
abbrev f_impl_Shrunk : FuncId := 269
abbrev f_impl_RouteTo : FuncId := 270
abbrev f_spec_l9Grids : FuncId := 271
abbrev f_spec_l17Copy : FuncId := 272
abbrev f_spec_Shrunk : FuncId := 273
abbrev f_spec_RouteTo : FuncId := 274
abbrev f_spec_CutsOk : FuncId := 278
abbrev f_slices_Sort_Lint_int : FuncId := 280
abbrev f_spec_HistOf : FuncId := 281
abbrev f_spec_MayPart : FuncId := 282
abbrev f_spec_Better : FuncId := 283
abbrev f_spec_Prefix : FuncId := 284
abbrev f_impl_HistOf : FuncId := 285
abbrev f_impl_MayPart : FuncId := 286
abbrev f_impl_Better : FuncId := 287
abbrev f_impl_Prefix : FuncId := 288
abbrev f_impl_Slot_minus : FuncId := 289
abbrev f_slices_IndexFunc_Limpl_Node_impl_Node : FuncId := 293
abbrev f_impl_parent_1 : FuncId := 294
abbrev f_impl_ModelOk_1 : FuncId := 296
abbrev f_slices_ContainsFunc_Limpl_Tree_impl_Tree : FuncId := 297
abbrev f_impl_ModelOk_2 : FuncId := 298
abbrev f_spec_l3Product : FuncId := 299
abbrev f_spec_l3Abs : FuncId := 300
abbrev f_impl_NameOk : FuncId := 301
abbrev f_slices_Contains_Lstring_string : FuncId := 302
abbrev f_impl_areDecimals_1 : FuncId := 303
abbrev f_slices_IndexFunc_LLint_Lint : FuncId := 304
abbrev f_cmp_Or_int : FuncId := 305
abbrev f_cmp_Compare_uint64 : FuncId := 306
abbrev f_slices_EqualFunc_LLint_LLint_Lint_Lint : FuncId := 307
abbrev f_impl_sameLists_1 : FuncId := 308
abbrev f_slices_Equal_Lint_int : FuncId := 309
abbrev f_slices_Clone_Limpl_Node_impl_Node : FuncId := 310
abbrev f_spec_l8Ints : FuncId := 311
abbrev f_spec_l18Way : FuncId := 312
abbrev f_spec_l13Add : FuncId := 318
abbrev f_spec_Agrees : FuncId := 319
abbrev f_spec_Improves : FuncId := 320
abbrev f_spec_GainOf : FuncId := 321
abbrev f_spec_CompareFrac : FuncId := 322
abbrev f_spec_CandLess : FuncId := 323
abbrev f_impl_Slot_plus : FuncId := 324
abbrev f_impl_Agrees : FuncId := 325
abbrev f_impl_Improves : FuncId := 326
abbrev f_impl_GainOf : FuncId := 327
abbrev f_impl_CompareFrac : FuncId := 328
abbrev f_impl_CandLess : FuncId := 329
abbrev f_slices_IndexFunc_Limpl_Tree_impl_Tree : FuncId := 332
abbrev f_slices_Index_Lstring_string : FuncId := 333
abbrev f_cmp_isNaN_uint64 : FuncId := 334
abbrev f_spec_BothOf : FuncId := 346
abbrev f_spec_PlainGain : FuncId := 347
abbrev f_spec_AddFrac : FuncId := 348
abbrev f_spec_l5Cross : FuncId := 349
abbrev f_impl_BothOf : FuncId := 350
abbrev f_impl_PlainGain : FuncId := 351
abbrev f_impl_AddFrac : FuncId := 352
abbrev f_impl_crossed : FuncId := 353
abbrev f_impl_CompareWide : FuncId := 354
abbrev f_cmp_Compare_int : FuncId := 355
abbrev f_cmp_isNaN_int : FuncId := 362
abbrev f_spec_SquareOver : FuncId := 363
abbrev f_spec_FracOk : FuncId := 364
abbrev f_spec_ScaleWide : FuncId := 365
abbrev f_impl_SquareOver : FuncId := 366
abbrev f_impl_fracOf : FuncId := 367
abbrev f_impl_FracOk : FuncId := 368
theorem pf {n : Nat} {f : Func} (h : Tryz.prog.funcs[n]? = some f) : PR.funcs[n]? = some f := by unfold PR; exact h
theorem eS : (∀ (a : List (Nat × AV)) (b : List (Nat × Ent)) (c d : Nat) (a' : List (Nat × AV)) (b' : List (Nat × Ent)) (c' d' : Nat), (St.mk a b c d = St.mk a' b' c' d') = (a = a' ∧ b = b' ∧ c = c' ∧ d = d')) ∧
    (∀ (α : Type) (a : α) (l : List α) (a' : α) (l' : List α), (a :: l = a' :: l') = (a = a' ∧ l = l')) ∧ (∀ (α β : Type) (a : α) (b : β) (a' : α) (b' : β), (Prod.mk a b = Prod.mk a' b') = (a = a' ∧ b = b')) ∧
    (∀ a a' : CV, (AV.c a = AV.c a') = (a = a')) ∧ (∀ a a' : List CV, (AV.agg a = AV.agg a') = (a = a')) ∧ (∀ a a' : List (Bool × List CV), (AV.tup a = AV.tup a') = (a = a')) ∧ (∀ a a' : D, (CV.d a = CV.d a') = (a = a')) ∧
    (∀ (a : IntKind) (b : Int) (a' : IntKind) (b' : Int), (D.int a b = D.int a' b') = (a = a' ∧ b = b')) ∧ (∀ a a' : Bool, (D.bool a = D.bool a') = (a = a')) ∧ (∀ a a' : ByteArray, (D.str a = D.str a') = (a = a')) ∧ (∀ (a : Nat) (b : List (List D)) (a' : Nat) (b' : List (List D)), (D.sl a b = D.sl a' b') = (a = a' ∧ b = b')) ∧
    (∀ (a b c : Nat) (d : Ow) (e : List (List D)) (a' b' c' : Nat) (d' : Ow) (e' : List (List D)), (Ent.arr a b c d e = Ent.arr a' b' c' d' e') = (a = a' ∧ b = b' ∧ c = c' ∧ d = d' ∧ e = e')) ∧ (∀ (a : Nat) (b : List CV) (a' : Nat) (b' : List CV), (Ent.box a b = Ent.box a' b') = (a = a' ∧ b = b')) ∧
    (∀ p : Prop, (True ∧ p) = p) ∧ (∀ p : Prop, (p ∧ True) = p) ∧ (∀ p : Prop, (p ∧ p) = p) ∧ (∀ n : Nat, nInt n = (n : Int)) ∧ (((0 : Nat) : Int) = 0) ∧ (∀ (α : Type) (f : α → List D) (l : List α), dLen (eL f l) = l.length) ∧ (∀ s : ByteArray, sLen s = (s.size : Int)) :=
  ⟨St.mk.injEq, fun _ => List.cons.injEq, fun _ _ => Prod.mk.injEq, AV.c.injEq, AV.agg.injEq, AV.tup.injEq, CV.d.injEq, D.int.injEq, D.bool.injEq, D.str.injEq, D.sl.injEq, Ent.arr.injEq, Ent.box.injEq, true_and, and_true, and_self, nInt_eq, Int.natCast_zero, fun _ => dLen_eL, sLen_eq⟩
theorem eH : (∀ n : Nat, nInt n = (n : Int)) ∧ (((0 : Nat) : Int) = 0) ∧ (∀ (α : Type) (f : α → List D) (l : List α), dLen (eL f l) = l.length) ∧ (∀ s : ByteArray, sLen s = (s.size : Int)) ∧ (∀ x : Int, nOf x = x.toNat) ∧ (∀ n : Nat, ((n : Int)).toNat = n) ∧ (∀ x y : Nat, nAdd x y = x + y) ∧ (∀ x y : Nat, nSub x y = x - y) ∧ (dLen [] = 0) ∧ (∀ (c : List D) (es : List (List D)), dLen (c :: es) = dLen es + 1) ∧
    (∀ x y : Int, (iLt x y = true) = (x < y)) ∧ (∀ x y : Int, (iLt x y = false) = (y ≤ x)) ∧ (∀ x y : Int, (iLe x y = true) = (x ≤ y)) ∧ (∀ x y : Int, (iLe x y = false) = (y < x)) ∧ (∀ x y : Int, (iEq x y = true) = (x = y)) ∧ (∀ x y : Int, (iEq x y = false) = (x ≠ y)) ∧ (∀ x y : ByteArray, (sEq x y = true) = (x = y)) ∧ (∀ x y : ByteArray, (sEq x y = false) = (x ≠ y)) ∧
    (∀ x : Bool, (bNot x = true) = (x = false)) ∧ (∀ x : Bool, (bNot x = false) = (x = true)) ∧ (∀ x y : Bool, (bAnd x y = true) = (x = true ∧ y = true)) ∧ (∀ x y : Bool, (bEq x y = true) = (x = y)) ∧ (∀ x y : Bool, (bEq x y = false) = (x ≠ y)) ∧ (∀ b : Bool, (¬ b = true) = (b = false)) ∧ (∀ b : Bool, (¬ b = false) = (b = true)) ∧ ((true = false) = False) ∧ ((false = true) = False) :=
  ⟨nInt_eq, Int.natCast_zero, fun _ => dLen_eL, sLen_eq, nOf_eq, Int.toNat_natCast, nAdd_eq, nSub_eq, dLen_nil, dLen_cons, iLt_t, iLt_f, iLe_t, iLe_f, iEq_t, iEq_f, sEq_t, sEq_f, bNot_t, bNot_f, bAnd_t, bEq_t, bEq_f, Bool.not_eq_true, Bool.not_eq_false, Bool.true_eq_false, Bool.false_eq_true⟩
end Go.H.S
