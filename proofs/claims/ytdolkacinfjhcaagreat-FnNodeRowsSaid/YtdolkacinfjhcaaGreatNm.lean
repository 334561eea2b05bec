/- The numbers of functions and types in this seat, and the table of types. -/
import Derived.Test.YtdolkacinfjhcaaGreatProg
import Derived.Test.YtdolkacinfjhcaaGreatH28
namespace Go.H.S
open Go Go.Proofs Go.H
@[irreducible] noncomputable def PR : Program := Tryz.prog
def tab : List (Nat × TI) :=
[(2, ⟨.int .i64, 1, 8, [.d (.int .i64 0)], none⟩),
  (3, ⟨.int .i64, 1, 8, [.d (.int .i64 0)], none⟩),
  (4, ⟨.bool, 1, 1, [.d (.bool false)], none⟩),
  (5, ⟨.int .u8, 1, 1, [.d (.int .u8 0)], none⟩),
  (9, ⟨.str, 1, 16, [.d (.str ⟨#[]⟩)], none⟩),
  (21, ⟨.int .i32, 1, 4, [.d (.int .i32 0)], none⟩),
  (22, ⟨.slice 25, 1, 24, [.nl 1], none⟩),
  (23, ⟨.struct [(0, 22), (1, 22)], 2, 48, [.nl 1, .nl 1], none⟩),
  (24, ⟨.struct [(0, 22), (1, 22)], 2, 48, [.nl 1, .nl 1], none⟩),
  (25, ⟨.slice 3, 1, 24, [.nl 1], none⟩),
  (26, ⟨.struct [(0, 3), (1, 3), (2, 3), (3, 3), (4, 3), (5, 3), (6, 3), (7, 25)], 8, 80, [.d (.int .i64 0), .d (.int .i64 0), .d (.int .i64 0), .d (.int .i64 0), .d (.int .i64 0), .d (.int .i64 0), .d (.int .i64 0), .nl 1], none⟩),
  (27, ⟨.struct [(0, 3), (1, 3), (2, 3), (3, 3), (4, 3), (5, 3), (6, 3), (7, 25)], 8, 80, [.d (.int .i64 0), .d (.int .i64 0), .d (.int .i64 0), .d (.int .i64 0), .d (.int .i64 0), .d (.int .i64 0), .d (.int .i64 0), .nl 1], none⟩),
  (28, ⟨.slice 209, 1, 24, [.nl 5], none⟩),
  (29, ⟨.struct [(0, 28)], 1, 24, [.nl 5], none⟩),
  (30, ⟨.struct [(0, 28)], 1, 24, [.nl 5], none⟩),
  (35, ⟨.struct [(0, 22), (1, 22)], 2, 48, [.nl 1, .nl 1], none⟩),
  (38, ⟨.struct [(0, 3), (1, 3), (2, 3), (3, 3), (4, 3), (5, 3), (6, 3), (7, 25)], 8, 80, [.d (.int .i64 0), .d (.int .i64 0), .d (.int .i64 0), .d (.int .i64 0), .d (.int .i64 0), .d (.int .i64 0), .d (.int .i64 0), .nl 1], none⟩),
  (40, ⟨.slice 69, 1, 24, [.nl 5], none⟩),
  (41, ⟨.struct [(0, 40)], 1, 24, [.nl 5], none⟩),
  (42, ⟨.struct [(0, 40)], 1, 24, [.nl 5], none⟩),
  (51, ⟨.slice 5, 1, 24, [.nl 1], none⟩),
  (63, ⟨.struct [(0, 3), (1, 3)], 2, 16, [.d (.int .i64 0), .d (.int .i64 0)], none⟩),
  (64, ⟨.struct [(0, 3), (1, 3)], 2, 16, [.d (.int .i64 0), .d (.int .i64 0)], none⟩),
  (68, ⟨.struct [(0, 3), (1, 3), (2, 3), (3, 3), (4, 3)], 5, 40, [.d (.int .i64 0), .d (.int .i64 0), .d (.int .i64 0), .d (.int .i64 0), .d (.int .i64 0)], none⟩),
  (69, ⟨.struct [(0, 3), (1, 3), (2, 3), (3, 3), (4, 3)], 5, 40, [.d (.int .i64 0), .d (.int .i64 0), .d (.int .i64 0), .d (.int .i64 0), .d (.int .i64 0)], none⟩),
  (73, ⟨.slice 9, 1, 24, [.nl 1], none⟩),
  (74, ⟨.struct [(0, 73), (1, 9), (2, 22), (3, 25)], 4, 88, [.nl 1, .d (.str ⟨#[]⟩), .nl 1, .nl 1], none⟩),
  (75, ⟨.struct [(0, 73), (1, 9), (2, 22), (3, 25)], 4, 88, [.nl 1, .d (.str ⟨#[]⟩), .nl 1, .nl 1], none⟩),
  (77, ⟨.slice 108, 1, 24, [.nl 3], none⟩),
  (80, ⟨.struct [(0, 73), (1, 9), (2, 22), (3, 25)], 4, 88, [.nl 1, .d (.str ⟨#[]⟩), .nl 1, .nl 1], none⟩),
  (88, ⟨.slice 42, 1, 24, [.nl 1], none⟩),
  (89, ⟨.struct [(0, 73), (1, 25), (2, 3), (3, 88)], 4, 80, [.nl 1, .nl 1, .d (.int .i64 0), .nl 1], none⟩),
  (90, ⟨.struct [(0, 73), (1, 25), (2, 3), (3, 88)], 4, 80, [.nl 1, .nl 1, .d (.int .i64 0), .nl 1], none⟩),
  (101, ⟨.struct [(0, 25), (1, 88)], 2, 48, [.nl 1, .nl 1], none⟩),
  (102, ⟨.struct [(0, 25), (1, 88)], 2, 48, [.nl 1, .nl 1], none⟩),
  (106, ⟨.int .u64, 1, 8, [.d (.int .u64 0)], none⟩),
  (107, ⟨.struct [(0, 4), (1, 106), (2, 106)], 3, 24, [.d (.bool false), .d (.int .u64 0), .d (.int .u64 0)], none⟩),
  (108, ⟨.struct [(0, 4), (1, 106), (2, 106)], 3, 24, [.d (.bool false), .d (.int .u64 0), .d (.int .u64 0)], none⟩),
  (128, ⟨.struct [(0, 3), (1, 3)], 2, 16, [.d (.int .i64 0), .d (.int .i64 0)], none⟩),
  (129, ⟨.struct [(0, 3), (1, 3)], 2, 16, [.d (.int .i64 0), .d (.int .i64 0)], none⟩),
  (130, ⟨.struct [(0, 3), (1, 3), (2, 129), (4, 129)], 6, 48, [.d (.int .i64 0), .d (.int .i64 0), .d (.int .i64 0), .d (.int .i64 0), .d (.int .i64 0), .d (.int .i64 0)], none⟩),
  (131, ⟨.struct [(0, 3), (1, 3), (2, 129), (4, 129)], 6, 48, [.d (.int .i64 0), .d (.int .i64 0), .d (.int .i64 0), .d (.int .i64 0), .d (.int .i64 0), .d (.int .i64 0)], none⟩),
  (149, ⟨.struct [(0, 25), (1, 64), (3, 3)], 4, 48, [.nl 1, .d (.int .i64 0), .d (.int .i64 0), .d (.int .i64 0)], none⟩),
  (150, ⟨.struct [(0, 25), (1, 64), (3, 3)], 4, 48, [.nl 1, .d (.int .i64 0), .d (.int .i64 0), .d (.int .i64 0)], none⟩),
  (151, ⟨.slice 150, 1, 24, [.nl 4], none⟩),
  (158, ⟨.struct [(0, 25), (1, 64), (3, 3)], 4, 48, [.nl 1, .d (.int .i64 0), .d (.int .i64 0), .d (.int .i64 0)], none⟩),
  (159, ⟨.struct [(0, 25), (1, 64), (3, 3)], 4, 48, [.nl 1, .d (.int .i64 0), .d (.int .i64 0), .d (.int .i64 0)], none⟩),
  (160, ⟨.slice 159, 1, 24, [.nl 4], none⟩),
  (171, ⟨.slice 102, 1, 24, [.nl 2], none⟩),
  (201, ⟨.slice 240, 1, 24, [.nl 1], none⟩),
  (205, ⟨.slice 131, 1, 24, [.nl 6], none⟩),
  (209, ⟨.struct [(0, 3), (1, 3), (2, 3), (3, 3), (4, 3)], 5, 40, [.d (.int .i64 0), .d (.int .i64 0), .d (.int .i64 0), .d (.int .i64 0), .d (.int .i64 0)], none⟩),
  (229, ⟨.arr 2 80, 8, 176, [.nl 1, .d (.str ⟨#[]⟩), .nl 1, .nl 1, .nl 1, .d (.str ⟨#[]⟩), .nl 1, .nl 1], none⟩),
  (240, ⟨.slice 129, 1, 24, [.nl 2], none⟩),
  (248, ⟨.struct [(0, 51), (1, 3), (2, 3)], 3, 40, [.nl 1, .d (.int .i64 0), .d (.int .i64 0)], none⟩),
  (249, ⟨.struct [(0, 51), (1, 3), (2, 3)], 3, 40, [.nl 1, .d (.int .i64 0), .d (.int .i64 0)], none⟩),
  (251, ⟨.int .u64, 1, 8, [.d (.int .u64 0)], none⟩),
  (266, ⟨.struct [(0, 108), (3, 3)], 4, 32, [.d (.bool false), .d (.int .u64 0), .d (.int .u64 0), .d (.int .i64 0)], none⟩),
  (267, ⟨.struct [(0, 108), (3, 3)], 4, 32, [.d (.bool false), .d (.int .u64 0), .d (.int .u64 0), .d (.int .i64 0)], none⟩),
  (277, ⟨.int .i64, 1, 8, [.d (.int .i64 0)], none⟩),
  (284, ⟨.int .u32, 1, 4, [.d (.int .u32 0)], none⟩),
  (292, ⟨.int .u64, 1, 8, [.d (.int .u64 0)], none⟩)]
def T (t : TypeId) : Option TI := look tab t
theorem hT0 : TOk Tryz.prog T := z5Q (by kernel_rfl)
theorem hT : TOk PR T := by unfold PR; exact hT0
def ntab : List (Nat × TI) :=
[(2, ⟨.int .i64, 1, 8, [.d (.int .i64 0)], none⟩),
  (3, ⟨.int .i64, 1, 8, [.d (.int .i64 0)], none⟩),
  (4, ⟨.bool, 1, 1, [.d (.bool false)], none⟩),
  (5, ⟨.int .u8, 1, 1, [.d (.int .u8 0)], none⟩),
  (9, ⟨.str, 1, 16, [.d (.str ⟨#[]⟩)], none⟩),
  (21, ⟨.int .i32, 1, 4, [.d (.int .i32 0)], none⟩),
  (22, ⟨.slice 25, 1, 24, [.nl 1], none⟩),
  (23, ⟨.struct [(0, 22), (1, 22)], 2, 48, [.nl 1, .nl 1], none⟩),
  (24, ⟨.struct [(0, 22), (1, 22)], 2, 48, [.nl 1, .nl 1], none⟩),
  (25, ⟨.slice 3, 1, 24, [.nl 1], some [3]⟩),
  (26, ⟨.struct [(0, 3), (1, 3), (2, 3), (3, 3), (4, 3), (5, 3), (6, 3), (7, 25)], 8, 80, [.d (.int .i64 0), .d (.int .i64 0), .d (.int .i64 0), .d (.int .i64 0), .d (.int .i64 0), .d (.int .i64 0), .d (.int .i64 0), .nl 1], some [0, 0, 0, 0, 0, 0, 0, 3]⟩),
  (27, ⟨.struct [(0, 3), (1, 3), (2, 3), (3, 3), (4, 3), (5, 3), (6, 3), (7, 25)], 8, 80, [.d (.int .i64 0), .d (.int .i64 0), .d (.int .i64 0), .d (.int .i64 0), .d (.int .i64 0), .d (.int .i64 0), .d (.int .i64 0), .nl 1], some [0, 0, 0, 0, 0, 0, 0, 3]⟩),
  (28, ⟨.slice 209, 1, 24, [.nl 5], some [209]⟩),
  (29, ⟨.struct [(0, 28)], 1, 24, [.nl 5], some [209]⟩),
  (30, ⟨.struct [(0, 28)], 1, 24, [.nl 5], some [209]⟩),
  (35, ⟨.struct [(0, 22), (1, 22)], 2, 48, [.nl 1, .nl 1], none⟩),
  (38, ⟨.struct [(0, 3), (1, 3), (2, 3), (3, 3), (4, 3), (5, 3), (6, 3), (7, 25)], 8, 80, [.d (.int .i64 0), .d (.int .i64 0), .d (.int .i64 0), .d (.int .i64 0), .d (.int .i64 0), .d (.int .i64 0), .d (.int .i64 0), .nl 1], some [0, 0, 0, 0, 0, 0, 0, 3]⟩),
  (40, ⟨.slice 69, 1, 24, [.nl 5], some [69]⟩),
  (41, ⟨.struct [(0, 40)], 1, 24, [.nl 5], some [69]⟩),
  (42, ⟨.struct [(0, 40)], 1, 24, [.nl 5], some [69]⟩),
  (51, ⟨.slice 5, 1, 24, [.nl 1], some [5]⟩),
  (63, ⟨.struct [(0, 3), (1, 3)], 2, 16, [.d (.int .i64 0), .d (.int .i64 0)], none⟩),
  (64, ⟨.struct [(0, 3), (1, 3)], 2, 16, [.d (.int .i64 0), .d (.int .i64 0)], none⟩),
  (68, ⟨.struct [(0, 3), (1, 3), (2, 3), (3, 3), (4, 3)], 5, 40, [.d (.int .i64 0), .d (.int .i64 0), .d (.int .i64 0), .d (.int .i64 0), .d (.int .i64 0)], none⟩),
  (69, ⟨.struct [(0, 3), (1, 3), (2, 3), (3, 3), (4, 3)], 5, 40, [.d (.int .i64 0), .d (.int .i64 0), .d (.int .i64 0), .d (.int .i64 0), .d (.int .i64 0)], none⟩),
  (73, ⟨.slice 9, 1, 24, [.nl 1], some [9]⟩),
  (74, ⟨.struct [(0, 73), (1, 9), (2, 22), (3, 25)], 4, 88, [.nl 1, .d (.str ⟨#[]⟩), .nl 1, .nl 1], none⟩),
  (75, ⟨.struct [(0, 73), (1, 9), (2, 22), (3, 25)], 4, 88, [.nl 1, .d (.str ⟨#[]⟩), .nl 1, .nl 1], none⟩),
  (77, ⟨.slice 108, 1, 24, [.nl 3], some [108]⟩),
  (80, ⟨.struct [(0, 73), (1, 9), (2, 22), (3, 25)], 4, 88, [.nl 1, .d (.str ⟨#[]⟩), .nl 1, .nl 1], none⟩),
  (88, ⟨.slice 42, 1, 24, [.nl 1], none⟩),
  (89, ⟨.struct [(0, 73), (1, 25), (2, 3), (3, 88)], 4, 80, [.nl 1, .nl 1, .d (.int .i64 0), .nl 1], none⟩),
  (90, ⟨.struct [(0, 73), (1, 25), (2, 3), (3, 88)], 4, 80, [.nl 1, .nl 1, .d (.int .i64 0), .nl 1], none⟩),
  (101, ⟨.struct [(0, 25), (1, 88)], 2, 48, [.nl 1, .nl 1], none⟩),
  (102, ⟨.struct [(0, 25), (1, 88)], 2, 48, [.nl 1, .nl 1], none⟩),
  (106, ⟨.int .u64, 1, 8, [.d (.int .u64 0)], none⟩),
  (107, ⟨.struct [(0, 4), (1, 106), (2, 106)], 3, 24, [.d (.bool false), .d (.int .u64 0), .d (.int .u64 0)], none⟩),
  (108, ⟨.struct [(0, 4), (1, 106), (2, 106)], 3, 24, [.d (.bool false), .d (.int .u64 0), .d (.int .u64 0)], none⟩),
  (128, ⟨.struct [(0, 3), (1, 3)], 2, 16, [.d (.int .i64 0), .d (.int .i64 0)], none⟩),
  (129, ⟨.struct [(0, 3), (1, 3)], 2, 16, [.d (.int .i64 0), .d (.int .i64 0)], none⟩),
  (130, ⟨.struct [(0, 3), (1, 3), (2, 129), (4, 129)], 6, 48, [.d (.int .i64 0), .d (.int .i64 0), .d (.int .i64 0), .d (.int .i64 0), .d (.int .i64 0), .d (.int .i64 0)], none⟩),
  (131, ⟨.struct [(0, 3), (1, 3), (2, 129), (4, 129)], 6, 48, [.d (.int .i64 0), .d (.int .i64 0), .d (.int .i64 0), .d (.int .i64 0), .d (.int .i64 0), .d (.int .i64 0)], none⟩),
  (149, ⟨.struct [(0, 25), (1, 64), (3, 3)], 4, 48, [.nl 1, .d (.int .i64 0), .d (.int .i64 0), .d (.int .i64 0)], some [3, 0, 0, 0]⟩),
  (150, ⟨.struct [(0, 25), (1, 64), (3, 3)], 4, 48, [.nl 1, .d (.int .i64 0), .d (.int .i64 0), .d (.int .i64 0)], some [3, 0, 0, 0]⟩),
  (151, ⟨.slice 150, 1, 24, [.nl 4], none⟩),
  (158, ⟨.struct [(0, 25), (1, 64), (3, 3)], 4, 48, [.nl 1, .d (.int .i64 0), .d (.int .i64 0), .d (.int .i64 0)], some [3, 0, 0, 0]⟩),
  (159, ⟨.struct [(0, 25), (1, 64), (3, 3)], 4, 48, [.nl 1, .d (.int .i64 0), .d (.int .i64 0), .d (.int .i64 0)], some [3, 0, 0, 0]⟩),
  (160, ⟨.slice 159, 1, 24, [.nl 4], none⟩),
  (171, ⟨.slice 102, 1, 24, [.nl 2], none⟩),
  (201, ⟨.slice 240, 1, 24, [.nl 1], none⟩),
  (205, ⟨.slice 131, 1, 24, [.nl 6], some [131]⟩),
  (209, ⟨.struct [(0, 3), (1, 3), (2, 3), (3, 3), (4, 3)], 5, 40, [.d (.int .i64 0), .d (.int .i64 0), .d (.int .i64 0), .d (.int .i64 0), .d (.int .i64 0)], none⟩),
  (229, ⟨.arr 2 80, 8, 176, [.nl 1, .d (.str ⟨#[]⟩), .nl 1, .nl 1, .nl 1, .d (.str ⟨#[]⟩), .nl 1, .nl 1], none⟩),
  (240, ⟨.slice 129, 1, 24, [.nl 2], some [129]⟩),
  (248, ⟨.struct [(0, 51), (1, 3), (2, 3)], 3, 40, [.nl 1, .d (.int .i64 0), .d (.int .i64 0)], some [5, 0, 0]⟩),
  (249, ⟨.struct [(0, 51), (1, 3), (2, 3)], 3, 40, [.nl 1, .d (.int .i64 0), .d (.int .i64 0)], some [5, 0, 0]⟩),
  (251, ⟨.int .u64, 1, 8, [.d (.int .u64 0)], none⟩),
  (266, ⟨.struct [(0, 108), (3, 3)], 4, 32, [.d (.bool false), .d (.int .u64 0), .d (.int .u64 0), .d (.int .i64 0)], none⟩),
  (267, ⟨.struct [(0, 108), (3, 3)], 4, 32, [.d (.bool false), .d (.int .u64 0), .d (.int .u64 0), .d (.int .i64 0)], none⟩),
  (277, ⟨.int .i64, 1, 8, [.d (.int .i64 0)], none⟩),
  (284, ⟨.int .u32, 1, 4, [.d (.int .u32 0)], none⟩),
  (292, ⟨.int .u64, 1, 8, [.d (.int .u64 0)], none⟩)]
def TN (t : TypeId) : Option TI := look ntab t
theorem hTn0 : TOk Tryz.prog TN := z5Q (by kernel_rfl)
theorem hTn : TOk PR TN := by unfold PR; exact hTn0
def ptab : List (Nat × TI) :=
[(2, ⟨.int .i64, 1, 8, [.d (.int .i64 0)], none⟩),
  (3, ⟨.int .i64, 1, 8, [.d (.int .i64 0)], none⟩),
  (4, ⟨.bool, 1, 1, [.d (.bool false)], none⟩),
  (5, ⟨.int .u8, 1, 1, [.d (.int .u8 0)], none⟩),
  (9, ⟨.str, 1, 16, [.d (.str ⟨#[]⟩)], none⟩),
  (21, ⟨.int .i32, 1, 4, [.d (.int .i32 0)], none⟩),
  (22, ⟨.slice 25, 1, 24, [.nl 1], none⟩),
  (23, ⟨.struct [(0, 22), (1, 22)], 2, 48, [.nl 1, .nl 1], none⟩),
  (24, ⟨.struct [(0, 22), (1, 22)], 2, 48, [.nl 1, .nl 1], none⟩),
  (25, ⟨.slice 3, 1, 24, [.nl 1], none⟩),
  (26, ⟨.struct [(0, 3), (1, 3), (2, 3), (3, 3), (4, 3), (5, 3), (6, 3), (7, 25)], 8, 80, [.d (.int .i64 0), .d (.int .i64 0), .d (.int .i64 0), .d (.int .i64 0), .d (.int .i64 0), .d (.int .i64 0), .d (.int .i64 0), .nl 1], none⟩),
  (27, ⟨.struct [(0, 3), (1, 3), (2, 3), (3, 3), (4, 3), (5, 3), (6, 3), (7, 25)], 8, 80, [.d (.int .i64 0), .d (.int .i64 0), .d (.int .i64 0), .d (.int .i64 0), .d (.int .i64 0), .d (.int .i64 0), .d (.int .i64 0), .nl 1], none⟩),
  (28, ⟨.slice 209, 1, 24, [.nl 5], none⟩),
  (29, ⟨.struct [(0, 28)], 1, 24, [.nl 5], none⟩),
  (30, ⟨.struct [(0, 28)], 1, 24, [.nl 5], none⟩),
  (35, ⟨.struct [(0, 22), (1, 22)], 2, 48, [.nl 1, .nl 1], none⟩),
  (38, ⟨.struct [(0, 3), (1, 3), (2, 3), (3, 3), (4, 3), (5, 3), (6, 3), (7, 25)], 8, 80, [.d (.int .i64 0), .d (.int .i64 0), .d (.int .i64 0), .d (.int .i64 0), .d (.int .i64 0), .d (.int .i64 0), .d (.int .i64 0), .nl 1], none⟩),
  (40, ⟨.slice 69, 1, 24, [.nl 5], none⟩),
  (41, ⟨.struct [(0, 40)], 1, 24, [.nl 5], none⟩),
  (42, ⟨.struct [(0, 40)], 1, 24, [.nl 5], none⟩),
  (51, ⟨.slice 5, 1, 24, [.nl 1], none⟩),
  (63, ⟨.struct [(0, 3), (1, 3)], 2, 16, [.d (.int .i64 0), .d (.int .i64 0)], none⟩),
  (64, ⟨.struct [(0, 3), (1, 3)], 2, 16, [.d (.int .i64 0), .d (.int .i64 0)], none⟩),
  (68, ⟨.struct [(0, 3), (1, 3), (2, 3), (3, 3), (4, 3)], 5, 40, [.d (.int .i64 0), .d (.int .i64 0), .d (.int .i64 0), .d (.int .i64 0), .d (.int .i64 0)], none⟩),
  (69, ⟨.struct [(0, 3), (1, 3), (2, 3), (3, 3), (4, 3)], 5, 40, [.d (.int .i64 0), .d (.int .i64 0), .d (.int .i64 0), .d (.int .i64 0), .d (.int .i64 0)], none⟩),
  (73, ⟨.slice 9, 1, 24, [.nl 1], none⟩),
  (74, ⟨.struct [(0, 73), (1, 9), (2, 22), (3, 25)], 4, 88, [.nl 1, .d (.str ⟨#[]⟩), .nl 1, .nl 1], none⟩),
  (75, ⟨.struct [(0, 73), (1, 9), (2, 22), (3, 25)], 4, 88, [.nl 1, .d (.str ⟨#[]⟩), .nl 1, .nl 1], none⟩),
  (77, ⟨.slice 108, 1, 24, [.nl 3], none⟩),
  (80, ⟨.struct [(0, 73), (1, 9), (2, 22), (3, 25)], 4, 88, [.nl 1, .d (.str ⟨#[]⟩), .nl 1, .nl 1], none⟩),
  (88, ⟨.slice 42, 1, 24, [.nl 1], none⟩),
  (89, ⟨.struct [(0, 73), (1, 25), (2, 3), (3, 88)], 4, 80, [.nl 1, .nl 1, .d (.int .i64 0), .nl 1], none⟩),
  (90, ⟨.struct [(0, 73), (1, 25), (2, 3), (3, 88)], 4, 80, [.nl 1, .nl 1, .d (.int .i64 0), .nl 1], none⟩),
  (101, ⟨.struct [(0, 25), (1, 88)], 2, 48, [.nl 1, .nl 1], none⟩),
  (102, ⟨.struct [(0, 25), (1, 88)], 2, 48, [.nl 1, .nl 1], none⟩),
  (106, ⟨.int .u64, 1, 8, [.d (.int .u64 0)], none⟩),
  (107, ⟨.struct [(0, 4), (1, 106), (2, 106)], 3, 24, [.d (.bool false), .d (.int .u64 0), .d (.int .u64 0)], none⟩),
  (108, ⟨.struct [(0, 4), (1, 106), (2, 106)], 3, 24, [.d (.bool false), .d (.int .u64 0), .d (.int .u64 0)], none⟩),
  (128, ⟨.struct [(0, 3), (1, 3)], 2, 16, [.d (.int .i64 0), .d (.int .i64 0)], none⟩),
  (129, ⟨.struct [(0, 3), (1, 3)], 2, 16, [.d (.int .i64 0), .d (.int .i64 0)], none⟩),
  (130, ⟨.struct [(0, 3), (1, 3), (2, 129), (4, 129)], 6, 48, [.d (.int .i64 0), .d (.int .i64 0), .d (.int .i64 0), .d (.int .i64 0), .d (.int .i64 0), .d (.int .i64 0)], none⟩),
  (131, ⟨.struct [(0, 3), (1, 3), (2, 129), (4, 129)], 6, 48, [.d (.int .i64 0), .d (.int .i64 0), .d (.int .i64 0), .d (.int .i64 0), .d (.int .i64 0), .d (.int .i64 0)], none⟩),
  (149, ⟨.struct [(0, 25), (1, 64), (3, 3)], 4, 48, [.nl 1, .d (.int .i64 0), .d (.int .i64 0), .d (.int .i64 0)], none⟩),
  (150, ⟨.struct [(0, 25), (1, 64), (3, 3)], 4, 48, [.nl 1, .d (.int .i64 0), .d (.int .i64 0), .d (.int .i64 0)], none⟩),
  (151, ⟨.slice 150, 1, 24, [.nl 4], none⟩),
  (158, ⟨.struct [(0, 25), (1, 64), (3, 3)], 4, 48, [.nl 1, .d (.int .i64 0), .d (.int .i64 0), .d (.int .i64 0)], none⟩),
  (159, ⟨.struct [(0, 25), (1, 64), (3, 3)], 4, 48, [.nl 1, .d (.int .i64 0), .d (.int .i64 0), .d (.int .i64 0)], none⟩),
  (160, ⟨.slice 159, 1, 24, [.nl 4], none⟩),
  (171, ⟨.slice 102, 1, 24, [.nl 2], none⟩),
  (201, ⟨.slice 240, 1, 24, [.nl 1], none⟩),
  (205, ⟨.slice 131, 1, 24, [.nl 6], none⟩),
  (209, ⟨.struct [(0, 3), (1, 3), (2, 3), (3, 3), (4, 3)], 5, 40, [.d (.int .i64 0), .d (.int .i64 0), .d (.int .i64 0), .d (.int .i64 0), .d (.int .i64 0)], none⟩),
  (240, ⟨.slice 129, 1, 24, [.nl 2], none⟩),
  (248, ⟨.struct [(0, 51), (1, 3), (2, 3)], 3, 40, [.nl 1, .d (.int .i64 0), .d (.int .i64 0)], none⟩),
  (249, ⟨.struct [(0, 51), (1, 3), (2, 3)], 3, 40, [.nl 1, .d (.int .i64 0), .d (.int .i64 0)], none⟩),
  (251, ⟨.int .u64, 1, 8, [.d (.int .u64 0)], none⟩),
  (266, ⟨.struct [(0, 108), (3, 3)], 4, 32, [.d (.bool false), .d (.int .u64 0), .d (.int .u64 0), .d (.int .i64 0)], none⟩),
  (267, ⟨.struct [(0, 108), (3, 3)], 4, 32, [.d (.bool false), .d (.int .u64 0), .d (.int .u64 0), .d (.int .i64 0)], none⟩),
  (277, ⟨.int .i64, 1, 8, [.d (.int .i64 0)], none⟩),
  (284, ⟨.int .u32, 1, 4, [.d (.int .u32 0)], none⟩),
  (292, ⟨.int .u64, 1, 8, [.d (.int .u64 0)], none⟩)]
def Tp (t : TypeId) : Option TI := look ptab t
theorem hTp : TOk Tryz.prog Tp := z5Q (by kernel_rfl)
theorem hmix : PR.follows .mixedOrders = true := by unfold PR; kernel_rfl
abbrev zW : TypeId := 3
abbrev yE : TypeId := 9
abbrev z0Z : TypeId := 25
abbrev yi : TypeId := 35
abbrev zh : TypeId := 38
abbrev zL : TypeId := 42
abbrev zK3 : TypeId := 51
abbrev zm : TypeId := 64
abbrev zn : TypeId := 69
abbrev zJ : TypeId := 80
abbrev ye : TypeId := 90
abbrev zk : TypeId := 102
abbrev z0d : TypeId := 108
abbrev yA : TypeId := 129
abbrev z32 : TypeId := 131
abbrev wQ : TypeId := 150
abbrev wP : TypeId := 159
abbrev zEf : TypeId := 240
abbrev zI : TypeId := 249
abbrev z81 : FuncId := 12
abbrev zHh : FuncId := 29
abbrev z4J : FuncId := 31
abbrev zAX : FuncId := 32
abbrev zDw : FuncId := 34
abbrev zAh : FuncId := 35
abbrev z6y : FuncId := 36
abbrev zDV : FuncId := 37
abbrev zBj : FuncId := 42
abbrev z7v : FuncId := 55
abbrev z82 : FuncId := 56
abbrev zBX : FuncId := 63
abbrev zAb : FuncId := 64
abbrev z1r : FuncId := 65
abbrev z3H : FuncId := 66
abbrev z9E : FuncId := 68
abbrev z2V : FuncId := 70
abbrev z59 : FuncId := 71
abbrev z2J : FuncId := 72
abbrev z57 : FuncId := 73
abbrev z4D : FuncId := 74
abbrev zHi : FuncId := 75
abbrev zAd : FuncId := 76
abbrev zE0 : FuncId := 77
abbrev zAV : FuncId := 78
abbrev zE9 : FuncId := 82
abbrev zEA : FuncId := 83
abbrev zDb : FuncId := 88
abbrev zBe : FuncId := 89
abbrev zDd : FuncId := 90
abbrev zDR : FuncId := 91
abbrev zAS : FuncId := 92
abbrev zAe : FuncId := 95
abbrev zBv : FuncId := 96
abbrev zE2 : FuncId := 97
abbrev zE4 : FuncId := 98
abbrev zDq : FuncId := 99
abbrev zDt : FuncId := 100
abbrev z5A : FuncId := 104
abbrev zDz : FuncId := 105
abbrev zG8 : FuncId := 106
abbrev z85 : FuncId := 107
abbrev zBq : FuncId := 108
abbrev zBp : FuncId := 109
abbrev z3e : FuncId := 110
abbrev zDW : FuncId := 111
abbrev z58 : FuncId := 112
abbrev zG6 : FuncId := 113
abbrev z3c : FuncId := 114
abbrev z7x : FuncId := 115
abbrev zBZ : FuncId := 116
abbrev zBY : FuncId := 117
abbrev zE6 : FuncId := 118
abbrev zAm : FuncId := 119
abbrev wB : FuncId := 120
abbrev z4I : FuncId := 121
abbrev zDp : FuncId := 122
abbrev zBl : FuncId := 123
abbrev zFN : FuncId := 124
abbrev zG5 : FuncId := 125
abbrev zAR : FuncId := 126
abbrev zBg : FuncId := 127
abbrev zBV : FuncId := 128
abbrev zFL : FuncId := 130
abbrev zBW : FuncId := 131
abbrev z3L : FuncId := 136
abbrev z4E : FuncId := 142
abbrev z9H : FuncId := 143
abbrev z8O : FuncId := 144
abbrev z9O : FuncId := 145
abbrev zBo : FuncId := 154
abbrev z3f : FuncId := 157
abbrev zDc : FuncId := 159
abbrev zFG : FuncId := 160
abbrev zBO : FuncId := 161
abbrev z9C : FuncId := 162
abbrev zBN : FuncId := 163
abbrev zDL : FuncId := 164
abbrev zDm : FuncId := 165
abbrev zDj : FuncId := 166
abbrev zDi : FuncId := 167
abbrev zFM : FuncId := 168
abbrev zDX : FuncId := 169
abbrev z5B : FuncId := 170
abbrev z1C : FuncId := 173
abbrev zAg : FuncId := 174
abbrev z1S : FuncId := 175
abbrev z86 : FuncId := 176
abbrev z9K : FuncId := 177
abbrev zEG : FuncId := 178
abbrev zAl : FuncId := 179
abbrev zDU : FuncId := 180
abbrev zBR : FuncId := 181
abbrev zDO : FuncId := 182
abbrev zAU : FuncId := 183
abbrev z7y : FuncId := 184
abbrev zAQ : FuncId := 185
abbrev zDo : FuncId := 186
abbrev zAZ : FuncId := 187
abbrev zBS : FuncId := 188
abbrev zDP : FuncId := 189
abbrev zAP : FuncId := 190
abbrev z23 : FuncId := 191
abbrev zFO : FuncId := 192
abbrev zDf : FuncId := 193
abbrev zDZ : FuncId := 194
abbrev zAa : FuncId := 199
abbrev zAf : FuncId := 200
abbrev z2U : FuncId := 201
abbrev z9G : FuncId := 203
abbrev z6v : FuncId := 204
abbrev zBh : FuncId := 205
abbrev zFK : FuncId := 206
abbrev zAY : FuncId := 207
abbrev zBi : FuncId := 208
abbrev zFP : FuncId := 210
abbrev z9N : FuncId := 211
abbrev zED : FuncId := 212
abbrev zBx : FuncId := 213
abbrev zBm : FuncId := 214
abbrev zBz : FuncId := 215
abbrev zAk : FuncId := 216
abbrev zBy : FuncId := 217
abbrev zFI : FuncId := 219
abbrev zBU : FuncId := 221
abbrev z3b : FuncId := 223
abbrev zBM : FuncId := 224
abbrev zDN : FuncId := 225
abbrev zBw : FuncId := 227
abbrev zBf : FuncId := 228
abbrev zE8 : FuncId := 229
abbrev z4K : FuncId := 230
abbrev z2u : FuncId := 231
abbrev zDs : FuncId := 232
abbrev wb : FuncId := 233
abbrev z6w : FuncId := 234
abbrev z9J : FuncId := 235
abbrev zDr : FuncId := 236
abbrev z2T : FuncId := 237
abbrev zFJ : FuncId := 238
abbrev z1s : FuncId := 240
abbrev zBc : FuncId := 242
abbrev zEE : FuncId := 243
abbrev z1B : FuncId := 244
abbrev z3K : FuncId := 245
abbrev zBt : FuncId := 246
abbrev zBb : FuncId := 250
abbrev z4H : FuncId := 251
abbrev z6x : FuncId := 252
abbrev z0Y : FuncId := 253
abbrev z3d : FuncId := 254
abbrev zDx : FuncId := 256
abbrev zBs : FuncId := 257
abbrev zAT : FuncId := 258
abbrev zDv : FuncId := 259
abbrev z5m : FuncId := 260
abbrev z1R : FuncId := 262
abbrev z80 : FuncId := 263
abbrev zG7 : FuncId := 264
abbrev z7z : FuncId := 265
abbrev z9I : FuncId := 266
abbrev z4G : FuncId := 267
abbrev zAi : FuncId := 268
abbrev zDy : FuncId := 269
abbrev zBr : FuncId := 270
abbrev zBL : FuncId := 271
abbrev z56 : FuncId := 272
abbrev zDY : FuncId := 273
abbrev zBa : FuncId := 274
abbrev z55 : FuncId := 275
abbrev zDK : FuncId := 276
abbrev z3I : FuncId := 277
abbrev zDh : FuncId := 278
abbrev z3l : FuncId := 280
abbrev zDe : FuncId := 281
abbrev zBd : FuncId := 282
abbrev zDl : FuncId := 283
abbrev zDa : FuncId := 284
abbrev zE5 : FuncId := 285
abbrev zBu : FuncId := 286
abbrev zEC : FuncId := 287
abbrev zE1 : FuncId := 288
abbrev z84 : FuncId := 289
abbrev zDQ : FuncId := 290
abbrev zBT : FuncId := 291
abbrev zBP : FuncId := 292
abbrev wd : FuncId := 293
abbrev z4F : FuncId := 294
abbrev z1E : FuncId := 296
abbrev wN : FuncId := 297
abbrev z1D : FuncId := 298
abbrev z9D : FuncId := 299
abbrev zFH : FuncId := 300
abbrev zE3 : FuncId := 301
abbrev z0X : FuncId := 302
abbrev z1L : FuncId := 303
abbrev z1A : FuncId := 304
abbrev z8P : FuncId := 305
abbrev z4w : FuncId := 306
abbrev wU : FuncId := 307
abbrev z2K : FuncId := 308
abbrev z3J : FuncId := 309
abbrev z08 : FuncId := 310
abbrev zDM : FuncId := 311
abbrev zDS : FuncId := 312
abbrev z6s : FuncId := 313
abbrev zDT : FuncId := 318
abbrev zDn : FuncId := 319
abbrev zAW : FuncId := 320
abbrev zDg : FuncId := 321
abbrev z6u : FuncId := 322
abbrev zAc : FuncId := 323
abbrev z9L : FuncId := 324
abbrev zEF : FuncId := 325
abbrev zAj : FuncId := 326
abbrev zE7 : FuncId := 327
abbrev z70 : FuncId := 328
abbrev zAn : FuncId := 329
abbrev wc : FuncId := 332
abbrev z19 : FuncId := 333
abbrev z71 : FuncId := 334
abbrev zDk : FuncId := 346
abbrev z9F : FuncId := 347
abbrev zBk : FuncId := 348
abbrev zBQ : FuncId := 349
abbrev zEB : FuncId := 350
abbrev z9M : FuncId := 351
abbrev zC0 : FuncId := 352
abbrev zBn : FuncId := 353
abbrev z2L : FuncId := 354
abbrev z87 : FuncId := 355
abbrev zAo : FuncId := 362
abbrev z7w : FuncId := 363
abbrev z6t : FuncId := 364
abbrev z18 : FuncId := 365
abbrev z83 : FuncId := 366
abbrev zDu : FuncId := 367
abbrev z6z : FuncId := 368
theorem pf {n : Nat} {f : Func} (h : Tryz.prog.funcs[n]? = some f) : PR.funcs[n]? = some f := by unfold PR; exact h
theorem eS : (∀ (a : List (Nat × AV)) (b : List (Nat × Ent)) (c d : Nat) (a' : List (Nat × AV)) (b' : List (Nat × Ent)) (c' d' : Nat), (St.mk a b c d = St.mk a' b' c' d') = (a = a' ∧ b = b' ∧ c = c' ∧ d = d')) ∧
    (∀ (α : Type) (a : α) (l : List α) (a' : α) (l' : List α), (a :: l = a' :: l') = (a = a' ∧ l = l')) ∧ (∀ (α β : Type) (a : α) (b : β) (a' : α) (b' : β), (Prod.mk a b = Prod.mk a' b') = (a = a' ∧ b = b')) ∧
    (∀ a a' : CV, (AV.c a = AV.c a') = (a = a')) ∧ (∀ a a' : List CV, (AV.agg a = AV.agg a') = (a = a')) ∧ (∀ a a' : List (Bool × List CV), (AV.tup a = AV.tup a') = (a = a')) ∧ (∀ a a' : D, (CV.d a = CV.d a') = (a = a')) ∧
    (∀ (a : IntKind) (b : Int) (a' : IntKind) (b' : Int), (D.int a b = D.int a' b') = (a = a' ∧ b = b')) ∧ (∀ a a' : Bool, (D.bool a = D.bool a') = (a = a')) ∧ (∀ a a' : ByteArray, (D.str a = D.str a') = (a = a')) ∧ (∀ (a : Nat) (b : List (List D)) (a' : Nat) (b' : List (List D)), (D.sl a b = D.sl a' b') = (a = a' ∧ b = b')) ∧
    (∀ (a b c : Nat) (d : Ow) (e : List (List D)) (a' b' c' : Nat) (d' : Ow) (e' : List (List D)), (Ent.arr a b c d e = Ent.arr a' b' c' d' e') = (a = a' ∧ b = b' ∧ c = c' ∧ d = d' ∧ e = e')) ∧ (∀ (a : Nat) (b : List CV) (a' : Nat) (b' : List CV), (Ent.box a b = Ent.box a' b') = (a = a' ∧ b = b')) ∧
    (∀ p : Prop, (True ∧ p) = p) ∧ (∀ p : Prop, (p ∧ True) = p) ∧ (∀ p : Prop, (p ∧ p) = p) ∧ (∀ n : Nat, nInt n = (n : Int)) ∧ (((0 : Nat) : Int) = 0) ∧ (∀ (α : Type) (f : α → List D) (l : List α), dLen (eL f l) = l.length) ∧ (∀ s : ByteArray, sLen s = (s.size : Int)) :=
  ⟨St.mk.injEq, fun _ => List.cons.injEq, fun _ _ => Prod.mk.injEq, AV.c.injEq, AV.agg.injEq, AV.tup.injEq, CV.d.injEq, D.int.injEq, D.bool.injEq, D.str.injEq, D.sl.injEq, Ent.arr.injEq, Ent.box.injEq, true_and, and_true, and_self, zD3, Int.natCast_zero, fun _ => z5q, zFr⟩
theorem eH : (∀ n : Nat, nInt n = (n : Int)) ∧ (((0 : Nat) : Int) = 0) ∧ (∀ (α : Type) (f : α → List D) (l : List α), dLen (eL f l) = l.length) ∧ (∀ s : ByteArray, sLen s = (s.size : Int)) ∧ (∀ x : Int, nOf x = x.toNat) ∧ (∀ n : Nat, ((n : Int)).toNat = n) ∧ (∀ x y : Nat, nAdd x y = x + y) ∧ (∀ x y : Nat, nSub x y = x - y) ∧ (dLen [] = 0) ∧ (∀ (c : List D) (es : List (List D)), dLen (c :: es) = dLen es + 1) ∧
    (∀ x y : Int, (iLt x y = true) = (x < y)) ∧ (∀ x y : Int, (iLt x y = false) = (y ≤ x)) ∧ (∀ x y : Int, (iLe x y = true) = (x ≤ y)) ∧ (∀ x y : Int, (iLe x y = false) = (y < x)) ∧ (∀ x y : Int, (iEq x y = true) = (x = y)) ∧ (∀ x y : Int, (iEq x y = false) = (x ≠ y)) ∧ (∀ x y : ByteArray, (sEq x y = true) = (x = y)) ∧ (∀ x y : ByteArray, (sEq x y = false) = (x ≠ y)) ∧
    (∀ x : Bool, (bNot x = true) = (x = false)) ∧ (∀ x : Bool, (bNot x = false) = (x = true)) ∧ (∀ x y : Bool, (bAnd x y = true) = (x = true ∧ y = true)) ∧ (∀ x y : Bool, (bEq x y = true) = (x = y)) ∧ (∀ x y : Bool, (bEq x y = false) = (x ≠ y)) ∧ (∀ b : Bool, (¬ b = true) = (b = false)) ∧ (∀ b : Bool, (¬ b = false) = (b = true)) ∧ ((true = false) = False) ∧ ((false = true) = False) :=
  ⟨zD3, Int.natCast_zero, fun _ => z5q, zFr, z2E, Int.toNat_natCast, wr, z7b, zKV, zJE, iLt_t, iLt_f, iLe_t, iLe_f, iEq_t, iEq_f, sEq_t, sEq_f, zJi, zJj, bAnd_t, bEq_t, bEq_f, Bool.not_eq_true, Bool.not_eq_false, Bool.true_eq_false, Bool.false_eq_true⟩
end Go.H.S
