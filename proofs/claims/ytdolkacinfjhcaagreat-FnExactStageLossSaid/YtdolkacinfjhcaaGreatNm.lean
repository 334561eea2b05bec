/- The numbers of functions and types in this seat, and the table of types. -/
import Derived.Test.YtdolkacinfjhcaaGreatProg
import Derived.Test.YtdolkacinfjhcaaGreatH28
namespace Go.H.S
open Go Go.Proofs Go.H
@[irreducible] noncomputable def PR : Program := Tryz.prog
def tab : List (Nat × TI) :=
[(2, ⟨.int .i64, 1, 8, [.d (.int .i64 0)], none⟩),
  (3, ⟨.int .i64, 1, 8, [.d (.int .i64 0)], none⟩),
  (4, ⟨.bool, 1, 1, [.d (.bool false)], none⟩),
  (5, ⟨.int .u8, 1, 1, [.d (.int .u8 0)], none⟩),
  (9, ⟨.str, 1, 16, [.d (.str ⟨#[]⟩)], none⟩),
  (21, ⟨.int .i32, 1, 4, [.d (.int .i32 0)], none⟩),
  (22, ⟨.slice 25, 1, 24, [.nl 1], none⟩),
  (23, ⟨.struct [(0, 22), (1, 22)], 2, 48, [.nl 1, .nl 1], none⟩),
  (24, ⟨.struct [(0, 22), (1, 22)], 2, 48, [.nl 1, .nl 1], none⟩),
  (25, ⟨.slice 3, 1, 24, [.nl 1], none⟩),
  (26, ⟨.struct [(0, 3), (1, 3), (2, 3), (3, 3), (4, 3), (5, 3), (6, 3), (7, 25)], 8, 80, [.d (.int .i64 0), .d (.int .i64 0), .d (.int .i64 0), .d (.int .i64 0), .d (.int .i64 0), .d (.int .i64 0), .d (.int .i64 0), .nl 1], none⟩),
  (27, ⟨.struct [(0, 3), (1, 3), (2, 3), (3, 3), (4, 3), (5, 3), (6, 3), (7, 25)], 8, 80, [.d (.int .i64 0), .d (.int .i64 0), .d (.int .i64 0), .d (.int .i64 0), .d (.int .i64 0), .d (.int .i64 0), .d (.int .i64 0), .nl 1], none⟩),
  (28, ⟨.slice 209, 1, 24, [.nl 5], none⟩),
  (29, ⟨.struct [(0, 28)], 1, 24, [.nl 5], none⟩),
  (30, ⟨.struct [(0, 28)], 1, 24, [.nl 5], none⟩),
  (35, ⟨.struct [(0, 22), (1, 22)], 2, 48, [.nl 1, .nl 1], none⟩),
  (38, ⟨.struct [(0, 3), (1, 3), (2, 3), (3, 3), (4, 3), (5, 3), (6, 3), (7, 25)], 8, 80, [.d (.int .i64 0), .d (.int .i64 0), .d (.int .i64 0), .d (.int .i64 0), .d (.int .i64 0), .d (.int .i64 0), .d (.int .i64 0), .nl 1], none⟩),
  (40, ⟨.slice 69, 1, 24, [.nl 5], none⟩),
  (41, ⟨.struct [(0, 40)], 1, 24, [.nl 5], none⟩),
  (42, ⟨.struct [(0, 40)], 1, 24, [.nl 5], none⟩),
  (51, ⟨.slice 5, 1, 24, [.nl 1], none⟩),
  (63, ⟨.struct [(0, 3), (1, 3)], 2, 16, [.d (.int .i64 0), .d (.int .i64 0)], none⟩),
  (64, ⟨.struct [(0, 3), (1, 3)], 2, 16, [.d (.int .i64 0), .d (.int .i64 0)], none⟩),
  (68, ⟨.struct [(0, 3), (1, 3), (2, 3), (3, 3), (4, 3)], 5, 40, [.d (.int .i64 0), .d (.int .i64 0), .d (.int .i64 0), .d (.int .i64 0), .d (.int .i64 0)], none⟩),
  (69, ⟨.struct [(0, 3), (1, 3), (2, 3), (3, 3), (4, 3)], 5, 40, [.d (.int .i64 0), .d (.int .i64 0), .d (.int .i64 0), .d (.int .i64 0), .d (.int .i64 0)], none⟩),
  (73, ⟨.slice 9, 1, 24, [.nl 1], none⟩),
  (74, ⟨.struct [(0, 73), (1, 9), (2, 22), (3, 25)], 4, 88, [.nl 1, .d (.str ⟨#[]⟩), .nl 1, .nl 1], none⟩),
  (75, ⟨.struct [(0, 73), (1, 9), (2, 22), (3, 25)], 4, 88, [.nl 1, .d (.str ⟨#[]⟩), .nl 1, .nl 1], none⟩),
  (77, ⟨.slice 108, 1, 24, [.nl 3], none⟩),
  (80, ⟨.struct [(0, 73), (1, 9), (2, 22), (3, 25)], 4, 88, [.nl 1, .d (.str ⟨#[]⟩), .nl 1, .nl 1], none⟩),
  (88, ⟨.slice 42, 1, 24, [.nl 1], none⟩),
  (89, ⟨.struct [(0, 73), (1, 25), (2, 3), (3, 88)], 4, 80, [.nl 1, .nl 1, .d (.int .i64 0), .nl 1], none⟩),
  (90, ⟨.struct [(0, 73), (1, 25), (2, 3), (3, 88)], 4, 80, [.nl 1, .nl 1, .d (.int .i64 0), .nl 1], none⟩),
  (101, ⟨.struct [(0, 25), (1, 88)], 2, 48, [.nl 1, .nl 1], none⟩),
  (102, ⟨.struct [(0, 25), (1, 88)], 2, 48, [.nl 1, .nl 1], none⟩),
  (106, ⟨.int .u64, 1, 8, [.d (.int .u64 0)], none⟩),
  (107, ⟨.struct [(0, 4), (1, 106), (2, 106)], 3, 24, [.d (.bool false), .d (.int .u64 0), .d (.int .u64 0)], none⟩),
  (108, ⟨.struct [(0, 4), (1, 106), (2, 106)], 3, 24, [.d (.bool false), .d (.int .u64 0), .d (.int .u64 0)], none⟩),
  (128, ⟨.struct [(0, 3), (1, 3)], 2, 16, [.d (.int .i64 0), .d (.int .i64 0)], none⟩),
  (129, ⟨.struct [(0, 3), (1, 3)], 2, 16, [.d (.int .i64 0), .d (.int .i64 0)], none⟩),
  (130, ⟨.struct [(0, 3), (1, 3), (2, 129), (4, 129)], 6, 48, [.d (.int .i64 0), .d (.int .i64 0), .d (.int .i64 0), .d (.int .i64 0), .d (.int .i64 0), .d (.int .i64 0)], none⟩),
  (131, ⟨.struct [(0, 3), (1, 3), (2, 129), (4, 129)], 6, 48, [.d (.int .i64 0), .d (.int .i64 0), .d (.int .i64 0), .d (.int .i64 0), .d (.int .i64 0), .d (.int .i64 0)], none⟩),
  (149, ⟨.struct [(0, 25), (1, 64), (3, 3)], 4, 48, [.nl 1, .d (.int .i64 0), .d (.int .i64 0), .d (.int .i64 0)], none⟩),
  (150, ⟨.struct [(0, 25), (1, 64), (3, 3)], 4, 48, [.nl 1, .d (.int .i64 0), .d (.int .i64 0), .d (.int .i64 0)], none⟩),
  (151, ⟨.slice 150, 1, 24, [.nl 4], none⟩),
  (158, ⟨.struct [(0, 25), (1, 64), (3, 3)], 4, 48, [.nl 1, .d (.int .i64 0), .d (.int .i64 0), .d (.int .i64 0)], none⟩),
  (159, ⟨.struct [(0, 25), (1, 64), (3, 3)], 4, 48, [.nl 1, .d (.int .i64 0), .d (.int .i64 0), .d (.int .i64 0)], none⟩),
  (160, ⟨.slice 159, 1, 24, [.nl 4], none⟩),
  (171, ⟨.slice 102, 1, 24, [.nl 2], none⟩),
  (201, ⟨.slice 240, 1, 24, [.nl 1], none⟩),
  (205, ⟨.slice 131, 1, 24, [.nl 6], none⟩),
  (209, ⟨.struct [(0, 3), (1, 3), (2, 3), (3, 3), (4, 3)], 5, 40, [.d (.int .i64 0), .d (.int .i64 0), .d (.int .i64 0), .d (.int .i64 0), .d (.int .i64 0)], none⟩),
  (229, ⟨.arr 2 80, 8, 176, [.nl 1, .d (.str ⟨#[]⟩), .nl 1, .nl 1, .nl 1, .d (.str ⟨#[]⟩), .nl 1, .nl 1], none⟩),
  (240, ⟨.slice 129, 1, 24, [.nl 2], none⟩),
  (248, ⟨.struct [(0, 51), (1, 3), (2, 3)], 3, 40, [.nl 1, .d (.int .i64 0), .d (.int .i64 0)], none⟩),
  (249, ⟨.struct [(0, 51), (1, 3), (2, 3)], 3, 40, [.nl 1, .d (.int .i64 0), .d (.int .i64 0)], none⟩),
  (251, ⟨.int .u64, 1, 8, [.d (.int .u64 0)], none⟩),
  (266, ⟨.struct [(0, 108), (3, 3)], 4, 32, [.d (.bool false), .d (.int .u64 0), .d (.int .u64 0), .d (.int .i64 0)], none⟩),
  (267, ⟨.struct [(0, 108), (3, 3)], 4, 32, [.d (.bool false), .d (.int .u64 0), .d (.int .u64 0), .d (.int .i64 0)], none⟩),
  (277, ⟨.int .i64, 1, 8, [.d (.int .i64 0)], none⟩),
  (284, ⟨.int .u32, 1, 4, [.d (.int .u32 0)], none⟩),
  (292, ⟨.int .u64, 1, 8, [.d (.int .u64 0)], none⟩)]
def T (t : TypeId) : Option TI := look tab t
theorem hT0 : TOk Tryz.prog T := z5A (by kernel_rfl)
theorem hT : TOk PR T := by unfold PR; exact hT0
def ntab : List (Nat × TI) :=
[(2, ⟨.int .i64, 1, 8, [.d (.int .i64 0)], none⟩),
  (3, ⟨.int .i64, 1, 8, [.d (.int .i64 0)], none⟩),
  (4, ⟨.bool, 1, 1, [.d (.bool false)], none⟩),
  (5, ⟨.int .u8, 1, 1, [.d (.int .u8 0)], none⟩),
  (9, ⟨.str, 1, 16, [.d (.str ⟨#[]⟩)], none⟩),
  (21, ⟨.int .i32, 1, 4, [.d (.int .i32 0)], none⟩),
  (22, ⟨.slice 25, 1, 24, [.nl 1], none⟩),
  (23, ⟨.struct [(0, 22), (1, 22)], 2, 48, [.nl 1, .nl 1], none⟩),
  (24, ⟨.struct [(0, 22), (1, 22)], 2, 48, [.nl 1, .nl 1], none⟩),
  (25, ⟨.slice 3, 1, 24, [.nl 1], some [3]⟩),
  (26, ⟨.struct [(0, 3), (1, 3), (2, 3), (3, 3), (4, 3), (5, 3), (6, 3), (7, 25)], 8, 80, [.d (.int .i64 0), .d (.int .i64 0), .d (.int .i64 0), .d (.int .i64 0), .d (.int .i64 0), .d (.int .i64 0), .d (.int .i64 0), .nl 1], some [0, 0, 0, 0, 0, 0, 0, 3]⟩),
  (27, ⟨.struct [(0, 3), (1, 3), (2, 3), (3, 3), (4, 3), (5, 3), (6, 3), (7, 25)], 8, 80, [.d (.int .i64 0), .d (.int .i64 0), .d (.int .i64 0), .d (.int .i64 0), .d (.int .i64 0), .d (.int .i64 0), .d (.int .i64 0), .nl 1], some [0, 0, 0, 0, 0, 0, 0, 3]⟩),
  (28, ⟨.slice 209, 1, 24, [.nl 5], some [209]⟩),
  (29, ⟨.struct [(0, 28)], 1, 24, [.nl 5], some [209]⟩),
  (30, ⟨.struct [(0, 28)], 1, 24, [.nl 5], some [209]⟩),
  (35, ⟨.struct [(0, 22), (1, 22)], 2, 48, [.nl 1, .nl 1], none⟩),
  (38, ⟨.struct [(0, 3), (1, 3), (2, 3), (3, 3), (4, 3), (5, 3), (6, 3), (7, 25)], 8, 80, [.d (.int .i64 0), .d (.int .i64 0), .d (.int .i64 0), .d (.int .i64 0), .d (.int .i64 0), .d (.int .i64 0), .d (.int .i64 0), .nl 1], some [0, 0, 0, 0, 0, 0, 0, 3]⟩),
  (40, ⟨.slice 69, 1, 24, [.nl 5], some [69]⟩),
  (41, ⟨.struct [(0, 40)], 1, 24, [.nl 5], some [69]⟩),
  (42, ⟨.struct [(0, 40)], 1, 24, [.nl 5], some [69]⟩),
  (51, ⟨.slice 5, 1, 24, [.nl 1], some [5]⟩),
  (63, ⟨.struct [(0, 3), (1, 3)], 2, 16, [.d (.int .i64 0), .d (.int .i64 0)], none⟩),
  (64, ⟨.struct [(0, 3), (1, 3)], 2, 16, [.d (.int .i64 0), .d (.int .i64 0)], none⟩),
  (68, ⟨.struct [(0, 3), (1, 3), (2, 3), (3, 3), (4, 3)], 5, 40, [.d (.int .i64 0), .d (.int .i64 0), .d (.int .i64 0), .d (.int .i64 0), .d (.int .i64 0)], none⟩),
  (69, ⟨.struct [(0, 3), (1, 3), (2, 3), (3, 3), (4, 3)], 5, 40, [.d (.int .i64 0), .d (.int .i64 0), .d (.int .i64 0), .d (.int .i64 0), .d (.int .i64 0)], none⟩),
  (73, ⟨.slice 9, 1, 24, [.nl 1], some [9]⟩),
  (74, ⟨.struct [(0, 73), (1, 9), (2, 22), (3, 25)], 4, 88, [.nl 1, .d (.str ⟨#[]⟩), .nl 1, .nl 1], none⟩),
  (75, ⟨.struct [(0, 73), (1, 9), (2, 22), (3, 25)], 4, 88, [.nl 1, .d (.str ⟨#[]⟩), .nl 1, .nl 1], none⟩),
  (77, ⟨.slice 108, 1, 24, [.nl 3], some [108]⟩),
  (80, ⟨.struct [(0, 73), (1, 9), (2, 22), (3, 25)], 4, 88, [.nl 1, .d (.str ⟨#[]⟩), .nl 1, .nl 1], none⟩),
  (88, ⟨.slice 42, 1, 24, [.nl 1], none⟩),
  (89, ⟨.struct [(0, 73), (1, 25), (2, 3), (3, 88)], 4, 80, [.nl 1, .nl 1, .d (.int .i64 0), .nl 1], none⟩),
  (90, ⟨.struct [(0, 73), (1, 25), (2, 3), (3, 88)], 4, 80, [.nl 1, .nl 1, .d (.int .i64 0), .nl 1], none⟩),
  (101, ⟨.struct [(0, 25), (1, 88)], 2, 48, [.nl 1, .nl 1], none⟩),
  (102, ⟨.struct [(0, 25), (1, 88)], 2, 48, [.nl 1, .nl 1], none⟩),
  (106, ⟨.int .u64, 1, 8, [.d (.int .u64 0)], none⟩),
  (107, ⟨.struct [(0, 4), (1, 106), (2, 106)], 3, 24, [.d (.bool false), .d (.int .u64 0), .d (.int .u64 0)], none⟩),
  (108, ⟨.struct [(0, 4), (1, 106), (2, 106)], 3, 24, [.d (.bool false), .d (.int .u64 0), .d (.int .u64 0)], none⟩),
  (128, ⟨.struct [(0, 3), (1, 3)], 2, 16, [.d (.int .i64 0), .d (.int .i64 0)], none⟩),
  (129, ⟨.struct [(0, 3), (1, 3)], 2, 16, [.d (.int .i64 0), .d (.int .i64 0)], none⟩),
  (130, ⟨.struct [(0, 3), (1, 3), (2, 129), (4, 129)], 6, 48, [.d (.int .i64 0), .d (.int .i64 0), .d (.int .i64 0), .d (.int .i64 0), .d (.int .i64 0), .d (.int .i64 0)], none⟩),
  (131, ⟨.struct [(0, 3), (1, 3), (2, 129), (4, 129)], 6, 48, [.d (.int .i64 0), .d (.int .i64 0), .d (.int .i64 0), .d (.int .i64 0), .d (.int .i64 0), .d (.int .i64 0)], none⟩),
  (149, ⟨.struct [(0, 25), (1, 64), (3, 3)], 4, 48, [.nl 1, .d (.int .i64 0), .d (.int .i64 0), .d (.int .i64 0)], some [3, 0, 0, 0]⟩),
  (150, ⟨.struct [(0, 25), (1, 64), (3, 3)], 4, 48, [.nl 1, .d (.int .i64 0), .d (.int .i64 0), .d (.int .i64 0)], some [3, 0, 0, 0]⟩),
  (151, ⟨.slice 150, 1, 24, [.nl 4], none⟩),
  (158, ⟨.struct [(0, 25), (1, 64), (3, 3)], 4, 48, [.nl 1, .d (.int .i64 0), .d (.int .i64 0), .d (.int .i64 0)], some [3, 0, 0, 0]⟩),
  (159, ⟨.struct [(0, 25), (1, 64), (3, 3)], 4, 48, [.nl 1, .d (.int .i64 0), .d (.int .i64 0), .d (.int .i64 0)], some [3, 0, 0, 0]⟩),
  (160, ⟨.slice 159, 1, 24, [.nl 4], none⟩),
  (171, ⟨.slice 102, 1, 24, [.nl 2], none⟩),
  (201, ⟨.slice 240, 1, 24, [.nl 1], none⟩),
  (205, ⟨.slice 131, 1, 24, [.nl 6], some [131]⟩),
  (209, ⟨.struct [(0, 3), (1, 3), (2, 3), (3, 3), (4, 3)], 5, 40, [.d (.int .i64 0), .d (.int .i64 0), .d (.int .i64 0), .d (.int .i64 0), .d (.int .i64 0)], none⟩),
  (229, ⟨.arr 2 80, 8, 176, [.nl 1, .d (.str ⟨#[]⟩), .nl 1, .nl 1, .nl 1, .d (.str ⟨#[]⟩), .nl 1, .nl 1], none⟩),
  (240, ⟨.slice 129, 1, 24, [.nl 2], some [129]⟩),
  (248, ⟨.struct [(0, 51), (1, 3), (2, 3)], 3, 40, [.nl 1, .d (.int .i64 0), .d (.int .i64 0)], some [5, 0, 0]⟩),
  (249, ⟨.struct [(0, 51), (1, 3), (2, 3)], 3, 40, [.nl 1, .d (.int .i64 0), .d (.int .i64 0)], some [5, 0, 0]⟩),
  (251, ⟨.int .u64, 1, 8, [.d (.int .u64 0)], none⟩),
  (266, ⟨.struct [(0, 108), (3, 3)], 4, 32, [.d (.bool false), .d (.int .u64 0), .d (.int .u64 0), .d (.int .i64 0)], none⟩),
  (267, ⟨.struct [(0, 108), (3, 3)], 4, 32, [.d (.bool false), .d (.int .u64 0), .d (.int .u64 0), .d (.int .i64 0)], none⟩),
  (277, ⟨.int .i64, 1, 8, [.d (.int .i64 0)], none⟩),
  (284, ⟨.int .u32, 1, 4, [.d (.int .u32 0)], none⟩),
  (292, ⟨.int .u64, 1, 8, [.d (.int .u64 0)], none⟩)]
def TN (t : TypeId) : Option TI := look ntab t
theorem hTn0 : TOk Tryz.prog TN := z5A (by kernel_rfl)
theorem hTn : TOk PR TN := by unfold PR; exact hTn0
def ptab : List (Nat × TI) :=
[(2, ⟨.int .i64, 1, 8, [.d (.int .i64 0)], none⟩),
  (3, ⟨.int .i64, 1, 8, [.d (.int .i64 0)], none⟩),
  (4, ⟨.bool, 1, 1, [.d (.bool false)], none⟩),
  (5, ⟨.int .u8, 1, 1, [.d (.int .u8 0)], none⟩),
  (9, ⟨.str, 1, 16, [.d (.str ⟨#[]⟩)], none⟩),
  (21, ⟨.int .i32, 1, 4, [.d (.int .i32 0)], none⟩),
  (22, ⟨.slice 25, 1, 24, [.nl 1], none⟩),
  (23, ⟨.struct [(0, 22), (1, 22)], 2, 48, [.nl 1, .nl 1], none⟩),
  (24, ⟨.struct [(0, 22), (1, 22)], 2, 48, [.nl 1, .nl 1], none⟩),
  (25, ⟨.slice 3, 1, 24, [.nl 1], none⟩),
  (26, ⟨.struct [(0, 3), (1, 3), (2, 3), (3, 3), (4, 3), (5, 3), (6, 3), (7, 25)], 8, 80, [.d (.int .i64 0), .d (.int .i64 0), .d (.int .i64 0), .d (.int .i64 0), .d (.int .i64 0), .d (.int .i64 0), .d (.int .i64 0), .nl 1], none⟩),
  (27, ⟨.struct [(0, 3), (1, 3), (2, 3), (3, 3), (4, 3), (5, 3), (6, 3), (7, 25)], 8, 80, [.d (.int .i64 0), .d (.int .i64 0), .d (.int .i64 0), .d (.int .i64 0), .d (.int .i64 0), .d (.int .i64 0), .d (.int .i64 0), .nl 1], none⟩),
  (28, ⟨.slice 209, 1, 24, [.nl 5], none⟩),
  (29, ⟨.struct [(0, 28)], 1, 24, [.nl 5], none⟩),
  (30, ⟨.struct [(0, 28)], 1, 24, [.nl 5], none⟩),
  (35, ⟨.struct [(0, 22), (1, 22)], 2, 48, [.nl 1, .nl 1], none⟩),
  (38, ⟨.struct [(0, 3), (1, 3), (2, 3), (3, 3), (4, 3), (5, 3), (6, 3), (7, 25)], 8, 80, [.d (.int .i64 0), .d (.int .i64 0), .d (.int .i64 0), .d (.int .i64 0), .d (.int .i64 0), .d (.int .i64 0), .d (.int .i64 0), .nl 1], none⟩),
  (40, ⟨.slice 69, 1, 24, [.nl 5], none⟩),
  (41, ⟨.struct [(0, 40)], 1, 24, [.nl 5], none⟩),
  (42, ⟨.struct [(0, 40)], 1, 24, [.nl 5], none⟩),
  (51, ⟨.slice 5, 1, 24, [.nl 1], none⟩),
  (63, ⟨.struct [(0, 3), (1, 3)], 2, 16, [.d (.int .i64 0), .d (.int .i64 0)], none⟩),
  (64, ⟨.struct [(0, 3), (1, 3)], 2, 16, [.d (.int .i64 0), .d (.int .i64 0)], none⟩),
  (68, ⟨.struct [(0, 3), (1, 3), (2, 3), (3, 3), (4, 3)], 5, 40, [.d (.int .i64 0), .d (.int .i64 0), .d (.int .i64 0), .d (.int .i64 0), .d (.int .i64 0)], none⟩),
  (69, ⟨.struct [(0, 3), (1, 3), (2, 3), (3, 3), (4, 3)], 5, 40, [.d (.int .i64 0), .d (.int .i64 0), .d (.int .i64 0), .d (.int .i64 0), .d (.int .i64 0)], none⟩),
  (73, ⟨.slice 9, 1, 24, [.nl 1], none⟩),
  (74, ⟨.struct [(0, 73), (1, 9), (2, 22), (3, 25)], 4, 88, [.nl 1, .d (.str ⟨#[]⟩), .nl 1, .nl 1], none⟩),
  (75, ⟨.struct [(0, 73), (1, 9), (2, 22), (3, 25)], 4, 88, [.nl 1, .d (.str ⟨#[]⟩), .nl 1, .nl 1], none⟩),
  (77, ⟨.slice 108, 1, 24, [.nl 3], none⟩),
  (80, ⟨.struct [(0, 73), (1, 9), (2, 22), (3, 25)], 4, 88, [.nl 1, .d (.str ⟨#[]⟩), .nl 1, .nl 1], none⟩),
  (88, ⟨.slice 42, 1, 24, [.nl 1], none⟩),
  (89, ⟨.struct [(0, 73), (1, 25), (2, 3), (3, 88)], 4, 80, [.nl 1, .nl 1, .d (.int .i64 0), .nl 1], none⟩),
  (90, ⟨.struct [(0, 73), (1, 25), (2, 3), (3, 88)], 4, 80, [.nl 1, .nl 1, .d (.int .i64 0), .nl 1], none⟩),
  (101, ⟨.struct [(0, 25), (1, 88)], 2, 48, [.nl 1, .nl 1], none⟩),
  (102, ⟨.struct [(0, 25), (1, 88)], 2, 48, [.nl 1, .nl 1], none⟩),
  (106, ⟨.int .u64, 1, 8, [.d (.int .u64 0)], none⟩),
  (107, ⟨.struct [(0, 4), (1, 106), (2, 106)], 3, 24, [.d (.bool false), .d (.int .u64 0), .d (.int .u64 0)], none⟩),
  (108, ⟨.struct [(0, 4), (1, 106), (2, 106)], 3, 24, [.d (.bool false), .d (.int .u64 0), .d (.int .u64 0)], none⟩),
  (128, ⟨.struct [(0, 3), (1, 3)], 2, 16, [.d (.int .i64 0), .d (.int .i64 0)], none⟩),
  (129, ⟨.struct [(0, 3), (1, 3)], 2, 16, [.d (.int .i64 0), .d (.int .i64 0)], none⟩),
  (130, ⟨.struct [(0, 3), (1, 3), (2, 129), (4, 129)], 6, 48, [.d (.int .i64 0), .d (.int .i64 0), .d (.int .i64 0), .d (.int .i64 0), .d (.int .i64 0), .d (.int .i64 0)], none⟩),
  (131, ⟨.struct [(0, 3), (1, 3), (2, 129), (4, 129)], 6, 48, [.d (.int .i64 0), .d (.int .i64 0), .d (.int .i64 0), .d (.int .i64 0), .d (.int .i64 0), .d (.int .i64 0)], none⟩),
  (149, ⟨.struct [(0, 25), (1, 64), (3, 3)], 4, 48, [.nl 1, .d (.int .i64 0), .d (.int .i64 0), .d (.int .i64 0)], none⟩),
  (150, ⟨.struct [(0, 25), (1, 64), (3, 3)], 4, 48, [.nl 1, .d (.int .i64 0), .d (.int .i64 0), .d (.int .i64 0)], none⟩),
  (151, ⟨.slice 150, 1, 24, [.nl 4], none⟩),
  (158, ⟨.struct [(0, 25), (1, 64), (3, 3)], 4, 48, [.nl 1, .d (.int .i64 0), .d (.int .i64 0), .d (.int .i64 0)], none⟩),
  (159, ⟨.struct [(0, 25), (1, 64), (3, 3)], 4, 48, [.nl 1, .d (.int .i64 0), .d (.int .i64 0), .d (.int .i64 0)], none⟩),
  (160, ⟨.slice 159, 1, 24, [.nl 4], none⟩),
  (171, ⟨.slice 102, 1, 24, [.nl 2], none⟩),
  (201, ⟨.slice 240, 1, 24, [.nl 1], none⟩),
  (205, ⟨.slice 131, 1, 24, [.nl 6], none⟩),
  (209, ⟨.struct [(0, 3), (1, 3), (2, 3), (3, 3), (4, 3)], 5, 40, [.d (.int .i64 0), .d (.int .i64 0), .d (.int .i64 0), .d (.int .i64 0), .d (.int .i64 0)], none⟩),
  (240, ⟨.slice 129, 1, 24, [.nl 2], none⟩),
  (248, ⟨.struct [(0, 51), (1, 3), (2, 3)], 3, 40, [.nl 1, .d (.int .i64 0), .d (.int .i64 0)], none⟩),
  (249, ⟨.struct [(0, 51), (1, 3), (2, 3)], 3, 40, [.nl 1, .d (.int .i64 0), .d (.int .i64 0)], none⟩),
  (251, ⟨.int .u64, 1, 8, [.d (.int .u64 0)], none⟩),
  (266, ⟨.struct [(0, 108), (3, 3)], 4, 32, [.d (.bool false), .d (.int .u64 0), .d (.int .u64 0), .d (.int .i64 0)], none⟩),
  (267, ⟨.struct [(0, 108), (3, 3)], 4, 32, [.d (.bool false), .d (.int .u64 0), .d (.int .u64 0), .d (.int .i64 0)], none⟩),
  (277, ⟨.int .i64, 1, 8, [.d (.int .i64 0)], none⟩),
  (284, ⟨.int .u32, 1, 4, [.d (.int .u32 0)], none⟩),
  (292, ⟨.int .u64, 1, 8, [.d (.int .u64 0)], none⟩)]
def Tp (t : TypeId) : Option TI := look ptab t
theorem hTp : TOk Tryz.prog Tp := z5A (by kernel_rfl)
theorem hmix : PR.follows .mixedOrders = true := by unfold PR; kernel_rfl
abbrev zZ : TypeId := 3
abbrev zy : TypeId := 9
abbrev zM0 : TypeId := 22
abbrev yS : TypeId := 25
abbrev zCs : TypeId := 27
abbrev yX : TypeId := 35
abbrev zc : TypeId := 38
abbrev zT : TypeId := 42
abbrev zKf : TypeId := 51
abbrev zo : TypeId := 64
abbrev zt : TypeId := 69
abbrev zEq : TypeId := 73
abbrev zEp : TypeId := 75
abbrev zF : TypeId := 80
abbrev zn : TypeId := 102
abbrev zg : TypeId := 108
abbrev y8 : TypeId := 129
abbrev z2s : TypeId := 131
abbrev wC : TypeId := 150
abbrev wB : TypeId := 159
abbrev zEr : TypeId := 240
abbrev zH : TypeId := 249
abbrev z3D : FuncId := 8
abbrev z6f : FuncId := 11
abbrev zAV : FuncId := 15
abbrev zDv : FuncId := 19
abbrev zAU : FuncId := 20
abbrev zDy : FuncId := 24
abbrev zAY : FuncId := 25
abbrev zIA : FuncId := 29
abbrev z45 : FuncId := 31
abbrev zAO : FuncId := 32
abbrev zE6 : FuncId := 34
abbrev zBd : FuncId := 42
abbrev zBg : FuncId := 45
abbrev z11 : FuncId := 46
abbrev z4t : FuncId := 47
abbrev wA : FuncId := 48
abbrev zBi : FuncId := 49
abbrev zBj : FuncId := 50
abbrev z93 : FuncId := 51
abbrev z7f : FuncId := 52
abbrev z92 : FuncId := 53
abbrev z95 : FuncId := 54
abbrev z4i : FuncId := 62
abbrev zBU : FuncId := 63
abbrev zAS : FuncId := 64
abbrev z0H : FuncId := 65
abbrev z1K : FuncId := 66
abbrev w9 : FuncId := 67
abbrev z3U : FuncId := 68
abbrev z44 : FuncId := 69
abbrev z0h : FuncId := 70
abbrev z2G : FuncId := 71
abbrev z0I : FuncId := 72
abbrev z0g : FuncId := 73
abbrev z40 : FuncId := 74
abbrev zEK : FuncId := 82
abbrev zEL : FuncId := 83
abbrev zBh : FuncId := 85
abbrev zDw : FuncId := 86
abbrev zDg : FuncId := 88
abbrev zDj : FuncId := 90
abbrev zDX : FuncId := 91
abbrev zAK : FuncId := 92
abbrev z4u : FuncId := 93
abbrev zEB : FuncId := 97
abbrev zEF : FuncId := 98
abbrev zE0 : FuncId := 99
abbrev zE2 : FuncId := 100
abbrev zBk : FuncId := 101
abbrev zBx : FuncId := 104
abbrev zE9 : FuncId := 105
abbrev zGM : FuncId := 106
abbrev z7i : FuncId := 107
abbrev zBp : FuncId := 108
abbrev zBo : FuncId := 109
abbrev z9A : FuncId := 110
abbrev zDb : FuncId := 111
abbrev zBe : FuncId := 112
abbrev zGK : FuncId := 113
abbrev z8x : FuncId := 114
abbrev z7b : FuncId := 115
abbrev zBW : FuncId := 116
abbrev zBV : FuncId := 117
abbrev zEH : FuncId := 118
abbrev zAf : FuncId := 119
abbrev yu : FuncId := 120
abbrev z43 : FuncId := 121
abbrev zDz : FuncId := 122
abbrev zGJ : FuncId := 125
abbrev zBT : FuncId := 131
abbrev z91 : FuncId := 133
abbrev z3T : FuncId := 134
abbrev z90 : FuncId := 135
abbrev z1M : FuncId := 136
abbrev zDx : FuncId := 137
abbrev z96 : FuncId := 138
abbrev z6e : FuncId := 139
abbrev z94 : FuncId := 140
abbrev zAX : FuncId := 141
abbrev zDi : FuncId := 153
abbrev zBn : FuncId := 154
abbrev z3W : FuncId := 157
abbrev zEE : FuncId := 158
abbrev zDh : FuncId := 159
abbrev zFT : FuncId := 160
abbrev zBM : FuncId := 161
abbrev z8v : FuncId := 162
abbrev zBL : FuncId := 163
abbrev zDR : FuncId := 164
abbrev zDs : FuncId := 165
abbrev zDp : FuncId := 166
abbrev zDo : FuncId := 167
abbrev zFW : FuncId := 168
abbrev zDc : FuncId := 169
abbrev z4v : FuncId := 170
abbrev zE5 : FuncId := 171
abbrev zED : FuncId := 172
abbrev z16 : FuncId := 173
abbrev zAa : FuncId := 174
abbrev z1N : FuncId := 175
abbrev z7j : FuncId := 176
abbrev z99 : FuncId := 177
abbrev zER : FuncId := 178
abbrev zAe : FuncId := 179
abbrev zDa : FuncId := 180
abbrev zBP : FuncId := 181
abbrev zDU : FuncId := 182
abbrev zAM : FuncId := 183
abbrev z7c : FuncId := 184
abbrev zAJ : FuncId := 185
abbrev zDu : FuncId := 186
abbrev zAQ : FuncId := 187
abbrev zBQ : FuncId := 188
abbrev zDV : FuncId := 189
abbrev zAI : FuncId := 190
abbrev zFX : FuncId := 192
abbrev zDl : FuncId := 193
abbrev zDe : FuncId := 194
abbrev zAR : FuncId := 199
abbrev zAZ : FuncId := 200
abbrev z2H : FuncId := 201
abbrev z8z : FuncId := 203
abbrev z6d : FuncId := 204
abbrev zBb : FuncId := 205
abbrev zAP : FuncId := 207
abbrev zBc : FuncId := 208
abbrev zFY : FuncId := 210
abbrev z9D : FuncId := 211
abbrev zEO : FuncId := 212
abbrev zBu : FuncId := 213
abbrev zBl : FuncId := 214
abbrev zBw : FuncId := 215
abbrev zAd : FuncId := 216
abbrev zBv : FuncId := 217
abbrev zFV : FuncId := 219
abbrev zBS : FuncId := 221
abbrev z3S : FuncId := 223
abbrev zBK : FuncId := 224
abbrev zDT : FuncId := 225
abbrev zBt : FuncId := 227
abbrev zBa : FuncId := 228
abbrev zEJ : FuncId := 229
abbrev z47 : FuncId := 230
abbrev z2j : FuncId := 231
abbrev zE1 : FuncId := 232
abbrev wQ : FuncId := 233
abbrev z6g : FuncId := 234
abbrev z98 : FuncId := 235
abbrev z1l : FuncId := 240
abbrev zAW : FuncId := 241
abbrev zEP : FuncId := 243
abbrev z15 : FuncId := 244
abbrev z3C : FuncId := 245
abbrev zBY : FuncId := 250
abbrev z42 : FuncId := 251
abbrev z6h : FuncId := 252
abbrev z0S : FuncId := 253
abbrev z3V : FuncId := 254
abbrev zE7 : FuncId := 256
abbrev zBr : FuncId := 257
abbrev zAL : FuncId := 258
abbrev zE4 : FuncId := 259
abbrev z5U : FuncId := 260
abbrev z1L : FuncId := 262
abbrev z7e : FuncId := 263
abbrev zGL : FuncId := 264
abbrev z7d : FuncId := 265
abbrev z97 : FuncId := 266
abbrev z41 : FuncId := 267
abbrev zAb : FuncId := 268
abbrev zE8 : FuncId := 269
abbrev zBq : FuncId := 270
abbrev zBJ : FuncId := 271
abbrev z4s : FuncId := 272
abbrev zDd : FuncId := 273
abbrev zBX : FuncId := 274
abbrev z4r : FuncId := 275
abbrev zDQ : FuncId := 276
abbrev zDn : FuncId := 278
abbrev z3b : FuncId := 280
abbrev zDk : FuncId := 281
abbrev zBZ : FuncId := 282
abbrev zDr : FuncId := 283
abbrev zDf : FuncId := 284
abbrev zEG : FuncId := 285
abbrev zBs : FuncId := 286
abbrev zEN : FuncId := 287
abbrev zEA : FuncId := 288
abbrev z7h : FuncId := 289
abbrev zDW : FuncId := 290
abbrev zBR : FuncId := 291
abbrev zBN : FuncId := 292
abbrev z8w : FuncId := 299
abbrev zFU : FuncId := 300
abbrev zEC : FuncId := 301
abbrev z0R : FuncId := 302
abbrev z1D : FuncId := 303
abbrev z14 : FuncId := 304
abbrev z84 : FuncId := 305
abbrev z4j : FuncId := 306
abbrev wG : FuncId := 307
abbrev z29 : FuncId := 308
abbrev z3B : FuncId := 309
abbrev wx : FuncId := 310
abbrev zDS : FuncId := 311
abbrev zDY : FuncId := 312
abbrev z6a : FuncId := 313
abbrev zDZ : FuncId := 318
abbrev zDt : FuncId := 319
abbrev zAN : FuncId := 320
abbrev zDm : FuncId := 321
abbrev z6c : FuncId := 322
abbrev zAT : FuncId := 323
abbrev z9B : FuncId := 324
abbrev zEQ : FuncId := 325
abbrev zAc : FuncId := 326
abbrev zEI : FuncId := 327
abbrev z6j : FuncId := 328
abbrev zAg : FuncId := 329
abbrev z13 : FuncId := 333
abbrev z6k : FuncId := 334
abbrev zDq : FuncId := 346
abbrev z8y : FuncId := 347
abbrev zBf : FuncId := 348
abbrev zBO : FuncId := 349
abbrev zEM : FuncId := 350
abbrev z9C : FuncId := 351
abbrev zBy : FuncId := 352
abbrev zBm : FuncId := 353
abbrev z2A : FuncId := 354
abbrev z7k : FuncId := 355
abbrev zAh : FuncId := 362
abbrev z7a : FuncId := 363
abbrev z6b : FuncId := 364
abbrev z12 : FuncId := 365
abbrev z7g : FuncId := 366
abbrev zE3 : FuncId := 367
abbrev z6i : FuncId := 368
theorem pf {n : Nat} {f : Func} (h : Tryz.prog.funcs[n]? = some f) : PR.funcs[n]? = some f := by unfold PR; exact h
theorem eS : (∀ (a : List (Nat × AV)) (b : List (Nat × Ent)) (c d : Nat) (a' : List (Nat × AV)) (b' : List (Nat × Ent)) (c' d' : Nat), (St.mk a b c d = St.mk a' b' c' d') = (a = a' ∧ b = b' ∧ c = c' ∧ d = d')) ∧
    (∀ (α : Type) (a : α) (l : List α) (a' : α) (l' : List α), (a :: l = a' :: l') = (a = a' ∧ l = l')) ∧ (∀ (α β : Type) (a : α) (b : β) (a' : α) (b' : β), (Prod.mk a b = Prod.mk a' b') = (a = a' ∧ b = b')) ∧
    (∀ a a' : CV, (AV.c a = AV.c a') = (a = a')) ∧ (∀ a a' : List CV, (AV.agg a = AV.agg a') = (a = a')) ∧ (∀ a a' : List (Bool × List CV), (AV.tup a = AV.tup a') = (a = a')) ∧ (∀ a a' : D, (CV.d a = CV.d a') = (a = a')) ∧
    (∀ (a : IntKind) (b : Int) (a' : IntKind) (b' : Int), (D.int a b = D.int a' b') = (a = a' ∧ b = b')) ∧ (∀ a a' : Bool, (D.bool a = D.bool a') = (a = a')) ∧ (∀ a a' : ByteArray, (D.str a = D.str a') = (a = a')) ∧ (∀ (a : Nat) (b : List (List D)) (a' : Nat) (b' : List (List D)), (D.sl a b = D.sl a' b') = (a = a' ∧ b = b')) ∧
    (∀ (a b c : Nat) (d : Ow) (e : List (List D)) (a' b' c' : Nat) (d' : Ow) (e' : List (List D)), (Ent.arr a b c d e = Ent.arr a' b' c' d' e') = (a = a' ∧ b = b' ∧ c = c' ∧ d = d' ∧ e = e')) ∧ (∀ (a : Nat) (b : List CV) (a' : Nat) (b' : List CV), (Ent.box a b = Ent.box a' b') = (a = a' ∧ b = b')) ∧
    (∀ p : Prop, (True ∧ p) = p) ∧ (∀ p : Prop, (p ∧ True) = p) ∧ (∀ p : Prop, (p ∧ p) = p) ∧ (∀ n : Nat, nInt n = (n : Int)) ∧ (((0 : Nat) : Int) = 0) ∧ (∀ (α : Type) (f : α → List D) (l : List α), dLen (eL f l) = l.length) ∧ (∀ s : ByteArray, sLen s = (s.size : Int)) :=
  ⟨St.mk.injEq, fun _ => List.cons.injEq, fun _ _ => Prod.mk.injEq, AV.c.injEq, AV.agg.injEq, AV.tup.injEq, CV.d.injEq, D.int.injEq, D.bool.injEq, D.str.injEq, D.sl.injEq, Ent.arr.injEq, Ent.box.injEq, true_and, and_true, and_self, z3q, Int.natCast_zero, fun _ => z5Z, zD4⟩
theorem eH : (∀ n : Nat, nInt n = (n : Int)) ∧ (((0 : Nat) : Int) = 0) ∧ (∀ (α : Type) (f : α → List D) (l : List α), dLen (eL f l) = l.length) ∧ (∀ s : ByteArray, sLen s = (s.size : Int)) ∧ (∀ x : Int, nOf x = x.toNat) ∧ (∀ n : Nat, ((n : Int)).toNat = n) ∧ (∀ x y : Nat, nAdd x y = x + y) ∧ (∀ x y : Nat, nSub x y = x - y) ∧ (dLen [] = 0) ∧ (∀ (c : List D) (es : List (List D)), dLen (c :: es) = dLen es + 1) ∧
    (∀ x y : Int, (iLt x y = true) = (x < y)) ∧ (∀ x y : Int, (iLt x y = false) = (y ≤ x)) ∧ (∀ x y : Int, (iLe x y = true) = (x ≤ y)) ∧ (∀ x y : Int, (iLe x y = false) = (y < x)) ∧ (∀ x y : Int, (iEq x y = true) = (x = y)) ∧ (∀ x y : Int, (iEq x y = false) = (x ≠ y)) ∧ (∀ x y : ByteArray, (sEq x y = true) = (x = y)) ∧ (∀ x y : ByteArray, (sEq x y = false) = (x ≠ y)) ∧
    (∀ x : Bool, (bNot x = true) = (x = false)) ∧ (∀ x : Bool, (bNot x = false) = (x = true)) ∧ (∀ x y : Bool, (bAnd x y = true) = (x = true ∧ y = true)) ∧ (∀ x y : Bool, (bEq x y = true) = (x = y)) ∧ (∀ x y : Bool, (bEq x y = false) = (x ≠ y)) ∧ (∀ b : Bool, (¬ b = true) = (b = false)) ∧ (∀ b : Bool, (¬ b = false) = (b = true)) ∧ ((true = false) = False) ∧ ((false = true) = False) :=
  ⟨z3q, Int.natCast_zero, fun _ => z5Z, zD4, z1B, Int.toNat_natCast, wD, z7I, zL8, zJm, iLt_t, iLt_f, iLe_t, iLe_f, iEq_t, iEq_f, sEq_t, sEq_f, zKH, zKI, bAnd_t, bEq_t, bEq_f, Bool.not_eq_true, Bool.not_eq_false, Bool.true_eq_false, Bool.false_eq_true⟩
end Go.H.S
