import Derived.Test.YtjjlpjdaffdceaaProg
import Derived.Test.YtjjlpjdaffdceaaH26
namespace Go.H.S1
open Go Go.Proofs Go.H
attribute [cbv_opaque] Try.prog
def tab : List (Nat × TI) :=
[(3, ⟨.int .i64, 1, 8, [.d (.int .i64 0)]⟩),
  (4, ⟨.bool, 1, 1, [.d (.bool false)]⟩),
  (5, ⟨.int .u8, 1, 1, [.d (.int .u8 0)]⟩),
  (9, ⟨.str, 1, 16, [.d (.str ⟨#[]⟩)]⟩),
  (21, ⟨.int .i32, 1, 4, [.d (.int .i32 0)]⟩),
  (22, ⟨.slice 9, 1, 24, [.nl 1]⟩),
  (23, ⟨.slice 3, 1, 24, [.nl 1]⟩),
  (24, ⟨.slice 39, 1, 24, [.nl 1]⟩),
  (26, ⟨.struct [(0, 22), (1, 23), (2, 3), (3, 24)], 4, 80, [.nl 1, .nl 1, .d (.int .i64 0), .nl 1]⟩),
  (29, ⟨.slice 45, 1, 24, [.nl 1]⟩),
  (31, ⟨.struct [(0, 22), (1, 23), (2, 3), (3, 29)], 4, 80, [.nl 1, .nl 1, .d (.int .i64 0), .nl 1]⟩),
  (37, ⟨.slice 72, 1, 24, [.nl 5]⟩),
  (39, ⟨.struct [(0, 37)], 1, 24, [.nl 5]⟩),
  (43, ⟨.slice 61, 1, 24, [.nl 5]⟩),
  (45, ⟨.struct [(0, 43)], 1, 24, [.nl 5]⟩),
  (61, ⟨.struct [(0, 3), (1, 3), (2, 3), (3, 3), (4, 3)], 5, 40, [.d (.int .i64 0), .d (.int .i64 0), .d (.int .i64 0), .d (.int .i64 0), .d (.int .i64 0)]⟩),
  (72, ⟨.struct [(0, 3), (1, 3), (2, 3), (3, 3), (4, 3)], 5, 40, [.d (.int .i64 0), .d (.int .i64 0), .d (.int .i64 0), .d (.int .i64 0), .d (.int .i64 0)]⟩)]
def T (t : TypeId) : Option TI := look tab t
theorem hT : TOk Try.prog T := tabOk_sound (by kernel_rfl)
theorem hmix : Try.prog.follows .mixedOrders = true := by kernel_rfl
end Go.H.S1
