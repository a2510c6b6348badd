import Derived.Test.YtbnagcgfmlmgnaaProg
import Derived.KernelRfl
import Derived.Test.YtbnagcgfmlmgnaaWd
/- The head of this seat's contracts: the types that its functions use. No condition. -/
open Go Vx
namespace Vx.D.Ytbnagcgfmlmgnaa
set_option maxHeartbeats 2000000
set_option linter.unusedVariables false
set_option linter.unusedSimpArgs false

open Go.Proofs
set_option maxRecDepth 100000
noncomputable abbrev E : Env := ⟨Try.prog, 0, #[]⟩
theorem hmix : Try.prog.follows .mixedOrders = true := by kernel_rfl
def tb : List (Nat × TI) := [(3, ⟨(.int .i64), false, 1, 8, [.int .i64 0], [], none, none⟩),
  (4, ⟨.bool, false, 1, 1, [.bool false], [], none, none⟩),
  (5, ⟨(.int .u8), false, 1, 1, [.int .u8 0], [], none, none⟩),
  (9, ⟨.str, false, 1, 16, [.str ByteArray.empty], [], none, none⟩),
  (22, ⟨.other, false, 1, 24, [.nil], [], some 145, none⟩),
  (24, ⟨.other, true, 1, 24, [.nil], [(0, 1)], none, none⟩),
  (25, ⟨.other, false, 1, 24, [.nil], [], some 116, none⟩),
  (27, ⟨.other, true, 2, 48, [.nil, .nil], [(0, 1), (1, 1)], none, none⟩),
  (30, ⟨.other, false, 1, 24, [.nil], [], some 119, none⟩),
  (32, ⟨.other, true, 1, 24, [.nil], [(0, 1)], none, none⟩),
  (33, ⟨.other, false, 1, 24, [.nil], [], some 84, none⟩),
  (35, ⟨.other, true, 2, 48, [.nil, .nil], [(0, 1), (1, 1)], none, none⟩),
  (38, ⟨.other, false, 1, 24, [.nil], [], some 90, none⟩),
  (40, ⟨.other, false, 1, 24, [.nil], [], some 42, none⟩),
  (42, ⟨.other, true, 3, 48, [.int .i64 0, .str ByteArray.empty, .nil], [(0, 1), (1, 1), (2, 1)], none, none⟩),
  (44, ⟨.other, true, 4, 72, [.nil, .int .i64 0, .str ByteArray.empty, .nil], [(0, 1), (1, 3)], none, none⟩),
  (46, ⟨.other, true, 7, 96, [.int .i64 0, .nil, .int .i64 0, .str ByteArray.empty, .nil, .int .i64 0, .int .i64 0], [(0, 1), (1, 4), (5, 1), (6, 1)], none, none⟩),
  (49, ⟨.other, false, 1, 24, [.nil], [], some 46, none⟩),
  (56, ⟨.other, false, 1, 24, [.nil], [], some 58, none⟩),
  (58, ⟨.other, true, 3, 48, [.int .i64 0, .str ByteArray.empty, .nil], [(0, 1), (1, 1), (2, 1)], none, none⟩),
  (59, ⟨.other, false, 1, 24, [.nil], [], some 158, none⟩),
  (61, ⟨.other, true, 1, 24, [.nil], [(0, 1)], none, none⟩),
  (63, ⟨.other, true, 4, 72, [.nil, .int .i64 0, .str ByteArray.empty, .nil], [(0, 1), (1, 3)], none, none⟩),
  (65, ⟨.other, true, 9, 160, [.str ByteArray.empty, .int .i64 0, .str ByteArray.empty, .nil, .nil, .nil, .int .i64 0, .str ByteArray.empty, .nil], [(0, 1), (1, 3), (4, 1), (5, 4)], none, none⟩),
  (68, ⟨.other, false, 1, 24, [.nil], [], some 133, none⟩),
  (70, ⟨.other, true, 1, 24, [.nil], [(0, 1)], none, none⟩),
  (72, ⟨.other, true, 9, 160, [.str ByteArray.empty, .int .i64 0, .str ByteArray.empty, .nil, .nil, .nil, .int .i64 0, .str ByteArray.empty, .nil], [(0, 1), (1, 3), (4, 1), (5, 4)], none, none⟩),
  (81, ⟨.other, false, 1, 8, [.val .nilFunc], [], none, none⟩),
  (82, ⟨.other, false, 1, 24, [.nil], [], some 9, none⟩),
  (84, ⟨.other, true, 9, 152, [.int .i64 0, .str ByteArray.empty, .nil, .nil, .bool false, .nil, .int .i64 0, .str ByteArray.empty, .nil], [(0, 3), (3, 1), (4, 1), (5, 4)], none, none⟩),
  (90, ⟨.other, true, 7, 96, [.int .i64 0, .nil, .int .i64 0, .str ByteArray.empty, .nil, .int .i64 0, .int .i64 0], [(0, 1), (1, 4), (5, 1), (6, 1)], none, none⟩),
  (102, ⟨.other, false, 1, 8, [.val .nilFunc], [], none, none⟩),
  (109, ⟨.other, false, 1, 24, [.nil], [], some 3, none⟩),
  (116, ⟨.other, true, 9, 152, [.int .i64 0, .str ByteArray.empty, .nil, .nil, .bool false, .nil, .int .i64 0, .str ByteArray.empty, .nil], [(0, 3), (3, 1), (4, 1), (5, 4)], none, none⟩),
  (119, ⟨.other, true, 7, 128, [.str ByteArray.empty, .str ByteArray.empty, .nil, .nil, .int .i64 0, .str ByteArray.empty, .nil], [(0, 1), (1, 1), (2, 1), (3, 1), (4, 3)], none, none⟩),
  (122, ⟨.other, false, 1, 8, [.val .nilFunc], [], none, none⟩),
  (126, ⟨.other, false, 1, 24, [.nil], [], some 5, none⟩),
  (131, ⟨.other, false, 1, 24, [.nil], [], some 160, none⟩),
  (133, ⟨.other, true, 11, 176, [.int .i64 0, .int .i64 0, .str ByteArray.empty, .nil, .int .i64 0, .nil, .str ByteArray.empty, .str ByteArray.empty, .nil, .nil, .int .i64 0], [(0, 1), (1, 3), (4, 1), (5, 1), (6, 1), (7, 1), (8, 1), (9, 1), (10, 1)], none, none⟩),
  (140, ⟨.other, false, 1, 8, [.val .nilFunc], [], none, none⟩),
  (145, ⟨.other, true, 7, 128, [.str ByteArray.empty, .str ByteArray.empty, .nil, .nil, .int .i64 0, .str ByteArray.empty, .nil], [(0, 1), (1, 1), (2, 1), (3, 1), (4, 3)], none, none⟩),
  (150, ⟨.other, false, 1, 8, [.val (.map none)], [], none, some (.str, .i64)⟩),
  (156, ⟨.other, false, 1, 24, [.nil], [], some 198, none⟩),
  (158, ⟨.other, true, 11, 176, [.int .i64 0, .int .i64 0, .str ByteArray.empty, .nil, .int .i64 0, .nil, .str ByteArray.empty, .str ByteArray.empty, .nil, .nil, .int .i64 0], [(0, 1), (1, 3), (4, 1), (5, 1), (6, 1), (7, 1), (8, 1), (9, 1), (10, 1)], none, none⟩),
  (160, ⟨.other, true, 4, 64, [.str ByteArray.empty, .int .i64 0, .str ByteArray.empty, .nil], [(0, 1), (1, 3)], none, none⟩),
  (164, ⟨.other, false, 1, 8, [.val .nilFunc], [], none, none⟩),
  (179, ⟨.other, false, 1, 8, [.val .nilFunc], [], none, none⟩),
  (183, ⟨.other, false, 1, 8, [.val .nilFunc], [], none, none⟩),
  (187, ⟨.other, false, 1, 8, [.val (.pointer none)], [], none, none⟩),
  (192, ⟨.other, false, 1, 8, [.val .nilFunc], [], none, none⟩),
  (193, ⟨.other, false, 1, 24, [.nil], [], some 82, none⟩),
  (198, ⟨.other, true, 4, 64, [.str ByteArray.empty, .int .i64 0, .str ByteArray.empty, .nil], [(0, 1), (1, 3)], none, none⟩)]
theorem htb : tb.map (fun p => tinfo Try.prog p.1) = tb.map (fun p => some p.2) := by kernel_rfl
end Vx.D.Ytbnagcgfmlmgnaa
