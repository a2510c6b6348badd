import Derived.Test.YtjfpbaknhaikmaaProg
import Derived.KernelRfl
import Derived.Test.YtjfpbaknhaikmaaVc
/- The head of this seat's contracts: the types that its functions use. No condition. -/
open Go Vx
namespace Vx.D.Ytjfpbaknhaikmaa
set_option linter.unusedVariables false
set_option linter.unusedSimpArgs false

open Go.Proofs
set_option maxRecDepth 100000
noncomputable abbrev E : Env := ⟨Try.prog, 0, #[]⟩
theorem hmix : Try.prog.follows .mixedOrders = true := by kernel_rfl
def tb : List (Nat × TI) := [(3, ⟨.other, false, 1, 8, [.int .i64 0], [], none⟩),
  (4, ⟨.bool, false, 1, 1, [.bool false], [], none⟩),
  (9, ⟨.str, false, 1, 16, [.str ByteArray.empty], [], none⟩),
  (24, ⟨.other, false, 1, 24, [.nil], [], some 63⟩),
  (27, ⟨.other, false, 1, 24, [.nil], [], some 61⟩),
  (31, ⟨.other, false, 1, 24, [.nil], [], some 82⟩),
  (33, ⟨.other, true, 1, 24, [.nil], [(0, 1)], none⟩),
  (34, ⟨.other, false, 1, 24, [.nil], [], some 36⟩),
  (36, ⟨.other, true, 3, 48, [.int .i64 0, .str ByteArray.empty, .nil], [(0, 1), (1, 1), (2, 1)], none⟩),
  (38, ⟨.other, true, 4, 72, [.nil, .int .i64 0, .str ByteArray.empty, .nil], [(0, 1), (1, 3)], none⟩),
  (40, ⟨.other, true, 7, 96, [.int .i64 0, .nil, .int .i64 0, .str ByteArray.empty, .nil, .int .i64 0, .int .i64 0], [(0, 1), (1, 4), (5, 1), (6, 1)], none⟩),
  (43, ⟨.other, false, 1, 24, [.nil], [], some 84⟩),
  (45, ⟨.other, true, 1, 24, [.nil], [(0, 1)], none⟩),
  (46, ⟨.other, false, 1, 24, [.nil], [], some 48⟩),
  (48, ⟨.other, true, 3, 48, [.int .i64 0, .str ByteArray.empty, .nil], [(0, 1), (1, 1), (2, 1)], none⟩),
  (50, ⟨.other, true, 4, 72, [.nil, .int .i64 0, .str ByteArray.empty, .nil], [(0, 1), (1, 3)], none⟩),
  (52, ⟨.other, true, 7, 96, [.int .i64 0, .nil, .int .i64 0, .str ByteArray.empty, .nil, .int .i64 0, .int .i64 0], [(0, 1), (1, 4), (5, 1), (6, 1)], none⟩),
  (56, ⟨.other, false, 1, 24, [.nil], [], some 9⟩),
  (61, ⟨.other, true, 4, 32, [.int .i64 0, .int .i64 0, .int .i64 0, .int .i64 0], [(0, 1), (1, 1), (2, 1), (3, 1)], none⟩),
  (63, ⟨.other, true, 4, 32, [.int .i64 0, .int .i64 0, .int .i64 0, .int .i64 0], [(0, 1), (1, 1), (2, 1), (3, 1)], none⟩),
  (82, ⟨.other, true, 7, 128, [.str ByteArray.empty, .str ByteArray.empty, .nil, .nil, .int .i64 0, .str ByteArray.empty, .nil], [(0, 1), (1, 1), (2, 1), (3, 1), (4, 3)], none⟩),
  (84, ⟨.other, true, 7, 128, [.str ByteArray.empty, .str ByteArray.empty, .nil, .nil, .int .i64 0, .str ByteArray.empty, .nil], [(0, 1), (1, 1), (2, 1), (3, 1), (4, 3)], none⟩)]
theorem htb : tb.map (fun p => tinfo Try.prog p.1) = tb.map (fun p => some p.2) := by kernel_rfl
end Vx.D.Ytjfpbaknhaikmaa
