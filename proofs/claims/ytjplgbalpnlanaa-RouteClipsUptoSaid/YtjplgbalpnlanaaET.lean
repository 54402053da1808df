/- The table of types of this seat, and of each function the slots that are read behind a region: reckoned by a program. -/
import Derived.Test.YtjplgbalpnlanaaProg
import Derived.Test.YtjplgbalpnlanaaEZ
set_option linter.unusedVariables false
set_option maxRecDepth 100000
namespace Go.Proofs.Ytjplgbalpnlanaa
open Go Go.EL
def TL : List TD := [
  ⟨.other, 0, 0, [], false⟩,
  ⟨.func, 1, 8, [.nilf], false⟩,
  ⟨(.int .i64), 1, 8, [.int .i64 0], false⟩,
  ⟨(.int .i64), 1, 8, [.int .i64 0], false⟩,
  ⟨.bool, 1, 1, [.bool false], false⟩,
  ⟨(.int .u8), 1, 1, [.int .u8 0], false⟩,
  ⟨.other, 0, 0, [], false⟩,
  ⟨.other, 0, 0, [], false⟩,
  ⟨.other, 0, 0, [], false⟩,
  ⟨.str, 1, 16, [.str []], false⟩,
  ⟨.other, 0, 0, [], false⟩,
  ⟨.other, 0, 0, [], false⟩,
  ⟨(.int .u64), 1, 8, [.int .u64 0], false⟩,
  ⟨(.struct [(9, 0), (12, 1)]), 2, 24, [.str [], .int .u64 0], false⟩,
  ⟨.other, 0, 0, [], false⟩,
  ⟨.other, 0, 0, [], false⟩,
  ⟨.other, 0, 0, [], false⟩,
  ⟨.other, 0, 0, [], false⟩,
  ⟨.other, 0, 0, [], false⟩,
  ⟨(.struct [(17, 0)]), 1, 8, [.nilp], false⟩,
  ⟨.iface, 1, 16, [.nili], false⟩,
  ⟨(.int .i32), 1, 4, [.int .i32 0], false⟩,
  ⟨(.slice 33), 1, 24, [.fslice []], false⟩,
  ⟨.func, 1, 8, [.nilf], false⟩,
  ⟨(.slice 136), 1, 24, [.fslice []], false⟩,
  ⟨.other, 0, 0, [], false⟩,
  ⟨.func, 1, 8, [.nilf], false⟩,
  ⟨(.slice 9), 1, 24, [.fslice []], false⟩,
  ⟨(.slice 213), 1, 24, [.fslice []], false⟩,
  ⟨(.struct [(9, 0), (28, 1)]), 2, 40, [.str [], .fslice []], false⟩,
  ⟨(.struct [(9, 0), (28, 1)]), 2, 40, [.str [], .fslice []], false⟩,
  ⟨(.slice 126), 1, 24, [.fslice []], false⟩,
  ⟨(.struct [(3, 0), (30, 1), (31, 3), (4, 4), (30, 5)]), 7, 120, [.int .i64 0, .str [], .fslice [], .fslice [], .bool false, .str [], .fslice []], false⟩,
  ⟨(.struct [(3, 0), (30, 1), (31, 3), (4, 4), (30, 5)]), 7, 120, [.int .i64 0, .str [], .fslice [], .fslice [], .bool false, .str [], .fslice []], false⟩,
  ⟨.func, 1, 8, [.nilf], false⟩,
  ⟨.func, 1, 8, [.nilf], false⟩,
  ⟨.func, 1, 8, [.nilf], false⟩,
  ⟨.func, 1, 8, [.nilf], false⟩,
  ⟨.func, 1, 8, [.nilf], false⟩,
  ⟨.func, 1, 8, [.nilf], false⟩,
  ⟨.func, 1, 8, [.nilf], false⟩,
  ⟨.func, 1, 8, [.nilf], false⟩,
  ⟨.func, 1, 8, [.nilf], false⟩,
  ⟨.func, 1, 8, [.nilf], false⟩,
  ⟨.func, 1, 8, [.nilf], false⟩,
  ⟨.func, 1, 8, [.nilf], false⟩,
  ⟨.func, 1, 8, [.nilf], false⟩,
  ⟨.func, 1, 8, [.nilf], false⟩,
  ⟨.func, 1, 8, [.nilf], false⟩,
  ⟨.func, 1, 8, [.nilf], false⟩,
  ⟨(.slice 64), 1, 24, [.fslice []], false⟩,
  ⟨(.ptr 167), 1, 8, [.nilp], false⟩,
  ⟨.func, 1, 8, [.nilf], false⟩,
  ⟨(.int .i64), 1, 8, [.int .i64 0], false⟩,
  ⟨.other, 0, 0, [], false⟩,
  ⟨.func, 1, 8, [.nilf], false⟩,
  ⟨.func, 1, 8, [.nilf], false⟩,
  ⟨.func, 1, 8, [.nilf], false⟩,
  ⟨(.slice 3), 1, 24, [.fslice []], false⟩,
  ⟨(.struct [(3, 0), (3, 1), (3, 2), (3, 3), (30, 4), (9, 6), (3, 7), (31, 8), (50, 9), (58, 10), (30, 11)]), 13, 208, [.int .i64 0, .int .i64 0, .int .i64 0, .int .i64 0, .str [], .fslice [], .str [], .int .i64 0, .fslice [], .fslice [], .fslice [], .str [], .fslice []], false⟩,
  ⟨(.struct [(3, 0), (3, 1), (3, 2), (3, 3), (30, 4), (9, 6), (3, 7), (31, 8), (50, 9), (58, 10), (30, 11)]), 13, 208, [.int .i64 0, .int .i64 0, .int .i64 0, .int .i64 0, .str [], .fslice [], .str [], .int .i64 0, .fslice [], .fslice [], .fslice [], .str [], .fslice []], false⟩,
  ⟨.other, 0, 0, [], false⟩,
  ⟨.func, 1, 8, [.nilf], false⟩,
  ⟨(.struct [(3, 0), (4, 1), (3, 2)]), 3, 24, [.int .i64 0, .bool false, .int .i64 0], true⟩,
  ⟨(.struct [(3, 0), (4, 1), (3, 2)]), 3, 24, [.int .i64 0, .bool false, .int .i64 0], true⟩,
  ⟨.func, 1, 8, [.nilf], false⟩,
  ⟨(.slice 177), 1, 24, [.fslice []], false⟩,
  ⟨.other, 0, 0, [], false⟩,
  ⟨.func, 1, 8, [.nilf], false⟩,
  ⟨.func, 1, 8, [.nilf], false⟩,
  ⟨.func, 1, 8, [.nilf], false⟩,
  ⟨.func, 1, 8, [.nilf], false⟩,
  ⟨.func, 1, 8, [.nilf], false⟩,
  ⟨.func, 1, 8, [.nilf], false⟩,
  ⟨.func, 1, 8, [.nilf], false⟩,
  ⟨(.slice 79), 1, 24, [.fslice []], false⟩,
  ⟨(.ptr 183), 1, 8, [.nilp], false⟩,
  ⟨.func, 1, 8, [.nilf], false⟩,
  ⟨(.struct [(3, 0), (9, 1)]), 2, 24, [.int .i64 0, .str []], true⟩,
  ⟨(.struct [(3, 0), (9, 1)]), 2, 24, [.int .i64 0, .str []], true⟩,
  ⟨.func, 1, 8, [.nilf], false⟩,
  ⟨.func, 1, 8, [.nilf], false⟩,
  ⟨.func, 1, 8, [.nilf], false⟩,
  ⟨.other, 0, 0, [], false⟩,
  ⟨.func, 1, 8, [.nilf], false⟩,
  ⟨.func, 1, 8, [.nilf], false⟩,
  ⟨.other, 0, 0, [], false⟩,
  ⟨.func, 1, 8, [.nilf], false⟩,
  ⟨.func, 1, 8, [.nilf], false⟩,
  ⟨(.slice 186), 1, 24, [.fslice []], false⟩,
  ⟨.func, 1, 8, [.nilf], false⟩,
  ⟨.func, 1, 8, [.nilf], false⟩,
  ⟨(.slice 97), 1, 24, [.fslice []], false⟩,
  ⟨.func, 1, 8, [.nilf], false⟩,
  ⟨.func, 1, 8, [.nilf], false⟩,
  ⟨.func, 1, 8, [.nilf], false⟩,
  ⟨(.struct [(3, 0), (3, 1), (3, 2), (3, 3)]), 4, 32, [.int .i64 0, .int .i64 0, .int .i64 0, .int .i64 0], true⟩,
  ⟨(.struct [(3, 0), (3, 1), (3, 2), (3, 3)]), 4, 32, [.int .i64 0, .int .i64 0, .int .i64 0, .int .i64 0], true⟩,
  ⟨.func, 1, 8, [.nilf], false⟩,
  ⟨.func, 1, 8, [.nilf], false⟩,
  ⟨(.ptr 197), 1, 8, [.nilp], false⟩,
  ⟨.func, 1, 8, [.nilf], false⟩,
  ⟨.func, 1, 8, [.nilf], false⟩,
  ⟨.func, 1, 8, [.nilf], false⟩,
  ⟨.other, 0, 0, [], false⟩,
  ⟨.func, 1, 8, [.nilf], false⟩,
  ⟨.func, 1, 8, [.nilf], false⟩,
  ⟨(.slice 200), 1, 24, [.fslice []], false⟩,
  ⟨.func, 1, 8, [.nilf], false⟩,
  ⟨.func, 1, 8, [.nilf], false⟩,
  ⟨.func, 1, 8, [.nilf], false⟩,
  ⟨.other, 0, 0, [], false⟩,
  ⟨.func, 1, 8, [.nilf], false⟩,
  ⟨.func, 1, 8, [.nilf], false⟩,
  ⟨.func, 1, 8, [.nilf], false⟩,
  ⟨.func, 1, 8, [.nilf], false⟩,
  ⟨.func, 1, 8, [.nilf], false⟩,
  ⟨(.slice 128), 1, 24, [.fslice []], false⟩,
  ⟨(.ptr 123), 1, 8, [.nilp], false⟩,
  ⟨(.struct [(3, 0), (3, 1), (58, 2), (31, 3), (30, 4), (4, 6)]), 7, 112, [.int .i64 0, .int .i64 0, .fslice [], .fslice [], .str [], .fslice [], .bool false], false⟩,
  ⟨(.struct [(3, 0), (3, 1), (58, 2), (31, 3), (30, 4), (4, 6)]), 7, 112, [.int .i64 0, .int .i64 0, .fslice [], .fslice [], .str [], .fslice [], .bool false], false⟩,
  ⟨(.slice 120), 1, 24, [.fslice []], false⟩,
  ⟨(.struct [(121, 0)]), 1, 24, [.fslice []], false⟩,
  ⟨(.struct [(121, 0)]), 1, 24, [.fslice []], false⟩,
  ⟨.func, 1, 8, [.nilf], false⟩,
  ⟨(.struct [(30, 0), (30, 2)]), 4, 80, [.str [], .fslice [], .str [], .fslice []], false⟩,
  ⟨(.struct [(30, 0), (30, 2)]), 4, 80, [.str [], .fslice [], .str [], .fslice []], false⟩,
  ⟨(.struct [(3, 0), (3, 1), (3, 2), (126, 3)]), 7, 104, [.int .i64 0, .int .i64 0, .int .i64 0, .str [], .fslice [], .str [], .fslice []], false⟩,
  ⟨(.struct [(3, 0), (3, 1), (3, 2), (126, 3)]), 7, 104, [.int .i64 0, .int .i64 0, .int .i64 0, .str [], .fslice [], .str [], .fslice []], false⟩,
  ⟨.func, 1, 8, [.nilf], false⟩,
  ⟨.func, 1, 8, [.nilf], false⟩,
  ⟨.func, 1, 8, [.nilf], false⟩,
  ⟨.func, 1, 8, [.nilf], false⟩,
  ⟨.func, 1, 8, [.nilf], false⟩,
  ⟨.func, 1, 8, [.nilf], false⟩,
  ⟨(.struct [(30, 0), (31, 2), (24, 3), (30, 4)]), 6, 128, [.str [], .fslice [], .fslice [], .fslice [], .str [], .fslice []], false⟩,
  ⟨(.struct [(30, 0), (31, 2), (24, 3), (30, 4)]), 6, 128, [.str [], .fslice [], .fslice [], .fslice [], .str [], .fslice []], false⟩,
  ⟨(.ptr 140), 1, 8, [.nilp], false⟩,
  ⟨.func, 1, 8, [.nilf], false⟩,
  ⟨(.struct [(24, 0)]), 1, 24, [.fslice []], false⟩,
  ⟨(.struct [(24, 0)]), 1, 24, [.fslice []], false⟩,
  ⟨(.ptr 136), 1, 8, [.nilp], false⟩,
  ⟨.func, 1, 8, [.nilf], false⟩,
  ⟨.func, 1, 8, [.nilf], false⟩,
  ⟨.func, 1, 8, [.nilf], false⟩,
  ⟨.func, 1, 8, [.nilf], false⟩,
  ⟨.func, 1, 8, [.nilf], false⟩,
  ⟨.func, 1, 8, [.nilf], false⟩,
  ⟨.func, 1, 8, [.nilf], false⟩,
  ⟨.func, 1, 8, [.nilf], false⟩,
  ⟨(.ptr 153), 1, 8, [.nilp], false⟩,
  ⟨(.slice 5), 1, 24, [.fslice []], false⟩,
  ⟨(.struct [(150, 0), (151, 1)]), 2, 32, [.nilp, .fslice []], false⟩,
  ⟨(.struct [(150, 0), (151, 1)]), 2, 32, [.nilp, .fslice []], false⟩,
  ⟨.iface, 1, 16, [.nili], false⟩,
  ⟨.iface, 1, 16, [.nili], false⟩,
  ⟨.other, 0, 0, [], false⟩,
  ⟨.func, 1, 8, [.nilf], false⟩,
  ⟨.func, 1, 8, [.nilf], false⟩,
  ⟨.func, 1, 8, [.nilf], false⟩,
  ⟨.func, 1, 8, [.nilf], false⟩,
  ⟨(.slice 222), 1, 24, [.fslice []], false⟩,
  ⟨.func, 1, 8, [.nilf], false⟩,
  ⟨(.slice 30), 1, 24, [.fslice []], false⟩,
  ⟨(.map 3 60), 1, 8, [.nilm], false⟩,
  ⟨(.array 4 3), 4, 32, [.int .i64 0, .int .i64 0, .int .i64 0, .int .i64 0], false⟩,
  ⟨(.struct [(164, 0), (165, 1), (165, 5)]), 9, 72, [.nilm, .int .i64 0, .int .i64 0, .int .i64 0, .int .i64 0, .int .i64 0, .int .i64 0, .int .i64 0, .int .i64 0], false⟩,
  ⟨(.struct [(164, 0), (165, 1), (165, 5)]), 9, 72, [.nilm, .int .i64 0, .int .i64 0, .int .i64 0, .int .i64 0, .int .i64 0, .int .i64 0, .int .i64 0, .int .i64 0], false⟩,
  ⟨.func, 1, 8, [.nilf], false⟩,
  ⟨.func, 1, 8, [.nilf], false⟩,
  ⟨.func, 1, 8, [.nilf], false⟩,
  ⟨.func, 1, 8, [.nilf], false⟩,
  ⟨.func, 1, 8, [.nilf], false⟩,
  ⟨.func, 1, 8, [.nilf], false⟩,
  ⟨(.slice 225), 1, 24, [.fslice []], false⟩,
  ⟨.func, 1, 8, [.nilf], false⟩,
  ⟨(.struct [(3, 0), (3, 1), (3, 2), (3, 3), (30, 4)]), 6, 72, [.int .i64 0, .int .i64 0, .int .i64 0, .int .i64 0, .str [], .fslice []], false⟩,
  ⟨(.struct [(3, 0), (3, 1), (3, 2), (3, 3), (30, 4)]), 6, 72, [.int .i64 0, .int .i64 0, .int .i64 0, .int .i64 0, .str [], .fslice []], false⟩,
  ⟨.func, 1, 8, [.nilf], false⟩,
  ⟨.func, 1, 8, [.nilf], false⟩,
  ⟨.func, 1, 8, [.nilf], false⟩,
  ⟨(.slice 51), 1, 24, [.fslice []], false⟩,
  ⟨(.struct [(3, 0), (181, 1), (3, 2)]), 3, 40, [.int .i64 0, .fslice [], .int .i64 0], false⟩,
  ⟨(.struct [(3, 0), (181, 1), (3, 2)]), 3, 40, [.int .i64 0, .fslice [], .int .i64 0], false⟩,
  ⟨.func, 1, 8, [.nilf], false⟩,
  ⟨(.struct [(3, 0), (3, 1), (3, 2), (3, 3), (50, 4)]), 5, 56, [.int .i64 0, .int .i64 0, .int .i64 0, .int .i64 0, .fslice []], false⟩,
  ⟨(.struct [(3, 0), (3, 1), (3, 2), (3, 3), (50, 4)]), 5, 56, [.int .i64 0, .int .i64 0, .int .i64 0, .int .i64 0, .fslice []], false⟩,
  ⟨.func, 1, 8, [.nilf], false⟩,
  ⟨.func, 1, 8, [.nilf], false⟩,
  ⟨.func, 1, 8, [.nilf], false⟩,
  ⟨.func, 1, 8, [.nilf], false⟩,
  ⟨.func, 1, 8, [.nilf], false⟩,
  ⟨.func, 1, 8, [.nilf], false⟩,
  ⟨.func, 1, 8, [.nilf], false⟩,
  ⟨.func, 1, 8, [.nilf], false⟩,
  ⟨.func, 1, 8, [.nilf], false⟩,
  ⟨(.struct [(3, 0), (58, 1)]), 2, 32, [.int .i64 0, .fslice []], false⟩,
  ⟨(.struct [(3, 0), (58, 1)]), 2, 32, [.int .i64 0, .fslice []], false⟩,
  ⟨.func, 1, 8, [.nilf], false⟩,
  ⟨(.struct [(3, 0), (3, 1), (4, 2), (4, 3)]), 4, 24, [.int .i64 0, .int .i64 0, .bool false, .bool false], true⟩,
  ⟨(.struct [(3, 0), (3, 1), (4, 2), (4, 3)]), 4, 24, [.int .i64 0, .int .i64 0, .bool false, .bool false], true⟩,
  ⟨.func, 1, 8, [.nilf], false⟩,
  ⟨.func, 1, 8, [.nilf], false⟩,
  ⟨.func, 1, 8, [.nilf], false⟩,
  ⟨.func, 1, 8, [.nilf], false⟩,
  ⟨.func, 1, 8, [.nilf], false⟩,
  ⟨.func, 1, 8, [.nilf], false⟩,
  ⟨.func, 1, 8, [.nilf], false⟩,
  ⟨.func, 1, 8, [.nilf], false⟩,
  ⟨.func, 1, 8, [.nilf], false⟩,
  ⟨.func, 1, 8, [.nilf], false⟩,
  ⟨.func, 1, 8, [.nilf], false⟩,
  ⟨(.struct [(3, 0), (3, 1)]), 2, 16, [.int .i64 0, .int .i64 0], true⟩,
  ⟨(.struct [(3, 0), (3, 1)]), 2, 16, [.int .i64 0, .int .i64 0], true⟩,
  ⟨.func, 1, 8, [.nilf], false⟩,
  ⟨.func, 1, 8, [.nilf], false⟩,
  ⟨(.int .u64), 1, 8, [.int .u64 0], false⟩,
  ⟨.func, 1, 8, [.nilf], false⟩,
  ⟨.func, 1, 8, [.nilf], false⟩,
  ⟨.func, 1, 8, [.nilf], false⟩,
  ⟨(.ptr 5), 1, 8, [.nilp], false⟩,
  ⟨(.struct [(5, 0), (3, 1)]), 2, 16, [.int .u8 0, .int .i64 0], true⟩,
  ⟨(.struct [(5, 0), (3, 1)]), 2, 16, [.int .u8 0, .int .i64 0], true⟩,
  ⟨.func, 1, 8, [.nilf], false⟩,
  ⟨(.struct [(3, 0), (30, 1), (9, 3), (31, 4), (50, 5), (174, 6), (30, 7), (3, 9)]), 10, 184, [.int .i64 0, .str [], .fslice [], .str [], .fslice [], .fslice [], .fslice [], .str [], .fslice [], .int .i64 0], false⟩,
  ⟨(.struct [(3, 0), (30, 1), (9, 3), (31, 4), (50, 5), (174, 6), (30, 7), (3, 9)]), 10, 184, [.int .i64 0, .str [], .fslice [], .str [], .fslice [], .fslice [], .fslice [], .str [], .fslice [], .int .i64 0], false⟩,
  ⟨.func, 1, 8, [.nilf], false⟩,
  ⟨.func, 1, 8, [.nilf], false⟩,
  ⟨.func, 1, 8, [.nilf], false⟩,
  ⟨.other, 0, 0, [], false⟩,
  ⟨.func, 1, 8, [.nilf], false⟩,
  ⟨.func, 1, 8, [.nilf], false⟩,
  ⟨.func, 1, 8, [.nilf], false⟩,
  ⟨.func, 1, 8, [.nilf], false⟩,
  ⟨.func, 1, 8, [.nilf], false⟩,
  ⟨.func, 1, 8, [.nilf], false⟩,
  ⟨.func, 1, 8, [.nilf], false⟩,
  ⟨.other, 0, 0, [], false⟩,
  ⟨.func, 1, 8, [.nilf], false⟩,
  ⟨.func, 1, 8, [.nilf], false⟩,
  ⟨.func, 1, 8, [.nilf], false⟩,
  ⟨.func, 1, 8, [.nilf], false⟩,
  ⟨.other, 0, 0, [], false⟩,
  ⟨.other, 0, 0, [], false⟩,
  ⟨.other, 0, 0, [], false⟩,
  ⟨.other, 0, 0, [], false⟩,
  ⟨.other, 0, 0, [], false⟩,
  ⟨(.int .u32), 1, 4, [.int .u32 0], false⟩,
  ⟨.other, 0, 0, [], false⟩,
  ⟨.other, 0, 0, [], false⟩,
  ⟨.func, 1, 8, [.nilf], false⟩,
  ⟨.other, 0, 0, [], false⟩,
  ⟨.other, 0, 0, [], false⟩,
  ⟨.other, 0, 0, [], false⟩,
  ⟨.other, 0, 0, [], false⟩]
def T (t : Nat) : TD := TL.getD t ⟨.other, 0, 0, [], false⟩
theorem T_1 : T 1 = ⟨.func, 1, 8, [.nilf], false⟩ := rfl
theorem T_2 : T 2 = ⟨(.int .i64), 1, 8, [.int .i64 0], false⟩ := rfl
theorem T_3 : T 3 = ⟨(.int .i64), 1, 8, [.int .i64 0], false⟩ := rfl
theorem T_4 : T 4 = ⟨.bool, 1, 1, [.bool false], false⟩ := rfl
theorem T_5 : T 5 = ⟨(.int .u8), 1, 1, [.int .u8 0], false⟩ := rfl
theorem T_9 : T 9 = ⟨.str, 1, 16, [.str []], false⟩ := rfl
theorem T_12 : T 12 = ⟨(.int .u64), 1, 8, [.int .u64 0], false⟩ := rfl
theorem T_13 : T 13 = ⟨(.struct [(9, 0), (12, 1)]), 2, 24, [.str [], .int .u64 0], false⟩ := rfl
theorem T_19 : T 19 = ⟨(.struct [(17, 0)]), 1, 8, [.nilp], false⟩ := rfl
theorem T_20 : T 20 = ⟨.iface, 1, 16, [.nili], false⟩ := rfl
theorem T_21 : T 21 = ⟨(.int .i32), 1, 4, [.int .i32 0], false⟩ := rfl
theorem T_22 : T 22 = ⟨(.slice 33), 1, 24, [.fslice []], false⟩ := rfl
theorem T_23 : T 23 = ⟨.func, 1, 8, [.nilf], false⟩ := rfl
theorem T_24 : T 24 = ⟨(.slice 136), 1, 24, [.fslice []], false⟩ := rfl
theorem T_26 : T 26 = ⟨.func, 1, 8, [.nilf], false⟩ := rfl
theorem T_27 : T 27 = ⟨(.slice 9), 1, 24, [.fslice []], false⟩ := rfl
theorem T_28 : T 28 = ⟨(.slice 213), 1, 24, [.fslice []], false⟩ := rfl
theorem T_29 : T 29 = ⟨(.struct [(9, 0), (28, 1)]), 2, 40, [.str [], .fslice []], false⟩ := rfl
theorem T_30 : T 30 = ⟨(.struct [(9, 0), (28, 1)]), 2, 40, [.str [], .fslice []], false⟩ := rfl
theorem T_31 : T 31 = ⟨(.slice 126), 1, 24, [.fslice []], false⟩ := rfl
theorem T_32 : T 32 = ⟨(.struct [(3, 0), (30, 1), (31, 3), (4, 4), (30, 5)]), 7, 120, [.int .i64 0, .str [], .fslice [], .fslice [], .bool false, .str [], .fslice []], false⟩ := rfl
theorem T_33 : T 33 = ⟨(.struct [(3, 0), (30, 1), (31, 3), (4, 4), (30, 5)]), 7, 120, [.int .i64 0, .str [], .fslice [], .fslice [], .bool false, .str [], .fslice []], false⟩ := rfl
theorem T_34 : T 34 = ⟨.func, 1, 8, [.nilf], false⟩ := rfl
theorem T_35 : T 35 = ⟨.func, 1, 8, [.nilf], false⟩ := rfl
theorem T_36 : T 36 = ⟨.func, 1, 8, [.nilf], false⟩ := rfl
theorem T_37 : T 37 = ⟨.func, 1, 8, [.nilf], false⟩ := rfl
theorem T_38 : T 38 = ⟨.func, 1, 8, [.nilf], false⟩ := rfl
theorem T_39 : T 39 = ⟨.func, 1, 8, [.nilf], false⟩ := rfl
theorem T_40 : T 40 = ⟨.func, 1, 8, [.nilf], false⟩ := rfl
theorem T_41 : T 41 = ⟨.func, 1, 8, [.nilf], false⟩ := rfl
theorem T_42 : T 42 = ⟨.func, 1, 8, [.nilf], false⟩ := rfl
theorem T_43 : T 43 = ⟨.func, 1, 8, [.nilf], false⟩ := rfl
theorem T_44 : T 44 = ⟨.func, 1, 8, [.nilf], false⟩ := rfl
theorem T_45 : T 45 = ⟨.func, 1, 8, [.nilf], false⟩ := rfl
theorem T_46 : T 46 = ⟨.func, 1, 8, [.nilf], false⟩ := rfl
theorem T_47 : T 47 = ⟨.func, 1, 8, [.nilf], false⟩ := rfl
theorem T_48 : T 48 = ⟨.func, 1, 8, [.nilf], false⟩ := rfl
theorem T_49 : T 49 = ⟨.func, 1, 8, [.nilf], false⟩ := rfl
theorem T_50 : T 50 = ⟨(.slice 64), 1, 24, [.fslice []], false⟩ := rfl
theorem T_51 : T 51 = ⟨(.ptr 167), 1, 8, [.nilp], false⟩ := rfl
theorem T_52 : T 52 = ⟨.func, 1, 8, [.nilf], false⟩ := rfl
theorem T_53 : T 53 = ⟨(.int .i64), 1, 8, [.int .i64 0], false⟩ := rfl
theorem T_55 : T 55 = ⟨.func, 1, 8, [.nilf], false⟩ := rfl
theorem T_56 : T 56 = ⟨.func, 1, 8, [.nilf], false⟩ := rfl
theorem T_57 : T 57 = ⟨.func, 1, 8, [.nilf], false⟩ := rfl
theorem T_58 : T 58 = ⟨(.slice 3), 1, 24, [.fslice []], false⟩ := rfl
theorem T_59 : T 59 = ⟨(.struct [(3, 0), (3, 1), (3, 2), (3, 3), (30, 4), (9, 6), (3, 7), (31, 8), (50, 9), (58, 10), (30, 11)]), 13, 208, [.int .i64 0, .int .i64 0, .int .i64 0, .int .i64 0, .str [], .fslice [], .str [], .int .i64 0, .fslice [], .fslice [], .fslice [], .str [], .fslice []], false⟩ := rfl
theorem T_60 : T 60 = ⟨(.struct [(3, 0), (3, 1), (3, 2), (3, 3), (30, 4), (9, 6), (3, 7), (31, 8), (50, 9), (58, 10), (30, 11)]), 13, 208, [.int .i64 0, .int .i64 0, .int .i64 0, .int .i64 0, .str [], .fslice [], .str [], .int .i64 0, .fslice [], .fslice [], .fslice [], .str [], .fslice []], false⟩ := rfl
theorem T_62 : T 62 = ⟨.func, 1, 8, [.nilf], false⟩ := rfl
theorem T_63 : T 63 = ⟨(.struct [(3, 0), (4, 1), (3, 2)]), 3, 24, [.int .i64 0, .bool false, .int .i64 0], true⟩ := rfl
theorem T_64 : T 64 = ⟨(.struct [(3, 0), (4, 1), (3, 2)]), 3, 24, [.int .i64 0, .bool false, .int .i64 0], true⟩ := rfl
theorem T_65 : T 65 = ⟨.func, 1, 8, [.nilf], false⟩ := rfl
theorem T_66 : T 66 = ⟨(.slice 177), 1, 24, [.fslice []], false⟩ := rfl
theorem T_68 : T 68 = ⟨.func, 1, 8, [.nilf], false⟩ := rfl
theorem T_69 : T 69 = ⟨.func, 1, 8, [.nilf], false⟩ := rfl
theorem T_70 : T 70 = ⟨.func, 1, 8, [.nilf], false⟩ := rfl
theorem T_71 : T 71 = ⟨.func, 1, 8, [.nilf], false⟩ := rfl
theorem T_72 : T 72 = ⟨.func, 1, 8, [.nilf], false⟩ := rfl
theorem T_73 : T 73 = ⟨.func, 1, 8, [.nilf], false⟩ := rfl
theorem T_74 : T 74 = ⟨.func, 1, 8, [.nilf], false⟩ := rfl
theorem T_75 : T 75 = ⟨(.slice 79), 1, 24, [.fslice []], false⟩ := rfl
theorem T_76 : T 76 = ⟨(.ptr 183), 1, 8, [.nilp], false⟩ := rfl
theorem T_77 : T 77 = ⟨.func, 1, 8, [.nilf], false⟩ := rfl
theorem T_78 : T 78 = ⟨(.struct [(3, 0), (9, 1)]), 2, 24, [.int .i64 0, .str []], true⟩ := rfl
theorem T_79 : T 79 = ⟨(.struct [(3, 0), (9, 1)]), 2, 24, [.int .i64 0, .str []], true⟩ := rfl
theorem T_80 : T 80 = ⟨.func, 1, 8, [.nilf], false⟩ := rfl
theorem T_81 : T 81 = ⟨.func, 1, 8, [.nilf], false⟩ := rfl
theorem T_82 : T 82 = ⟨.func, 1, 8, [.nilf], false⟩ := rfl
theorem T_84 : T 84 = ⟨.func, 1, 8, [.nilf], false⟩ := rfl
theorem T_85 : T 85 = ⟨.func, 1, 8, [.nilf], false⟩ := rfl
theorem T_87 : T 87 = ⟨.func, 1, 8, [.nilf], false⟩ := rfl
theorem T_88 : T 88 = ⟨.func, 1, 8, [.nilf], false⟩ := rfl
theorem T_89 : T 89 = ⟨(.slice 186), 1, 24, [.fslice []], false⟩ := rfl
theorem T_90 : T 90 = ⟨.func, 1, 8, [.nilf], false⟩ := rfl
theorem T_91 : T 91 = ⟨.func, 1, 8, [.nilf], false⟩ := rfl
theorem T_92 : T 92 = ⟨(.slice 97), 1, 24, [.fslice []], false⟩ := rfl
theorem T_93 : T 93 = ⟨.func, 1, 8, [.nilf], false⟩ := rfl
theorem T_94 : T 94 = ⟨.func, 1, 8, [.nilf], false⟩ := rfl
theorem T_95 : T 95 = ⟨.func, 1, 8, [.nilf], false⟩ := rfl
theorem T_96 : T 96 = ⟨(.struct [(3, 0), (3, 1), (3, 2), (3, 3)]), 4, 32, [.int .i64 0, .int .i64 0, .int .i64 0, .int .i64 0], true⟩ := rfl
theorem T_97 : T 97 = ⟨(.struct [(3, 0), (3, 1), (3, 2), (3, 3)]), 4, 32, [.int .i64 0, .int .i64 0, .int .i64 0, .int .i64 0], true⟩ := rfl
theorem T_98 : T 98 = ⟨.func, 1, 8, [.nilf], false⟩ := rfl
theorem T_99 : T 99 = ⟨.func, 1, 8, [.nilf], false⟩ := rfl
theorem T_100 : T 100 = ⟨(.ptr 197), 1, 8, [.nilp], false⟩ := rfl
theorem T_101 : T 101 = ⟨.func, 1, 8, [.nilf], false⟩ := rfl
theorem T_102 : T 102 = ⟨.func, 1, 8, [.nilf], false⟩ := rfl
theorem T_103 : T 103 = ⟨.func, 1, 8, [.nilf], false⟩ := rfl
theorem T_105 : T 105 = ⟨.func, 1, 8, [.nilf], false⟩ := rfl
theorem T_106 : T 106 = ⟨.func, 1, 8, [.nilf], false⟩ := rfl
theorem T_107 : T 107 = ⟨(.slice 200), 1, 24, [.fslice []], false⟩ := rfl
theorem T_108 : T 108 = ⟨.func, 1, 8, [.nilf], false⟩ := rfl
theorem T_109 : T 109 = ⟨.func, 1, 8, [.nilf], false⟩ := rfl
theorem T_110 : T 110 = ⟨.func, 1, 8, [.nilf], false⟩ := rfl
theorem T_112 : T 112 = ⟨.func, 1, 8, [.nilf], false⟩ := rfl
theorem T_113 : T 113 = ⟨.func, 1, 8, [.nilf], false⟩ := rfl
theorem T_114 : T 114 = ⟨.func, 1, 8, [.nilf], false⟩ := rfl
theorem T_115 : T 115 = ⟨.func, 1, 8, [.nilf], false⟩ := rfl
theorem T_116 : T 116 = ⟨.func, 1, 8, [.nilf], false⟩ := rfl
theorem T_117 : T 117 = ⟨(.slice 128), 1, 24, [.fslice []], false⟩ := rfl
theorem T_118 : T 118 = ⟨(.ptr 123), 1, 8, [.nilp], false⟩ := rfl
theorem T_119 : T 119 = ⟨(.struct [(3, 0), (3, 1), (58, 2), (31, 3), (30, 4), (4, 6)]), 7, 112, [.int .i64 0, .int .i64 0, .fslice [], .fslice [], .str [], .fslice [], .bool false], false⟩ := rfl
theorem T_120 : T 120 = ⟨(.struct [(3, 0), (3, 1), (58, 2), (31, 3), (30, 4), (4, 6)]), 7, 112, [.int .i64 0, .int .i64 0, .fslice [], .fslice [], .str [], .fslice [], .bool false], false⟩ := rfl
theorem T_121 : T 121 = ⟨(.slice 120), 1, 24, [.fslice []], false⟩ := rfl
theorem T_122 : T 122 = ⟨(.struct [(121, 0)]), 1, 24, [.fslice []], false⟩ := rfl
theorem T_123 : T 123 = ⟨(.struct [(121, 0)]), 1, 24, [.fslice []], false⟩ := rfl
theorem T_124 : T 124 = ⟨.func, 1, 8, [.nilf], false⟩ := rfl
theorem T_125 : T 125 = ⟨(.struct [(30, 0), (30, 2)]), 4, 80, [.str [], .fslice [], .str [], .fslice []], false⟩ := rfl
theorem T_126 : T 126 = ⟨(.struct [(30, 0), (30, 2)]), 4, 80, [.str [], .fslice [], .str [], .fslice []], false⟩ := rfl
theorem T_127 : T 127 = ⟨(.struct [(3, 0), (3, 1), (3, 2), (126, 3)]), 7, 104, [.int .i64 0, .int .i64 0, .int .i64 0, .str [], .fslice [], .str [], .fslice []], false⟩ := rfl
theorem T_128 : T 128 = ⟨(.struct [(3, 0), (3, 1), (3, 2), (126, 3)]), 7, 104, [.int .i64 0, .int .i64 0, .int .i64 0, .str [], .fslice [], .str [], .fslice []], false⟩ := rfl
theorem T_129 : T 129 = ⟨.func, 1, 8, [.nilf], false⟩ := rfl
theorem T_130 : T 130 = ⟨.func, 1, 8, [.nilf], false⟩ := rfl
theorem T_131 : T 131 = ⟨.func, 1, 8, [.nilf], false⟩ := rfl
theorem T_132 : T 132 = ⟨.func, 1, 8, [.nilf], false⟩ := rfl
theorem T_133 : T 133 = ⟨.func, 1, 8, [.nilf], false⟩ := rfl
theorem T_134 : T 134 = ⟨.func, 1, 8, [.nilf], false⟩ := rfl
theorem T_135 : T 135 = ⟨(.struct [(30, 0), (31, 2), (24, 3), (30, 4)]), 6, 128, [.str [], .fslice [], .fslice [], .fslice [], .str [], .fslice []], false⟩ := rfl
theorem T_136 : T 136 = ⟨(.struct [(30, 0), (31, 2), (24, 3), (30, 4)]), 6, 128, [.str [], .fslice [], .fslice [], .fslice [], .str [], .fslice []], false⟩ := rfl
theorem T_137 : T 137 = ⟨(.ptr 140), 1, 8, [.nilp], false⟩ := rfl
theorem T_138 : T 138 = ⟨.func, 1, 8, [.nilf], false⟩ := rfl
theorem T_139 : T 139 = ⟨(.struct [(24, 0)]), 1, 24, [.fslice []], false⟩ := rfl
theorem T_140 : T 140 = ⟨(.struct [(24, 0)]), 1, 24, [.fslice []], false⟩ := rfl
theorem T_141 : T 141 = ⟨(.ptr 136), 1, 8, [.nilp], false⟩ := rfl
theorem T_142 : T 142 = ⟨.func, 1, 8, [.nilf], false⟩ := rfl
theorem T_143 : T 143 = ⟨.func, 1, 8, [.nilf], false⟩ := rfl
theorem T_144 : T 144 = ⟨.func, 1, 8, [.nilf], false⟩ := rfl
theorem T_145 : T 145 = ⟨.func, 1, 8, [.nilf], false⟩ := rfl
theorem T_146 : T 146 = ⟨.func, 1, 8, [.nilf], false⟩ := rfl
theorem T_147 : T 147 = ⟨.func, 1, 8, [.nilf], false⟩ := rfl
theorem T_148 : T 148 = ⟨.func, 1, 8, [.nilf], false⟩ := rfl
theorem T_149 : T 149 = ⟨.func, 1, 8, [.nilf], false⟩ := rfl
theorem T_150 : T 150 = ⟨(.ptr 153), 1, 8, [.nilp], false⟩ := rfl
theorem T_151 : T 151 = ⟨(.slice 5), 1, 24, [.fslice []], false⟩ := rfl
theorem T_152 : T 152 = ⟨(.struct [(150, 0), (151, 1)]), 2, 32, [.nilp, .fslice []], false⟩ := rfl
theorem T_153 : T 153 = ⟨(.struct [(150, 0), (151, 1)]), 2, 32, [.nilp, .fslice []], false⟩ := rfl
theorem T_154 : T 154 = ⟨.iface, 1, 16, [.nili], false⟩ := rfl
theorem T_155 : T 155 = ⟨.iface, 1, 16, [.nili], false⟩ := rfl
theorem T_157 : T 157 = ⟨.func, 1, 8, [.nilf], false⟩ := rfl
theorem T_158 : T 158 = ⟨.func, 1, 8, [.nilf], false⟩ := rfl
theorem T_159 : T 159 = ⟨.func, 1, 8, [.nilf], false⟩ := rfl
theorem T_160 : T 160 = ⟨.func, 1, 8, [.nilf], false⟩ := rfl
theorem T_161 : T 161 = ⟨(.slice 222), 1, 24, [.fslice []], false⟩ := rfl
theorem T_162 : T 162 = ⟨.func, 1, 8, [.nilf], false⟩ := rfl
theorem T_163 : T 163 = ⟨(.slice 30), 1, 24, [.fslice []], false⟩ := rfl
theorem T_164 : T 164 = ⟨(.map 3 60), 1, 8, [.nilm], false⟩ := rfl
theorem T_165 : T 165 = ⟨(.array 4 3), 4, 32, [.int .i64 0, .int .i64 0, .int .i64 0, .int .i64 0], false⟩ := rfl
theorem T_166 : T 166 = ⟨(.struct [(164, 0), (165, 1), (165, 5)]), 9, 72, [.nilm, .int .i64 0, .int .i64 0, .int .i64 0, .int .i64 0, .int .i64 0, .int .i64 0, .int .i64 0, .int .i64 0], false⟩ := rfl
theorem T_167 : T 167 = ⟨(.struct [(164, 0), (165, 1), (165, 5)]), 9, 72, [.nilm, .int .i64 0, .int .i64 0, .int .i64 0, .int .i64 0, .int .i64 0, .int .i64 0, .int .i64 0, .int .i64 0], false⟩ := rfl
theorem T_168 : T 168 = ⟨.func, 1, 8, [.nilf], false⟩ := rfl
theorem T_169 : T 169 = ⟨.func, 1, 8, [.nilf], false⟩ := rfl
theorem T_170 : T 170 = ⟨.func, 1, 8, [.nilf], false⟩ := rfl
theorem T_171 : T 171 = ⟨.func, 1, 8, [.nilf], false⟩ := rfl
theorem T_172 : T 172 = ⟨.func, 1, 8, [.nilf], false⟩ := rfl
theorem T_173 : T 173 = ⟨.func, 1, 8, [.nilf], false⟩ := rfl
theorem T_174 : T 174 = ⟨(.slice 225), 1, 24, [.fslice []], false⟩ := rfl
theorem T_175 : T 175 = ⟨.func, 1, 8, [.nilf], false⟩ := rfl
theorem T_176 : T 176 = ⟨(.struct [(3, 0), (3, 1), (3, 2), (3, 3), (30, 4)]), 6, 72, [.int .i64 0, .int .i64 0, .int .i64 0, .int .i64 0, .str [], .fslice []], false⟩ := rfl
theorem T_177 : T 177 = ⟨(.struct [(3, 0), (3, 1), (3, 2), (3, 3), (30, 4)]), 6, 72, [.int .i64 0, .int .i64 0, .int .i64 0, .int .i64 0, .str [], .fslice []], false⟩ := rfl
theorem T_178 : T 178 = ⟨.func, 1, 8, [.nilf], false⟩ := rfl
theorem T_179 : T 179 = ⟨.func, 1, 8, [.nilf], false⟩ := rfl
theorem T_180 : T 180 = ⟨.func, 1, 8, [.nilf], false⟩ := rfl
theorem T_181 : T 181 = ⟨(.slice 51), 1, 24, [.fslice []], false⟩ := rfl
theorem T_182 : T 182 = ⟨(.struct [(3, 0), (181, 1), (3, 2)]), 3, 40, [.int .i64 0, .fslice [], .int .i64 0], false⟩ := rfl
theorem T_183 : T 183 = ⟨(.struct [(3, 0), (181, 1), (3, 2)]), 3, 40, [.int .i64 0, .fslice [], .int .i64 0], false⟩ := rfl
theorem T_184 : T 184 = ⟨.func, 1, 8, [.nilf], false⟩ := rfl
theorem T_185 : T 185 = ⟨(.struct [(3, 0), (3, 1), (3, 2), (3, 3), (50, 4)]), 5, 56, [.int .i64 0, .int .i64 0, .int .i64 0, .int .i64 0, .fslice []], false⟩ := rfl
theorem T_186 : T 186 = ⟨(.struct [(3, 0), (3, 1), (3, 2), (3, 3), (50, 4)]), 5, 56, [.int .i64 0, .int .i64 0, .int .i64 0, .int .i64 0, .fslice []], false⟩ := rfl
theorem T_187 : T 187 = ⟨.func, 1, 8, [.nilf], false⟩ := rfl
theorem T_188 : T 188 = ⟨.func, 1, 8, [.nilf], false⟩ := rfl
theorem T_189 : T 189 = ⟨.func, 1, 8, [.nilf], false⟩ := rfl
theorem T_190 : T 190 = ⟨.func, 1, 8, [.nilf], false⟩ := rfl
theorem T_191 : T 191 = ⟨.func, 1, 8, [.nilf], false⟩ := rfl
theorem T_192 : T 192 = ⟨.func, 1, 8, [.nilf], false⟩ := rfl
theorem T_193 : T 193 = ⟨.func, 1, 8, [.nilf], false⟩ := rfl
theorem T_194 : T 194 = ⟨.func, 1, 8, [.nilf], false⟩ := rfl
theorem T_195 : T 195 = ⟨.func, 1, 8, [.nilf], false⟩ := rfl
theorem T_196 : T 196 = ⟨(.struct [(3, 0), (58, 1)]), 2, 32, [.int .i64 0, .fslice []], false⟩ := rfl
theorem T_197 : T 197 = ⟨(.struct [(3, 0), (58, 1)]), 2, 32, [.int .i64 0, .fslice []], false⟩ := rfl
theorem T_198 : T 198 = ⟨.func, 1, 8, [.nilf], false⟩ := rfl
theorem T_199 : T 199 = ⟨(.struct [(3, 0), (3, 1), (4, 2), (4, 3)]), 4, 24, [.int .i64 0, .int .i64 0, .bool false, .bool false], true⟩ := rfl
theorem T_200 : T 200 = ⟨(.struct [(3, 0), (3, 1), (4, 2), (4, 3)]), 4, 24, [.int .i64 0, .int .i64 0, .bool false, .bool false], true⟩ := rfl
theorem T_201 : T 201 = ⟨.func, 1, 8, [.nilf], false⟩ := rfl
theorem T_202 : T 202 = ⟨.func, 1, 8, [.nilf], false⟩ := rfl
theorem T_203 : T 203 = ⟨.func, 1, 8, [.nilf], false⟩ := rfl
theorem T_204 : T 204 = ⟨.func, 1, 8, [.nilf], false⟩ := rfl
theorem T_205 : T 205 = ⟨.func, 1, 8, [.nilf], false⟩ := rfl
theorem T_206 : T 206 = ⟨.func, 1, 8, [.nilf], false⟩ := rfl
theorem T_207 : T 207 = ⟨.func, 1, 8, [.nilf], false⟩ := rfl
theorem T_208 : T 208 = ⟨.func, 1, 8, [.nilf], false⟩ := rfl
theorem T_209 : T 209 = ⟨.func, 1, 8, [.nilf], false⟩ := rfl
theorem T_210 : T 210 = ⟨.func, 1, 8, [.nilf], false⟩ := rfl
theorem T_211 : T 211 = ⟨.func, 1, 8, [.nilf], false⟩ := rfl
theorem T_212 : T 212 = ⟨(.struct [(3, 0), (3, 1)]), 2, 16, [.int .i64 0, .int .i64 0], true⟩ := rfl
theorem T_213 : T 213 = ⟨(.struct [(3, 0), (3, 1)]), 2, 16, [.int .i64 0, .int .i64 0], true⟩ := rfl
theorem T_214 : T 214 = ⟨.func, 1, 8, [.nilf], false⟩ := rfl
theorem T_215 : T 215 = ⟨.func, 1, 8, [.nilf], false⟩ := rfl
theorem T_216 : T 216 = ⟨(.int .u64), 1, 8, [.int .u64 0], false⟩ := rfl
theorem T_217 : T 217 = ⟨.func, 1, 8, [.nilf], false⟩ := rfl
theorem T_218 : T 218 = ⟨.func, 1, 8, [.nilf], false⟩ := rfl
theorem T_219 : T 219 = ⟨.func, 1, 8, [.nilf], false⟩ := rfl
theorem T_220 : T 220 = ⟨(.ptr 5), 1, 8, [.nilp], false⟩ := rfl
theorem T_221 : T 221 = ⟨(.struct [(5, 0), (3, 1)]), 2, 16, [.int .u8 0, .int .i64 0], true⟩ := rfl
theorem T_222 : T 222 = ⟨(.struct [(5, 0), (3, 1)]), 2, 16, [.int .u8 0, .int .i64 0], true⟩ := rfl
theorem T_223 : T 223 = ⟨.func, 1, 8, [.nilf], false⟩ := rfl
theorem T_224 : T 224 = ⟨(.struct [(3, 0), (30, 1), (9, 3), (31, 4), (50, 5), (174, 6), (30, 7), (3, 9)]), 10, 184, [.int .i64 0, .str [], .fslice [], .str [], .fslice [], .fslice [], .fslice [], .str [], .fslice [], .int .i64 0], false⟩ := rfl
theorem T_225 : T 225 = ⟨(.struct [(3, 0), (30, 1), (9, 3), (31, 4), (50, 5), (174, 6), (30, 7), (3, 9)]), 10, 184, [.int .i64 0, .str [], .fslice [], .str [], .fslice [], .fslice [], .fslice [], .str [], .fslice [], .int .i64 0], false⟩ := rfl
theorem T_226 : T 226 = ⟨.func, 1, 8, [.nilf], false⟩ := rfl
theorem T_227 : T 227 = ⟨.func, 1, 8, [.nilf], false⟩ := rfl
theorem T_228 : T 228 = ⟨.func, 1, 8, [.nilf], false⟩ := rfl
theorem T_230 : T 230 = ⟨.func, 1, 8, [.nilf], false⟩ := rfl
theorem T_231 : T 231 = ⟨.func, 1, 8, [.nilf], false⟩ := rfl
theorem T_232 : T 232 = ⟨.func, 1, 8, [.nilf], false⟩ := rfl
theorem T_233 : T 233 = ⟨.func, 1, 8, [.nilf], false⟩ := rfl
theorem T_234 : T 234 = ⟨.func, 1, 8, [.nilf], false⟩ := rfl
theorem T_235 : T 235 = ⟨.func, 1, 8, [.nilf], false⟩ := rfl
theorem T_236 : T 236 = ⟨.func, 1, 8, [.nilf], false⟩ := rfl
theorem T_238 : T 238 = ⟨.func, 1, 8, [.nilf], false⟩ := rfl
theorem T_239 : T 239 = ⟨.func, 1, 8, [.nilf], false⟩ := rfl
theorem T_240 : T 240 = ⟨.func, 1, 8, [.nilf], false⟩ := rfl
theorem T_241 : T 241 = ⟨.func, 1, 8, [.nilf], false⟩ := rfl
theorem T_247 : T 247 = ⟨(.int .u32), 1, 4, [.int .u32 0], false⟩ := rfl
theorem T_250 : T 250 = ⟨.func, 1, 8, [.nilf], false⟩ := rfl
theorem TB : type_of% (And.intro (And.intro (And.intro (And.intro (And.intro (And.intro (And.intro (T_1) (And.intro (T_2) (T_3))) (And.intro (T_4) (And.intro (T_5) (T_9)))) (And.intro (And.intro (T_12) (And.intro (T_13) (T_19))) (And.intro (And.intro (T_20) (T_21)) (And.intro (T_22) (T_23))))) (And.intro (And.intro (And.intro (T_24) (And.intro (T_26) (T_27))) (And.intro (And.intro (T_28) (T_29)) (And.intro (T_30) (T_31)))) (And.intro (And.intro (T_32) (And.intro (T_33) (T_34))) (And.intro (And.intro (T_35) (T_36)) (And.intro (T_37) (T_38)))))) (And.intro (And.intro (And.intro (And.intro (T_39) (And.intro (T_40) (T_41))) (And.intro (And.intro (T_42) (T_43)) (And.intro (T_44) (T_45)))) (And.intro (And.intro (T_46) (And.intro (T_47) (T_48))) (And.intro (And.intro (T_49) (T_50)) (And.intro (T_51) (T_52))))) (And.intro (And.intro (And.intro (T_53) (And.intro (T_55) (T_56))) (And.intro (And.intro (T_57) (T_58)) (And.intro (T_59) (T_60)))) (And.intro (And.intro (T_62) (And.intro (T_63) (T_64))) (And.intro (And.intro (T_65) (T_66)) (And.intro (T_68) (T_69))))))) (And.intro (And.intro (And.intro (And.intro (And.intro (T_70) (And.intro (T_71) (T_72))) (And.intro (And.intro (T_73) (T_74)) (And.intro (T_75) (T_76)))) (And.intro (And.intro (T_77) (And.intro (T_78) (T_79))) (And.intro (And.intro (T_80) (T_81)) (And.intro (T_82) (T_84))))) (And.intro (And.intro (And.intro (T_85) (And.intro (T_87) (T_88))) (And.intro (And.intro (T_89) (T_90)) (And.intro (T_91) (T_92)))) (And.intro (And.intro (T_93) (And.intro (T_94) (T_95))) (And.intro (And.intro (T_96) (T_97)) (And.intro (T_98) (T_99)))))) (And.intro (And.intro (And.intro (And.intro (T_100) (And.intro (T_101) (T_102))) (And.intro (And.intro (T_103) (T_105)) (And.intro (T_106) (T_107)))) (And.intro (And.intro (T_108) (And.intro (T_109) (T_110))) (And.intro (And.intro (T_112) (T_113)) (And.intro (T_114) (T_115))))) (And.intro (And.intro (And.intro (T_116) (And.intro (T_117) (T_118))) (And.intro (And.intro (T_119) (T_120)) (And.intro (T_121) (T_122)))) (And.intro (And.intro (T_123) (And.intro (T_124) (T_125))) (And.intro (And.intro (T_126) (T_127)) (And.intro (T_128) (T_129)))))))) (And.intro (And.intro (And.intro (And.intro (And.intro (And.intro (T_130) (And.intro (T_131) (T_132))) (And.intro (T_133) (And.intro (T_134) (T_135)))) (And.intro (And.intro (T_136) (And.intro (T_137) (T_138))) (And.intro (And.intro (T_139) (T_140)) (And.intro (T_141) (T_142))))) (And.intro (And.intro (And.intro (T_143) (And.intro (T_144) (T_145))) (And.intro (And.intro (T_146) (T_147)) (And.intro (T_148) (T_149)))) (And.intro (And.intro (T_150) (And.intro (T_151) (T_152))) (And.intro (And.intro (T_153) (T_154)) (And.intro (T_155) (T_157)))))) (And.intro (And.intro (And.intro (And.intro (T_158) (And.intro (T_159) (T_160))) (And.intro (And.intro (T_161) (T_162)) (And.intro (T_163) (T_164)))) (And.intro (And.intro (T_165) (And.intro (T_166) (T_167))) (And.intro (And.intro (T_168) (T_169)) (And.intro (T_170) (T_171))))) (And.intro (And.intro (And.intro (T_172) (And.intro (T_173) (T_174))) (And.intro (And.intro (T_175) (T_176)) (And.intro (T_177) (T_178)))) (And.intro (And.intro (T_179) (And.intro (T_180) (T_181))) (And.intro (And.intro (T_182) (T_183)) (And.intro (T_184) (T_185))))))) (And.intro (And.intro (And.intro (And.intro (And.intro (T_186) (And.intro (T_187) (T_188))) (And.intro (And.intro (T_189) (T_190)) (And.intro (T_191) (T_192)))) (And.intro (And.intro (T_193) (And.intro (T_194) (T_195))) (And.intro (And.intro (T_196) (T_197)) (And.intro (T_198) (T_199))))) (And.intro (And.intro (And.intro (T_200) (And.intro (T_201) (T_202))) (And.intro (And.intro (T_203) (T_204)) (And.intro (T_205) (T_206)))) (And.intro (And.intro (T_207) (And.intro (T_208) (T_209))) (And.intro (And.intro (T_210) (T_211)) (And.intro (T_212) (T_213)))))) (And.intro (And.intro (And.intro (And.intro (T_214) (And.intro (T_215) (T_216))) (And.intro (And.intro (T_217) (T_218)) (And.intro (T_219) (T_220)))) (And.intro (And.intro (T_221) (And.intro (T_222) (T_223))) (And.intro (And.intro (T_224) (T_225)) (And.intro (T_226) (T_227))))) (And.intro (And.intro (And.intro (T_228) (And.intro (T_230) (T_231))) (And.intro (And.intro (T_232) (T_233)) (And.intro (T_234) (T_235)))) (And.intro (And.intro (T_236) (And.intro (T_238) (T_239))) (And.intro (And.intro (T_240) (T_241)) (And.intro (T_247) (T_250))))))))) := And.intro (And.intro (And.intro (And.intro (And.intro (And.intro (And.intro (T_1) (And.intro (T_2) (T_3))) (And.intro (T_4) (And.intro (T_5) (T_9)))) (And.intro (And.intro (T_12) (And.intro (T_13) (T_19))) (And.intro (And.intro (T_20) (T_21)) (And.intro (T_22) (T_23))))) (And.intro (And.intro (And.intro (T_24) (And.intro (T_26) (T_27))) (And.intro (And.intro (T_28) (T_29)) (And.intro (T_30) (T_31)))) (And.intro (And.intro (T_32) (And.intro (T_33) (T_34))) (And.intro (And.intro (T_35) (T_36)) (And.intro (T_37) (T_38)))))) (And.intro (And.intro (And.intro (And.intro (T_39) (And.intro (T_40) (T_41))) (And.intro (And.intro (T_42) (T_43)) (And.intro (T_44) (T_45)))) (And.intro (And.intro (T_46) (And.intro (T_47) (T_48))) (And.intro (And.intro (T_49) (T_50)) (And.intro (T_51) (T_52))))) (And.intro (And.intro (And.intro (T_53) (And.intro (T_55) (T_56))) (And.intro (And.intro (T_57) (T_58)) (And.intro (T_59) (T_60)))) (And.intro (And.intro (T_62) (And.intro (T_63) (T_64))) (And.intro (And.intro (T_65) (T_66)) (And.intro (T_68) (T_69))))))) (And.intro (And.intro (And.intro (And.intro (And.intro (T_70) (And.intro (T_71) (T_72))) (And.intro (And.intro (T_73) (T_74)) (And.intro (T_75) (T_76)))) (And.intro (And.intro (T_77) (And.intro (T_78) (T_79))) (And.intro (And.intro (T_80) (T_81)) (And.intro (T_82) (T_84))))) (And.intro (And.intro (And.intro (T_85) (And.intro (T_87) (T_88))) (And.intro (And.intro (T_89) (T_90)) (And.intro (T_91) (T_92)))) (And.intro (And.intro (T_93) (And.intro (T_94) (T_95))) (And.intro (And.intro (T_96) (T_97)) (And.intro (T_98) (T_99)))))) (And.intro (And.intro (And.intro (And.intro (T_100) (And.intro (T_101) (T_102))) (And.intro (And.intro (T_103) (T_105)) (And.intro (T_106) (T_107)))) (And.intro (And.intro (T_108) (And.intro (T_109) (T_110))) (And.intro (And.intro (T_112) (T_113)) (And.intro (T_114) (T_115))))) (And.intro (And.intro (And.intro (T_116) (And.intro (T_117) (T_118))) (And.intro (And.intro (T_119) (T_120)) (And.intro (T_121) (T_122)))) (And.intro (And.intro (T_123) (And.intro (T_124) (T_125))) (And.intro (And.intro (T_126) (T_127)) (And.intro (T_128) (T_129)))))))) (And.intro (And.intro (And.intro (And.intro (And.intro (And.intro (T_130) (And.intro (T_131) (T_132))) (And.intro (T_133) (And.intro (T_134) (T_135)))) (And.intro (And.intro (T_136) (And.intro (T_137) (T_138))) (And.intro (And.intro (T_139) (T_140)) (And.intro (T_141) (T_142))))) (And.intro (And.intro (And.intro (T_143) (And.intro (T_144) (T_145))) (And.intro (And.intro (T_146) (T_147)) (And.intro (T_148) (T_149)))) (And.intro (And.intro (T_150) (And.intro (T_151) (T_152))) (And.intro (And.intro (T_153) (T_154)) (And.intro (T_155) (T_157)))))) (And.intro (And.intro (And.intro (And.intro (T_158) (And.intro (T_159) (T_160))) (And.intro (And.intro (T_161) (T_162)) (And.intro (T_163) (T_164)))) (And.intro (And.intro (T_165) (And.intro (T_166) (T_167))) (And.intro (And.intro (T_168) (T_169)) (And.intro (T_170) (T_171))))) (And.intro (And.intro (And.intro (T_172) (And.intro (T_173) (T_174))) (And.intro (And.intro (T_175) (T_176)) (And.intro (T_177) (T_178)))) (And.intro (And.intro (T_179) (And.intro (T_180) (T_181))) (And.intro (And.intro (T_182) (T_183)) (And.intro (T_184) (T_185))))))) (And.intro (And.intro (And.intro (And.intro (And.intro (T_186) (And.intro (T_187) (T_188))) (And.intro (And.intro (T_189) (T_190)) (And.intro (T_191) (T_192)))) (And.intro (And.intro (T_193) (And.intro (T_194) (T_195))) (And.intro (And.intro (T_196) (T_197)) (And.intro (T_198) (T_199))))) (And.intro (And.intro (And.intro (T_200) (And.intro (T_201) (T_202))) (And.intro (And.intro (T_203) (T_204)) (And.intro (T_205) (T_206)))) (And.intro (And.intro (T_207) (And.intro (T_208) (T_209))) (And.intro (And.intro (T_210) (T_211)) (And.intro (T_212) (T_213)))))) (And.intro (And.intro (And.intro (And.intro (T_214) (And.intro (T_215) (T_216))) (And.intro (And.intro (T_217) (T_218)) (And.intro (T_219) (T_220)))) (And.intro (And.intro (T_221) (And.intro (T_222) (T_223))) (And.intro (And.intro (T_224) (T_225)) (And.intro (T_226) (T_227))))) (And.intro (And.intro (And.intro (T_228) (And.intro (T_230) (T_231))) (And.intro (And.intro (T_232) (T_233)) (And.intro (T_234) (T_235)))) (And.intro (And.intro (T_236) (And.intro (T_238) (T_239))) (And.intro (And.intro (T_240) (T_241)) (And.intro (T_247) (T_250))))))))
theorem T_all : (List.range 255).all (fun t => tyCheck Try.prog t (T t)) = true := by kernel_rfl
theorem Tok : TyOK Try.prog T := by
  intro t
  by_cases h : t < 255
  · exact List.all_eq_true.1 T_all t (List.mem_range.2 h)
  · have : T t = ⟨.other, 0, 0, [], false⟩ := by
      unfold T
      have hl : TL.length = 255 := rfl
      rw [List.getD_eq_getElem?_getD, List.getElem?_eq_none (l := TL) (i := t) (by rw [hl]; exact Nat.le_of_not_lt h)]
      rfl
    rw [this]
    rfl
def keep14 : Nat → List Nat
  | 0 => [0, 1]
  | 1 => [0, 1, 9]
  | 2 => [4]
  | 3 => [0, 1, 5, 6]
  | 4 => [0, 1, 5, 6, 7]
  | 5 => [0, 1, 5, 6, 7, 13]
  | 6 => [0, 1, 5, 6, 7]
  | 7 => [0, 1, 5, 6, 7, 22]
  | 8 => [0, 1, 5, 6, 7]
  | 9 => [0, 1, 5, 6, 7]
  | 10 => [4]
  | _ => []
def tab14 : Nat → List Nat × List Nat
  | _ => ([], [])
def keep31 : Nat → List Nat
  | 0 => [2, 3]
  | 1 => [4]
  | _ => []
def tab31 : Nat → List Nat × List Nat
  | 1 => ([], [])
  | _ => ([], [])
def keep35 : Nat → List Nat
  | 0 => []
  | 1 => [1]
  | 2 => [1, 3]
  | 3 => [1, 3, 4]
  | 4 => [0]
  | _ => []
def tab35 : Nat → List Nat × List Nat
  | _ => ([], [])
def keep36 : Nat → List Nat
  | 0 => []
  | 1 => [1]
  | 2 => [1]
  | 3 => [1]
  | 4 => [0]
  | _ => []
def tab36 : Nat → List Nat × List Nat
  | 2 => ([6], [])
  | _ => ([], [])
def keep37 : Nat → List Nat
  | 0 => [0, 1, 2, 4, 5, 9]
  | 1 => [0, 1, 2, 4, 5, 9, 15]
  | 2 => [12, 13]
  | 3 => [0, 1, 2, 4, 5, 9, 19]
  | 4 => [12, 13]
  | 5 => [0, 1, 2, 4, 5, 9, 23]
  | 6 => [12, 13]
  | 7 => [0, 1, 2, 4, 5, 9, 27]
  | 8 => [12, 13]
  | 9 => [0, 1, 2, 4, 5, 9, 14]
  | 10 => [0, 1, 2, 4, 5, 9, 14]
  | 11 => [0, 1, 2, 4, 5, 9, 14]
  | 12 => [14]
  | 13 => [12, 13]
  | _ => []
def tab37 : Nat → List Nat × List Nat
  | 10 => ([10], [])
  | 11 => ([10], [])
  | 12 => ([13], [])
  | _ => ([], [])
def keep38 : Nat → List Nat
  | 0 => [0, 1, 4]
  | 1 => [4]
  | _ => []
def tab38 : Nat → List Nat × List Nat
  | _ => ([], [])
def keep39 : Nat → List Nat
  | 0 => [0, 1, 2]
  | 1 => [0, 2, 7, 8]
  | 2 => [0, 2, 7, 8, 16]
  | 3 => [6]
  | 4 => [0, 7]
  | 5 => [6]
  | _ => []
def tab39 : Nat → List Nat × List Nat
  | _ => ([], [])
def keep40 : Nat → List Nat
  | 0 => [0, 1, 4]
  | 1 => [0, 1, 4, 9]
  | 2 => [4, 5]
  | 3 => [4, 5]
  | _ => []
def tab40 : Nat → List Nat × List Nat
  | _ => ([], [])
def keep47 : Nat → List Nat
  | 0 => [0, 1]
  | 1 => [0, 1, 5, 6]
  | 2 => [0, 1, 5, 17]
  | 3 => [4]
  | 4 => [0, 5, 7]
  | 5 => [0, 7, 21, 22, 23]
  | 6 => [0, 7, 21, 22, 23, 24]
  | 7 => [0, 7, 9, 21, 22, 23]
  | 8 => [0, 7, 21, 22, 23]
  | 9 => [0, 7, 21, 22, 23]
  | 10 => [4]
  | _ => []
def tab47 : Nat → List Nat × List Nat
  | _ => ([], [])
def keep48 : Nat → List Nat
  | 0 => [2, 3]
  | 1 => [2, 3, 5]
  | 2 => [5, 6]
  | 3 => [5, 6, 13]
  | 4 => [4]
  | 5 => [4]
  | _ => []
def tab48 : Nat → List Nat × List Nat
  | _ => ([], [])
def keep59 : Nat → List Nat
  | 0 => []
  | 1 => [1]
  | 2 => [1, 2, 3]
  | 3 => [1, 2, 3]
  | 4 => [1, 2, 3]
  | 5 => [3, 4]
  | 6 => [0]
  | _ => []
def tab59 : Nat → List Nat × List Nat
  | _ => ([], [])
def keep62 : Nat → List Nat
  | 0 => [0, 1]
  | 1 => [0, 1, 9]
  | 2 => [4]
  | 3 => [0, 1, 5]
  | 4 => [0, 5, 24]
  | 5 => [4]
  | 6 => [0, 6]
  | 7 => [0, 6, 29]
  | 8 => [4]
  | 9 => [4]
  | _ => []
def tab62 : Nat → List Nat × List Nat
  | _ => ([], [])
def keep63 : Nat → List Nat
  | 0 => [0, 1]
  | 1 => [0, 1, 10]
  | 2 => [4]
  | 3 => [0, 1, 5]
  | 4 => [0, 1, 5, 14]
  | 5 => [0, 1, 5]
  | 6 => [0, 1, 5, 25]
  | 7 => [4]
  | 8 => [4]
  | _ => []
def tab63 : Nat → List Nat × List Nat
  | 6 => ([], [])
  | _ => ([], [])
def keep64 : Nat → List Nat
  | 0 => [1, 3, 5]
  | 1 => [1, 3, 5, 7]
  | 2 => [3, 5, 7, 8]
  | 3 => [3, 5, 7, 8, 20, 21, 22]
  | 4 => [3, 5, 7, 8, 20, 21, 22, 23]
  | 5 => [3, 5, 7, 8, 9, 10, 20, 21, 22]
  | 6 => [3, 5, 7, 8, 9, 11, 20, 21, 22]
  | 7 => [3, 5, 7, 8, 20, 21, 22]
  | 8 => [3, 5, 7, 8, 20, 21, 22]
  | 9 => [3, 5, 7, 8, 44]
  | 10 => [3, 5, 7, 8, 13, 46]
  | 11 => [3, 5, 7, 8, 13, 14]
  | 12 => [5, 7, 8, 13, 15]
  | 13 => []
  | 14 => [6]
  | _ => []
def tab64 : Nat → List Nat × List Nat
  | 7 => ([8, 9], [])
  | 13 => ([8, 9], [])
  | _ => ([], [])
def keep66 : Nat → List Nat
  | 0 => [0, 1]
  | 1 => [0, 1, 5]
  | 2 => [0, 5, 6, 7]
  | 3 => [0, 5, 6, 14]
  | 4 => [0, 5, 6, 7]
  | 5 => [0, 5, 6]
  | 6 => [0, 5, 6, 29]
  | 7 => [5]
  | 8 => [4]
  | 9 => [0, 5, 6, 36]
  | 10 => [4]
  | 11 => [0, 5, 37]
  | 12 => [0, 5, 6]
  | 13 => [4]
  | _ => []
def tab66 : Nat → List Nat × List Nat
  | _ => ([], [])
def keep68 : Nat → List Nat
  | 0 => [0, 1, 2, 3]
  | 1 => [0, 1, 2, 3, 9, 10]
  | 2 => [0, 1, 2, 3, 9, 10, 11, 12]
  | 3 => [0, 1, 2, 3, 9, 11, 25]
  | 4 => [8]
  | 5 => [0, 1, 2, 3, 9, 11, 32]
  | 6 => [8]
  | 7 => [0, 1, 2, 3, 9, 11, 36]
  | 8 => [8]
  | 9 => [0, 1, 2, 3, 9, 11, 44]
  | 10 => [8]
  | 11 => [0, 1, 2, 3, 9, 11, 49]
  | 12 => [8]
  | 13 => [0, 1, 9, 11]
  | 14 => [0, 1, 11]
  | 15 => [0, 11]
  | 16 => [8]
  | _ => []
def tab68 : Nat → List Nat × List Nat
  | _ => ([], [])
def keep71 : Nat → List Nat
  | 0 => [0, 1]
  | 1 => [0, 1, 6, 7]
  | 2 => [0, 1, 6, 16]
  | 3 => [4, 5]
  | 4 => [0, 1, 6, 19]
  | 5 => [4, 5]
  | 6 => [0, 1, 8, 9]
  | 7 => [0, 1, 8, 29]
  | 8 => [0, 1, 8]
  | 9 => [0, 1]
  | 10 => [4, 5]
  | _ => []
def tab71 : Nat → List Nat × List Nat
  | _ => ([], [])
def keep82 : Nat → List Nat
  | 0 => [0, 3]
  | 1 => [4]
  | _ => []
def tab82 : Nat → List Nat × List Nat
  | _ => ([], [])
def keep83 : Nat → List Nat
  | 0 => [0, 3]
  | 1 => [4]
  | _ => []
def tab83 : Nat → List Nat × List Nat
  | _ => ([], [])
def keep86 : Nat → List Nat
  | 0 => [0, 1]
  | 1 => [0, 1, 10]
  | 2 => [4]
  | 3 => [0, 1, 5]
  | 4 => [0, 1, 5, 14]
  | 5 => [0, 1, 5]
  | 6 => [0, 1, 5, 42]
  | 7 => [4]
  | 8 => [4]
  | _ => []
def tab86 : Nat → List Nat × List Nat
  | 6 => ([], [])
  | _ => ([], [])
def keep87 : Nat → List Nat
  | 0 => [0, 1, 2]
  | 1 => [0, 1, 2, 7]
  | 2 => [0, 2, 7, 8, 9]
  | 3 => [0, 2, 7, 8, 23]
  | 4 => [0, 2, 7, 8, 9]
  | 5 => [0, 2, 7, 8, 34]
  | 6 => [6]
  | 7 => [0, 2, 7, 8]
  | 8 => [0, 2, 7, 40]
  | 9 => [0, 2, 7, 8]
  | 10 => [6]
  | _ => []
def tab87 : Nat → List Nat × List Nat
  | _ => ([], [])
def keep93 : Nat → List Nat
  | 0 => [1, 2]
  | 1 => [1, 2, 3]
  | 2 => [1, 2, 3, 4]
  | 3 => [2, 3, 4, 15, 16, 17]
  | 4 => [2, 3, 4, 15, 16, 17, 18]
  | 5 => [2, 3, 4, 6, 15, 16, 17]
  | 6 => [2, 3, 4, 6, 7, 15, 16, 17]
  | 7 => [2, 3, 4, 7, 15, 16, 17]
  | 8 => [2, 3, 4, 15, 16, 17]
  | 9 => [2, 3, 4, 15, 16, 17]
  | 10 => [2, 3]
  | 11 => [2]
  | _ => []
def tab93 : Nat → List Nat × List Nat
  | 7 => ([6, 8], [])
  | _ => ([], [])
def keep103 : Nat → List Nat
  | 0 => [0, 1]
  | 1 => [0, 1, 10]
  | 2 => [4]
  | 3 => [0, 1, 5]
  | 4 => [0, 1, 5, 14]
  | 5 => [0, 1, 5]
  | 6 => [0, 1, 5, 25]
  | 7 => [4]
  | 8 => [4]
  | _ => []
def tab103 : Nat → List Nat × List Nat
  | 6 => ([], [])
  | _ => ([], [])
def keep104 : Nat → List Nat
  | 0 => [1]
  | 1 => [1, 3]
  | 2 => [1, 3, 4]
  | 3 => [1, 3, 4, 10]
  | 4 => [1, 3, 4]
  | 5 => [1, 3, 4, 5]
  | 6 => [1, 3, 4, 5, 28]
  | 7 => [1, 3, 4, 5]
  | 8 => [1, 3, 4, 5]
  | 9 => [1, 3, 52]
  | 10 => [1, 3]
  | 11 => [2]
  | _ => []
def tab104 : Nat → List Nat × List Nat
  | 8 => ([15], [])
  | _ => ([], [])
def keep105 : Nat → List Nat
  | 0 => [0]
  | 1 => [2]
  | _ => []
def tab105 : Nat → List Nat × List Nat
  | _ => ([], [])
def keep106 : Nat → List Nat
  | 0 => [0]
  | 1 => [2]
  | _ => []
def tab106 : Nat → List Nat × List Nat
  | _ => ([], [])
def keep107 : Nat → List Nat
  | 0 => [0, 1]
  | 1 => [4]
  | _ => []
def tab107 : Nat → List Nat × List Nat
  | 1 => ([], [])
  | _ => ([], [])
def keep108 : Nat → List Nat
  | 0 => [0, 1]
  | 1 => [0, 1, 17]
  | 2 => [4]
  | 3 => [4]
  | _ => []
def tab108 : Nat → List Nat × List Nat
  | _ => ([], [])
def keep109 : Nat → List Nat
  | 0 => [0, 1, 2]
  | 1 => [0, 1, 2, 7]
  | 2 => [0]
  | 3 => [0, 1, 2, 7, 17]
  | 4 => [0, 1, 2, 7, 20]
  | 5 => [0]
  | 6 => [6]
  | _ => []
def tab109 : Nat → List Nat × List Nat
  | _ => ([], [])
def keep110 : Nat → List Nat
  | 0 => [0]
  | 1 => [2]
  | _ => []
def tab110 : Nat → List Nat × List Nat
  | _ => ([], [])
def keep111 : Nat → List Nat
  | 0 => [0, 1, 2, 6]
  | 1 => [2, 6, 8, 9]
  | 2 => [2, 6, 8, 16]
  | 3 => [6, 7]
  | 4 => [6, 8, 20]
  | 5 => [6, 7]
  | 6 => [6, 7]
  | _ => []
def tab111 : Nat → List Nat × List Nat
  | _ => ([], [])
def keep112 : Nat → List Nat
  | 0 => [0]
  | 1 => [0, 4]
  | 2 => [2]
  | 3 => [2]
  | _ => []
def tab112 : Nat → List Nat × List Nat
  | _ => ([], [])
def keep113 : Nat → List Nat
  | 0 => [0, 3]
  | 1 => [0, 3, 9]
  | 2 => [4]
  | 3 => [0, 3, 5, 6]
  | 4 => [0, 3, 5, 21]
  | 5 => [4]
  | 6 => [0, 3, 5]
  | 7 => [0, 3, 5]
  | 8 => []
  | 9 => [4]
  | _ => []
def tab113 : Nat → List Nat × List Nat
  | 3 => ([10, 11], [9998, 2000, 2001, 2002, 2003, 2004, 2005, 2006, 2007, 8, 9])
  | 7 => ([11, 13, 15, 17, 19], [9998, 4005, 2002, 2003, 2004, 2005, 2006, 2007, 2008, 2009])
  | 8 => ([7], [])
  | _ => ([], [])
def keep114 : Nat → List Nat
  | 0 => [0, 1]
  | 1 => [0, 1, 9]
  | 2 => [4]
  | 3 => [6]
  | 4 => [4]
  | _ => []
def tab114 : Nat → List Nat × List Nat
  | _ => ([], [])
def keep115 : Nat → List Nat
  | 0 => [1, 2]
  | 1 => [1, 2]
  | 2 => [1, 2]
  | 3 => [1, 2, 3]
  | 4 => [1, 2, 3, 23, 24, 25]
  | 5 => [1, 2, 3, 23, 24, 25, 26]
  | 6 => [1, 2, 3, 5, 23, 24, 25]
  | 7 => [1, 2, 3, 23, 24, 25]
  | 8 => [1, 2, 3, 23, 24, 25]
  | 9 => [1, 2]
  | 10 => [2]
  | _ => []
def tab115 : Nat → List Nat × List Nat
  | 1 => ([7, 9], [])
  | 2 => ([], [9997])
  | 7 => ([9], [])
  | _ => ([], [])
def keep119 : Nat → List Nat
  | 0 => [0, 1]
  | 1 => [0, 1, 7, 8]
  | 2 => [0, 1, 7, 8, 9]
  | 3 => [0, 1, 5, 7, 8]
  | 4 => [0, 1, 5, 7, 8, 16]
  | 5 => [4]
  | 6 => [0, 1, 7, 8]
  | 7 => [4]
  | _ => []
def tab119 : Nat → List Nat × List Nat
  | _ => ([], [])
def keep120 : Nat → List Nat
  | 0 => [0, 1, 2]
  | 1 => [2, 5]
  | 2 => [4]
  | _ => []
def tab120 : Nat → List Nat × List Nat
  | _ => ([], [])
def keep121 : Nat → List Nat
  | 0 => [0]
  | 1 => [0, 8]
  | 2 => [2]
  | 3 => [3]
  | 4 => [3, 28]
  | 5 => [3, 28, 30]
  | 6 => [3, 4, 5, 28]
  | 7 => [3, 28]
  | 8 => [2]
  | _ => []
def tab121 : Nat → List Nat × List Nat
  | 3 => ([4, 14], [9998, 2005, 2006, 2007, 2008, 2009, 2010, 2011, 2012])
  | 7 => ([7], [])
  | _ => ([], [])
def keep124 : Nat → List Nat
  | 0 => [1, 2, 3, 4]
  | 1 => [1, 2, 3, 4, 9]
  | 2 => [1, 2, 3, 4, 9, 13, 14, 15]
  | 3 => [1, 2, 3, 4, 9, 13, 14, 15, 16]
  | 4 => [1, 2, 3, 4, 9, 11, 13, 14, 15]
  | 5 => [1, 2, 3, 4, 9, 11, 13, 14, 15, 28]
  | 6 => [1, 2, 3, 4, 9, 13, 14, 15]
  | 7 => [1, 2, 3, 4, 9, 13, 14, 15]
  | 8 => [8]
  | _ => []
def tab124 : Nat → List Nat × List Nat
  | _ => ([], [])
def keep125 : Nat → List Nat
  | 0 => [0, 1, 2]
  | 1 => [2, 10]
  | 2 => [6]
  | 3 => [6]
  | _ => []
def tab125 : Nat → List Nat × List Nat
  | _ => ([], [])
def keep126 : Nat → List Nat
  | 0 => [1]
  | 1 => [2]
  | _ => []
def tab126 : Nat → List Nat × List Nat
  | _ => ([], [])
def keep127 : Nat → List Nat
  | 0 => [0, 2, 3]
  | 1 => [0, 2, 3, 9]
  | 2 => [0, 2, 3]
  | 3 => [0, 2, 3]
  | _ => []
def tab127 : Nat → List Nat × List Nat
  | 3 => ([13, 15], [2, 3])
  | _ => ([], [])
def keep128 : Nat → List Nat
  | 0 => [0, 1]
  | 1 => [4]
  | _ => []
def tab128 : Nat → List Nat × List Nat
  | _ => ([], [])
def keep131 : Nat → List Nat
  | 0 => [0, 1, 2]
  | 1 => [0, 1, 2]
  | 2 => [0, 1, 2, 7]
  | 3 => [0, 1, 2, 7, 16]
  | 4 => [6]
  | 5 => [0, 1, 2, 7, 8]
  | 6 => [0, 1, 2, 7, 8, 22]
  | 7 => [6]
  | 8 => [0, 1, 2, 7, 8, 31]
  | 9 => [0, 1, 2, 7, 9]
  | 10 => [0, 1, 7, 9]
  | 11 => [9]
  | 12 => [6]
  | 13 => [0, 1, 2, 7, 8]
  | 14 => [0, 1, 2, 7, 8, 68]
  | 15 => [0, 1, 2]
  | 16 => [0]
  | 17 => [6]
  | 18 => [0, 1, 7]
  | 19 => [0]
  | 20 => [6]
  | _ => []
def tab131 : Nat → List Nat × List Nat
  | 11 => ([8], [])
  | 15 => ([8], [])
  | _ => ([], [])
def keep137 : Nat → List Nat
  | 0 => [0, 1]
  | 1 => [0, 1, 7, 8]
  | 2 => [0, 1, 7, 8, 9]
  | 3 => [0, 1, 5, 7, 8]
  | 4 => [0, 1, 5, 7, 8, 16]
  | 5 => [4]
  | 6 => [0, 1, 7, 8]
  | 7 => [4]
  | _ => []
def tab137 : Nat → List Nat × List Nat
  | _ => ([], [])
def keep141 : Nat → List Nat
  | 0 => [0, 1]
  | 1 => [0, 1, 5]
  | 2 => [0, 1, 5, 12]
  | 3 => [4]
  | 4 => [0, 1, 5, 6]
  | 5 => [0, 1, 5, 6, 19]
  | 6 => [0, 1, 5, 6]
  | 7 => [0, 1, 5, 6, 7]
  | 8 => [0, 1, 5, 6, 7, 29]
  | 9 => [0, 1, 5, 6]
  | 10 => [0, 1, 5, 6]
  | 11 => [0, 5]
  | 12 => [4]
  | _ => []
def tab141 : Nat → List Nat × List Nat
  | _ => ([], [])
def keep142 : Nat → List Nat
  | 0 => [0]
  | 1 => [0, 4]
  | 2 => [2]
  | 3 => [2]
  | _ => []
def tab142 : Nat → List Nat × List Nat
  | _ => ([], [])
def keep143 : Nat → List Nat
  | 0 => [1, 2]
  | 1 => [3]
  | _ => []
def tab143 : Nat → List Nat × List Nat
  | _ => ([], [])
def keep144 : Nat → List Nat
  | 0 => [1, 2]
  | 1 => [3]
  | _ => []
def tab144 : Nat → List Nat × List Nat
  | _ => ([], [])
def keep154 : Nat → List Nat
  | 0 => [1, 2]
  | 1 => [2]
  | _ => []
def tab154 : Nat → List Nat × List Nat
  | 1 => ([7], [])
  | _ => ([], [])
def keep159 : Nat → List Nat
  | 0 => [0]
  | 1 => [2]
  | _ => []
def tab159 : Nat → List Nat × List Nat
  | _ => ([], [])
def keep160 : Nat → List Nat
  | 0 => [0]
  | 1 => [4]
  | 2 => [2]
  | 3 => [2]
  | _ => []
def tab160 : Nat → List Nat × List Nat
  | _ => ([], [])
def keep161 : Nat → List Nat
  | 0 => [0]
  | 1 => [0, 4]
  | 2 => [2]
  | 3 => [2]
  | _ => []
def tab161 : Nat → List Nat × List Nat
  | _ => ([], [])
def keep163 : Nat → List Nat
  | 0 => [0]
  | 1 => [0, 4]
  | 2 => [2]
  | 3 => [2]
  | _ => []
def tab163 : Nat → List Nat × List Nat
  | _ => ([], [])
def keep164 : Nat → List Nat
  | 0 => [0, 1, 3]
  | 1 => [0, 1, 3, 8]
  | 2 => [0, 1, 3]
  | 3 => [0, 1, 3, 18]
  | _ => []
def tab164 : Nat → List Nat × List Nat
  | _ => ([], [])
def keep170 : Nat → List Nat
  | 0 => [0, 1]
  | 1 => [0, 1, 7, 8]
  | 2 => [0, 1, 7, 8, 9]
  | 3 => [0, 1, 5, 7, 8]
  | 4 => [0, 1, 5, 7, 8, 16]
  | 5 => [4]
  | 6 => [0, 1, 7, 8]
  | 7 => [4]
  | _ => []
def tab170 : Nat → List Nat × List Nat
  | _ => ([], [])
theorem mixed : Try.prog.follows .mixedOrders = true := by kernel_rfl
end Go.Proofs.Ytjplgbalpnlanaa
