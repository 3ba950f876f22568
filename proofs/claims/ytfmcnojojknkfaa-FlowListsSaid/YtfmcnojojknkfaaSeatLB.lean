/-
  The light code of functions of this seat: printed by a program of this session (wip/tools/lightgen.py); each is held against the program by the kernel.
-/
import Derived.Test.YtfmcnojojknkfaaSeatL
import Derived.KernelRfl
import Derived.Test.YtfmcnojojknkfaaProg
set_option maxRecDepth 100000
namespace Go.Proofs.Ytfmcnojojknkfaa
open Go.Ot

/-! ### function 50: outrider/num.Times -/
def L50 : LCode :=
 .seq (.region [⟨some 4, .move (.const (.int .i64 0)), none⟩])
 (.seq (.region [⟨some 5, .move (.tmp 0), none⟩,
  ⟨some 6, .minmax true (.tmp 5) [.const (.int .i64 0)], none⟩,
  ⟨some 7, .move (.tmp 1), none⟩,
  ⟨some 8, .minmax true (.tmp 7) [.const (.int .i64 0)], none⟩,
  ⟨some 0, .move (.tmp 6), none⟩,
  ⟨some 1, .move (.tmp 8), none⟩])
 (.seq (.seq (.region [⟨some 9, .move (.tmp 0), none⟩,
  ⟨some 10, .bin .neq (.tmp 9) (.const (.int .i64 0)), none⟩,
  ⟨some 11, .move (.tmp 10), none⟩,
  ⟨some 12, .move (.tmp 1), (some (11, true))⟩,
  ⟨some 13, .move (.tmp 0), (some (11, true))⟩,
  ⟨some 14, .bin .quo (.const (.int .i64 9223372036854775807)) (.tmp 13), (some (11, true))⟩,
  ⟨some 15, .bin .gtr (.tmp 12) (.tmp 14), (some (11, true))⟩,
  ⟨some 16, .pick (.tmp 11) (.tmp 15) (.const (.bool false)), none⟩])
 (.cond (.tmp 16) (.seq (.region [⟨some 4, .move (.const (.int .i64 9223372036854775807)), none⟩])
 (.ret))
 (.skip)))
 (.seq (.region [⟨some 17, .move (.tmp 0), none⟩,
  ⟨some 18, .move (.tmp 1), none⟩,
  ⟨some 19, .bin .mul (.tmp 17) (.tmp 18), none⟩,
  ⟨some 4, .move (.tmp 19), none⟩])
 (.ret))))
theorem light50 : Light Try.prog 50 2 20 L50 [.tmp 4] :=
  ⟨Try.f50, _, Try.func50, rfl, rfl, by kernel_rfl, by kernel_rfl, by decide⟩

/-! ### function 51: outrider/dep.inside -/
def L51 : LCode :=
 .seq (.region [⟨some 4, .move (.const (.bool false)), none⟩])
 (.seq (.region [⟨some 5, .move (.tmp 0), none⟩,
  ⟨some 6, .bin .geq (.tmp 5) (.const (.int .i64 0)), none⟩,
  ⟨some 7, .move (.tmp 6), none⟩,
  ⟨some 8, .move (.tmp 0), (some (7, true))⟩,
  ⟨some 9, .move (.tmp 1), (some (7, true))⟩,
  ⟨some 10, .bin .lss (.tmp 8) (.tmp 9), (some (7, true))⟩,
  ⟨some 11, .pick (.tmp 7) (.tmp 10) (.const (.bool false)), none⟩,
  ⟨some 4, .move (.tmp 11), none⟩])
 (.ret))
theorem light51 : Light Try.prog 51 2 12 L51 [.tmp 4] :=
  ⟨Try.f51, _, Try.func51, rfl, rfl, by kernel_rfl, by kernel_rfl, by decide⟩

/-! ### function 52: outrider/dep.Meet -/
def L52_1 : LCode :=
 .seq (.region [⟨some 31, .bin .lss (.tmp 30) (.tmp 29), none⟩])
 (.seq (.cond (.tmp 31) (.skip)
 (.exit 0))
 (.seq (.block 1 (.seq (.region [⟨some 32, .idx 1 (.tmp 28) (.tmp 30), none⟩,
  ⟨some 33, .load false 1 (.tmp 32), none⟩,
  ⟨some 12, .move (.tmp 33), none⟩])
 (.seq (.region [⟨some 34, .move (.tmp 12), none⟩,
  ⟨some 35, .bin .lss (.tmp 34) (.const (.int .i64 (-1048576))), none⟩,
  ⟨some 36, .move (.tmp 35), none⟩,
  ⟨some 37, .move (.tmp 12), (some (36, false))⟩,
  ⟨some 38, .bin .gtr (.tmp 37) (.const (.int .i64 1048576)), (some (36, false))⟩,
  ⟨some 39, .pick (.tmp 36) (.const (.bool true)) (.tmp 38), none⟩])
 (.cond (.tmp 39) (.seq (.region [⟨some 10, .move (.const (.bool true)), none⟩])
 (.ret))
 (.skip)))))
 (.region [⟨some 40, .bin .add (.tmp 30) (.const (.int .i64 1)), none⟩,
  ⟨some 30, .move (.tmp 40), none⟩])))
def L52_2 : LCode :=
 .seq (.seq (.region [⟨some 106, .move (.tmp 21), none⟩,
  ⟨some 107, .move (.tmp 4), none⟩,
  ⟨some 108, .bin .lss (.tmp 106) (.tmp 107), none⟩])
 (.cond (.tmp 108) (.skip)
 (.exit 2)))
 (.seq (.block 3 (.seq (.region [⟨some 112, .move (.tmp 0), none⟩,
  ⟨some 113, .move (.tmp 21), none⟩,
  ⟨some 114, .move (.tmp 1), none⟩,
  ⟨some 115, .bin .mul (.tmp 113) (.tmp 114), none⟩,
  ⟨some 116, .bin .add (.tmp 112) (.tmp 115), none⟩,
  ⟨some 117, .move (.tmp 2), none⟩,
  ⟨some 118, .bin .sub (.tmp 116) (.tmp 117), none⟩,
  ⟨some 119, .move (.tmp 3), none⟩,
  ⟨some 120, .bin .quo (.tmp 118) (.tmp 119), none⟩,
  ⟨some 23, .move (.tmp 120), none⟩])
 (.seq (.region [⟨some 121, .move (.tmp 23), none⟩,
  ⟨some 122, .bin .geq (.tmp 121) (.const (.int .i64 0)), none⟩,
  ⟨some 123, .move (.tmp 122), none⟩,
  ⟨some 124, .move (.tmp 23), (some (123, true))⟩,
  ⟨some 125, .move (.tmp 4), (some (123, true))⟩,
  ⟨some 126, .bin .lss (.tmp 124) (.tmp 125), (some (123, true))⟩,
  ⟨some 127, .pick (.tmp 123) (.tmp 126) (.const (.bool false)), none⟩,
  ⟨some 128, .move (.tmp 127), none⟩,
  ⟨some 129, .move (.tmp 23), (some (128, true))⟩,
  ⟨some 130, .move (.tmp 21), (some (128, true))⟩,
  ⟨some 131, .bin .neq (.tmp 129) (.tmp 130), (some (128, true))⟩,
  ⟨some 132, .pick (.tmp 128) (.tmp 131) (.const (.bool false)), none⟩])
 (.cond (.tmp 132) (.seq (.region [⟨some 10, .move (.const (.bool true)), none⟩])
 (.ret))
 (.skip)))))
 (.region [⟨some 109, .move (.tmp 21), none⟩,
  ⟨some 110, .move (.tmp 19), none⟩,
  ⟨some 111, .bin .add (.tmp 109) (.tmp 110), none⟩,
  ⟨some 21, .move (.tmp 111), none⟩]))
def L52 : LCode :=
 .seq (.region [⟨some 10, .move (.const (.bool false)), none⟩])
 (.seq (.seq (.region [⟨some 24, .move (.tmp 0), none⟩,
  ⟨some 25, .move (.tmp 1), none⟩,
  ⟨some 26, .move (.tmp 2), none⟩,
  ⟨some 27, .move (.tmp 3), none⟩,
  ⟨some 28, .buildSlice 2 1 4 [.int .i64 0] [(0, 1, .tmp 24), (1, 1, .tmp 25), (2, 1, .tmp 26), (3, 1, .tmp 27)], none⟩,
  ⟨some 29, .len (.tmp 28), none⟩,
  ⟨some 30, .move (.const (.int .i64 0)), none⟩])
 (.block 0 (.loop L52_1)))
 (.seq (.seq (.region [⟨some 41, .move (.tmp 4), none⟩,
  ⟨some 42, .bin .gtr (.tmp 41) (.const (.int .i64 200)), none⟩])
 (.cond (.tmp 42) (.seq (.region [⟨some 10, .move (.const (.bool true)), none⟩])
 (.ret))
 (.skip)))
 (.seq (.seq (.region [⟨some 43, .move (.tmp 1), none⟩,
  ⟨some 44, .bin .eql (.tmp 43) (.const (.int .i64 0)), none⟩,
  ⟨some 45, .move (.tmp 44), none⟩,
  ⟨some 46, .move (.tmp 3), (some (45, true))⟩,
  ⟨some 47, .bin .eql (.tmp 46) (.const (.int .i64 0)), (some (45, true))⟩,
  ⟨some 48, .pick (.tmp 45) (.tmp 47) (.const (.bool false)), none⟩])
 (.cond (.tmp 48) (.seq (.region [⟨some 49, .move (.tmp 0), none⟩,
  ⟨some 50, .move (.tmp 2), none⟩,
  ⟨some 51, .bin .eql (.tmp 49) (.tmp 50), none⟩,
  ⟨some 52, .move (.tmp 51), none⟩,
  ⟨some 53, .move (.tmp 4), (some (52, true))⟩,
  ⟨some 54, .bin .gtr (.tmp 53) (.const (.int .i64 1)), (some (52, true))⟩,
  ⟨some 55, .pick (.tmp 52) (.tmp 54) (.const (.bool false)), none⟩,
  ⟨some 10, .move (.tmp 55), none⟩])
 (.ret))
 (.skip)))
 (.seq (.region [⟨some 57, .move (.tmp 1), none⟩,
  ⟨some 58, .move (.tmp 3), none⟩,
  ⟨some 59, .un .neg (.tmp 58), none⟩,
  ⟨some 60, .call 69 [.tmp 57, .tmp 59], none⟩,
  ⟨some 56, .move (.tmp 60), none⟩,
  ⟨some 61, .extract (.tmp 56) 0, none⟩,
  ⟨some 62, .extract (.tmp 56) 1, none⟩,
  ⟨some 63, .extract (.tmp 56) 2, none⟩,
  ⟨some 64, .extract (.tmp 56) 3, none⟩,
  ⟨some 13, .move (.tmp 61), none⟩,
  ⟨some 14, .move (.tmp 62), none⟩,
  ⟨some 15, .move (.tmp 63), none⟩,
  ⟨some 16, .move (.tmp 64), none⟩])
 (.seq (.region [⟨some 65, .move (.tmp 2), none⟩,
  ⟨some 66, .move (.tmp 0), none⟩,
  ⟨some 67, .bin .sub (.tmp 65) (.tmp 66), none⟩,
  ⟨some 17, .move (.tmp 67), none⟩])
 (.seq (.seq (.region [⟨some 68, .move (.tmp 17), none⟩,
  ⟨some 69, .move (.tmp 15), none⟩,
  ⟨some 70, .bin .rem (.tmp 68) (.tmp 69), none⟩,
  ⟨some 71, .bin .neq (.tmp 70) (.const (.int .i64 0)), none⟩])
 (.cond (.tmp 71) (.seq (.region [⟨some 10, .move (.const (.bool false)), none⟩])
 (.ret))
 (.skip)))
 (.seq (.seq (.region [⟨some 72, .move (.tmp 3), none⟩,
  ⟨some 73, .bin .eql (.tmp 72) (.const (.int .i64 0)), none⟩])
 (.cond (.tmp 73) (.seq (.region [⟨some 74, .move (.tmp 17), none⟩,
  ⟨some 75, .move (.tmp 1), none⟩,
  ⟨some 76, .bin .quo (.tmp 74) (.tmp 75), none⟩,
  ⟨some 18, .move (.tmp 76), none⟩])
 (.seq (.region [⟨some 77, .move (.tmp 18), none⟩,
  ⟨some 78, .bin .geq (.tmp 77) (.const (.int .i64 0)), none⟩,
  ⟨some 79, .move (.tmp 78), none⟩,
  ⟨some 80, .move (.tmp 18), (some (79, true))⟩,
  ⟨some 81, .move (.tmp 4), (some (79, true))⟩,
  ⟨some 82, .bin .lss (.tmp 80) (.tmp 81), (some (79, true))⟩,
  ⟨some 83, .pick (.tmp 79) (.tmp 82) (.const (.bool false)), none⟩,
  ⟨some 84, .move (.tmp 83), none⟩,
  ⟨some 85, .move (.tmp 4), (some (84, true))⟩,
  ⟨some 86, .bin .gtr (.tmp 85) (.const (.int .i64 1)), (some (84, true))⟩,
  ⟨some 87, .pick (.tmp 84) (.tmp 86) (.const (.bool false)), none⟩,
  ⟨some 10, .move (.tmp 87), none⟩])
 (.ret)))
 (.skip)))
 (.seq (.region [⟨some 88, .move (.tmp 3), none⟩,
  ⟨some 89, .move (.tmp 15), none⟩,
  ⟨some 90, .bin .quo (.tmp 88) (.tmp 89), none⟩,
  ⟨some 19, .move (.tmp 90), none⟩])
 (.seq (.seq (.region [⟨some 91, .move (.tmp 19), none⟩,
  ⟨some 92, .bin .lss (.tmp 91) (.const (.int .i64 0)), none⟩])
 (.cond (.tmp 92) (.region [⟨some 93, .move (.tmp 19), none⟩,
  ⟨some 94, .un .neg (.tmp 93), none⟩,
  ⟨some 19, .move (.tmp 94), none⟩])
 (.skip)))
 (.seq (.region [⟨some 96, .move (.tmp 13), none⟩,
  ⟨some 97, .move (.tmp 17), none⟩,
  ⟨some 98, .move (.tmp 15), none⟩,
  ⟨some 99, .bin .quo (.tmp 97) (.tmp 98), none⟩,
  ⟨some 100, .bin .mul (.tmp 96) (.tmp 99), none⟩,
  ⟨some 101, .move (.tmp 19), none⟩,
  ⟨some 102, .call 70 [.tmp 100, .tmp 101], none⟩,
  ⟨some 95, .move (.tmp 102), none⟩,
  ⟨some 103, .extract (.tmp 95) 0, none⟩,
  ⟨some 104, .extract (.tmp 95) 1, none⟩,
  ⟨some 105, .extract (.tmp 95) 2, none⟩,
  ⟨some 20, .move (.tmp 103), none⟩,
  ⟨some 21, .move (.tmp 104), none⟩,
  ⟨some 22, .move (.tmp 105), none⟩])
 (.seq (.block 2 (.loop L52_2))
 (.seq (.region [⟨some 10, .move (.const (.bool false)), none⟩])
 (.ret)))))))))))))
theorem light52 : Light Try.prog 52 5 133 L52 [.tmp 10] :=
  ⟨Try.f52, _, Try.func52, rfl, rfl, by kernel_rfl, by kernel_rfl, by decide⟩

/-! ### function 53: outrider/num.size -/
def L53 : LCode :=
 .seq (.region [⟨some 2, .move (.const (.int .u64 0)), none⟩])
 (.seq (.seq (.region [⟨some 3, .move (.tmp 0), none⟩,
  ⟨some 4, .bin .lss (.tmp 3) (.const (.int .i64 0)), none⟩])
 (.cond (.tmp 4) (.seq (.region [⟨some 5, .move (.tmp 0), none⟩,
  ⟨some 6, .conv .u64 (.tmp 5), none⟩,
  ⟨some 7, .un .neg (.tmp 6), none⟩,
  ⟨some 2, .move (.tmp 7), none⟩])
 (.ret))
 (.skip)))
 (.seq (.region [⟨some 8, .move (.tmp 0), none⟩,
  ⟨some 9, .conv .u64 (.tmp 8), none⟩,
  ⟨some 2, .move (.tmp 9), none⟩])
 (.ret)))
theorem light53 : Light Try.prog 53 1 10 L53 [.tmp 2] :=
  ⟨Try.f53, _, Try.func53, rfl, rfl, by kernel_rfl, by kernel_rfl, by decide⟩

/-! ### function 54: outrider/outriderref01.size -/
def L54 : LCode :=
 .seq (.region [⟨some 2, .move (.const (.int .u64 0)), none⟩])
 (.seq (.seq (.region [⟨some 3, .move (.tmp 0), none⟩,
  ⟨some 4, .bin .lss (.tmp 3) (.const (.int .i64 0)), none⟩])
 (.cond (.tmp 4) (.seq (.region [⟨some 5, .move (.tmp 0), none⟩,
  ⟨some 6, .call 71 [.tmp 5], none⟩,
  ⟨some 7, .conv .u64 (.tmp 6), none⟩,
  ⟨some 2, .move (.tmp 7), none⟩])
 (.ret))
 (.skip)))
 (.seq (.region [⟨some 8, .move (.tmp 0), none⟩,
  ⟨some 9, .conv .u64 (.tmp 8), none⟩,
  ⟨some 2, .move (.tmp 9), none⟩])
 (.ret)))
theorem light54 : Light Try.prog 54 1 10 L54 [.tmp 2] :=
  ⟨Try.f54, _, Try.func54, rfl, rfl, by kernel_rfl, by kernel_rfl, by decide⟩

/-! ### function 55: outrider/outriderref01.Long -/
def L55_1 : LCode :=
 .seq (.seq (.region [⟨some 10, .move (.tmp 8), none⟩,
  ⟨some 11, .bin .geq (.tmp 10) (.const (.int .i64 0)), none⟩])
 (.cond (.tmp 11) (.skip)
 (.exit 0)))
 (.seq (.block 1 (.seq (.region [⟨some 14, .move (.tmp 7), none⟩,
  ⟨some 15, .bin .shr (.tmp 14) (.const (.int .u64 63)), none⟩,
  ⟨some 16, .bin .eql (.tmp 15) (.const (.int .u64 1)), none⟩,
  ⟨some 9, .move (.tmp 16), none⟩])
 (.seq (.region [⟨some 17, .move (.tmp 7), none⟩,
  ⟨some 18, .bin .shl (.tmp 17) (.const (.int .u64 1)), none⟩,
  ⟨some 19, .move (.tmp 0), none⟩,
  ⟨some 20, .move (.tmp 8), none⟩,
  ⟨some 21, .conv .u64 (.tmp 20), none⟩,
  ⟨some 22, .bin .shr (.tmp 19) (.tmp 21), none⟩,
  ⟨some 23, .bin .and (.tmp 22) (.const (.int .u64 1)), none⟩,
  ⟨some 24, .bin .or (.tmp 18) (.tmp 23), none⟩,
  ⟨some 7, .move (.tmp 24), none⟩])
 (.seq (.region [⟨some 25, .move (.tmp 6), none⟩,
  ⟨some 26, .bin .shl (.tmp 25) (.const (.int .u64 1)), none⟩,
  ⟨some 6, .move (.tmp 26), none⟩])
 (.seq (.region [⟨some 27, .move (.tmp 9), none⟩,
  ⟨some 28, .move (.tmp 27), none⟩,
  ⟨some 29, .move (.tmp 7), (some (28, false))⟩,
  ⟨some 30, .move (.tmp 1), (some (28, false))⟩,
  ⟨some 31, .bin .geq (.tmp 29) (.tmp 30), (some (28, false))⟩,
  ⟨some 32, .pick (.tmp 28) (.const (.bool true)) (.tmp 31), none⟩])
 (.cond (.tmp 32) (.seq (.region [⟨some 33, .move (.tmp 7), none⟩,
  ⟨some 34, .move (.tmp 1), none⟩,
  ⟨some 35, .bin .sub (.tmp 33) (.tmp 34), none⟩,
  ⟨some 7, .move (.tmp 35), none⟩])
 (.region [⟨some 36, .move (.tmp 6), none⟩,
  ⟨some 37, .bin .or (.tmp 36) (.const (.int .u64 1)), none⟩,
  ⟨some 6, .move (.tmp 37), none⟩]))
 (.skip)))))))
 (.region [⟨some 12, .move (.tmp 8), none⟩,
  ⟨some 13, .bin .sub (.tmp 12) (.const (.int .i64 1)), none⟩,
  ⟨some 8, .move (.tmp 13), none⟩]))
def L55 : LCode :=
 .seq (.region [⟨some 4, .move (.const (.int .u64 0)), none⟩,
  ⟨some 5, .move (.const (.int .u64 0)), none⟩])
 (.seq (.region [⟨some 6, .move (.const (.int .u64 0)), none⟩,
  ⟨some 7, .move (.const (.int .u64 0)), none⟩])
 (.seq (.seq (.region [⟨some 8, .move (.const (.int .i64 63)), none⟩])
 (.block 0 (.loop L55_1)))
 (.seq (.region [⟨some 38, .move (.tmp 6), none⟩,
  ⟨some 39, .move (.tmp 7), none⟩,
  ⟨some 4, .move (.tmp 38), none⟩,
  ⟨some 5, .move (.tmp 39), none⟩])
 (.ret))))
theorem light55 : Light Try.prog 55 2 40 L55 [.tmp 4, .tmp 5] :=
  ⟨Try.f55, _, Try.func55, rfl, rfl, by kernel_rfl, by kernel_rfl, by decide⟩

/-! ### function 56: outrider/red.Right -/
def L56 : LCode :=
 .seq (.region [⟨some 2, .move (.const (.bool false)), none⟩])
 (.seq (.region [⟨some 3, .move (.tmp 0), none⟩,
  ⟨some 4, .bin .geq (.tmp 3) (.const (.int .i64 1)), none⟩,
  ⟨some 5, .move (.tmp 4), none⟩,
  ⟨some 6, .move (.tmp 0), (some (5, true))⟩,
  ⟨some 7, .bin .leq (.tmp 6) (.const (.int .i64 7)), (some (5, true))⟩,
  ⟨some 8, .pick (.tmp 5) (.tmp 7) (.const (.bool false)), none⟩,
  ⟨some 2, .move (.tmp 8), none⟩])
 (.ret))
theorem light56 : Light Try.prog 56 1 9 L56 [.tmp 2] :=
  ⟨Try.f56, _, Try.func56, rfl, rfl, by kernel_rfl, by kernel_rfl, by decide⟩

/-! ### function 57: outrider/red.Zero -/
def L57 : LCode :=
 .seq (.region [⟨some 2, .move (.const (.int .i64 0)), none⟩])
 (.seq (.seq (.region [⟨some 3, .move (.tmp 0), none⟩])
 (.block 0 (.seq (.region [⟨some 5, .bin .eql (.tmp 3) (.const (.int .i64 2)), none⟩,
  ⟨some 4, .move (.tmp 5), none⟩])
 (.cond (.tmp 4) (.seq (.region [⟨some 2, .move (.const (.int .i64 1)), none⟩])
 (.ret))
 (.seq (.region [⟨some 7, .bin .eql (.tmp 3) (.const (.int .i64 3)), none⟩,
  ⟨some 6, .move (.tmp 7), none⟩])
 (.cond (.tmp 6) (.seq (.region [⟨some 2, .move (.const (.int .i64 9223372036854775807)), none⟩])
 (.ret))
 (.seq (.region [⟨some 9, .bin .eql (.tmp 3) (.const (.int .i64 4)), none⟩,
  ⟨some 8, .move (.tmp 9), none⟩])
 (.cond (.tmp 8) (.seq (.region [⟨some 2, .move (.const (.int .i64 (-9223372036854775808))), none⟩])
 (.ret))
 (.seq (.region [⟨some 11, .bin .eql (.tmp 3) (.const (.int .i64 5)), none⟩,
  ⟨some 10, .move (.tmp 11), none⟩])
 (.cond (.tmp 10) (.seq (.region [⟨some 2, .move (.const (.int .i64 (-1))), none⟩])
 (.ret))
 (.skip)))))))))))
 (.seq (.region [⟨some 2, .move (.const (.int .i64 0)), none⟩])
 (.ret)))
theorem light57 : Light Try.prog 57 1 12 L57 [.tmp 2] :=
  ⟨Try.f57, _, Try.func57, rfl, rfl, by kernel_rfl, by kernel_rfl, by decide⟩

/-! ### function 58: outrider/ins.One -/
def L58 : LCode :=
 .seq (.region [⟨some 3, .box 60 6 (.tmp 0), none⟩,
  ⟨some 6, .move (.const (.int .i64 0)), none⟩])
 (.seq (.region [⟨some 10, .off 0 (.tmp 3), none⟩,
  ⟨some 11, .load false 1 (.tmp 10), none⟩,
  ⟨some 12, .call 72 [.tmp 11], none⟩,
  ⟨some 9, .move (.tmp 12), none⟩,
  ⟨some 13, .extract (.tmp 9) 0, none⟩,
  ⟨some 14, .extract (.tmp 9) 1, none⟩,
  ⟨some 7, .new 172 8 [.bool false, .bool false, .bool false, .bool false, .bool false, .bool false, .bool false, .bool false], none⟩,
  ⟨none, .store 8 (.tmp 7) (.tmp 13), none⟩,
  ⟨some 8, .move (.tmp 14), none⟩])
 (.seq (.block 0 (.seq (.region [⟨some 16, .move (.tmp 8), none⟩,
  ⟨some 17, .un .not (.tmp 16), none⟩,
  ⟨some 15, .move (.tmp 17), none⟩])
 (.cond (.tmp 15) (.seq (.region [⟨some 6, .move (.const (.int .i64 81)), none⟩])
 (.ret))
 (.seq (.seq (.region [⟨some 19, .off 7 (.tmp 7), none⟩,
  ⟨some 20, .load false 1 (.tmp 19), none⟩,
  ⟨some 21, .move (.tmp 20), none⟩,
  ⟨some 22, .off 1 (.tmp 3), (some (21, true))⟩,
  ⟨some 23, .load false 1 (.tmp 22), (some (21, true))⟩,
  ⟨some 24, .bin .lss (.tmp 23) (.const (.int .i64 1)), (some (21, true))⟩,
  ⟨some 25, .move (.tmp 24), (some (21, true))⟩,
  ⟨some 26, .off 1 (.tmp 3), (some (25, false))⟩,
  ⟨some 27, .load false 1 (.tmp 26), (some (25, false))⟩,
  ⟨some 28, .bin .gtr (.tmp 27) (.const (.int .i64 18)), (some (25, false))⟩,
  ⟨some 29, .pick (.tmp 25) (.const (.bool true)) (.tmp 28), (some (21, true))⟩,
  ⟨some 30, .pick (.tmp 21) (.tmp 29) (.const (.bool false)), none⟩,
  ⟨some 18, .move (.tmp 30), none⟩])
 (.cond (.tmp 18) (.skip)
 (.region [⟨some 31, .off 6 (.tmp 7), none⟩,
  ⟨some 32, .load false 1 (.tmp 31), none⟩,
  ⟨some 33, .move (.tmp 32), none⟩,
  ⟨some 34, .off 1 (.tmp 3), (some (33, true))⟩,
  ⟨some 35, .load false 1 (.tmp 34), (some (33, true))⟩,
  ⟨some 36, .bin .lss (.tmp 35) (.const (.int .i64 19)), (some (33, true))⟩,
  ⟨some 37, .move (.tmp 36), (some (33, true))⟩,
  ⟨some 38, .off 1 (.tmp 3), (some (37, false))⟩,
  ⟨some 39, .load false 1 (.tmp 38), (some (37, false))⟩,
  ⟨some 40, .bin .gtr (.tmp 39) (.const (.int .i64 21)), (some (37, false))⟩,
  ⟨some 41, .pick (.tmp 37) (.const (.bool true)) (.tmp 40), (some (33, true))⟩,
  ⟨some 42, .pick (.tmp 33) (.tmp 41) (.const (.bool false)), none⟩,
  ⟨some 18, .move (.tmp 42), none⟩])))
 (.cond (.tmp 18) (.seq (.region [⟨some 6, .move (.const (.int .i64 81)), none⟩])
 (.ret))
 (.seq (.seq (.region [⟨some 44, .off 0 (.tmp 7), none⟩,
  ⟨some 45, .load false 1 (.tmp 44), none⟩,
  ⟨some 46, .move (.tmp 45), none⟩,
  ⟨some 47, .off 2 (.tmp 3), (some (46, true))⟩,
  ⟨some 48, .load false 1 (.tmp 47), (some (46, true))⟩,
  ⟨some 49, .call 73 [.const (.bool true), .tmp 48], (some (46, true))⟩,
  ⟨some 50, .un .not (.tmp 49), (some (46, true))⟩,
  ⟨some 51, .pick (.tmp 46) (.tmp 50) (.const (.bool false)), none⟩,
  ⟨some 43, .move (.tmp 51), none⟩])
 (.cond (.tmp 43) (.skip)
 (.seq (.region [⟨some 52, .off 1 (.tmp 7), none⟩,
  ⟨some 53, .load false 1 (.tmp 52), none⟩,
  ⟨some 54, .move (.tmp 53), none⟩,
  ⟨some 55, .off 3 (.tmp 3), (some (54, true))⟩,
  ⟨some 56, .load false 1 (.tmp 55), (some (54, true))⟩,
  ⟨some 57, .call 73 [.const (.bool true), .tmp 56], (some (54, true))⟩,
  ⟨some 58, .un .not (.tmp 57), (some (54, true))⟩,
  ⟨some 59, .pick (.tmp 54) (.tmp 58) (.const (.bool false)), none⟩,
  ⟨some 43, .move (.tmp 59), none⟩])
 (.cond (.tmp 43) (.skip)
 (.region [⟨some 60, .off 2 (.tmp 7), none⟩,
  ⟨some 61, .load false 1 (.tmp 60), none⟩,
  ⟨some 62, .move (.tmp 61), none⟩,
  ⟨some 63, .off 4 (.tmp 3), (some (62, true))⟩,
  ⟨some 64, .load false 1 (.tmp 63), (some (62, true))⟩,
  ⟨some 65, .call 73 [.const (.bool true), .tmp 64], (some (62, true))⟩,
  ⟨some 66, .un .not (.tmp 65), (some (62, true))⟩,
  ⟨some 67, .pick (.tmp 62) (.tmp 66) (.const (.bool false)), none⟩,
  ⟨some 43, .move (.tmp 67), none⟩])))))
 (.cond (.tmp 43) (.seq (.region [⟨some 6, .move (.const (.int .i64 82)), none⟩])
 (.ret))
 (.seq (.seq (.region [⟨some 69, .off 0 (.tmp 7), none⟩,
  ⟨some 70, .load false 1 (.tmp 69), none⟩,
  ⟨some 71, .un .not (.tmp 70), none⟩,
  ⟨some 72, .move (.tmp 71), none⟩,
  ⟨some 73, .off 2 (.tmp 3), (some (72, true))⟩,
  ⟨some 74, .load false 1 (.tmp 73), (some (72, true))⟩,
  ⟨some 75, .bin .neq (.tmp 74) (.const (.int .i64 0)), (some (72, true))⟩,
  ⟨some 76, .pick (.tmp 72) (.tmp 75) (.const (.bool false)), none⟩,
  ⟨some 68, .move (.tmp 76), none⟩])
 (.cond (.tmp 68) (.skip)
 (.seq (.region [⟨some 77, .off 1 (.tmp 7), none⟩,
  ⟨some 78, .load false 1 (.tmp 77), none⟩,
  ⟨some 79, .un .not (.tmp 78), none⟩,
  ⟨some 80, .move (.tmp 79), none⟩,
  ⟨some 81, .off 3 (.tmp 3), (some (80, true))⟩,
  ⟨some 82, .load false 1 (.tmp 81), (some (80, true))⟩,
  ⟨some 83, .bin .neq (.tmp 82) (.const (.int .i64 0)), (some (80, true))⟩,
  ⟨some 84, .pick (.tmp 80) (.tmp 83) (.const (.bool false)), none⟩,
  ⟨some 68, .move (.tmp 84), none⟩])
 (.cond (.tmp 68) (.skip)
 (.seq (.region [⟨some 85, .off 2 (.tmp 7), none⟩,
  ⟨some 86, .load false 1 (.tmp 85), none⟩,
  ⟨some 87, .un .not (.tmp 86), none⟩,
  ⟨some 88, .move (.tmp 87), none⟩,
  ⟨some 89, .off 3 (.tmp 7), (some (88, true))⟩,
  ⟨some 90, .load false 1 (.tmp 89), (some (88, true))⟩,
  ⟨some 91, .un .not (.tmp 90), (some (88, true))⟩,
  ⟨some 92, .pick (.tmp 88) (.tmp 91) (.const (.bool false)), none⟩,
  ⟨some 93, .move (.tmp 92), none⟩,
  ⟨some 94, .off 4 (.tmp 3), (some (93, true))⟩,
  ⟨some 95, .load false 1 (.tmp 94), (some (93, true))⟩,
  ⟨some 96, .bin .neq (.tmp 95) (.const (.int .i64 0)), (some (93, true))⟩,
  ⟨some 97, .pick (.tmp 93) (.tmp 96) (.const (.bool false)), none⟩,
  ⟨some 68, .move (.tmp 97), none⟩])
 (.cond (.tmp 68) (.skip)
 (.seq (.region [⟨some 98, .off 4 (.tmp 7), none⟩,
  ⟨some 99, .load false 1 (.tmp 98), none⟩,
  ⟨some 100, .un .not (.tmp 99), none⟩,
  ⟨some 101, .move (.tmp 100), none⟩,
  ⟨some 102, .off 5 (.tmp 3), (some (101, true))⟩,
  ⟨some 103, .load false 1 (.tmp 102), (some (101, true))⟩,
  ⟨some 104, .bin .neq (.tmp 103) (.const (.int .i64 0)), (some (101, true))⟩,
  ⟨some 105, .pick (.tmp 101) (.tmp 104) (.const (.bool false)), none⟩,
  ⟨some 68, .move (.tmp 105), none⟩])
 (.cond (.tmp 68) (.skip)
 (.region [⟨some 106, .off 6 (.tmp 7), none⟩,
  ⟨some 107, .load false 1 (.tmp 106), none⟩,
  ⟨some 108, .un .not (.tmp 107), none⟩,
  ⟨some 109, .move (.tmp 108), none⟩,
  ⟨some 110, .off 7 (.tmp 7), (some (109, true))⟩,
  ⟨some 111, .load false 1 (.tmp 110), (some (109, true))⟩,
  ⟨some 112, .un .not (.tmp 111), (some (109, true))⟩,
  ⟨some 113, .pick (.tmp 109) (.tmp 112) (.const (.bool false)), none⟩,
  ⟨some 114, .move (.tmp 113), none⟩,
  ⟨some 115, .off 1 (.tmp 3), (some (114, true))⟩,
  ⟨some 116, .load false 1 (.tmp 115), (some (114, true))⟩,
  ⟨some 117, .bin .neq (.tmp 116) (.const (.int .i64 0)), (some (114, true))⟩,
  ⟨some 118, .pick (.tmp 114) (.tmp 117) (.const (.bool false)), none⟩,
  ⟨some 68, .move (.tmp 118), none⟩])))))))))
 (.cond (.tmp 68) (.seq (.region [⟨some 6, .move (.const (.int .i64 83)), none⟩])
 (.ret))
 (.seq (.region [⟨some 120, .off 3 (.tmp 7), none⟩,
  ⟨some 121, .load false 1 (.tmp 120), none⟩,
  ⟨some 122, .move (.tmp 121), none⟩,
  ⟨some 123, .off 4 (.tmp 3), (some (122, true))⟩,
  ⟨some 124, .load false 1 (.tmp 123), (some (122, true))⟩,
  ⟨some 125, .bin .lss (.tmp 124) (.const (.int .i64 0)), (some (122, true))⟩,
  ⟨some 126, .move (.tmp 125), (some (122, true))⟩,
  ⟨some 127, .off 4 (.tmp 3), (some (126, false))⟩,
  ⟨some 128, .load false 1 (.tmp 127), (some (126, false))⟩,
  ⟨some 129, .move (.tmp 1), (some (126, false))⟩,
  ⟨some 130, .minmax false (.tmp 129) [.const (.int .i64 4)], (some (126, false))⟩,
  ⟨some 131, .bin .geq (.tmp 128) (.tmp 130), (some (126, false))⟩,
  ⟨some 132, .pick (.tmp 126) (.const (.bool true)) (.tmp 131), (some (122, true))⟩,
  ⟨some 133, .pick (.tmp 122) (.tmp 132) (.const (.bool false)), none⟩,
  ⟨some 119, .move (.tmp 133), none⟩])
 (.cond (.tmp 119) (.seq (.region [⟨some 6, .move (.const (.int .i64 63)), none⟩])
 (.ret))
 (.seq (.region [⟨some 135, .off 5 (.tmp 7), none⟩,
  ⟨some 136, .load false 1 (.tmp 135), none⟩,
  ⟨some 137, .move (.tmp 136), none⟩,
  ⟨some 138, .off 5 (.tmp 3), (some (137, true))⟩,
  ⟨some 139, .load false 1 (.tmp 138), (some (137, true))⟩,
  ⟨some 140, .bin .lss (.tmp 139) (.const (.int .i64 0)), (some (137, true))⟩,
  ⟨some 141, .move (.tmp 140), (some (137, true))⟩,
  ⟨some 142, .off 5 (.tmp 3), (some (141, false))⟩,
  ⟨some 143, .load false 1 (.tmp 142), (some (141, false))⟩,
  ⟨some 144, .move (.tmp 2), (some (141, false))⟩,
  ⟨some 145, .bin .geq (.tmp 143) (.tmp 144), (some (141, false))⟩,
  ⟨some 146, .pick (.tmp 141) (.const (.bool true)) (.tmp 145), (some (137, true))⟩,
  ⟨some 147, .pick (.tmp 137) (.tmp 146) (.const (.bool false)), none⟩,
  ⟨some 134, .move (.tmp 147), none⟩])
 (.cond (.tmp 134) (.seq (.region [⟨some 6, .move (.const (.int .i64 84)), none⟩])
 (.ret))
 (.skip))))))))))))))
 (.seq (.region [⟨some 6, .move (.const (.int .i64 0)), none⟩])
 (.ret))))
theorem light58 : Light Try.prog 58 3 148 L58 [.tmp 6] :=
  ⟨Try.f58, _, Try.func58, rfl, rfl, by kernel_rfl, by kernel_rfl, by decide⟩

/-! ### function 59: outrider/ins.Falls -/
def L59 : LCode :=
 .seq (.region [⟨some 1, .box 60 6 (.tmp 0), none⟩,
  ⟨some 2, .move (.const (.bool false)), none⟩])
 (.seq (.region [⟨some 3, .off 0 (.tmp 1), none⟩,
  ⟨some 4, .load false 1 (.tmp 3), none⟩,
  ⟨some 5, .bin .neq (.tmp 4) (.const (.int .i64 1)), none⟩,
  ⟨some 6, .move (.tmp 5), none⟩,
  ⟨some 7, .off 0 (.tmp 1), (some (6, true))⟩,
  ⟨some 8, .load false 1 (.tmp 7), (some (6, true))⟩,
  ⟨some 9, .bin .neq (.tmp 8) (.const (.int .i64 10)), (some (6, true))⟩,
  ⟨some 10, .pick (.tmp 6) (.tmp 9) (.const (.bool false)), none⟩,
  ⟨some 11, .move (.tmp 10), none⟩,
  ⟨some 12, .off 0 (.tmp 1), (some (11, true))⟩,
  ⟨some 13, .load false 1 (.tmp 12), (some (11, true))⟩,
  ⟨some 14, .bin .neq (.tmp 13) (.const (.int .i64 13)), (some (11, true))⟩,
  ⟨some 15, .pick (.tmp 11) (.tmp 14) (.const (.bool false)), none⟩,
  ⟨some 2, .move (.tmp 15), none⟩])
 (.ret))
theorem light59 : Light Try.prog 59 1 16 L59 [.tmp 2] :=
  ⟨Try.f59, _, Try.func59, rfl, rfl, by kernel_rfl, by kernel_rfl, by decide⟩

/-! ### function 60: (*outrider/vm.VM).address -/
def L60 : LCode :=
 .seq (.region [⟨some 3, .box 60 6 (.tmp 1), none⟩,
  ⟨some 4, .move (.const (.int .i64 0)), none⟩,
  ⟨some 5, .move (.const (.bool false)), none⟩])
 (.seq (.draw [⟨⟨some 7, .move (.tmp 0), none⟩, .pure, 0, 0⟩,
  ⟨⟨some 8, .off 3 (.tmp 3), none⟩, .pure, 0, 0⟩,
  ⟨⟨some 9, .load false 1 (.tmp 8), none⟩, .read, 0, 0⟩,
  ⟨⟨some 10, .nilCheck (.tmp 7), none⟩, .pure, 0, 0⟩,
  ⟨⟨some 11, .off 0 (.tmp 10), none⟩, .pure, 0, 0⟩,
  ⟨⟨some 12, .off 0 (.tmp 11), none⟩, .pure, 0, 0⟩,
  ⟨⟨some 13, .idxArr 16 1 (.tmp 12) (.tmp 9), none⟩, .pure, 0, 0⟩,
  ⟨⟨some 14, .load false 1 (.tmp 13), none⟩, .read, 0, 0⟩,
  ⟨⟨some 15, .off 5 (.tmp 3), none⟩, .pure, 0, 0⟩,
  ⟨⟨some 16, .load false 1 (.tmp 15), none⟩, .read, 0, 0⟩,
  ⟨⟨some 17, .bin .add (.tmp 14) (.tmp 16), none⟩, .pure, 0, 0⟩,
  ⟨⟨some 6, .move (.tmp 17), none⟩, .pure, 0, 0⟩])
 (.seq (.draw [⟨⟨some 18, .move (.tmp 6), none⟩, .pure, 0, 0⟩,
  ⟨⟨some 19, .move (.tmp 6), none⟩, .pure, 0, 0⟩,
  ⟨⟨some 20, .bin .geq (.tmp 19) (.const (.int .i64 0)), none⟩, .pure, 0, 0⟩,
  ⟨⟨some 21, .move (.tmp 20), none⟩, .pure, 0, 0⟩,
  ⟨⟨some 22, .move (.tmp 6), (some (21, true))⟩, .pure, 0, 0⟩,
  ⟨⟨some 23, .move (.tmp 0), (some (21, true))⟩, .pure, 0, 0⟩,
  ⟨⟨some 24, .nilCheck (.tmp 23), (some (21, true))⟩, .pure, 0, 0⟩,
  ⟨⟨some 25, .off 21 (.tmp 24), (some (21, true))⟩, .pure, 0, 0⟩,
  ⟨⟨some 26, .load false 1 (.tmp 25), (some (21, true))⟩, .read, 0, 0⟩,
  ⟨⟨some 27, .bin .lss (.tmp 22) (.tmp 26), (some (21, true))⟩, .pure, 0, 0⟩,
  ⟨⟨some 28, .pick (.tmp 21) (.tmp 27) (.const (.bool false)), none⟩, .pure, 0, 0⟩,
  ⟨⟨some 4, .move (.tmp 18), none⟩, .pure, 0, 0⟩,
  ⟨⟨some 5, .move (.tmp 28), none⟩, .pure, 0, 0⟩])
 (.ret)))
theorem light60 : Light Try.prog 60 2 29 L60 [.tmp 4, .tmp 5] :=
  ⟨Try.f60, _, Try.func60, rfl, rfl, by kernel_rfl, by kernel_rfl, by decide⟩

/-! ### function 61: (*outrider/vm.VM).end -/
def L61 : LCode :=
 .region [⟨some 6, .move (.tmp 0), none⟩,
  ⟨some 7, .move (.tmp 0), none⟩,
  ⟨some 8, .move (.tmp 1), none⟩,
  ⟨some 9, .move (.tmp 2), none⟩,
  ⟨some 10, .nilCheck (.tmp 6), none⟩,
  ⟨some 11, .off 0 (.tmp 10), none⟩,
  ⟨some 12, .off 18 (.tmp 11), none⟩,
  ⟨none, .store 1 (.tmp 12) (.tmp 8), none⟩,
  ⟨some 13, .nilCheck (.tmp 7), none⟩,
  ⟨some 14, .off 0 (.tmp 13), none⟩,
  ⟨some 15, .off 19 (.tmp 14), none⟩,
  ⟨none, .store 1 (.tmp 15) (.tmp 9), none⟩]
theorem light61 : Light Try.prog 61 3 16 L61 [] :=
  ⟨Try.f61, _, Try.func61, rfl, rfl, by kernel_rfl, by kernel_rfl, by decide⟩

/-! ### function 62: (*outrider/vm.VM).memory -/
def L62 : LCode :=
 .seq (.region [⟨some 4, .box 60 6 (.tmp 1), none⟩])
 (.seq (.region [⟨some 9, .move (.tmp 0), none⟩,
  ⟨some 10, .load true 6 (.tmp 4), none⟩,
  ⟨some 11, .call 60 [.tmp 9, .tmp 10], none⟩,
  ⟨some 8, .move (.tmp 11), none⟩,
  ⟨some 12, .extract (.tmp 8) 0, none⟩,
  ⟨some 13, .extract (.tmp 8) 1, none⟩,
  ⟨some 6, .move (.tmp 12), none⟩,
  ⟨some 7, .move (.tmp 13), none⟩])
 (.seq (.seq (.region [⟨some 14, .move (.tmp 7), none⟩,
  ⟨some 15, .un .not (.tmp 14), none⟩])
 (.cond (.tmp 15) (.seq (.region [⟨some 16, .move (.tmp 0), none⟩,
  ⟨some 17, .move (.tmp 6), none⟩,
  ⟨some 18, .call 61 [.tmp 16, .const (.int .i64 3), .tmp 17], none⟩])
 (.ret))
 (.skip)))
 (.seq (.seq (.region [⟨some 19, .off 0 (.tmp 4), none⟩,
  ⟨some 20, .load false 1 (.tmp 19), none⟩,
  ⟨some 21, .bin .eql (.tmp 20) (.const (.int .i64 6)), none⟩])
 (.cond (.tmp 21) (.draw [⟨⟨some 22, .move (.tmp 0), none⟩, .pure, 0, 0⟩,
  ⟨⟨some 23, .off 2 (.tmp 4), none⟩, .pure, 0, 0⟩,
  ⟨⟨some 24, .load false 1 (.tmp 23), none⟩, .read, 0, 0⟩,
  ⟨⟨some 25, .move (.tmp 2), none⟩, .pure, 0, 0⟩,
  ⟨⟨some 26, .nilCheck (.tmp 22), none⟩, .pure, 0, 0⟩,
  ⟨⟨some 27, .off 0 (.tmp 26), none⟩, .pure, 0, 0⟩,
  ⟨⟨some 28, .off 0 (.tmp 27), none⟩, .pure, 0, 0⟩,
  ⟨⟨some 29, .idxArr 16 1 (.tmp 28) (.tmp 24), none⟩, .pure, 0, 0⟩,
  ⟨⟨none, .store 1 (.tmp 29) (.tmp 25), none⟩, .heavy, 0, 1⟩])
 (.skip)))
 (.region [⟨some 30, .move (.tmp 0), none⟩,
  ⟨some 31, .nilCheck (.tmp 30), none⟩,
  ⟨some 32, .off 0 (.tmp 31), none⟩,
  ⟨some 33, .off 16 (.tmp 32), none⟩,
  ⟨some 34, .load false 1 (.tmp 33), none⟩,
  ⟨some 35, .bin .add (.tmp 34) (.const (.int .i64 1)), none⟩,
  ⟨some 36, .nilCheck (.tmp 30), none⟩,
  ⟨some 37, .off 0 (.tmp 36), none⟩,
  ⟨some 38, .off 16 (.tmp 37), none⟩,
  ⟨none, .store 1 (.tmp 38) (.tmp 35), none⟩]))))
theorem light62 : Light Try.prog 62 3 39 L62 [] :=
  ⟨Try.f62, _, Try.func62, rfl, rfl, by kernel_rfl, by kernel_rfl, by decide⟩

/-! ### function 63: (*outrider/vm.VM).branch -/
def L63 : LCode :=
 .seq (.region [⟨some 3, .box 60 6 (.tmp 1), none⟩])
 (.seq (.draw [⟨⟨some 5, .move (.tmp 0), none⟩, .pure, 0, 0⟩,
  ⟨⟨some 6, .off 2 (.tmp 3), none⟩, .pure, 0, 0⟩,
  ⟨⟨some 7, .load false 1 (.tmp 6), none⟩, .read, 0, 0⟩,
  ⟨⟨some 8, .nilCheck (.tmp 5), none⟩, .pure, 0, 0⟩,
  ⟨⟨some 9, .off 0 (.tmp 8), none⟩, .pure, 0, 0⟩,
  ⟨⟨some 10, .off 0 (.tmp 9), none⟩, .pure, 0, 0⟩,
  ⟨⟨some 11, .idxArr 16 1 (.tmp 10) (.tmp 7), none⟩, .pure, 0, 0⟩,
  ⟨⟨some 12, .load false 1 (.tmp 11), none⟩, .read, 0, 0⟩,
  ⟨⟨some 13, .bin .eql (.tmp 12) (.const (.int .i64 0)), none⟩, .pure, 0, 0⟩,
  ⟨⟨some 4, .move (.tmp 13), none⟩, .pure, 0, 0⟩])
 (.seq (.seq (.region [⟨some 14, .off 0 (.tmp 3), none⟩,
  ⟨some 15, .load false 1 (.tmp 14), none⟩,
  ⟨some 16, .bin .eql (.tmp 15) (.const (.int .i64 10)), none⟩,
  ⟨some 17, .move (.tmp 16), none⟩,
  ⟨some 18, .move (.tmp 4), (some (17, false))⟩,
  ⟨some 19, .off 0 (.tmp 3), (some (17, false))⟩,
  ⟨some 20, .load false 1 (.tmp 19), (some (17, false))⟩,
  ⟨some 21, .bin .eql (.tmp 20) (.const (.int .i64 11)), (some (17, false))⟩,
  ⟨some 22, .eqB false (.tmp 18) (.tmp 21), (some (17, false))⟩,
  ⟨some 23, .pick (.tmp 17) (.const (.bool true)) (.tmp 22), none⟩])
 (.cond (.tmp 23) (.seq (.region [⟨some 24, .move (.tmp 0), none⟩,
  ⟨some 25, .off 5 (.tmp 3), none⟩,
  ⟨some 26, .load false 1 (.tmp 25), none⟩,
  ⟨some 27, .nilCheck (.tmp 24), none⟩,
  ⟨some 28, .off 0 (.tmp 27), none⟩,
  ⟨some 29, .off 16 (.tmp 28), none⟩,
  ⟨none, .store 1 (.tmp 29) (.tmp 26), none⟩])
 (.ret))
 (.skip)))
 (.region [⟨some 30, .move (.tmp 0), none⟩,
  ⟨some 31, .nilCheck (.tmp 30), none⟩,
  ⟨some 32, .off 0 (.tmp 31), none⟩,
  ⟨some 33, .off 16 (.tmp 32), none⟩,
  ⟨some 34, .load false 1 (.tmp 33), none⟩,
  ⟨some 35, .bin .add (.tmp 34) (.const (.int .i64 1)), none⟩,
  ⟨some 36, .nilCheck (.tmp 30), none⟩,
  ⟨some 37, .off 0 (.tmp 36), none⟩,
  ⟨some 38, .off 16 (.tmp 37), none⟩,
  ⟨none, .store 1 (.tmp 38) (.tmp 35), none⟩])))
theorem light63 : Light Try.prog 63 2 39 L63 [] :=
  ⟨Try.f63, _, Try.func63, rfl, rfl, by kernel_rfl, by kernel_rfl, by decide⟩

/-! ### function 64: (*outrider/vm.VM).reckon -/
def L64 : LCode :=
 .seq (.region [⟨some 3, .box 60 6 (.tmp 1), none⟩])
 (.seq (.seq (.region [⟨some 6, .off 0 (.tmp 3), none⟩,
  ⟨some 7, .load false 1 (.tmp 6), none⟩])
 (.block 0 (.seq (.region [⟨some 9, .bin .eql (.tmp 7) (.const (.int .i64 2)), none⟩,
  ⟨some 8, .move (.tmp 9), none⟩])
 (.cond (.tmp 8) (.draw [⟨⟨some 10, .move (.tmp 0), none⟩, .pure, 0, 0⟩,
  ⟨⟨some 11, .off 2 (.tmp 3), none⟩, .pure, 0, 0⟩,
  ⟨⟨some 12, .load false 1 (.tmp 11), none⟩, .read, 0, 0⟩,
  ⟨⟨some 13, .off 5 (.tmp 3), none⟩, .pure, 0, 0⟩,
  ⟨⟨some 14, .load false 1 (.tmp 13), none⟩, .read, 0, 0⟩,
  ⟨⟨some 15, .nilCheck (.tmp 10), none⟩, .pure, 0, 0⟩,
  ⟨⟨some 16, .off 0 (.tmp 15), none⟩, .pure, 0, 0⟩,
  ⟨⟨some 17, .off 0 (.tmp 16), none⟩, .pure, 0, 0⟩,
  ⟨⟨some 18, .idxArr 16 1 (.tmp 17) (.tmp 12), none⟩, .pure, 0, 0⟩,
  ⟨⟨none, .store 1 (.tmp 18) (.tmp 14), none⟩, .heavy, 0, 1⟩])
 (.seq (.region [⟨some 20, .bin .eql (.tmp 7) (.const (.int .i64 3)), none⟩,
  ⟨some 19, .move (.tmp 20), none⟩])
 (.cond (.tmp 19) (.draw [⟨⟨some 21, .move (.tmp 0), none⟩, .pure, 0, 0⟩,
  ⟨⟨some 22, .off 2 (.tmp 3), none⟩, .pure, 0, 0⟩,
  ⟨⟨some 23, .load false 1 (.tmp 22), none⟩, .read, 0, 0⟩,
  ⟨⟨some 24, .move (.tmp 0), none⟩, .pure, 0, 0⟩,
  ⟨⟨some 25, .off 3 (.tmp 3), none⟩, .pure, 0, 0⟩,
  ⟨⟨some 26, .load false 1 (.tmp 25), none⟩, .read, 0, 0⟩,
  ⟨⟨some 27, .nilCheck (.tmp 24), none⟩, .pure, 0, 0⟩,
  ⟨⟨some 28, .off 0 (.tmp 27), none⟩, .pure, 0, 0⟩,
  ⟨⟨some 29, .off 0 (.tmp 28), none⟩, .pure, 0, 0⟩,
  ⟨⟨some 30, .idxArr 16 1 (.tmp 29) (.tmp 26), none⟩, .pure, 0, 0⟩,
  ⟨⟨some 31, .load false 1 (.tmp 30), none⟩, .read, 0, 0⟩,
  ⟨⟨some 32, .nilCheck (.tmp 21), none⟩, .pure, 0, 0⟩,
  ⟨⟨some 33, .off 0 (.tmp 32), none⟩, .pure, 0, 0⟩,
  ⟨⟨some 34, .off 0 (.tmp 33), none⟩, .pure, 0, 0⟩,
  ⟨⟨some 35, .idxArr 16 1 (.tmp 34) (.tmp 23), none⟩, .pure, 0, 0⟩,
  ⟨⟨none, .store 1 (.tmp 35) (.tmp 31), none⟩, .heavy, 0, 1⟩])
 (.seq (.region [⟨some 37, .bin .eql (.tmp 7) (.const (.int .i64 4)), none⟩,
  ⟨some 36, .move (.tmp 37), none⟩])
 (.cond (.tmp 36) (.draw [⟨⟨some 39, .move (.tmp 0), none⟩, .pure, 0, 1⟩,
  ⟨⟨some 40, .off 2 (.tmp 3), none⟩, .pure, 0, 1⟩,
  ⟨⟨some 41, .load false 1 (.tmp 40), none⟩, .read, 0, 1⟩,
  ⟨⟨some 42, .off 1 (.tmp 3), none⟩, .pure, 0, 0⟩,
  ⟨⟨some 43, .load false 1 (.tmp 42), none⟩, .read, 0, 0⟩,
  ⟨⟨some 44, .move (.tmp 0), none⟩, .pure, 0, 0⟩,
  ⟨⟨some 45, .off 3 (.tmp 3), none⟩, .pure, 0, 0⟩,
  ⟨⟨some 46, .load false 1 (.tmp 45), none⟩, .read, 0, 0⟩,
  ⟨⟨some 47, .nilCheck (.tmp 44), none⟩, .pure, 0, 0⟩,
  ⟨⟨some 48, .off 0 (.tmp 47), none⟩, .pure, 0, 0⟩,
  ⟨⟨some 49, .off 0 (.tmp 48), none⟩, .pure, 0, 0⟩,
  ⟨⟨some 50, .idxArr 16 1 (.tmp 49) (.tmp 46), none⟩, .pure, 0, 0⟩,
  ⟨⟨some 51, .load false 1 (.tmp 50), none⟩, .read, 0, 0⟩,
  ⟨⟨some 52, .call 67 [.tmp 43, .tmp 51], none⟩, .heavy, 0, 1⟩,
  ⟨⟨some 38, .move (.tmp 52), none⟩, .pure, 1, 1⟩,
  ⟨⟨some 53, .extract (.tmp 38) 0, none⟩, .pure, 1, 1⟩,
  ⟨⟨some 54, .extract (.tmp 38) 1, none⟩, .pure, 1, 2⟩,
  ⟨⟨some 55, .nilCheck (.tmp 39), none⟩, .pure, 0, 1⟩,
  ⟨⟨some 56, .off 0 (.tmp 55), none⟩, .pure, 0, 1⟩,
  ⟨⟨some 57, .off 0 (.tmp 56), none⟩, .pure, 0, 1⟩,
  ⟨⟨some 58, .idxArr 16 1 (.tmp 57) (.tmp 41), none⟩, .pure, 1, 1⟩,
  ⟨⟨none, .store 1 (.tmp 58) (.tmp 53), none⟩, .heavy, 1, 2⟩])
 (.seq (.region [⟨some 60, .bin .eql (.tmp 7) (.const (.int .i64 5)), none⟩,
  ⟨some 59, .move (.tmp 60), none⟩])
 (.cond (.tmp 59) (.seq (.draw [⟨⟨some 62, .off 1 (.tmp 3), none⟩, .pure, 0, 0⟩,
  ⟨⟨some 63, .load false 1 (.tmp 62), none⟩, .read, 0, 0⟩,
  ⟨⟨some 64, .move (.tmp 0), none⟩, .pure, 0, 0⟩,
  ⟨⟨some 65, .off 3 (.tmp 3), none⟩, .pure, 0, 0⟩,
  ⟨⟨some 66, .load false 1 (.tmp 65), none⟩, .read, 0, 0⟩,
  ⟨⟨some 67, .nilCheck (.tmp 64), none⟩, .pure, 0, 0⟩,
  ⟨⟨some 68, .off 0 (.tmp 67), none⟩, .pure, 0, 0⟩,
  ⟨⟨some 69, .off 0 (.tmp 68), none⟩, .pure, 0, 0⟩,
  ⟨⟨some 70, .idxArr 16 1 (.tmp 69) (.tmp 66), none⟩, .pure, 0, 0⟩,
  ⟨⟨some 71, .load false 1 (.tmp 70), none⟩, .read, 0, 0⟩,
  ⟨⟨some 72, .move (.tmp 0), none⟩, .pure, 0, 0⟩,
  ⟨⟨some 73, .off 4 (.tmp 3), none⟩, .pure, 0, 0⟩,
  ⟨⟨some 74, .load false 1 (.tmp 73), none⟩, .read, 0, 0⟩,
  ⟨⟨some 75, .nilCheck (.tmp 72), none⟩, .pure, 0, 0⟩,
  ⟨⟨some 76, .off 0 (.tmp 75), none⟩, .pure, 0, 0⟩,
  ⟨⟨some 77, .off 0 (.tmp 76), none⟩, .pure, 0, 0⟩,
  ⟨⟨some 78, .idxArr 16 1 (.tmp 77) (.tmp 74), none⟩, .pure, 0, 0⟩,
  ⟨⟨some 79, .load false 1 (.tmp 78), none⟩, .read, 0, 0⟩,
  ⟨⟨some 80, .call 74 [.tmp 63, .tmp 71, .tmp 79], none⟩, .heavy, 0, 1⟩,
  ⟨⟨some 61, .move (.tmp 80), none⟩, .pure, 1, 1⟩,
  ⟨⟨some 81, .extract (.tmp 61) 0, none⟩, .pure, 1, 1⟩,
  ⟨⟨some 82, .extract (.tmp 61) 1, none⟩, .pure, 1, 1⟩,
  ⟨⟨some 4, .move (.tmp 81), none⟩, .pure, 1, 1⟩,
  ⟨⟨some 5, .move (.tmp 82), none⟩, .pure, 1, 1⟩])
 (.seq (.seq (.region [⟨some 83, .move (.tmp 5), none⟩,
  ⟨some 84, .un .not (.tmp 83), none⟩])
 (.cond (.tmp 84) (.seq (.region [⟨some 85, .move (.tmp 0), none⟩,
  ⟨some 86, .call 61 [.tmp 85, .const (.int .i64 2), .const (.int .i64 0)], none⟩])
 (.ret))
 (.skip)))
 (.draw [⟨⟨some 87, .move (.tmp 0), none⟩, .pure, 0, 0⟩,
  ⟨⟨some 88, .off 2 (.tmp 3), none⟩, .pure, 0, 0⟩,
  ⟨⟨some 89, .load false 1 (.tmp 88), none⟩, .read, 0, 0⟩,
  ⟨⟨some 90, .move (.tmp 4), none⟩, .pure, 0, 0⟩,
  ⟨⟨some 91, .nilCheck (.tmp 87), none⟩, .pure, 0, 0⟩,
  ⟨⟨some 92, .off 0 (.tmp 91), none⟩, .pure, 0, 0⟩,
  ⟨⟨some 93, .off 0 (.tmp 92), none⟩, .pure, 0, 0⟩,
  ⟨⟨some 94, .idxArr 16 1 (.tmp 93) (.tmp 89), none⟩, .pure, 0, 0⟩,
  ⟨⟨none, .store 1 (.tmp 94) (.tmp 90), none⟩, .heavy, 0, 1⟩])))
 (.skip)))))))))))
 (.region [⟨some 95, .move (.tmp 0), none⟩,
  ⟨some 96, .nilCheck (.tmp 95), none⟩,
  ⟨some 97, .off 0 (.tmp 96), none⟩,
  ⟨some 98, .off 16 (.tmp 97), none⟩,
  ⟨some 99, .load false 1 (.tmp 98), none⟩,
  ⟨some 100, .bin .add (.tmp 99) (.const (.int .i64 1)), none⟩,
  ⟨some 101, .nilCheck (.tmp 95), none⟩,
  ⟨some 102, .off 0 (.tmp 101), none⟩,
  ⟨some 103, .off 16 (.tmp 102), none⟩,
  ⟨none, .store 1 (.tmp 103) (.tmp 100), none⟩]))
theorem light64 : Light Try.prog 64 2 104 L64 [] :=
  ⟨Try.f64, _, Try.func64, rfl, rfl, by kernel_rfl, by kernel_rfl, by decide⟩

/-! ### function 65: sort.Ints -/
def L65 : LCode :=
 .region [⟨some 2, .move (.tmp 0), none⟩,
  ⟨some 3, .call 75 [.tmp 2], none⟩]
theorem light65 : Light Try.prog 65 1 4 L65 [] :=
  ⟨Try.f65, _, Try.func65, rfl, rfl, by kernel_rfl, by kernel_rfl, by decide⟩

/-! ### function 66: (outrider/dep.Form).constant -/
def L66 : LCode :=
 .seq (.region [⟨some 1, .box 122 3 (.tmp 0), none⟩,
  ⟨some 2, .move (.const (.bool false)), none⟩])
 (.seq (.region [⟨some 3, .off 0 (.tmp 1), none⟩,
  ⟨some 4, .load false 1 (.tmp 3), none⟩,
  ⟨some 5, .move (.tmp 4), none⟩,
  ⟨some 6, .off 1 (.tmp 1), (some (5, true))⟩,
  ⟨some 7, .load false 1 (.tmp 6), (some (5, true))⟩,
  ⟨some 8, .bin .eql (.tmp 7) (.const (.int .i64 0)), (some (5, true))⟩,
  ⟨some 9, .pick (.tmp 5) (.tmp 8) (.const (.bool false)), none⟩,
  ⟨some 2, .move (.tmp 9), none⟩])
 (.ret))
theorem light66 : Light Try.prog 66 1 10 L66 [.tmp 2] :=
  ⟨Try.f66, _, Try.func66, rfl, rfl, by kernel_rfl, by kernel_rfl, by decide⟩

/-! ### function 67: outrider/num.One -/
def L67 : LCode :=
 .seq (.region [⟨some 4, .move (.const (.int .i64 0)), none⟩,
  ⟨some 5, .move (.const (.bool false)), none⟩])
 (.seq (.seq (.region [⟨some 6, .move (.tmp 0), none⟩])
 (.block 0 (.seq (.region [⟨some 8, .bin .eql (.tmp 6) (.const (.int .i64 19)), none⟩,
  ⟨some 7, .move (.tmp 8), none⟩])
 (.cond (.tmp 7) (.seq (.region [⟨some 9, .move (.tmp 1), none⟩,
  ⟨some 10, .un .neg (.tmp 9), none⟩,
  ⟨some 4, .move (.tmp 10), none⟩,
  ⟨some 5, .move (.const (.bool true)), none⟩])
 (.ret))
 (.seq (.region [⟨some 12, .bin .eql (.tmp 6) (.const (.int .i64 20)), none⟩,
  ⟨some 11, .move (.tmp 12), none⟩])
 (.cond (.tmp 11) (.seq (.region [⟨some 13, .move (.tmp 1), none⟩,
  ⟨some 14, .un .xor (.tmp 13), none⟩,
  ⟨some 4, .move (.tmp 14), none⟩,
  ⟨some 5, .move (.const (.bool true)), none⟩])
 (.ret))
 (.seq (.region [⟨some 16, .bin .eql (.tmp 6) (.const (.int .i64 21)), none⟩,
  ⟨some 15, .move (.tmp 16), none⟩])
 (.cond (.tmp 15) (.seq (.seq (.region [⟨some 17, .move (.tmp 1), none⟩,
  ⟨some 18, .bin .eql (.tmp 17) (.const (.int .i64 0)), none⟩])
 (.cond (.tmp 18) (.seq (.region [⟨some 4, .move (.const (.int .i64 1)), none⟩,
  ⟨some 5, .move (.const (.bool true)), none⟩])
 (.ret))
 (.skip)))
 (.seq (.region [⟨some 4, .move (.const (.int .i64 0)), none⟩,
  ⟨some 5, .move (.const (.bool true)), none⟩])
 (.ret)))
 (.skip)))))))))
 (.seq (.region [⟨some 4, .move (.const (.int .i64 0)), none⟩,
  ⟨some 5, .move (.const (.bool false)), none⟩])
 (.ret)))
theorem light67 : Light Try.prog 67 2 19 L67 [.tmp 4, .tmp 5] :=
  ⟨Try.f67, _, Try.func67, rfl, rfl, by kernel_rfl, by kernel_rfl, by decide⟩

/-! ### function 68: outrider/dep.join -/
def L68 : LCode :=
 .seq (.region [⟨some 4, .box 122 3 (.tmp 1), none⟩,
  ⟨some 5, .box 122 3 (.tmp 2), none⟩,
  ⟨some 6, .new 122 3 [.bool false, .int .i64 0, .int .i64 0], none⟩])
 (.seq (.seq (.region [⟨some 9, .off 0 (.tmp 4), none⟩,
  ⟨some 10, .load false 1 (.tmp 9), none⟩,
  ⟨some 11, .un .not (.tmp 10), none⟩,
  ⟨some 12, .move (.tmp 11), none⟩,
  ⟨some 13, .off 0 (.tmp 5), (some (12, false))⟩,
  ⟨some 14, .load false 1 (.tmp 13), (some (12, false))⟩,
  ⟨some 15, .un .not (.tmp 14), (some (12, false))⟩,
  ⟨some 16, .pick (.tmp 12) (.const (.bool true)) (.tmp 15), none⟩])
 (.cond (.tmp 16) (.seq (.region [⟨some 17, .build [.bool false, .int .i64 0, .int .i64 0] [], none⟩,
  ⟨none, .store 3 (.tmp 6) (.tmp 17), none⟩])
 (.ret))
 (.skip)))
 (.seq (.seq (.region [⟨some 18, .off 1 (.tmp 4), none⟩,
  ⟨some 19, .load false 1 (.tmp 18), none⟩,
  ⟨some 20, .bin .eql (.tmp 19) (.const (.int .i64 0)), none⟩,
  ⟨some 21, .move (.tmp 20), none⟩,
  ⟨some 22, .off 1 (.tmp 5), (some (21, true))⟩,
  ⟨some 23, .load false 1 (.tmp 22), (some (21, true))⟩,
  ⟨some 24, .bin .eql (.tmp 23) (.const (.int .i64 0)), (some (21, true))⟩,
  ⟨some 25, .pick (.tmp 21) (.tmp 24) (.const (.bool false)), none⟩])
 (.cond (.tmp 25) (.seq (.region [⟨some 27, .move (.tmp 0), none⟩,
  ⟨some 28, .off 2 (.tmp 4), none⟩,
  ⟨some 29, .load false 1 (.tmp 28), none⟩,
  ⟨some 30, .off 2 (.tmp 5), none⟩,
  ⟨some 31, .load false 1 (.tmp 30), none⟩,
  ⟨some 32, .call 74 [.tmp 27, .tmp 29, .tmp 31], none⟩,
  ⟨some 26, .move (.tmp 32), none⟩,
  ⟨some 33, .extract (.tmp 26) 0, none⟩,
  ⟨some 34, .extract (.tmp 26) 1, none⟩,
  ⟨some 7, .move (.tmp 33), none⟩,
  ⟨some 8, .move (.tmp 34), none⟩])
 (.seq (.seq (.region [⟨some 35, .move (.tmp 8), none⟩,
  ⟨some 36, .un .not (.tmp 35), none⟩])
 (.cond (.tmp 36) (.seq (.region [⟨some 37, .build [.bool false, .int .i64 0, .int .i64 0] [], none⟩,
  ⟨none, .store 3 (.tmp 6) (.tmp 37), none⟩])
 (.ret))
 (.skip)))
 (.seq (.region [⟨some 38, .move (.tmp 7), none⟩,
  ⟨some 39, .call 48 [.const (.int .i64 0), .tmp 38], none⟩,
  ⟨none, .store 3 (.tmp 6) (.tmp 39), none⟩])
 (.ret))))
 (.skip)))
 (.seq (.seq (.region [⟨some 40, .move (.tmp 0), none⟩])
 (.block 0 (.seq (.region [⟨some 42, .bin .eql (.tmp 40) (.const (.int .i64 1)), none⟩,
  ⟨some 41, .move (.tmp 42), none⟩])
 (.cond (.tmp 41) (.seq (.region [⟨some 43, .off 1 (.tmp 4), none⟩,
  ⟨some 44, .load false 1 (.tmp 43), none⟩,
  ⟨some 45, .off 1 (.tmp 5), none⟩,
  ⟨some 46, .load false 1 (.tmp 45), none⟩,
  ⟨some 47, .bin .add (.tmp 44) (.tmp 46), none⟩,
  ⟨some 48, .off 2 (.tmp 4), none⟩,
  ⟨some 49, .load false 1 (.tmp 48), none⟩,
  ⟨some 50, .off 2 (.tmp 5), none⟩,
  ⟨some 51, .load false 1 (.tmp 50), none⟩,
  ⟨some 52, .bin .add (.tmp 49) (.tmp 51), none⟩,
  ⟨some 53, .call 48 [.tmp 47, .tmp 52], none⟩,
  ⟨none, .store 3 (.tmp 6) (.tmp 53), none⟩])
 (.ret))
 (.seq (.region [⟨some 55, .bin .eql (.tmp 40) (.const (.int .i64 2)), none⟩,
  ⟨some 54, .move (.tmp 55), none⟩])
 (.cond (.tmp 54) (.seq (.region [⟨some 56, .off 1 (.tmp 4), none⟩,
  ⟨some 57, .load false 1 (.tmp 56), none⟩,
  ⟨some 58, .off 1 (.tmp 5), none⟩,
  ⟨some 59, .load false 1 (.tmp 58), none⟩,
  ⟨some 60, .bin .sub (.tmp 57) (.tmp 59), none⟩,
  ⟨some 61, .off 2 (.tmp 4), none⟩,
  ⟨some 62, .load false 1 (.tmp 61), none⟩,
  ⟨some 63, .off 2 (.tmp 5), none⟩,
  ⟨some 64, .load false 1 (.tmp 63), none⟩,
  ⟨some 65, .bin .sub (.tmp 62) (.tmp 64), none⟩,
  ⟨some 66, .call 48 [.tmp 60, .tmp 65], none⟩,
  ⟨none, .store 3 (.tmp 6) (.tmp 66), none⟩])
 (.ret))
 (.seq (.region [⟨some 68, .bin .eql (.tmp 40) (.const (.int .i64 3)), none⟩,
  ⟨some 67, .move (.tmp 68), none⟩])
 (.cond (.tmp 67) (.seq (.seq (.region [⟨some 69, .off 1 (.tmp 4), none⟩,
  ⟨some 70, .load false 1 (.tmp 69), none⟩,
  ⟨some 71, .bin .eql (.tmp 70) (.const (.int .i64 0)), none⟩])
 (.cond (.tmp 71) (.region [⟨some 72, .load true 3 (.tmp 5), none⟩,
  ⟨some 73, .load true 3 (.tmp 4), none⟩,
  ⟨none, .store 3 (.tmp 4) (.tmp 72), none⟩,
  ⟨none, .store 3 (.tmp 5) (.tmp 73), none⟩])
 (.skip)))
 (.seq (.region [⟨some 74, .off 1 (.tmp 5), none⟩,
  ⟨some 75, .load false 1 (.tmp 74), none⟩,
  ⟨some 76, .bin .eql (.tmp 75) (.const (.int .i64 0)), none⟩,
  ⟨some 77, .move (.tmp 76), none⟩,
  ⟨some 78, .off 2 (.tmp 5), (some (77, true))⟩,
  ⟨some 79, .load false 1 (.tmp 78), (some (77, true))⟩,
  ⟨some 80, .bin .geq (.tmp 79) (.const (.int .i64 (-1073741824))), (some (77, true))⟩,
  ⟨some 81, .pick (.tmp 77) (.tmp 80) (.const (.bool false)), none⟩,
  ⟨some 82, .move (.tmp 81), none⟩,
  ⟨some 83, .off 2 (.tmp 5), (some (82, true))⟩,
  ⟨some 84, .load false 1 (.tmp 83), (some (82, true))⟩,
  ⟨some 85, .bin .leq (.tmp 84) (.const (.int .i64 1073741824)), (some (82, true))⟩,
  ⟨some 86, .pick (.tmp 82) (.tmp 85) (.const (.bool false)), none⟩,
  ⟨some 87, .move (.tmp 86), none⟩,
  ⟨some 88, .off 2 (.tmp 4), (some (87, true))⟩,
  ⟨some 89, .load false 1 (.tmp 88), (some (87, true))⟩,
  ⟨some 90, .bin .geq (.tmp 89) (.const (.int .i64 (-1073741824))), (some (87, true))⟩,
  ⟨some 91, .pick (.tmp 87) (.tmp 90) (.const (.bool false)), none⟩,
  ⟨some 92, .move (.tmp 91), none⟩,
  ⟨some 93, .off 2 (.tmp 4), (some (92, true))⟩,
  ⟨some 94, .load false 1 (.tmp 93), (some (92, true))⟩,
  ⟨some 95, .bin .leq (.tmp 94) (.const (.int .i64 1073741824)), (some (92, true))⟩,
  ⟨some 96, .pick (.tmp 92) (.tmp 95) (.const (.bool false)), none⟩])
 (.cond (.tmp 96) (.seq (.region [⟨some 97, .off 1 (.tmp 4), none⟩,
  ⟨some 98, .load false 1 (.tmp 97), none⟩,
  ⟨some 99, .off 2 (.tmp 5), none⟩,
  ⟨some 100, .load false 1 (.tmp 99), none⟩,
  ⟨some 101, .bin .mul (.tmp 98) (.tmp 100), none⟩,
  ⟨some 102, .off 2 (.tmp 4), none⟩,
  ⟨some 103, .load false 1 (.tmp 102), none⟩,
  ⟨some 104, .off 2 (.tmp 5), none⟩,
  ⟨some 105, .load false 1 (.tmp 104), none⟩,
  ⟨some 106, .bin .mul (.tmp 103) (.tmp 105), none⟩,
  ⟨some 107, .call 48 [.tmp 101, .tmp 106], none⟩,
  ⟨none, .store 3 (.tmp 6) (.tmp 107), none⟩])
 (.ret))
 (.skip))))
 (.skip)))))))))
 (.seq (.region [⟨some 108, .build [.bool false, .int .i64 0, .int .i64 0] [], none⟩,
  ⟨none, .store 3 (.tmp 6) (.tmp 108), none⟩])
 (.ret)))))
theorem light68 : Light Try.prog 68 3 109 L68 [.cell 6 true 3] :=
  ⟨Try.f68, _, Try.func68, rfl, rfl, by kernel_rfl, by kernel_rfl, by decide⟩

/-! ### function 69: outrider/num.Bezout -/
def L69 : LCode :=
 .seq (.region [⟨some 4, .move (.const (.int .i64 0)), none⟩,
  ⟨some 5, .move (.const (.int .i64 0)), none⟩,
  ⟨some 6, .move (.const (.int .i64 0)), none⟩,
  ⟨some 7, .move (.const (.int .i64 0)), none⟩])
 (.seq (.seq (.region [⟨some 11, .move (.tmp 0), none⟩,
  ⟨some 12, .bin .lss (.tmp 11) (.const (.int .i64 (-2147483648))), none⟩,
  ⟨some 13, .move (.tmp 12), none⟩,
  ⟨some 14, .move (.tmp 0), (some (13, false))⟩,
  ⟨some 15, .bin .gtr (.tmp 14) (.const (.int .i64 2147483648)), (some (13, false))⟩,
  ⟨some 16, .pick (.tmp 13) (.const (.bool true)) (.tmp 15), none⟩,
  ⟨some 17, .move (.tmp 16), none⟩,
  ⟨some 18, .move (.tmp 1), (some (17, false))⟩,
  ⟨some 19, .bin .lss (.tmp 18) (.const (.int .i64 (-2147483648))), (some (17, false))⟩,
  ⟨some 20, .pick (.tmp 17) (.const (.bool true)) (.tmp 19), none⟩,
  ⟨some 21, .move (.tmp 20), none⟩,
  ⟨some 22, .move (.tmp 1), (some (21, false))⟩,
  ⟨some 23, .bin .gtr (.tmp 22) (.const (.int .i64 2147483648)), (some (21, false))⟩,
  ⟨some 24, .pick (.tmp 21) (.const (.bool true)) (.tmp 23), none⟩])
 (.cond (.tmp 24) (.seq (.region [⟨some 4, .move (.const (.int .i64 0)), none⟩,
  ⟨some 5, .move (.const (.int .i64 0)), none⟩,
  ⟨some 6, .move (.const (.int .i64 0)), none⟩,
  ⟨some 7, .move (.const (.int .i64 11)), none⟩])
 (.ret))
 (.skip)))
 (.seq (.seq (.region [⟨some 25, .move (.tmp 1), none⟩,
  ⟨some 26, .bin .eql (.tmp 25) (.const (.int .i64 0)), none⟩])
 (.cond (.tmp 26) (.seq (.block 0 (.seq (.region [⟨some 28, .move (.tmp 0), none⟩,
  ⟨some 29, .bin .lss (.tmp 28) (.const (.int .i64 0)), none⟩,
  ⟨some 27, .move (.tmp 29), none⟩])
 (.cond (.tmp 27) (.seq (.region [⟨some 30, .move (.tmp 0), none⟩,
  ⟨some 31, .un .neg (.tmp 30), none⟩,
  ⟨some 4, .move (.const (.int .i64 (-1))), none⟩,
  ⟨some 5, .move (.const (.int .i64 0)), none⟩,
  ⟨some 6, .move (.tmp 31), none⟩,
  ⟨some 7, .move (.const (.int .i64 0)), none⟩])
 (.ret))
 (.seq (.region [⟨some 33, .move (.tmp 0), none⟩,
  ⟨some 34, .bin .gtr (.tmp 33) (.const (.int .i64 0)), none⟩,
  ⟨some 32, .move (.tmp 34), none⟩])
 (.cond (.tmp 32) (.seq (.region [⟨some 35, .move (.tmp 0), none⟩,
  ⟨some 4, .move (.const (.int .i64 1)), none⟩,
  ⟨some 5, .move (.const (.int .i64 0)), none⟩,
  ⟨some 6, .move (.tmp 35), none⟩,
  ⟨some 7, .move (.const (.int .i64 0)), none⟩])
 (.ret))
 (.skip))))))
 (.seq (.region [⟨some 4, .move (.const (.int .i64 0)), none⟩,
  ⟨some 5, .move (.const (.int .i64 0)), none⟩,
  ⟨some 6, .move (.const (.int .i64 0)), none⟩,
  ⟨some 7, .move (.const (.int .i64 0)), none⟩])
 (.ret)))
 (.skip)))
 (.seq (.region [⟨some 37, .move (.tmp 0), none⟩,
  ⟨some 38, .move (.tmp 1), none⟩,
  ⟨some 39, .call 76 [.tmp 37, .tmp 38], none⟩,
  ⟨some 36, .move (.tmp 39), none⟩,
  ⟨some 40, .extract (.tmp 36) 0, none⟩,
  ⟨some 41, .extract (.tmp 36) 1, none⟩,
  ⟨some 8, .move (.tmp 40), none⟩,
  ⟨some 9, .move (.tmp 41), none⟩])
 (.seq (.region [⟨some 42, .move (.tmp 1), none⟩,
  ⟨some 43, .call 53 [.tmp 42], none⟩,
  ⟨some 44, .conv .i64 (.tmp 43), none⟩,
  ⟨some 45, .move (.tmp 9), none⟩,
  ⟨some 46, .bin .quo (.tmp 44) (.tmp 45), none⟩,
  ⟨some 10, .move (.tmp 46), none⟩])
 (.seq (.region [⟨some 48, .move (.tmp 8), none⟩,
  ⟨some 49, .move (.tmp 10), none⟩,
  ⟨some 50, .call 70 [.tmp 48, .tmp 49], none⟩,
  ⟨some 47, .move (.tmp 50), none⟩,
  ⟨some 51, .extract (.tmp 47) 0, none⟩,
  ⟨some 52, .extract (.tmp 47) 1, none⟩,
  ⟨some 53, .extract (.tmp 47) 2, none⟩,
  ⟨some 8, .move (.tmp 52), none⟩])
 (.seq (.draw [⟨⟨some 54, .move (.tmp 8), none⟩, .pure, 0, 0⟩,
  ⟨⟨some 55, .move (.tmp 9), none⟩, .pure, 0, 0⟩,
  ⟨⟨some 56, .move (.tmp 0), none⟩, .pure, 0, 0⟩,
  ⟨⟨some 57, .move (.tmp 8), none⟩, .pure, 0, 0⟩,
  ⟨⟨some 58, .bin .mul (.tmp 56) (.tmp 57), none⟩, .pure, 0, 0⟩,
  ⟨⟨some 59, .bin .sub (.tmp 55) (.tmp 58), none⟩, .pure, 0, 0⟩,
  ⟨⟨some 60, .move (.tmp 1), none⟩, .pure, 0, 0⟩,
  ⟨⟨some 61, .bin .quo (.tmp 59) (.tmp 60), none⟩, .pure, 0, 0⟩,
  ⟨⟨some 62, .move (.tmp 9), none⟩, .pure, 0, 0⟩,
  ⟨⟨some 4, .move (.tmp 54), none⟩, .pure, 0, 0⟩,
  ⟨⟨some 5, .move (.tmp 61), none⟩, .pure, 0, 0⟩,
  ⟨⟨some 6, .move (.tmp 62), none⟩, .pure, 0, 0⟩,
  ⟨⟨some 7, .move (.const (.int .i64 0)), none⟩, .pure, 0, 0⟩])
 (.ret)))))))
theorem light69 : Light Try.prog 69 2 63 L69 [.tmp 4, .tmp 5, .tmp 6, .tmp 7] :=
  ⟨Try.f69, _, Try.func69, rfl, rfl, by kernel_rfl, by kernel_rfl, by decide⟩

/-! ### function 70: outrider/num.Floor -/
def L70 : LCode :=
 .seq (.region [⟨some 4, .move (.const (.int .i64 0)), none⟩,
  ⟨some 5, .move (.const (.int .i64 0)), none⟩,
  ⟨some 6, .move (.const (.int .i64 0)), none⟩])
 (.seq (.seq (.region [⟨some 9, .move (.tmp 1), none⟩,
  ⟨some 10, .bin .eql (.tmp 9) (.const (.int .i64 0)), none⟩])
 (.cond (.tmp 10) (.seq (.region [⟨some 4, .move (.const (.int .i64 0)), none⟩,
  ⟨some 5, .move (.const (.int .i64 0)), none⟩,
  ⟨some 6, .move (.const (.int .i64 12)), none⟩])
 (.ret))
 (.skip)))
 (.seq (.draw [⟨⟨some 11, .move (.tmp 0), none⟩, .pure, 0, 0⟩,
  ⟨⟨some 12, .move (.tmp 1), none⟩, .pure, 0, 0⟩,
  ⟨⟨some 13, .bin .quo (.tmp 11) (.tmp 12), none⟩, .pure, 0, 0⟩,
  ⟨⟨some 14, .move (.tmp 0), none⟩, .pure, 0, 0⟩,
  ⟨⟨some 15, .move (.tmp 1), none⟩, .pure, 0, 0⟩,
  ⟨⟨some 16, .bin .rem (.tmp 14) (.tmp 15), none⟩, .pure, 0, 0⟩,
  ⟨⟨some 7, .move (.tmp 13), none⟩, .pure, 0, 0⟩,
  ⟨⟨some 8, .move (.tmp 16), none⟩, .pure, 0, 0⟩])
 (.seq (.seq (.region [⟨some 17, .move (.tmp 8), none⟩,
  ⟨some 18, .bin .neq (.tmp 17) (.const (.int .i64 0)), none⟩,
  ⟨some 19, .move (.tmp 18), none⟩,
  ⟨some 20, .move (.tmp 8), (some (19, true))⟩,
  ⟨some 21, .bin .lss (.tmp 20) (.const (.int .i64 0)), (some (19, true))⟩,
  ⟨some 22, .move (.tmp 1), (some (19, true))⟩,
  ⟨some 23, .bin .lss (.tmp 22) (.const (.int .i64 0)), (some (19, true))⟩,
  ⟨some 24, .eqB true (.tmp 21) (.tmp 23), (some (19, true))⟩,
  ⟨some 25, .pick (.tmp 19) (.tmp 24) (.const (.bool false)), none⟩])
 (.cond (.tmp 25) (.seq (.region [⟨some 26, .move (.tmp 7), none⟩,
  ⟨some 27, .bin .sub (.tmp 26) (.const (.int .i64 1)), none⟩,
  ⟨some 7, .move (.tmp 27), none⟩])
 (.region [⟨some 28, .move (.tmp 8), none⟩,
  ⟨some 29, .move (.tmp 1), none⟩,
  ⟨some 30, .bin .add (.tmp 28) (.tmp 29), none⟩,
  ⟨some 8, .move (.tmp 30), none⟩]))
 (.skip)))
 (.seq (.region [⟨some 31, .move (.tmp 7), none⟩,
  ⟨some 32, .move (.tmp 8), none⟩,
  ⟨some 4, .move (.tmp 31), none⟩,
  ⟨some 5, .move (.tmp 32), none⟩,
  ⟨some 6, .move (.const (.int .i64 0)), none⟩])
 (.ret)))))
theorem light70 : Light Try.prog 70 2 33 L70 [.tmp 4, .tmp 5, .tmp 6] :=
  ⟨Try.f70, _, Try.func70, rfl, rfl, by kernel_rfl, by kernel_rfl, by decide⟩

/-! ### function 71: outrider/outriderref01.neg -/
def L71 : LCode :=
 .seq (.region [⟨some 2, .move (.const (.int .i64 0)), none⟩])
 (.seq (.region [⟨some 3, .move (.tmp 0), none⟩,
  ⟨some 4, .call 78 [.tmp 3], none⟩,
  ⟨some 5, .call 77 [.tmp 4, .const (.int .i64 1)], none⟩,
  ⟨some 2, .move (.tmp 5), none⟩])
 (.ret))
theorem light71 : Light Try.prog 71 1 6 L71 [.tmp 2] :=
  ⟨Try.f71, _, Try.func71, rfl, rfl, by kernel_rfl, by kernel_rfl, by decide⟩

/-! ### function 72: outrider/ins.shapeOf -/
def L72 : LCode :=
 .seq (.region [⟨some 2, .new 172 8 [.bool false, .bool false, .bool false, .bool false, .bool false, .bool false, .bool false, .bool false], none⟩,
  ⟨some 3, .move (.const (.bool false)), none⟩])
 (.seq (.seq (.region [⟨some 4, .move (.tmp 0), none⟩])
 (.block 0 (.seq (.region [⟨some 6, .bin .eql (.tmp 4) (.const (.int .i64 1)), none⟩,
  ⟨some 5, .move (.tmp 6), none⟩])
 (.cond (.tmp 5) (.seq (.region [⟨some 7, .build [.bool false, .bool false, .bool false, .bool false, .bool false, .bool false, .bool false, .bool false] [], none⟩,
  ⟨none, .store 8 (.tmp 2) (.tmp 7), none⟩,
  ⟨some 3, .move (.const (.bool true)), none⟩])
 (.ret))
 (.seq (.region [⟨some 9, .bin .eql (.tmp 4) (.const (.int .i64 2)), none⟩,
  ⟨some 8, .move (.tmp 9), none⟩])
 (.cond (.tmp 8) (.seq (.region [⟨some 10, .build [.bool false, .bool false, .bool false, .bool false, .bool false, .bool false, .bool false, .bool false] [(0, 1, .const (.bool true)), (4, 1, .const (.bool true))], none⟩,
  ⟨none, .store 8 (.tmp 2) (.tmp 10), none⟩,
  ⟨some 3, .move (.const (.bool true)), none⟩])
 (.ret))
 (.seq (.region [⟨some 12, .bin .eql (.tmp 4) (.const (.int .i64 3)), none⟩,
  ⟨some 11, .move (.tmp 12), none⟩])
 (.cond (.tmp 11) (.seq (.region [⟨some 13, .build [.bool false, .bool false, .bool false, .bool false, .bool false, .bool false, .bool false, .bool false] [(0, 1, .const (.bool true)), (1, 1, .const (.bool true))], none⟩,
  ⟨none, .store 8 (.tmp 2) (.tmp 13), none⟩,
  ⟨some 3, .move (.const (.bool true)), none⟩])
 (.ret))
 (.seq (.region [⟨some 15, .bin .eql (.tmp 4) (.const (.int .i64 4)), none⟩,
  ⟨some 14, .move (.tmp 15), none⟩])
 (.cond (.tmp 14) (.seq (.region [⟨some 16, .build [.bool false, .bool false, .bool false, .bool false, .bool false, .bool false, .bool false, .bool false] [(0, 1, .const (.bool true)), (1, 1, .const (.bool true)), (6, 1, .const (.bool true))], none⟩,
  ⟨none, .store 8 (.tmp 2) (.tmp 16), none⟩,
  ⟨some 3, .move (.const (.bool true)), none⟩])
 (.ret))
 (.seq (.region [⟨some 18, .bin .eql (.tmp 4) (.const (.int .i64 5)), none⟩,
  ⟨some 17, .move (.tmp 18), none⟩])
 (.cond (.tmp 17) (.seq (.region [⟨some 19, .build [.bool false, .bool false, .bool false, .bool false, .bool false, .bool false, .bool false, .bool false] [(0, 1, .const (.bool true)), (1, 1, .const (.bool true)), (2, 1, .const (.bool true)), (7, 1, .const (.bool true))], none⟩,
  ⟨none, .store 8 (.tmp 2) (.tmp 19), none⟩,
  ⟨some 3, .move (.const (.bool true)), none⟩])
 (.ret))
 (.seq (.seq (.region [⟨some 21, .bin .eql (.tmp 4) (.const (.int .i64 6)), none⟩,
  ⟨some 20, .move (.tmp 21), none⟩])
 (.cond (.tmp 20) (.skip)
 (.region [⟨some 22, .bin .eql (.tmp 4) (.const (.int .i64 7)), none⟩,
  ⟨some 20, .move (.tmp 22), none⟩])))
 (.cond (.tmp 20) (.seq (.region [⟨some 23, .build [.bool false, .bool false, .bool false, .bool false, .bool false, .bool false, .bool false, .bool false] [(0, 1, .const (.bool true)), (1, 1, .const (.bool true)), (4, 1, .const (.bool true))], none⟩,
  ⟨none, .store 8 (.tmp 2) (.tmp 23), none⟩,
  ⟨some 3, .move (.const (.bool true)), none⟩])
 (.ret))
 (.seq (.region [⟨some 25, .bin .eql (.tmp 4) (.const (.int .i64 8)), none⟩,
  ⟨some 24, .move (.tmp 25), none⟩])
 (.cond (.tmp 24) (.seq (.region [⟨some 26, .build [.bool false, .bool false, .bool false, .bool false, .bool false, .bool false, .bool false, .bool false] [(0, 1, .const (.bool true)), (3, 1, .const (.bool true))], none⟩,
  ⟨none, .store 8 (.tmp 2) (.tmp 26), none⟩,
  ⟨some 3, .move (.const (.bool true)), none⟩])
 (.ret))
 (.seq (.seq (.region [⟨some 28, .bin .eql (.tmp 4) (.const (.int .i64 9)), none⟩,
  ⟨some 27, .move (.tmp 28), none⟩])
 (.cond (.tmp 27) (.skip)
 (.region [⟨some 29, .bin .eql (.tmp 4) (.const (.int .i64 13)), none⟩,
  ⟨some 27, .move (.tmp 29), none⟩])))
 (.cond (.tmp 27) (.seq (.region [⟨some 30, .build [.bool false, .bool false, .bool false, .bool false, .bool false, .bool false, .bool false, .bool false] [(0, 1, .const (.bool true))], none⟩,
  ⟨none, .store 8 (.tmp 2) (.tmp 30), none⟩,
  ⟨some 3, .move (.const (.bool true)), none⟩])
 (.ret))
 (.seq (.region [⟨some 32, .bin .eql (.tmp 4) (.const (.int .i64 10)), none⟩,
  ⟨some 31, .move (.tmp 32), none⟩])
 (.cond (.tmp 31) (.seq (.region [⟨some 33, .build [.bool false, .bool false, .bool false, .bool false, .bool false, .bool false, .bool false, .bool false] [(4, 1, .const (.bool true)), (5, 1, .const (.bool true))], none⟩,
  ⟨none, .store 8 (.tmp 2) (.tmp 33), none⟩,
  ⟨some 3, .move (.const (.bool true)), none⟩])
 (.ret))
 (.seq (.seq (.region [⟨some 35, .bin .eql (.tmp 4) (.const (.int .i64 11)), none⟩,
  ⟨some 34, .move (.tmp 35), none⟩])
 (.cond (.tmp 34) (.skip)
 (.region [⟨some 36, .bin .eql (.tmp 4) (.const (.int .i64 12)), none⟩,
  ⟨some 34, .move (.tmp 36), none⟩])))
 (.cond (.tmp 34) (.seq (.region [⟨some 37, .build [.bool false, .bool false, .bool false, .bool false, .bool false, .bool false, .bool false, .bool false] [(0, 1, .const (.bool true)), (4, 1, .const (.bool true)), (5, 1, .const (.bool true))], none⟩,
  ⟨none, .store 8 (.tmp 2) (.tmp 37), none⟩,
  ⟨some 3, .move (.const (.bool true)), none⟩])
 (.ret))
 (.skip)))))))))))))))))))))))
 (.seq (.region [⟨some 38, .build [.bool false, .bool false, .bool false, .bool false, .bool false, .bool false, .bool false, .bool false] [], none⟩,
  ⟨none, .store 8 (.tmp 2) (.tmp 38), none⟩,
  ⟨some 3, .move (.const (.bool false)), none⟩])
 (.ret)))
theorem light72 : Light Try.prog 72 1 39 L72 [.cell 2 true 8, .tmp 3] :=
  ⟨Try.f72, _, Try.func72, rfl, rfl, by kernel_rfl, by kernel_rfl, by decide⟩

/-! ### function 73: outrider/ins.reg -/
def L73 : LCode :=
 .seq (.region [⟨some 4, .move (.const (.bool false)), none⟩])
 (.seq (.region [⟨some 5, .move (.tmp 0), none⟩,
  ⟨some 6, .move (.tmp 5), none⟩,
  ⟨some 7, .move (.tmp 1), (some (6, true))⟩,
  ⟨some 8, .bin .geq (.tmp 7) (.const (.int .i64 0)), (some (6, true))⟩,
  ⟨some 9, .pick (.tmp 6) (.tmp 8) (.const (.bool false)), none⟩,
  ⟨some 10, .move (.tmp 9), none⟩,
  ⟨some 11, .move (.tmp 1), (some (10, true))⟩,
  ⟨some 12, .bin .lss (.tmp 11) (.const (.int .i64 16)), (some (10, true))⟩,
  ⟨some 13, .pick (.tmp 10) (.tmp 12) (.const (.bool false)), none⟩,
  ⟨some 14, .move (.tmp 13), none⟩,
  ⟨some 15, .move (.tmp 0), (some (14, false))⟩,
  ⟨some 16, .un .not (.tmp 15), (some (14, false))⟩,
  ⟨some 17, .move (.tmp 16), (some (14, false))⟩,
  ⟨some 18, .move (.tmp 1), (some (17, true))⟩,
  ⟨some 19, .bin .eql (.tmp 18) (.const (.int .i64 0)), (some (17, true))⟩,
  ⟨some 20, .pick (.tmp 17) (.tmp 19) (.const (.bool false)), (some (14, false))⟩,
  ⟨some 21, .pick (.tmp 14) (.const (.bool true)) (.tmp 20), none⟩,
  ⟨some 4, .move (.tmp 21), none⟩])
 (.ret))
theorem light73 : Light Try.prog 73 2 22 L73 [.tmp 4] :=
  ⟨Try.f73, _, Try.func73, rfl, rfl, by kernel_rfl, by kernel_rfl, by decide⟩

/-! ### function 74: outrider/num.Two -/
def L74 : LCode :=
 .seq (.region [⟨some 6, .move (.const (.int .i64 0)), none⟩,
  ⟨some 7, .move (.const (.bool false)), none⟩])
 (.seq (.seq (.region [⟨some 8, .move (.tmp 0), none⟩,
  ⟨some 9, .bin .geq (.tmp 8) (.const (.int .i64 11)), none⟩,
  ⟨some 10, .move (.tmp 9), none⟩,
  ⟨some 11, .move (.tmp 0), (some (10, true))⟩,
  ⟨some 12, .bin .leq (.tmp 11) (.const (.int .i64 16)), (some (10, true))⟩,
  ⟨some 13, .pick (.tmp 10) (.tmp 12) (.const (.bool false)), none⟩])
 (.cond (.tmp 13) (.seq (.region [⟨some 14, .move (.tmp 0), none⟩,
  ⟨some 15, .move (.tmp 1), none⟩,
  ⟨some 16, .move (.tmp 2), none⟩,
  ⟨some 17, .call 79 [.tmp 14, .tmp 15, .tmp 16], none⟩,
  ⟨some 6, .move (.tmp 17), none⟩,
  ⟨some 7, .move (.const (.bool true)), none⟩])
 (.ret))
 (.skip)))
 (.seq (.seq (.region [⟨some 18, .move (.tmp 0), none⟩])
 (.block 0 (.seq (.region [⟨some 20, .bin .eql (.tmp 18) (.const (.int .i64 1)), none⟩,
  ⟨some 19, .move (.tmp 20), none⟩])
 (.cond (.tmp 19) (.seq (.region [⟨some 21, .move (.tmp 1), none⟩,
  ⟨some 22, .move (.tmp 2), none⟩,
  ⟨some 23, .bin .add (.tmp 21) (.tmp 22), none⟩,
  ⟨some 6, .move (.tmp 23), none⟩,
  ⟨some 7, .move (.const (.bool true)), none⟩])
 (.ret))
 (.seq (.region [⟨some 25, .bin .eql (.tmp 18) (.const (.int .i64 2)), none⟩,
  ⟨some 24, .move (.tmp 25), none⟩])
 (.cond (.tmp 24) (.seq (.region [⟨some 26, .move (.tmp 1), none⟩,
  ⟨some 27, .move (.tmp 2), none⟩,
  ⟨some 28, .bin .sub (.tmp 26) (.tmp 27), none⟩,
  ⟨some 6, .move (.tmp 28), none⟩,
  ⟨some 7, .move (.const (.bool true)), none⟩])
 (.ret))
 (.seq (.region [⟨some 30, .bin .eql (.tmp 18) (.const (.int .i64 3)), none⟩,
  ⟨some 29, .move (.tmp 30), none⟩])
 (.cond (.tmp 29) (.seq (.region [⟨some 31, .move (.tmp 1), none⟩,
  ⟨some 32, .move (.tmp 2), none⟩,
  ⟨some 33, .bin .mul (.tmp 31) (.tmp 32), none⟩,
  ⟨some 6, .move (.tmp 33), none⟩,
  ⟨some 7, .move (.const (.bool true)), none⟩])
 (.ret))
 (.seq (.seq (.region [⟨some 35, .bin .eql (.tmp 18) (.const (.int .i64 4)), none⟩,
  ⟨some 34, .move (.tmp 35), none⟩])
 (.cond (.tmp 34) (.skip)
 (.region [⟨some 36, .bin .eql (.tmp 18) (.const (.int .i64 5)), none⟩,
  ⟨some 34, .move (.tmp 36), none⟩])))
 (.cond (.tmp 34) (.seq (.region [⟨some 37, .move (.tmp 0), none⟩,
  ⟨some 38, .move (.tmp 1), none⟩,
  ⟨some 39, .move (.tmp 2), none⟩,
  ⟨some 40, .call 80 [.tmp 37, .tmp 38, .tmp 39], none⟩,
  ⟨some 41, .extract (.tmp 40) 0, none⟩,
  ⟨some 42, .extract (.tmp 40) 1, none⟩,
  ⟨some 6, .move (.tmp 41), none⟩,
  ⟨some 7, .move (.tmp 42), none⟩])
 (.ret))
 (.seq (.region [⟨some 44, .bin .eql (.tmp 18) (.const (.int .i64 6)), none⟩,
  ⟨some 43, .move (.tmp 44), none⟩])
 (.cond (.tmp 43) (.seq (.region [⟨some 45, .move (.tmp 1), none⟩,
  ⟨some 46, .move (.tmp 2), none⟩,
  ⟨some 47, .bin .and (.tmp 45) (.tmp 46), none⟩,
  ⟨some 6, .move (.tmp 47), none⟩,
  ⟨some 7, .move (.const (.bool true)), none⟩])
 (.ret))
 (.seq (.region [⟨some 49, .bin .eql (.tmp 18) (.const (.int .i64 7)), none⟩,
  ⟨some 48, .move (.tmp 49), none⟩])
 (.cond (.tmp 48) (.seq (.region [⟨some 50, .move (.tmp 1), none⟩,
  ⟨some 51, .move (.tmp 2), none⟩,
  ⟨some 52, .bin .or (.tmp 50) (.tmp 51), none⟩,
  ⟨some 6, .move (.tmp 52), none⟩,
  ⟨some 7, .move (.const (.bool true)), none⟩])
 (.ret))
 (.seq (.region [⟨some 54, .bin .eql (.tmp 18) (.const (.int .i64 8)), none⟩,
  ⟨some 53, .move (.tmp 54), none⟩])
 (.cond (.tmp 53) (.seq (.region [⟨some 55, .move (.tmp 1), none⟩,
  ⟨some 56, .move (.tmp 2), none⟩,
  ⟨some 57, .bin .xor (.tmp 55) (.tmp 56), none⟩,
  ⟨some 6, .move (.tmp 57), none⟩,
  ⟨some 7, .move (.const (.bool true)), none⟩])
 (.ret))
 (.seq (.region [⟨some 59, .bin .eql (.tmp 18) (.const (.int .i64 9)), none⟩,
  ⟨some 58, .move (.tmp 59), none⟩])
 (.cond (.tmp 58) (.seq (.region [⟨some 60, .move (.tmp 1), none⟩,
  ⟨some 61, .move (.tmp 2), none⟩,
  ⟨some 62, .bin .and (.tmp 61) (.const (.int .i64 63)), none⟩,
  ⟨some 63, .conv .u64 (.tmp 62), none⟩,
  ⟨some 64, .bin .shl (.tmp 60) (.tmp 63), none⟩,
  ⟨some 6, .move (.tmp 64), none⟩,
  ⟨some 7, .move (.const (.bool true)), none⟩])
 (.ret))
 (.seq (.region [⟨some 66, .bin .eql (.tmp 18) (.const (.int .i64 10)), none⟩,
  ⟨some 65, .move (.tmp 66), none⟩])
 (.cond (.tmp 65) (.seq (.region [⟨some 67, .move (.tmp 1), none⟩,
  ⟨some 68, .move (.tmp 2), none⟩,
  ⟨some 69, .bin .and (.tmp 68) (.const (.int .i64 63)), none⟩,
  ⟨some 70, .conv .u64 (.tmp 69), none⟩,
  ⟨some 71, .bin .shr (.tmp 67) (.tmp 70), none⟩,
  ⟨some 6, .move (.tmp 71), none⟩,
  ⟨some 7, .move (.const (.bool true)), none⟩])
 (.ret))
 (.seq (.region [⟨some 73, .bin .eql (.tmp 18) (.const (.int .i64 17)), none⟩,
  ⟨some 72, .move (.tmp 73), none⟩])
 (.cond (.tmp 72) (.seq (.region [⟨some 74, .move (.tmp 1), none⟩,
  ⟨some 75, .move (.tmp 2), none⟩,
  ⟨some 76, .minmax false (.tmp 74) [.tmp 75], none⟩,
  ⟨some 6, .move (.tmp 76), none⟩,
  ⟨some 7, .move (.const (.bool true)), none⟩])
 (.ret))
 (.seq (.region [⟨some 78, .bin .eql (.tmp 18) (.const (.int .i64 18)), none⟩,
  ⟨some 77, .move (.tmp 78), none⟩])
 (.cond (.tmp 77) (.seq (.region [⟨some 79, .move (.tmp 1), none⟩,
  ⟨some 80, .move (.tmp 2), none⟩,
  ⟨some 81, .minmax true (.tmp 79) [.tmp 80], none⟩,
  ⟨some 6, .move (.tmp 81), none⟩,
  ⟨some 7, .move (.const (.bool true)), none⟩])
 (.ret))
 (.skip)))))))))))))))))))))))))
 (.seq (.region [⟨some 6, .move (.const (.int .i64 0)), none⟩,
  ⟨some 7, .move (.const (.bool false)), none⟩])
 (.ret))))
theorem light74 : Light Try.prog 74 3 82 L74 [.tmp 6, .tmp 7] :=
  ⟨Try.f74, _, Try.func74, rfl, rfl, by kernel_rfl, by kernel_rfl, by decide⟩

/-! ### function 75: slices.Sort[[]int,int] -/
def L75 : LCode :=
 .seq (.region [⟨some 3, .move (.tmp 0), none⟩,
  ⟨some 4, .len (.tmp 3), none⟩,
  ⟨some 2, .move (.tmp 4), none⟩])
 (.region [⟨some 5, .move (.tmp 0), none⟩,
  ⟨some 6, .move (.tmp 2), none⟩,
  ⟨some 7, .move (.tmp 2), none⟩,
  ⟨some 8, .conv .u64 (.tmp 7), none⟩,
  ⟨some 9, .call 82 [.tmp 8], none⟩,
  ⟨some 10, .call 81 [.tmp 5, .const (.int .i64 0), .tmp 6, .tmp 9], none⟩])
theorem light75 : Light Try.prog 75 1 11 L75 [] :=
  ⟨Try.f75, _, Try.func75, rfl, rfl, by kernel_rfl, by kernel_rfl, by decide⟩

/-! ### function 76: outrider/num.steps -/
def L76_1 : LCode :=
 .seq (.seq (.region [⟨some 13, .move (.tmp 7), none⟩,
  ⟨some 14, .bin .neq (.tmp 13) (.const (.int .i64 0)), none⟩])
 (.cond (.tmp 14) (.skip)
 (.exit 0)))
 (.block 1 (.seq (.region [⟨some 15, .move (.tmp 6), none⟩,
  ⟨some 16, .move (.tmp 7), none⟩,
  ⟨some 17, .bin .quo (.tmp 15) (.tmp 16), none⟩,
  ⟨some 10, .move (.tmp 17), none⟩])
 (.seq (.region [⟨some 18, .move (.tmp 7), none⟩,
  ⟨some 19, .move (.tmp 6), none⟩,
  ⟨some 20, .move (.tmp 10), none⟩,
  ⟨some 21, .move (.tmp 7), none⟩,
  ⟨some 22, .bin .mul (.tmp 20) (.tmp 21), none⟩,
  ⟨some 23, .bin .sub (.tmp 19) (.tmp 22), none⟩,
  ⟨some 6, .move (.tmp 18), none⟩,
  ⟨some 7, .move (.tmp 23), none⟩])
 (.region [⟨some 24, .move (.tmp 9), none⟩,
  ⟨some 25, .move (.tmp 8), none⟩,
  ⟨some 26, .move (.tmp 10), none⟩,
  ⟨some 27, .move (.tmp 9), none⟩,
  ⟨some 28, .bin .mul (.tmp 26) (.tmp 27), none⟩,
  ⟨some 29, .bin .sub (.tmp 25) (.tmp 28), none⟩,
  ⟨some 8, .move (.tmp 24), none⟩,
  ⟨some 9, .move (.tmp 29), none⟩]))))
def L76 : LCode :=
 .seq (.region [⟨some 4, .move (.const (.int .i64 0)), none⟩,
  ⟨some 5, .move (.const (.int .i64 0)), none⟩])
 (.seq (.region [⟨some 11, .move (.tmp 0), none⟩,
  ⟨some 12, .move (.tmp 1), none⟩,
  ⟨some 6, .move (.tmp 11), none⟩,
  ⟨some 7, .move (.tmp 12), none⟩])
 (.seq (.region [⟨some 8, .move (.const (.int .i64 1)), none⟩,
  ⟨some 9, .move (.const (.int .i64 0)), none⟩])
 (.seq (.block 0 (.loop L76_1))
 (.seq (.seq (.region [⟨some 30, .move (.tmp 6), none⟩,
  ⟨some 31, .bin .lss (.tmp 30) (.const (.int .i64 0)), none⟩])
 (.cond (.tmp 31) (.seq (.region [⟨some 32, .move (.tmp 8), none⟩,
  ⟨some 33, .un .neg (.tmp 32), none⟩,
  ⟨some 34, .move (.tmp 6), none⟩,
  ⟨some 35, .un .neg (.tmp 34), none⟩,
  ⟨some 4, .move (.tmp 33), none⟩,
  ⟨some 5, .move (.tmp 35), none⟩])
 (.ret))
 (.skip)))
 (.seq (.region [⟨some 36, .move (.tmp 8), none⟩,
  ⟨some 37, .move (.tmp 6), none⟩,
  ⟨some 4, .move (.tmp 36), none⟩,
  ⟨some 5, .move (.tmp 37), none⟩])
 (.ret))))))
theorem light76 : Light Try.prog 76 2 38 L76 [.tmp 4, .tmp 5] :=
  ⟨Try.f76, _, Try.func76, rfl, rfl, by kernel_rfl, by kernel_rfl, by decide⟩

/-! ### function 77: outrider/outriderref01.add -/
def L77 : LCode :=
 .seq (.region [⟨some 4, .move (.const (.int .i64 0)), none⟩])
 (.seq (.region [⟨some 11, .move (.tmp 0), none⟩,
  ⟨some 12, .call 83 [.tmp 11], none⟩,
  ⟨some 10, .move (.tmp 12), none⟩,
  ⟨some 13, .extract (.tmp 10) 0, none⟩,
  ⟨some 14, .extract (.tmp 10) 1, none⟩,
  ⟨some 5, .move (.tmp 13), none⟩,
  ⟨some 6, .move (.tmp 14), none⟩])
 (.seq (.region [⟨some 16, .move (.tmp 1), none⟩,
  ⟨some 17, .call 83 [.tmp 16], none⟩,
  ⟨some 15, .move (.tmp 17), none⟩,
  ⟨some 18, .extract (.tmp 15) 0, none⟩,
  ⟨some 19, .extract (.tmp 15) 1, none⟩,
  ⟨some 7, .move (.tmp 18), none⟩,
  ⟨some 8, .move (.tmp 19), none⟩])
 (.seq (.region [⟨some 20, .move (.tmp 5), none⟩,
  ⟨some 21, .move (.tmp 7), none⟩,
  ⟨some 22, .bin .add (.tmp 20) (.tmp 21), none⟩,
  ⟨some 9, .move (.tmp 22), none⟩])
 (.seq (.region [⟨some 23, .move (.tmp 9), none⟩,
  ⟨some 24, .move (.tmp 6), none⟩,
  ⟨some 25, .move (.tmp 8), none⟩,
  ⟨some 26, .bin .add (.tmp 24) (.tmp 25), none⟩,
  ⟨some 27, .move (.tmp 9), none⟩,
  ⟨some 28, .bin .shr (.tmp 27) (.const (.int .u64 32)), none⟩,
  ⟨some 29, .bin .add (.tmp 26) (.tmp 28), none⟩,
  ⟨some 30, .call 84 [.tmp 23, .tmp 29], none⟩,
  ⟨some 4, .move (.tmp 30), none⟩])
 (.ret)))))
theorem light77 : Light Try.prog 77 2 31 L77 [.tmp 4] :=
  ⟨Try.f77, _, Try.func77, rfl, rfl, by kernel_rfl, by kernel_rfl, by decide⟩

/-! ### function 78: outrider/outriderref01.com -/
def L78 : LCode :=
 .seq (.region [⟨some 2, .move (.const (.int .i64 0)), none⟩])
 (.seq (.region [⟨some 6, .move (.tmp 0), none⟩,
  ⟨some 7, .call 83 [.tmp 6], none⟩,
  ⟨some 5, .move (.tmp 7), none⟩,
  ⟨some 8, .extract (.tmp 5) 0, none⟩,
  ⟨some 9, .extract (.tmp 5) 1, none⟩,
  ⟨some 3, .move (.tmp 8), none⟩,
  ⟨some 4, .move (.tmp 9), none⟩])
 (.seq (.region [⟨some 10, .move (.tmp 3), none⟩,
  ⟨some 11, .bin .sub (.const (.int .u64 4294967295)) (.tmp 10), none⟩,
  ⟨some 12, .move (.tmp 4), none⟩,
  ⟨some 13, .bin .sub (.const (.int .u64 4294967295)) (.tmp 12), none⟩,
  ⟨some 14, .call 84 [.tmp 11, .tmp 13], none⟩,
  ⟨some 2, .move (.tmp 14), none⟩])
 (.ret)))
theorem light78 : Light Try.prog 78 1 15 L78 [.tmp 2] :=
  ⟨Try.f78, _, Try.func78, rfl, rfl, by kernel_rfl, by kernel_rfl, by decide⟩

/-! ### function 79: outrider/num.held -/
def L79 : LCode :=
 .seq (.region [⟨some 6, .move (.const (.int .i64 0)), none⟩])
 (.seq (.region [⟨some 7, .move (.const (.bool false)), none⟩])
 (.seq (.seq (.region [⟨some 8, .move (.tmp 0), none⟩])
 (.block 0 (.seq (.region [⟨some 10, .bin .eql (.tmp 8) (.const (.int .i64 11)), none⟩,
  ⟨some 9, .move (.tmp 10), none⟩])
 (.cond (.tmp 9) (.region [⟨some 11, .move (.tmp 1), none⟩,
  ⟨some 12, .move (.tmp 2), none⟩,
  ⟨some 13, .bin .eql (.tmp 11) (.tmp 12), none⟩,
  ⟨some 7, .move (.tmp 13), none⟩])
 (.seq (.region [⟨some 15, .bin .eql (.tmp 8) (.const (.int .i64 12)), none⟩,
  ⟨some 14, .move (.tmp 15), none⟩])
 (.cond (.tmp 14) (.region [⟨some 16, .move (.tmp 1), none⟩,
  ⟨some 17, .move (.tmp 2), none⟩,
  ⟨some 18, .bin .neq (.tmp 16) (.tmp 17), none⟩,
  ⟨some 7, .move (.tmp 18), none⟩])
 (.seq (.region [⟨some 20, .bin .eql (.tmp 8) (.const (.int .i64 13)), none⟩,
  ⟨some 19, .move (.tmp 20), none⟩])
 (.cond (.tmp 19) (.region [⟨some 21, .move (.tmp 1), none⟩,
  ⟨some 22, .move (.tmp 2), none⟩,
  ⟨some 23, .bin .lss (.tmp 21) (.tmp 22), none⟩,
  ⟨some 7, .move (.tmp 23), none⟩])
 (.seq (.region [⟨some 25, .bin .eql (.tmp 8) (.const (.int .i64 14)), none⟩,
  ⟨some 24, .move (.tmp 25), none⟩])
 (.cond (.tmp 24) (.region [⟨some 26, .move (.tmp 1), none⟩,
  ⟨some 27, .move (.tmp 2), none⟩,
  ⟨some 28, .bin .leq (.tmp 26) (.tmp 27), none⟩,
  ⟨some 7, .move (.tmp 28), none⟩])
 (.seq (.region [⟨some 30, .bin .eql (.tmp 8) (.const (.int .i64 15)), none⟩,
  ⟨some 29, .move (.tmp 30), none⟩])
 (.cond (.tmp 29) (.region [⟨some 31, .move (.tmp 1), none⟩,
  ⟨some 32, .move (.tmp 2), none⟩,
  ⟨some 33, .bin .gtr (.tmp 31) (.tmp 32), none⟩,
  ⟨some 7, .move (.tmp 33), none⟩])
 (.seq (.region [⟨some 35, .bin .eql (.tmp 8) (.const (.int .i64 16)), none⟩,
  ⟨some 34, .move (.tmp 35), none⟩])
 (.cond (.tmp 34) (.region [⟨some 36, .move (.tmp 1), none⟩,
  ⟨some 37, .move (.tmp 2), none⟩,
  ⟨some 38, .bin .geq (.tmp 36) (.tmp 37), none⟩,
  ⟨some 7, .move (.tmp 38), none⟩])
 (.skip)))))))))))))))
 (.seq (.seq (.region [⟨some 39, .move (.tmp 7), none⟩])
 (.cond (.tmp 39) (.seq (.region [⟨some 6, .move (.const (.int .i64 1)), none⟩])
 (.ret))
 (.skip)))
 (.seq (.region [⟨some 6, .move (.const (.int .i64 0)), none⟩])
 (.ret)))))
theorem light79 : Light Try.prog 79 3 40 L79 [.tmp 6] :=
  ⟨Try.f79, _, Try.func79, rfl, rfl, by kernel_rfl, by kernel_rfl, by decide⟩

/-! ### function 80: outrider/num.parts -/
def L80 : LCode :=
 .seq (.region [⟨some 6, .move (.const (.int .i64 0)), none⟩,
  ⟨some 7, .move (.const (.bool false)), none⟩])
 (.seq (.block 0 (.seq (.region [⟨some 9, .move (.tmp 2), none⟩,
  ⟨some 10, .bin .eql (.tmp 9) (.const (.int .i64 0)), none⟩,
  ⟨some 8, .move (.tmp 10), none⟩])
 (.cond (.tmp 8) (.seq (.region [⟨some 6, .move (.const (.int .i64 0)), none⟩,
  ⟨some 7, .move (.const (.bool false)), none⟩])
 (.ret))
 (.seq (.region [⟨some 12, .move (.tmp 0), none⟩,
  ⟨some 13, .bin .eql (.tmp 12) (.const (.int .i64 5)), none⟩,
  ⟨some 11, .move (.tmp 13), none⟩])
 (.cond (.tmp 11) (.seq (.region [⟨some 14, .move (.tmp 1), none⟩,
  ⟨some 15, .move (.tmp 2), none⟩,
  ⟨some 16, .bin .rem (.tmp 14) (.tmp 15), none⟩,
  ⟨some 6, .move (.tmp 16), none⟩,
  ⟨some 7, .move (.const (.bool true)), none⟩])
 (.ret))
 (.skip))))))
 (.seq (.region [⟨some 17, .move (.tmp 1), none⟩,
  ⟨some 18, .move (.tmp 2), none⟩,
  ⟨some 19, .bin .quo (.tmp 17) (.tmp 18), none⟩,
  ⟨some 6, .move (.tmp 19), none⟩,
  ⟨some 7, .move (.const (.bool true)), none⟩])
 (.ret)))
theorem light80 : Light Try.prog 80 3 20 L80 [.tmp 6, .tmp 7] :=
  ⟨Try.f80, _, Try.func80, rfl, rfl, by kernel_rfl, by kernel_rfl, by decide⟩

/-! ### function 81: slices.pdqsortOrdered[int] -/
def L81_1 : LCode :=
 .block 1 (.seq (.region [⟨some 19, .move (.tmp 2), none⟩,
  ⟨some 20, .move (.tmp 1), none⟩,
  ⟨some 21, .bin .sub (.tmp 19) (.tmp 20), none⟩,
  ⟨some 10, .move (.tmp 21), none⟩])
 (.seq (.seq (.region [⟨some 22, .move (.tmp 10), none⟩,
  ⟨some 23, .bin .leq (.tmp 22) (.const (.int .i64 12)), none⟩])
 (.cond (.tmp 23) (.seq (.region [⟨some 24, .move (.tmp 0), none⟩,
  ⟨some 25, .move (.tmp 1), none⟩,
  ⟨some 26, .move (.tmp 2), none⟩,
  ⟨some 27, .call 85 [.tmp 24, .tmp 25, .tmp 26], none⟩])
 (.ret))
 (.skip)))
 (.seq (.seq (.region [⟨some 28, .move (.tmp 3), none⟩,
  ⟨some 29, .bin .eql (.tmp 28) (.const (.int .i64 0)), none⟩])
 (.cond (.tmp 29) (.seq (.region [⟨some 30, .move (.tmp 0), none⟩,
  ⟨some 31, .move (.tmp 1), none⟩,
  ⟨some 32, .move (.tmp 2), none⟩,
  ⟨some 33, .call 86 [.tmp 30, .tmp 31, .tmp 32], none⟩])
 (.ret))
 (.skip)))
 (.seq (.seq (.region [⟨some 34, .move (.tmp 8), none⟩,
  ⟨some 35, .un .not (.tmp 34), none⟩])
 (.cond (.tmp 35) (.seq (.region [⟨some 36, .move (.tmp 0), none⟩,
  ⟨some 37, .move (.tmp 1), none⟩,
  ⟨some 38, .move (.tmp 2), none⟩,
  ⟨some 39, .call 87 [.tmp 36, .tmp 37, .tmp 38], none⟩])
 (.region [⟨some 40, .move (.tmp 3), none⟩,
  ⟨some 41, .bin .sub (.tmp 40) (.const (.int .i64 1)), none⟩,
  ⟨some 3, .move (.tmp 41), none⟩]))
 (.skip)))
 (.seq (.region [⟨some 43, .move (.tmp 0), none⟩,
  ⟨some 44, .move (.tmp 1), none⟩,
  ⟨some 45, .move (.tmp 2), none⟩,
  ⟨some 46, .call 88 [.tmp 43, .tmp 44, .tmp 45], none⟩,
  ⟨some 42, .move (.tmp 46), none⟩,
  ⟨some 47, .extract (.tmp 42) 0, none⟩,
  ⟨some 48, .extract (.tmp 42) 1, none⟩,
  ⟨some 11, .move (.tmp 47), none⟩,
  ⟨some 12, .move (.tmp 48), none⟩])
 (.seq (.seq (.region [⟨some 49, .move (.tmp 12), none⟩,
  ⟨some 50, .bin .eql (.tmp 49) (.const (.int .i64 2)), none⟩])
 (.cond (.tmp 50) (.seq (.region [⟨some 51, .move (.tmp 0), none⟩,
  ⟨some 52, .move (.tmp 1), none⟩,
  ⟨some 53, .move (.tmp 2), none⟩,
  ⟨some 54, .call 89 [.tmp 51, .tmp 52, .tmp 53], none⟩])
 (.seq (.region [⟨some 55, .move (.tmp 2), none⟩,
  ⟨some 56, .bin .sub (.tmp 55) (.const (.int .i64 1)), none⟩,
  ⟨some 57, .move (.tmp 11), none⟩,
  ⟨some 58, .move (.tmp 1), none⟩,
  ⟨some 59, .bin .sub (.tmp 57) (.tmp 58), none⟩,
  ⟨some 60, .bin .sub (.tmp 56) (.tmp 59), none⟩,
  ⟨some 11, .move (.tmp 60), none⟩])
 (.region [⟨some 12, .move (.const (.int .i64 1)), none⟩])))
 (.skip)))
 (.seq (.seq (.region [⟨some 61, .move (.tmp 8), none⟩,
  ⟨some 62, .move (.tmp 61), none⟩,
  ⟨some 63, .move (.tmp 9), (some (62, true))⟩,
  ⟨some 64, .pick (.tmp 62) (.tmp 63) (.const (.bool false)), none⟩,
  ⟨some 65, .move (.tmp 64), none⟩,
  ⟨some 66, .move (.tmp 12), (some (65, true))⟩,
  ⟨some 67, .bin .eql (.tmp 66) (.const (.int .i64 1)), (some (65, true))⟩,
  ⟨some 68, .pick (.tmp 65) (.tmp 67) (.const (.bool false)), none⟩])
 (.cond (.tmp 68) (.seq (.region [⟨some 69, .move (.tmp 0), none⟩,
  ⟨some 70, .move (.tmp 1), none⟩,
  ⟨some 71, .move (.tmp 2), none⟩,
  ⟨some 72, .call 90 [.tmp 69, .tmp 70, .tmp 71], none⟩])
 (.cond (.tmp 72) (.ret)
 (.skip)))
 (.skip)))
 (.seq (.seq (.draw [⟨⟨some 73, .move (.tmp 1), none⟩, .pure, 0, 0⟩,
  ⟨⟨some 74, .bin .gtr (.tmp 73) (.const (.int .i64 0)), none⟩, .pure, 0, 0⟩,
  ⟨⟨some 75, .move (.tmp 74), none⟩, .pure, 0, 0⟩,
  ⟨⟨some 76, .move (.tmp 0), (some (75, true))⟩, .pure, 0, 0⟩,
  ⟨⟨some 77, .move (.tmp 1), (some (75, true))⟩, .pure, 0, 0⟩,
  ⟨⟨some 78, .bin .sub (.tmp 77) (.const (.int .i64 1)), (some (75, true))⟩, .pure, 0, 0⟩,
  ⟨⟨some 79, .idx 1 (.tmp 76) (.tmp 78), (some (75, true))⟩, .pure, 0, 0⟩,
  ⟨⟨some 80, .load false 1 (.tmp 79), (some (75, true))⟩, .read, 0, 0⟩,
  ⟨⟨some 81, .move (.tmp 0), (some (75, true))⟩, .pure, 0, 0⟩,
  ⟨⟨some 82, .move (.tmp 11), (some (75, true))⟩, .pure, 0, 0⟩,
  ⟨⟨some 83, .idx 1 (.tmp 81) (.tmp 82), (some (75, true))⟩, .pure, 0, 0⟩,
  ⟨⟨some 84, .load false 1 (.tmp 83), (some (75, true))⟩, .read, 0, 0⟩,
  ⟨⟨some 85, .call 91 [.tmp 80, .tmp 84], (some (75, true))⟩, .heavy, 0, 1⟩,
  ⟨⟨some 86, .un .not (.tmp 85), (some (75, true))⟩, .pure, 1, 1⟩,
  ⟨⟨some 87, .pick (.tmp 75) (.tmp 86) (.const (.bool false)), none⟩, .pure, 1, 1⟩])
 (.cond (.tmp 87) (.seq (.region [⟨some 88, .move (.tmp 0), none⟩,
  ⟨some 89, .move (.tmp 1), none⟩,
  ⟨some 90, .move (.tmp 2), none⟩,
  ⟨some 91, .move (.tmp 11), none⟩,
  ⟨some 92, .call 92 [.tmp 88, .tmp 89, .tmp 90, .tmp 91], none⟩,
  ⟨some 13, .move (.tmp 92), none⟩])
 (.seq (.region [⟨some 93, .move (.tmp 13), none⟩,
  ⟨some 1, .move (.tmp 93), none⟩])
 (.exit 1)))
 (.skip)))
 (.seq (.region [⟨some 95, .move (.tmp 0), none⟩,
  ⟨some 96, .move (.tmp 1), none⟩,
  ⟨some 97, .move (.tmp 2), none⟩,
  ⟨some 98, .move (.tmp 11), none⟩,
  ⟨some 99, .call 93 [.tmp 95, .tmp 96, .tmp 97, .tmp 98], none⟩,
  ⟨some 94, .move (.tmp 99), none⟩,
  ⟨some 100, .extract (.tmp 94) 0, none⟩,
  ⟨some 101, .extract (.tmp 94) 1, none⟩,
  ⟨some 14, .move (.tmp 100), none⟩,
  ⟨some 15, .move (.tmp 101), none⟩])
 (.seq (.region [⟨some 102, .move (.tmp 15), none⟩,
  ⟨some 9, .move (.tmp 102), none⟩])
 (.seq (.region [⟨some 103, .move (.tmp 14), none⟩,
  ⟨some 104, .move (.tmp 1), none⟩,
  ⟨some 105, .bin .sub (.tmp 103) (.tmp 104), none⟩,
  ⟨some 106, .move (.tmp 2), none⟩,
  ⟨some 107, .move (.tmp 14), none⟩,
  ⟨some 108, .bin .sub (.tmp 106) (.tmp 107), none⟩,
  ⟨some 16, .move (.tmp 105), none⟩,
  ⟨some 17, .move (.tmp 108), none⟩])
 (.seq (.region [⟨some 109, .move (.tmp 10), none⟩,
  ⟨some 110, .bin .quo (.tmp 109) (.const (.int .i64 8)), none⟩,
  ⟨some 18, .move (.tmp 110), none⟩])
 (.seq (.region [⟨some 111, .move (.tmp 16), none⟩,
  ⟨some 112, .move (.tmp 17), none⟩,
  ⟨some 113, .bin .lss (.tmp 111) (.tmp 112), none⟩])
 (.cond (.tmp 113) (.seq (.region [⟨some 114, .move (.tmp 16), none⟩,
  ⟨some 115, .move (.tmp 18), none⟩,
  ⟨some 116, .bin .geq (.tmp 114) (.tmp 115), none⟩,
  ⟨some 8, .move (.tmp 116), none⟩])
 (.seq (.region [⟨some 117, .move (.tmp 0), none⟩,
  ⟨some 118, .move (.tmp 1), none⟩,
  ⟨some 119, .move (.tmp 14), none⟩,
  ⟨some 120, .move (.tmp 3), none⟩,
  ⟨some 121, .call 81 [.tmp 117, .tmp 118, .tmp 119, .tmp 120], none⟩])
 (.region [⟨some 122, .move (.tmp 14), none⟩,
  ⟨some 123, .bin .add (.tmp 122) (.const (.int .i64 1)), none⟩,
  ⟨some 1, .move (.tmp 123), none⟩])))
 (.seq (.region [⟨some 124, .move (.tmp 17), none⟩,
  ⟨some 125, .move (.tmp 18), none⟩,
  ⟨some 126, .bin .geq (.tmp 124) (.tmp 125), none⟩,
  ⟨some 8, .move (.tmp 126), none⟩])
 (.seq (.region [⟨some 127, .move (.tmp 0), none⟩,
  ⟨some 128, .move (.tmp 14), none⟩,
  ⟨some 129, .bin .add (.tmp 128) (.const (.int .i64 1)), none⟩,
  ⟨some 130, .move (.tmp 2), none⟩,
  ⟨some 131, .move (.tmp 3), none⟩,
  ⟨some 132, .call 81 [.tmp 127, .tmp 129, .tmp 130, .tmp 131], none⟩])
 (.region [⟨some 133, .move (.tmp 14), none⟩,
  ⟨some 2, .move (.tmp 133), none⟩])))))))))))))))))
def L81 : LCode :=
 .seq (.region [⟨some 8, .move (.const (.bool true)), none⟩])
 (.seq (.region [⟨some 9, .move (.const (.bool true)), none⟩])
 (.block 0 (.loop L81_1)))
theorem light81 : Light Try.prog 81 4 134 L81 [] :=
  ⟨Try.f81, _, Try.func81, rfl, rfl, by kernel_rfl, by kernel_rfl, by decide⟩

/-! ### function 82: math/bits.Len -/
def L82 : LCode :=
 .seq (.region [⟨some 2, .move (.const (.int .i64 0)), none⟩])
 (.seq (.cond (.const (.bool false)) (.seq (.region [⟨some 3, .move (.tmp 0), none⟩,
  ⟨some 4, .conv .u32 (.tmp 3), none⟩,
  ⟨some 5, .call 94 [.tmp 4], none⟩,
  ⟨some 2, .move (.tmp 5), none⟩])
 (.ret))
 (.skip))
 (.seq (.region [⟨some 6, .move (.tmp 0), none⟩,
  ⟨some 7, .call 95 [.tmp 6], none⟩,
  ⟨some 2, .move (.tmp 7), none⟩])
 (.ret)))
theorem light82 : Light Try.prog 82 1 8 L82 [.tmp 2] :=
  ⟨Try.f82, _, Try.func82, rfl, rfl, by kernel_rfl, by kernel_rfl, by decide⟩

/-! ### function 83: outrider/outriderref01.half -/
def L83 : LCode :=
 .seq (.region [⟨some 2, .move (.const (.int .u64 0)), none⟩,
  ⟨some 3, .move (.const (.int .u64 0)), none⟩])
 (.seq (.region [⟨some 4, .move (.tmp 0), none⟩,
  ⟨some 5, .conv .u64 (.tmp 4), none⟩,
  ⟨some 6, .bin .and (.tmp 5) (.const (.int .u64 4294967295)), none⟩,
  ⟨some 7, .move (.tmp 0), none⟩,
  ⟨some 8, .conv .u64 (.tmp 7), none⟩,
  ⟨some 9, .bin .shr (.tmp 8) (.const (.int .u64 32)), none⟩,
  ⟨some 2, .move (.tmp 6), none⟩,
  ⟨some 3, .move (.tmp 9), none⟩])
 (.ret))
theorem light83 : Light Try.prog 83 1 10 L83 [.tmp 2, .tmp 3] :=
  ⟨Try.f83, _, Try.func83, rfl, rfl, by kernel_rfl, by kernel_rfl, by decide⟩

/-! ### function 84: outrider/outriderref01.whole -/
def L84 : LCode :=
 .seq (.region [⟨some 4, .move (.const (.int .i64 0)), none⟩])
 (.seq (.region [⟨some 5, .move (.tmp 1), none⟩,
  ⟨some 6, .bin .shl (.tmp 5) (.const (.int .u64 32)), none⟩,
  ⟨some 7, .move (.tmp 0), none⟩,
  ⟨some 8, .bin .and (.tmp 7) (.const (.int .u64 4294967295)), none⟩,
  ⟨some 9, .bin .or (.tmp 6) (.tmp 8), none⟩,
  ⟨some 10, .conv .i64 (.tmp 9), none⟩,
  ⟨some 4, .move (.tmp 10), none⟩])
 (.ret))
theorem light84 : Light Try.prog 84 2 11 L84 [.tmp 4] :=
  ⟨Try.f84, _, Try.func84, rfl, rfl, by kernel_rfl, by kernel_rfl, by decide⟩

/-! ### function 85: slices.insertionSortOrdered[int] -/
def L85_1 : LCode :=
 .seq (.seq (.draw [⟨⟨some 16, .move (.tmp 7), none⟩, .pure, 0, 0⟩,
  ⟨⟨some 17, .move (.tmp 1), none⟩, .pure, 0, 0⟩,
  ⟨⟨some 18, .bin .gtr (.tmp 16) (.tmp 17), none⟩, .pure, 0, 0⟩,
  ⟨⟨some 19, .move (.tmp 18), none⟩, .pure, 0, 0⟩,
  ⟨⟨some 20, .move (.tmp 0), (some (19, true))⟩, .pure, 0, 0⟩,
  ⟨⟨some 21, .move (.tmp 7), (some (19, true))⟩, .pure, 0, 0⟩,
  ⟨⟨some 22, .idx 1 (.tmp 20) (.tmp 21), (some (19, true))⟩, .pure, 0, 0⟩,
  ⟨⟨some 23, .load false 1 (.tmp 22), (some (19, true))⟩, .read, 0, 0⟩,
  ⟨⟨some 24, .move (.tmp 0), (some (19, true))⟩, .pure, 0, 0⟩,
  ⟨⟨some 25, .move (.tmp 7), (some (19, true))⟩, .pure, 0, 0⟩,
  ⟨⟨some 26, .bin .sub (.tmp 25) (.const (.int .i64 1)), (some (19, true))⟩, .pure, 0, 0⟩,
  ⟨⟨some 27, .idx 1 (.tmp 24) (.tmp 26), (some (19, true))⟩, .pure, 0, 0⟩,
  ⟨⟨some 28, .load false 1 (.tmp 27), (some (19, true))⟩, .read, 0, 0⟩,
  ⟨⟨some 29, .call 91 [.tmp 23, .tmp 28], (some (19, true))⟩, .heavy, 0, 1⟩,
  ⟨⟨some 30, .pick (.tmp 19) (.tmp 29) (.const (.bool false)), none⟩, .pure, 1, 1⟩])
 (.cond (.tmp 30) (.skip)
 (.exit 2)))
 (.seq (.block 3 (.draw [⟨⟨some 33, .move (.tmp 0), none⟩, .pure, 0, 0⟩,
  ⟨⟨some 34, .move (.tmp 7), none⟩, .pure, 0, 0⟩,
  ⟨⟨some 35, .move (.tmp 0), none⟩, .pure, 0, 1⟩,
  ⟨⟨some 36, .move (.tmp 7), none⟩, .pure, 0, 1⟩,
  ⟨⟨some 37, .bin .sub (.tmp 36) (.const (.int .i64 1)), none⟩, .pure, 0, 1⟩,
  ⟨⟨some 38, .move (.tmp 0), none⟩, .pure, 0, 0⟩,
  ⟨⟨some 39, .move (.tmp 7), none⟩, .pure, 0, 0⟩,
  ⟨⟨some 40, .bin .sub (.tmp 39) (.const (.int .i64 1)), none⟩, .pure, 0, 0⟩,
  ⟨⟨some 41, .idx 1 (.tmp 38) (.tmp 40), none⟩, .pure, 0, 0⟩,
  ⟨⟨some 42, .load false 1 (.tmp 41), none⟩, .read, 0, 0⟩,
  ⟨⟨some 43, .move (.tmp 0), none⟩, .pure, 0, 0⟩,
  ⟨⟨some 44, .move (.tmp 7), none⟩, .pure, 0, 0⟩,
  ⟨⟨some 45, .idx 1 (.tmp 43) (.tmp 44), none⟩, .pure, 0, 0⟩,
  ⟨⟨some 46, .load false 1 (.tmp 45), none⟩, .read, 0, 0⟩,
  ⟨⟨some 47, .idx 1 (.tmp 33) (.tmp 34), none⟩, .pure, 0, 0⟩,
  ⟨⟨none, .store 1 (.tmp 47) (.tmp 42), none⟩, .heavy, 0, 1⟩,
  ⟨⟨some 48, .idx 1 (.tmp 35) (.tmp 37), none⟩, .pure, 1, 1⟩,
  ⟨⟨none, .store 1 (.tmp 48) (.tmp 46), none⟩, .heavy, 1, 2⟩]))
 (.region [⟨some 31, .move (.tmp 7), none⟩,
  ⟨some 32, .bin .sub (.tmp 31) (.const (.int .i64 1)), none⟩,
  ⟨some 7, .move (.tmp 32), none⟩]))
def L85_2 : LCode :=
 .seq (.seq (.region [⟨some 10, .move (.tmp 6), none⟩,
  ⟨some 11, .move (.tmp 2), none⟩,
  ⟨some 12, .bin .lss (.tmp 10) (.tmp 11), none⟩])
 (.cond (.tmp 12) (.skip)
 (.exit 0)))
 (.seq (.block 1 (.seq (.region [⟨some 15, .move (.tmp 6), none⟩,
  ⟨some 7, .move (.tmp 15), none⟩])
 (.block 2 (.loop L85_1))))
 (.region [⟨some 13, .move (.tmp 6), none⟩,
  ⟨some 14, .bin .add (.tmp 13) (.const (.int .i64 1)), none⟩,
  ⟨some 6, .move (.tmp 14), none⟩]))
def L85 : LCode :=
 .seq (.region [⟨some 8, .move (.tmp 1), none⟩,
  ⟨some 9, .bin .add (.tmp 8) (.const (.int .i64 1)), none⟩,
  ⟨some 6, .move (.tmp 9), none⟩])
 (.block 0 (.loop L85_2))
theorem light85 : Light Try.prog 85 3 49 L85 [] :=
  ⟨Try.f85, _, Try.func85, rfl, rfl, by kernel_rfl, by kernel_rfl, by decide⟩

/-! ### function 86: slices.heapSortOrdered[int] -/
def L86_1 : LCode :=
 .seq (.seq (.region [⟨some 18, .move (.tmp 9), none⟩,
  ⟨some 19, .bin .geq (.tmp 18) (.const (.int .i64 0)), none⟩])
 (.cond (.tmp 19) (.skip)
 (.exit 0)))
 (.seq (.block 1 (.region [⟨some 22, .move (.tmp 0), none⟩,
  ⟨some 23, .move (.tmp 9), none⟩,
  ⟨some 24, .move (.tmp 8), none⟩,
  ⟨some 25, .move (.tmp 6), none⟩,
  ⟨some 26, .call 96 [.tmp 22, .tmp 23, .tmp 24, .tmp 25], none⟩]))
 (.region [⟨some 20, .move (.tmp 9), none⟩,
  ⟨some 21, .bin .sub (.tmp 20) (.const (.int .i64 1)), none⟩,
  ⟨some 9, .move (.tmp 21), none⟩]))
def L86_2 : LCode :=
 .seq (.seq (.region [⟨some 29, .move (.tmp 10), none⟩,
  ⟨some 30, .bin .geq (.tmp 29) (.const (.int .i64 0)), none⟩])
 (.cond (.tmp 30) (.skip)
 (.exit 2)))
 (.seq (.block 3 (.seq (.draw [⟨⟨some 33, .move (.tmp 0), none⟩, .pure, 0, 0⟩,
  ⟨⟨some 34, .move (.tmp 6), none⟩, .pure, 0, 0⟩,
  ⟨⟨some 35, .move (.tmp 0), none⟩, .pure, 0, 1⟩,
  ⟨⟨some 36, .move (.tmp 6), none⟩, .pure, 0, 1⟩,
  ⟨⟨some 37, .move (.tmp 10), none⟩, .pure, 0, 1⟩,
  ⟨⟨some 38, .bin .add (.tmp 36) (.tmp 37), none⟩, .pure, 0, 1⟩,
  ⟨⟨some 39, .move (.tmp 0), none⟩, .pure, 0, 0⟩,
  ⟨⟨some 40, .move (.tmp 6), none⟩, .pure, 0, 0⟩,
  ⟨⟨some 41, .move (.tmp 10), none⟩, .pure, 0, 0⟩,
  ⟨⟨some 42, .bin .add (.tmp 40) (.tmp 41), none⟩, .pure, 0, 0⟩,
  ⟨⟨some 43, .idx 1 (.tmp 39) (.tmp 42), none⟩, .pure, 0, 0⟩,
  ⟨⟨some 44, .load false 1 (.tmp 43), none⟩, .read, 0, 0⟩,
  ⟨⟨some 45, .move (.tmp 0), none⟩, .pure, 0, 0⟩,
  ⟨⟨some 46, .move (.tmp 6), none⟩, .pure, 0, 0⟩,
  ⟨⟨some 47, .idx 1 (.tmp 45) (.tmp 46), none⟩, .pure, 0, 0⟩,
  ⟨⟨some 48, .load false 1 (.tmp 47), none⟩, .read, 0, 0⟩,
  ⟨⟨some 49, .idx 1 (.tmp 33) (.tmp 34), none⟩, .pure, 0, 0⟩,
  ⟨⟨none, .store 1 (.tmp 49) (.tmp 44), none⟩, .heavy, 0, 1⟩,
  ⟨⟨some 50, .idx 1 (.tmp 35) (.tmp 38), none⟩, .pure, 1, 1⟩,
  ⟨⟨none, .store 1 (.tmp 50) (.tmp 48), none⟩, .heavy, 1, 2⟩])
 (.region [⟨some 51, .move (.tmp 0), none⟩,
  ⟨some 52, .move (.tmp 7), none⟩,
  ⟨some 53, .move (.tmp 10), none⟩,
  ⟨some 54, .move (.tmp 6), none⟩,
  ⟨some 55, .call 96 [.tmp 51, .tmp 52, .tmp 53, .tmp 54], none⟩])))
 (.region [⟨some 31, .move (.tmp 10), none⟩,
  ⟨some 32, .bin .sub (.tmp 31) (.const (.int .i64 1)), none⟩,
  ⟨some 10, .move (.tmp 32), none⟩]))
def L86 : LCode :=
 .seq (.region [⟨some 11, .move (.tmp 1), none⟩,
  ⟨some 6, .move (.tmp 11), none⟩])
 (.seq (.region [⟨some 7, .move (.const (.int .i64 0)), none⟩])
 (.seq (.region [⟨some 12, .move (.tmp 2), none⟩,
  ⟨some 13, .move (.tmp 1), none⟩,
  ⟨some 14, .bin .sub (.tmp 12) (.tmp 13), none⟩,
  ⟨some 8, .move (.tmp 14), none⟩])
 (.seq (.seq (.region [⟨some 15, .move (.tmp 8), none⟩,
  ⟨some 16, .bin .sub (.tmp 15) (.const (.int .i64 1)), none⟩,
  ⟨some 17, .bin .quo (.tmp 16) (.const (.int .i64 2)), none⟩,
  ⟨some 9, .move (.tmp 17), none⟩])
 (.block 0 (.loop L86_1)))
 (.seq (.region [⟨some 27, .move (.tmp 8), none⟩,
  ⟨some 28, .bin .sub (.tmp 27) (.const (.int .i64 1)), none⟩,
  ⟨some 10, .move (.tmp 28), none⟩])
 (.block 2 (.loop L86_2))))))
theorem light86 : Light Try.prog 86 3 56 L86 [] :=
  ⟨Try.f86, _, Try.func86, rfl, rfl, by kernel_rfl, by kernel_rfl, by decide⟩

/-! ### function 87: slices.breakPatternsOrdered[int] -/
def L87_1 : LCode :=
 .seq (.seq (.region [⟨some 26, .move (.tmp 9), none⟩,
  ⟨some 27, .move (.tmp 1), none⟩,
  ⟨some 28, .move (.tmp 6), none⟩,
  ⟨some 29, .bin .quo (.tmp 28) (.const (.int .i64 4)), none⟩,
  ⟨some 30, .bin .mul (.tmp 29) (.const (.int .i64 2)), none⟩,
  ⟨some 31, .bin .add (.tmp 27) (.tmp 30), none⟩,
  ⟨some 32, .bin .add (.tmp 31) (.const (.int .i64 1)), none⟩,
  ⟨some 33, .bin .leq (.tmp 26) (.tmp 32), none⟩])
 (.cond (.tmp 33) (.skip)
 (.exit 0)))
 (.seq (.block 1 (.seq (.region [⟨some 36, .call 98 [.tmp 7], none⟩,
  ⟨some 37, .move (.tmp 8), none⟩,
  ⟨some 38, .bin .sub (.tmp 37) (.const (.int .u64 1)), none⟩,
  ⟨some 39, .bin .and (.tmp 36) (.tmp 38), none⟩,
  ⟨some 40, .conv .i64 (.tmp 39), none⟩,
  ⟨some 10, .move (.tmp 40), none⟩])
 (.seq (.seq (.region [⟨some 41, .move (.tmp 10), none⟩,
  ⟨some 42, .move (.tmp 6), none⟩,
  ⟨some 43, .bin .geq (.tmp 41) (.tmp 42), none⟩])
 (.cond (.tmp 43) (.region [⟨some 44, .move (.tmp 10), none⟩,
  ⟨some 45, .move (.tmp 6), none⟩,
  ⟨some 46, .bin .sub (.tmp 44) (.tmp 45), none⟩,
  ⟨some 10, .move (.tmp 46), none⟩])
 (.skip)))
 (.draw [⟨⟨some 47, .move (.tmp 0), none⟩, .pure, 0, 0⟩,
  ⟨⟨some 48, .move (.tmp 9), none⟩, .pure, 0, 0⟩,
  ⟨⟨some 49, .move (.tmp 0), none⟩, .pure, 0, 1⟩,
  ⟨⟨some 50, .move (.tmp 1), none⟩, .pure, 0, 1⟩,
  ⟨⟨some 51, .move (.tmp 10), none⟩, .pure, 0, 1⟩,
  ⟨⟨some 52, .bin .add (.tmp 50) (.tmp 51), none⟩, .pure, 0, 1⟩,
  ⟨⟨some 53, .move (.tmp 0), none⟩, .pure, 0, 0⟩,
  ⟨⟨some 54, .move (.tmp 1), none⟩, .pure, 0, 0⟩,
  ⟨⟨some 55, .move (.tmp 10), none⟩, .pure, 0, 0⟩,
  ⟨⟨some 56, .bin .add (.tmp 54) (.tmp 55), none⟩, .pure, 0, 0⟩,
  ⟨⟨some 57, .idx 1 (.tmp 53) (.tmp 56), none⟩, .pure, 0, 0⟩,
  ⟨⟨some 58, .load false 1 (.tmp 57), none⟩, .read, 0, 0⟩,
  ⟨⟨some 59, .move (.tmp 0), none⟩, .pure, 0, 0⟩,
  ⟨⟨some 60, .move (.tmp 9), none⟩, .pure, 0, 0⟩,
  ⟨⟨some 61, .idx 1 (.tmp 59) (.tmp 60), none⟩, .pure, 0, 0⟩,
  ⟨⟨some 62, .load false 1 (.tmp 61), none⟩, .read, 0, 0⟩,
  ⟨⟨some 63, .idx 1 (.tmp 47) (.tmp 48), none⟩, .pure, 0, 0⟩,
  ⟨⟨none, .store 1 (.tmp 63) (.tmp 58), none⟩, .heavy, 0, 1⟩,
  ⟨⟨some 64, .idx 1 (.tmp 49) (.tmp 52), none⟩, .pure, 1, 1⟩,
  ⟨⟨none, .store 1 (.tmp 64) (.tmp 62), none⟩, .heavy, 1, 2⟩]))))
 (.region [⟨some 34, .move (.tmp 9), none⟩,
  ⟨some 35, .bin .add (.tmp 34) (.const (.int .i64 1)), none⟩,
  ⟨some 9, .move (.tmp 35), none⟩]))
def L87 : LCode :=
 .seq (.region [⟨some 11, .move (.tmp 2), none⟩,
  ⟨some 12, .move (.tmp 1), none⟩,
  ⟨some 13, .bin .sub (.tmp 11) (.tmp 12), none⟩,
  ⟨some 6, .move (.tmp 13), none⟩])
 (.seq (.region [⟨some 14, .move (.tmp 6), none⟩,
  ⟨some 15, .bin .geq (.tmp 14) (.const (.int .i64 8)), none⟩])
 (.cond (.tmp 15) (.seq (.region [⟨some 16, .move (.tmp 6), none⟩,
  ⟨some 17, .conv .u64 (.tmp 16), none⟩,
  ⟨some 7, .new 196 1 [.int .u64 0], none⟩,
  ⟨none, .store 1 (.tmp 7) (.tmp 17), none⟩])
 (.seq (.region [⟨some 18, .move (.tmp 6), none⟩,
  ⟨some 19, .call 97 [.tmp 18], none⟩,
  ⟨some 8, .move (.tmp 19), none⟩])
 (.seq (.region [⟨some 20, .move (.tmp 1), none⟩,
  ⟨some 21, .move (.tmp 6), none⟩,
  ⟨some 22, .bin .quo (.tmp 21) (.const (.int .i64 4)), none⟩,
  ⟨some 23, .bin .mul (.tmp 22) (.const (.int .i64 2)), none⟩,
  ⟨some 24, .bin .add (.tmp 20) (.tmp 23), none⟩,
  ⟨some 25, .bin .sub (.tmp 24) (.const (.int .i64 1)), none⟩,
  ⟨some 9, .move (.tmp 25), none⟩])
 (.block 0 (.loop L87_1)))))
 (.skip)))
theorem light87 : Light Try.prog 87 3 65 L87 [] :=
  ⟨Try.f87, _, Try.func87, rfl, rfl, by kernel_rfl, by kernel_rfl, by decide⟩

/-! ### function 88: slices.choosePivotOrdered[int] -/
def L88 : LCode :=
 .seq (.region [⟨some 6, .move (.const (.int .i64 0)), none⟩,
  ⟨some 7, .move (.const (.int .i64 0)), none⟩])
 (.seq (.region [⟨some 13, .move (.tmp 2), none⟩,
  ⟨some 14, .move (.tmp 1), none⟩,
  ⟨some 15, .bin .sub (.tmp 13) (.tmp 14), none⟩,
  ⟨some 8, .move (.tmp 15), none⟩])
 (.seq (.region [⟨some 9, .new 3 1 [.int .i64 0], none⟩])
 (.seq (.region [⟨some 16, .move (.tmp 1), none⟩,
  ⟨some 17, .move (.tmp 8), none⟩,
  ⟨some 18, .bin .quo (.tmp 17) (.const (.int .i64 4)), none⟩,
  ⟨some 19, .bin .mul (.tmp 18) (.const (.int .i64 1)), none⟩,
  ⟨some 20, .bin .add (.tmp 16) (.tmp 19), none⟩,
  ⟨some 10, .move (.tmp 20), none⟩])
 (.seq (.region [⟨some 21, .move (.tmp 1), none⟩,
  ⟨some 22, .move (.tmp 8), none⟩,
  ⟨some 23, .bin .quo (.tmp 22) (.const (.int .i64 4)), none⟩,
  ⟨some 24, .bin .mul (.tmp 23) (.const (.int .i64 2)), none⟩,
  ⟨some 25, .bin .add (.tmp 21) (.tmp 24), none⟩,
  ⟨some 11, .move (.tmp 25), none⟩])
 (.seq (.region [⟨some 26, .move (.tmp 1), none⟩,
  ⟨some 27, .move (.tmp 8), none⟩,
  ⟨some 28, .bin .quo (.tmp 27) (.const (.int .i64 4)), none⟩,
  ⟨some 29, .bin .mul (.tmp 28) (.const (.int .i64 3)), none⟩,
  ⟨some 30, .bin .add (.tmp 26) (.tmp 29), none⟩,
  ⟨some 12, .move (.tmp 30), none⟩])
 (.seq (.seq (.region [⟨some 31, .move (.tmp 8), none⟩,
  ⟨some 32, .bin .geq (.tmp 31) (.const (.int .i64 8)), none⟩])
 (.cond (.tmp 32) (.seq (.seq (.region [⟨some 33, .move (.tmp 8), none⟩,
  ⟨some 34, .bin .geq (.tmp 33) (.const (.int .i64 50)), none⟩])
 (.cond (.tmp 34) (.seq (.region [⟨some 35, .move (.tmp 0), none⟩,
  ⟨some 36, .move (.tmp 10), none⟩,
  ⟨some 37, .call 99 [.tmp 35, .tmp 36, .tmp 9], none⟩,
  ⟨some 10, .move (.tmp 37), none⟩])
 (.seq (.region [⟨some 38, .move (.tmp 0), none⟩,
  ⟨some 39, .move (.tmp 11), none⟩,
  ⟨some 40, .call 99 [.tmp 38, .tmp 39, .tmp 9], none⟩,
  ⟨some 11, .move (.tmp 40), none⟩])
 (.region [⟨some 41, .move (.tmp 0), none⟩,
  ⟨some 42, .move (.tmp 12), none⟩,
  ⟨some 43, .call 99 [.tmp 41, .tmp 42, .tmp 9], none⟩,
  ⟨some 12, .move (.tmp 43), none⟩])))
 (.skip)))
 (.region [⟨some 44, .move (.tmp 0), none⟩,
  ⟨some 45, .move (.tmp 10), none⟩,
  ⟨some 46, .move (.tmp 11), none⟩,
  ⟨some 47, .move (.tmp 12), none⟩,
  ⟨some 48, .call 100 [.tmp 44, .tmp 45, .tmp 46, .tmp 47, .tmp 9], none⟩,
  ⟨some 11, .move (.tmp 48), none⟩]))
 (.skip)))
 (.seq (.region [⟨some 49, .load false 1 (.tmp 9), none⟩])
 (.block 0 (.seq (.region [⟨some 52, .bin .eql (.tmp 49) (.const (.int .i64 0)), none⟩,
  ⟨some 51, .move (.tmp 52), none⟩])
 (.cond (.tmp 51) (.seq (.region [⟨some 53, .move (.tmp 11), none⟩,
  ⟨some 6, .move (.tmp 53), none⟩,
  ⟨some 7, .move (.const (.int .i64 1)), none⟩])
 (.ret))
 (.seq (.region [⟨some 55, .bin .eql (.tmp 49) (.const (.int .i64 12)), none⟩,
  ⟨some 54, .move (.tmp 55), none⟩])
 (.cond (.tmp 54) (.seq (.region [⟨some 56, .move (.tmp 11), none⟩,
  ⟨some 6, .move (.tmp 56), none⟩,
  ⟨some 7, .move (.const (.int .i64 2)), none⟩])
 (.ret))
 (.seq (.region [⟨some 50, .move (.tmp 11), none⟩,
  ⟨some 6, .move (.tmp 50), none⟩,
  ⟨some 7, .move (.const (.int .i64 0)), none⟩])
 (.ret))))))))))))))
theorem light88 : Light Try.prog 88 3 57 L88 [.tmp 6, .tmp 7] :=
  ⟨Try.f88, _, Try.func88, rfl, rfl, by kernel_rfl, by kernel_rfl, by decide⟩

/-! ### function 89: slices.reverseRangeOrdered[int] -/
def L89_1 : LCode :=
 .seq (.seq (.region [⟨some 11, .move (.tmp 6), none⟩,
  ⟨some 12, .move (.tmp 7), none⟩,
  ⟨some 13, .bin .lss (.tmp 11) (.tmp 12), none⟩])
 (.cond (.tmp 13) (.skip)
 (.exit 0)))
 (.block 1 (.seq (.draw [⟨⟨some 14, .move (.tmp 0), none⟩, .pure, 0, 0⟩,
  ⟨⟨some 15, .move (.tmp 6), none⟩, .pure, 0, 0⟩,
  ⟨⟨some 16, .move (.tmp 0), none⟩, .pure, 0, 1⟩,
  ⟨⟨some 17, .move (.tmp 7), none⟩, .pure, 0, 1⟩,
  ⟨⟨some 18, .move (.tmp 0), none⟩, .pure, 0, 0⟩,
  ⟨⟨some 19, .move (.tmp 7), none⟩, .pure, 0, 0⟩,
  ⟨⟨some 20, .idx 1 (.tmp 18) (.tmp 19), none⟩, .pure, 0, 0⟩,
  ⟨⟨some 21, .load false 1 (.tmp 20), none⟩, .read, 0, 0⟩,
  ⟨⟨some 22, .move (.tmp 0), none⟩, .pure, 0, 0⟩,
  ⟨⟨some 23, .move (.tmp 6), none⟩, .pure, 0, 0⟩,
  ⟨⟨some 24, .idx 1 (.tmp 22) (.tmp 23), none⟩, .pure, 0, 0⟩,
  ⟨⟨some 25, .load false 1 (.tmp 24), none⟩, .read, 0, 0⟩,
  ⟨⟨some 26, .idx 1 (.tmp 14) (.tmp 15), none⟩, .pure, 0, 0⟩,
  ⟨⟨none, .store 1 (.tmp 26) (.tmp 21), none⟩, .heavy, 0, 1⟩,
  ⟨⟨some 27, .idx 1 (.tmp 16) (.tmp 17), none⟩, .pure, 1, 1⟩,
  ⟨⟨none, .store 1 (.tmp 27) (.tmp 25), none⟩, .heavy, 1, 2⟩])
 (.seq (.region [⟨some 28, .move (.tmp 6), none⟩,
  ⟨some 29, .bin .add (.tmp 28) (.const (.int .i64 1)), none⟩,
  ⟨some 6, .move (.tmp 29), none⟩])
 (.region [⟨some 30, .move (.tmp 7), none⟩,
  ⟨some 31, .bin .sub (.tmp 30) (.const (.int .i64 1)), none⟩,
  ⟨some 7, .move (.tmp 31), none⟩]))))
def L89 : LCode :=
 .seq (.region [⟨some 8, .move (.tmp 1), none⟩,
  ⟨some 6, .move (.tmp 8), none⟩])
 (.seq (.region [⟨some 9, .move (.tmp 2), none⟩,
  ⟨some 10, .bin .sub (.tmp 9) (.const (.int .i64 1)), none⟩,
  ⟨some 7, .move (.tmp 10), none⟩])
 (.block 0 (.loop L89_1)))
theorem light89 : Light Try.prog 89 3 32 L89 [] :=
  ⟨Try.f89, _, Try.func89, rfl, rfl, by kernel_rfl, by kernel_rfl, by decide⟩

/-! ### function 90: slices.partialInsertionSortOrdered[int] -/
def L90_1 : LCode :=
 .seq (.seq (.draw [⟨⟨some 17, .move (.tmp 7), none⟩, .pure, 0, 0⟩,
  ⟨⟨some 18, .move (.tmp 2), none⟩, .pure, 0, 0⟩,
  ⟨⟨some 19, .bin .lss (.tmp 17) (.tmp 18), none⟩, .pure, 0, 0⟩,
  ⟨⟨some 20, .move (.tmp 19), none⟩, .pure, 0, 0⟩,
  ⟨⟨some 21, .move (.tmp 0), (some (20, true))⟩, .pure, 0, 0⟩,
  ⟨⟨some 22, .move (.tmp 7), (some (20, true))⟩, .pure, 0, 0⟩,
  ⟨⟨some 23, .idx 1 (.tmp 21) (.tmp 22), (some (20, true))⟩, .pure, 0, 0⟩,
  ⟨⟨some 24, .load false 1 (.tmp 23), (some (20, true))⟩, .read, 0, 0⟩,
  ⟨⟨some 25, .move (.tmp 0), (some (20, true))⟩, .pure, 0, 0⟩,
  ⟨⟨some 26, .move (.tmp 7), (some (20, true))⟩, .pure, 0, 0⟩,
  ⟨⟨some 27, .bin .sub (.tmp 26) (.const (.int .i64 1)), (some (20, true))⟩, .pure, 0, 0⟩,
  ⟨⟨some 28, .idx 1 (.tmp 25) (.tmp 27), (some (20, true))⟩, .pure, 0, 0⟩,
  ⟨⟨some 29, .load false 1 (.tmp 28), (some (20, true))⟩, .read, 0, 0⟩,
  ⟨⟨some 30, .call 91 [.tmp 24, .tmp 29], (some (20, true))⟩, .heavy, 0, 1⟩,
  ⟨⟨some 31, .un .not (.tmp 30), (some (20, true))⟩, .pure, 1, 1⟩,
  ⟨⟨some 32, .pick (.tmp 20) (.tmp 31) (.const (.bool false)), none⟩, .pure, 1, 1⟩])
 (.cond (.tmp 32) (.skip)
 (.exit 2)))
 (.block 3 (.region [⟨some 33, .move (.tmp 7), none⟩,
  ⟨some 34, .bin .add (.tmp 33) (.const (.int .i64 1)), none⟩,
  ⟨some 7, .move (.tmp 34), none⟩]))
def L90_2 : LCode :=
 .seq (.seq (.region [⟨some 64, .move (.tmp 9), none⟩,
  ⟨some 65, .bin .geq (.tmp 64) (.const (.int .i64 1)), none⟩])
 (.cond (.tmp 65) (.skip)
 (.exit 4)))
 (.seq (.block 5 (.seq (.seq (.draw [⟨⟨some 68, .move (.tmp 0), none⟩, .pure, 0, 0⟩,
  ⟨⟨some 69, .move (.tmp 9), none⟩, .pure, 0, 0⟩,
  ⟨⟨some 70, .idx 1 (.tmp 68) (.tmp 69), none⟩, .pure, 0, 0⟩,
  ⟨⟨some 71, .load false 1 (.tmp 70), none⟩, .read, 0, 0⟩,
  ⟨⟨some 72, .move (.tmp 0), none⟩, .pure, 0, 0⟩,
  ⟨⟨some 73, .move (.tmp 9), none⟩, .pure, 0, 0⟩,
  ⟨⟨some 74, .bin .sub (.tmp 73) (.const (.int .i64 1)), none⟩, .pure, 0, 0⟩,
  ⟨⟨some 75, .idx 1 (.tmp 72) (.tmp 74), none⟩, .pure, 0, 0⟩,
  ⟨⟨some 76, .load false 1 (.tmp 75), none⟩, .read, 0, 0⟩,
  ⟨⟨some 77, .call 91 [.tmp 71, .tmp 76], none⟩, .heavy, 0, 1⟩,
  ⟨⟨some 78, .un .not (.tmp 77), none⟩, .pure, 1, 1⟩])
 (.cond (.tmp 78) (.exit 4)
 (.skip)))
 (.draw [⟨⟨some 79, .move (.tmp 0), none⟩, .pure, 0, 0⟩,
  ⟨⟨some 80, .move (.tmp 9), none⟩, .pure, 0, 0⟩,
  ⟨⟨some 81, .move (.tmp 0), none⟩, .pure, 0, 1⟩,
  ⟨⟨some 82, .move (.tmp 9), none⟩, .pure, 0, 1⟩,
  ⟨⟨some 83, .bin .sub (.tmp 82) (.const (.int .i64 1)), none⟩, .pure, 0, 1⟩,
  ⟨⟨some 84, .move (.tmp 0), none⟩, .pure, 0, 0⟩,
  ⟨⟨some 85, .move (.tmp 9), none⟩, .pure, 0, 0⟩,
  ⟨⟨some 86, .bin .sub (.tmp 85) (.const (.int .i64 1)), none⟩, .pure, 0, 0⟩,
  ⟨⟨some 87, .idx 1 (.tmp 84) (.tmp 86), none⟩, .pure, 0, 0⟩,
  ⟨⟨some 88, .load false 1 (.tmp 87), none⟩, .read, 0, 0⟩,
  ⟨⟨some 89, .move (.tmp 0), none⟩, .pure, 0, 0⟩,
  ⟨⟨some 90, .move (.tmp 9), none⟩, .pure, 0, 0⟩,
  ⟨⟨some 91, .idx 1 (.tmp 89) (.tmp 90), none⟩, .pure, 0, 0⟩,
  ⟨⟨some 92, .load false 1 (.tmp 91), none⟩, .read, 0, 0⟩,
  ⟨⟨some 93, .idx 1 (.tmp 79) (.tmp 80), none⟩, .pure, 0, 0⟩,
  ⟨⟨none, .store 1 (.tmp 93) (.tmp 88), none⟩, .heavy, 0, 1⟩,
  ⟨⟨some 94, .idx 1 (.tmp 81) (.tmp 83), none⟩, .pure, 1, 1⟩,
  ⟨⟨none, .store 1 (.tmp 94) (.tmp 92), none⟩, .heavy, 1, 2⟩])))
 (.region [⟨some 66, .move (.tmp 9), none⟩,
  ⟨some 67, .bin .sub (.tmp 66) (.const (.int .i64 1)), none⟩,
  ⟨some 9, .move (.tmp 67), none⟩]))
def L90_3 : LCode :=
 .seq (.seq (.region [⟨some 101, .move (.tmp 10), none⟩,
  ⟨some 102, .move (.tmp 2), none⟩,
  ⟨some 103, .bin .lss (.tmp 101) (.tmp 102), none⟩])
 (.cond (.tmp 103) (.skip)
 (.exit 6)))
 (.seq (.block 7 (.seq (.seq (.draw [⟨⟨some 106, .move (.tmp 0), none⟩, .pure, 0, 0⟩,
  ⟨⟨some 107, .move (.tmp 10), none⟩, .pure, 0, 0⟩,
  ⟨⟨some 108, .idx 1 (.tmp 106) (.tmp 107), none⟩, .pure, 0, 0⟩,
  ⟨⟨some 109, .load false 1 (.tmp 108), none⟩, .read, 0, 0⟩,
  ⟨⟨some 110, .move (.tmp 0), none⟩, .pure, 0, 0⟩,
  ⟨⟨some 111, .move (.tmp 10), none⟩, .pure, 0, 0⟩,
  ⟨⟨some 112, .bin .sub (.tmp 111) (.const (.int .i64 1)), none⟩, .pure, 0, 0⟩,
  ⟨⟨some 113, .idx 1 (.tmp 110) (.tmp 112), none⟩, .pure, 0, 0⟩,
  ⟨⟨some 114, .load false 1 (.tmp 113), none⟩, .read, 0, 0⟩,
  ⟨⟨some 115, .call 91 [.tmp 109, .tmp 114], none⟩, .heavy, 0, 1⟩,
  ⟨⟨some 116, .un .not (.tmp 115), none⟩, .pure, 1, 1⟩])
 (.cond (.tmp 116) (.exit 6)
 (.skip)))
 (.draw [⟨⟨some 117, .move (.tmp 0), none⟩, .pure, 0, 0⟩,
  ⟨⟨some 118, .move (.tmp 10), none⟩, .pure, 0, 0⟩,
  ⟨⟨some 119, .move (.tmp 0), none⟩, .pure, 0, 1⟩,
  ⟨⟨some 120, .move (.tmp 10), none⟩, .pure, 0, 1⟩,
  ⟨⟨some 121, .bin .sub (.tmp 120) (.const (.int .i64 1)), none⟩, .pure, 0, 1⟩,
  ⟨⟨some 122, .move (.tmp 0), none⟩, .pure, 0, 0⟩,
  ⟨⟨some 123, .move (.tmp 10), none⟩, .pure, 0, 0⟩,
  ⟨⟨some 124, .bin .sub (.tmp 123) (.const (.int .i64 1)), none⟩, .pure, 0, 0⟩,
  ⟨⟨some 125, .idx 1 (.tmp 122) (.tmp 124), none⟩, .pure, 0, 0⟩,
  ⟨⟨some 126, .load false 1 (.tmp 125), none⟩, .read, 0, 0⟩,
  ⟨⟨some 127, .move (.tmp 0), none⟩, .pure, 0, 0⟩,
  ⟨⟨some 128, .move (.tmp 10), none⟩, .pure, 0, 0⟩,
  ⟨⟨some 129, .idx 1 (.tmp 127) (.tmp 128), none⟩, .pure, 0, 0⟩,
  ⟨⟨some 130, .load false 1 (.tmp 129), none⟩, .read, 0, 0⟩,
  ⟨⟨some 131, .idx 1 (.tmp 117) (.tmp 118), none⟩, .pure, 0, 0⟩,
  ⟨⟨none, .store 1 (.tmp 131) (.tmp 126), none⟩, .heavy, 0, 1⟩,
  ⟨⟨some 132, .idx 1 (.tmp 119) (.tmp 121), none⟩, .pure, 1, 1⟩,
  ⟨⟨none, .store 1 (.tmp 132) (.tmp 130), none⟩, .heavy, 1, 2⟩])))
 (.region [⟨some 104, .move (.tmp 10), none⟩,
  ⟨some 105, .bin .add (.tmp 104) (.const (.int .i64 1)), none⟩,
  ⟨some 10, .move (.tmp 105), none⟩]))
def L90_4 : LCode :=
 .seq (.seq (.region [⟨some 13, .move (.tmp 8), none⟩,
  ⟨some 14, .bin .lss (.tmp 13) (.const (.int .i64 5)), none⟩])
 (.cond (.tmp 14) (.skip)
 (.exit 0)))
 (.seq (.block 1 (.seq (.block 2 (.loop L90_1))
 (.seq (.seq (.region [⟨some 35, .move (.tmp 7), none⟩,
  ⟨some 36, .move (.tmp 2), none⟩,
  ⟨some 37, .bin .eql (.tmp 35) (.tmp 36), none⟩])
 (.cond (.tmp 37) (.seq (.region [⟨some 6, .move (.const (.bool true)), none⟩])
 (.ret))
 (.skip)))
 (.seq (.seq (.region [⟨some 38, .move (.tmp 2), none⟩,
  ⟨some 39, .move (.tmp 1), none⟩,
  ⟨some 40, .bin .sub (.tmp 38) (.tmp 39), none⟩,
  ⟨some 41, .bin .lss (.tmp 40) (.const (.int .i64 50)), none⟩])
 (.cond (.tmp 41) (.seq (.region [⟨some 6, .move (.const (.bool false)), none⟩])
 (.ret))
 (.skip)))
 (.seq (.draw [⟨⟨some 42, .move (.tmp 0), none⟩, .pure, 0, 0⟩,
  ⟨⟨some 43, .move (.tmp 7), none⟩, .pure, 0, 0⟩,
  ⟨⟨some 44, .move (.tmp 0), none⟩, .pure, 0, 1⟩,
  ⟨⟨some 45, .move (.tmp 7), none⟩, .pure, 0, 1⟩,
  ⟨⟨some 46, .bin .sub (.tmp 45) (.const (.int .i64 1)), none⟩, .pure, 0, 1⟩,
  ⟨⟨some 47, .move (.tmp 0), none⟩, .pure, 0, 0⟩,
  ⟨⟨some 48, .move (.tmp 7), none⟩, .pure, 0, 0⟩,
  ⟨⟨some 49, .bin .sub (.tmp 48) (.const (.int .i64 1)), none⟩, .pure, 0, 0⟩,
  ⟨⟨some 50, .idx 1 (.tmp 47) (.tmp 49), none⟩, .pure, 0, 0⟩,
  ⟨⟨some 51, .load false 1 (.tmp 50), none⟩, .read, 0, 0⟩,
  ⟨⟨some 52, .move (.tmp 0), none⟩, .pure, 0, 0⟩,
  ⟨⟨some 53, .move (.tmp 7), none⟩, .pure, 0, 0⟩,
  ⟨⟨some 54, .idx 1 (.tmp 52) (.tmp 53), none⟩, .pure, 0, 0⟩,
  ⟨⟨some 55, .load false 1 (.tmp 54), none⟩, .read, 0, 0⟩,
  ⟨⟨some 56, .idx 1 (.tmp 42) (.tmp 43), none⟩, .pure, 0, 0⟩,
  ⟨⟨none, .store 1 (.tmp 56) (.tmp 51), none⟩, .heavy, 0, 1⟩,
  ⟨⟨some 57, .idx 1 (.tmp 44) (.tmp 46), none⟩, .pure, 1, 1⟩,
  ⟨⟨none, .store 1 (.tmp 57) (.tmp 55), none⟩, .heavy, 1, 2⟩])
 (.seq (.seq (.region [⟨some 58, .move (.tmp 7), none⟩,
  ⟨some 59, .move (.tmp 1), none⟩,
  ⟨some 60, .bin .sub (.tmp 58) (.tmp 59), none⟩,
  ⟨some 61, .bin .geq (.tmp 60) (.const (.int .i64 2)), none⟩])
 (.cond (.tmp 61) (.seq (.region [⟨some 62, .move (.tmp 7), none⟩,
  ⟨some 63, .bin .sub (.tmp 62) (.const (.int .i64 1)), none⟩,
  ⟨some 9, .move (.tmp 63), none⟩])
 (.block 4 (.loop L90_2)))
 (.skip)))
 (.seq (.region [⟨some 95, .move (.tmp 2), none⟩,
  ⟨some 96, .move (.tmp 7), none⟩,
  ⟨some 97, .bin .sub (.tmp 95) (.tmp 96), none⟩,
  ⟨some 98, .bin .geq (.tmp 97) (.const (.int .i64 2)), none⟩])
 (.cond (.tmp 98) (.seq (.region [⟨some 99, .move (.tmp 7), none⟩,
  ⟨some 100, .bin .add (.tmp 99) (.const (.int .i64 1)), none⟩,
  ⟨some 10, .move (.tmp 100), none⟩])
 (.block 6 (.loop L90_3)))
 (.skip)))))))))
 (.region [⟨some 15, .move (.tmp 8), none⟩,
  ⟨some 16, .bin .add (.tmp 15) (.const (.int .i64 1)), none⟩,
  ⟨some 8, .move (.tmp 16), none⟩]))
def L90 : LCode :=
 .seq (.region [⟨some 6, .move (.const (.bool false)), none⟩])
 (.seq (.region [⟨some 11, .move (.tmp 1), none⟩,
  ⟨some 12, .bin .add (.tmp 11) (.const (.int .i64 1)), none⟩,
  ⟨some 7, .move (.tmp 12), none⟩])
 (.seq (.seq (.region [⟨some 8, .move (.const (.int .i64 0)), none⟩])
 (.block 0 (.loop L90_4)))
 (.seq (.region [⟨some 6, .move (.const (.bool false)), none⟩])
 (.ret))))
theorem light90 : Light Try.prog 90 3 133 L90 [.tmp 6] :=
  ⟨Try.f90, _, Try.func90, rfl, rfl, by kernel_rfl, by kernel_rfl, by decide⟩

/-! ### function 91: cmp.Less[int] -/
def L91 : LCode :=
 .seq (.region [⟨some 4, .move (.const (.bool false)), none⟩])
 (.seq (.region [⟨some 5, .move (.tmp 0), none⟩,
  ⟨some 6, .call 101 [.tmp 5], none⟩,
  ⟨some 7, .move (.tmp 6), none⟩,
  ⟨some 8, .move (.tmp 1), (some (7, true))⟩,
  ⟨some 9, .call 101 [.tmp 8], (some (7, true))⟩,
  ⟨some 10, .un .not (.tmp 9), (some (7, true))⟩,
  ⟨some 11, .pick (.tmp 7) (.tmp 10) (.const (.bool false)), none⟩,
  ⟨some 12, .move (.tmp 11), none⟩,
  ⟨some 13, .move (.tmp 0), (some (12, false))⟩,
  ⟨some 14, .move (.tmp 1), (some (12, false))⟩,
  ⟨some 15, .bin .lss (.tmp 13) (.tmp 14), (some (12, false))⟩,
  ⟨some 16, .pick (.tmp 12) (.const (.bool true)) (.tmp 15), none⟩,
  ⟨some 4, .move (.tmp 16), none⟩])
 (.ret))
theorem light91 : Light Try.prog 91 2 17 L91 [.tmp 4] :=
  ⟨Try.f91, _, Try.func91, rfl, rfl, by kernel_rfl, by kernel_rfl, by decide⟩

/-! ### function 92: slices.partitionEqualOrdered[int] -/
def L92_1 : LCode :=
 .seq (.seq (.draw [⟨⟨some 29, .move (.tmp 9), none⟩, .pure, 0, 0⟩,
  ⟨⟨some 30, .move (.tmp 10), none⟩, .pure, 0, 0⟩,
  ⟨⟨some 31, .bin .leq (.tmp 29) (.tmp 30), none⟩, .pure, 0, 0⟩,
  ⟨⟨some 32, .move (.tmp 31), none⟩, .pure, 0, 0⟩,
  ⟨⟨some 33, .move (.tmp 0), (some (32, true))⟩, .pure, 0, 0⟩,
  ⟨⟨some 34, .move (.tmp 1), (some (32, true))⟩, .pure, 0, 0⟩,
  ⟨⟨some 35, .idx 1 (.tmp 33) (.tmp 34), (some (32, true))⟩, .pure, 0, 0⟩,
  ⟨⟨some 36, .load false 1 (.tmp 35), (some (32, true))⟩, .read, 0, 0⟩,
  ⟨⟨some 37, .move (.tmp 0), (some (32, true))⟩, .pure, 0, 0⟩,
  ⟨⟨some 38, .move (.tmp 9), (some (32, true))⟩, .pure, 0, 0⟩,
  ⟨⟨some 39, .idx 1 (.tmp 37) (.tmp 38), (some (32, true))⟩, .pure, 0, 0⟩,
  ⟨⟨some 40, .load false 1 (.tmp 39), (some (32, true))⟩, .read, 0, 0⟩,
  ⟨⟨some 41, .call 91 [.tmp 36, .tmp 40], (some (32, true))⟩, .heavy, 0, 1⟩,
  ⟨⟨some 42, .un .not (.tmp 41), (some (32, true))⟩, .pure, 1, 1⟩,
  ⟨⟨some 43, .pick (.tmp 32) (.tmp 42) (.const (.bool false)), none⟩, .pure, 1, 1⟩])
 (.cond (.tmp 43) (.skip)
 (.exit 2)))
 (.block 3 (.region [⟨some 44, .move (.tmp 9), none⟩,
  ⟨some 45, .bin .add (.tmp 44) (.const (.int .i64 1)), none⟩,
  ⟨some 9, .move (.tmp 45), none⟩]))
def L92_2 : LCode :=
 .seq (.seq (.draw [⟨⟨some 46, .move (.tmp 9), none⟩, .pure, 0, 0⟩,
  ⟨⟨some 47, .move (.tmp 10), none⟩, .pure, 0, 0⟩,
  ⟨⟨some 48, .bin .leq (.tmp 46) (.tmp 47), none⟩, .pure, 0, 0⟩,
  ⟨⟨some 49, .move (.tmp 48), none⟩, .pure, 0, 0⟩,
  ⟨⟨some 50, .move (.tmp 0), (some (49, true))⟩, .pure, 0, 0⟩,
  ⟨⟨some 51, .move (.tmp 1), (some (49, true))⟩, .pure, 0, 0⟩,
  ⟨⟨some 52, .idx 1 (.tmp 50) (.tmp 51), (some (49, true))⟩, .pure, 0, 0⟩,
  ⟨⟨some 53, .load false 1 (.tmp 52), (some (49, true))⟩, .read, 0, 0⟩,
  ⟨⟨some 54, .move (.tmp 0), (some (49, true))⟩, .pure, 0, 0⟩,
  ⟨⟨some 55, .move (.tmp 10), (some (49, true))⟩, .pure, 0, 0⟩,
  ⟨⟨some 56, .idx 1 (.tmp 54) (.tmp 55), (some (49, true))⟩, .pure, 0, 0⟩,
  ⟨⟨some 57, .load false 1 (.tmp 56), (some (49, true))⟩, .read, 0, 0⟩,
  ⟨⟨some 58, .call 91 [.tmp 53, .tmp 57], (some (49, true))⟩, .heavy, 0, 1⟩,
  ⟨⟨some 59, .pick (.tmp 49) (.tmp 58) (.const (.bool false)), none⟩, .pure, 1, 1⟩])
 (.cond (.tmp 59) (.skip)
 (.exit 4)))
 (.block 5 (.region [⟨some 60, .move (.tmp 10), none⟩,
  ⟨some 61, .bin .sub (.tmp 60) (.const (.int .i64 1)), none⟩,
  ⟨some 10, .move (.tmp 61), none⟩]))
def L92_3 : LCode :=
 .block 1 (.seq (.block 2 (.loop L92_1))
 (.seq (.block 4 (.loop L92_2))
 (.seq (.seq (.region [⟨some 62, .move (.tmp 9), none⟩,
  ⟨some 63, .move (.tmp 10), none⟩,
  ⟨some 64, .bin .gtr (.tmp 62) (.tmp 63), none⟩])
 (.cond (.tmp 64) (.exit 0)
 (.skip)))
 (.seq (.draw [⟨⟨some 65, .move (.tmp 0), none⟩, .pure, 0, 0⟩,
  ⟨⟨some 66, .move (.tmp 9), none⟩, .pure, 0, 0⟩,
  ⟨⟨some 67, .move (.tmp 0), none⟩, .pure, 0, 1⟩,
  ⟨⟨some 68, .move (.tmp 10), none⟩, .pure, 0, 1⟩,
  ⟨⟨some 69, .move (.tmp 0), none⟩, .pure, 0, 0⟩,
  ⟨⟨some 70, .move (.tmp 10), none⟩, .pure, 0, 0⟩,
  ⟨⟨some 71, .idx 1 (.tmp 69) (.tmp 70), none⟩, .pure, 0, 0⟩,
  ⟨⟨some 72, .load false 1 (.tmp 71), none⟩, .read, 0, 0⟩,
  ⟨⟨some 73, .move (.tmp 0), none⟩, .pure, 0, 0⟩,
  ⟨⟨some 74, .move (.tmp 9), none⟩, .pure, 0, 0⟩,
  ⟨⟨some 75, .idx 1 (.tmp 73) (.tmp 74), none⟩, .pure, 0, 0⟩,
  ⟨⟨some 76, .load false 1 (.tmp 75), none⟩, .read, 0, 0⟩,
  ⟨⟨some 77, .idx 1 (.tmp 65) (.tmp 66), none⟩, .pure, 0, 0⟩,
  ⟨⟨none, .store 1 (.tmp 77) (.tmp 72), none⟩, .heavy, 0, 1⟩,
  ⟨⟨some 78, .idx 1 (.tmp 67) (.tmp 68), none⟩, .pure, 1, 1⟩,
  ⟨⟨none, .store 1 (.tmp 78) (.tmp 76), none⟩, .heavy, 1, 2⟩])
 (.seq (.region [⟨some 79, .move (.tmp 9), none⟩,
  ⟨some 80, .bin .add (.tmp 79) (.const (.int .i64 1)), none⟩,
  ⟨some 9, .move (.tmp 80), none⟩])
 (.region [⟨some 81, .move (.tmp 10), none⟩,
  ⟨some 82, .bin .sub (.tmp 81) (.const (.int .i64 1)), none⟩,
  ⟨some 10, .move (.tmp 82), none⟩]))))))
def L92 : LCode :=
 .seq (.region [⟨some 8, .move (.const (.int .i64 0)), none⟩])
 (.seq (.draw [⟨⟨some 11, .move (.tmp 0), none⟩, .pure, 0, 0⟩,
  ⟨⟨some 12, .move (.tmp 1), none⟩, .pure, 0, 0⟩,
  ⟨⟨some 13, .move (.tmp 0), none⟩, .pure, 0, 1⟩,
  ⟨⟨some 14, .move (.tmp 3), none⟩, .pure, 0, 1⟩,
  ⟨⟨some 15, .move (.tmp 0), none⟩, .pure, 0, 0⟩,
  ⟨⟨some 16, .move (.tmp 3), none⟩, .pure, 0, 0⟩,
  ⟨⟨some 17, .idx 1 (.tmp 15) (.tmp 16), none⟩, .pure, 0, 0⟩,
  ⟨⟨some 18, .load false 1 (.tmp 17), none⟩, .read, 0, 0⟩,
  ⟨⟨some 19, .move (.tmp 0), none⟩, .pure, 0, 0⟩,
  ⟨⟨some 20, .move (.tmp 1), none⟩, .pure, 0, 0⟩,
  ⟨⟨some 21, .idx 1 (.tmp 19) (.tmp 20), none⟩, .pure, 0, 0⟩,
  ⟨⟨some 22, .load false 1 (.tmp 21), none⟩, .read, 0, 0⟩,
  ⟨⟨some 23, .idx 1 (.tmp 11) (.tmp 12), none⟩, .pure, 0, 0⟩,
  ⟨⟨none, .store 1 (.tmp 23) (.tmp 18), none⟩, .heavy, 0, 1⟩,
  ⟨⟨some 24, .idx 1 (.tmp 13) (.tmp 14), none⟩, .pure, 1, 1⟩,
  ⟨⟨none, .store 1 (.tmp 24) (.tmp 22), none⟩, .heavy, 1, 2⟩])
 (.seq (.region [⟨some 25, .move (.tmp 1), none⟩,
  ⟨some 26, .bin .add (.tmp 25) (.const (.int .i64 1)), none⟩,
  ⟨some 27, .move (.tmp 2), none⟩,
  ⟨some 28, .bin .sub (.tmp 27) (.const (.int .i64 1)), none⟩,
  ⟨some 9, .move (.tmp 26), none⟩,
  ⟨some 10, .move (.tmp 28), none⟩])
 (.seq (.block 0 (.loop L92_3))
 (.seq (.region [⟨some 83, .move (.tmp 9), none⟩,
  ⟨some 8, .move (.tmp 83), none⟩])
 (.ret)))))
theorem light92 : Light Try.prog 92 4 84 L92 [.tmp 8] :=
  ⟨Try.f92, _, Try.func92, rfl, rfl, by kernel_rfl, by kernel_rfl, by decide⟩

/-! ### function 93: slices.partitionOrdered[int] -/
def L93_1 : LCode :=
 .seq (.seq (.draw [⟨⟨some 30, .move (.tmp 10), none⟩, .pure, 0, 0⟩,
  ⟨⟨some 31, .move (.tmp 11), none⟩, .pure, 0, 0⟩,
  ⟨⟨some 32, .bin .leq (.tmp 30) (.tmp 31), none⟩, .pure, 0, 0⟩,
  ⟨⟨some 33, .move (.tmp 32), none⟩, .pure, 0, 0⟩,
  ⟨⟨some 34, .move (.tmp 0), (some (33, true))⟩, .pure, 0, 0⟩,
  ⟨⟨some 35, .move (.tmp 10), (some (33, true))⟩, .pure, 0, 0⟩,
  ⟨⟨some 36, .idx 1 (.tmp 34) (.tmp 35), (some (33, true))⟩, .pure, 0, 0⟩,
  ⟨⟨some 37, .load false 1 (.tmp 36), (some (33, true))⟩, .read, 0, 0⟩,
  ⟨⟨some 38, .move (.tmp 0), (some (33, true))⟩, .pure, 0, 0⟩,
  ⟨⟨some 39, .move (.tmp 1), (some (33, true))⟩, .pure, 0, 0⟩,
  ⟨⟨some 40, .idx 1 (.tmp 38) (.tmp 39), (some (33, true))⟩, .pure, 0, 0⟩,
  ⟨⟨some 41, .load false 1 (.tmp 40), (some (33, true))⟩, .read, 0, 0⟩,
  ⟨⟨some 42, .call 91 [.tmp 37, .tmp 41], (some (33, true))⟩, .heavy, 0, 1⟩,
  ⟨⟨some 43, .pick (.tmp 33) (.tmp 42) (.const (.bool false)), none⟩, .pure, 1, 1⟩])
 (.cond (.tmp 43) (.skip)
 (.exit 0)))
 (.block 1 (.region [⟨some 44, .move (.tmp 10), none⟩,
  ⟨some 45, .bin .add (.tmp 44) (.const (.int .i64 1)), none⟩,
  ⟨some 10, .move (.tmp 45), none⟩]))
def L93_2 : LCode :=
 .seq (.seq (.draw [⟨⟨some 46, .move (.tmp 10), none⟩, .pure, 0, 0⟩,
  ⟨⟨some 47, .move (.tmp 11), none⟩, .pure, 0, 0⟩,
  ⟨⟨some 48, .bin .leq (.tmp 46) (.tmp 47), none⟩, .pure, 0, 0⟩,
  ⟨⟨some 49, .move (.tmp 48), none⟩, .pure, 0, 0⟩,
  ⟨⟨some 50, .move (.tmp 0), (some (49, true))⟩, .pure, 0, 0⟩,
  ⟨⟨some 51, .move (.tmp 11), (some (49, true))⟩, .pure, 0, 0⟩,
  ⟨⟨some 52, .idx 1 (.tmp 50) (.tmp 51), (some (49, true))⟩, .pure, 0, 0⟩,
  ⟨⟨some 53, .load false 1 (.tmp 52), (some (49, true))⟩, .read, 0, 0⟩,
  ⟨⟨some 54, .move (.tmp 0), (some (49, true))⟩, .pure, 0, 0⟩,
  ⟨⟨some 55, .move (.tmp 1), (some (49, true))⟩, .pure, 0, 0⟩,
  ⟨⟨some 56, .idx 1 (.tmp 54) (.tmp 55), (some (49, true))⟩, .pure, 0, 0⟩,
  ⟨⟨some 57, .load false 1 (.tmp 56), (some (49, true))⟩, .read, 0, 0⟩,
  ⟨⟨some 58, .call 91 [.tmp 53, .tmp 57], (some (49, true))⟩, .heavy, 0, 1⟩,
  ⟨⟨some 59, .un .not (.tmp 58), (some (49, true))⟩, .pure, 1, 1⟩,
  ⟨⟨some 60, .pick (.tmp 49) (.tmp 59) (.const (.bool false)), none⟩, .pure, 1, 1⟩])
 (.cond (.tmp 60) (.skip)
 (.exit 2)))
 (.block 3 (.region [⟨some 61, .move (.tmp 11), none⟩,
  ⟨some 62, .bin .sub (.tmp 61) (.const (.int .i64 1)), none⟩,
  ⟨some 11, .move (.tmp 62), none⟩]))
def L93_3 : LCode :=
 .seq (.seq (.draw [⟨⟨some 99, .move (.tmp 10), none⟩, .pure, 0, 0⟩,
  ⟨⟨some 100, .move (.tmp 11), none⟩, .pure, 0, 0⟩,
  ⟨⟨some 101, .bin .leq (.tmp 99) (.tmp 100), none⟩, .pure, 0, 0⟩,
  ⟨⟨some 102, .move (.tmp 101), none⟩, .pure, 0, 0⟩,
  ⟨⟨some 103, .move (.tmp 0), (some (102, true))⟩, .pure, 0, 0⟩,
  ⟨⟨some 104, .move (.tmp 10), (some (102, true))⟩, .pure, 0, 0⟩,
  ⟨⟨some 105, .idx 1 (.tmp 103) (.tmp 104), (some (102, true))⟩, .pure, 0, 0⟩,
  ⟨⟨some 106, .load false 1 (.tmp 105), (some (102, true))⟩, .read, 0, 0⟩,
  ⟨⟨some 107, .move (.tmp 0), (some (102, true))⟩, .pure, 0, 0⟩,
  ⟨⟨some 108, .move (.tmp 1), (some (102, true))⟩, .pure, 0, 0⟩,
  ⟨⟨some 109, .idx 1 (.tmp 107) (.tmp 108), (some (102, true))⟩, .pure, 0, 0⟩,
  ⟨⟨some 110, .load false 1 (.tmp 109), (some (102, true))⟩, .read, 0, 0⟩,
  ⟨⟨some 111, .call 91 [.tmp 106, .tmp 110], (some (102, true))⟩, .heavy, 0, 1⟩,
  ⟨⟨some 112, .pick (.tmp 102) (.tmp 111) (.const (.bool false)), none⟩, .pure, 1, 1⟩])
 (.cond (.tmp 112) (.skip)
 (.exit 6)))
 (.block 7 (.region [⟨some 113, .move (.tmp 10), none⟩,
  ⟨some 114, .bin .add (.tmp 113) (.const (.int .i64 1)), none⟩,
  ⟨some 10, .move (.tmp 114), none⟩]))
def L93_4 : LCode :=
 .seq (.seq (.draw [⟨⟨some 115, .move (.tmp 10), none⟩, .pure, 0, 0⟩,
  ⟨⟨some 116, .move (.tmp 11), none⟩, .pure, 0, 0⟩,
  ⟨⟨some 117, .bin .leq (.tmp 115) (.tmp 116), none⟩, .pure, 0, 0⟩,
  ⟨⟨some 118, .move (.tmp 117), none⟩, .pure, 0, 0⟩,
  ⟨⟨some 119, .move (.tmp 0), (some (118, true))⟩, .pure, 0, 0⟩,
  ⟨⟨some 120, .move (.tmp 11), (some (118, true))⟩, .pure, 0, 0⟩,
  ⟨⟨some 121, .idx 1 (.tmp 119) (.tmp 120), (some (118, true))⟩, .pure, 0, 0⟩,
  ⟨⟨some 122, .load false 1 (.tmp 121), (some (118, true))⟩, .read, 0, 0⟩,
  ⟨⟨some 123, .move (.tmp 0), (some (118, true))⟩, .pure, 0, 0⟩,
  ⟨⟨some 124, .move (.tmp 1), (some (118, true))⟩, .pure, 0, 0⟩,
  ⟨⟨some 125, .idx 1 (.tmp 123) (.tmp 124), (some (118, true))⟩, .pure, 0, 0⟩,
  ⟨⟨some 126, .load false 1 (.tmp 125), (some (118, true))⟩, .read, 0, 0⟩,
  ⟨⟨some 127, .call 91 [.tmp 122, .tmp 126], (some (118, true))⟩, .heavy, 0, 1⟩,
  ⟨⟨some 128, .un .not (.tmp 127), (some (118, true))⟩, .pure, 1, 1⟩,
  ⟨⟨some 129, .pick (.tmp 118) (.tmp 128) (.const (.bool false)), none⟩, .pure, 1, 1⟩])
 (.cond (.tmp 129) (.skip)
 (.exit 8)))
 (.block 9 (.region [⟨some 130, .move (.tmp 11), none⟩,
  ⟨some 131, .bin .sub (.tmp 130) (.const (.int .i64 1)), none⟩,
  ⟨some 11, .move (.tmp 131), none⟩]))
def L93_5 : LCode :=
 .block 5 (.seq (.block 6 (.loop L93_3))
 (.seq (.block 8 (.loop L93_4))
 (.seq (.seq (.region [⟨some 132, .move (.tmp 10), none⟩,
  ⟨some 133, .move (.tmp 11), none⟩,
  ⟨some 134, .bin .gtr (.tmp 132) (.tmp 133), none⟩])
 (.cond (.tmp 134) (.exit 4)
 (.skip)))
 (.seq (.draw [⟨⟨some 135, .move (.tmp 0), none⟩, .pure, 0, 0⟩,
  ⟨⟨some 136, .move (.tmp 10), none⟩, .pure, 0, 0⟩,
  ⟨⟨some 137, .move (.tmp 0), none⟩, .pure, 0, 1⟩,
  ⟨⟨some 138, .move (.tmp 11), none⟩, .pure, 0, 1⟩,
  ⟨⟨some 139, .move (.tmp 0), none⟩, .pure, 0, 0⟩,
  ⟨⟨some 140, .move (.tmp 11), none⟩, .pure, 0, 0⟩,
  ⟨⟨some 141, .idx 1 (.tmp 139) (.tmp 140), none⟩, .pure, 0, 0⟩,
  ⟨⟨some 142, .load false 1 (.tmp 141), none⟩, .read, 0, 0⟩,
  ⟨⟨some 143, .move (.tmp 0), none⟩, .pure, 0, 0⟩,
  ⟨⟨some 144, .move (.tmp 10), none⟩, .pure, 0, 0⟩,
  ⟨⟨some 145, .idx 1 (.tmp 143) (.tmp 144), none⟩, .pure, 0, 0⟩,
  ⟨⟨some 146, .load false 1 (.tmp 145), none⟩, .read, 0, 0⟩,
  ⟨⟨some 147, .idx 1 (.tmp 135) (.tmp 136), none⟩, .pure, 0, 0⟩,
  ⟨⟨none, .store 1 (.tmp 147) (.tmp 142), none⟩, .heavy, 0, 1⟩,
  ⟨⟨some 148, .idx 1 (.tmp 137) (.tmp 138), none⟩, .pure, 1, 1⟩,
  ⟨⟨none, .store 1 (.tmp 148) (.tmp 146), none⟩, .heavy, 1, 2⟩])
 (.seq (.region [⟨some 149, .move (.tmp 10), none⟩,
  ⟨some 150, .bin .add (.tmp 149) (.const (.int .i64 1)), none⟩,
  ⟨some 10, .move (.tmp 150), none⟩])
 (.region [⟨some 151, .move (.tmp 11), none⟩,
  ⟨some 152, .bin .sub (.tmp 151) (.const (.int .i64 1)), none⟩,
  ⟨some 11, .move (.tmp 152), none⟩]))))))
def L93 : LCode :=
 .seq (.region [⟨some 8, .move (.const (.int .i64 0)), none⟩,
  ⟨some 9, .move (.const (.bool false)), none⟩])
 (.seq (.draw [⟨⟨some 12, .move (.tmp 0), none⟩, .pure, 0, 0⟩,
  ⟨⟨some 13, .move (.tmp 1), none⟩, .pure, 0, 0⟩,
  ⟨⟨some 14, .move (.tmp 0), none⟩, .pure, 0, 1⟩,
  ⟨⟨some 15, .move (.tmp 3), none⟩, .pure, 0, 1⟩,
  ⟨⟨some 16, .move (.tmp 0), none⟩, .pure, 0, 0⟩,
  ⟨⟨some 17, .move (.tmp 3), none⟩, .pure, 0, 0⟩,
  ⟨⟨some 18, .idx 1 (.tmp 16) (.tmp 17), none⟩, .pure, 0, 0⟩,
  ⟨⟨some 19, .load false 1 (.tmp 18), none⟩, .read, 0, 0⟩,
  ⟨⟨some 20, .move (.tmp 0), none⟩, .pure, 0, 0⟩,
  ⟨⟨some 21, .move (.tmp 1), none⟩, .pure, 0, 0⟩,
  ⟨⟨some 22, .idx 1 (.tmp 20) (.tmp 21), none⟩, .pure, 0, 0⟩,
  ⟨⟨some 23, .load false 1 (.tmp 22), none⟩, .read, 0, 0⟩,
  ⟨⟨some 24, .idx 1 (.tmp 12) (.tmp 13), none⟩, .pure, 0, 0⟩,
  ⟨⟨none, .store 1 (.tmp 24) (.tmp 19), none⟩, .heavy, 0, 1⟩,
  ⟨⟨some 25, .idx 1 (.tmp 14) (.tmp 15), none⟩, .pure, 1, 1⟩,
  ⟨⟨none, .store 1 (.tmp 25) (.tmp 23), none⟩, .heavy, 1, 2⟩])
 (.seq (.region [⟨some 26, .move (.tmp 1), none⟩,
  ⟨some 27, .bin .add (.tmp 26) (.const (.int .i64 1)), none⟩,
  ⟨some 28, .move (.tmp 2), none⟩,
  ⟨some 29, .bin .sub (.tmp 28) (.const (.int .i64 1)), none⟩,
  ⟨some 10, .move (.tmp 27), none⟩,
  ⟨some 11, .move (.tmp 29), none⟩])
 (.seq (.block 0 (.loop L93_1))
 (.seq (.block 2 (.loop L93_2))
 (.seq (.seq (.region [⟨some 63, .move (.tmp 10), none⟩,
  ⟨some 64, .move (.tmp 11), none⟩,
  ⟨some 65, .bin .gtr (.tmp 63) (.tmp 64), none⟩])
 (.cond (.tmp 65) (.seq (.draw [⟨⟨some 66, .move (.tmp 0), none⟩, .pure, 0, 0⟩,
  ⟨⟨some 67, .move (.tmp 11), none⟩, .pure, 0, 0⟩,
  ⟨⟨some 68, .move (.tmp 0), none⟩, .pure, 0, 1⟩,
  ⟨⟨some 69, .move (.tmp 1), none⟩, .pure, 0, 1⟩,
  ⟨⟨some 70, .move (.tmp 0), none⟩, .pure, 0, 0⟩,
  ⟨⟨some 71, .move (.tmp 1), none⟩, .pure, 0, 0⟩,
  ⟨⟨some 72, .idx 1 (.tmp 70) (.tmp 71), none⟩, .pure, 0, 0⟩,
  ⟨⟨some 73, .load false 1 (.tmp 72), none⟩, .read, 0, 0⟩,
  ⟨⟨some 74, .move (.tmp 0), none⟩, .pure, 0, 0⟩,
  ⟨⟨some 75, .move (.tmp 11), none⟩, .pure, 0, 0⟩,
  ⟨⟨some 76, .idx 1 (.tmp 74) (.tmp 75), none⟩, .pure, 0, 0⟩,
  ⟨⟨some 77, .load false 1 (.tmp 76), none⟩, .read, 0, 0⟩,
  ⟨⟨some 78, .idx 1 (.tmp 66) (.tmp 67), none⟩, .pure, 0, 0⟩,
  ⟨⟨none, .store 1 (.tmp 78) (.tmp 73), none⟩, .heavy, 0, 1⟩,
  ⟨⟨some 79, .idx 1 (.tmp 68) (.tmp 69), none⟩, .pure, 1, 1⟩,
  ⟨⟨none, .store 1 (.tmp 79) (.tmp 77), none⟩, .heavy, 1, 2⟩])
 (.seq (.region [⟨some 80, .move (.tmp 11), none⟩,
  ⟨some 8, .move (.tmp 80), none⟩,
  ⟨some 9, .move (.const (.bool true)), none⟩])
 (.ret)))
 (.skip)))
 (.seq (.draw [⟨⟨some 81, .move (.tmp 0), none⟩, .pure, 0, 0⟩,
  ⟨⟨some 82, .move (.tmp 10), none⟩, .pure, 0, 0⟩,
  ⟨⟨some 83, .move (.tmp 0), none⟩, .pure, 0, 1⟩,
  ⟨⟨some 84, .move (.tmp 11), none⟩, .pure, 0, 1⟩,
  ⟨⟨some 85, .move (.tmp 0), none⟩, .pure, 0, 0⟩,
  ⟨⟨some 86, .move (.tmp 11), none⟩, .pure, 0, 0⟩,
  ⟨⟨some 87, .idx 1 (.tmp 85) (.tmp 86), none⟩, .pure, 0, 0⟩,
  ⟨⟨some 88, .load false 1 (.tmp 87), none⟩, .read, 0, 0⟩,
  ⟨⟨some 89, .move (.tmp 0), none⟩, .pure, 0, 0⟩,
  ⟨⟨some 90, .move (.tmp 10), none⟩, .pure, 0, 0⟩,
  ⟨⟨some 91, .idx 1 (.tmp 89) (.tmp 90), none⟩, .pure, 0, 0⟩,
  ⟨⟨some 92, .load false 1 (.tmp 91), none⟩, .read, 0, 0⟩,
  ⟨⟨some 93, .idx 1 (.tmp 81) (.tmp 82), none⟩, .pure, 0, 0⟩,
  ⟨⟨none, .store 1 (.tmp 93) (.tmp 88), none⟩, .heavy, 0, 1⟩,
  ⟨⟨some 94, .idx 1 (.tmp 83) (.tmp 84), none⟩, .pure, 1, 1⟩,
  ⟨⟨none, .store 1 (.tmp 94) (.tmp 92), none⟩, .heavy, 1, 2⟩])
 (.seq (.region [⟨some 95, .move (.tmp 10), none⟩,
  ⟨some 96, .bin .add (.tmp 95) (.const (.int .i64 1)), none⟩,
  ⟨some 10, .move (.tmp 96), none⟩])
 (.seq (.region [⟨some 97, .move (.tmp 11), none⟩,
  ⟨some 98, .bin .sub (.tmp 97) (.const (.int .i64 1)), none⟩,
  ⟨some 11, .move (.tmp 98), none⟩])
 (.seq (.block 4 (.loop L93_5))
 (.seq (.draw [⟨⟨some 153, .move (.tmp 0), none⟩, .pure, 0, 0⟩,
  ⟨⟨some 154, .move (.tmp 11), none⟩, .pure, 0, 0⟩,
  ⟨⟨some 155, .move (.tmp 0), none⟩, .pure, 0, 1⟩,
  ⟨⟨some 156, .move (.tmp 1), none⟩, .pure, 0, 1⟩,
  ⟨⟨some 157, .move (.tmp 0), none⟩, .pure, 0, 0⟩,
  ⟨⟨some 158, .move (.tmp 1), none⟩, .pure, 0, 0⟩,
  ⟨⟨some 159, .idx 1 (.tmp 157) (.tmp 158), none⟩, .pure, 0, 0⟩,
  ⟨⟨some 160, .load false 1 (.tmp 159), none⟩, .read, 0, 0⟩,
  ⟨⟨some 161, .move (.tmp 0), none⟩, .pure, 0, 0⟩,
  ⟨⟨some 162, .move (.tmp 11), none⟩, .pure, 0, 0⟩,
  ⟨⟨some 163, .idx 1 (.tmp 161) (.tmp 162), none⟩, .pure, 0, 0⟩,
  ⟨⟨some 164, .load false 1 (.tmp 163), none⟩, .read, 0, 0⟩,
  ⟨⟨some 165, .idx 1 (.tmp 153) (.tmp 154), none⟩, .pure, 0, 0⟩,
  ⟨⟨none, .store 1 (.tmp 165) (.tmp 160), none⟩, .heavy, 0, 1⟩,
  ⟨⟨some 166, .idx 1 (.tmp 155) (.tmp 156), none⟩, .pure, 1, 1⟩,
  ⟨⟨none, .store 1 (.tmp 166) (.tmp 164), none⟩, .heavy, 1, 2⟩])
 (.seq (.region [⟨some 167, .move (.tmp 11), none⟩,
  ⟨some 8, .move (.tmp 167), none⟩,
  ⟨some 9, .move (.const (.bool false)), none⟩])
 (.ret))))))))))))
theorem light93 : Light Try.prog 93 4 168 L93 [.tmp 8, .tmp 9] :=
  ⟨Try.f93, _, Try.func93, rfl, rfl, by kernel_rfl, by kernel_rfl, by decide⟩

/-! ### function 94: math/bits.Len32 -/
def L94 : LCode :=
 .seq (.region [⟨some 2, .move (.const (.int .i64 0)), none⟩])
 (.seq (.seq (.region [⟨some 3, .move (.tmp 0), none⟩,
  ⟨some 4, .bin .geq (.tmp 3) (.const (.int .u32 65536)), none⟩])
 (.cond (.tmp 4) (.seq (.region [⟨some 5, .move (.tmp 0), none⟩,
  ⟨some 6, .bin .shr (.tmp 5) (.const (.int .u64 16)), none⟩,
  ⟨some 0, .move (.tmp 6), none⟩])
 (.region [⟨some 2, .move (.const (.int .i64 16)), none⟩]))
 (.skip)))
 (.seq (.seq (.region [⟨some 7, .move (.tmp 0), none⟩,
  ⟨some 8, .bin .geq (.tmp 7) (.const (.int .u32 256)), none⟩])
 (.cond (.tmp 8) (.seq (.region [⟨some 9, .move (.tmp 0), none⟩,
  ⟨some 10, .bin .shr (.tmp 9) (.const (.int .u64 8)), none⟩,
  ⟨some 0, .move (.tmp 10), none⟩])
 (.region [⟨some 11, .move (.tmp 2), none⟩,
  ⟨some 12, .bin .add (.tmp 11) (.const (.int .i64 8)), none⟩,
  ⟨some 2, .move (.tmp 12), none⟩]))
 (.skip)))
 (.seq (.region [⟨some 13, .move (.tmp 2), none⟩,
  ⟨some 14, .move (.tmp 0), none⟩,
  ⟨some 15, .conv .u8 (.tmp 14), none⟩,
  ⟨some 16, .idxStr (.const (.string ⟨#[0, 1, 2, 2, 3, 3, 3, 3, 4, 4, 4, 4, 4, 4, 4, 4, 5, 5, 5, 5, 5, 5, 5, 5, 5, 5, 5, 5, 5, 5, 5, 5, 6, 6, 6, 6, 6, 6, 6, 6, 6, 6, 6, 6, 6, 6, 6, 6, 6, 6, 6, 6, 6, 6, 6, 6, 6, 6, 6, 6, 6, 6, 6, 6, 7, 7, 7, 7, 7, 7, 7, 7, 7, 7, 7, 7, 7, 7, 7, 7, 7, 7, 7, 7, 7, 7, 7, 7, 7, 7, 7, 7, 7, 7, 7, 7, 7, 7, 7, 7, 7, 7, 7, 7, 7, 7, 7, 7, 7, 7, 7, 7, 7, 7, 7, 7, 7, 7, 7, 7, 7, 7, 7, 7, 7, 7, 7, 7, 8, 8, 8, 8, 8, 8, 8, 8, 8, 8, 8, 8, 8, 8, 8, 8, 8, 8, 8, 8, 8, 8, 8, 8, 8, 8, 8, 8, 8, 8, 8, 8, 8, 8, 8, 8, 8, 8, 8, 8, 8, 8, 8, 8, 8, 8, 8, 8, 8, 8, 8, 8, 8, 8, 8, 8, 8, 8, 8, 8, 8, 8, 8, 8, 8, 8, 8, 8, 8, 8, 8, 8, 8, 8, 8, 8, 8, 8, 8, 8, 8, 8, 8, 8, 8, 8, 8, 8, 8, 8, 8, 8, 8, 8, 8, 8, 8, 8, 8, 8, 8, 8, 8, 8, 8, 8, 8, 8, 8, 8, 8, 8, 8, 8, 8, 8, 8, 8, 8, 8, 8, 8, 8, 8, 8, 8, 8, 8]⟩)) (.tmp 15), none⟩,
  ⟨some 17, .conv .i64 (.tmp 16), none⟩,
  ⟨some 18, .bin .add (.tmp 13) (.tmp 17), none⟩,
  ⟨some 2, .move (.tmp 18), none⟩])
 (.ret))))
theorem light94 : Light Try.prog 94 1 19 L94 [.tmp 2] :=
  ⟨Try.f94, _, Try.func94, rfl, rfl, by kernel_rfl, by kernel_rfl, by decide⟩

/-! ### function 95: math/bits.Len64 -/
def L95 : LCode :=
 .seq (.region [⟨some 2, .move (.const (.int .i64 0)), none⟩])
 (.seq (.seq (.region [⟨some 3, .move (.tmp 0), none⟩,
  ⟨some 4, .bin .geq (.tmp 3) (.const (.int .u64 4294967296)), none⟩])
 (.cond (.tmp 4) (.seq (.region [⟨some 5, .move (.tmp 0), none⟩,
  ⟨some 6, .bin .shr (.tmp 5) (.const (.int .u64 32)), none⟩,
  ⟨some 0, .move (.tmp 6), none⟩])
 (.region [⟨some 2, .move (.const (.int .i64 32)), none⟩]))
 (.skip)))
 (.seq (.seq (.region [⟨some 7, .move (.tmp 0), none⟩,
  ⟨some 8, .bin .geq (.tmp 7) (.const (.int .u64 65536)), none⟩])
 (.cond (.tmp 8) (.seq (.region [⟨some 9, .move (.tmp 0), none⟩,
  ⟨some 10, .bin .shr (.tmp 9) (.const (.int .u64 16)), none⟩,
  ⟨some 0, .move (.tmp 10), none⟩])
 (.region [⟨some 11, .move (.tmp 2), none⟩,
  ⟨some 12, .bin .add (.tmp 11) (.const (.int .i64 16)), none⟩,
  ⟨some 2, .move (.tmp 12), none⟩]))
 (.skip)))
 (.seq (.seq (.region [⟨some 13, .move (.tmp 0), none⟩,
  ⟨some 14, .bin .geq (.tmp 13) (.const (.int .u64 256)), none⟩])
 (.cond (.tmp 14) (.seq (.region [⟨some 15, .move (.tmp 0), none⟩,
  ⟨some 16, .bin .shr (.tmp 15) (.const (.int .u64 8)), none⟩,
  ⟨some 0, .move (.tmp 16), none⟩])
 (.region [⟨some 17, .move (.tmp 2), none⟩,
  ⟨some 18, .bin .add (.tmp 17) (.const (.int .i64 8)), none⟩,
  ⟨some 2, .move (.tmp 18), none⟩]))
 (.skip)))
 (.seq (.region [⟨some 19, .move (.tmp 2), none⟩,
  ⟨some 20, .move (.tmp 0), none⟩,
  ⟨some 21, .conv .u8 (.tmp 20), none⟩,
  ⟨some 22, .idxStr (.const (.string ⟨#[0, 1, 2, 2, 3, 3, 3, 3, 4, 4, 4, 4, 4, 4, 4, 4, 5, 5, 5, 5, 5, 5, 5, 5, 5, 5, 5, 5, 5, 5, 5, 5, 6, 6, 6, 6, 6, 6, 6, 6, 6, 6, 6, 6, 6, 6, 6, 6, 6, 6, 6, 6, 6, 6, 6, 6, 6, 6, 6, 6, 6, 6, 6, 6, 7, 7, 7, 7, 7, 7, 7, 7, 7, 7, 7, 7, 7, 7, 7, 7, 7, 7, 7, 7, 7, 7, 7, 7, 7, 7, 7, 7, 7, 7, 7, 7, 7, 7, 7, 7, 7, 7, 7, 7, 7, 7, 7, 7, 7, 7, 7, 7, 7, 7, 7, 7, 7, 7, 7, 7, 7, 7, 7, 7, 7, 7, 7, 7, 8, 8, 8, 8, 8, 8, 8, 8, 8, 8, 8, 8, 8, 8, 8, 8, 8, 8, 8, 8, 8, 8, 8, 8, 8, 8, 8, 8, 8, 8, 8, 8, 8, 8, 8, 8, 8, 8, 8, 8, 8, 8, 8, 8, 8, 8, 8, 8, 8, 8, 8, 8, 8, 8, 8, 8, 8, 8, 8, 8, 8, 8, 8, 8, 8, 8, 8, 8, 8, 8, 8, 8, 8, 8, 8, 8, 8, 8, 8, 8, 8, 8, 8, 8, 8, 8, 8, 8, 8, 8, 8, 8, 8, 8, 8, 8, 8, 8, 8, 8, 8, 8, 8, 8, 8, 8, 8, 8, 8, 8, 8, 8, 8, 8, 8, 8, 8, 8, 8, 8, 8, 8, 8, 8, 8, 8, 8, 8]⟩)) (.tmp 21), none⟩,
  ⟨some 23, .conv .i64 (.tmp 22), none⟩,
  ⟨some 24, .bin .add (.tmp 19) (.tmp 23), none⟩,
  ⟨some 2, .move (.tmp 24), none⟩])
 (.ret)))))
theorem light95 : Light Try.prog 95 1 25 L95 [.tmp 2] :=
  ⟨Try.f95, _, Try.func95, rfl, rfl, by kernel_rfl, by kernel_rfl, by decide⟩

/-! ### function 96: slices.siftDownOrdered[int] -/
def L96_1 : LCode :=
 .block 1 (.seq (.region [⟨some 11, .move (.tmp 8), none⟩,
  ⟨some 12, .bin .mul (.const (.int .i64 2)) (.tmp 11), none⟩,
  ⟨some 13, .bin .add (.tmp 12) (.const (.int .i64 1)), none⟩,
  ⟨some 9, .move (.tmp 13), none⟩])
 (.seq (.seq (.region [⟨some 14, .move (.tmp 9), none⟩,
  ⟨some 15, .move (.tmp 2), none⟩,
  ⟨some 16, .bin .geq (.tmp 14) (.tmp 15), none⟩])
 (.cond (.tmp 16) (.exit 0)
 (.skip)))
 (.seq (.seq (.draw [⟨⟨some 17, .move (.tmp 9), none⟩, .pure, 0, 0⟩,
  ⟨⟨some 18, .bin .add (.tmp 17) (.const (.int .i64 1)), none⟩, .pure, 0, 0⟩,
  ⟨⟨some 19, .move (.tmp 2), none⟩, .pure, 0, 0⟩,
  ⟨⟨some 20, .bin .lss (.tmp 18) (.tmp 19), none⟩, .pure, 0, 0⟩,
  ⟨⟨some 21, .move (.tmp 20), none⟩, .pure, 0, 0⟩,
  ⟨⟨some 22, .move (.tmp 0), (some (21, true))⟩, .pure, 0, 0⟩,
  ⟨⟨some 23, .move (.tmp 3), (some (21, true))⟩, .pure, 0, 0⟩,
  ⟨⟨some 24, .move (.tmp 9), (some (21, true))⟩, .pure, 0, 0⟩,
  ⟨⟨some 25, .bin .add (.tmp 23) (.tmp 24), (some (21, true))⟩, .pure, 0, 0⟩,
  ⟨⟨some 26, .idx 1 (.tmp 22) (.tmp 25), (some (21, true))⟩, .pure, 0, 0⟩,
  ⟨⟨some 27, .load false 1 (.tmp 26), (some (21, true))⟩, .read, 0, 0⟩,
  ⟨⟨some 28, .move (.tmp 0), (some (21, true))⟩, .pure, 0, 0⟩,
  ⟨⟨some 29, .move (.tmp 3), (some (21, true))⟩, .pure, 0, 0⟩,
  ⟨⟨some 30, .move (.tmp 9), (some (21, true))⟩, .pure, 0, 0⟩,
  ⟨⟨some 31, .bin .add (.tmp 29) (.tmp 30), (some (21, true))⟩, .pure, 0, 0⟩,
  ⟨⟨some 32, .bin .add (.tmp 31) (.const (.int .i64 1)), (some (21, true))⟩, .pure, 0, 0⟩,
  ⟨⟨some 33, .idx 1 (.tmp 28) (.tmp 32), (some (21, true))⟩, .pure, 0, 0⟩,
  ⟨⟨some 34, .load false 1 (.tmp 33), (some (21, true))⟩, .read, 0, 0⟩,
  ⟨⟨some 35, .call 91 [.tmp 27, .tmp 34], (some (21, true))⟩, .heavy, 0, 1⟩,
  ⟨⟨some 36, .pick (.tmp 21) (.tmp 35) (.const (.bool false)), none⟩, .pure, 1, 1⟩])
 (.cond (.tmp 36) (.region [⟨some 37, .move (.tmp 9), none⟩,
  ⟨some 38, .bin .add (.tmp 37) (.const (.int .i64 1)), none⟩,
  ⟨some 9, .move (.tmp 38), none⟩])
 (.skip)))
 (.seq (.seq (.draw [⟨⟨some 39, .move (.tmp 0), none⟩, .pure, 0, 0⟩,
  ⟨⟨some 40, .move (.tmp 3), none⟩, .pure, 0, 0⟩,
  ⟨⟨some 41, .move (.tmp 8), none⟩, .pure, 0, 0⟩,
  ⟨⟨some 42, .bin .add (.tmp 40) (.tmp 41), none⟩, .pure, 0, 0⟩,
  ⟨⟨some 43, .idx 1 (.tmp 39) (.tmp 42), none⟩, .pure, 0, 0⟩,
  ⟨⟨some 44, .load false 1 (.tmp 43), none⟩, .read, 0, 0⟩,
  ⟨⟨some 45, .move (.tmp 0), none⟩, .pure, 0, 0⟩,
  ⟨⟨some 46, .move (.tmp 3), none⟩, .pure, 0, 0⟩,
  ⟨⟨some 47, .move (.tmp 9), none⟩, .pure, 0, 0⟩,
  ⟨⟨some 48, .bin .add (.tmp 46) (.tmp 47), none⟩, .pure, 0, 0⟩,
  ⟨⟨some 49, .idx 1 (.tmp 45) (.tmp 48), none⟩, .pure, 0, 0⟩,
  ⟨⟨some 50, .load false 1 (.tmp 49), none⟩, .read, 0, 0⟩,
  ⟨⟨some 51, .call 91 [.tmp 44, .tmp 50], none⟩, .heavy, 0, 1⟩,
  ⟨⟨some 52, .un .not (.tmp 51), none⟩, .pure, 1, 1⟩])
 (.cond (.tmp 52) (.ret)
 (.skip)))
 (.seq (.draw [⟨⟨some 53, .move (.tmp 0), none⟩, .pure, 0, 0⟩,
  ⟨⟨some 54, .move (.tmp 3), none⟩, .pure, 0, 0⟩,
  ⟨⟨some 55, .move (.tmp 8), none⟩, .pure, 0, 0⟩,
  ⟨⟨some 56, .bin .add (.tmp 54) (.tmp 55), none⟩, .pure, 0, 0⟩,
  ⟨⟨some 57, .move (.tmp 0), none⟩, .pure, 0, 1⟩,
  ⟨⟨some 58, .move (.tmp 3), none⟩, .pure, 0, 1⟩,
  ⟨⟨some 59, .move (.tmp 9), none⟩, .pure, 0, 1⟩,
  ⟨⟨some 60, .bin .add (.tmp 58) (.tmp 59), none⟩, .pure, 0, 1⟩,
  ⟨⟨some 61, .move (.tmp 0), none⟩, .pure, 0, 0⟩,
  ⟨⟨some 62, .move (.tmp 3), none⟩, .pure, 0, 0⟩,
  ⟨⟨some 63, .move (.tmp 9), none⟩, .pure, 0, 0⟩,
  ⟨⟨some 64, .bin .add (.tmp 62) (.tmp 63), none⟩, .pure, 0, 0⟩,
  ⟨⟨some 65, .idx 1 (.tmp 61) (.tmp 64), none⟩, .pure, 0, 0⟩,
  ⟨⟨some 66, .load false 1 (.tmp 65), none⟩, .read, 0, 0⟩,
  ⟨⟨some 67, .move (.tmp 0), none⟩, .pure, 0, 0⟩,
  ⟨⟨some 68, .move (.tmp 3), none⟩, .pure, 0, 0⟩,
  ⟨⟨some 69, .move (.tmp 8), none⟩, .pure, 0, 0⟩,
  ⟨⟨some 70, .bin .add (.tmp 68) (.tmp 69), none⟩, .pure, 0, 0⟩,
  ⟨⟨some 71, .idx 1 (.tmp 67) (.tmp 70), none⟩, .pure, 0, 0⟩,
  ⟨⟨some 72, .load false 1 (.tmp 71), none⟩, .read, 0, 0⟩,
  ⟨⟨some 73, .idx 1 (.tmp 53) (.tmp 56), none⟩, .pure, 0, 0⟩,
  ⟨⟨none, .store 1 (.tmp 73) (.tmp 66), none⟩, .heavy, 0, 1⟩,
  ⟨⟨some 74, .idx 1 (.tmp 57) (.tmp 60), none⟩, .pure, 1, 1⟩,
  ⟨⟨none, .store 1 (.tmp 74) (.tmp 72), none⟩, .heavy, 1, 2⟩])
 (.region [⟨some 75, .move (.tmp 9), none⟩,
  ⟨some 8, .move (.tmp 75), none⟩]))))))
def L96 : LCode :=
 .seq (.region [⟨some 10, .move (.tmp 1), none⟩,
  ⟨some 8, .move (.tmp 10), none⟩])
 (.block 0 (.loop L96_1))
theorem light96 : Light Try.prog 96 4 76 L96 [] :=
  ⟨Try.f96, _, Try.func96, rfl, rfl, by kernel_rfl, by kernel_rfl, by decide⟩

/-! ### function 97: slices.nextPowerOfTwo -/
def L97 : LCode :=
 .seq (.region [⟨some 2, .move (.const (.int .u64 0)), none⟩])
 (.seq (.region [⟨some 3, .move (.tmp 0), none⟩,
  ⟨some 4, .conv .u64 (.tmp 3), none⟩,
  ⟨some 5, .call 82 [.tmp 4], none⟩,
  ⟨some 6, .bin .shl (.const (.int .u64 1)) (.tmp 5), none⟩,
  ⟨some 2, .move (.tmp 6), none⟩])
 (.ret))
theorem light97 : Light Try.prog 97 1 7 L97 [.tmp 2] :=
  ⟨Try.f97, _, Try.func97, rfl, rfl, by kernel_rfl, by kernel_rfl, by decide⟩

/-! ### function 98: (*slices.xorshift).Next -/
def L98 : LCode :=
 .seq (.region [⟨some 2, .move (.const (.int .u64 0)), none⟩])
 (.seq (.draw [⟨⟨some 3, .move (.tmp 0), none⟩, .pure, 0, 0⟩,
  ⟨⟨some 4, .nilCheck (.tmp 3), none⟩, .pure, 0, 0⟩,
  ⟨⟨some 5, .load false 1 (.tmp 4), none⟩, .read, 0, 0⟩,
  ⟨⟨some 6, .move (.tmp 0), none⟩, .pure, 0, 0⟩,
  ⟨⟨some 7, .nilCheck (.tmp 6), none⟩, .pure, 0, 0⟩,
  ⟨⟨some 8, .load false 1 (.tmp 7), none⟩, .read, 0, 0⟩,
  ⟨⟨some 9, .bin .shl (.tmp 8) (.const (.int .u64 13)), none⟩, .pure, 0, 0⟩,
  ⟨⟨some 10, .bin .xor (.tmp 5) (.tmp 9), none⟩, .pure, 0, 0⟩,
  ⟨⟨some 11, .nilCheck (.tmp 3), none⟩, .pure, 0, 0⟩,
  ⟨⟨none, .store 1 (.tmp 11) (.tmp 10), none⟩, .heavy, 0, 1⟩])
 (.seq (.draw [⟨⟨some 12, .move (.tmp 0), none⟩, .pure, 0, 0⟩,
  ⟨⟨some 13, .nilCheck (.tmp 12), none⟩, .pure, 0, 0⟩,
  ⟨⟨some 14, .load false 1 (.tmp 13), none⟩, .read, 0, 0⟩,
  ⟨⟨some 15, .move (.tmp 0), none⟩, .pure, 0, 0⟩,
  ⟨⟨some 16, .nilCheck (.tmp 15), none⟩, .pure, 0, 0⟩,
  ⟨⟨some 17, .load false 1 (.tmp 16), none⟩, .read, 0, 0⟩,
  ⟨⟨some 18, .bin .shr (.tmp 17) (.const (.int .u64 7)), none⟩, .pure, 0, 0⟩,
  ⟨⟨some 19, .bin .xor (.tmp 14) (.tmp 18), none⟩, .pure, 0, 0⟩,
  ⟨⟨some 20, .nilCheck (.tmp 12), none⟩, .pure, 0, 0⟩,
  ⟨⟨none, .store 1 (.tmp 20) (.tmp 19), none⟩, .heavy, 0, 1⟩])
 (.seq (.draw [⟨⟨some 21, .move (.tmp 0), none⟩, .pure, 0, 0⟩,
  ⟨⟨some 22, .nilCheck (.tmp 21), none⟩, .pure, 0, 0⟩,
  ⟨⟨some 23, .load false 1 (.tmp 22), none⟩, .read, 0, 0⟩,
  ⟨⟨some 24, .move (.tmp 0), none⟩, .pure, 0, 0⟩,
  ⟨⟨some 25, .nilCheck (.tmp 24), none⟩, .pure, 0, 0⟩,
  ⟨⟨some 26, .load false 1 (.tmp 25), none⟩, .read, 0, 0⟩,
  ⟨⟨some 27, .bin .shl (.tmp 26) (.const (.int .u64 17)), none⟩, .pure, 0, 0⟩,
  ⟨⟨some 28, .bin .xor (.tmp 23) (.tmp 27), none⟩, .pure, 0, 0⟩,
  ⟨⟨some 29, .nilCheck (.tmp 21), none⟩, .pure, 0, 0⟩,
  ⟨⟨none, .store 1 (.tmp 29) (.tmp 28), none⟩, .heavy, 0, 1⟩])
 (.seq (.region [⟨some 30, .move (.tmp 0), none⟩,
  ⟨some 31, .nilCheck (.tmp 30), none⟩,
  ⟨some 32, .load false 1 (.tmp 31), none⟩,
  ⟨some 2, .move (.tmp 32), none⟩])
 (.ret)))))
theorem light98 : Light Try.prog 98 1 33 L98 [.tmp 2] :=
  ⟨Try.f98, _, Try.func98, rfl, rfl, by kernel_rfl, by kernel_rfl, by decide⟩

/-! ### function 99: slices.medianAdjacentOrdered[int] -/
def L99 : LCode :=
 .seq (.region [⟨some 6, .move (.const (.int .i64 0)), none⟩])
 (.seq (.region [⟨some 7, .move (.tmp 0), none⟩,
  ⟨some 8, .move (.tmp 1), none⟩,
  ⟨some 9, .bin .sub (.tmp 8) (.const (.int .i64 1)), none⟩,
  ⟨some 10, .move (.tmp 1), none⟩,
  ⟨some 11, .move (.tmp 1), none⟩,
  ⟨some 12, .bin .add (.tmp 11) (.const (.int .i64 1)), none⟩,
  ⟨some 13, .move (.tmp 2), none⟩,
  ⟨some 14, .call 100 [.tmp 7, .tmp 9, .tmp 10, .tmp 12, .tmp 13], none⟩,
  ⟨some 6, .move (.tmp 14), none⟩])
 (.ret))
theorem light99 : Light Try.prog 99 3 15 L99 [.tmp 6] :=
  ⟨Try.f99, _, Try.func99, rfl, rfl, by kernel_rfl, by kernel_rfl, by decide⟩

/-! ### function 100: slices.medianOrdered[int] -/
def L100 : LCode :=
 .seq (.region [⟨some 10, .move (.const (.int .i64 0)), none⟩])
 (.seq (.region [⟨some 12, .move (.tmp 0), none⟩,
  ⟨some 13, .move (.tmp 1), none⟩,
  ⟨some 14, .move (.tmp 2), none⟩,
  ⟨some 15, .move (.tmp 4), none⟩,
  ⟨some 16, .call 102 [.tmp 12, .tmp 13, .tmp 14, .tmp 15], none⟩,
  ⟨some 11, .move (.tmp 16), none⟩,
  ⟨some 17, .extract (.tmp 11) 0, none⟩,
  ⟨some 18, .extract (.tmp 11) 1, none⟩,
  ⟨some 1, .move (.tmp 17), none⟩,
  ⟨some 2, .move (.tmp 18), none⟩])
 (.seq (.region [⟨some 20, .move (.tmp 0), none⟩,
  ⟨some 21, .move (.tmp 2), none⟩,
  ⟨some 22, .move (.tmp 3), none⟩,
  ⟨some 23, .move (.tmp 4), none⟩,
  ⟨some 24, .call 102 [.tmp 20, .tmp 21, .tmp 22, .tmp 23], none⟩,
  ⟨some 19, .move (.tmp 24), none⟩,
  ⟨some 25, .extract (.tmp 19) 0, none⟩,
  ⟨some 26, .extract (.tmp 19) 1, none⟩,
  ⟨some 2, .move (.tmp 25), none⟩,
  ⟨some 3, .move (.tmp 26), none⟩])
 (.seq (.region [⟨some 28, .move (.tmp 0), none⟩,
  ⟨some 29, .move (.tmp 1), none⟩,
  ⟨some 30, .move (.tmp 2), none⟩,
  ⟨some 31, .move (.tmp 4), none⟩,
  ⟨some 32, .call 102 [.tmp 28, .tmp 29, .tmp 30, .tmp 31], none⟩,
  ⟨some 27, .move (.tmp 32), none⟩,
  ⟨some 33, .extract (.tmp 27) 0, none⟩,
  ⟨some 34, .extract (.tmp 27) 1, none⟩,
  ⟨some 1, .move (.tmp 33), none⟩,
  ⟨some 2, .move (.tmp 34), none⟩])
 (.seq (.region [⟨some 35, .move (.tmp 2), none⟩,
  ⟨some 10, .move (.tmp 35), none⟩])
 (.ret)))))
theorem light100 : Light Try.prog 100 5 36 L100 [.tmp 10] :=
  ⟨Try.f100, _, Try.func100, rfl, rfl, by kernel_rfl, by kernel_rfl, by decide⟩

/-! ### function 101: cmp.isNaN[int] -/
def L101 : LCode :=
 .seq (.region [⟨some 2, .move (.const (.bool false)), none⟩])
 (.seq (.region [⟨some 3, .move (.tmp 0), none⟩,
  ⟨some 4, .move (.tmp 0), none⟩,
  ⟨some 5, .bin .neq (.tmp 3) (.tmp 4), none⟩,
  ⟨some 2, .move (.tmp 5), none⟩])
 (.ret))
theorem light101 : Light Try.prog 101 1 6 L101 [.tmp 2] :=
  ⟨Try.f101, _, Try.func101, rfl, rfl, by kernel_rfl, by kernel_rfl, by decide⟩

/-! ### function 102: slices.order2Ordered[int] -/
def L102 : LCode :=
 .seq (.region [⟨some 8, .move (.const (.int .i64 0)), none⟩,
  ⟨some 9, .move (.const (.int .i64 0)), none⟩])
 (.seq (.seq (.draw [⟨⟨some 10, .move (.tmp 0), none⟩, .pure, 0, 0⟩,
  ⟨⟨some 11, .move (.tmp 2), none⟩, .pure, 0, 0⟩,
  ⟨⟨some 12, .idx 1 (.tmp 10) (.tmp 11), none⟩, .pure, 0, 0⟩,
  ⟨⟨some 13, .load false 1 (.tmp 12), none⟩, .read, 0, 0⟩,
  ⟨⟨some 14, .move (.tmp 0), none⟩, .pure, 0, 0⟩,
  ⟨⟨some 15, .move (.tmp 1), none⟩, .pure, 0, 0⟩,
  ⟨⟨some 16, .idx 1 (.tmp 14) (.tmp 15), none⟩, .pure, 0, 0⟩,
  ⟨⟨some 17, .load false 1 (.tmp 16), none⟩, .read, 0, 0⟩,
  ⟨⟨some 18, .call 91 [.tmp 13, .tmp 17], none⟩, .heavy, 0, 1⟩])
 (.cond (.tmp 18) (.seq (.region [⟨some 19, .move (.tmp 3), none⟩,
  ⟨some 20, .nilCheck (.tmp 19), none⟩,
  ⟨some 21, .load false 1 (.tmp 20), none⟩,
  ⟨some 22, .bin .add (.tmp 21) (.const (.int .i64 1)), none⟩,
  ⟨some 23, .nilCheck (.tmp 19), none⟩,
  ⟨none, .store 1 (.tmp 23) (.tmp 22), none⟩])
 (.seq (.region [⟨some 24, .move (.tmp 2), none⟩,
  ⟨some 25, .move (.tmp 1), none⟩,
  ⟨some 8, .move (.tmp 24), none⟩,
  ⟨some 9, .move (.tmp 25), none⟩])
 (.ret)))
 (.skip)))
 (.seq (.region [⟨some 26, .move (.tmp 1), none⟩,
  ⟨some 27, .move (.tmp 2), none⟩,
  ⟨some 8, .move (.tmp 26), none⟩,
  ⟨some 9, .move (.tmp 27), none⟩])
 (.ret)))
theorem light102 : Light Try.prog 102 4 28 L102 [.tmp 8, .tmp 9] :=
  ⟨Try.f102, _, Try.func102, rfl, rfl, by kernel_rfl, by kernel_rfl, by decide⟩

end Go.Proofs.Ytfmcnojojknkfaa
