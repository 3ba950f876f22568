/-
  The light code of functions of this seat: printed by a program of this session (wip/tools/lightgen.py); each is held against the program by the kernel.
-/
import Derived.Test.YtpcgganldmmpoaaOtT
import Derived.KernelRfl
import Derived.Test.YtpcgganldmmpoaaProg
set_option maxRecDepth 100000
namespace Go.Proofs.Ytpcgganldmmpoaa
open Go.Ot

/-! ### function 3: outrider/outriderlaw02.PackLays -/
def L3 : LCode :=
 .seq (.region [⟨some 2, .move (.const (.bool false)), none⟩])
 (.seq (.draw [⟨⟨some 3, .move (.tmp 0), none⟩, .pure, 0, 0⟩,
  ⟨⟨some 4, .call 10 [.tmp 3], none⟩, .heavy, 0, 1⟩,
  ⟨⟨some 5, .un .not (.tmp 4), none⟩, .pure, 1, 1⟩,
  ⟨⟨some 6, .move (.tmp 5), none⟩, .pure, 1, 1⟩,
  ⟨⟨some 7, .move (.tmp 0), (some (6, false))⟩, .pure, 1, 1⟩,
  ⟨⟨some 8, .call 11 [.tmp 7], (some (6, false))⟩, .heavy, 1, 2⟩,
  ⟨⟨some 9, .toStr (.tmp 8), (some (6, false))⟩, .read, 2, 3⟩,
  ⟨⟨some 10, .move (.tmp 0), (some (6, false))⟩, .pure, 1, 2⟩,
  ⟨⟨some 11, .call 12 [.tmp 10], (some (6, false))⟩, .heavy, 2, 3⟩,
  ⟨⟨some 12, .toStr (.tmp 11), (some (6, false))⟩, .read, 3, 3⟩,
  ⟨⟨some 13, .bin .eql (.tmp 9) (.tmp 12), (some (6, false))⟩, .pure, 3, 3⟩,
  ⟨⟨some 14, .move (.tmp 13), (some (6, false))⟩, .pure, 3, 3⟩,
  ⟨⟨some 15, .call 13 [], (some (14, true))⟩, .heavy, 3, 4⟩,
  ⟨⟨some 16, .pick (.tmp 14) (.tmp 15) (.const (.bool false)), (some (6, false))⟩, .pure, 4, 4⟩,
  ⟨⟨some 17, .pick (.tmp 6) (.const (.bool true)) (.tmp 16), none⟩, .pure, 4, 4⟩,
  ⟨⟨some 2, .move (.tmp 17), none⟩, .pure, 4, 4⟩])
 (.ret))
theorem light3 : Light Try.prog 3 1 18 L3 [.tmp 2] :=
  ⟨Try.f3, _, Try.func3, rfl, rfl, by kernel_rfl, by kernel_rfl, by decide⟩

/-! ### function 4: outrider/outriderlaw02.PackSeals -/
def L4 : LCode :=
 .seq (.region [⟨some 4, .move (.const (.bool false)), none⟩])
 (.seq (.seq (.region [⟨some 13, .move (.tmp 0), none⟩,
  ⟨some 14, .len (.tmp 13), none⟩,
  ⟨some 15, .bin .gtr (.tmp 14) (.const (.int .i64 1048592)), none⟩,
  ⟨some 16, .move (.tmp 15), none⟩,
  ⟨some 17, .move (.tmp 1), (some (16, false))⟩,
  ⟨some 18, .len (.tmp 17), (some (16, false))⟩,
  ⟨some 19, .bin .gtr (.tmp 18) (.const (.int .i64 1048640)), (some (16, false))⟩,
  ⟨some 20, .pick (.tmp 16) (.const (.bool true)) (.tmp 19), none⟩])
 (.cond (.tmp 20) (.seq (.region [⟨some 4, .move (.const (.bool true)), none⟩])
 (.ret))
 (.skip)))
 (.seq (.region [⟨some 22, .buildSlice 5 1 0 [.int .u8 0] [], none⟩,
  ⟨some 23, .move (.tmp 0), none⟩,
  ⟨some 24, .append 5 1 1 (.tmp 22) (.tmp 23), none⟩,
  ⟨some 25, .call 14 [.tmp 24], none⟩,
  ⟨some 21, .move (.tmp 25), none⟩,
  ⟨some 26, .extract (.tmp 21) 0, none⟩,
  ⟨some 27, .extract (.tmp 21) 1, none⟩,
  ⟨some 5, .move (.tmp 26), none⟩,
  ⟨some 6, .move (.tmp 27), none⟩])
 (.seq (.region [⟨some 29, .move (.tmp 0), none⟩,
  ⟨some 30, .call 15 [.tmp 29], none⟩,
  ⟨some 28, .move (.tmp 30), none⟩,
  ⟨some 31, .extract (.tmp 28) 0, none⟩,
  ⟨some 32, .extract (.tmp 28) 1, none⟩,
  ⟨some 7, .move (.tmp 31), none⟩,
  ⟨some 8, .move (.tmp 32), none⟩])
 (.seq (.region [⟨some 34, .buildSlice 5 1 0 [.int .u8 0] [], none⟩,
  ⟨some 35, .move (.tmp 1), none⟩,
  ⟨some 36, .append 5 1 1 (.tmp 34) (.tmp 35), none⟩,
  ⟨some 37, .call 16 [.tmp 36], none⟩,
  ⟨some 33, .move (.tmp 37), none⟩,
  ⟨some 38, .extract (.tmp 33) 0, none⟩,
  ⟨some 39, .extract (.tmp 33) 1, none⟩,
  ⟨some 9, .move (.tmp 38), none⟩,
  ⟨some 10, .move (.tmp 39), none⟩])
 (.seq (.region [⟨some 41, .move (.tmp 1), none⟩,
  ⟨some 42, .call 17 [.tmp 41], none⟩,
  ⟨some 40, .move (.tmp 42), none⟩,
  ⟨some 43, .extract (.tmp 40) 0, none⟩,
  ⟨some 44, .extract (.tmp 40) 1, none⟩,
  ⟨some 11, .move (.tmp 43), none⟩,
  ⟨some 12, .move (.tmp 44), none⟩])
 (.seq (.region [⟨some 45, .move (.tmp 5), none⟩,
  ⟨some 46, .toStr (.tmp 45), none⟩,
  ⟨some 47, .move (.tmp 7), none⟩,
  ⟨some 48, .toStr (.tmp 47), none⟩,
  ⟨some 49, .bin .eql (.tmp 46) (.tmp 48), none⟩,
  ⟨some 50, .move (.tmp 49), none⟩,
  ⟨some 51, .move (.tmp 6), (some (50, true))⟩,
  ⟨some 52, .move (.tmp 8), (some (50, true))⟩,
  ⟨some 53, .bin .eql (.tmp 51) (.tmp 52), (some (50, true))⟩,
  ⟨some 54, .pick (.tmp 50) (.tmp 53) (.const (.bool false)), none⟩,
  ⟨some 55, .move (.tmp 54), none⟩,
  ⟨some 56, .move (.tmp 9), (some (55, true))⟩,
  ⟨some 57, .toStr (.tmp 56), (some (55, true))⟩,
  ⟨some 58, .move (.tmp 11), (some (55, true))⟩,
  ⟨some 59, .toStr (.tmp 58), (some (55, true))⟩,
  ⟨some 60, .bin .eql (.tmp 57) (.tmp 59), (some (55, true))⟩,
  ⟨some 61, .pick (.tmp 55) (.tmp 60) (.const (.bool false)), none⟩,
  ⟨some 62, .move (.tmp 61), none⟩,
  ⟨some 63, .move (.tmp 10), (some (62, true))⟩,
  ⟨some 64, .move (.tmp 12), (some (62, true))⟩,
  ⟨some 65, .bin .eql (.tmp 63) (.tmp 64), (some (62, true))⟩,
  ⟨some 66, .pick (.tmp 62) (.tmp 65) (.const (.bool false)), none⟩,
  ⟨some 67, .move (.tmp 66), none⟩,
  ⟨some 68, .move (.tmp 1), (some (67, true))⟩,
  ⟨some 69, .call 18 [.tmp 68], (some (67, true))⟩,
  ⟨some 70, .move (.tmp 1), (some (67, true))⟩,
  ⟨some 71, .call 19 [.tmp 70], (some (67, true))⟩,
  ⟨some 72, .bin .eql (.tmp 69) (.tmp 71), (some (67, true))⟩,
  ⟨some 73, .pick (.tmp 67) (.tmp 72) (.const (.bool false)), none⟩,
  ⟨some 74, .move (.tmp 73), none⟩,
  ⟨some 75, .call 13 [], (some (74, true))⟩,
  ⟨some 76, .pick (.tmp 74) (.tmp 75) (.const (.bool false)), none⟩,
  ⟨some 4, .move (.tmp 76), none⟩])
 (.ret)))))))
theorem light4 : Light Try.prog 4 2 77 L4 [.tmp 4] :=
  ⟨Try.f4, _, Try.func4, rfl, rfl, by kernel_rfl, by kernel_rfl, by decide⟩

/-! ### function 5: outrider/outriderlaw02.PackTurned -/
def L5 : LCode :=
 .seq (.region [⟨some 6, .move (.const (.bool false)), none⟩])
 (.seq (.seq (.region [⟨some 13, .move (.tmp 0), none⟩,
  ⟨some 14, .len (.tmp 13), none⟩,
  ⟨some 15, .bin .gtr (.tmp 14) (.const (.int .i64 4096)), none⟩])
 (.cond (.tmp 15) (.seq (.region [⟨some 6, .move (.const (.bool true)), none⟩])
 (.ret))
 (.skip)))
 (.seq (.region [⟨some 17, .buildSlice 5 1 0 [.int .u8 0] [], none⟩,
  ⟨some 18, .move (.tmp 0), none⟩,
  ⟨some 19, .append 5 1 1 (.tmp 17) (.tmp 18), none⟩,
  ⟨some 20, .call 14 [.tmp 19], none⟩,
  ⟨some 16, .move (.tmp 20), none⟩,
  ⟨some 21, .extract (.tmp 16) 0, none⟩,
  ⟨some 22, .extract (.tmp 16) 1, none⟩,
  ⟨some 7, .move (.tmp 21), none⟩,
  ⟨some 8, .move (.tmp 22), none⟩])
 (.seq (.region [⟨some 24, .buildSlice 5 1 0 [.int .u8 0] [], none⟩,
  ⟨some 25, .move (.tmp 7), none⟩,
  ⟨some 26, .append 5 1 1 (.tmp 24) (.tmp 25), none⟩,
  ⟨some 27, .call 16 [.tmp 26], none⟩,
  ⟨some 23, .move (.tmp 27), none⟩,
  ⟨some 28, .extract (.tmp 23) 0, none⟩,
  ⟨some 29, .extract (.tmp 23) 1, none⟩,
  ⟨some 9, .move (.tmp 28), none⟩,
  ⟨some 10, .move (.tmp 29), none⟩])
 (.seq (.seq (.region [⟨some 30, .move (.tmp 8), none⟩,
  ⟨some 31, .bin .neq (.tmp 30) (.const (.int .i64 0)), none⟩,
  ⟨some 32, .move (.tmp 31), none⟩,
  ⟨some 33, .move (.tmp 10), (some (32, false))⟩,
  ⟨some 34, .bin .neq (.tmp 33) (.const (.int .i64 0)), (some (32, false))⟩,
  ⟨some 35, .pick (.tmp 32) (.const (.bool true)) (.tmp 34), none⟩,
  ⟨some 36, .move (.tmp 35), none⟩,
  ⟨some 37, .move (.tmp 9), (some (36, false))⟩,
  ⟨some 38, .toStr (.tmp 37), (some (36, false))⟩,
  ⟨some 39, .move (.tmp 0), (some (36, false))⟩,
  ⟨some 40, .toStr (.tmp 39), (some (36, false))⟩,
  ⟨some 41, .bin .neq (.tmp 38) (.tmp 40), (some (36, false))⟩,
  ⟨some 42, .pick (.tmp 36) (.const (.bool true)) (.tmp 41), none⟩])
 (.cond (.tmp 42) (.seq (.region [⟨some 6, .move (.const (.bool false)), none⟩])
 (.ret))
 (.skip)))
 (.seq (.seq (.region [⟨some 43, .move (.tmp 2), none⟩,
  ⟨some 44, .bin .eql (.tmp 43) (.const (.int .u8 0)), none⟩])
 (.cond (.tmp 44) (.seq (.region [⟨some 45, .call 13 [], none⟩,
  ⟨some 6, .move (.tmp 45), none⟩])
 (.ret))
 (.skip)))
 (.seq (.region [⟨some 46, .move (.tmp 1), none⟩,
  ⟨some 47, .move (.tmp 7), none⟩,
  ⟨some 48, .len (.tmp 47), none⟩,
  ⟨some 49, .bin .rem (.tmp 46) (.tmp 48), none⟩,
  ⟨some 50, .move (.tmp 7), none⟩,
  ⟨some 51, .len (.tmp 50), none⟩,
  ⟨some 52, .bin .add (.tmp 49) (.tmp 51), none⟩,
  ⟨some 53, .move (.tmp 7), none⟩,
  ⟨some 54, .len (.tmp 53), none⟩,
  ⟨some 55, .bin .rem (.tmp 52) (.tmp 54), none⟩,
  ⟨some 1, .move (.tmp 55), none⟩])
 (.seq (.region [⟨some 56, .move (.tmp 7), none⟩,
  ⟨some 57, .move (.tmp 1), none⟩,
  ⟨some 58, .move (.tmp 7), none⟩,
  ⟨some 59, .move (.tmp 1), none⟩,
  ⟨some 60, .idx 1 (.tmp 58) (.tmp 59), none⟩,
  ⟨some 61, .load false 1 (.tmp 60), none⟩,
  ⟨some 62, .move (.tmp 2), none⟩,
  ⟨some 63, .bin .xor (.tmp 61) (.tmp 62), none⟩,
  ⟨some 64, .idx 1 (.tmp 56) (.tmp 57), none⟩,
  ⟨none, .store 1 (.tmp 64) (.tmp 63), none⟩])
 (.seq (.region [⟨some 66, .move (.tmp 7), none⟩,
  ⟨some 67, .call 16 [.tmp 66], none⟩,
  ⟨some 65, .move (.tmp 67), none⟩,
  ⟨some 68, .extract (.tmp 65) 0, none⟩,
  ⟨some 69, .extract (.tmp 65) 1, none⟩,
  ⟨some 11, .move (.tmp 68), none⟩,
  ⟨some 12, .move (.tmp 69), none⟩])
 (.seq (.region [⟨some 70, .move (.tmp 12), none⟩,
  ⟨some 71, .bin .neq (.tmp 70) (.const (.int .i64 0)), none⟩,
  ⟨some 72, .move (.tmp 71), none⟩,
  ⟨some 73, .move (.tmp 11), (some (72, true))⟩,
  ⟨some 74, .len (.tmp 73), (some (72, true))⟩,
  ⟨some 75, .bin .eql (.tmp 74) (.const (.int .i64 0)), (some (72, true))⟩,
  ⟨some 76, .pick (.tmp 72) (.tmp 75) (.const (.bool false)), none⟩,
  ⟨some 77, .move (.tmp 76), none⟩,
  ⟨some 78, .call 13 [], (some (77, true))⟩,
  ⟨some 79, .pick (.tmp 77) (.tmp 78) (.const (.bool false)), none⟩,
  ⟨some 6, .move (.tmp 79), none⟩])
 (.ret))))))))))
theorem light5 : Light Try.prog 5 3 80 L5 [.tmp 6] :=
  ⟨Try.f5, _, Try.func5, rfl, rfl, by kernel_rfl, by kernel_rfl, by decide⟩

/-! ### function 6: outrider/outriderlaw02.PackOwn -/
def L6_1 : LCode :=
 .seq (.seq (.region [⟨some 26, .move (.tmp 6), none⟩,
  ⟨some 27, .move (.tmp 0), none⟩,
  ⟨some 28, .len (.tmp 27), none⟩,
  ⟨some 29, .bin .lss (.tmp 26) (.tmp 28), none⟩])
 (.cond (.tmp 29) (.skip)
 (.exit 0)))
 (.seq (.block 1 (.region [⟨some 32, .move (.tmp 5), none⟩,
  ⟨some 33, .move (.tmp 0), none⟩,
  ⟨some 34, .move (.tmp 6), none⟩,
  ⟨some 35, .idx 6 (.tmp 33) (.tmp 34), none⟩,
  ⟨some 36, .off 4 (.tmp 35), none⟩,
  ⟨some 37, .load false 1 (.tmp 36), none⟩,
  ⟨some 38, .call 21 [.tmp 32, .tmp 37], none⟩]))
 (.region [⟨some 30, .move (.tmp 6), none⟩,
  ⟨some 31, .bin .add (.tmp 30) (.const (.int .i64 1)), none⟩,
  ⟨some 6, .move (.tmp 31), none⟩]))
def L6_2 : LCode :=
 .seq (.seq (.region [⟨some 43, .move (.tmp 9), none⟩,
  ⟨some 44, .move (.tmp 7), none⟩,
  ⟨some 45, .len (.tmp 44), none⟩,
  ⟨some 46, .bin .lss (.tmp 43) (.tmp 45), none⟩])
 (.cond (.tmp 46) (.skip)
 (.exit 2)))
 (.seq (.block 3 (.region [⟨some 49, .move (.tmp 7), none⟩,
  ⟨some 50, .move (.tmp 9), none⟩,
  ⟨some 51, .move (.tmp 7), none⟩,
  ⟨some 52, .move (.tmp 9), none⟩,
  ⟨some 53, .idx 1 (.tmp 51) (.tmp 52), none⟩,
  ⟨some 54, .load false 1 (.tmp 53), none⟩,
  ⟨some 55, .bin .xor (.tmp 54) (.const (.int .u8 255)), none⟩,
  ⟨some 56, .idx 1 (.tmp 49) (.tmp 50), none⟩,
  ⟨none, .store 1 (.tmp 56) (.tmp 55), none⟩]))
 (.region [⟨some 47, .move (.tmp 9), none⟩,
  ⟨some 48, .bin .add (.tmp 47) (.const (.int .i64 1)), none⟩,
  ⟨some 9, .move (.tmp 48), none⟩]))
def L6_3 : LCode :=
 .seq (.seq (.region [⟨some 62, .move (.tmp 12), none⟩,
  ⟨some 63, .move (.tmp 10), none⟩,
  ⟨some 64, .len (.tmp 63), none⟩,
  ⟨some 65, .bin .lss (.tmp 62) (.tmp 64), none⟩])
 (.cond (.tmp 65) (.skip)
 (.exit 4)))
 (.seq (.block 5 (.region [⟨some 68, .move (.tmp 10), none⟩,
  ⟨some 69, .move (.tmp 12), none⟩,
  ⟨some 70, .move (.tmp 10), none⟩,
  ⟨some 71, .move (.tmp 12), none⟩,
  ⟨some 72, .idx 1 (.tmp 70) (.tmp 71), none⟩,
  ⟨some 73, .load false 1 (.tmp 72), none⟩,
  ⟨some 74, .bin .xor (.tmp 73) (.const (.int .u8 255)), none⟩,
  ⟨some 75, .idx 1 (.tmp 68) (.tmp 69), none⟩,
  ⟨none, .store 1 (.tmp 75) (.tmp 74), none⟩]))
 (.region [⟨some 66, .move (.tmp 12), none⟩,
  ⟨some 67, .bin .add (.tmp 66) (.const (.int .i64 1)), none⟩,
  ⟨some 12, .move (.tmp 67), none⟩]))
def L6 : LCode :=
 .seq (.region [⟨some 4, .move (.const (.bool false)), none⟩])
 (.seq (.seq (.region [⟨some 15, .move (.tmp 0), none⟩,
  ⟨some 16, .call 10 [.tmp 15], none⟩,
  ⟨some 17, .un .not (.tmp 16), none⟩,
  ⟨some 18, .move (.tmp 17), none⟩,
  ⟨some 19, .move (.tmp 1), (some (18, false))⟩,
  ⟨some 20, .len (.tmp 19), (some (18, false))⟩,
  ⟨some 21, .bin .gtr (.tmp 20) (.const (.int .i64 4096)), (some (18, false))⟩,
  ⟨some 22, .pick (.tmp 18) (.const (.bool true)) (.tmp 21), none⟩])
 (.cond (.tmp 22) (.seq (.region [⟨some 4, .move (.const (.bool true)), none⟩])
 (.ret))
 (.skip)))
 (.seq (.region [⟨some 23, .call 20 [], none⟩,
  ⟨some 5, .move (.tmp 23), none⟩])
 (.seq (.seq (.region [⟨some 24, .move (.tmp 5), none⟩,
  ⟨some 25, .isNil false (.pointer 73) (.tmp 24), none⟩])
 (.cond (.tmp 25) (.seq (.region [⟨some 4, .move (.const (.bool false)), none⟩])
 (.ret))
 (.skip)))
 (.seq (.seq (.region [⟨some 6, .move (.const (.int .i64 0)), none⟩])
 (.block 0 (.loop L6_1)))
 (.seq (.region [⟨some 39, .move (.tmp 5), none⟩,
  ⟨some 40, .call 22 [.tmp 39], none⟩,
  ⟨some 7, .move (.tmp 40), none⟩])
 (.seq (.region [⟨some 41, .move (.tmp 7), none⟩,
  ⟨some 42, .toStr (.tmp 41), none⟩,
  ⟨some 8, .move (.tmp 42), none⟩])
 (.seq (.seq (.region [⟨some 9, .move (.const (.int .i64 0)), none⟩])
 (.block 2 (.loop L6_2)))
 (.seq (.region [⟨some 57, .buildSlice 5 1 0 [.int .u8 0] [], none⟩,
  ⟨some 58, .move (.tmp 1), none⟩,
  ⟨some 59, .append 5 1 1 (.tmp 57) (.tmp 58), none⟩,
  ⟨some 10, .move (.tmp 59), none⟩])
 (.seq (.region [⟨some 60, .move (.tmp 10), none⟩,
  ⟨some 61, .call 23 [.tmp 60], none⟩,
  ⟨some 11, .move (.tmp 61), none⟩])
 (.seq (.seq (.region [⟨some 12, .move (.const (.int .i64 0)), none⟩])
 (.block 4 (.loop L6_3)))
 (.seq (.region [⟨some 13, .move (.const (.int .u8 0)), none⟩])
 (.seq (.seq (.region [⟨some 76, .move (.tmp 1), none⟩,
  ⟨some 77, .len (.tmp 76), none⟩,
  ⟨some 78, .bin .gtr (.tmp 77) (.const (.int .i64 0)), none⟩])
 (.cond (.tmp 78) (.region [⟨some 79, .move (.tmp 1), none⟩,
  ⟨some 80, .idx 1 (.tmp 79) (.const (.int .i64 0)), none⟩,
  ⟨some 81, .load false 1 (.tmp 80), none⟩,
  ⟨some 13, .move (.tmp 81), none⟩])
 (.skip)))
 (.seq (.region [⟨some 82, .move (.tmp 11), none⟩,
  ⟨some 83, .call 24 [.tmp 82], none⟩,
  ⟨some 14, .move (.tmp 83), none⟩])
 (.seq (.region [⟨some 84, .move (.tmp 5), none⟩,
  ⟨some 85, .call 22 [.tmp 84], none⟩,
  ⟨some 86, .toStr (.tmp 85), none⟩,
  ⟨some 87, .move (.tmp 8), none⟩,
  ⟨some 88, .bin .eql (.tmp 86) (.tmp 87), none⟩,
  ⟨some 89, .move (.tmp 88), none⟩,
  ⟨some 90, .move (.tmp 13), (some (89, true))⟩,
  ⟨some 91, .bin .geq (.tmp 90) (.const (.int .u8 128)), (some (89, true))⟩,
  ⟨some 92, .move (.tmp 91), (some (89, true))⟩,
  ⟨some 93, .move (.tmp 1), (some (92, false))⟩,
  ⟨some 94, .len (.tmp 93), (some (92, false))⟩,
  ⟨some 95, .bin .eql (.tmp 94) (.const (.int .i64 0)), (some (92, false))⟩,
  ⟨some 96, .pick (.tmp 92) (.const (.bool true)) (.tmp 95), (some (89, true))⟩,
  ⟨some 97, .move (.tmp 96), (some (89, true))⟩,
  ⟨some 98, .move (.tmp 14), (some (97, false))⟩,
  ⟨some 99, .move (.tmp 13), (some (97, false))⟩,
  ⟨some 100, .conv .u64 (.tmp 99), (some (97, false))⟩,
  ⟨some 101, .bin .eql (.tmp 98) (.tmp 100), (some (97, false))⟩,
  ⟨some 102, .pick (.tmp 97) (.const (.bool true)) (.tmp 101), (some (89, true))⟩,
  ⟨some 103, .pick (.tmp 89) (.tmp 102) (.const (.bool false)), none⟩,
  ⟨some 104, .move (.tmp 103), none⟩,
  ⟨some 105, .call 13 [], (some (104, true))⟩,
  ⟨some 106, .pick (.tmp 104) (.tmp 105) (.const (.bool false)), none⟩,
  ⟨some 4, .move (.tmp 106), none⟩])
 (.ret)))))))))))))))
theorem light6 : Light Try.prog 6 2 107 L6 [.tmp 4] :=
  ⟨Try.f6, _, Try.func6, rfl, rfl, by kernel_rfl, by kernel_rfl, by decide⟩

/-! ### function 7: outrider/outriderlaw02.PackOne -/
def L7_1 : LCode :=
 .seq (.seq (.region [⟨some 20, .move (.tmp 3), none⟩,
  ⟨some 21, .call 25 [.tmp 20], none⟩,
  ⟨some 22, .bin .gtr (.tmp 21) (.const (.int .i64 0)), none⟩])
 (.cond (.tmp 22) (.skip)
 (.exit 0)))
 (.block 1 (.seq (.region [⟨some 23, .move (.tmp 3), none⟩,
  ⟨some 24, .call 24 [.tmp 23], none⟩,
  ⟨some 5, .move (.tmp 24), none⟩])
 (.seq (.seq (.region [⟨some 25, .move (.tmp 3), none⟩,
  ⟨some 26, .call 26 [.tmp 25], none⟩,
  ⟨some 27, .bin .neq (.tmp 26) (.const (.int .i64 0)), none⟩])
 (.cond (.tmp 27) (.seq (.region [⟨some 28, .call 13 [], none⟩,
  ⟨some 2, .move (.tmp 28), none⟩])
 (.ret))
 (.skip)))
 (.region [⟨some 29, .move (.tmp 4), none⟩,
  ⟨some 30, .move (.tmp 5), none⟩,
  ⟨some 31, .call 27 [.tmp 29, .tmp 30], none⟩]))))
def L7 : LCode :=
 .seq (.region [⟨some 2, .move (.const (.bool false)), none⟩])
 (.seq (.seq (.region [⟨some 6, .move (.tmp 0), none⟩,
  ⟨some 7, .len (.tmp 6), none⟩,
  ⟨some 8, .bin .gtr (.tmp 7) (.const (.int .i64 4096)), none⟩])
 (.cond (.tmp 8) (.seq (.region [⟨some 2, .move (.const (.bool true)), none⟩])
 (.ret))
 (.skip)))
 (.seq (.region [⟨some 9, .buildSlice 5 1 0 [.int .u8 0] [], none⟩,
  ⟨some 10, .move (.tmp 0), none⟩,
  ⟨some 11, .append 5 1 1 (.tmp 9) (.tmp 10), none⟩,
  ⟨some 12, .call 23 [.tmp 11], none⟩,
  ⟨some 3, .move (.tmp 12), none⟩])
 (.seq (.region [⟨some 13, .call 20 [], none⟩,
  ⟨some 4, .move (.tmp 13), none⟩])
 (.seq (.seq (.region [⟨some 14, .move (.tmp 3), none⟩,
  ⟨some 15, .isNil false (.pointer 75) (.tmp 14), none⟩,
  ⟨some 16, .move (.tmp 15), none⟩,
  ⟨some 17, .move (.tmp 4), (some (16, false))⟩,
  ⟨some 18, .isNil false (.pointer 73) (.tmp 17), (some (16, false))⟩,
  ⟨some 19, .pick (.tmp 16) (.const (.bool true)) (.tmp 18), none⟩])
 (.cond (.tmp 19) (.seq (.region [⟨some 2, .move (.const (.bool false)), none⟩])
 (.ret))
 (.skip)))
 (.seq (.block 0 (.loop L7_1))
 (.seq (.draw [⟨⟨some 32, .move (.tmp 4), none⟩, .pure, 0, 0⟩,
  ⟨⟨some 33, .call 22 [.tmp 32], none⟩, .heavy, 0, 1⟩,
  ⟨⟨some 34, .toStr (.tmp 33), none⟩, .read, 1, 1⟩,
  ⟨⟨some 35, .move (.tmp 0), none⟩, .pure, 0, 1⟩,
  ⟨⟨some 36, .toStr (.tmp 35), none⟩, .read, 0, 1⟩,
  ⟨⟨some 37, .bin .eql (.tmp 34) (.tmp 36), none⟩, .pure, 1, 1⟩,
  ⟨⟨some 38, .move (.tmp 37), none⟩, .pure, 1, 1⟩,
  ⟨⟨some 39, .call 13 [], (some (38, true))⟩, .heavy, 1, 2⟩,
  ⟨⟨some 40, .pick (.tmp 38) (.tmp 39) (.const (.bool false)), none⟩, .pure, 2, 2⟩,
  ⟨⟨some 2, .move (.tmp 40), none⟩, .pure, 2, 2⟩])
 (.ret)))))))
theorem light7 : Light Try.prog 7 1 41 L7 [.tmp 2] :=
  ⟨Try.f7, _, Try.func7, rfl, rfl, by kernel_rfl, by kernel_rfl, by decide⟩

/-! ### function 8: outrider/outriderlaw02.PackTakes -/
def L8_1 : LCode :=
 .seq (.seq (.region [⟨some 27, .move (.tmp 7), none⟩,
  ⟨some 28, .move (.tmp 1), none⟩,
  ⟨some 29, .len (.tmp 28), none⟩,
  ⟨some 30, .bin .lss (.tmp 27) (.tmp 29), none⟩])
 (.cond (.tmp 30) (.skip)
 (.exit 0)))
 (.seq (.block 1 (.seq (.region [⟨some 8, .move (.const (.bool false)), none⟩])
 (.seq (.draw [⟨⟨some 34, .move (.tmp 5), none⟩, .pure, 0, 0⟩,
  ⟨⟨some 35, .load true 2 (.tmp 6), none⟩, .read, 0, 0⟩,
  ⟨⟨some 36, .move (.tmp 1), none⟩, .pure, 0, 0⟩,
  ⟨⟨some 37, .move (.tmp 7), none⟩, .pure, 0, 0⟩,
  ⟨⟨some 38, .idx 1 (.tmp 36) (.tmp 37), none⟩, .pure, 0, 0⟩,
  ⟨⟨some 39, .load false 1 (.tmp 38), none⟩, .read, 0, 0⟩,
  ⟨⟨some 40, .call 28 [.tmp 34, .tmp 35, .tmp 39], none⟩, .heavy, 0, 1⟩,
  ⟨⟨some 33, .move (.tmp 40), none⟩, .pure, 1, 1⟩,
  ⟨⟨some 41, .extract (.tmp 33) 0, none⟩, .pure, 1, 1⟩,
  ⟨⟨some 42, .extract (.tmp 33) 1, none⟩, .pure, 1, 2⟩,
  ⟨⟨none, .store 2 (.tmp 6) (.tmp 41), none⟩, .heavy, 1, 2⟩,
  ⟨⟨some 8, .move (.tmp 42), none⟩, .pure, 2, 2⟩])
 (.seq (.draw [⟨⟨some 43, .move (.tmp 8), none⟩, .pure, 0, 0⟩,
  ⟨⟨some 44, .un .not (.tmp 43), none⟩, .pure, 0, 0⟩,
  ⟨⟨some 45, .move (.tmp 44), none⟩, .pure, 0, 0⟩,
  ⟨⟨some 46, .move (.tmp 5), (some (45, false))⟩, .pure, 0, 0⟩,
  ⟨⟨some 47, .call 25 [.tmp 46], (some (45, false))⟩, .heavy, 0, 1⟩,
  ⟨⟨some 48, .load true 2 (.tmp 6), (some (45, false))⟩, .read, 0, 1⟩,
  ⟨⟨some 49, .call 29 [.tmp 48], (some (45, false))⟩, .heavy, 1, 2⟩,
  ⟨⟨some 50, .bin .neq (.tmp 47) (.tmp 49), (some (45, false))⟩, .pure, 2, 2⟩,
  ⟨⟨some 51, .pick (.tmp 45) (.const (.bool true)) (.tmp 50), none⟩, .pure, 2, 2⟩,
  ⟨⟨some 52, .move (.tmp 51), none⟩, .pure, 2, 2⟩,
  ⟨⟨some 53, .move (.tmp 5), (some (52, false))⟩, .pure, 2, 2⟩,
  ⟨⟨some 54, .call 26 [.tmp 53], (some (52, false))⟩, .heavy, 2, 3⟩,
  ⟨⟨some 55, .off 1 (.tmp 6), (some (52, false))⟩, .pure, 2, 3⟩,
  ⟨⟨some 56, .load false 1 (.tmp 55), (some (52, false))⟩, .read, 2, 3⟩,
  ⟨⟨some 57, .bin .neq (.tmp 54) (.tmp 56), (some (52, false))⟩, .pure, 3, 3⟩,
  ⟨⟨some 58, .pick (.tmp 52) (.const (.bool true)) (.tmp 57), none⟩, .pure, 3, 3⟩,
  ⟨⟨some 59, .move (.tmp 58), none⟩, .pure, 3, 3⟩,
  ⟨⟨some 60, .move (.tmp 5), (some (59, false))⟩, .pure, 3, 3⟩,
  ⟨⟨some 61, .call 30 [.tmp 60], (some (59, false))⟩, .heavy, 3, 4⟩,
  ⟨⟨some 62, .load true 2 (.tmp 6), (some (59, false))⟩, .read, 3, 4⟩,
  ⟨⟨some 63, .call 31 [.tmp 62], (some (59, false))⟩, .heavy, 4, 5⟩,
  ⟨⟨some 64, .bin .neq (.tmp 61) (.tmp 63), (some (59, false))⟩, .pure, 5, 5⟩,
  ⟨⟨some 65, .pick (.tmp 59) (.const (.bool true)) (.tmp 64), none⟩, .pure, 5, 5⟩])
 (.cond (.tmp 65) (.seq (.region [⟨some 4, .move (.const (.bool false)), none⟩])
 (.ret))
 (.skip))))))
 (.region [⟨some 31, .move (.tmp 7), none⟩,
  ⟨some 32, .bin .add (.tmp 31) (.const (.int .i64 1)), none⟩,
  ⟨some 7, .move (.tmp 32), none⟩]))
def L8 : LCode :=
 .seq (.region [⟨some 4, .move (.const (.bool false)), none⟩])
 (.seq (.seq (.region [⟨some 9, .move (.tmp 0), none⟩,
  ⟨some 10, .len (.tmp 9), none⟩,
  ⟨some 11, .bin .gtr (.tmp 10) (.const (.int .i64 4096)), none⟩,
  ⟨some 12, .move (.tmp 11), none⟩,
  ⟨some 13, .move (.tmp 1), (some (12, false))⟩,
  ⟨some 14, .len (.tmp 13), (some (12, false))⟩,
  ⟨some 15, .bin .gtr (.tmp 14) (.const (.int .i64 64)), (some (12, false))⟩,
  ⟨some 16, .pick (.tmp 12) (.const (.bool true)) (.tmp 15), none⟩])
 (.cond (.tmp 16) (.seq (.region [⟨some 4, .move (.const (.bool true)), none⟩])
 (.ret))
 (.skip)))
 (.seq (.region [⟨some 17, .buildSlice 5 1 0 [.int .u8 0] [], none⟩,
  ⟨some 18, .move (.tmp 0), none⟩,
  ⟨some 19, .append 5 1 1 (.tmp 17) (.tmp 18), none⟩,
  ⟨some 20, .call 23 [.tmp 19], none⟩,
  ⟨some 5, .move (.tmp 20), none⟩])
 (.seq (.seq (.region [⟨some 21, .move (.tmp 5), none⟩,
  ⟨some 22, .isNil false (.pointer 75) (.tmp 21), none⟩])
 (.cond (.tmp 22) (.seq (.region [⟨some 4, .move (.const (.bool false)), none⟩])
 (.ret))
 (.skip)))
 (.seq (.region [⟨some 23, .buildSlice 5 1 0 [.int .u8 0] [], none⟩,
  ⟨some 24, .move (.tmp 0), none⟩,
  ⟨some 25, .append 5 1 1 (.tmp 23) (.tmp 24), none⟩,
  ⟨some 26, .build [.slice none 0 0, .int .i64 0] [(0, 1, .tmp 25)], none⟩,
  ⟨some 6, .new 53 2 [.slice none 0 0, .int .i64 0], none⟩,
  ⟨none, .store 2 (.tmp 6) (.tmp 26), none⟩])
 (.seq (.seq (.region [⟨some 7, .move (.const (.int .i64 0)), none⟩])
 (.block 0 (.loop L8_1)))
 (.seq (.region [⟨some 66, .call 13 [], none⟩,
  ⟨some 4, .move (.tmp 66), none⟩])
 (.ret)))))))
theorem light8 : Light Try.prog 8 2 67 L8 [.tmp 4] :=
  ⟨Try.f8, _, Try.func8, rfl, rfl, by kernel_rfl, by kernel_rfl, by decide⟩

/-! ### function 9: outrider/outriderlaw02.PackBack -/
def L9_1 : LCode :=
 .seq (.seq (.region [⟨some 14, .move (.tmp 4), none⟩,
  ⟨some 15, .move (.tmp 0), none⟩,
  ⟨some 16, .len (.tmp 15), none⟩,
  ⟨some 17, .bin .lss (.tmp 14) (.tmp 16), none⟩])
 (.cond (.tmp 17) (.skip)
 (.exit 0)))
 (.seq (.block 1 (.seq (.region [⟨some 5, .move (.const (.bool false)), none⟩])
 (.seq (.seq (.region [⟨some 20, .move (.tmp 0), none⟩,
  ⟨some 21, .move (.tmp 4), none⟩,
  ⟨some 22, .idx 6 (.tmp 20) (.tmp 21), none⟩,
  ⟨some 23, .off 0 (.tmp 22), none⟩,
  ⟨some 24, .load false 1 (.tmp 23), none⟩,
  ⟨some 25, .call 32 [.tmp 24], none⟩])
 (.block 2 (.seq (.region [⟨some 35, .bin .eql (.tmp 25) (.const (.int .i64 0)), none⟩,
  ⟨some 34, .move (.tmp 35), none⟩])
 (.cond (.tmp 34) (.draw [⟨⟨some 36, .move (.tmp 3), none⟩, .pure, 0, 0⟩,
  ⟨⟨some 37, .call 24 [.tmp 36], none⟩, .heavy, 0, 1⟩,
  ⟨⟨some 38, .move (.tmp 0), none⟩, .pure, 0, 1⟩,
  ⟨⟨some 39, .move (.tmp 4), none⟩, .pure, 0, 1⟩,
  ⟨⟨some 40, .idx 6 (.tmp 38) (.tmp 39), none⟩, .pure, 0, 1⟩,
  ⟨⟨some 41, .off 1 (.tmp 40), none⟩, .pure, 0, 1⟩,
  ⟨⟨some 42, .load false 1 (.tmp 41), none⟩, .read, 0, 1⟩,
  ⟨⟨some 43, .bin .eql (.tmp 37) (.tmp 42), none⟩, .pure, 1, 1⟩,
  ⟨⟨some 5, .move (.tmp 43), none⟩, .pure, 1, 1⟩])
 (.seq (.region [⟨some 45, .bin .eql (.tmp 25) (.const (.int .i64 1)), none⟩,
  ⟨some 44, .move (.tmp 45), none⟩])
 (.cond (.tmp 44) (.draw [⟨⟨some 46, .move (.tmp 3), none⟩, .pure, 0, 0⟩,
  ⟨⟨some 47, .call 33 [.tmp 46], none⟩, .heavy, 0, 1⟩,
  ⟨⟨some 48, .move (.tmp 0), none⟩, .pure, 0, 1⟩,
  ⟨⟨some 49, .move (.tmp 4), none⟩, .pure, 0, 1⟩,
  ⟨⟨some 50, .idx 6 (.tmp 48) (.tmp 49), none⟩, .pure, 0, 1⟩,
  ⟨⟨some 51, .off 2 (.tmp 50), none⟩, .pure, 0, 1⟩,
  ⟨⟨some 52, .load false 1 (.tmp 51), none⟩, .read, 0, 1⟩,
  ⟨⟨some 53, .bin .eql (.tmp 47) (.tmp 52), none⟩, .pure, 1, 1⟩,
  ⟨⟨some 5, .move (.tmp 53), none⟩, .pure, 1, 1⟩])
 (.seq (.region [⟨some 55, .bin .eql (.tmp 25) (.const (.int .i64 2)), none⟩,
  ⟨some 54, .move (.tmp 55), none⟩])
 (.cond (.tmp 54) (.draw [⟨⟨some 56, .move (.tmp 3), none⟩, .pure, 0, 0⟩,
  ⟨⟨some 57, .call 34 [.tmp 56], none⟩, .heavy, 0, 1⟩,
  ⟨⟨some 58, .move (.tmp 0), none⟩, .pure, 0, 1⟩,
  ⟨⟨some 59, .move (.tmp 4), none⟩, .pure, 0, 1⟩,
  ⟨⟨some 60, .idx 6 (.tmp 58) (.tmp 59), none⟩, .pure, 0, 1⟩,
  ⟨⟨some 61, .off 3 (.tmp 60), none⟩, .pure, 0, 1⟩,
  ⟨⟨some 62, .load false 1 (.tmp 61), none⟩, .read, 0, 1⟩,
  ⟨⟨some 63, .eqB false (.tmp 57) (.tmp 62), none⟩, .pure, 1, 1⟩,
  ⟨⟨some 5, .move (.tmp 63), none⟩, .pure, 1, 1⟩])
 (.seq (.region [⟨some 65, .bin .eql (.tmp 25) (.const (.int .i64 3)), none⟩,
  ⟨some 64, .move (.tmp 65), none⟩])
 (.cond (.tmp 64) (.draw [⟨⟨some 66, .move (.tmp 3), none⟩, .pure, 0, 0⟩,
  ⟨⟨some 67, .call 35 [.tmp 66], none⟩, .heavy, 0, 1⟩,
  ⟨⟨some 68, .move (.tmp 0), none⟩, .pure, 0, 1⟩,
  ⟨⟨some 69, .move (.tmp 4), none⟩, .pure, 0, 1⟩,
  ⟨⟨some 70, .idx 6 (.tmp 68) (.tmp 69), none⟩, .pure, 0, 1⟩,
  ⟨⟨some 71, .off 4 (.tmp 70), none⟩, .pure, 0, 1⟩,
  ⟨⟨some 72, .load false 1 (.tmp 71), none⟩, .read, 0, 1⟩,
  ⟨⟨some 73, .bin .eql (.tmp 67) (.tmp 72), none⟩, .pure, 1, 1⟩,
  ⟨⟨some 5, .move (.tmp 73), none⟩, .pure, 1, 1⟩])
 (.draw [⟨⟨some 26, .move (.tmp 3), none⟩, .pure, 0, 0⟩,
  ⟨⟨some 27, .call 37 [.tmp 26], none⟩, .heavy, 0, 1⟩,
  ⟨⟨some 28, .move (.tmp 0), none⟩, .pure, 0, 1⟩,
  ⟨⟨some 29, .move (.tmp 4), none⟩, .pure, 0, 1⟩,
  ⟨⟨some 30, .idx 6 (.tmp 28) (.tmp 29), none⟩, .pure, 0, 1⟩,
  ⟨⟨some 31, .off 5 (.tmp 30), none⟩, .pure, 0, 1⟩,
  ⟨⟨some 32, .load false 1 (.tmp 31), none⟩, .read, 0, 1⟩,
  ⟨⟨some 33, .call 36 [.tmp 27, .tmp 32], none⟩, .heavy, 1, 2⟩,
  ⟨⟨some 5, .move (.tmp 33), none⟩, .pure, 2, 2⟩])))))))))))
 (.seq (.region [⟨some 74, .move (.tmp 5), none⟩,
  ⟨some 75, .un .not (.tmp 74), none⟩])
 (.cond (.tmp 75) (.seq (.region [⟨some 2, .move (.const (.bool false)), none⟩])
 (.ret))
 (.skip))))))
 (.region [⟨some 18, .move (.tmp 4), none⟩,
  ⟨some 19, .bin .add (.tmp 18) (.const (.int .i64 1)), none⟩,
  ⟨some 4, .move (.tmp 19), none⟩]))
def L9 : LCode :=
 .seq (.region [⟨some 2, .move (.const (.bool false)), none⟩])
 (.seq (.seq (.region [⟨some 6, .move (.tmp 0), none⟩,
  ⟨some 7, .call 10 [.tmp 6], none⟩,
  ⟨some 8, .un .not (.tmp 7), none⟩])
 (.cond (.tmp 8) (.seq (.region [⟨some 2, .move (.const (.bool true)), none⟩])
 (.ret))
 (.skip)))
 (.seq (.region [⟨some 9, .move (.tmp 0), none⟩,
  ⟨some 10, .call 11 [.tmp 9], none⟩,
  ⟨some 11, .call 23 [.tmp 10], none⟩,
  ⟨some 3, .move (.tmp 11), none⟩])
 (.seq (.seq (.region [⟨some 12, .move (.tmp 3), none⟩,
  ⟨some 13, .isNil false (.pointer 75) (.tmp 12), none⟩])
 (.cond (.tmp 13) (.seq (.region [⟨some 2, .move (.const (.bool false)), none⟩])
 (.ret))
 (.skip)))
 (.seq (.seq (.region [⟨some 4, .move (.const (.int .i64 0)), none⟩])
 (.block 0 (.loop L9_1)))
 (.seq (.region [⟨some 76, .move (.tmp 3), none⟩,
  ⟨some 77, .call 30 [.tmp 76], none⟩,
  ⟨some 78, .bin .eql (.tmp 77) (.const (.int .i64 0)), none⟩,
  ⟨some 79, .move (.tmp 78), none⟩,
  ⟨some 80, .move (.tmp 3), (some (79, true))⟩,
  ⟨some 81, .call 25 [.tmp 80], (some (79, true))⟩,
  ⟨some 82, .bin .eql (.tmp 81) (.const (.int .i64 0)), (some (79, true))⟩,
  ⟨some 83, .pick (.tmp 79) (.tmp 82) (.const (.bool false)), none⟩,
  ⟨some 84, .move (.tmp 83), none⟩,
  ⟨some 85, .call 13 [], (some (84, true))⟩,
  ⟨some 86, .pick (.tmp 84) (.tmp 85) (.const (.bool false)), none⟩,
  ⟨some 2, .move (.tmp 86), none⟩])
 (.ret))))))
theorem light9 : Light Try.prog 9 1 87 L9 [.tmp 2] :=
  ⟨Try.f9, _, Try.func9, rfl, rfl, by kernel_rfl, by kernel_rfl, by decide⟩

/-! ### function 10: outrider/outriderlaw02.small -/
def L10_1 : LCode :=
 .seq (.seq (.region [⟨some 7, .move (.tmp 3), none⟩,
  ⟨some 8, .move (.tmp 0), none⟩,
  ⟨some 9, .len (.tmp 8), none⟩,
  ⟨some 10, .bin .lss (.tmp 7) (.tmp 9), none⟩])
 (.cond (.tmp 10) (.skip)
 (.exit 0)))
 (.seq (.block 1 (.seq (.region [⟨some 13, .move (.tmp 0), none⟩,
  ⟨some 14, .move (.tmp 3), none⟩,
  ⟨some 15, .idx 6 (.tmp 13) (.tmp 14), none⟩,
  ⟨some 16, .off 4 (.tmp 15), none⟩,
  ⟨some 17, .load false 1 (.tmp 16), none⟩,
  ⟨some 18, .lenS (.tmp 17), none⟩,
  ⟨some 19, .bin .gtr (.tmp 18) (.const (.int .i64 1024)), none⟩,
  ⟨some 20, .move (.tmp 19), none⟩,
  ⟨some 21, .move (.tmp 0), (some (20, false))⟩,
  ⟨some 22, .move (.tmp 3), (some (20, false))⟩,
  ⟨some 23, .idx 6 (.tmp 21) (.tmp 22), (some (20, false))⟩,
  ⟨some 24, .off 5 (.tmp 23), (some (20, false))⟩,
  ⟨some 25, .load false 1 (.tmp 24), (some (20, false))⟩,
  ⟨some 26, .len (.tmp 25), (some (20, false))⟩,
  ⟨some 27, .bin .gtr (.tmp 26) (.const (.int .i64 256)), (some (20, false))⟩,
  ⟨some 28, .pick (.tmp 20) (.const (.bool true)) (.tmp 27), none⟩])
 (.cond (.tmp 28) (.seq (.region [⟨some 2, .move (.const (.bool false)), none⟩])
 (.ret))
 (.skip))))
 (.region [⟨some 11, .move (.tmp 3), none⟩,
  ⟨some 12, .bin .add (.tmp 11) (.const (.int .i64 1)), none⟩,
  ⟨some 3, .move (.tmp 12), none⟩]))
def L10 : LCode :=
 .seq (.region [⟨some 2, .move (.const (.bool false)), none⟩])
 (.seq (.seq (.region [⟨some 4, .move (.tmp 0), none⟩,
  ⟨some 5, .len (.tmp 4), none⟩,
  ⟨some 6, .bin .gtr (.tmp 5) (.const (.int .i64 64)), none⟩])
 (.cond (.tmp 6) (.seq (.region [⟨some 2, .move (.const (.bool false)), none⟩])
 (.ret))
 (.skip)))
 (.seq (.seq (.region [⟨some 3, .move (.const (.int .i64 0)), none⟩])
 (.block 0 (.loop L10_1)))
 (.seq (.region [⟨some 2, .move (.const (.bool true)), none⟩])
 (.ret))))
theorem light10 : Light Try.prog 10 1 29 L10 [.tmp 2] :=
  ⟨Try.f10, _, Try.func10, rfl, rfl, by kernel_rfl, by kernel_rfl, by decide⟩

/-! ### function 11: outrider/outriderlaw02.laid -/
def L11_1 : LCode :=
 .seq (.seq (.region [⟨some 8, .move (.tmp 4), none⟩,
  ⟨some 9, .move (.tmp 0), none⟩,
  ⟨some 10, .len (.tmp 9), none⟩,
  ⟨some 11, .bin .lss (.tmp 8) (.tmp 10), none⟩])
 (.cond (.tmp 11) (.skip)
 (.exit 0)))
 (.seq (.block 1 (.seq (.region [⟨some 14, .move (.tmp 0), none⟩,
  ⟨some 15, .move (.tmp 4), none⟩,
  ⟨some 16, .idx 6 (.tmp 14) (.tmp 15), none⟩,
  ⟨some 17, .off 0 (.tmp 16), none⟩,
  ⟨some 18, .load false 1 (.tmp 17), none⟩,
  ⟨some 19, .call 32 [.tmp 18], none⟩])
 (.block 2 (.seq (.region [⟨some 28, .bin .eql (.tmp 19) (.const (.int .i64 0)), none⟩,
  ⟨some 27, .move (.tmp 28), none⟩])
 (.cond (.tmp 27) (.region [⟨some 29, .move (.tmp 3), none⟩,
  ⟨some 30, .move (.tmp 0), none⟩,
  ⟨some 31, .move (.tmp 4), none⟩,
  ⟨some 32, .idx 6 (.tmp 30) (.tmp 31), none⟩,
  ⟨some 33, .off 1 (.tmp 32), none⟩,
  ⟨some 34, .load false 1 (.tmp 33), none⟩,
  ⟨some 35, .call 27 [.tmp 29, .tmp 34], none⟩])
 (.seq (.region [⟨some 37, .bin .eql (.tmp 19) (.const (.int .i64 1)), none⟩,
  ⟨some 36, .move (.tmp 37), none⟩])
 (.cond (.tmp 36) (.region [⟨some 38, .move (.tmp 3), none⟩,
  ⟨some 39, .move (.tmp 0), none⟩,
  ⟨some 40, .move (.tmp 4), none⟩,
  ⟨some 41, .idx 6 (.tmp 39) (.tmp 40), none⟩,
  ⟨some 42, .off 2 (.tmp 41), none⟩,
  ⟨some 43, .load false 1 (.tmp 42), none⟩,
  ⟨some 44, .call 38 [.tmp 38, .tmp 43], none⟩])
 (.seq (.region [⟨some 46, .bin .eql (.tmp 19) (.const (.int .i64 2)), none⟩,
  ⟨some 45, .move (.tmp 46), none⟩])
 (.cond (.tmp 45) (.region [⟨some 47, .move (.tmp 3), none⟩,
  ⟨some 48, .move (.tmp 0), none⟩,
  ⟨some 49, .move (.tmp 4), none⟩,
  ⟨some 50, .idx 6 (.tmp 48) (.tmp 49), none⟩,
  ⟨some 51, .off 3 (.tmp 50), none⟩,
  ⟨some 52, .load false 1 (.tmp 51), none⟩,
  ⟨some 53, .call 39 [.tmp 47, .tmp 52], none⟩])
 (.seq (.region [⟨some 55, .bin .eql (.tmp 19) (.const (.int .i64 3)), none⟩,
  ⟨some 54, .move (.tmp 55), none⟩])
 (.cond (.tmp 54) (.region [⟨some 56, .move (.tmp 3), none⟩,
  ⟨some 57, .move (.tmp 0), none⟩,
  ⟨some 58, .move (.tmp 4), none⟩,
  ⟨some 59, .idx 6 (.tmp 57) (.tmp 58), none⟩,
  ⟨some 60, .off 4 (.tmp 59), none⟩,
  ⟨some 61, .load false 1 (.tmp 60), none⟩,
  ⟨some 62, .call 21 [.tmp 56, .tmp 61], none⟩])
 (.region [⟨some 20, .move (.tmp 3), none⟩,
  ⟨some 21, .move (.tmp 0), none⟩,
  ⟨some 22, .move (.tmp 4), none⟩,
  ⟨some 23, .idx 6 (.tmp 21) (.tmp 22), none⟩,
  ⟨some 24, .off 5 (.tmp 23), none⟩,
  ⟨some 25, .load false 1 (.tmp 24), none⟩,
  ⟨some 26, .call 40 [.tmp 20, .tmp 25], none⟩]))))))))))))
 (.region [⟨some 12, .move (.tmp 4), none⟩,
  ⟨some 13, .bin .add (.tmp 12) (.const (.int .i64 1)), none⟩,
  ⟨some 4, .move (.tmp 13), none⟩]))
def L11 : LCode :=
 .seq (.region [⟨some 2, .move (.const (.slice none 0 0)), none⟩])
 (.seq (.region [⟨some 5, .call 20 [], none⟩,
  ⟨some 3, .move (.tmp 5), none⟩])
 (.seq (.seq (.region [⟨some 6, .move (.tmp 3), none⟩,
  ⟨some 7, .isNil false (.pointer 73) (.tmp 6), none⟩])
 (.cond (.tmp 7) (.seq (.region [⟨some 2, .move (.const (.slice none 0 0)), none⟩])
 (.ret))
 (.skip)))
 (.seq (.seq (.region [⟨some 4, .move (.const (.int .i64 0)), none⟩])
 (.block 0 (.loop L11_1)))
 (.seq (.region [⟨some 63, .move (.tmp 3), none⟩,
  ⟨some 64, .call 22 [.tmp 63], none⟩,
  ⟨some 2, .move (.tmp 64), none⟩])
 (.ret)))))
theorem light11 : Light Try.prog 11 1 65 L11 [.tmp 2] :=
  ⟨Try.f11, _, Try.func11, rfl, rfl, by kernel_rfl, by kernel_rfl, by decide⟩

/-! ### function 12: outrider/outriderlaw02.want -/
def L12_1 : LCode :=
 .seq (.seq (.region [⟨some 29, .move (.tmp 6), none⟩,
  ⟨some 30, .move (.tmp 0), none⟩,
  ⟨some 31, .move (.tmp 4), none⟩,
  ⟨some 32, .idx 6 (.tmp 30) (.tmp 31), none⟩,
  ⟨some 33, .off 5 (.tmp 32), none⟩,
  ⟨some 34, .load false 1 (.tmp 33), none⟩,
  ⟨some 35, .len (.tmp 34), none⟩,
  ⟨some 36, .bin .lss (.tmp 29) (.tmp 35), none⟩])
 (.cond (.tmp 36) (.skip)
 (.exit 3)))
 (.seq (.block 4 (.region [⟨some 39, .move (.tmp 3), none⟩,
  ⟨some 40, .move (.tmp 0), none⟩,
  ⟨some 41, .move (.tmp 4), none⟩,
  ⟨some 42, .idx 6 (.tmp 40) (.tmp 41), none⟩,
  ⟨some 43, .off 5 (.tmp 42), none⟩,
  ⟨some 44, .load false 1 (.tmp 43), none⟩,
  ⟨some 45, .move (.tmp 6), none⟩,
  ⟨some 46, .idx 1 (.tmp 44) (.tmp 45), none⟩,
  ⟨some 47, .load false 1 (.tmp 46), none⟩,
  ⟨some 48, .call 42 [.tmp 47], none⟩,
  ⟨some 49, .append 5 1 1 (.tmp 39) (.tmp 48), none⟩,
  ⟨some 3, .move (.tmp 49), none⟩]))
 (.region [⟨some 37, .move (.tmp 6), none⟩,
  ⟨some 38, .bin .add (.tmp 37) (.const (.int .i64 1)), none⟩,
  ⟨some 6, .move (.tmp 38), none⟩]))
def L12_2 : LCode :=
 .seq (.seq (.region [⟨some 7, .move (.tmp 4), none⟩,
  ⟨some 8, .move (.tmp 0), none⟩,
  ⟨some 9, .len (.tmp 8), none⟩,
  ⟨some 10, .bin .lss (.tmp 7) (.tmp 9), none⟩])
 (.cond (.tmp 10) (.skip)
 (.exit 0)))
 (.seq (.block 1 (.seq (.region [⟨some 13, .move (.tmp 0), none⟩,
  ⟨some 14, .move (.tmp 4), none⟩,
  ⟨some 15, .idx 6 (.tmp 13) (.tmp 14), none⟩,
  ⟨some 16, .off 0 (.tmp 15), none⟩,
  ⟨some 17, .load false 1 (.tmp 16), none⟩,
  ⟨some 18, .call 32 [.tmp 17], none⟩])
 (.block 2 (.seq (.region [⟨some 51, .bin .eql (.tmp 18) (.const (.int .i64 0)), none⟩,
  ⟨some 50, .move (.tmp 51), none⟩])
 (.cond (.tmp 50) (.region [⟨some 52, .move (.tmp 3), none⟩,
  ⟨some 53, .move (.tmp 0), none⟩,
  ⟨some 54, .move (.tmp 4), none⟩,
  ⟨some 55, .idx 6 (.tmp 53) (.tmp 54), none⟩,
  ⟨some 56, .off 1 (.tmp 55), none⟩,
  ⟨some 57, .load false 1 (.tmp 56), none⟩,
  ⟨some 58, .call 41 [.tmp 57], none⟩,
  ⟨some 59, .append 5 1 1 (.tmp 52) (.tmp 58), none⟩,
  ⟨some 3, .move (.tmp 59), none⟩])
 (.seq (.region [⟨some 61, .bin .eql (.tmp 18) (.const (.int .i64 1)), none⟩,
  ⟨some 60, .move (.tmp 61), none⟩])
 (.cond (.tmp 60) (.region [⟨some 62, .move (.tmp 3), none⟩,
  ⟨some 63, .move (.tmp 0), none⟩,
  ⟨some 64, .move (.tmp 4), none⟩,
  ⟨some 65, .idx 6 (.tmp 63) (.tmp 64), none⟩,
  ⟨some 66, .off 2 (.tmp 65), none⟩,
  ⟨some 67, .load false 1 (.tmp 66), none⟩,
  ⟨some 68, .call 42 [.tmp 67], none⟩,
  ⟨some 69, .append 5 1 1 (.tmp 62) (.tmp 68), none⟩,
  ⟨some 3, .move (.tmp 69), none⟩])
 (.seq (.region [⟨some 71, .bin .eql (.tmp 18) (.const (.int .i64 2)), none⟩,
  ⟨some 70, .move (.tmp 71), none⟩])
 (.cond (.tmp 70) (.seq (.region [⟨some 5, .move (.const (.int .u8 0)), none⟩])
 (.seq (.seq (.region [⟨some 72, .move (.tmp 0), none⟩,
  ⟨some 73, .move (.tmp 4), none⟩,
  ⟨some 74, .idx 6 (.tmp 72) (.tmp 73), none⟩,
  ⟨some 75, .off 3 (.tmp 74), none⟩,
  ⟨some 76, .load false 1 (.tmp 75), none⟩])
 (.cond (.tmp 76) (.region [⟨some 5, .move (.const (.int .u8 1)), none⟩])
 (.skip)))
 (.region [⟨some 77, .move (.tmp 3), none⟩,
  ⟨some 78, .move (.tmp 5), none⟩,
  ⟨some 79, .buildSlice 5 1 1 [.int .u8 0] [(0, 1, .tmp 78)], none⟩,
  ⟨some 80, .append 5 1 1 (.tmp 77) (.tmp 79), none⟩,
  ⟨some 3, .move (.tmp 80), none⟩])))
 (.seq (.region [⟨some 82, .bin .eql (.tmp 18) (.const (.int .i64 3)), none⟩,
  ⟨some 81, .move (.tmp 82), none⟩])
 (.cond (.tmp 81) (.seq (.region [⟨some 83, .move (.tmp 3), none⟩,
  ⟨some 84, .move (.tmp 0), none⟩,
  ⟨some 85, .move (.tmp 4), none⟩,
  ⟨some 86, .idx 6 (.tmp 84) (.tmp 85), none⟩,
  ⟨some 87, .off 4 (.tmp 86), none⟩,
  ⟨some 88, .load false 1 (.tmp 87), none⟩,
  ⟨some 89, .lenS (.tmp 88), none⟩,
  ⟨some 90, .conv .u64 (.tmp 89), none⟩,
  ⟨some 91, .call 41 [.tmp 90], none⟩,
  ⟨some 92, .append 5 1 1 (.tmp 83) (.tmp 91), none⟩,
  ⟨some 3, .move (.tmp 92), none⟩])
 (.region [⟨some 93, .move (.tmp 3), none⟩,
  ⟨some 94, .move (.tmp 0), none⟩,
  ⟨some 95, .move (.tmp 4), none⟩,
  ⟨some 96, .idx 6 (.tmp 94) (.tmp 95), none⟩,
  ⟨some 97, .off 4 (.tmp 96), none⟩,
  ⟨some 98, .load false 1 (.tmp 97), none⟩,
  ⟨some 99, .append 5 1 1 (.tmp 93) (.tmp 98), none⟩,
  ⟨some 3, .move (.tmp 99), none⟩]))
 (.seq (.region [⟨some 19, .move (.tmp 3), none⟩,
  ⟨some 20, .move (.tmp 0), none⟩,
  ⟨some 21, .move (.tmp 4), none⟩,
  ⟨some 22, .idx 6 (.tmp 20) (.tmp 21), none⟩,
  ⟨some 23, .off 5 (.tmp 22), none⟩,
  ⟨some 24, .load false 1 (.tmp 23), none⟩,
  ⟨some 25, .len (.tmp 24), none⟩,
  ⟨some 26, .conv .u64 (.tmp 25), none⟩,
  ⟨some 27, .call 41 [.tmp 26], none⟩,
  ⟨some 28, .append 5 1 1 (.tmp 19) (.tmp 27), none⟩,
  ⟨some 3, .move (.tmp 28), none⟩])
 (.seq (.region [⟨some 6, .move (.const (.int .i64 0)), none⟩])
 (.block 3 (.loop L12_1)))))))))))))))
 (.region [⟨some 11, .move (.tmp 4), none⟩,
  ⟨some 12, .bin .add (.tmp 11) (.const (.int .i64 1)), none⟩,
  ⟨some 4, .move (.tmp 12), none⟩]))
def L12 : LCode :=
 .seq (.region [⟨some 2, .move (.const (.slice none 0 0)), none⟩])
 (.seq (.region [⟨some 3, .move (.const (.slice none 0 0)), none⟩])
 (.seq (.seq (.region [⟨some 4, .move (.const (.int .i64 0)), none⟩])
 (.block 0 (.loop L12_2)))
 (.seq (.region [⟨some 100, .move (.tmp 3), none⟩,
  ⟨some 2, .move (.tmp 100), none⟩])
 (.ret))))
theorem light12 : Light Try.prog 12 1 101 L12 [.tmp 2] :=
  ⟨Try.f12, _, Try.func12, rfl, rfl, by kernel_rfl, by kernel_rfl, by decide⟩

/-! ### function 13: outrider/outriderlaw02.alive -/
def L13 : LCode :=
 .seq (.region [⟨some 0, .move (.const (.bool false)), none⟩])
 (.seq (.region [⟨some 4, .call 20 [], none⟩,
  ⟨some 1, .move (.tmp 4), none⟩])
 (.seq (.seq (.region [⟨some 5, .move (.tmp 1), none⟩,
  ⟨some 6, .isNil false (.pointer 73) (.tmp 5), none⟩])
 (.cond (.tmp 6) (.seq (.region [⟨some 0, .move (.const (.bool false)), none⟩])
 (.ret))
 (.skip)))
 (.seq (.region [⟨some 7, .move (.tmp 1), none⟩,
  ⟨some 8, .call 27 [.tmp 7, .const (.int .u64 300)], none⟩])
 (.seq (.region [⟨some 9, .move (.tmp 1), none⟩,
  ⟨some 10, .call 38 [.tmp 9, .const (.int .i64 (-2))], none⟩])
 (.seq (.region [⟨some 11, .move (.tmp 1), none⟩,
  ⟨some 12, .call 21 [.tmp 11, .const (.string ⟨#[97, 98]⟩)], none⟩])
 (.seq (.region [⟨some 14, .buildSlice 5 1 1 [.int .u8 0] [(0, 1, .const (.int .u8 7))], none⟩,
  ⟨some 15, .call 14 [.tmp 14], none⟩,
  ⟨some 13, .move (.tmp 15), none⟩,
  ⟨some 16, .extract (.tmp 13) 0, none⟩,
  ⟨some 17, .extract (.tmp 13) 1, none⟩,
  ⟨some 2, .move (.tmp 16), none⟩,
  ⟨some 3, .move (.tmp 17), none⟩])
 (.seq (.region [⟨some 18, .move (.tmp 1), none⟩,
  ⟨some 19, .call 22 [.tmp 18], none⟩,
  ⟨some 20, .toStr (.tmp 19), none⟩,
  ⟨some 21, .bin .eql (.tmp 20) (.const (.string ⟨#[172, 2, 3, 2, 97, 98]⟩)), none⟩,
  ⟨some 22, .move (.tmp 21), none⟩,
  ⟨some 23, .move (.tmp 3), (some (22, true))⟩,
  ⟨some 24, .bin .eql (.tmp 23) (.const (.int .i64 0)), (some (22, true))⟩,
  ⟨some 25, .pick (.tmp 22) (.tmp 24) (.const (.bool false)), none⟩,
  ⟨some 26, .move (.tmp 25), none⟩,
  ⟨some 27, .move (.tmp 2), (some (26, true))⟩,
  ⟨some 28, .len (.tmp 27), (some (26, true))⟩,
  ⟨some 29, .bin .eql (.tmp 28) (.const (.int .i64 17)), (some (26, true))⟩,
  ⟨some 30, .pick (.tmp 26) (.tmp 29) (.const (.bool false)), none⟩,
  ⟨some 31, .move (.tmp 30), none⟩,
  ⟨some 32, .call 18 [.const (.slice none 0 0)], (some (31, true))⟩,
  ⟨some 33, .bin .eql (.tmp 32) (.const (.int .u64 14695981039346656037)), (some (31, true))⟩,
  ⟨some 34, .pick (.tmp 31) (.tmp 33) (.const (.bool false)), none⟩,
  ⟨some 0, .move (.tmp 34), none⟩])
 (.ret))))))))
theorem light13 : Light Try.prog 13 0 35 L13 [.tmp 0] :=
  ⟨Try.f13, _, Try.func13, rfl, rfl, by kernel_rfl, by kernel_rfl, by decide⟩

/-! ### function 14: outrider/pack.Seal -/
def L14 : LCode :=
 .seq (.region [⟨some 2, .move (.const (.slice none 0 0)), none⟩,
  ⟨some 3, .move (.const (.int .i64 0)), none⟩])
 (.seq (.seq (.region [⟨some 6, .move (.tmp 0), none⟩,
  ⟨some 7, .len (.tmp 6), none⟩,
  ⟨some 8, .bin .gtr (.tmp 7) (.const (.int .i64 1048576)), none⟩])
 (.cond (.tmp 8) (.seq (.region [⟨some 2, .move (.const (.slice none 0 0)), none⟩,
  ⟨some 3, .move (.const (.int .i64 23)), none⟩])
 (.ret))
 (.skip)))
 (.seq (.region [⟨some 9, .call 43 [], none⟩,
  ⟨some 4, .new 68 4 [.int .u8 0, .int .u8 0, .int .u8 0, .int .u8 0], none⟩,
  ⟨none, .store 4 (.tmp 4) (.tmp 9), none⟩])
 (.seq (.region [⟨some 10, .sliceArr 4 1 (.tmp 4) none none none, none⟩,
  ⟨some 11, .append 5 1 1 (.const (.slice none 0 0)) (.tmp 10), none⟩,
  ⟨some 5, .move (.tmp 11), none⟩])
 (.seq (.region [⟨some 12, .move (.tmp 5), none⟩,
  ⟨some 13, .move (.tmp 0), none⟩,
  ⟨some 14, .len (.tmp 13), none⟩,
  ⟨some 15, .conv .u64 (.tmp 14), none⟩,
  ⟨some 16, .call 44 [.tmp 12, .tmp 15, .const (.int .i64 4)], none⟩,
  ⟨some 5, .move (.tmp 16), none⟩])
 (.seq (.region [⟨some 17, .move (.tmp 5), none⟩,
  ⟨some 18, .move (.tmp 0), none⟩,
  ⟨some 19, .call 18 [.tmp 18], none⟩,
  ⟨some 20, .call 44 [.tmp 17, .tmp 19, .const (.int .i64 8)], none⟩,
  ⟨some 5, .move (.tmp 20), none⟩])
 (.seq (.region [⟨some 21, .move (.tmp 5), none⟩,
  ⟨some 22, .move (.tmp 0), none⟩,
  ⟨some 23, .append 5 1 1 (.tmp 21) (.tmp 22), none⟩,
  ⟨some 2, .move (.tmp 23), none⟩,
  ⟨some 3, .move (.const (.int .i64 0)), none⟩])
 (.ret)))))))
theorem light14 : Light Try.prog 14 1 24 L14 [.tmp 2, .tmp 3] :=
  ⟨Try.f14, _, Try.func14, rfl, rfl, by kernel_rfl, by kernel_rfl, by decide⟩

/-! ### function 15: outrider/outriderref02.Seal -/
def L15 : LCode :=
 .seq (.region [⟨some 2, .move (.const (.slice none 0 0)), none⟩,
  ⟨some 3, .move (.const (.int .i64 0)), none⟩])
 (.seq (.seq (.region [⟨some 5, .move (.tmp 0), none⟩,
  ⟨some 6, .len (.tmp 5), none⟩,
  ⟨some 7, .bin .gtr (.tmp 6) (.const (.int .i64 1048576)), none⟩])
 (.cond (.tmp 7) (.seq (.region [⟨some 2, .move (.const (.slice none 0 0)), none⟩,
  ⟨some 3, .move (.const (.int .i64 23)), none⟩])
 (.ret))
 (.skip)))
 (.seq (.region [⟨some 8, .buildSlice 5 1 4 [.int .u8 0] [(0, 1, .const (.int .u8 111)), (1, 1, .const (.int .u8 117)), (2, 1, .const (.int .u8 116)), (3, 1, .const (.int .u8 114))], none⟩,
  ⟨some 9, .mark (.tmp 8), none⟩,
  ⟨some 4, .move (.tmp 9), none⟩])
 (.seq (.region [⟨some 10, .move (.tmp 4), none⟩,
  ⟨some 11, .move (.tmp 0), none⟩,
  ⟨some 12, .len (.tmp 11), none⟩,
  ⟨some 13, .conv .u64 (.tmp 12), none⟩,
  ⟨some 14, .call 45 [.tmp 13, .const (.int .i64 4)], none⟩,
  ⟨some 15, .append 5 1 1 (.tmp 10) (.tmp 14), none⟩,
  ⟨some 4, .move (.tmp 15), none⟩])
 (.seq (.region [⟨some 16, .move (.tmp 4), none⟩,
  ⟨some 17, .move (.tmp 0), none⟩,
  ⟨some 18, .call 19 [.tmp 17], none⟩,
  ⟨some 19, .call 45 [.tmp 18, .const (.int .i64 8)], none⟩,
  ⟨some 20, .append 5 1 1 (.tmp 16) (.tmp 19), none⟩,
  ⟨some 4, .move (.tmp 20), none⟩])
 (.seq (.region [⟨some 21, .move (.tmp 4), none⟩,
  ⟨some 22, .move (.tmp 0), none⟩,
  ⟨some 23, .append 5 1 1 (.tmp 21) (.tmp 22), none⟩,
  ⟨some 2, .move (.tmp 23), none⟩,
  ⟨some 3, .move (.const (.int .i64 0)), none⟩])
 (.ret))))))
theorem light15 : Light Try.prog 15 1 24 L15 [.tmp 2, .tmp 3] :=
  ⟨Try.f15, _, Try.func15, rfl, rfl, by kernel_rfl, by kernel_rfl, by decide⟩

/-! ### function 16: outrider/pack.Open -/
def L16 : LCode :=
 .seq (.region [⟨some 2, .move (.const (.slice none 0 0)), none⟩,
  ⟨some 3, .move (.const (.int .i64 0)), none⟩])
 (.seq (.seq (.region [⟨some 5, .move (.tmp 0), none⟩,
  ⟨some 6, .len (.tmp 5), none⟩,
  ⟨some 7, .bin .lss (.tmp 6) (.const (.int .i64 16)), none⟩])
 (.cond (.tmp 7) (.seq (.region [⟨some 2, .move (.const (.slice none 0 0)), none⟩,
  ⟨some 3, .move (.const (.int .i64 20)), none⟩])
 (.ret))
 (.skip)))
 (.seq (.seq (.draw [⟨⟨some 8, .move (.tmp 0), none⟩, .pure, 0, 1⟩,
  ⟨⟨some 9, .slice 1 (.tmp 8) none (some (.const (.int .i64 4))) none, none⟩, .pure, 0, 1⟩,
  ⟨⟨some 10, .arr 4 (.tmp 9), none⟩, .pure, 0, 1⟩,
  ⟨⟨some 11, .load true 4 (.tmp 10), none⟩, .read, 0, 1⟩,
  ⟨⟨some 12, .call 43 [], none⟩, .heavy, 0, 1⟩,
  ⟨⟨some 13, .eqR true 68 (.tmp 11) (.tmp 12), none⟩, .pure, 1, 1⟩,
  ⟨⟨some 14, .move (.tmp 13), none⟩, .pure, 1, 1⟩,
  ⟨⟨some 15, .move (.tmp 0), (some (14, false))⟩, .pure, 1, 1⟩,
  ⟨⟨some 16, .slice 1 (.tmp 15) (some (.const (.int .i64 4))) (some (.const (.int .i64 8))) none, (some (14, false))⟩, .pure, 1, 1⟩,
  ⟨⟨some 17, .call 46 [.tmp 16], (some (14, false))⟩, .heavy, 1, 2⟩,
  ⟨⟨some 18, .move (.tmp 0), (some (14, false))⟩, .pure, 1, 2⟩,
  ⟨⟨some 19, .len (.tmp 18), (some (14, false))⟩, .pure, 1, 2⟩,
  ⟨⟨some 20, .bin .sub (.tmp 19) (.const (.int .i64 16)), (some (14, false))⟩, .pure, 1, 2⟩,
  ⟨⟨some 21, .conv .u64 (.tmp 20), (some (14, false))⟩, .pure, 1, 2⟩,
  ⟨⟨some 22, .bin .neq (.tmp 17) (.tmp 21), (some (14, false))⟩, .pure, 2, 2⟩,
  ⟨⟨some 23, .pick (.tmp 14) (.const (.bool true)) (.tmp 22), none⟩, .pure, 2, 2⟩,
  ⟨⟨some 24, .move (.tmp 23), none⟩, .pure, 2, 2⟩,
  ⟨⟨some 25, .move (.tmp 0), (some (24, false))⟩, .pure, 2, 2⟩,
  ⟨⟨some 26, .len (.tmp 25), (some (24, false))⟩, .pure, 2, 2⟩,
  ⟨⟨some 27, .bin .sub (.tmp 26) (.const (.int .i64 16)), (some (24, false))⟩, .pure, 2, 2⟩,
  ⟨⟨some 28, .bin .gtr (.tmp 27) (.const (.int .i64 1048576)), (some (24, false))⟩, .pure, 2, 2⟩,
  ⟨⟨some 29, .pick (.tmp 24) (.const (.bool true)) (.tmp 28), none⟩, .pure, 2, 2⟩])
 (.cond (.tmp 29) (.seq (.region [⟨some 2, .move (.const (.slice none 0 0)), none⟩,
  ⟨some 3, .move (.const (.int .i64 21)), none⟩])
 (.ret))
 (.skip)))
 (.seq (.region [⟨some 30, .move (.tmp 0), none⟩,
  ⟨some 31, .slice 1 (.tmp 30) (some (.const (.int .i64 16))) none none, none⟩,
  ⟨some 32, .append 5 1 1 (.const (.slice none 0 0)) (.tmp 31), none⟩,
  ⟨some 4, .move (.tmp 32), none⟩])
 (.seq (.seq (.region [⟨some 33, .move (.tmp 0), none⟩,
  ⟨some 34, .slice 1 (.tmp 33) (some (.const (.int .i64 8))) (some (.const (.int .i64 16))) none, none⟩,
  ⟨some 35, .call 46 [.tmp 34], none⟩,
  ⟨some 36, .move (.tmp 4), none⟩,
  ⟨some 37, .call 18 [.tmp 36], none⟩,
  ⟨some 38, .bin .neq (.tmp 35) (.tmp 37), none⟩])
 (.cond (.tmp 38) (.seq (.region [⟨some 2, .move (.const (.slice none 0 0)), none⟩,
  ⟨some 3, .move (.const (.int .i64 22)), none⟩])
 (.ret))
 (.skip)))
 (.seq (.region [⟨some 39, .move (.tmp 4), none⟩,
  ⟨some 2, .move (.tmp 39), none⟩,
  ⟨some 3, .move (.const (.int .i64 0)), none⟩])
 (.ret))))))
theorem light16 : Light Try.prog 16 1 40 L16 [.tmp 2, .tmp 3] :=
  ⟨Try.f16, _, Try.func16, rfl, rfl, by kernel_rfl, by kernel_rfl, by decide⟩

/-! ### function 17: outrider/outriderref02.Open -/
def L17 : LCode :=
 .seq (.region [⟨some 2, .move (.const (.slice none 0 0)), none⟩,
  ⟨some 3, .move (.const (.int .i64 0)), none⟩])
 (.seq (.seq (.region [⟨some 6, .move (.tmp 0), none⟩,
  ⟨some 7, .len (.tmp 6), none⟩,
  ⟨some 8, .bin .lss (.tmp 7) (.const (.int .i64 16)), none⟩])
 (.cond (.tmp 8) (.seq (.region [⟨some 2, .move (.const (.slice none 0 0)), none⟩,
  ⟨some 3, .move (.const (.int .i64 20)), none⟩])
 (.ret))
 (.skip)))
 (.seq (.region [⟨some 10, .move (.tmp 0), none⟩,
  ⟨some 11, .slice 1 (.tmp 10) (some (.const (.int .i64 16))) none none, none⟩,
  ⟨some 12, .call 15 [.tmp 11], none⟩,
  ⟨some 9, .move (.tmp 12), none⟩,
  ⟨some 13, .extract (.tmp 9) 0, none⟩,
  ⟨some 14, .extract (.tmp 9) 1, none⟩,
  ⟨some 4, .move (.tmp 13), none⟩,
  ⟨some 5, .move (.tmp 14), none⟩])
 (.seq (.seq (.draw [⟨⟨some 15, .move (.tmp 5), none⟩, .pure, 0, 0⟩,
  ⟨⟨some 16, .bin .neq (.tmp 15) (.const (.int .i64 0)), none⟩, .pure, 0, 0⟩,
  ⟨⟨some 17, .move (.tmp 16), none⟩, .pure, 0, 0⟩,
  ⟨⟨some 18, .move (.tmp 0), (some (17, false))⟩, .pure, 0, 0⟩,
  ⟨⟨some 19, .slice 1 (.tmp 18) none (some (.const (.int .i64 8))) none, (some (17, false))⟩, .pure, 0, 0⟩,
  ⟨⟨some 20, .toStr (.tmp 19), (some (17, false))⟩, .read, 0, 0⟩,
  ⟨⟨some 21, .move (.tmp 4), (some (17, false))⟩, .pure, 0, 0⟩,
  ⟨⟨some 22, .slice 1 (.tmp 21) none (some (.const (.int .i64 8))) none, (some (17, false))⟩, .pure, 0, 0⟩,
  ⟨⟨some 23, .toStr (.tmp 22), (some (17, false))⟩, .read, 0, 0⟩,
  ⟨⟨some 24, .bin .neq (.tmp 20) (.tmp 23), (some (17, false))⟩, .pure, 0, 0⟩,
  ⟨⟨some 25, .pick (.tmp 17) (.const (.bool true)) (.tmp 24), none⟩, .pure, 0, 0⟩])
 (.cond (.tmp 25) (.seq (.region [⟨some 2, .move (.const (.slice none 0 0)), none⟩,
  ⟨some 3, .move (.const (.int .i64 21)), none⟩])
 (.ret))
 (.skip)))
 (.seq (.seq (.region [⟨some 26, .move (.tmp 0), none⟩,
  ⟨some 27, .toStr (.tmp 26), none⟩,
  ⟨some 28, .move (.tmp 4), none⟩,
  ⟨some 29, .toStr (.tmp 28), none⟩,
  ⟨some 30, .bin .neq (.tmp 27) (.tmp 29), none⟩])
 (.cond (.tmp 30) (.seq (.region [⟨some 2, .move (.const (.slice none 0 0)), none⟩,
  ⟨some 3, .move (.const (.int .i64 22)), none⟩])
 (.ret))
 (.skip)))
 (.seq (.region [⟨some 31, .buildSlice 5 1 0 [.int .u8 0] [], none⟩,
  ⟨some 32, .move (.tmp 0), none⟩,
  ⟨some 33, .slice 1 (.tmp 32) (some (.const (.int .i64 16))) none none, none⟩,
  ⟨some 34, .append 5 1 1 (.tmp 31) (.tmp 33), none⟩,
  ⟨some 2, .move (.tmp 34), none⟩,
  ⟨some 3, .move (.const (.int .i64 0)), none⟩])
 (.ret))))))
theorem light17 : Light Try.prog 17 1 35 L17 [.tmp 2, .tmp 3] :=
  ⟨Try.f17, _, Try.func17, rfl, rfl, by kernel_rfl, by kernel_rfl, by decide⟩

/-! ### function 18: outrider/pack.Sum -/
def L18_1 : LCode :=
 .seq (.region [⟨some 9, .bin .lss (.tmp 8) (.tmp 7), none⟩])
 (.seq (.cond (.tmp 9) (.skip)
 (.exit 0))
 (.seq (.block 1 (.seq (.region [⟨some 10, .idx 1 (.tmp 6) (.tmp 8), none⟩,
  ⟨some 11, .load false 1 (.tmp 10), none⟩,
  ⟨some 5, .move (.tmp 11), none⟩])
 (.region [⟨some 12, .move (.tmp 3), none⟩,
  ⟨some 13, .move (.tmp 5), none⟩,
  ⟨some 14, .conv .u64 (.tmp 13), none⟩,
  ⟨some 15, .bin .xor (.tmp 12) (.tmp 14), none⟩,
  ⟨some 16, .bin .mul (.tmp 15) (.const (.int .u64 1099511628211)), none⟩,
  ⟨some 3, .move (.tmp 16), none⟩])))
 (.region [⟨some 17, .bin .add (.tmp 8) (.const (.int .i64 1)), none⟩,
  ⟨some 8, .move (.tmp 17), none⟩])))
def L18 : LCode :=
 .seq (.region [⟨some 2, .move (.const (.int .u64 0)), none⟩])
 (.seq (.region [⟨some 3, .move (.const (.int .u64 14695981039346656037)), none⟩])
 (.seq (.seq (.region [⟨some 6, .move (.tmp 0), none⟩,
  ⟨some 7, .len (.tmp 6), none⟩,
  ⟨some 8, .move (.const (.int .i64 0)), none⟩])
 (.block 0 (.loop L18_1)))
 (.seq (.region [⟨some 18, .move (.tmp 3), none⟩,
  ⟨some 2, .move (.tmp 18), none⟩])
 (.ret))))
theorem light18 : Light Try.prog 18 1 19 L18 [.tmp 2] :=
  ⟨Try.f18, _, Try.func18, rfl, rfl, by kernel_rfl, by kernel_rfl, by decide⟩

/-! ### function 19: outrider/outriderref02.Sum -/
def L19_1 : LCode :=
 .seq (.seq (.region [⟨some 5, .move (.tmp 4), none⟩,
  ⟨some 6, .move (.tmp 0), none⟩,
  ⟨some 7, .len (.tmp 6), none⟩,
  ⟨some 8, .bin .lss (.tmp 5) (.tmp 7), none⟩])
 (.cond (.tmp 8) (.skip)
 (.exit 0)))
 (.seq (.block 1 (.seq (.region [⟨some 11, .move (.tmp 3), none⟩,
  ⟨some 12, .move (.tmp 0), none⟩,
  ⟨some 13, .move (.tmp 4), none⟩,
  ⟨some 14, .idx 1 (.tmp 12) (.tmp 13), none⟩,
  ⟨some 15, .load false 1 (.tmp 14), none⟩,
  ⟨some 16, .conv .u64 (.tmp 15), none⟩,
  ⟨some 17, .bin .xor (.tmp 11) (.tmp 16), none⟩,
  ⟨some 3, .move (.tmp 17), none⟩])
 (.region [⟨some 18, .move (.tmp 3), none⟩,
  ⟨some 19, .bin .mul (.tmp 18) (.const (.int .u64 1099511628211)), none⟩,
  ⟨some 3, .move (.tmp 19), none⟩])))
 (.region [⟨some 9, .move (.tmp 4), none⟩,
  ⟨some 10, .bin .add (.tmp 9) (.const (.int .i64 1)), none⟩,
  ⟨some 4, .move (.tmp 10), none⟩]))
def L19 : LCode :=
 .seq (.region [⟨some 2, .move (.const (.int .u64 0)), none⟩])
 (.seq (.region [⟨some 3, .move (.const (.int .u64 14695981039346656037)), none⟩])
 (.seq (.seq (.region [⟨some 4, .move (.const (.int .i64 0)), none⟩])
 (.block 0 (.loop L19_1)))
 (.seq (.region [⟨some 20, .move (.tmp 3), none⟩,
  ⟨some 2, .move (.tmp 20), none⟩])
 (.ret))))
theorem light19 : Light Try.prog 19 1 21 L19 [.tmp 2] :=
  ⟨Try.f19, _, Try.func19, rfl, rfl, by kernel_rfl, by kernel_rfl, by decide⟩

/-! ### function 20: outrider/pack.New -/
def L20 : LCode :=
 .seq (.region [⟨some 0, .move (.const (.pointer none)), none⟩])
 (.seq (.region [⟨some 1, .build [.slice none 0 0] [], none⟩,
  ⟨some 2, .box 73 1 (.tmp 1), none⟩,
  ⟨some 0, .move (.tmp 2), none⟩])
 (.ret))
theorem light20 : Light Try.prog 20 0 3 L20 [.tmp 0] :=
  ⟨Try.f20, _, Try.func20, rfl, rfl, by kernel_rfl, by kernel_rfl, by decide⟩

/-! ### function 21: (*outrider/pack.Writer).Text -/
def L21 : LCode :=
 .seq (.region [⟨some 4, .move (.tmp 0), none⟩,
  ⟨some 5, .move (.tmp 1), none⟩,
  ⟨some 6, .lenS (.tmp 5), none⟩,
  ⟨some 7, .conv .u64 (.tmp 6), none⟩,
  ⟨some 8, .call 27 [.tmp 4, .tmp 7], none⟩])
 (.region [⟨some 9, .move (.tmp 0), none⟩,
  ⟨some 10, .move (.tmp 0), none⟩,
  ⟨some 11, .nilCheck (.tmp 10), none⟩,
  ⟨some 12, .off 0 (.tmp 11), none⟩,
  ⟨some 13, .load false 1 (.tmp 12), none⟩,
  ⟨some 14, .move (.tmp 1), none⟩,
  ⟨some 15, .append 5 1 1 (.tmp 13) (.tmp 14), none⟩,
  ⟨some 16, .nilCheck (.tmp 9), none⟩,
  ⟨some 17, .off 0 (.tmp 16), none⟩,
  ⟨none, .store 1 (.tmp 17) (.tmp 15), none⟩])
theorem light21 : Light Try.prog 21 2 18 L21 [] :=
  ⟨Try.f21, _, Try.func21, rfl, rfl, by kernel_rfl, by kernel_rfl, by decide⟩

/-! ### function 22: (*outrider/pack.Writer).Bytes -/
def L22 : LCode :=
 .seq (.region [⟨some 2, .move (.const (.slice none 0 0)), none⟩])
 (.seq (.region [⟨some 3, .move (.tmp 0), none⟩,
  ⟨some 4, .nilCheck (.tmp 3), none⟩,
  ⟨some 5, .off 0 (.tmp 4), none⟩,
  ⟨some 6, .load false 1 (.tmp 5), none⟩,
  ⟨some 7, .append 5 1 1 (.const (.slice none 0 0)) (.tmp 6), none⟩,
  ⟨some 2, .move (.tmp 7), none⟩])
 (.ret))
theorem light22 : Light Try.prog 22 1 8 L22 [.tmp 2] :=
  ⟨Try.f22, _, Try.func22, rfl, rfl, by kernel_rfl, by kernel_rfl, by decide⟩

/-! ### function 23: outrider/pack.Read -/
def L23 : LCode :=
 .seq (.region [⟨some 2, .move (.const (.pointer none)), none⟩])
 (.seq (.region [⟨some 3, .move (.tmp 0), none⟩,
  ⟨some 4, .append 5 1 1 (.const (.slice none 0 0)) (.tmp 3), none⟩,
  ⟨some 5, .build [.slice none 0 0, .int .i64 0, .int .i64 0] [(0, 1, .tmp 4)], none⟩,
  ⟨some 6, .box 75 3 (.tmp 5), none⟩,
  ⟨some 2, .move (.tmp 6), none⟩])
 (.ret))
theorem light23 : Light Try.prog 23 1 7 L23 [.tmp 2] :=
  ⟨Try.f23, _, Try.func23, rfl, rfl, by kernel_rfl, by kernel_rfl, by decide⟩

/-! ### function 24: (*outrider/pack.Reader).Uint -/
def L24_1 : LCode :=
 .seq (.region [⟨some 7, .bin .lss (.tmp 6) (.const (.int .i64 10)), none⟩])
 (.seq (.cond (.tmp 7) (.skip)
 (.exit 0))
 (.seq (.block 1 (.seq (.region [⟨some 8, .move (.tmp 6), none⟩,
  ⟨some 4, .move (.tmp 8), none⟩])
 (.seq (.region [⟨some 9, .move (.tmp 0), none⟩,
  ⟨some 10, .call 47 [.tmp 9], none⟩,
  ⟨some 5, .move (.tmp 10), none⟩])
 (.seq (.seq (.region [⟨some 11, .move (.tmp 0), none⟩,
  ⟨some 12, .nilCheck (.tmp 11), none⟩,
  ⟨some 13, .off 2 (.tmp 12), none⟩,
  ⟨some 14, .load false 1 (.tmp 13), none⟩,
  ⟨some 15, .bin .neq (.tmp 14) (.const (.int .i64 0)), none⟩])
 (.cond (.tmp 15) (.seq (.region [⟨some 2, .move (.const (.int .u64 0)), none⟩])
 (.ret))
 (.skip)))
 (.seq (.seq (.region [⟨some 16, .move (.tmp 4), none⟩,
  ⟨some 17, .bin .gtr (.tmp 16) (.const (.int .i64 0)), none⟩,
  ⟨some 18, .move (.tmp 17), none⟩,
  ⟨some 19, .move (.tmp 5), (some (18, true))⟩,
  ⟨some 20, .bin .eql (.tmp 19) (.const (.int .u8 0)), (some (18, true))⟩,
  ⟨some 21, .pick (.tmp 18) (.tmp 20) (.const (.bool false)), none⟩,
  ⟨some 22, .move (.tmp 21), none⟩,
  ⟨some 23, .move (.tmp 4), (some (22, false))⟩,
  ⟨some 24, .bin .eql (.tmp 23) (.const (.int .i64 9)), (some (22, false))⟩,
  ⟨some 25, .move (.tmp 24), (some (22, false))⟩,
  ⟨some 26, .move (.tmp 5), (some (25, true))⟩,
  ⟨some 27, .bin .gtr (.tmp 26) (.const (.int .u8 1)), (some (25, true))⟩,
  ⟨some 28, .pick (.tmp 25) (.tmp 27) (.const (.bool false)), (some (22, false))⟩,
  ⟨some 29, .pick (.tmp 22) (.const (.bool true)) (.tmp 28), none⟩])
 (.cond (.tmp 29) (.seq (.region [⟨some 30, .move (.tmp 0), none⟩,
  ⟨some 31, .call 48 [.tmp 30, .const (.int .i64 21)], none⟩])
 (.seq (.region [⟨some 2, .move (.const (.int .u64 0)), none⟩])
 (.ret)))
 (.skip)))
 (.seq (.region [⟨some 32, .move (.tmp 3), none⟩,
  ⟨some 33, .move (.tmp 5), none⟩,
  ⟨some 34, .bin .and (.tmp 33) (.const (.int .u8 127)), none⟩,
  ⟨some 35, .conv .u64 (.tmp 34), none⟩,
  ⟨some 36, .move (.tmp 4), none⟩,
  ⟨some 37, .bin .mul (.const (.int .i64 7)) (.tmp 36), none⟩,
  ⟨some 38, .bin .shl (.tmp 35) (.tmp 37), none⟩,
  ⟨some 39, .bin .or (.tmp 32) (.tmp 38), none⟩,
  ⟨some 3, .move (.tmp 39), none⟩])
 (.seq (.region [⟨some 40, .move (.tmp 5), none⟩,
  ⟨some 41, .bin .lss (.tmp 40) (.const (.int .u8 128)), none⟩])
 (.cond (.tmp 41) (.seq (.region [⟨some 42, .move (.tmp 3), none⟩,
  ⟨some 2, .move (.tmp 42), none⟩])
 (.ret))
 (.skip)))))))))
 (.region [⟨some 43, .bin .add (.tmp 6) (.const (.int .i64 1)), none⟩,
  ⟨some 6, .move (.tmp 43), none⟩])))
def L24 : LCode :=
 .seq (.region [⟨some 2, .move (.const (.int .u64 0)), none⟩])
 (.seq (.region [⟨some 3, .move (.const (.int .u64 0)), none⟩])
 (.seq (.seq (.region [⟨some 6, .move (.const (.int .i64 0)), none⟩])
 (.block 0 (.loop L24_1)))
 (.seq (.region [⟨some 44, .move (.tmp 3), none⟩,
  ⟨some 2, .move (.tmp 44), none⟩])
 (.ret))))
theorem light24 : Light Try.prog 24 1 45 L24 [.tmp 2] :=
  ⟨Try.f24, _, Try.func24, rfl, rfl, by kernel_rfl, by kernel_rfl, by decide⟩

/-! ### function 25: (*outrider/pack.Reader).Left -/
def L25 : LCode :=
 .seq (.region [⟨some 2, .move (.const (.int .i64 0)), none⟩])
 (.seq (.seq (.region [⟨some 3, .move (.tmp 0), none⟩,
  ⟨some 4, .nilCheck (.tmp 3), none⟩,
  ⟨some 5, .off 2 (.tmp 4), none⟩,
  ⟨some 6, .load false 1 (.tmp 5), none⟩,
  ⟨some 7, .bin .neq (.tmp 6) (.const (.int .i64 0)), none⟩])
 (.cond (.tmp 7) (.seq (.region [⟨some 2, .move (.const (.int .i64 0)), none⟩])
 (.ret))
 (.skip)))
 (.seq (.draw [⟨⟨some 8, .move (.tmp 0), none⟩, .pure, 0, 0⟩,
  ⟨⟨some 9, .nilCheck (.tmp 8), none⟩, .pure, 0, 0⟩,
  ⟨⟨some 10, .off 0 (.tmp 9), none⟩, .pure, 0, 0⟩,
  ⟨⟨some 11, .load false 1 (.tmp 10), none⟩, .read, 0, 0⟩,
  ⟨⟨some 12, .len (.tmp 11), none⟩, .pure, 0, 0⟩,
  ⟨⟨some 13, .move (.tmp 0), none⟩, .pure, 0, 0⟩,
  ⟨⟨some 14, .nilCheck (.tmp 13), none⟩, .pure, 0, 0⟩,
  ⟨⟨some 15, .off 1 (.tmp 14), none⟩, .pure, 0, 0⟩,
  ⟨⟨some 16, .load false 1 (.tmp 15), none⟩, .read, 0, 0⟩,
  ⟨⟨some 17, .bin .sub (.tmp 12) (.tmp 16), none⟩, .pure, 0, 0⟩,
  ⟨⟨some 2, .move (.tmp 17), none⟩, .pure, 0, 0⟩])
 (.ret)))
theorem light25 : Light Try.prog 25 1 18 L25 [.tmp 2] :=
  ⟨Try.f25, _, Try.func25, rfl, rfl, by kernel_rfl, by kernel_rfl, by decide⟩

/-! ### function 26: (*outrider/pack.Reader).Fail -/
def L26 : LCode :=
 .seq (.region [⟨some 2, .move (.const (.int .i64 0)), none⟩])
 (.seq (.region [⟨some 3, .move (.tmp 0), none⟩,
  ⟨some 4, .nilCheck (.tmp 3), none⟩,
  ⟨some 5, .off 2 (.tmp 4), none⟩,
  ⟨some 6, .load false 1 (.tmp 5), none⟩,
  ⟨some 2, .move (.tmp 6), none⟩])
 (.ret))
theorem light26 : Light Try.prog 26 1 7 L26 [.tmp 2] :=
  ⟨Try.f26, _, Try.func26, rfl, rfl, by kernel_rfl, by kernel_rfl, by decide⟩

/-! ### function 27: (*outrider/pack.Writer).Uint -/
def L27_1 : LCode :=
 .seq (.seq (.region [⟨some 4, .move (.tmp 1), none⟩,
  ⟨some 5, .bin .geq (.tmp 4) (.const (.int .u64 128)), none⟩])
 (.cond (.tmp 5) (.skip)
 (.exit 0)))
 (.block 1 (.seq (.region [⟨some 6, .move (.tmp 0), none⟩,
  ⟨some 7, .move (.tmp 0), none⟩,
  ⟨some 8, .nilCheck (.tmp 7), none⟩,
  ⟨some 9, .off 0 (.tmp 8), none⟩,
  ⟨some 10, .load false 1 (.tmp 9), none⟩,
  ⟨some 11, .move (.tmp 1), none⟩,
  ⟨some 12, .conv .u8 (.tmp 11), none⟩,
  ⟨some 13, .bin .or (.tmp 12) (.const (.int .u8 128)), none⟩,
  ⟨some 14, .buildSlice 5 1 1 [.int .u8 0] [(0, 1, .tmp 13)], none⟩,
  ⟨some 15, .append 5 1 1 (.tmp 10) (.tmp 14), none⟩,
  ⟨some 16, .nilCheck (.tmp 6), none⟩,
  ⟨some 17, .off 0 (.tmp 16), none⟩,
  ⟨none, .store 1 (.tmp 17) (.tmp 15), none⟩])
 (.region [⟨some 18, .move (.tmp 1), none⟩,
  ⟨some 19, .bin .shr (.tmp 18) (.const (.int .u64 7)), none⟩,
  ⟨some 1, .move (.tmp 19), none⟩])))
def L27 : LCode :=
 .seq (.block 0 (.loop L27_1))
 (.region [⟨some 20, .move (.tmp 0), none⟩,
  ⟨some 21, .move (.tmp 0), none⟩,
  ⟨some 22, .nilCheck (.tmp 21), none⟩,
  ⟨some 23, .off 0 (.tmp 22), none⟩,
  ⟨some 24, .load false 1 (.tmp 23), none⟩,
  ⟨some 25, .move (.tmp 1), none⟩,
  ⟨some 26, .conv .u8 (.tmp 25), none⟩,
  ⟨some 27, .buildSlice 5 1 1 [.int .u8 0] [(0, 1, .tmp 26)], none⟩,
  ⟨some 28, .append 5 1 1 (.tmp 24) (.tmp 27), none⟩,
  ⟨some 29, .nilCheck (.tmp 20), none⟩,
  ⟨some 30, .off 0 (.tmp 29), none⟩,
  ⟨none, .store 1 (.tmp 30) (.tmp 28), none⟩])
theorem light27 : Light Try.prog 27 2 31 L27 [] :=
  ⟨Try.f27, _, Try.func27, rfl, rfl, by kernel_rfl, by kernel_rfl, by decide⟩

/-! ### function 28: outrider/outriderlaw02.took -/
def L28 : LCode :=
 .seq (.region [⟨some 4, .box 53 2 (.tmp 1), none⟩,
  ⟨some 6, .new 53 2 [.slice none 0 0, .int .i64 0], none⟩,
  ⟨some 7, .move (.const (.bool false)), none⟩])
 (.seq (.seq (.region [⟨some 20, .move (.tmp 2), none⟩])
 (.block 0 (.seq (.region [⟨some 22, .bin .eql (.tmp 20) (.const (.int .i64 0)), none⟩,
  ⟨some 21, .move (.tmp 22), none⟩])
 (.cond (.tmp 21) (.seq (.region [⟨some 24, .load true 2 (.tmp 4), none⟩,
  ⟨some 25, .call 49 [.tmp 24], none⟩,
  ⟨some 23, .move (.tmp 25), none⟩,
  ⟨some 26, .extract (.tmp 23) 0, none⟩,
  ⟨some 27, .extract (.tmp 23) 1, none⟩,
  ⟨some 8, .new 53 2 [.slice none 0 0, .int .i64 0], none⟩,
  ⟨none, .store 2 (.tmp 8) (.tmp 26), none⟩,
  ⟨some 9, .move (.tmp 27), none⟩])
 (.seq (.draw [⟨⟨some 28, .load true 2 (.tmp 8), none⟩, .read, 0, 1⟩,
  ⟨⟨some 29, .move (.tmp 0), none⟩, .pure, 0, 0⟩,
  ⟨⟨some 30, .call 24 [.tmp 29], none⟩, .heavy, 0, 1⟩,
  ⟨⟨some 31, .move (.tmp 9), none⟩, .pure, 0, 2⟩,
  ⟨⟨some 32, .bin .eql (.tmp 30) (.tmp 31), none⟩, .pure, 1, 2⟩,
  ⟨⟨none, .store 2 (.tmp 6) (.tmp 28), none⟩, .heavy, 1, 2⟩,
  ⟨⟨some 7, .move (.tmp 32), none⟩, .pure, 2, 2⟩])
 (.ret)))
 (.seq (.region [⟨some 34, .bin .eql (.tmp 20) (.const (.int .i64 1)), none⟩,
  ⟨some 33, .move (.tmp 34), none⟩])
 (.cond (.tmp 33) (.seq (.region [⟨some 36, .load true 2 (.tmp 4), none⟩,
  ⟨some 37, .call 50 [.tmp 36], none⟩,
  ⟨some 35, .move (.tmp 37), none⟩,
  ⟨some 38, .extract (.tmp 35) 0, none⟩,
  ⟨some 39, .extract (.tmp 35) 1, none⟩,
  ⟨some 10, .new 53 2 [.slice none 0 0, .int .i64 0], none⟩,
  ⟨none, .store 2 (.tmp 10) (.tmp 38), none⟩,
  ⟨some 11, .move (.tmp 39), none⟩])
 (.seq (.draw [⟨⟨some 40, .load true 2 (.tmp 10), none⟩, .read, 0, 1⟩,
  ⟨⟨some 41, .move (.tmp 0), none⟩, .pure, 0, 0⟩,
  ⟨⟨some 42, .call 33 [.tmp 41], none⟩, .heavy, 0, 1⟩,
  ⟨⟨some 43, .move (.tmp 11), none⟩, .pure, 0, 2⟩,
  ⟨⟨some 44, .bin .eql (.tmp 42) (.tmp 43), none⟩, .pure, 1, 2⟩,
  ⟨⟨none, .store 2 (.tmp 6) (.tmp 40), none⟩, .heavy, 1, 2⟩,
  ⟨⟨some 7, .move (.tmp 44), none⟩, .pure, 2, 2⟩])
 (.ret)))
 (.seq (.region [⟨some 46, .bin .eql (.tmp 20) (.const (.int .i64 2)), none⟩,
  ⟨some 45, .move (.tmp 46), none⟩])
 (.cond (.tmp 45) (.seq (.region [⟨some 48, .load true 2 (.tmp 4), none⟩,
  ⟨some 49, .call 51 [.tmp 48], none⟩,
  ⟨some 47, .move (.tmp 49), none⟩,
  ⟨some 50, .extract (.tmp 47) 0, none⟩,
  ⟨some 51, .extract (.tmp 47) 1, none⟩,
  ⟨some 12, .new 53 2 [.slice none 0 0, .int .i64 0], none⟩,
  ⟨none, .store 2 (.tmp 12) (.tmp 50), none⟩,
  ⟨some 13, .move (.tmp 51), none⟩])
 (.seq (.draw [⟨⟨some 52, .load true 2 (.tmp 12), none⟩, .read, 0, 1⟩,
  ⟨⟨some 53, .move (.tmp 0), none⟩, .pure, 0, 0⟩,
  ⟨⟨some 54, .call 34 [.tmp 53], none⟩, .heavy, 0, 1⟩,
  ⟨⟨some 55, .move (.tmp 13), none⟩, .pure, 0, 2⟩,
  ⟨⟨some 56, .eqB false (.tmp 54) (.tmp 55), none⟩, .pure, 1, 2⟩,
  ⟨⟨none, .store 2 (.tmp 6) (.tmp 52), none⟩, .heavy, 1, 2⟩,
  ⟨⟨some 7, .move (.tmp 56), none⟩, .pure, 2, 2⟩])
 (.ret)))
 (.seq (.region [⟨some 58, .bin .eql (.tmp 20) (.const (.int .i64 3)), none⟩,
  ⟨some 57, .move (.tmp 58), none⟩])
 (.cond (.tmp 57) (.seq (.region [⟨some 60, .load true 2 (.tmp 4), none⟩,
  ⟨some 61, .call 52 [.tmp 60], none⟩,
  ⟨some 59, .move (.tmp 61), none⟩,
  ⟨some 62, .extract (.tmp 59) 0, none⟩,
  ⟨some 63, .extract (.tmp 59) 1, none⟩,
  ⟨some 14, .new 53 2 [.slice none 0 0, .int .i64 0], none⟩,
  ⟨none, .store 2 (.tmp 14) (.tmp 62), none⟩,
  ⟨some 15, .move (.tmp 63), none⟩])
 (.seq (.draw [⟨⟨some 64, .load true 2 (.tmp 14), none⟩, .read, 0, 1⟩,
  ⟨⟨some 65, .move (.tmp 0), none⟩, .pure, 0, 0⟩,
  ⟨⟨some 66, .call 35 [.tmp 65], none⟩, .heavy, 0, 1⟩,
  ⟨⟨some 67, .move (.tmp 15), none⟩, .pure, 0, 2⟩,
  ⟨⟨some 68, .bin .eql (.tmp 66) (.tmp 67), none⟩, .pure, 1, 2⟩,
  ⟨⟨none, .store 2 (.tmp 6) (.tmp 64), none⟩, .heavy, 1, 2⟩,
  ⟨⟨some 7, .move (.tmp 68), none⟩, .pure, 2, 2⟩])
 (.ret)))
 (.seq (.region [⟨some 70, .bin .eql (.tmp 20) (.const (.int .i64 4)), none⟩,
  ⟨some 69, .move (.tmp 70), none⟩])
 (.cond (.tmp 69) (.seq (.region [⟨some 72, .load true 2 (.tmp 4), none⟩,
  ⟨some 73, .call 53 [.tmp 72], none⟩,
  ⟨some 71, .move (.tmp 73), none⟩,
  ⟨some 74, .extract (.tmp 71) 0, none⟩,
  ⟨some 75, .extract (.tmp 71) 1, none⟩,
  ⟨some 16, .new 53 2 [.slice none 0 0, .int .i64 0], none⟩,
  ⟨none, .store 2 (.tmp 16) (.tmp 74), none⟩,
  ⟨some 17, .move (.tmp 75), none⟩])
 (.seq (.draw [⟨⟨some 76, .load true 2 (.tmp 16), none⟩, .read, 0, 2⟩,
  ⟨⟨some 77, .move (.tmp 0), none⟩, .pure, 0, 0⟩,
  ⟨⟨some 78, .call 37 [.tmp 77], none⟩, .heavy, 0, 1⟩,
  ⟨⟨some 79, .move (.tmp 17), none⟩, .pure, 0, 1⟩,
  ⟨⟨some 80, .call 36 [.tmp 78, .tmp 79], none⟩, .heavy, 1, 2⟩,
  ⟨⟨none, .store 2 (.tmp 6) (.tmp 76), none⟩, .heavy, 2, 3⟩,
  ⟨⟨some 7, .move (.tmp 80), none⟩, .pure, 3, 3⟩])
 (.ret)))
 (.skip)))))))))))))
 (.seq (.region [⟨some 82, .load true 2 (.tmp 4), none⟩,
  ⟨some 83, .move (.tmp 2), none⟩,
  ⟨some 84, .bin .sub (.tmp 83) (.const (.int .i64 5)), none⟩,
  ⟨some 85, .call 54 [.tmp 82, .tmp 84], none⟩,
  ⟨some 81, .move (.tmp 85), none⟩,
  ⟨some 86, .extract (.tmp 81) 0, none⟩,
  ⟨some 87, .extract (.tmp 81) 1, none⟩,
  ⟨some 18, .new 53 2 [.slice none 0 0, .int .i64 0], none⟩,
  ⟨none, .store 2 (.tmp 18) (.tmp 86), none⟩,
  ⟨some 19, .move (.tmp 87), none⟩])
 (.seq (.draw [⟨⟨some 88, .load true 2 (.tmp 18), none⟩, .read, 0, 1⟩,
  ⟨⟨some 89, .move (.tmp 0), none⟩, .pure, 0, 0⟩,
  ⟨⟨some 90, .move (.tmp 2), none⟩, .pure, 0, 0⟩,
  ⟨⟨some 91, .bin .sub (.tmp 90) (.const (.int .i64 5)), none⟩, .pure, 0, 0⟩,
  ⟨⟨some 92, .call 55 [.tmp 89, .tmp 91], none⟩, .heavy, 0, 1⟩,
  ⟨⟨some 93, .move (.tmp 19), none⟩, .pure, 0, 2⟩,
  ⟨⟨some 94, .bin .eql (.tmp 92) (.tmp 93), none⟩, .pure, 1, 2⟩,
  ⟨⟨none, .store 2 (.tmp 6) (.tmp 88), none⟩, .heavy, 1, 2⟩,
  ⟨⟨some 7, .move (.tmp 94), none⟩, .pure, 2, 2⟩])
 (.ret))))
theorem light28 : Light Try.prog 28 3 95 L28 [.cell 6 true 2, .tmp 7] :=
  ⟨Try.f28, _, Try.func28, rfl, rfl, by kernel_rfl, by kernel_rfl, by decide⟩

/-! ### function 29: outrider/outriderref02.Left -/
def L29 : LCode :=
 .seq (.region [⟨some 1, .box 53 2 (.tmp 0), none⟩,
  ⟨some 2, .move (.const (.int .i64 0)), none⟩])
 (.seq (.seq (.region [⟨some 3, .off 1 (.tmp 1), none⟩,
  ⟨some 4, .load false 1 (.tmp 3), none⟩,
  ⟨some 5, .bin .neq (.tmp 4) (.const (.int .i64 0)), none⟩])
 (.cond (.tmp 5) (.seq (.region [⟨some 2, .move (.const (.int .i64 0)), none⟩])
 (.ret))
 (.skip)))
 (.seq (.region [⟨some 6, .off 0 (.tmp 1), none⟩,
  ⟨some 7, .load false 1 (.tmp 6), none⟩,
  ⟨some 8, .len (.tmp 7), none⟩,
  ⟨some 2, .move (.tmp 8), none⟩])
 (.ret)))
theorem light29 : Light Try.prog 29 1 9 L29 [.tmp 2] :=
  ⟨Try.f29, _, Try.func29, rfl, rfl, by kernel_rfl, by kernel_rfl, by decide⟩

/-! ### function 30: (*outrider/pack.Reader).End -/
def L30 : LCode :=
 .seq (.region [⟨some 2, .move (.const (.int .i64 0)), none⟩])
 (.seq (.seq (.draw [⟨⟨some 3, .move (.tmp 0), none⟩, .pure, 0, 0⟩,
  ⟨⟨some 4, .nilCheck (.tmp 3), none⟩, .pure, 0, 0⟩,
  ⟨⟨some 5, .off 2 (.tmp 4), none⟩, .pure, 0, 0⟩,
  ⟨⟨some 6, .load false 1 (.tmp 5), none⟩, .read, 0, 0⟩,
  ⟨⟨some 7, .bin .eql (.tmp 6) (.const (.int .i64 0)), none⟩, .pure, 0, 0⟩,
  ⟨⟨some 8, .move (.tmp 7), none⟩, .pure, 0, 0⟩,
  ⟨⟨some 9, .move (.tmp 0), (some (8, true))⟩, .pure, 0, 0⟩,
  ⟨⟨some 10, .nilCheck (.tmp 9), (some (8, true))⟩, .pure, 0, 0⟩,
  ⟨⟨some 11, .off 1 (.tmp 10), (some (8, true))⟩, .pure, 0, 0⟩,
  ⟨⟨some 12, .load false 1 (.tmp 11), (some (8, true))⟩, .read, 0, 0⟩,
  ⟨⟨some 13, .move (.tmp 0), (some (8, true))⟩, .pure, 0, 0⟩,
  ⟨⟨some 14, .nilCheck (.tmp 13), (some (8, true))⟩, .pure, 0, 0⟩,
  ⟨⟨some 15, .off 0 (.tmp 14), (some (8, true))⟩, .pure, 0, 0⟩,
  ⟨⟨some 16, .load false 1 (.tmp 15), (some (8, true))⟩, .read, 0, 0⟩,
  ⟨⟨some 17, .len (.tmp 16), (some (8, true))⟩, .pure, 0, 0⟩,
  ⟨⟨some 18, .bin .lss (.tmp 12) (.tmp 17), (some (8, true))⟩, .pure, 0, 0⟩,
  ⟨⟨some 19, .pick (.tmp 8) (.tmp 18) (.const (.bool false)), none⟩, .pure, 0, 0⟩])
 (.cond (.tmp 19) (.seq (.region [⟨some 2, .move (.const (.int .i64 21)), none⟩])
 (.ret))
 (.skip)))
 (.seq (.region [⟨some 20, .move (.tmp 0), none⟩,
  ⟨some 21, .nilCheck (.tmp 20), none⟩,
  ⟨some 22, .off 2 (.tmp 21), none⟩,
  ⟨some 23, .load false 1 (.tmp 22), none⟩,
  ⟨some 2, .move (.tmp 23), none⟩])
 (.ret)))
theorem light30 : Light Try.prog 30 1 24 L30 [.tmp 2] :=
  ⟨Try.f30, _, Try.func30, rfl, rfl, by kernel_rfl, by kernel_rfl, by decide⟩

/-! ### function 31: outrider/outriderref02.End -/
def L31 : LCode :=
 .seq (.region [⟨some 1, .box 53 2 (.tmp 0), none⟩,
  ⟨some 2, .move (.const (.int .i64 0)), none⟩])
 (.seq (.seq (.region [⟨some 3, .off 1 (.tmp 1), none⟩,
  ⟨some 4, .load false 1 (.tmp 3), none⟩,
  ⟨some 5, .bin .eql (.tmp 4) (.const (.int .i64 0)), none⟩,
  ⟨some 6, .move (.tmp 5), none⟩,
  ⟨some 7, .off 0 (.tmp 1), (some (6, true))⟩,
  ⟨some 8, .load false 1 (.tmp 7), (some (6, true))⟩,
  ⟨some 9, .len (.tmp 8), (some (6, true))⟩,
  ⟨some 10, .bin .gtr (.tmp 9) (.const (.int .i64 0)), (some (6, true))⟩,
  ⟨some 11, .pick (.tmp 6) (.tmp 10) (.const (.bool false)), none⟩])
 (.cond (.tmp 11) (.seq (.region [⟨some 2, .move (.const (.int .i64 21)), none⟩])
 (.ret))
 (.skip)))
 (.seq (.region [⟨some 12, .off 1 (.tmp 1), none⟩,
  ⟨some 13, .load false 1 (.tmp 12), none⟩,
  ⟨some 2, .move (.tmp 13), none⟩])
 (.ret)))
theorem light31 : Light Try.prog 31 1 14 L31 [.tmp 2] :=
  ⟨Try.f31, _, Try.func31, rfl, rfl, by kernel_rfl, by kernel_rfl, by decide⟩

/-! ### function 32: outrider/outriderlaw02.kind -/
def L32 : LCode :=
 .seq (.region [⟨some 2, .move (.const (.int .i64 0)), none⟩])
 (.seq (.region [⟨some 3, .move (.tmp 0), none⟩,
  ⟨some 4, .bin .rem (.tmp 3) (.const (.int .i64 5)), none⟩,
  ⟨some 5, .bin .add (.tmp 4) (.const (.int .i64 5)), none⟩,
  ⟨some 6, .bin .rem (.tmp 5) (.const (.int .i64 5)), none⟩,
  ⟨some 2, .move (.tmp 6), none⟩])
 (.ret))
theorem light32 : Light Try.prog 32 1 7 L32 [.tmp 2] :=
  ⟨Try.f32, _, Try.func32, rfl, rfl, by kernel_rfl, by kernel_rfl, by decide⟩

/-! ### function 33: (*outrider/pack.Reader).Int -/
def L33 : LCode :=
 .seq (.region [⟨some 2, .move (.const (.int .i64 0)), none⟩])
 (.seq (.region [⟨some 4, .move (.tmp 0), none⟩,
  ⟨some 5, .call 24 [.tmp 4], none⟩,
  ⟨some 3, .move (.tmp 5), none⟩])
 (.seq (.region [⟨some 6, .move (.tmp 3), none⟩,
  ⟨some 7, .bin .shr (.tmp 6) (.const (.int .u64 1)), none⟩,
  ⟨some 8, .conv .i64 (.tmp 7), none⟩,
  ⟨some 9, .move (.tmp 3), none⟩,
  ⟨some 10, .bin .and (.tmp 9) (.const (.int .u64 1)), none⟩,
  ⟨some 11, .conv .i64 (.tmp 10), none⟩,
  ⟨some 12, .un .neg (.tmp 11), none⟩,
  ⟨some 13, .bin .xor (.tmp 8) (.tmp 12), none⟩,
  ⟨some 2, .move (.tmp 13), none⟩])
 (.ret)))
theorem light33 : Light Try.prog 33 1 14 L33 [.tmp 2] :=
  ⟨Try.f33, _, Try.func33, rfl, rfl, by kernel_rfl, by kernel_rfl, by decide⟩

/-! ### function 34: (*outrider/pack.Reader).Flag -/
def L34 : LCode :=
 .seq (.region [⟨some 2, .move (.const (.bool false)), none⟩])
 (.seq (.region [⟨some 4, .move (.tmp 0), none⟩,
  ⟨some 5, .call 47 [.tmp 4], none⟩,
  ⟨some 3, .move (.tmp 5), none⟩])
 (.seq (.seq (.region [⟨some 6, .move (.tmp 3), none⟩,
  ⟨some 7, .bin .gtr (.tmp 6) (.const (.int .u8 1)), none⟩])
 (.cond (.tmp 7) (.seq (.region [⟨some 8, .move (.tmp 0), none⟩,
  ⟨some 9, .call 48 [.tmp 8, .const (.int .i64 21)], none⟩])
 (.seq (.region [⟨some 2, .move (.const (.bool false)), none⟩])
 (.ret)))
 (.skip)))
 (.seq (.region [⟨some 10, .move (.tmp 3), none⟩,
  ⟨some 11, .bin .eql (.tmp 10) (.const (.int .u8 1)), none⟩,
  ⟨some 2, .move (.tmp 11), none⟩])
 (.ret))))
theorem light34 : Light Try.prog 34 1 12 L34 [.tmp 2] :=
  ⟨Try.f34, _, Try.func34, rfl, rfl, by kernel_rfl, by kernel_rfl, by decide⟩

/-! ### function 35: (*outrider/pack.Reader).Text -/
def L35 : LCode :=
 .seq (.region [⟨some 2, .move (.const (.string ByteArray.empty)), none⟩])
 (.seq (.region [⟨some 4, .move (.tmp 0), none⟩,
  ⟨some 5, .call 55 [.tmp 4, .const (.int .i64 1)], none⟩,
  ⟨some 3, .move (.tmp 5), none⟩])
 (.seq (.seq (.region [⟨some 6, .move (.tmp 0), none⟩,
  ⟨some 7, .nilCheck (.tmp 6), none⟩,
  ⟨some 8, .off 2 (.tmp 7), none⟩,
  ⟨some 9, .load false 1 (.tmp 8), none⟩,
  ⟨some 10, .bin .neq (.tmp 9) (.const (.int .i64 0)), none⟩])
 (.cond (.tmp 10) (.seq (.region [⟨some 2, .move (.const (.string ByteArray.empty)), none⟩])
 (.ret))
 (.skip)))
 (.seq (.region [⟨some 11, .move (.tmp 0), none⟩,
  ⟨some 12, .nilCheck (.tmp 11), none⟩,
  ⟨some 13, .off 1 (.tmp 12), none⟩,
  ⟨some 14, .load false 1 (.tmp 13), none⟩,
  ⟨some 15, .move (.tmp 3), none⟩,
  ⟨some 16, .bin .add (.tmp 14) (.tmp 15), none⟩,
  ⟨some 17, .nilCheck (.tmp 11), none⟩,
  ⟨some 18, .off 1 (.tmp 17), none⟩,
  ⟨none, .store 1 (.tmp 18) (.tmp 16), none⟩])
 (.seq (.draw [⟨⟨some 19, .move (.tmp 0), none⟩, .pure, 0, 0⟩,
  ⟨⟨some 20, .nilCheck (.tmp 19), none⟩, .pure, 0, 0⟩,
  ⟨⟨some 21, .off 0 (.tmp 20), none⟩, .pure, 0, 0⟩,
  ⟨⟨some 22, .load false 1 (.tmp 21), none⟩, .read, 0, 0⟩,
  ⟨⟨some 23, .move (.tmp 0), none⟩, .pure, 0, 0⟩,
  ⟨⟨some 24, .nilCheck (.tmp 23), none⟩, .pure, 0, 0⟩,
  ⟨⟨some 25, .off 1 (.tmp 24), none⟩, .pure, 0, 0⟩,
  ⟨⟨some 26, .load false 1 (.tmp 25), none⟩, .read, 0, 0⟩,
  ⟨⟨some 27, .move (.tmp 3), none⟩, .pure, 0, 0⟩,
  ⟨⟨some 28, .bin .sub (.tmp 26) (.tmp 27), none⟩, .pure, 0, 0⟩,
  ⟨⟨some 29, .move (.tmp 0), none⟩, .pure, 0, 0⟩,
  ⟨⟨some 30, .nilCheck (.tmp 29), none⟩, .pure, 0, 0⟩,
  ⟨⟨some 31, .off 1 (.tmp 30), none⟩, .pure, 0, 0⟩,
  ⟨⟨some 32, .load false 1 (.tmp 31), none⟩, .read, 0, 0⟩,
  ⟨⟨some 33, .move (.tmp 0), none⟩, .pure, 0, 0⟩,
  ⟨⟨some 34, .nilCheck (.tmp 33), none⟩, .pure, 0, 0⟩,
  ⟨⟨some 35, .off 1 (.tmp 34), none⟩, .pure, 0, 0⟩,
  ⟨⟨some 36, .load false 1 (.tmp 35), none⟩, .read, 0, 0⟩,
  ⟨⟨some 37, .slice 1 (.tmp 22) (some (.tmp 28)) (some (.tmp 32)) (some (.tmp 36)), none⟩, .pure, 0, 0⟩,
  ⟨⟨some 38, .toStr (.tmp 37), none⟩, .read, 0, 0⟩,
  ⟨⟨some 2, .move (.tmp 38), none⟩, .pure, 0, 0⟩])
 (.ret)))))
theorem light35 : Light Try.prog 35 1 39 L35 [.tmp 2] :=
  ⟨Try.f35, _, Try.func35, rfl, rfl, by kernel_rfl, by kernel_rfl, by decide⟩

/-! ### function 36: outrider/outriderlaw02.same -/
def L36_1 : LCode :=
 .seq (.seq (.region [⟨some 11, .move (.tmp 5), none⟩,
  ⟨some 12, .move (.tmp 0), none⟩,
  ⟨some 13, .len (.tmp 12), none⟩,
  ⟨some 14, .bin .lss (.tmp 11) (.tmp 13), none⟩])
 (.cond (.tmp 14) (.skip)
 (.exit 0)))
 (.seq (.block 1 (.seq (.draw [⟨⟨some 17, .move (.tmp 0), none⟩, .pure, 0, 0⟩,
  ⟨⟨some 18, .move (.tmp 5), none⟩, .pure, 0, 0⟩,
  ⟨⟨some 19, .idx 1 (.tmp 17) (.tmp 18), none⟩, .pure, 0, 0⟩,
  ⟨⟨some 20, .load false 1 (.tmp 19), none⟩, .read, 0, 0⟩,
  ⟨⟨some 21, .move (.tmp 1), none⟩, .pure, 0, 0⟩,
  ⟨⟨some 22, .move (.tmp 5), none⟩, .pure, 0, 0⟩,
  ⟨⟨some 23, .idx 1 (.tmp 21) (.tmp 22), none⟩, .pure, 0, 0⟩,
  ⟨⟨some 24, .load false 1 (.tmp 23), none⟩, .read, 0, 0⟩,
  ⟨⟨some 25, .bin .neq (.tmp 20) (.tmp 24), none⟩, .pure, 0, 0⟩])
 (.cond (.tmp 25) (.seq (.region [⟨some 4, .move (.const (.bool false)), none⟩])
 (.ret))
 (.skip))))
 (.region [⟨some 15, .move (.tmp 5), none⟩,
  ⟨some 16, .bin .add (.tmp 15) (.const (.int .i64 1)), none⟩,
  ⟨some 5, .move (.tmp 16), none⟩]))
def L36 : LCode :=
 .seq (.region [⟨some 4, .move (.const (.bool false)), none⟩])
 (.seq (.seq (.region [⟨some 6, .move (.tmp 0), none⟩,
  ⟨some 7, .len (.tmp 6), none⟩,
  ⟨some 8, .move (.tmp 1), none⟩,
  ⟨some 9, .len (.tmp 8), none⟩,
  ⟨some 10, .bin .neq (.tmp 7) (.tmp 9), none⟩])
 (.cond (.tmp 10) (.seq (.region [⟨some 4, .move (.const (.bool false)), none⟩])
 (.ret))
 (.skip)))
 (.seq (.seq (.region [⟨some 5, .move (.const (.int .i64 0)), none⟩])
 (.block 0 (.loop L36_1)))
 (.seq (.region [⟨some 4, .move (.const (.bool true)), none⟩])
 (.ret))))
theorem light36 : Light Try.prog 36 2 26 L36 [.tmp 4] :=
  ⟨Try.f36, _, Try.func36, rfl, rfl, by kernel_rfl, by kernel_rfl, by decide⟩

/-! ### function 37: (*outrider/pack.Reader).Ints -/
def L37_1 : LCode :=
 .seq (.region [⟨some 9, .bin .lss (.tmp 8) (.tmp 7), none⟩])
 (.seq (.cond (.tmp 9) (.skip)
 (.exit 0))
 (.seq (.block 1 (.region [⟨some 10, .move (.tmp 4), none⟩,
  ⟨some 11, .move (.tmp 0), none⟩,
  ⟨some 12, .call 33 [.tmp 11], none⟩,
  ⟨some 13, .buildSlice 2 1 1 [.int .i64 0] [(0, 1, .tmp 12)], none⟩,
  ⟨some 14, .append 2 1 8 (.tmp 10) (.tmp 13), none⟩,
  ⟨some 4, .move (.tmp 14), none⟩]))
 (.region [⟨some 15, .bin .add (.tmp 8) (.const (.int .i64 1)), none⟩,
  ⟨some 8, .move (.tmp 15), none⟩])))
def L37 : LCode :=
 .seq (.region [⟨some 2, .move (.const (.slice none 0 0)), none⟩])
 (.seq (.region [⟨some 5, .move (.tmp 0), none⟩,
  ⟨some 6, .call 55 [.tmp 5, .const (.int .i64 1)], none⟩,
  ⟨some 3, .move (.tmp 6), none⟩])
 (.seq (.region [⟨some 4, .move (.const (.slice none 0 0)), none⟩])
 (.seq (.seq (.region [⟨some 7, .move (.tmp 3), none⟩,
  ⟨some 8, .move (.const (.int .i64 0)), none⟩])
 (.block 0 (.loop L37_1)))
 (.seq (.seq (.region [⟨some 16, .move (.tmp 0), none⟩,
  ⟨some 17, .nilCheck (.tmp 16), none⟩,
  ⟨some 18, .off 2 (.tmp 17), none⟩,
  ⟨some 19, .load false 1 (.tmp 18), none⟩,
  ⟨some 20, .bin .neq (.tmp 19) (.const (.int .i64 0)), none⟩])
 (.cond (.tmp 20) (.seq (.region [⟨some 2, .move (.const (.slice none 0 0)), none⟩])
 (.ret))
 (.skip)))
 (.seq (.region [⟨some 21, .move (.tmp 4), none⟩,
  ⟨some 2, .move (.tmp 21), none⟩])
 (.ret))))))
theorem light37 : Light Try.prog 37 1 22 L37 [.tmp 2] :=
  ⟨Try.f37, _, Try.func37, rfl, rfl, by kernel_rfl, by kernel_rfl, by decide⟩

/-! ### function 38: (*outrider/pack.Writer).Int -/
def L38 : LCode :=
 .region [⟨some 4, .move (.tmp 0), none⟩,
  ⟨some 5, .move (.tmp 1), none⟩,
  ⟨some 6, .conv .u64 (.tmp 5), none⟩,
  ⟨some 7, .bin .shl (.tmp 6) (.const (.int .u64 1)), none⟩,
  ⟨some 8, .move (.tmp 1), none⟩,
  ⟨some 9, .bin .shr (.tmp 8) (.const (.int .u64 63)), none⟩,
  ⟨some 10, .conv .u64 (.tmp 9), none⟩,
  ⟨some 11, .bin .xor (.tmp 7) (.tmp 10), none⟩,
  ⟨some 12, .call 27 [.tmp 4, .tmp 11], none⟩]
theorem light38 : Light Try.prog 38 2 13 L38 [] :=
  ⟨Try.f38, _, Try.func38, rfl, rfl, by kernel_rfl, by kernel_rfl, by decide⟩

/-! ### function 39: (*outrider/pack.Writer).Flag -/
def L39 : LCode :=
 .seq (.seq (.region [⟨some 4, .move (.tmp 1), none⟩])
 (.cond (.tmp 4) (.seq (.region [⟨some 5, .move (.tmp 0), none⟩,
  ⟨some 6, .move (.tmp 0), none⟩,
  ⟨some 7, .nilCheck (.tmp 6), none⟩,
  ⟨some 8, .off 0 (.tmp 7), none⟩,
  ⟨some 9, .load false 1 (.tmp 8), none⟩,
  ⟨some 10, .buildSlice 5 1 1 [.int .u8 0] [(0, 1, .const (.int .u8 1))], none⟩,
  ⟨some 11, .append 5 1 1 (.tmp 9) (.tmp 10), none⟩,
  ⟨some 12, .nilCheck (.tmp 5), none⟩,
  ⟨some 13, .off 0 (.tmp 12), none⟩,
  ⟨none, .store 1 (.tmp 13) (.tmp 11), none⟩])
 (.ret))
 (.skip)))
 (.region [⟨some 14, .move (.tmp 0), none⟩,
  ⟨some 15, .move (.tmp 0), none⟩,
  ⟨some 16, .nilCheck (.tmp 15), none⟩,
  ⟨some 17, .off 0 (.tmp 16), none⟩,
  ⟨some 18, .load false 1 (.tmp 17), none⟩,
  ⟨some 19, .buildSlice 5 1 1 [.int .u8 0] [(0, 1, .const (.int .u8 0))], none⟩,
  ⟨some 20, .append 5 1 1 (.tmp 18) (.tmp 19), none⟩,
  ⟨some 21, .nilCheck (.tmp 14), none⟩,
  ⟨some 22, .off 0 (.tmp 21), none⟩,
  ⟨none, .store 1 (.tmp 22) (.tmp 20), none⟩])
theorem light39 : Light Try.prog 39 2 23 L39 [] :=
  ⟨Try.f39, _, Try.func39, rfl, rfl, by kernel_rfl, by kernel_rfl, by decide⟩

/-! ### function 40: (*outrider/pack.Writer).Ints -/
def L40_1 : LCode :=
 .seq (.region [⟨some 14, .bin .lss (.tmp 13) (.tmp 12), none⟩])
 (.seq (.cond (.tmp 14) (.skip)
 (.exit 0))
 (.seq (.block 1 (.seq (.region [⟨some 15, .idx 1 (.tmp 11) (.tmp 13), none⟩,
  ⟨some 16, .load false 1 (.tmp 15), none⟩,
  ⟨some 5, .move (.tmp 16), none⟩])
 (.region [⟨some 17, .move (.tmp 0), none⟩,
  ⟨some 18, .move (.tmp 5), none⟩,
  ⟨some 19, .call 38 [.tmp 17, .tmp 18], none⟩])))
 (.region [⟨some 20, .bin .add (.tmp 13) (.const (.int .i64 1)), none⟩,
  ⟨some 13, .move (.tmp 20), none⟩])))
def L40 : LCode :=
 .seq (.region [⟨some 6, .move (.tmp 0), none⟩,
  ⟨some 7, .move (.tmp 1), none⟩,
  ⟨some 8, .len (.tmp 7), none⟩,
  ⟨some 9, .conv .u64 (.tmp 8), none⟩,
  ⟨some 10, .call 27 [.tmp 6, .tmp 9], none⟩])
 (.seq (.region [⟨some 11, .move (.tmp 1), none⟩,
  ⟨some 12, .len (.tmp 11), none⟩,
  ⟨some 13, .move (.const (.int .i64 0)), none⟩])
 (.block 0 (.loop L40_1)))
theorem light40 : Light Try.prog 40 2 21 L40 [] :=
  ⟨Try.f40, _, Try.func40, rfl, rfl, by kernel_rfl, by kernel_rfl, by decide⟩

/-! ### function 41: outrider/outriderref02.Uint -/
def L41_1 : LCode :=
 .block 1 (.seq (.region [⟨some 4, .move (.tmp 3), none⟩,
  ⟨some 5, .move (.tmp 0), none⟩,
  ⟨some 6, .bin .rem (.tmp 5) (.const (.int .u64 128)), none⟩,
  ⟨some 7, .conv .u8 (.tmp 6), none⟩,
  ⟨some 8, .buildSlice 5 1 1 [.int .u8 0] [(0, 1, .tmp 7)], none⟩,
  ⟨some 9, .append 5 1 1 (.tmp 4) (.tmp 8), none⟩,
  ⟨some 3, .move (.tmp 9), none⟩])
 (.seq (.region [⟨some 10, .move (.tmp 0), none⟩,
  ⟨some 11, .bin .quo (.tmp 10) (.const (.int .u64 128)), none⟩,
  ⟨some 0, .move (.tmp 11), none⟩])
 (.seq (.seq (.region [⟨some 12, .move (.tmp 0), none⟩,
  ⟨some 13, .bin .eql (.tmp 12) (.const (.int .u64 0)), none⟩])
 (.cond (.tmp 13) (.exit 0)
 (.skip)))
 (.region [⟨some 14, .move (.tmp 3), none⟩,
  ⟨some 15, .move (.tmp 3), none⟩,
  ⟨some 16, .len (.tmp 15), none⟩,
  ⟨some 17, .bin .sub (.tmp 16) (.const (.int .i64 1)), none⟩,
  ⟨some 18, .idx 1 (.tmp 14) (.tmp 17), none⟩,
  ⟨some 19, .load false 1 (.tmp 18), none⟩,
  ⟨some 20, .bin .add (.tmp 19) (.const (.int .u8 128)), none⟩,
  ⟨some 21, .idx 1 (.tmp 14) (.tmp 17), none⟩,
  ⟨none, .store 1 (.tmp 21) (.tmp 20), none⟩]))))
def L41 : LCode :=
 .seq (.region [⟨some 2, .move (.const (.slice none 0 0)), none⟩])
 (.seq (.region [⟨some 3, .move (.const (.slice none 0 0)), none⟩])
 (.seq (.block 0 (.loop L41_1))
 (.seq (.region [⟨some 22, .move (.tmp 3), none⟩,
  ⟨some 2, .move (.tmp 22), none⟩])
 (.ret))))
theorem light41 : Light Try.prog 41 1 23 L41 [.tmp 2] :=
  ⟨Try.f41, _, Try.func41, rfl, rfl, by kernel_rfl, by kernel_rfl, by decide⟩

/-! ### function 42: outrider/outriderref02.Int -/
def L42 : LCode :=
 .seq (.region [⟨some 2, .move (.const (.slice none 0 0)), none⟩])
 (.seq (.seq (.region [⟨some 3, .move (.tmp 0), none⟩,
  ⟨some 4, .bin .geq (.tmp 3) (.const (.int .i64 0)), none⟩])
 (.cond (.tmp 4) (.seq (.region [⟨some 5, .move (.tmp 0), none⟩,
  ⟨some 6, .conv .u64 (.tmp 5), none⟩,
  ⟨some 7, .bin .mul (.tmp 6) (.const (.int .u64 2)), none⟩,
  ⟨some 8, .call 41 [.tmp 7], none⟩,
  ⟨some 2, .move (.tmp 8), none⟩])
 (.ret))
 (.skip)))
 (.seq (.region [⟨some 9, .move (.tmp 0), none⟩,
  ⟨some 10, .bin .add (.tmp 9) (.const (.int .i64 1)), none⟩,
  ⟨some 11, .un .neg (.tmp 10), none⟩,
  ⟨some 12, .conv .u64 (.tmp 11), none⟩,
  ⟨some 13, .bin .mul (.tmp 12) (.const (.int .u64 2)), none⟩,
  ⟨some 14, .bin .add (.tmp 13) (.const (.int .u64 1)), none⟩,
  ⟨some 15, .call 41 [.tmp 14], none⟩,
  ⟨some 2, .move (.tmp 15), none⟩])
 (.ret)))
theorem light42 : Light Try.prog 42 1 16 L42 [.tmp 2] :=
  ⟨Try.f42, _, Try.func42, rfl, rfl, by kernel_rfl, by kernel_rfl, by decide⟩

/-! ### function 43: outrider/pack.mark -/
def L43 : LCode :=
 .seq (.region [⟨some 0, .new 68 4 [.int .u8 0, .int .u8 0, .int .u8 0, .int .u8 0], none⟩])
 (.seq (.region [⟨some 1, .build [.int .u8 0, .int .u8 0, .int .u8 0, .int .u8 0] [(0, 1, .const (.int .u8 111)), (1, 1, .const (.int .u8 117)), (2, 1, .const (.int .u8 116)), (3, 1, .const (.int .u8 114))], none⟩,
  ⟨none, .store 4 (.tmp 0) (.tmp 1), none⟩])
 (.ret))
theorem light43 : Light Try.prog 43 0 2 L43 [.cell 0 true 4] :=
  ⟨Try.f43, _, Try.func43, rfl, rfl, by kernel_rfl, by kernel_rfl, by decide⟩

/-! ### function 44: outrider/pack.put -/
def L44_1 : LCode :=
 .seq (.region [⟨some 9, .bin .lss (.tmp 8) (.tmp 7), none⟩])
 (.seq (.cond (.tmp 9) (.skip)
 (.exit 0))
 (.seq (.block 1 (.seq (.region [⟨some 10, .move (.tmp 0), none⟩,
  ⟨some 11, .move (.tmp 1), none⟩,
  ⟨some 12, .conv .u8 (.tmp 11), none⟩,
  ⟨some 13, .buildSlice 5 1 1 [.int .u8 0] [(0, 1, .tmp 12)], none⟩,
  ⟨some 14, .append 5 1 1 (.tmp 10) (.tmp 13), none⟩,
  ⟨some 0, .move (.tmp 14), none⟩])
 (.region [⟨some 15, .move (.tmp 1), none⟩,
  ⟨some 16, .bin .shr (.tmp 15) (.const (.int .u64 8)), none⟩,
  ⟨some 1, .move (.tmp 16), none⟩])))
 (.region [⟨some 17, .bin .add (.tmp 8) (.const (.int .i64 1)), none⟩,
  ⟨some 8, .move (.tmp 17), none⟩])))
def L44 : LCode :=
 .seq (.region [⟨some 6, .move (.const (.slice none 0 0)), none⟩])
 (.seq (.seq (.region [⟨some 7, .move (.tmp 2), none⟩,
  ⟨some 8, .move (.const (.int .i64 0)), none⟩])
 (.block 0 (.loop L44_1)))
 (.seq (.region [⟨some 18, .move (.tmp 0), none⟩,
  ⟨some 6, .move (.tmp 18), none⟩])
 (.ret)))
theorem light44 : Light Try.prog 44 3 19 L44 [.tmp 6] :=
  ⟨Try.f44, _, Try.func44, rfl, rfl, by kernel_rfl, by kernel_rfl, by decide⟩

/-! ### function 45: outrider/outriderref02.Low -/
def L45_1 : LCode :=
 .seq (.seq (.region [⟨some 7, .move (.tmp 6), none⟩,
  ⟨some 8, .move (.tmp 1), none⟩,
  ⟨some 9, .bin .lss (.tmp 7) (.tmp 8), none⟩])
 (.cond (.tmp 9) (.skip)
 (.exit 0)))
 (.seq (.block 1 (.seq (.region [⟨some 12, .move (.tmp 5), none⟩,
  ⟨some 13, .move (.tmp 0), none⟩,
  ⟨some 14, .bin .rem (.tmp 13) (.const (.int .u64 256)), none⟩,
  ⟨some 15, .conv .u8 (.tmp 14), none⟩,
  ⟨some 16, .buildSlice 5 1 1 [.int .u8 0] [(0, 1, .tmp 15)], none⟩,
  ⟨some 17, .append 5 1 1 (.tmp 12) (.tmp 16), none⟩,
  ⟨some 5, .move (.tmp 17), none⟩])
 (.region [⟨some 18, .move (.tmp 0), none⟩,
  ⟨some 19, .bin .quo (.tmp 18) (.const (.int .u64 256)), none⟩,
  ⟨some 0, .move (.tmp 19), none⟩])))
 (.region [⟨some 10, .move (.tmp 6), none⟩,
  ⟨some 11, .bin .add (.tmp 10) (.const (.int .i64 1)), none⟩,
  ⟨some 6, .move (.tmp 11), none⟩]))
def L45 : LCode :=
 .seq (.region [⟨some 4, .move (.const (.slice none 0 0)), none⟩])
 (.seq (.region [⟨some 5, .move (.const (.slice none 0 0)), none⟩])
 (.seq (.seq (.region [⟨some 6, .move (.const (.int .i64 0)), none⟩])
 (.block 0 (.loop L45_1)))
 (.seq (.region [⟨some 20, .move (.tmp 5), none⟩,
  ⟨some 4, .move (.tmp 20), none⟩])
 (.ret))))
theorem light45 : Light Try.prog 45 2 21 L45 [.tmp 4] :=
  ⟨Try.f45, _, Try.func45, rfl, rfl, by kernel_rfl, by kernel_rfl, by decide⟩

/-! ### function 46: outrider/pack.got -/
def L46_1 : LCode :=
 .seq (.seq (.region [⟨some 8, .move (.tmp 4), none⟩,
  ⟨some 9, .bin .geq (.tmp 8) (.const (.int .i64 0)), none⟩])
 (.cond (.tmp 9) (.skip)
 (.exit 0)))
 (.seq (.block 1 (.region [⟨some 12, .move (.tmp 3), none⟩,
  ⟨some 13, .bin .shl (.tmp 12) (.const (.int .u64 8)), none⟩,
  ⟨some 14, .move (.tmp 0), none⟩,
  ⟨some 15, .move (.tmp 4), none⟩,
  ⟨some 16, .idx 1 (.tmp 14) (.tmp 15), none⟩,
  ⟨some 17, .load false 1 (.tmp 16), none⟩,
  ⟨some 18, .conv .u64 (.tmp 17), none⟩,
  ⟨some 19, .bin .or (.tmp 13) (.tmp 18), none⟩,
  ⟨some 3, .move (.tmp 19), none⟩]))
 (.region [⟨some 10, .move (.tmp 4), none⟩,
  ⟨some 11, .bin .sub (.tmp 10) (.const (.int .i64 1)), none⟩,
  ⟨some 4, .move (.tmp 11), none⟩]))
def L46 : LCode :=
 .seq (.region [⟨some 2, .move (.const (.int .u64 0)), none⟩])
 (.seq (.region [⟨some 3, .move (.const (.int .u64 0)), none⟩])
 (.seq (.seq (.region [⟨some 5, .move (.tmp 0), none⟩,
  ⟨some 6, .len (.tmp 5), none⟩,
  ⟨some 7, .bin .sub (.tmp 6) (.const (.int .i64 1)), none⟩,
  ⟨some 4, .move (.tmp 7), none⟩])
 (.block 0 (.loop L46_1)))
 (.seq (.region [⟨some 20, .move (.tmp 3), none⟩,
  ⟨some 2, .move (.tmp 20), none⟩])
 (.ret))))
theorem light46 : Light Try.prog 46 1 21 L46 [.tmp 2] :=
  ⟨Try.f46, _, Try.func46, rfl, rfl, by kernel_rfl, by kernel_rfl, by decide⟩

/-! ### function 47: (*outrider/pack.Reader).next -/
def L47 : LCode :=
 .seq (.region [⟨some 2, .move (.const (.int .u8 0)), none⟩])
 (.seq (.seq (.draw [⟨⟨some 3, .move (.tmp 0), none⟩, .pure, 0, 0⟩,
  ⟨⟨some 4, .nilCheck (.tmp 3), none⟩, .pure, 0, 0⟩,
  ⟨⟨some 5, .off 2 (.tmp 4), none⟩, .pure, 0, 0⟩,
  ⟨⟨some 6, .load false 1 (.tmp 5), none⟩, .read, 0, 0⟩,
  ⟨⟨some 7, .bin .eql (.tmp 6) (.const (.int .i64 0)), none⟩, .pure, 0, 0⟩,
  ⟨⟨some 8, .move (.tmp 7), none⟩, .pure, 0, 0⟩,
  ⟨⟨some 9, .move (.tmp 0), (some (8, true))⟩, .pure, 0, 0⟩,
  ⟨⟨some 10, .nilCheck (.tmp 9), (some (8, true))⟩, .pure, 0, 0⟩,
  ⟨⟨some 11, .off 1 (.tmp 10), (some (8, true))⟩, .pure, 0, 0⟩,
  ⟨⟨some 12, .load false 1 (.tmp 11), (some (8, true))⟩, .read, 0, 0⟩,
  ⟨⟨some 13, .move (.tmp 0), (some (8, true))⟩, .pure, 0, 0⟩,
  ⟨⟨some 14, .nilCheck (.tmp 13), (some (8, true))⟩, .pure, 0, 0⟩,
  ⟨⟨some 15, .off 0 (.tmp 14), (some (8, true))⟩, .pure, 0, 0⟩,
  ⟨⟨some 16, .load false 1 (.tmp 15), (some (8, true))⟩, .read, 0, 0⟩,
  ⟨⟨some 17, .len (.tmp 16), (some (8, true))⟩, .pure, 0, 0⟩,
  ⟨⟨some 18, .bin .eql (.tmp 12) (.tmp 17), (some (8, true))⟩, .pure, 0, 0⟩,
  ⟨⟨some 19, .pick (.tmp 8) (.tmp 18) (.const (.bool false)), none⟩, .pure, 0, 0⟩])
 (.cond (.tmp 19) (.region [⟨some 20, .move (.tmp 0), none⟩,
  ⟨some 21, .call 48 [.tmp 20, .const (.int .i64 20)], none⟩])
 (.skip)))
 (.seq (.seq (.region [⟨some 22, .move (.tmp 0), none⟩,
  ⟨some 23, .nilCheck (.tmp 22), none⟩,
  ⟨some 24, .off 2 (.tmp 23), none⟩,
  ⟨some 25, .load false 1 (.tmp 24), none⟩,
  ⟨some 26, .bin .neq (.tmp 25) (.const (.int .i64 0)), none⟩])
 (.cond (.tmp 26) (.seq (.region [⟨some 2, .move (.const (.int .u8 0)), none⟩])
 (.ret))
 (.skip)))
 (.seq (.region [⟨some 27, .move (.tmp 0), none⟩,
  ⟨some 28, .nilCheck (.tmp 27), none⟩,
  ⟨some 29, .off 1 (.tmp 28), none⟩,
  ⟨some 30, .load false 1 (.tmp 29), none⟩,
  ⟨some 31, .bin .add (.tmp 30) (.const (.int .i64 1)), none⟩,
  ⟨some 32, .nilCheck (.tmp 27), none⟩,
  ⟨some 33, .off 1 (.tmp 32), none⟩,
  ⟨none, .store 1 (.tmp 33) (.tmp 31), none⟩])
 (.seq (.draw [⟨⟨some 34, .move (.tmp 0), none⟩, .pure, 0, 0⟩,
  ⟨⟨some 35, .nilCheck (.tmp 34), none⟩, .pure, 0, 0⟩,
  ⟨⟨some 36, .off 0 (.tmp 35), none⟩, .pure, 0, 0⟩,
  ⟨⟨some 37, .load false 1 (.tmp 36), none⟩, .read, 0, 0⟩,
  ⟨⟨some 38, .move (.tmp 0), none⟩, .pure, 0, 0⟩,
  ⟨⟨some 39, .nilCheck (.tmp 38), none⟩, .pure, 0, 0⟩,
  ⟨⟨some 40, .off 1 (.tmp 39), none⟩, .pure, 0, 0⟩,
  ⟨⟨some 41, .load false 1 (.tmp 40), none⟩, .read, 0, 0⟩,
  ⟨⟨some 42, .bin .sub (.tmp 41) (.const (.int .i64 1)), none⟩, .pure, 0, 0⟩,
  ⟨⟨some 43, .idx 1 (.tmp 37) (.tmp 42), none⟩, .pure, 0, 0⟩,
  ⟨⟨some 44, .load false 1 (.tmp 43), none⟩, .read, 0, 0⟩,
  ⟨⟨some 2, .move (.tmp 44), none⟩, .pure, 0, 0⟩])
 (.ret)))))
theorem light47 : Light Try.prog 47 1 45 L47 [.tmp 2] :=
  ⟨Try.f47, _, Try.func47, rfl, rfl, by kernel_rfl, by kernel_rfl, by decide⟩

/-! ### function 48: (*outrider/pack.Reader).stop -/
def L48 : LCode :=
 .seq (.region [⟨some 4, .move (.tmp 0), none⟩,
  ⟨some 5, .nilCheck (.tmp 4), none⟩,
  ⟨some 6, .off 2 (.tmp 5), none⟩,
  ⟨some 7, .load false 1 (.tmp 6), none⟩,
  ⟨some 8, .bin .eql (.tmp 7) (.const (.int .i64 0)), none⟩])
 (.cond (.tmp 8) (.region [⟨some 9, .move (.tmp 0), none⟩,
  ⟨some 10, .move (.tmp 1), none⟩,
  ⟨some 11, .nilCheck (.tmp 9), none⟩,
  ⟨some 12, .off 2 (.tmp 11), none⟩,
  ⟨none, .store 1 (.tmp 12) (.tmp 10), none⟩])
 (.skip))
theorem light48 : Light Try.prog 48 2 13 L48 [] :=
  ⟨Try.f48, _, Try.func48, rfl, rfl, by kernel_rfl, by kernel_rfl, by decide⟩

/-! ### function 49: outrider/outriderref02.TakeUint -/
def L49_1 : LCode :=
 .seq (.seq (.region [⟨some 8, .off 1 (.tmp 1), none⟩,
  ⟨some 9, .load false 1 (.tmp 8), none⟩,
  ⟨some 10, .bin .eql (.tmp 9) (.const (.int .i64 0)), none⟩])
 (.cond (.tmp 10) (.skip)
 (.exit 0)))
 (.seq (.block 1 (.seq (.region [⟨some 7, .move (.const (.int .u8 0)), none⟩])
 (.seq (.region [⟨some 14, .load true 2 (.tmp 1), none⟩,
  ⟨some 15, .call 56 [.tmp 14], none⟩,
  ⟨some 13, .move (.tmp 15), none⟩,
  ⟨some 16, .extract (.tmp 13) 0, none⟩,
  ⟨some 17, .extract (.tmp 13) 1, none⟩,
  ⟨none, .store 2 (.tmp 1) (.tmp 16), none⟩,
  ⟨some 7, .move (.tmp 17), none⟩])
 (.seq (.seq (.region [⟨some 18, .off 1 (.tmp 1), none⟩,
  ⟨some 19, .load false 1 (.tmp 18), none⟩,
  ⟨some 20, .bin .neq (.tmp 19) (.const (.int .i64 0)), none⟩])
 (.cond (.tmp 20) (.seq (.region [⟨some 21, .load true 2 (.tmp 1), none⟩,
  ⟨none, .store 2 (.tmp 2) (.tmp 21), none⟩,
  ⟨some 3, .move (.const (.int .u64 0)), none⟩])
 (.ret))
 (.skip)))
 (.seq (.seq (.region [⟨some 22, .move (.tmp 6), none⟩,
  ⟨some 23, .bin .gtr (.tmp 22) (.const (.int .i64 0)), none⟩,
  ⟨some 24, .move (.tmp 23), none⟩,
  ⟨some 25, .move (.tmp 7), (some (24, true))⟩,
  ⟨some 26, .bin .eql (.tmp 25) (.const (.int .u8 0)), (some (24, true))⟩,
  ⟨some 27, .pick (.tmp 24) (.tmp 26) (.const (.bool false)), none⟩,
  ⟨some 28, .move (.tmp 27), none⟩,
  ⟨some 29, .move (.tmp 6), (some (28, false))⟩,
  ⟨some 30, .bin .eql (.tmp 29) (.const (.int .i64 9)), (some (28, false))⟩,
  ⟨some 31, .move (.tmp 30), (some (28, false))⟩,
  ⟨some 32, .move (.tmp 7), (some (31, true))⟩,
  ⟨some 33, .bin .gtr (.tmp 32) (.const (.int .u8 1)), (some (31, true))⟩,
  ⟨some 34, .pick (.tmp 31) (.tmp 33) (.const (.bool false)), (some (28, false))⟩,
  ⟨some 35, .pick (.tmp 28) (.const (.bool true)) (.tmp 34), none⟩])
 (.cond (.tmp 35) (.seq (.region [⟨some 36, .off 1 (.tmp 1), none⟩,
  ⟨none, .store 1 (.tmp 36) (.const (.int .i64 21)), none⟩])
 (.seq (.region [⟨some 37, .load true 2 (.tmp 1), none⟩,
  ⟨none, .store 2 (.tmp 2) (.tmp 37), none⟩,
  ⟨some 3, .move (.const (.int .u64 0)), none⟩])
 (.ret)))
 (.skip)))
 (.seq (.region [⟨some 38, .move (.tmp 4), none⟩,
  ⟨some 39, .move (.tmp 7), none⟩,
  ⟨some 40, .bin .rem (.tmp 39) (.const (.int .u8 128)), none⟩,
  ⟨some 41, .conv .u64 (.tmp 40), none⟩,
  ⟨some 42, .move (.tmp 5), none⟩,
  ⟨some 43, .bin .mul (.tmp 41) (.tmp 42), none⟩,
  ⟨some 44, .bin .add (.tmp 38) (.tmp 43), none⟩,
  ⟨some 4, .move (.tmp 44), none⟩])
 (.seq (.region [⟨some 45, .move (.tmp 5), none⟩,
  ⟨some 46, .bin .mul (.tmp 45) (.const (.int .u64 128)), none⟩,
  ⟨some 5, .move (.tmp 46), none⟩])
 (.seq (.region [⟨some 47, .move (.tmp 7), none⟩,
  ⟨some 48, .bin .lss (.tmp 47) (.const (.int .u8 128)), none⟩])
 (.cond (.tmp 48) (.seq (.region [⟨some 49, .load true 2 (.tmp 1), none⟩,
  ⟨some 50, .move (.tmp 4), none⟩,
  ⟨none, .store 2 (.tmp 2) (.tmp 49), none⟩,
  ⟨some 3, .move (.tmp 50), none⟩])
 (.ret))
 (.skip))))))))))
 (.region [⟨some 11, .move (.tmp 6), none⟩,
  ⟨some 12, .bin .add (.tmp 11) (.const (.int .i64 1)), none⟩,
  ⟨some 6, .move (.tmp 12), none⟩]))
def L49 : LCode :=
 .seq (.region [⟨some 1, .box 53 2 (.tmp 0), none⟩,
  ⟨some 2, .new 53 2 [.slice none 0 0, .int .i64 0], none⟩,
  ⟨some 3, .move (.const (.int .u64 0)), none⟩])
 (.seq (.region [⟨some 4, .move (.const (.int .u64 0)), none⟩,
  ⟨some 5, .move (.const (.int .u64 1)), none⟩])
 (.seq (.seq (.region [⟨some 6, .move (.const (.int .i64 0)), none⟩])
 (.block 0 (.loop L49_1)))
 (.seq (.region [⟨some 51, .load true 2 (.tmp 1), none⟩,
  ⟨none, .store 2 (.tmp 2) (.tmp 51), none⟩,
  ⟨some 3, .move (.const (.int .u64 0)), none⟩])
 (.ret))))
theorem light49 : Light Try.prog 49 1 52 L49 [.cell 2 true 2, .tmp 3] :=
  ⟨Try.f49, _, Try.func49, rfl, rfl, by kernel_rfl, by kernel_rfl, by decide⟩

/-! ### function 50: outrider/outriderref02.TakeInt -/
def L50 : LCode :=
 .seq (.region [⟨some 1, .box 53 2 (.tmp 0), none⟩,
  ⟨some 2, .new 53 2 [.slice none 0 0, .int .i64 0], none⟩,
  ⟨some 3, .move (.const (.int .i64 0)), none⟩])
 (.seq (.region [⟨some 6, .load true 2 (.tmp 1), none⟩,
  ⟨some 7, .call 49 [.tmp 6], none⟩,
  ⟨some 5, .move (.tmp 7), none⟩,
  ⟨some 8, .extract (.tmp 5) 0, none⟩,
  ⟨some 9, .extract (.tmp 5) 1, none⟩,
  ⟨none, .store 2 (.tmp 1) (.tmp 8), none⟩,
  ⟨some 4, .move (.tmp 9), none⟩])
 (.seq (.seq (.region [⟨some 10, .move (.tmp 4), none⟩,
  ⟨some 11, .bin .rem (.tmp 10) (.const (.int .u64 2)), none⟩,
  ⟨some 12, .bin .eql (.tmp 11) (.const (.int .u64 0)), none⟩])
 (.cond (.tmp 12) (.seq (.region [⟨some 13, .load true 2 (.tmp 1), none⟩,
  ⟨some 14, .move (.tmp 4), none⟩,
  ⟨some 15, .bin .quo (.tmp 14) (.const (.int .u64 2)), none⟩,
  ⟨some 16, .conv .i64 (.tmp 15), none⟩,
  ⟨none, .store 2 (.tmp 2) (.tmp 13), none⟩,
  ⟨some 3, .move (.tmp 16), none⟩])
 (.ret))
 (.skip)))
 (.seq (.region [⟨some 17, .load true 2 (.tmp 1), none⟩,
  ⟨some 18, .move (.tmp 4), none⟩,
  ⟨some 19, .bin .quo (.tmp 18) (.const (.int .u64 2)), none⟩,
  ⟨some 20, .conv .i64 (.tmp 19), none⟩,
  ⟨some 21, .un .neg (.tmp 20), none⟩,
  ⟨some 22, .bin .sub (.tmp 21) (.const (.int .i64 1)), none⟩,
  ⟨none, .store 2 (.tmp 2) (.tmp 17), none⟩,
  ⟨some 3, .move (.tmp 22), none⟩])
 (.ret))))
theorem light50 : Light Try.prog 50 1 23 L50 [.cell 2 true 2, .tmp 3] :=
  ⟨Try.f50, _, Try.func50, rfl, rfl, by kernel_rfl, by kernel_rfl, by decide⟩

/-! ### function 51: outrider/outriderref02.TakeFlag -/
def L51 : LCode :=
 .seq (.region [⟨some 1, .box 53 2 (.tmp 0), none⟩,
  ⟨some 2, .new 53 2 [.slice none 0 0, .int .i64 0], none⟩,
  ⟨some 3, .move (.const (.bool false)), none⟩])
 (.seq (.region [⟨some 6, .load true 2 (.tmp 1), none⟩,
  ⟨some 7, .call 56 [.tmp 6], none⟩,
  ⟨some 5, .move (.tmp 7), none⟩,
  ⟨some 8, .extract (.tmp 5) 0, none⟩,
  ⟨some 9, .extract (.tmp 5) 1, none⟩,
  ⟨none, .store 2 (.tmp 1) (.tmp 8), none⟩,
  ⟨some 4, .move (.tmp 9), none⟩])
 (.seq (.seq (.region [⟨some 10, .off 1 (.tmp 1), none⟩,
  ⟨some 11, .load false 1 (.tmp 10), none⟩,
  ⟨some 12, .bin .eql (.tmp 11) (.const (.int .i64 0)), none⟩,
  ⟨some 13, .move (.tmp 12), none⟩,
  ⟨some 14, .move (.tmp 4), (some (13, true))⟩,
  ⟨some 15, .bin .gtr (.tmp 14) (.const (.int .u8 1)), (some (13, true))⟩,
  ⟨some 16, .pick (.tmp 13) (.tmp 15) (.const (.bool false)), none⟩])
 (.cond (.tmp 16) (.seq (.region [⟨some 17, .off 1 (.tmp 1), none⟩,
  ⟨none, .store 1 (.tmp 17) (.const (.int .i64 21)), none⟩])
 (.seq (.region [⟨some 18, .load true 2 (.tmp 1), none⟩,
  ⟨none, .store 2 (.tmp 2) (.tmp 18), none⟩,
  ⟨some 3, .move (.const (.bool false)), none⟩])
 (.ret)))
 (.skip)))
 (.seq (.region [⟨some 19, .load true 2 (.tmp 1), none⟩,
  ⟨some 20, .move (.tmp 4), none⟩,
  ⟨some 21, .bin .eql (.tmp 20) (.const (.int .u8 1)), none⟩,
  ⟨none, .store 2 (.tmp 2) (.tmp 19), none⟩,
  ⟨some 3, .move (.tmp 21), none⟩])
 (.ret))))
theorem light51 : Light Try.prog 51 1 22 L51 [.cell 2 true 2, .tmp 3] :=
  ⟨Try.f51, _, Try.func51, rfl, rfl, by kernel_rfl, by kernel_rfl, by decide⟩

/-! ### function 52: outrider/outriderref02.TakeText -/
def L52 : LCode :=
 .seq (.region [⟨some 1, .box 53 2 (.tmp 0), none⟩,
  ⟨some 2, .new 53 2 [.slice none 0 0, .int .i64 0], none⟩,
  ⟨some 3, .move (.const (.string ByteArray.empty)), none⟩])
 (.seq (.region [⟨some 7, .load true 2 (.tmp 1), none⟩,
  ⟨some 8, .call 54 [.tmp 7, .const (.int .i64 1)], none⟩,
  ⟨some 6, .move (.tmp 8), none⟩,
  ⟨some 9, .extract (.tmp 6) 0, none⟩,
  ⟨some 10, .extract (.tmp 6) 1, none⟩,
  ⟨none, .store 2 (.tmp 1) (.tmp 9), none⟩,
  ⟨some 4, .move (.tmp 10), none⟩])
 (.seq (.seq (.region [⟨some 11, .off 1 (.tmp 1), none⟩,
  ⟨some 12, .load false 1 (.tmp 11), none⟩,
  ⟨some 13, .bin .neq (.tmp 12) (.const (.int .i64 0)), none⟩])
 (.cond (.tmp 13) (.seq (.region [⟨some 14, .load true 2 (.tmp 1), none⟩,
  ⟨none, .store 2 (.tmp 2) (.tmp 14), none⟩,
  ⟨some 3, .move (.const (.string ByteArray.empty)), none⟩])
 (.ret))
 (.skip)))
 (.seq (.region [⟨some 15, .off 0 (.tmp 1), none⟩,
  ⟨some 16, .load false 1 (.tmp 15), none⟩,
  ⟨some 17, .move (.tmp 4), none⟩,
  ⟨some 18, .slice 1 (.tmp 16) none (some (.tmp 17)) none, none⟩,
  ⟨some 19, .toStr (.tmp 18), none⟩,
  ⟨some 5, .move (.tmp 19), none⟩])
 (.seq (.region [⟨some 20, .off 0 (.tmp 1), none⟩,
  ⟨some 21, .load false 1 (.tmp 20), none⟩,
  ⟨some 22, .move (.tmp 4), none⟩,
  ⟨some 23, .slice 1 (.tmp 21) (some (.tmp 22)) none none, none⟩,
  ⟨some 24, .off 0 (.tmp 1), none⟩,
  ⟨none, .store 1 (.tmp 24) (.tmp 23), none⟩])
 (.seq (.region [⟨some 25, .load true 2 (.tmp 1), none⟩,
  ⟨some 26, .move (.tmp 5), none⟩,
  ⟨none, .store 2 (.tmp 2) (.tmp 25), none⟩,
  ⟨some 3, .move (.tmp 26), none⟩])
 (.ret))))))
theorem light52 : Light Try.prog 52 1 27 L52 [.cell 2 true 2, .tmp 3] :=
  ⟨Try.f52, _, Try.func52, rfl, rfl, by kernel_rfl, by kernel_rfl, by decide⟩

/-! ### function 53: outrider/outriderref02.TakeInts -/
def L53_1 : LCode :=
 .seq (.seq (.region [⟨some 13, .move (.tmp 6), none⟩,
  ⟨some 14, .move (.tmp 4), none⟩,
  ⟨some 15, .bin .lss (.tmp 13) (.tmp 14), none⟩,
  ⟨some 16, .move (.tmp 15), none⟩,
  ⟨some 17, .off 1 (.tmp 1), (some (16, true))⟩,
  ⟨some 18, .load false 1 (.tmp 17), (some (16, true))⟩,
  ⟨some 19, .bin .eql (.tmp 18) (.const (.int .i64 0)), (some (16, true))⟩,
  ⟨some 20, .pick (.tmp 16) (.tmp 19) (.const (.bool false)), none⟩])
 (.cond (.tmp 20) (.skip)
 (.exit 0)))
 (.seq (.block 1 (.seq (.region [⟨some 7, .move (.const (.int .i64 0)), none⟩])
 (.seq (.region [⟨some 24, .load true 2 (.tmp 1), none⟩,
  ⟨some 25, .call 50 [.tmp 24], none⟩,
  ⟨some 23, .move (.tmp 25), none⟩,
  ⟨some 26, .extract (.tmp 23) 0, none⟩,
  ⟨some 27, .extract (.tmp 23) 1, none⟩,
  ⟨none, .store 2 (.tmp 1) (.tmp 26), none⟩,
  ⟨some 7, .move (.tmp 27), none⟩])
 (.region [⟨some 28, .move (.tmp 5), none⟩,
  ⟨some 29, .move (.tmp 7), none⟩,
  ⟨some 30, .buildSlice 2 1 1 [.int .i64 0] [(0, 1, .tmp 29)], none⟩,
  ⟨some 31, .append 2 1 8 (.tmp 28) (.tmp 30), none⟩,
  ⟨some 5, .move (.tmp 31), none⟩]))))
 (.region [⟨some 21, .move (.tmp 6), none⟩,
  ⟨some 22, .bin .add (.tmp 21) (.const (.int .i64 1)), none⟩,
  ⟨some 6, .move (.tmp 22), none⟩]))
def L53 : LCode :=
 .seq (.region [⟨some 1, .box 53 2 (.tmp 0), none⟩,
  ⟨some 2, .new 53 2 [.slice none 0 0, .int .i64 0], none⟩,
  ⟨some 3, .move (.const (.slice none 0 0)), none⟩])
 (.seq (.region [⟨some 9, .load true 2 (.tmp 1), none⟩,
  ⟨some 10, .call 54 [.tmp 9, .const (.int .i64 1)], none⟩,
  ⟨some 8, .move (.tmp 10), none⟩,
  ⟨some 11, .extract (.tmp 8) 0, none⟩,
  ⟨some 12, .extract (.tmp 8) 1, none⟩,
  ⟨none, .store 2 (.tmp 1) (.tmp 11), none⟩,
  ⟨some 4, .move (.tmp 12), none⟩])
 (.seq (.region [⟨some 5, .move (.const (.slice none 0 0)), none⟩])
 (.seq (.seq (.region [⟨some 6, .move (.const (.int .i64 0)), none⟩])
 (.block 0 (.loop L53_1)))
 (.seq (.seq (.region [⟨some 32, .off 1 (.tmp 1), none⟩,
  ⟨some 33, .load false 1 (.tmp 32), none⟩,
  ⟨some 34, .bin .neq (.tmp 33) (.const (.int .i64 0)), none⟩])
 (.cond (.tmp 34) (.seq (.region [⟨some 35, .load true 2 (.tmp 1), none⟩,
  ⟨none, .store 2 (.tmp 2) (.tmp 35), none⟩,
  ⟨some 3, .move (.const (.slice none 0 0)), none⟩])
 (.ret))
 (.skip)))
 (.seq (.region [⟨some 36, .load true 2 (.tmp 1), none⟩,
  ⟨some 37, .move (.tmp 5), none⟩,
  ⟨none, .store 2 (.tmp 2) (.tmp 36), none⟩,
  ⟨some 3, .move (.tmp 37), none⟩])
 (.ret))))))
theorem light53 : Light Try.prog 53 1 38 L53 [.cell 2 true 2, .tmp 3] :=
  ⟨Try.f53, _, Try.func53, rfl, rfl, by kernel_rfl, by kernel_rfl, by decide⟩

/-! ### function 54: outrider/outriderref02.TakeCount -/
def L54 : LCode :=
 .seq (.region [⟨some 2, .box 53 2 (.tmp 0), none⟩,
  ⟨some 4, .new 53 2 [.slice none 0 0, .int .i64 0], none⟩,
  ⟨some 5, .move (.const (.int .i64 0)), none⟩])
 (.seq (.region [⟨some 8, .load true 2 (.tmp 2), none⟩,
  ⟨some 9, .call 49 [.tmp 8], none⟩,
  ⟨some 7, .move (.tmp 9), none⟩,
  ⟨some 10, .extract (.tmp 7) 0, none⟩,
  ⟨some 11, .extract (.tmp 7) 1, none⟩,
  ⟨none, .store 2 (.tmp 2) (.tmp 10), none⟩,
  ⟨some 6, .move (.tmp 11), none⟩])
 (.seq (.seq (.region [⟨some 12, .move (.tmp 1), none⟩,
  ⟨some 13, .bin .lss (.tmp 12) (.const (.int .i64 1)), none⟩])
 (.cond (.tmp 13) (.region [⟨some 1, .move (.const (.int .i64 1)), none⟩])
 (.skip)))
 (.seq (.seq (.region [⟨some 14, .off 1 (.tmp 2), none⟩,
  ⟨some 15, .load false 1 (.tmp 14), none⟩,
  ⟨some 16, .bin .neq (.tmp 15) (.const (.int .i64 0)), none⟩])
 (.cond (.tmp 16) (.seq (.region [⟨some 17, .load true 2 (.tmp 2), none⟩,
  ⟨none, .store 2 (.tmp 4) (.tmp 17), none⟩,
  ⟨some 5, .move (.const (.int .i64 0)), none⟩])
 (.ret))
 (.skip)))
 (.seq (.seq (.region [⟨some 18, .move (.tmp 6), none⟩,
  ⟨some 19, .off 0 (.tmp 2), none⟩,
  ⟨some 20, .load false 1 (.tmp 19), none⟩,
  ⟨some 21, .len (.tmp 20), none⟩,
  ⟨some 22, .move (.tmp 1), none⟩,
  ⟨some 23, .bin .quo (.tmp 21) (.tmp 22), none⟩,
  ⟨some 24, .conv .u64 (.tmp 23), none⟩,
  ⟨some 25, .bin .gtr (.tmp 18) (.tmp 24), none⟩])
 (.cond (.tmp 25) (.seq (.region [⟨some 26, .off 1 (.tmp 2), none⟩,
  ⟨none, .store 1 (.tmp 26) (.const (.int .i64 20)), none⟩])
 (.seq (.region [⟨some 27, .load true 2 (.tmp 2), none⟩,
  ⟨none, .store 2 (.tmp 4) (.tmp 27), none⟩,
  ⟨some 5, .move (.const (.int .i64 0)), none⟩])
 (.ret)))
 (.skip)))
 (.seq (.region [⟨some 28, .load true 2 (.tmp 2), none⟩,
  ⟨some 29, .move (.tmp 6), none⟩,
  ⟨some 30, .conv .i64 (.tmp 29), none⟩,
  ⟨none, .store 2 (.tmp 4) (.tmp 28), none⟩,
  ⟨some 5, .move (.tmp 30), none⟩])
 (.ret))))))
theorem light54 : Light Try.prog 54 2 31 L54 [.cell 4 true 2, .tmp 5] :=
  ⟨Try.f54, _, Try.func54, rfl, rfl, by kernel_rfl, by kernel_rfl, by decide⟩

/-! ### function 55: (*outrider/pack.Reader).Count -/
def L55 : LCode :=
 .seq (.region [⟨some 4, .move (.const (.int .i64 0)), none⟩])
 (.seq (.region [⟨some 6, .move (.tmp 0), none⟩,
  ⟨some 7, .call 24 [.tmp 6], none⟩,
  ⟨some 5, .move (.tmp 7), none⟩])
 (.seq (.seq (.region [⟨some 8, .move (.tmp 5), none⟩,
  ⟨some 9, .move (.tmp 0), none⟩,
  ⟨some 10, .call 25 [.tmp 9], none⟩,
  ⟨some 11, .conv .u64 (.tmp 10), none⟩,
  ⟨some 12, .move (.tmp 1), none⟩,
  ⟨some 13, .minmax true (.tmp 12) [.const (.int .i64 1)], none⟩,
  ⟨some 14, .conv .u64 (.tmp 13), none⟩,
  ⟨some 15, .bin .quo (.tmp 11) (.tmp 14), none⟩,
  ⟨some 16, .bin .gtr (.tmp 8) (.tmp 15), none⟩])
 (.cond (.tmp 16) (.seq (.region [⟨some 17, .move (.tmp 0), none⟩,
  ⟨some 18, .call 48 [.tmp 17, .const (.int .i64 20)], none⟩])
 (.seq (.region [⟨some 4, .move (.const (.int .i64 0)), none⟩])
 (.ret)))
 (.skip)))
 (.seq (.region [⟨some 19, .move (.tmp 5), none⟩,
  ⟨some 20, .conv .i64 (.tmp 19), none⟩,
  ⟨some 4, .move (.tmp 20), none⟩])
 (.ret))))
theorem light55 : Light Try.prog 55 2 21 L55 [.tmp 4] :=
  ⟨Try.f55, _, Try.func55, rfl, rfl, by kernel_rfl, by kernel_rfl, by decide⟩

/-! ### function 56: outrider/outriderref02.Byte -/
def L56 : LCode :=
 .seq (.region [⟨some 1, .box 53 2 (.tmp 0), none⟩,
  ⟨some 2, .new 53 2 [.slice none 0 0, .int .i64 0], none⟩,
  ⟨some 3, .move (.const (.int .u8 0)), none⟩])
 (.seq (.seq (.region [⟨some 5, .off 1 (.tmp 1), none⟩,
  ⟨some 6, .load false 1 (.tmp 5), none⟩,
  ⟨some 7, .bin .neq (.tmp 6) (.const (.int .i64 0)), none⟩])
 (.cond (.tmp 7) (.seq (.region [⟨some 8, .load true 2 (.tmp 1), none⟩,
  ⟨none, .store 2 (.tmp 2) (.tmp 8), none⟩,
  ⟨some 3, .move (.const (.int .u8 0)), none⟩])
 (.ret))
 (.skip)))
 (.seq (.seq (.region [⟨some 9, .off 0 (.tmp 1), none⟩,
  ⟨some 10, .load false 1 (.tmp 9), none⟩,
  ⟨some 11, .len (.tmp 10), none⟩,
  ⟨some 12, .bin .eql (.tmp 11) (.const (.int .i64 0)), none⟩])
 (.cond (.tmp 12) (.seq (.region [⟨some 13, .off 1 (.tmp 1), none⟩,
  ⟨none, .store 1 (.tmp 13) (.const (.int .i64 20)), none⟩])
 (.seq (.region [⟨some 14, .load true 2 (.tmp 1), none⟩,
  ⟨none, .store 2 (.tmp 2) (.tmp 14), none⟩,
  ⟨some 3, .move (.const (.int .u8 0)), none⟩])
 (.ret)))
 (.skip)))
 (.seq (.region [⟨some 15, .off 0 (.tmp 1), none⟩,
  ⟨some 16, .load false 1 (.tmp 15), none⟩,
  ⟨some 17, .idx 1 (.tmp 16) (.const (.int .i64 0)), none⟩,
  ⟨some 18, .load false 1 (.tmp 17), none⟩,
  ⟨some 4, .move (.tmp 18), none⟩])
 (.seq (.region [⟨some 19, .off 0 (.tmp 1), none⟩,
  ⟨some 20, .load false 1 (.tmp 19), none⟩,
  ⟨some 21, .slice 1 (.tmp 20) (some (.const (.int .i64 1))) none none, none⟩,
  ⟨some 22, .off 0 (.tmp 1), none⟩,
  ⟨none, .store 1 (.tmp 22) (.tmp 21), none⟩])
 (.seq (.region [⟨some 23, .load true 2 (.tmp 1), none⟩,
  ⟨some 24, .move (.tmp 4), none⟩,
  ⟨none, .store 2 (.tmp 2) (.tmp 23), none⟩,
  ⟨some 3, .move (.tmp 24), none⟩])
 (.ret))))))
theorem light56 : Light Try.prog 56 1 25 L56 [.cell 2 true 2, .tmp 3] :=
  ⟨Try.f56, _, Try.func56, rfl, rfl, by kernel_rfl, by kernel_rfl, by decide⟩

end Go.Proofs.Ytpcgganldmmpoaa
