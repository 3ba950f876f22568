/-
  The light code of functions of this seat: printed by a program of this session (wip/tools/lightgen.py); each is held against the program by the kernel.
-/
import Derived.Test.YtjpdoflmjokplaaOtT
import Derived.KernelRfl
import Derived.Test.YtjpdoflmjokplaaProg
set_option maxRecDepth 100000
namespace Go.Proofs.Ytjpdoflmjokplaa
open Go.Ot

/-! ### function 3: outrider/outriderlaw22.AttemptHolds -/
def L3_1 : LCode :=
 .seq (.seq (.region [⟨some 35, .move (.tmp 10), none⟩,
  ⟨some 36, .move (.tmp 0), none⟩,
  ⟨some 37, .len (.tmp 36), none⟩,
  ⟨some 38, .bin .lss (.tmp 35) (.tmp 37), none⟩])
 (.cond (.tmp 38) (.skip)
 (.exit 0)))
 (.seq (.block 1 (.seq (.region [⟨some 41, .move (.tmp 0), none⟩,
  ⟨some 42, .move (.tmp 10), none⟩,
  ⟨some 43, .idx 3 (.tmp 41) (.tmp 42), none⟩,
  ⟨some 44, .load true 3 (.tmp 43), none⟩,
  ⟨some 11, .new 29 3 [.int .i64 0, .int .i64 0, .int .i64 0], none⟩,
  ⟨none, .store 3 (.tmp 11) (.tmp 44), none⟩])
 (.seq (.region [⟨some 45, .off 0 (.tmp 11), none⟩,
  ⟨some 46, .load false 1 (.tmp 45), none⟩,
  ⟨some 47, .bin .geq (.tmp 46) (.const (.int .i64 0)), none⟩,
  ⟨some 48, .move (.tmp 47), none⟩,
  ⟨some 49, .off 0 (.tmp 11), (some (48, true))⟩,
  ⟨some 50, .load false 1 (.tmp 49), (some (48, true))⟩,
  ⟨some 51, .move (.tmp 9), (some (48, true))⟩,
  ⟨some 52, .len (.tmp 51), (some (48, true))⟩,
  ⟨some 53, .bin .lss (.tmp 50) (.tmp 52), (some (48, true))⟩,
  ⟨some 54, .pick (.tmp 48) (.tmp 53) (.const (.bool false)), none⟩])
 (.cond (.tmp 54) (.seq (.region [⟨some 55, .move (.tmp 9), none⟩,
  ⟨some 56, .off 0 (.tmp 11), none⟩,
  ⟨some 57, .load false 1 (.tmp 56), none⟩,
  ⟨some 58, .idx 1 (.tmp 55) (.tmp 57), none⟩,
  ⟨some 59, .load false 1 (.tmp 58), none⟩,
  ⟨some 60, .off 1 (.tmp 11), none⟩,
  ⟨none, .store 1 (.tmp 60) (.tmp 59), none⟩])
 (.region [⟨some 61, .move (.tmp 7), none⟩,
  ⟨some 62, .load true 3 (.tmp 11), none⟩,
  ⟨some 63, .call 7 [.tmp 61, .tmp 62], none⟩]))
 (.skip)))))
 (.region [⟨some 39, .move (.tmp 10), none⟩,
  ⟨some 40, .bin .add (.tmp 39) (.const (.int .i64 1)), none⟩,
  ⟨some 10, .move (.tmp 40), none⟩]))
def L3 : LCode :=
 .seq (.region [⟨some 6, .move (.const (.bool false)), none⟩])
 (.seq (.seq (.region [⟨some 14, .move (.tmp 1), none⟩,
  ⟨some 15, .len (.tmp 14), none⟩,
  ⟨some 16, .bin .gtr (.tmp 15) (.const (.int .i64 100)), none⟩,
  ⟨some 17, .move (.tmp 16), none⟩,
  ⟨some 18, .move (.tmp 0), (some (17, false))⟩,
  ⟨some 19, .len (.tmp 18), (some (17, false))⟩,
  ⟨some 20, .bin .gtr (.tmp 19) (.const (.int .i64 64)), (some (17, false))⟩,
  ⟨some 21, .pick (.tmp 17) (.const (.bool true)) (.tmp 20), none⟩])
 (.cond (.tmp 21) (.seq (.region [⟨some 6, .move (.const (.bool true)), none⟩])
 (.ret))
 (.skip)))
 (.seq (.region [⟨some 23, .call 6 [.const (.int .i64 64), .const (.int .i64 1), .const (.int .i64 1), .const (.slice none 0 0)], none⟩,
  ⟨some 22, .move (.tmp 23), none⟩,
  ⟨some 24, .extract (.tmp 22) 0, none⟩,
  ⟨some 25, .extract (.tmp 22) 1, none⟩,
  ⟨some 7, .move (.tmp 24), none⟩,
  ⟨some 8, .move (.tmp 25), none⟩])
 (.seq (.seq (.region [⟨some 26, .move (.tmp 8), none⟩,
  ⟨some 27, .bin .neq (.tmp 26) (.const (.int .i64 0)), none⟩,
  ⟨some 28, .move (.tmp 27), none⟩,
  ⟨some 29, .move (.tmp 7), (some (28, false))⟩,
  ⟨some 30, .isNil false (.pointer 71) (.tmp 29), (some (28, false))⟩,
  ⟨some 31, .pick (.tmp 28) (.const (.bool true)) (.tmp 30), none⟩])
 (.cond (.tmp 31) (.seq (.region [⟨some 6, .move (.const (.bool false)), none⟩])
 (.ret))
 (.skip)))
 (.seq (.region [⟨some 32, .buildSlice 2 1 0 [.int .i64 0] [], none⟩,
  ⟨some 33, .move (.tmp 1), none⟩,
  ⟨some 34, .append 2 1 8 (.tmp 32) (.tmp 33), none⟩,
  ⟨some 9, .move (.tmp 34), none⟩])
 (.seq (.seq (.region [⟨some 10, .move (.const (.int .i64 0)), none⟩])
 (.block 0 (.loop L3_1)))
 (.seq (.seq (.region [⟨some 64, .move (.tmp 7), none⟩,
  ⟨some 65, .move (.tmp 9), none⟩,
  ⟨some 66, .call 8 [.tmp 64, .tmp 65], none⟩,
  ⟨some 67, .un .not (.tmp 66), none⟩])
 (.cond (.tmp 67) (.seq (.region [⟨some 6, .move (.const (.bool false)), none⟩])
 (.ret))
 (.skip)))
 (.seq (.seq (.region [⟨some 68, .move (.tmp 9), none⟩,
  ⟨some 69, .len (.tmp 68), none⟩,
  ⟨some 70, .bin .eql (.tmp 69) (.const (.int .i64 0)), none⟩])
 (.cond (.tmp 70) (.seq (.region [⟨some 71, .call 9 [], none⟩,
  ⟨some 6, .move (.tmp 71), none⟩])
 (.ret))
 (.skip)))
 (.seq (.region [⟨some 72, .move (.tmp 2), none⟩,
  ⟨some 73, .move (.tmp 9), none⟩,
  ⟨some 74, .len (.tmp 73), none⟩,
  ⟨some 75, .bin .rem (.tmp 72) (.tmp 74), none⟩,
  ⟨some 76, .move (.tmp 9), none⟩,
  ⟨some 77, .len (.tmp 76), none⟩,
  ⟨some 78, .bin .add (.tmp 75) (.tmp 77), none⟩,
  ⟨some 79, .move (.tmp 9), none⟩,
  ⟨some 80, .len (.tmp 79), none⟩,
  ⟨some 81, .bin .rem (.tmp 78) (.tmp 80), none⟩,
  ⟨some 2, .move (.tmp 81), none⟩])
 (.seq (.region [⟨some 82, .move (.tmp 9), none⟩,
  ⟨some 83, .move (.tmp 2), none⟩,
  ⟨some 84, .move (.tmp 9), none⟩,
  ⟨some 85, .move (.tmp 2), none⟩,
  ⟨some 86, .idx 1 (.tmp 84) (.tmp 85), none⟩,
  ⟨some 87, .load false 1 (.tmp 86), none⟩,
  ⟨some 88, .bin .xor (.tmp 87) (.const (.int .i64 1)), none⟩,
  ⟨some 89, .idx 1 (.tmp 82) (.tmp 83), none⟩,
  ⟨none, .store 1 (.tmp 89) (.tmp 88), none⟩])
 (.seq (.region [⟨some 91, .move (.tmp 7), none⟩,
  ⟨some 92, .move (.tmp 2), none⟩,
  ⟨some 93, .call 10 [.tmp 91, .tmp 92], none⟩,
  ⟨some 90, .move (.tmp 93), none⟩,
  ⟨some 94, .extract (.tmp 90) 0, none⟩,
  ⟨some 95, .extract (.tmp 90) 1, none⟩,
  ⟨some 12, .new 29 3 [.int .i64 0, .int .i64 0, .int .i64 0], none⟩,
  ⟨none, .store 3 (.tmp 12) (.tmp 94), none⟩,
  ⟨some 13, .move (.tmp 95), none⟩])
 (.seq (.region [⟨some 96, .move (.tmp 7), none⟩,
  ⟨some 97, .move (.tmp 9), none⟩,
  ⟨some 98, .call 8 [.tmp 96, .tmp 97], none⟩,
  ⟨some 99, .move (.tmp 13), none⟩,
  ⟨some 100, .eqB true (.tmp 98) (.tmp 99), none⟩,
  ⟨some 101, .move (.tmp 100), none⟩,
  ⟨some 102, .call 9 [], (some (101, true))⟩,
  ⟨some 103, .pick (.tmp 101) (.tmp 102) (.const (.bool false)), none⟩,
  ⟨some 6, .move (.tmp 103), none⟩])
 (.ret))))))))))))
theorem light3 : Light Try.prog 3 3 104 L3 [.tmp 6] :=
  ⟨Try.f3, _, Try.func3, rfl, rfl, by kernel_rfl, by kernel_rfl, by decide⟩

/-! ### function 4: outrider/outriderlaw22.AttemptPlays -/
def L4_1 : LCode :=
 .seq (.seq (.region [⟨some 63, .move (.tmp 12), none⟩,
  ⟨some 64, .off 3 (.tmp 3), none⟩,
  ⟨some 65, .load false 1 (.tmp 64), none⟩,
  ⟨some 66, .len (.tmp 65), none⟩,
  ⟨some 67, .bin .lss (.tmp 63) (.tmp 66), none⟩])
 (.cond (.tmp 67) (.skip)
 (.exit 0)))
 (.seq (.block 1 (.region [⟨some 70, .move (.tmp 11), none⟩,
  ⟨some 71, .off 3 (.tmp 3), none⟩,
  ⟨some 72, .load false 1 (.tmp 71), none⟩,
  ⟨some 73, .move (.tmp 12), none⟩,
  ⟨some 74, .idx 2 (.tmp 72) (.tmp 73), none⟩,
  ⟨some 75, .off 1 (.tmp 74), none⟩,
  ⟨some 76, .load false 1 (.tmp 75), none⟩,
  ⟨some 77, .buildSlice 2 1 1 [.int .i64 0] [(0, 1, .tmp 76)], none⟩,
  ⟨some 78, .append 2 1 8 (.tmp 70) (.tmp 77), none⟩,
  ⟨some 11, .move (.tmp 78), none⟩]))
 (.region [⟨some 68, .move (.tmp 12), none⟩,
  ⟨some 69, .bin .add (.tmp 68) (.const (.int .i64 1)), none⟩,
  ⟨some 12, .move (.tmp 69), none⟩]))
def L4_2 : LCode :=
 .seq (.seq (.region [⟨some 79, .move (.tmp 13), none⟩,
  ⟨some 80, .move (.tmp 1), none⟩,
  ⟨some 81, .len (.tmp 80), none⟩,
  ⟨some 82, .bin .lss (.tmp 79) (.tmp 81), none⟩,
  ⟨some 83, .move (.tmp 82), none⟩,
  ⟨some 84, .move (.tmp 7), (some (83, true))⟩,
  ⟨some 85, .isNil true (.pointer 71) (.tmp 84), (some (83, true))⟩,
  ⟨some 86, .pick (.tmp 83) (.tmp 85) (.const (.bool false)), none⟩])
 (.cond (.tmp 86) (.skip)
 (.exit 2)))
 (.seq (.block 3 (.seq (.region [⟨some 14, .move (.const (.bool false)), none⟩])
 (.seq (.draw [⟨⟨some 90, .move (.tmp 7), none⟩, .pure, 0, 0⟩,
  ⟨⟨some 91, .load true 8 (.tmp 9), none⟩, .read, 0, 0⟩,
  ⟨⟨some 92, .move (.tmp 1), none⟩, .pure, 0, 0⟩,
  ⟨⟨some 93, .move (.tmp 13), none⟩, .pure, 0, 0⟩,
  ⟨⟨some 94, .idx 4 (.tmp 92) (.tmp 93), none⟩, .pure, 0, 0⟩,
  ⟨⟨some 95, .load true 4 (.tmp 94), none⟩, .read, 0, 0⟩,
  ⟨⟨some 96, .call 12 [.tmp 90, .tmp 91, .tmp 95], none⟩, .heavy, 0, 1⟩,
  ⟨⟨some 89, .move (.tmp 96), none⟩, .pure, 1, 1⟩,
  ⟨⟨some 97, .extract (.tmp 89) 0, none⟩, .pure, 1, 1⟩,
  ⟨⟨some 98, .extract (.tmp 89) 1, none⟩, .pure, 1, 2⟩,
  ⟨⟨none, .store 8 (.tmp 9) (.tmp 97), none⟩, .heavy, 1, 2⟩,
  ⟨⟨some 14, .move (.tmp 98), none⟩, .pure, 2, 2⟩])
 (.seq (.draw [⟨⟨some 99, .move (.tmp 14), none⟩, .pure, 0, 0⟩,
  ⟨⟨some 100, .un .not (.tmp 99), none⟩, .pure, 0, 0⟩,
  ⟨⟨some 101, .move (.tmp 100), none⟩, .pure, 0, 0⟩,
  ⟨⟨some 102, .move (.tmp 7), (some (101, false))⟩, .pure, 0, 0⟩,
  ⟨⟨some 103, .load true 8 (.tmp 9), (some (101, false))⟩, .read, 0, 0⟩,
  ⟨⟨some 104, .move (.tmp 1), (some (101, false))⟩, .pure, 0, 0⟩,
  ⟨⟨some 105, .move (.tmp 13), (some (101, false))⟩, .pure, 0, 0⟩,
  ⟨⟨some 106, .idx 4 (.tmp 104) (.tmp 105), (some (101, false))⟩, .pure, 0, 0⟩,
  ⟨⟨some 107, .off 1 (.tmp 106), (some (101, false))⟩, .pure, 0, 0⟩,
  ⟨⟨some 108, .load false 1 (.tmp 107), (some (101, false))⟩, .read, 0, 0⟩,
  ⟨⟨some 109, .move (.tmp 2), (some (101, false))⟩, .pure, 0, 0⟩,
  ⟨⟨some 110, .move (.tmp 11), (some (101, false))⟩, .pure, 0, 0⟩,
  ⟨⟨some 111, .call 13 [.tmp 102, .tmp 103, .tmp 108, .tmp 109, .tmp 110], (some (101, false))⟩, .heavy, 0, 1⟩,
  ⟨⟨some 112, .un .not (.tmp 111), (some (101, false))⟩, .pure, 1, 1⟩,
  ⟨⟨some 113, .pick (.tmp 101) (.const (.bool true)) (.tmp 112), none⟩, .pure, 1, 1⟩,
  ⟨⟨some 114, .move (.tmp 113), none⟩, .pure, 1, 1⟩,
  ⟨⟨some 115, .move (.tmp 7), (some (114, false))⟩, .pure, 1, 1⟩,
  ⟨⟨some 116, .load true 8 (.tmp 9), (some (114, false))⟩, .read, 1, 1⟩,
  ⟨⟨some 117, .move (.tmp 1), (some (114, false))⟩, .pure, 1, 1⟩,
  ⟨⟨some 118, .move (.tmp 13), (some (114, false))⟩, .pure, 1, 1⟩,
  ⟨⟨some 119, .idx 4 (.tmp 117) (.tmp 118), (some (114, false))⟩, .pure, 1, 1⟩,
  ⟨⟨some 120, .off 2 (.tmp 119), (some (114, false))⟩, .pure, 1, 1⟩,
  ⟨⟨some 121, .load false 1 (.tmp 120), (some (114, false))⟩, .read, 1, 1⟩,
  ⟨⟨some 122, .move (.tmp 2), (some (114, false))⟩, .pure, 1, 1⟩,
  ⟨⟨some 123, .move (.tmp 2), (some (114, false))⟩, .pure, 1, 1⟩,
  ⟨⟨some 124, .call 13 [.tmp 115, .tmp 116, .tmp 121, .tmp 122, .tmp 123], (some (114, false))⟩, .heavy, 1, 2⟩,
  ⟨⟨some 125, .un .not (.tmp 124), (some (114, false))⟩, .pure, 2, 2⟩,
  ⟨⟨some 126, .pick (.tmp 114) (.const (.bool true)) (.tmp 125), none⟩, .pure, 2, 2⟩])
 (.cond (.tmp 126) (.seq (.region [⟨some 6, .move (.const (.bool false)), none⟩])
 (.ret))
 (.skip))))))
 (.region [⟨some 87, .move (.tmp 13), none⟩,
  ⟨some 88, .bin .add (.tmp 87) (.const (.int .i64 1)), none⟩,
  ⟨some 13, .move (.tmp 88), none⟩]))
def L4 : LCode :=
 .seq (.region [⟨some 3, .box 38 4 (.tmp 0), none⟩,
  ⟨some 6, .move (.const (.bool false)), none⟩])
 (.seq (.seq (.region [⟨some 15, .move (.tmp 1), none⟩,
  ⟨some 16, .len (.tmp 15), none⟩,
  ⟨some 17, .bin .gtr (.tmp 16) (.const (.int .i64 120)), none⟩,
  ⟨some 18, .move (.tmp 17), none⟩,
  ⟨some 19, .move (.tmp 2), (some (18, false))⟩,
  ⟨some 20, .len (.tmp 19), (some (18, false))⟩,
  ⟨some 21, .bin .gtr (.tmp 20) (.const (.int .i64 100)), (some (18, false))⟩,
  ⟨some 22, .pick (.tmp 18) (.const (.bool true)) (.tmp 21), none⟩,
  ⟨some 23, .move (.tmp 22), none⟩,
  ⟨some 24, .off 3 (.tmp 3), (some (23, false))⟩,
  ⟨some 25, .load false 1 (.tmp 24), (some (23, false))⟩,
  ⟨some 26, .len (.tmp 25), (some (23, false))⟩,
  ⟨some 27, .bin .gtr (.tmp 26) (.const (.int .i64 50)), (some (23, false))⟩,
  ⟨some 28, .pick (.tmp 23) (.const (.bool true)) (.tmp 27), none⟩])
 (.cond (.tmp 28) (.seq (.region [⟨some 6, .move (.const (.bool true)), none⟩])
 (.ret))
 (.skip)))
 (.seq (.region [⟨some 30, .off 0 (.tmp 3), none⟩,
  ⟨some 31, .load false 1 (.tmp 30), none⟩,
  ⟨some 32, .off 1 (.tmp 3), none⟩,
  ⟨some 33, .load false 1 (.tmp 32), none⟩,
  ⟨some 34, .off 2 (.tmp 3), none⟩,
  ⟨some 35, .load false 1 (.tmp 34), none⟩,
  ⟨some 36, .off 3 (.tmp 3), none⟩,
  ⟨some 37, .load false 1 (.tmp 36), none⟩,
  ⟨some 38, .call 6 [.tmp 31, .tmp 33, .tmp 35, .tmp 37], none⟩,
  ⟨some 29, .move (.tmp 38), none⟩,
  ⟨some 39, .extract (.tmp 29) 0, none⟩,
  ⟨some 40, .extract (.tmp 29) 1, none⟩,
  ⟨some 7, .move (.tmp 39), none⟩,
  ⟨some 8, .move (.tmp 40), none⟩])
 (.seq (.region [⟨some 42, .off 0 (.tmp 3), none⟩,
  ⟨some 43, .load false 1 (.tmp 42), none⟩,
  ⟨some 44, .off 1 (.tmp 3), none⟩,
  ⟨some 45, .load false 1 (.tmp 44), none⟩,
  ⟨some 46, .off 2 (.tmp 3), none⟩,
  ⟨some 47, .load false 1 (.tmp 46), none⟩,
  ⟨some 48, .off 3 (.tmp 3), none⟩,
  ⟨some 49, .load false 1 (.tmp 48), none⟩,
  ⟨some 50, .call 11 [.tmp 43, .tmp 45, .tmp 47, .tmp 49], none⟩,
  ⟨some 41, .move (.tmp 50), none⟩,
  ⟨some 51, .extract (.tmp 41) 0, none⟩,
  ⟨some 52, .extract (.tmp 41) 1, none⟩,
  ⟨some 9, .new 44 8 [.int .i64 0, .int .i64 0, .int .i64 0, .slice none 0 0, .slice none 0 0, .slice none 0 0, .slice none 0 0, .slice none 0 0], none⟩,
  ⟨none, .store 8 (.tmp 9) (.tmp 51), none⟩,
  ⟨some 10, .move (.tmp 52), none⟩])
 (.seq (.seq (.region [⟨some 53, .move (.tmp 8), none⟩,
  ⟨some 54, .move (.tmp 10), none⟩,
  ⟨some 55, .bin .neq (.tmp 53) (.tmp 54), none⟩,
  ⟨some 56, .move (.tmp 55), none⟩,
  ⟨some 57, .move (.tmp 7), (some (56, false))⟩,
  ⟨some 58, .isNil false (.pointer 71) (.tmp 57), (some (56, false))⟩,
  ⟨some 59, .move (.tmp 10), (some (56, false))⟩,
  ⟨some 60, .bin .neq (.tmp 59) (.const (.int .i64 0)), (some (56, false))⟩,
  ⟨some 61, .eqB true (.tmp 58) (.tmp 60), (some (56, false))⟩,
  ⟨some 62, .pick (.tmp 56) (.const (.bool true)) (.tmp 61), none⟩])
 (.cond (.tmp 62) (.seq (.region [⟨some 6, .move (.const (.bool false)), none⟩])
 (.ret))
 (.skip)))
 (.seq (.region [⟨some 11, .move (.const (.slice none 0 0)), none⟩])
 (.seq (.seq (.region [⟨some 12, .move (.const (.int .i64 0)), none⟩])
 (.block 0 (.loop L4_1)))
 (.seq (.seq (.region [⟨some 13, .move (.const (.int .i64 0)), none⟩])
 (.block 2 (.loop L4_2)))
 (.seq (.region [⟨some 127, .call 9 [], none⟩,
  ⟨some 6, .move (.tmp 127), none⟩])
 (.ret)))))))))
theorem light4 : Light Try.prog 4 3 128 L4 [.tmp 6] :=
  ⟨Try.f4, _, Try.func4, rfl, rfl, by kernel_rfl, by kernel_rfl, by decide⟩

/-! ### function 5: outrider/outriderlaw22.AttemptAgain -/
def L5_1 : LCode :=
 .seq (.seq (.region [⟨some 107, .move (.tmp 13), none⟩,
  ⟨some 108, .move (.tmp 1), none⟩,
  ⟨some 109, .len (.tmp 108), none⟩,
  ⟨some 110, .bin .lss (.tmp 107) (.tmp 109), none⟩])
 (.cond (.tmp 110) (.skip)
 (.exit 0)))
 (.seq (.block 1 (.draw [⟨⟨some 113, .move (.tmp 7), none⟩, .pure, 0, 0⟩,
  ⟨⟨some 114, .load true 8 (.tmp 11), none⟩, .read, 0, 0⟩,
  ⟨⟨some 115, .move (.tmp 1), none⟩, .pure, 0, 0⟩,
  ⟨⟨some 116, .move (.tmp 13), none⟩, .pure, 0, 0⟩,
  ⟨⟨some 117, .idx 4 (.tmp 115) (.tmp 116), none⟩, .pure, 0, 0⟩,
  ⟨⟨some 118, .load true 4 (.tmp 117), none⟩, .read, 0, 0⟩,
  ⟨⟨some 119, .call 12 [.tmp 113, .tmp 114, .tmp 118], none⟩, .heavy, 0, 1⟩]))
 (.region [⟨some 111, .move (.tmp 13), none⟩,
  ⟨some 112, .bin .add (.tmp 111) (.const (.int .i64 1)), none⟩,
  ⟨some 13, .move (.tmp 112), none⟩]))
def L5_2 : LCode :=
 .seq (.seq (.region [⟨some 122, .move (.tmp 14), none⟩,
  ⟨some 123, .move (.tmp 2), none⟩,
  ⟨some 124, .len (.tmp 123), none⟩,
  ⟨some 125, .bin .lss (.tmp 122) (.tmp 124), none⟩])
 (.cond (.tmp 125) (.skip)
 (.exit 2)))
 (.seq (.block 3 (.seq (.draw [⟨⟨some 128, .move (.tmp 7), none⟩, .pure, 0, 0⟩,
  ⟨⟨some 129, .load true 8 (.tmp 11), none⟩, .read, 0, 0⟩,
  ⟨⟨some 130, .move (.tmp 2), none⟩, .pure, 0, 0⟩,
  ⟨⟨some 131, .move (.tmp 14), none⟩, .pure, 0, 0⟩,
  ⟨⟨some 132, .idx 4 (.tmp 130) (.tmp 131), none⟩, .pure, 0, 0⟩,
  ⟨⟨some 133, .load true 4 (.tmp 132), none⟩, .read, 0, 0⟩,
  ⟨⟨some 134, .call 12 [.tmp 128, .tmp 129, .tmp 133], none⟩, .heavy, 0, 1⟩])
 (.draw [⟨⟨some 135, .move (.tmp 9), none⟩, .pure, 0, 0⟩,
  ⟨⟨some 136, .load true 8 (.tmp 11), none⟩, .read, 0, 0⟩,
  ⟨⟨some 137, .move (.tmp 2), none⟩, .pure, 0, 0⟩,
  ⟨⟨some 138, .move (.tmp 14), none⟩, .pure, 0, 0⟩,
  ⟨⟨some 139, .idx 4 (.tmp 137) (.tmp 138), none⟩, .pure, 0, 0⟩,
  ⟨⟨some 140, .load true 4 (.tmp 139), none⟩, .read, 0, 0⟩,
  ⟨⟨some 141, .call 12 [.tmp 135, .tmp 136, .tmp 140], none⟩, .heavy, 0, 1⟩])))
 (.region [⟨some 126, .move (.tmp 14), none⟩,
  ⟨some 127, .bin .add (.tmp 126) (.const (.int .i64 1)), none⟩,
  ⟨some 14, .move (.tmp 127), none⟩]))
def L5_3 : LCode :=
 .seq (.seq (.region [⟨some 187, .move (.tmp 23), none⟩,
  ⟨some 188, .move (.tmp 21), none⟩,
  ⟨some 189, .len (.tmp 188), none⟩,
  ⟨some 190, .bin .lss (.tmp 187) (.tmp 189), none⟩])
 (.cond (.tmp 190) (.skip)
 (.exit 4)))
 (.seq (.block 5 (.seq (.draw [⟨⟨some 193, .move (.tmp 21), none⟩, .pure, 0, 0⟩,
  ⟨⟨some 194, .move (.tmp 23), none⟩, .pure, 0, 0⟩,
  ⟨⟨some 195, .idx 3 (.tmp 193) (.tmp 194), none⟩, .pure, 0, 0⟩,
  ⟨⟨some 196, .load true 3 (.tmp 195), none⟩, .read, 0, 0⟩,
  ⟨⟨some 197, .move (.tmp 22), none⟩, .pure, 0, 0⟩,
  ⟨⟨some 198, .move (.tmp 23), none⟩, .pure, 0, 0⟩,
  ⟨⟨some 199, .idx 3 (.tmp 197) (.tmp 198), none⟩, .pure, 0, 0⟩,
  ⟨⟨some 200, .load true 3 (.tmp 199), none⟩, .read, 0, 0⟩,
  ⟨⟨some 201, .eqR true 29 (.tmp 196) (.tmp 200), none⟩, .pure, 0, 0⟩])
 (.cond (.tmp 201) (.seq (.region [⟨some 6, .move (.const (.bool false)), none⟩])
 (.ret))
 (.skip))))
 (.region [⟨some 191, .move (.tmp 23), none⟩,
  ⟨some 192, .bin .add (.tmp 191) (.const (.int .i64 1)), none⟩,
  ⟨some 23, .move (.tmp 192), none⟩]))
def L5 : LCode :=
 .seq (.region [⟨some 3, .box 38 4 (.tmp 0), none⟩,
  ⟨some 6, .move (.const (.bool false)), none⟩])
 (.seq (.seq (.region [⟨some 29, .move (.tmp 2), none⟩,
  ⟨some 30, .len (.tmp 29), none⟩,
  ⟨some 31, .bin .gtr (.tmp 30) (.const (.int .i64 120)), none⟩,
  ⟨some 32, .move (.tmp 31), none⟩,
  ⟨some 33, .move (.tmp 1), (some (32, false))⟩,
  ⟨some 34, .len (.tmp 33), (some (32, false))⟩,
  ⟨some 35, .bin .gtr (.tmp 34) (.const (.int .i64 120)), (some (32, false))⟩,
  ⟨some 36, .pick (.tmp 32) (.const (.bool true)) (.tmp 35), none⟩,
  ⟨some 37, .move (.tmp 36), none⟩,
  ⟨some 38, .off 3 (.tmp 3), (some (37, false))⟩,
  ⟨some 39, .load false 1 (.tmp 38), (some (37, false))⟩,
  ⟨some 40, .len (.tmp 39), (some (37, false))⟩,
  ⟨some 41, .bin .gtr (.tmp 40) (.const (.int .i64 50)), (some (37, false))⟩,
  ⟨some 42, .pick (.tmp 37) (.const (.bool true)) (.tmp 41), none⟩])
 (.cond (.tmp 42) (.seq (.region [⟨some 6, .move (.const (.bool true)), none⟩])
 (.ret))
 (.skip)))
 (.seq (.region [⟨some 44, .off 0 (.tmp 3), none⟩,
  ⟨some 45, .load false 1 (.tmp 44), none⟩,
  ⟨some 46, .off 1 (.tmp 3), none⟩,
  ⟨some 47, .load false 1 (.tmp 46), none⟩,
  ⟨some 48, .off 2 (.tmp 3), none⟩,
  ⟨some 49, .load false 1 (.tmp 48), none⟩,
  ⟨some 50, .off 3 (.tmp 3), none⟩,
  ⟨some 51, .load false 1 (.tmp 50), none⟩,
  ⟨some 52, .call 6 [.tmp 45, .tmp 47, .tmp 49, .tmp 51], none⟩,
  ⟨some 43, .move (.tmp 52), none⟩,
  ⟨some 53, .extract (.tmp 43) 0, none⟩,
  ⟨some 54, .extract (.tmp 43) 1, none⟩,
  ⟨some 7, .move (.tmp 53), none⟩,
  ⟨some 8, .move (.tmp 54), none⟩])
 (.seq (.region [⟨some 56, .off 0 (.tmp 3), none⟩,
  ⟨some 57, .load false 1 (.tmp 56), none⟩,
  ⟨some 58, .off 1 (.tmp 3), none⟩,
  ⟨some 59, .load false 1 (.tmp 58), none⟩,
  ⟨some 60, .off 2 (.tmp 3), none⟩,
  ⟨some 61, .load false 1 (.tmp 60), none⟩,
  ⟨some 62, .off 3 (.tmp 3), none⟩,
  ⟨some 63, .load false 1 (.tmp 62), none⟩,
  ⟨some 64, .call 6 [.tmp 57, .tmp 59, .tmp 61, .tmp 63], none⟩,
  ⟨some 55, .move (.tmp 64), none⟩,
  ⟨some 65, .extract (.tmp 55) 0, none⟩,
  ⟨some 66, .extract (.tmp 55) 1, none⟩,
  ⟨some 9, .move (.tmp 65), none⟩,
  ⟨some 10, .move (.tmp 66), none⟩])
 (.seq (.region [⟨some 68, .off 0 (.tmp 3), none⟩,
  ⟨some 69, .load false 1 (.tmp 68), none⟩,
  ⟨some 70, .off 1 (.tmp 3), none⟩,
  ⟨some 71, .load false 1 (.tmp 70), none⟩,
  ⟨some 72, .off 2 (.tmp 3), none⟩,
  ⟨some 73, .load false 1 (.tmp 72), none⟩,
  ⟨some 74, .off 3 (.tmp 3), none⟩,
  ⟨some 75, .load false 1 (.tmp 74), none⟩,
  ⟨some 76, .call 11 [.tmp 69, .tmp 71, .tmp 73, .tmp 75], none⟩,
  ⟨some 67, .move (.tmp 76), none⟩,
  ⟨some 77, .extract (.tmp 67) 0, none⟩,
  ⟨some 78, .extract (.tmp 67) 1, none⟩,
  ⟨some 11, .new 44 8 [.int .i64 0, .int .i64 0, .int .i64 0, .slice none 0 0, .slice none 0 0, .slice none 0 0, .slice none 0 0, .slice none 0 0], none⟩,
  ⟨none, .store 8 (.tmp 11) (.tmp 77), none⟩,
  ⟨some 12, .move (.tmp 78), none⟩])
 (.seq (.seq (.region [⟨some 79, .move (.tmp 8), none⟩,
  ⟨some 80, .bin .neq (.tmp 79) (.const (.int .i64 0)), none⟩,
  ⟨some 81, .move (.tmp 80), none⟩,
  ⟨some 82, .move (.tmp 7), (some (81, false))⟩,
  ⟨some 83, .isNil false (.pointer 71) (.tmp 82), (some (81, false))⟩,
  ⟨some 84, .pick (.tmp 81) (.const (.bool true)) (.tmp 83), none⟩,
  ⟨some 85, .move (.tmp 84), none⟩,
  ⟨some 86, .move (.tmp 9), (some (85, false))⟩,
  ⟨some 87, .isNil false (.pointer 71) (.tmp 86), (some (85, false))⟩,
  ⟨some 88, .pick (.tmp 85) (.const (.bool true)) (.tmp 87), none⟩])
 (.cond (.tmp 88) (.seq (.region [⟨some 89, .move (.tmp 7), none⟩,
  ⟨some 90, .isNil false (.pointer 71) (.tmp 89), none⟩,
  ⟨some 91, .move (.tmp 90), none⟩,
  ⟨some 92, .move (.tmp 9), (some (91, true))⟩,
  ⟨some 93, .isNil false (.pointer 71) (.tmp 92), (some (91, true))⟩,
  ⟨some 94, .pick (.tmp 91) (.tmp 93) (.const (.bool false)), none⟩,
  ⟨some 95, .move (.tmp 94), none⟩,
  ⟨some 96, .move (.tmp 8), (some (95, true))⟩,
  ⟨some 97, .move (.tmp 10), (some (95, true))⟩,
  ⟨some 98, .bin .eql (.tmp 96) (.tmp 97), (some (95, true))⟩,
  ⟨some 99, .pick (.tmp 95) (.tmp 98) (.const (.bool false)), none⟩,
  ⟨some 100, .move (.tmp 99), none⟩,
  ⟨some 101, .move (.tmp 12), (some (100, true))⟩,
  ⟨some 102, .bin .neq (.tmp 101) (.const (.int .i64 0)), (some (100, true))⟩,
  ⟨some 103, .pick (.tmp 100) (.tmp 102) (.const (.bool false)), none⟩,
  ⟨some 104, .move (.tmp 103), none⟩,
  ⟨some 105, .call 9 [], (some (104, true))⟩,
  ⟨some 106, .pick (.tmp 104) (.tmp 105) (.const (.bool false)), none⟩,
  ⟨some 6, .move (.tmp 106), none⟩])
 (.ret))
 (.skip)))
 (.seq (.seq (.region [⟨some 13, .move (.const (.int .i64 0)), none⟩])
 (.block 0 (.loop L5_1)))
 (.seq (.region [⟨some 120, .move (.tmp 7), none⟩,
  ⟨some 121, .call 14 [.tmp 120], none⟩])
 (.seq (.seq (.region [⟨some 14, .move (.const (.int .i64 0)), none⟩])
 (.block 2 (.loop L5_2)))
 (.seq (.region [⟨some 143, .move (.tmp 7), none⟩,
  ⟨some 144, .call 15 [.tmp 143], none⟩,
  ⟨some 142, .move (.tmp 144), none⟩,
  ⟨some 145, .extract (.tmp 142) 0, none⟩,
  ⟨some 146, .extract (.tmp 142) 1, none⟩,
  ⟨some 147, .extract (.tmp 142) 2, none⟩,
  ⟨some 15, .move (.tmp 145), none⟩,
  ⟨some 16, .move (.tmp 146), none⟩,
  ⟨some 17, .move (.tmp 147), none⟩])
 (.seq (.region [⟨some 149, .move (.tmp 9), none⟩,
  ⟨some 150, .call 15 [.tmp 149], none⟩,
  ⟨some 148, .move (.tmp 150), none⟩,
  ⟨some 151, .extract (.tmp 148) 0, none⟩,
  ⟨some 152, .extract (.tmp 148) 1, none⟩,
  ⟨some 153, .extract (.tmp 148) 2, none⟩,
  ⟨some 18, .move (.tmp 151), none⟩,
  ⟨some 19, .move (.tmp 152), none⟩,
  ⟨some 20, .move (.tmp 153), none⟩])
 (.seq (.seq (.region [⟨some 154, .move (.tmp 15), none⟩,
  ⟨some 155, .move (.tmp 18), none⟩,
  ⟨some 156, .bin .neq (.tmp 154) (.tmp 155), none⟩,
  ⟨some 157, .move (.tmp 156), none⟩,
  ⟨some 158, .move (.tmp 16), (some (157, false))⟩,
  ⟨some 159, .move (.tmp 19), (some (157, false))⟩,
  ⟨some 160, .bin .neq (.tmp 158) (.tmp 159), (some (157, false))⟩,
  ⟨some 161, .pick (.tmp 157) (.const (.bool true)) (.tmp 160), none⟩,
  ⟨some 162, .move (.tmp 161), none⟩,
  ⟨some 163, .move (.tmp 17), (some (162, false))⟩,
  ⟨some 164, .move (.tmp 20), (some (162, false))⟩,
  ⟨some 165, .bin .neq (.tmp 163) (.tmp 164), (some (162, false))⟩,
  ⟨some 166, .pick (.tmp 162) (.const (.bool true)) (.tmp 165), none⟩,
  ⟨some 167, .move (.tmp 166), none⟩,
  ⟨some 168, .move (.tmp 7), (some (167, false))⟩,
  ⟨some 169, .call 17 [.tmp 168], (some (167, false))⟩,
  ⟨some 170, .move (.tmp 9), (some (167, false))⟩,
  ⟨some 171, .call 17 [.tmp 170], (some (167, false))⟩,
  ⟨some 172, .call 16 [.tmp 169, .tmp 171], (some (167, false))⟩,
  ⟨some 173, .un .not (.tmp 172), (some (167, false))⟩,
  ⟨some 174, .pick (.tmp 167) (.const (.bool true)) (.tmp 173), none⟩,
  ⟨some 175, .move (.tmp 174), none⟩,
  ⟨some 176, .move (.tmp 7), (some (175, false))⟩,
  ⟨some 177, .call 19 [.tmp 176], (some (175, false))⟩,
  ⟨some 178, .move (.tmp 9), (some (175, false))⟩,
  ⟨some 179, .call 19 [.tmp 178], (some (175, false))⟩,
  ⟨some 180, .call 18 [.tmp 177, .tmp 179], (some (175, false))⟩,
  ⟨some 181, .un .not (.tmp 180), (some (175, false))⟩,
  ⟨some 182, .pick (.tmp 175) (.const (.bool true)) (.tmp 181), none⟩])
 (.cond (.tmp 182) (.seq (.region [⟨some 6, .move (.const (.bool false)), none⟩])
 (.ret))
 (.skip)))
 (.seq (.region [⟨some 183, .move (.tmp 7), none⟩,
  ⟨some 184, .call 20 [.tmp 183], none⟩,
  ⟨some 185, .move (.tmp 9), none⟩,
  ⟨some 186, .call 20 [.tmp 185], none⟩,
  ⟨some 21, .move (.tmp 184), none⟩,
  ⟨some 22, .move (.tmp 186), none⟩])
 (.seq (.seq (.region [⟨some 23, .move (.const (.int .i64 0)), none⟩])
 (.block 4 (.loop L5_3)))
 (.seq (.region [⟨some 202, .off 3 (.tmp 3), none⟩,
  ⟨some 203, .load false 1 (.tmp 202), none⟩,
  ⟨some 204, .len (.tmp 203), none⟩,
  ⟨some 205, .make 2 1 8 [.int .i64 0] (.tmp 204) (.tmp 204), none⟩,
  ⟨some 24, .move (.tmp 205), none⟩])
 (.seq (.region [⟨some 207, .move (.tmp 7), none⟩,
  ⟨some 208, .move (.tmp 24), none⟩,
  ⟨some 209, .call 21 [.tmp 207, .tmp 208], none⟩,
  ⟨some 206, .move (.tmp 209), none⟩,
  ⟨some 210, .extract (.tmp 206) 0, none⟩,
  ⟨some 211, .extract (.tmp 206) 1, none⟩,
  ⟨some 25, .move (.tmp 210), none⟩,
  ⟨some 26, .move (.tmp 211), none⟩])
 (.seq (.region [⟨some 213, .move (.tmp 9), none⟩,
  ⟨some 214, .move (.tmp 24), none⟩,
  ⟨some 215, .call 21 [.tmp 213, .tmp 214], none⟩,
  ⟨some 212, .move (.tmp 215), none⟩,
  ⟨some 216, .extract (.tmp 212) 0, none⟩,
  ⟨some 217, .extract (.tmp 212) 1, none⟩,
  ⟨some 27, .move (.tmp 216), none⟩,
  ⟨some 28, .move (.tmp 217), none⟩])
 (.seq (.region [⟨some 218, .move (.tmp 26), none⟩,
  ⟨some 219, .move (.tmp 218), none⟩,
  ⟨some 220, .move (.tmp 28), (some (219, true))⟩,
  ⟨some 221, .pick (.tmp 219) (.tmp 220) (.const (.bool false)), none⟩,
  ⟨some 222, .move (.tmp 221), none⟩,
  ⟨some 223, .move (.tmp 25), (some (222, true))⟩,
  ⟨some 224, .move (.tmp 27), (some (222, true))⟩,
  ⟨some 225, .call 18 [.tmp 223, .tmp 224], (some (222, true))⟩,
  ⟨some 226, .pick (.tmp 222) (.tmp 225) (.const (.bool false)), none⟩,
  ⟨some 227, .move (.tmp 226), none⟩,
  ⟨some 228, .call 9 [], (some (227, true))⟩,
  ⟨some 229, .pick (.tmp 227) (.tmp 228) (.const (.bool false)), none⟩,
  ⟨some 6, .move (.tmp 229), none⟩])
 (.ret))))))))))))))))))
theorem light5 : Light Try.prog 5 3 230 L5 [.tmp 6] :=
  ⟨Try.f5, _, Try.func5, rfl, rfl, by kernel_rfl, by kernel_rfl, by decide⟩

/-! ### function 6: outrider/attempt.New -/
def L6_1 : LCode :=
 .seq (.region [⟨some 19, .bin .lss (.tmp 18) (.const (.int .i64 3)), none⟩])
 (.seq (.cond (.tmp 19) (.skip)
 (.exit 0))
 (.seq (.block 1 (.seq (.region [⟨some 20, .idxAgg false 3 1 (.tmp 17) (.tmp 18), none⟩,
  ⟨some 11, .move (.tmp 20), none⟩])
 (.seq (.region [⟨some 21, .move (.tmp 11), none⟩,
  ⟨some 22, .bin .lss (.tmp 21) (.const (.int .i64 1)), none⟩,
  ⟨some 23, .move (.tmp 22), none⟩,
  ⟨some 24, .move (.tmp 11), (some (23, false))⟩,
  ⟨some 25, .bin .gtr (.tmp 24) (.const (.int .i64 64)), (some (23, false))⟩,
  ⟨some 26, .pick (.tmp 23) (.const (.bool true)) (.tmp 25), none⟩])
 (.cond (.tmp 26) (.seq (.region [⟨some 8, .move (.const (.pointer none)), none⟩,
  ⟨some 9, .move (.const (.int .i64 161)), none⟩])
 (.ret))
 (.skip)))))
 (.region [⟨some 27, .bin .add (.tmp 18) (.const (.int .i64 1)), none⟩,
  ⟨some 18, .move (.tmp 27), none⟩])))
def L6 : LCode :=
 .seq (.region [⟨some 8, .move (.const (.pointer none)), none⟩,
  ⟨some 9, .move (.const (.int .i64 0)), none⟩])
 (.seq (.seq (.region [⟨some 14, .move (.tmp 0), none⟩,
  ⟨some 15, .move (.tmp 1), none⟩,
  ⟨some 16, .move (.tmp 2), none⟩,
  ⟨some 17, .build [.int .i64 0, .int .i64 0, .int .i64 0] [(0, 1, .tmp 14), (1, 1, .tmp 15), (2, 1, .tmp 16)], none⟩,
  ⟨some 18, .move (.const (.int .i64 0)), none⟩])
 (.block 0 (.loop L6_1)))
 (.seq (.region [⟨some 29, .move (.tmp 3), none⟩,
  ⟨some 30, .call 22 [.tmp 29], none⟩,
  ⟨some 28, .move (.tmp 30), none⟩,
  ⟨some 31, .extract (.tmp 28) 0, none⟩,
  ⟨some 32, .extract (.tmp 28) 1, none⟩,
  ⟨some 12, .move (.tmp 31), none⟩,
  ⟨some 13, .move (.tmp 32), none⟩])
 (.seq (.seq (.region [⟨some 33, .move (.tmp 13), none⟩,
  ⟨some 34, .bin .neq (.tmp 33) (.const (.int .i64 0)), none⟩])
 (.cond (.tmp 34) (.seq (.region [⟨some 35, .move (.tmp 13), none⟩,
  ⟨some 8, .move (.const (.pointer none)), none⟩,
  ⟨some 9, .move (.tmp 35), none⟩])
 (.ret))
 (.skip)))
 (.seq (.region [⟨some 36, .move (.tmp 12), none⟩,
  ⟨some 37, .move (.tmp 0), none⟩,
  ⟨some 38, .move (.tmp 1), none⟩,
  ⟨some 39, .move (.tmp 2), none⟩,
  ⟨some 40, .build [.slice none 0 0, .slice none 0 0, .slice none 0 0, .pointer none, .int .i64 0, .int .i64 0, .int .i64 0] [(3, 1, .tmp 36), (4, 1, .tmp 37), (5, 1, .tmp 38), (6, 1, .tmp 39)], none⟩,
  ⟨some 41, .box 71 7 (.tmp 40), none⟩,
  ⟨some 8, .move (.tmp 41), none⟩,
  ⟨some 9, .move (.const (.int .i64 0)), none⟩])
 (.ret)))))
theorem light6 : Light Try.prog 6 4 42 L6 [.tmp 8, .tmp 9] :=
  ⟨Try.f6, _, Try.func6, rfl, rfl, by kernel_rfl, by kernel_rfl, by decide⟩

/-! ### function 7: (*outrider/attempt.Log).Note -/
def L7 : LCode :=
 .seq (.region [⟨some 3, .box 29 3 (.tmp 1), none⟩,
  ⟨some 4, .move (.const (.int .i64 0)), none⟩])
 (.seq (.seq (.region [⟨some 8, .move (.tmp 0), none⟩,
  ⟨some 9, .off 0 (.tmp 3), none⟩,
  ⟨some 10, .load false 1 (.tmp 9), none⟩,
  ⟨some 11, .call 10 [.tmp 8, .tmp 10], none⟩,
  ⟨some 7, .move (.tmp 11), none⟩,
  ⟨some 12, .extract (.tmp 7) 0, none⟩,
  ⟨some 13, .extract (.tmp 7) 1, none⟩,
  ⟨some 5, .new 29 3 [.int .i64 0, .int .i64 0, .int .i64 0], none⟩,
  ⟨none, .store 3 (.tmp 5) (.tmp 12), none⟩,
  ⟨some 6, .move (.tmp 13), none⟩])
 (.seq (.region [⟨some 14, .move (.tmp 6), none⟩])
 (.cond (.tmp 14) (.seq (.region [⟨some 4, .move (.const (.int .i64 61)), none⟩])
 (.ret))
 (.skip))))
 (.seq (.seq (.draw [⟨⟨some 15, .move (.tmp 0), none⟩, .pure, 0, 0⟩,
  ⟨⟨some 16, .nilCheck (.tmp 15), none⟩, .pure, 0, 0⟩,
  ⟨⟨some 17, .off 0 (.tmp 16), none⟩, .pure, 0, 0⟩,
  ⟨⟨some 18, .load false 1 (.tmp 17), none⟩, .read, 0, 0⟩,
  ⟨⟨some 19, .len (.tmp 18), none⟩, .pure, 0, 0⟩,
  ⟨⟨some 20, .move (.tmp 0), none⟩, .pure, 0, 0⟩,
  ⟨⟨some 21, .nilCheck (.tmp 20), none⟩, .pure, 0, 0⟩,
  ⟨⟨some 22, .off 4 (.tmp 21), none⟩, .pure, 0, 0⟩,
  ⟨⟨some 23, .load false 1 (.tmp 22), none⟩, .read, 0, 0⟩,
  ⟨⟨some 24, .bin .eql (.tmp 19) (.tmp 23), none⟩, .pure, 0, 0⟩])
 (.cond (.tmp 24) (.seq (.region [⟨some 4, .move (.const (.int .i64 200)), none⟩])
 (.ret))
 (.skip)))
 (.seq (.draw [⟨⟨some 25, .move (.tmp 0), none⟩, .pure, 0, 2⟩,
  ⟨⟨some 26, .move (.tmp 0), none⟩, .pure, 0, 1⟩,
  ⟨⟨some 27, .nilCheck (.tmp 26), none⟩, .pure, 0, 1⟩,
  ⟨⟨some 28, .off 0 (.tmp 27), none⟩, .pure, 0, 1⟩,
  ⟨⟨some 29, .load false 1 (.tmp 28), none⟩, .read, 0, 1⟩,
  ⟨⟨some 30, .load true 3 (.tmp 3), none⟩, .read, 0, 0⟩,
  ⟨⟨some 31, .buildSlice 29 3 1 [.int .i64 0, .int .i64 0, .int .i64 0] [(0, 3, .tmp 30)], none⟩, .heavy, 0, 1⟩,
  ⟨⟨some 32, .append 29 3 24 (.tmp 29) (.tmp 31), none⟩, .heavy, 1, 2⟩,
  ⟨⟨some 33, .nilCheck (.tmp 25), none⟩, .pure, 2, 2⟩,
  ⟨⟨some 34, .off 0 (.tmp 33), none⟩, .pure, 2, 2⟩,
  ⟨⟨none, .store 1 (.tmp 34) (.tmp 32), none⟩, .heavy, 2, 3⟩])
 (.seq (.region [⟨some 4, .move (.const (.int .i64 0)), none⟩])
 (.ret)))))
theorem light7 : Light Try.prog 7 2 35 L7 [.tmp 4] :=
  ⟨Try.f7, _, Try.func7, rfl, rfl, by kernel_rfl, by kernel_rfl, by decide⟩

/-! ### function 8: (*outrider/attempt.Log).Holds -/
def L8 : LCode :=
 .seq (.region [⟨some 3, .box 23 1 (.tmp 1), none⟩,
  ⟨some 4, .move (.const (.bool false)), none⟩])
 (.seq (.region [⟨some 5, .move (.tmp 0), none⟩,
  ⟨some 6, .nilCheck (.tmp 5), none⟩,
  ⟨some 7, .off 0 (.tmp 6), none⟩,
  ⟨some 8, .load false 1 (.tmp 7), none⟩,
  ⟨some 9, .func (.func 24) [] [.tmp 3], none⟩,
  ⟨some 10, .call 23 [.tmp 8, .tmp 9], none⟩,
  ⟨some 11, .bin .lss (.tmp 10) (.const (.int .i64 0)), none⟩,
  ⟨some 4, .move (.tmp 11), none⟩])
 (.ret))
theorem light8 : Light Try.prog 8 2 12 L8 [.tmp 4] :=
  ⟨Try.f8, _, Try.func8, rfl, rfl, by kernel_rfl, by kernel_rfl, by decide⟩

/-! ### function 9: outrider/outriderlaw22.alive -/
def L9 : LCode :=
 .seq (.region [⟨some 0, .move (.const (.bool false)), none⟩])
 (.seq (.region [⟨some 10, .call 6 [.const (.int .i64 1), .const (.int .i64 1), .const (.int .i64 1), .const (.slice none 0 0)], none⟩,
  ⟨some 9, .move (.tmp 10), none⟩,
  ⟨some 11, .extract (.tmp 9) 0, none⟩,
  ⟨some 12, .extract (.tmp 9) 1, none⟩,
  ⟨some 1, .move (.tmp 11), none⟩,
  ⟨some 2, .move (.tmp 12), none⟩])
 (.seq (.seq (.region [⟨some 13, .move (.tmp 2), none⟩,
  ⟨some 14, .bin .neq (.tmp 13) (.const (.int .i64 0)), none⟩,
  ⟨some 15, .move (.tmp 14), none⟩,
  ⟨some 16, .move (.tmp 1), (some (15, false))⟩,
  ⟨some 17, .isNil false (.pointer 71) (.tmp 16), (some (15, false))⟩,
  ⟨some 18, .pick (.tmp 15) (.const (.bool true)) (.tmp 17), none⟩])
 (.cond (.tmp 18) (.seq (.region [⟨some 0, .move (.const (.bool false)), none⟩])
 (.ret))
 (.skip)))
 (.seq (.region [⟨some 19, .move (.tmp 1), none⟩,
  ⟨some 20, .build [.int .i64 0, .int .i64 0, .int .i64 0] [(0, 1, .const (.int .i64 3)), (1, 1, .const (.int .i64 7)), (2, 1, .const (.int .i64 (-1)))], none⟩,
  ⟨some 21, .call 7 [.tmp 19, .tmp 20], none⟩,
  ⟨some 22, .move (.tmp 1), none⟩,
  ⟨some 23, .build [.int .i64 0, .int .i64 0, .int .i64 0] [(0, 1, .const (.int .i64 4)), (2, 1, .const (.int .i64 2))], none⟩,
  ⟨some 24, .call 7 [.tmp 22, .tmp 23], none⟩,
  ⟨some 25, .move (.tmp 1), none⟩,
  ⟨some 26, .build [.int .i64 0, .int .i64 0, .int .i64 0] [(0, 1, .const (.int .i64 3)), (1, 1, .const (.int .i64 8)), (2, 1, .const (.int .i64 2))], none⟩,
  ⟨some 27, .call 7 [.tmp 25, .tmp 26], none⟩,
  ⟨some 3, .move (.tmp 21), none⟩,
  ⟨some 4, .move (.tmp 24), none⟩,
  ⟨some 5, .move (.tmp 27), none⟩])
 (.seq (.region [⟨some 28, .move (.tmp 1), none⟩,
  ⟨some 29, .call 25 [.tmp 28, .const (.int .i64 3), .const (.int .i64 9)], none⟩,
  ⟨some 30, .move (.tmp 1), none⟩,
  ⟨some 31, .call 25 [.tmp 30, .const (.int .i64 3), .const (.int .i64 10)], none⟩,
  ⟨some 32, .move (.tmp 1), none⟩,
  ⟨some 33, .call 25 [.tmp 32, .const (.int .i64 5), .const (.int .i64 1)], none⟩,
  ⟨some 6, .move (.tmp 29), none⟩,
  ⟨some 7, .move (.tmp 31), none⟩,
  ⟨some 8, .move (.tmp 33), none⟩])
 (.seq (.region [⟨some 34, .move (.tmp 3), none⟩,
  ⟨some 35, .bin .eql (.tmp 34) (.const (.int .i64 0)), none⟩,
  ⟨some 36, .move (.tmp 35), none⟩,
  ⟨some 37, .move (.tmp 4), (some (36, true))⟩,
  ⟨some 38, .bin .eql (.tmp 37) (.const (.int .i64 200)), (some (36, true))⟩,
  ⟨some 39, .pick (.tmp 36) (.tmp 38) (.const (.bool false)), none⟩,
  ⟨some 40, .move (.tmp 39), none⟩,
  ⟨some 41, .move (.tmp 5), (some (40, true))⟩,
  ⟨some 42, .bin .eql (.tmp 41) (.const (.int .i64 61)), (some (40, true))⟩,
  ⟨some 43, .pick (.tmp 40) (.tmp 42) (.const (.bool false)), none⟩,
  ⟨some 44, .move (.tmp 43), none⟩,
  ⟨some 45, .move (.tmp 6), (some (44, true))⟩,
  ⟨some 46, .bin .eql (.tmp 45) (.const (.int .i64 0)), (some (44, true))⟩,
  ⟨some 47, .pick (.tmp 44) (.tmp 46) (.const (.bool false)), none⟩,
  ⟨some 48, .move (.tmp 47), none⟩,
  ⟨some 49, .move (.tmp 7), (some (48, true))⟩,
  ⟨some 50, .bin .eql (.tmp 49) (.const (.int .i64 0)), (some (48, true))⟩,
  ⟨some 51, .pick (.tmp 48) (.tmp 50) (.const (.bool false)), none⟩,
  ⟨some 52, .move (.tmp 51), none⟩,
  ⟨some 53, .move (.tmp 8), (some (52, true))⟩,
  ⟨some 54, .bin .eql (.tmp 53) (.const (.int .i64 200)), (some (52, true))⟩,
  ⟨some 55, .pick (.tmp 52) (.tmp 54) (.const (.bool false)), none⟩,
  ⟨some 56, .move (.tmp 55), none⟩,
  ⟨some 57, .move (.tmp 1), (some (56, true))⟩,
  ⟨some 58, .buildSlice 2 1 4 [.int .i64 0] [(0, 1, .const (.int .i64 0)), (1, 1, .const (.int .i64 0)), (2, 1, .const (.int .i64 0)), (3, 1, .const (.int .i64 7))], (some (56, true))⟩,
  ⟨some 59, .call 8 [.tmp 57, .tmp 58], (some (56, true))⟩,
  ⟨some 60, .pick (.tmp 56) (.tmp 59) (.const (.bool false)), none⟩,
  ⟨some 61, .move (.tmp 60), none⟩,
  ⟨some 62, .move (.tmp 1), (some (61, true))⟩,
  ⟨some 63, .buildSlice 2 1 4 [.int .i64 0] [(0, 1, .const (.int .i64 0)), (1, 1, .const (.int .i64 0)), (2, 1, .const (.int .i64 0)), (3, 1, .const (.int .i64 8))], (some (61, true))⟩,
  ⟨some 64, .call 8 [.tmp 62, .tmp 63], (some (61, true))⟩,
  ⟨some 65, .un .not (.tmp 64), (some (61, true))⟩,
  ⟨some 66, .pick (.tmp 61) (.tmp 65) (.const (.bool false)), none⟩,
  ⟨some 0, .move (.tmp 66), none⟩])
 (.ret))))))
theorem light9 : Light Try.prog 9 0 67 L9 [.tmp 0] :=
  ⟨Try.f9, _, Try.func9, rfl, rfl, by kernel_rfl, by kernel_rfl, by decide⟩

/-! ### function 10: (*outrider/attempt.Log).Read -/
def L10 : LCode :=
 .seq (.region [⟨some 3, .box 3 1 (.tmp 1), none⟩,
  ⟨some 4, .new 29 3 [.int .i64 0, .int .i64 0, .int .i64 0], none⟩,
  ⟨some 5, .move (.const (.bool false)), none⟩])
 (.seq (.region [⟨some 7, .move (.tmp 0), none⟩,
  ⟨some 8, .nilCheck (.tmp 7), none⟩,
  ⟨some 9, .off 0 (.tmp 8), none⟩,
  ⟨some 10, .load false 1 (.tmp 9), none⟩,
  ⟨some 11, .func (.func 26) [] [.tmp 3], none⟩,
  ⟨some 12, .call 23 [.tmp 10, .tmp 11], none⟩,
  ⟨some 6, .move (.tmp 12), none⟩])
 (.seq (.seq (.region [⟨some 13, .move (.tmp 6), none⟩,
  ⟨some 14, .bin .lss (.tmp 13) (.const (.int .i64 0)), none⟩])
 (.cond (.tmp 14) (.seq (.region [⟨some 15, .build [.int .i64 0, .int .i64 0, .int .i64 0] [], none⟩,
  ⟨none, .store 3 (.tmp 4) (.tmp 15), none⟩,
  ⟨some 5, .move (.const (.bool false)), none⟩])
 (.ret))
 (.skip)))
 (.seq (.region [⟨some 16, .move (.tmp 0), none⟩,
  ⟨some 17, .nilCheck (.tmp 16), none⟩,
  ⟨some 18, .off 0 (.tmp 17), none⟩,
  ⟨some 19, .load false 1 (.tmp 18), none⟩,
  ⟨some 20, .move (.tmp 6), none⟩,
  ⟨some 21, .idx 3 (.tmp 19) (.tmp 20), none⟩,
  ⟨some 22, .load true 3 (.tmp 21), none⟩,
  ⟨none, .store 3 (.tmp 4) (.tmp 22), none⟩,
  ⟨some 5, .move (.const (.bool true)), none⟩])
 (.ret))))
theorem light10 : Light Try.prog 10 2 23 L10 [.cell 4 true 3, .tmp 5] :=
  ⟨Try.f10, _, Try.func10, rfl, rfl, by kernel_rfl, by kernel_rfl, by decide⟩

/-! ### function 11: outrider/outriderref22.New -/
def L11 : LCode :=
 .seq (.region [⟨some 8, .new 44 8 [.int .i64 0, .int .i64 0, .int .i64 0, .slice none 0 0, .slice none 0 0, .slice none 0 0, .slice none 0 0, .slice none 0 0], none⟩,
  ⟨some 9, .move (.const (.int .i64 0)), none⟩])
 (.seq (.seq (.region [⟨some 11, .move (.tmp 0), none⟩,
  ⟨some 12, .bin .lss (.tmp 11) (.const (.int .i64 1)), none⟩,
  ⟨some 13, .move (.tmp 12), none⟩,
  ⟨some 14, .move (.tmp 0), (some (13, false))⟩,
  ⟨some 15, .bin .gtr (.tmp 14) (.const (.int .i64 64)), (some (13, false))⟩,
  ⟨some 16, .pick (.tmp 13) (.const (.bool true)) (.tmp 15), none⟩,
  ⟨some 17, .move (.tmp 16), none⟩,
  ⟨some 18, .move (.tmp 1), (some (17, false))⟩,
  ⟨some 19, .bin .lss (.tmp 18) (.const (.int .i64 1)), (some (17, false))⟩,
  ⟨some 20, .pick (.tmp 17) (.const (.bool true)) (.tmp 19), none⟩,
  ⟨some 21, .move (.tmp 20), none⟩,
  ⟨some 22, .move (.tmp 1), (some (21, false))⟩,
  ⟨some 23, .bin .gtr (.tmp 22) (.const (.int .i64 64)), (some (21, false))⟩,
  ⟨some 24, .pick (.tmp 21) (.const (.bool true)) (.tmp 23), none⟩,
  ⟨some 25, .move (.tmp 24), none⟩,
  ⟨some 26, .move (.tmp 2), (some (25, false))⟩,
  ⟨some 27, .bin .lss (.tmp 26) (.const (.int .i64 1)), (some (25, false))⟩,
  ⟨some 28, .pick (.tmp 25) (.const (.bool true)) (.tmp 27), none⟩,
  ⟨some 29, .move (.tmp 28), none⟩,
  ⟨some 30, .move (.tmp 2), (some (29, false))⟩,
  ⟨some 31, .bin .gtr (.tmp 30) (.const (.int .i64 64)), (some (29, false))⟩,
  ⟨some 32, .pick (.tmp 29) (.const (.bool true)) (.tmp 31), none⟩])
 (.cond (.tmp 32) (.seq (.region [⟨some 33, .build [.int .i64 0, .int .i64 0, .int .i64 0, .slice none 0 0, .slice none 0 0, .slice none 0 0, .slice none 0 0, .slice none 0 0] [], none⟩,
  ⟨none, .store 8 (.tmp 8) (.tmp 33), none⟩,
  ⟨some 9, .move (.const (.int .i64 161)), none⟩])
 (.ret))
 (.skip)))
 (.seq (.region [⟨some 34, .move (.tmp 3), none⟩,
  ⟨some 35, .call 27 [.tmp 34], none⟩,
  ⟨some 10, .move (.tmp 35), none⟩])
 (.seq (.seq (.region [⟨some 36, .move (.tmp 10), none⟩,
  ⟨some 37, .bin .neq (.tmp 36) (.const (.int .i64 0)), none⟩])
 (.cond (.tmp 37) (.seq (.region [⟨some 38, .build [.int .i64 0, .int .i64 0, .int .i64 0, .slice none 0 0, .slice none 0 0, .slice none 0 0, .slice none 0 0, .slice none 0 0] [], none⟩,
  ⟨some 39, .move (.tmp 10), none⟩,
  ⟨none, .store 8 (.tmp 8) (.tmp 38), none⟩,
  ⟨some 9, .move (.tmp 39), none⟩])
 (.ret))
 (.skip)))
 (.seq (.region [⟨some 40, .move (.tmp 0), none⟩,
  ⟨some 41, .move (.tmp 1), none⟩,
  ⟨some 42, .move (.tmp 2), none⟩,
  ⟨some 43, .move (.tmp 3), none⟩,
  ⟨some 44, .build [.int .i64 0, .int .i64 0, .int .i64 0, .slice none 0 0, .slice none 0 0, .slice none 0 0, .slice none 0 0, .slice none 0 0] [(0, 1, .tmp 40), (1, 1, .tmp 41), (2, 1, .tmp 42), (3, 1, .tmp 43)], none⟩,
  ⟨none, .store 8 (.tmp 8) (.tmp 44), none⟩,
  ⟨some 9, .move (.const (.int .i64 0)), none⟩])
 (.ret)))))
theorem light11 : Light Try.prog 11 4 45 L11 [.cell 8 true 8, .tmp 9] :=
  ⟨Try.f11, _, Try.func11, rfl, rfl, by kernel_rfl, by kernel_rfl, by decide⟩

/-! ### function 12: outrider/outriderlaw22.one -/
def L12 : LCode :=
 .seq (.region [⟨some 4, .box 44 8 (.tmp 1), none⟩,
  ⟨some 5, .box 53 4 (.tmp 2), none⟩,
  ⟨some 6, .new 44 8 [.int .i64 0, .int .i64 0, .int .i64 0, .slice none 0 0, .slice none 0 0, .slice none 0 0, .slice none 0 0, .slice none 0 0], none⟩,
  ⟨some 7, .move (.const (.bool false)), none⟩])
 (.seq (.seq (.region [⟨some 20, .off 0 (.tmp 5), none⟩,
  ⟨some 21, .load false 1 (.tmp 20), none⟩,
  ⟨some 22, .call 28 [.tmp 21], none⟩])
 (.block 0 (.seq (.seq (.region [⟨some 24, .bin .eql (.tmp 22) (.const (.int .i64 0)), none⟩,
  ⟨some 23, .move (.tmp 24), none⟩])
 (.cond (.tmp 23) (.skip)
 (.region [⟨some 25, .bin .eql (.tmp 22) (.const (.int .i64 1)), none⟩,
  ⟨some 23, .move (.tmp 25), none⟩])))
 (.cond (.tmp 23) (.seq (.region [⟨some 27, .load true 8 (.tmp 4), none⟩,
  ⟨some 28, .off 1 (.tmp 5), none⟩,
  ⟨some 29, .load false 1 (.tmp 28), none⟩,
  ⟨some 30, .off 3 (.tmp 5), none⟩,
  ⟨some 31, .load false 1 (.tmp 30), none⟩,
  ⟨some 32, .off 2 (.tmp 5), none⟩,
  ⟨some 33, .load false 1 (.tmp 32), none⟩,
  ⟨some 34, .build [.int .i64 0, .int .i64 0, .int .i64 0] [(0, 1, .tmp 29), (1, 1, .tmp 31), (2, 1, .tmp 33)], none⟩,
  ⟨some 35, .call 29 [.tmp 27, .tmp 34], none⟩,
  ⟨some 26, .move (.tmp 35), none⟩,
  ⟨some 36, .extract (.tmp 26) 0, none⟩,
  ⟨some 37, .extract (.tmp 26) 1, none⟩,
  ⟨some 8, .new 44 8 [.int .i64 0, .int .i64 0, .int .i64 0, .slice none 0 0, .slice none 0 0, .slice none 0 0, .slice none 0 0, .slice none 0 0], none⟩,
  ⟨none, .store 8 (.tmp 8) (.tmp 36), none⟩,
  ⟨some 9, .move (.tmp 37), none⟩])
 (.seq (.draw [⟨⟨some 38, .load true 8 (.tmp 8), none⟩, .read, 0, 1⟩,
  ⟨⟨some 39, .move (.tmp 0), none⟩, .pure, 0, 0⟩,
  ⟨⟨some 40, .off 1 (.tmp 5), none⟩, .pure, 0, 0⟩,
  ⟨⟨some 41, .load false 1 (.tmp 40), none⟩, .read, 0, 0⟩,
  ⟨⟨some 42, .off 3 (.tmp 5), none⟩, .pure, 0, 0⟩,
  ⟨⟨some 43, .load false 1 (.tmp 42), none⟩, .read, 0, 0⟩,
  ⟨⟨some 44, .off 2 (.tmp 5), none⟩, .pure, 0, 0⟩,
  ⟨⟨some 45, .load false 1 (.tmp 44), none⟩, .read, 0, 0⟩,
  ⟨⟨some 46, .build [.int .i64 0, .int .i64 0, .int .i64 0] [(0, 1, .tmp 41), (1, 1, .tmp 43), (2, 1, .tmp 45)], none⟩, .pure, 0, 0⟩,
  ⟨⟨some 47, .call 7 [.tmp 39, .tmp 46], none⟩, .heavy, 0, 1⟩,
  ⟨⟨some 48, .move (.tmp 9), none⟩, .pure, 0, 2⟩,
  ⟨⟨some 49, .bin .eql (.tmp 47) (.tmp 48), none⟩, .pure, 1, 2⟩,
  ⟨⟨none, .store 8 (.tmp 6) (.tmp 38), none⟩, .heavy, 1, 2⟩,
  ⟨⟨some 7, .move (.tmp 49), none⟩, .pure, 2, 2⟩])
 (.ret)))
 (.seq (.region [⟨some 51, .bin .eql (.tmp 22) (.const (.int .i64 2)), none⟩,
  ⟨some 50, .move (.tmp 51), none⟩])
 (.cond (.tmp 50) (.seq (.region [⟨some 53, .load true 8 (.tmp 4), none⟩,
  ⟨some 54, .off 1 (.tmp 5), none⟩,
  ⟨some 55, .load false 1 (.tmp 54), none⟩,
  ⟨some 56, .off 2 (.tmp 5), none⟩,
  ⟨some 57, .load false 1 (.tmp 56), none⟩,
  ⟨some 58, .call 30 [.tmp 53, .tmp 55, .tmp 57], none⟩,
  ⟨some 52, .move (.tmp 58), none⟩,
  ⟨some 59, .extract (.tmp 52) 0, none⟩,
  ⟨some 60, .extract (.tmp 52) 1, none⟩,
  ⟨some 10, .new 44 8 [.int .i64 0, .int .i64 0, .int .i64 0, .slice none 0 0, .slice none 0 0, .slice none 0 0, .slice none 0 0, .slice none 0 0], none⟩,
  ⟨none, .store 8 (.tmp 10) (.tmp 59), none⟩,
  ⟨some 11, .move (.tmp 60), none⟩])
 (.seq (.draw [⟨⟨some 61, .load true 8 (.tmp 10), none⟩, .read, 0, 1⟩,
  ⟨⟨some 62, .move (.tmp 0), none⟩, .pure, 0, 0⟩,
  ⟨⟨some 63, .off 1 (.tmp 5), none⟩, .pure, 0, 0⟩,
  ⟨⟨some 64, .load false 1 (.tmp 63), none⟩, .read, 0, 0⟩,
  ⟨⟨some 65, .off 2 (.tmp 5), none⟩, .pure, 0, 0⟩,
  ⟨⟨some 66, .load false 1 (.tmp 65), none⟩, .read, 0, 0⟩,
  ⟨⟨some 67, .call 31 [.tmp 62, .tmp 64, .tmp 66], none⟩, .heavy, 0, 1⟩,
  ⟨⟨some 68, .move (.tmp 11), none⟩, .pure, 0, 2⟩,
  ⟨⟨some 69, .eqB false (.tmp 67) (.tmp 68), none⟩, .pure, 1, 2⟩,
  ⟨⟨none, .store 8 (.tmp 6) (.tmp 61), none⟩, .heavy, 1, 2⟩,
  ⟨⟨some 7, .move (.tmp 69), none⟩, .pure, 2, 2⟩])
 (.ret)))
 (.seq (.seq (.region [⟨some 71, .bin .eql (.tmp 22) (.const (.int .i64 3)), none⟩,
  ⟨some 70, .move (.tmp 71), none⟩])
 (.cond (.tmp 70) (.skip)
 (.region [⟨some 72, .bin .eql (.tmp 22) (.const (.int .i64 4)), none⟩,
  ⟨some 70, .move (.tmp 72), none⟩])))
 (.cond (.tmp 70) (.seq (.region [⟨some 74, .load true 8 (.tmp 4), none⟩,
  ⟨some 75, .off 1 (.tmp 5), none⟩,
  ⟨some 76, .load false 1 (.tmp 75), none⟩,
  ⟨some 77, .off 3 (.tmp 5), none⟩,
  ⟨some 78, .load false 1 (.tmp 77), none⟩,
  ⟨some 79, .call 32 [.tmp 74, .tmp 76, .tmp 78], none⟩,
  ⟨some 73, .move (.tmp 79), none⟩,
  ⟨some 80, .extract (.tmp 73) 0, none⟩,
  ⟨some 81, .extract (.tmp 73) 1, none⟩,
  ⟨some 12, .new 44 8 [.int .i64 0, .int .i64 0, .int .i64 0, .slice none 0 0, .slice none 0 0, .slice none 0 0, .slice none 0 0, .slice none 0 0], none⟩,
  ⟨none, .store 8 (.tmp 12) (.tmp 80), none⟩,
  ⟨some 13, .move (.tmp 81), none⟩])
 (.seq (.seq (.region [⟨some 82, .move (.tmp 0), none⟩,
  ⟨some 83, .off 1 (.tmp 5), none⟩,
  ⟨some 84, .load false 1 (.tmp 83), none⟩,
  ⟨some 85, .call 33 [.tmp 82, .tmp 84], none⟩,
  ⟨some 86, .move (.tmp 13), none⟩,
  ⟨some 87, .bin .eql (.tmp 86) (.const (.int .i64 0)), none⟩,
  ⟨some 88, .eqB true (.tmp 85) (.tmp 87), none⟩])
 (.cond (.tmp 88) (.seq (.region [⟨some 89, .load true 8 (.tmp 4), none⟩,
  ⟨none, .store 8 (.tmp 6) (.tmp 89), none⟩,
  ⟨some 7, .move (.const (.bool false)), none⟩])
 (.ret))
 (.skip)))
 (.seq (.region [⟨some 91, .load true 8 (.tmp 4), none⟩,
  ⟨some 92, .off 1 (.tmp 5), none⟩,
  ⟨some 93, .load false 1 (.tmp 92), none⟩,
  ⟨some 94, .off 3 (.tmp 5), none⟩,
  ⟨some 95, .load false 1 (.tmp 94), none⟩,
  ⟨some 96, .call 32 [.tmp 91, .tmp 93, .tmp 95], none⟩,
  ⟨some 90, .move (.tmp 96), none⟩,
  ⟨some 97, .extract (.tmp 90) 0, none⟩,
  ⟨some 98, .extract (.tmp 90) 1, none⟩,
  ⟨some 14, .new 44 8 [.int .i64 0, .int .i64 0, .int .i64 0, .slice none 0 0, .slice none 0 0, .slice none 0 0, .slice none 0 0, .slice none 0 0], none⟩,
  ⟨none, .store 8 (.tmp 14) (.tmp 97), none⟩,
  ⟨some 15, .move (.tmp 98), none⟩])
 (.seq (.draw [⟨⟨some 99, .load true 8 (.tmp 14), none⟩, .read, 0, 1⟩,
  ⟨⟨some 100, .move (.tmp 0), none⟩, .pure, 0, 0⟩,
  ⟨⟨some 101, .off 1 (.tmp 5), none⟩, .pure, 0, 0⟩,
  ⟨⟨some 102, .load false 1 (.tmp 101), none⟩, .read, 0, 0⟩,
  ⟨⟨some 103, .off 3 (.tmp 5), none⟩, .pure, 0, 0⟩,
  ⟨⟨some 104, .load false 1 (.tmp 103), none⟩, .read, 0, 0⟩,
  ⟨⟨some 105, .call 25 [.tmp 100, .tmp 102, .tmp 104], none⟩, .heavy, 0, 1⟩,
  ⟨⟨some 106, .move (.tmp 15), none⟩, .pure, 0, 2⟩,
  ⟨⟨some 107, .bin .eql (.tmp 105) (.tmp 106), none⟩, .pure, 1, 2⟩,
  ⟨⟨none, .store 8 (.tmp 6) (.tmp 99), none⟩, .heavy, 1, 2⟩,
  ⟨⟨some 7, .move (.tmp 107), none⟩, .pure, 2, 2⟩])
 (.ret)))))
 (.seq (.region [⟨some 109, .bin .eql (.tmp 22) (.const (.int .i64 5)), none⟩,
  ⟨some 108, .move (.tmp 109), none⟩])
 (.cond (.tmp 108) (.seq (.region [⟨some 111, .load true 8 (.tmp 4), none⟩,
  ⟨some 112, .off 3 (.tmp 5), none⟩,
  ⟨some 113, .load false 1 (.tmp 112), none⟩,
  ⟨some 114, .call 34 [.tmp 111, .tmp 113], none⟩,
  ⟨some 110, .move (.tmp 114), none⟩,
  ⟨some 115, .extract (.tmp 110) 0, none⟩,
  ⟨some 116, .extract (.tmp 110) 1, none⟩,
  ⟨some 16, .new 44 8 [.int .i64 0, .int .i64 0, .int .i64 0, .slice none 0 0, .slice none 0 0, .slice none 0 0, .slice none 0 0, .slice none 0 0], none⟩,
  ⟨none, .store 8 (.tmp 16) (.tmp 115), none⟩,
  ⟨some 17, .move (.tmp 116), none⟩])
 (.seq (.draw [⟨⟨some 117, .load true 8 (.tmp 16), none⟩, .read, 0, 1⟩,
  ⟨⟨some 118, .move (.tmp 0), none⟩, .pure, 0, 0⟩,
  ⟨⟨some 119, .off 3 (.tmp 5), none⟩, .pure, 0, 0⟩,
  ⟨⟨some 120, .load false 1 (.tmp 119), none⟩, .read, 0, 0⟩,
  ⟨⟨some 121, .call 35 [.tmp 118, .tmp 120], none⟩, .heavy, 0, 1⟩,
  ⟨⟨some 122, .move (.tmp 17), none⟩, .pure, 0, 2⟩,
  ⟨⟨some 123, .bin .eql (.tmp 121) (.tmp 122), none⟩, .pure, 1, 2⟩,
  ⟨⟨none, .store 8 (.tmp 6) (.tmp 117), none⟩, .heavy, 1, 2⟩,
  ⟨⟨some 7, .move (.tmp 123), none⟩, .pure, 2, 2⟩])
 (.ret)))
 (.seq (.region [⟨some 125, .bin .eql (.tmp 22) (.const (.int .i64 6)), none⟩,
  ⟨some 124, .move (.tmp 125), none⟩])
 (.cond (.tmp 124) (.seq (.region [⟨some 127, .load true 8 (.tmp 4), none⟩,
  ⟨some 128, .off 1 (.tmp 5), none⟩,
  ⟨some 129, .load false 1 (.tmp 128), none⟩,
  ⟨some 130, .off 3 (.tmp 5), none⟩,
  ⟨some 131, .load false 1 (.tmp 130), none⟩,
  ⟨some 132, .call 36 [.tmp 127, .tmp 129, .tmp 131], none⟩,
  ⟨some 126, .move (.tmp 132), none⟩,
  ⟨some 133, .extract (.tmp 126) 0, none⟩,
  ⟨some 134, .extract (.tmp 126) 1, none⟩,
  ⟨some 18, .new 44 8 [.int .i64 0, .int .i64 0, .int .i64 0, .slice none 0 0, .slice none 0 0, .slice none 0 0, .slice none 0 0, .slice none 0 0], none⟩,
  ⟨none, .store 8 (.tmp 18) (.tmp 133), none⟩,
  ⟨some 19, .move (.tmp 134), none⟩])
 (.seq (.draw [⟨⟨some 135, .load true 8 (.tmp 18), none⟩, .read, 0, 1⟩,
  ⟨⟨some 136, .move (.tmp 0), none⟩, .pure, 0, 0⟩,
  ⟨⟨some 137, .off 1 (.tmp 5), none⟩, .pure, 0, 0⟩,
  ⟨⟨some 138, .load false 1 (.tmp 137), none⟩, .read, 0, 0⟩,
  ⟨⟨some 139, .off 3 (.tmp 5), none⟩, .pure, 0, 0⟩,
  ⟨⟨some 140, .load false 1 (.tmp 139), none⟩, .read, 0, 0⟩,
  ⟨⟨some 141, .call 37 [.tmp 136, .tmp 138, .tmp 140], none⟩, .heavy, 0, 1⟩,
  ⟨⟨some 142, .move (.tmp 19), none⟩, .pure, 0, 2⟩,
  ⟨⟨some 143, .eqB false (.tmp 141) (.tmp 142), none⟩, .pure, 1, 2⟩,
  ⟨⟨none, .store 8 (.tmp 6) (.tmp 135), none⟩, .heavy, 1, 2⟩,
  ⟨⟨some 7, .move (.tmp 143), none⟩, .pure, 2, 2⟩])
 (.ret)))
 (.skip)))))))))))))
 (.seq (.region [⟨some 144, .move (.tmp 0), none⟩,
  ⟨some 145, .call 14 [.tmp 144], none⟩])
 (.seq (.region [⟨some 146, .load true 8 (.tmp 4), none⟩,
  ⟨some 147, .call 38 [.tmp 146], none⟩,
  ⟨none, .store 8 (.tmp 6) (.tmp 147), none⟩,
  ⟨some 7, .move (.const (.bool true)), none⟩])
 (.ret))))
theorem light12 : Light Try.prog 12 3 148 L12 [.cell 6 true 8, .tmp 7] :=
  ⟨Try.f12, _, Try.func12, rfl, rfl, by kernel_rfl, by kernel_rfl, by decide⟩

/-! ### function 13: outrider/outriderlaw22.same -/
def L13_1 : LCode :=
 .seq (.seq (.region [⟨some 73, .move (.tmp 15), none⟩,
  ⟨some 74, .move (.tmp 11), none⟩,
  ⟨some 75, .bin .lss (.tmp 73) (.tmp 74), none⟩])
 (.cond (.tmp 75) (.skip)
 (.exit 0)))
 (.seq (.block 1 (.seq (.draw [⟨⟨some 78, .move (.tmp 14), none⟩, .pure, 0, 0⟩,
  ⟨⟨some 79, .move (.tmp 15), none⟩, .pure, 0, 0⟩,
  ⟨⟨some 80, .idx 3 (.tmp 78) (.tmp 79), none⟩, .pure, 0, 0⟩,
  ⟨⟨some 81, .off 0 (.tmp 80), none⟩, .pure, 0, 0⟩,
  ⟨⟨some 82, .load false 1 (.tmp 81), none⟩, .read, 0, 0⟩,
  ⟨⟨some 83, .off 4 (.tmp 6), none⟩, .pure, 0, 0⟩,
  ⟨⟨some 84, .load false 1 (.tmp 83), none⟩, .read, 0, 0⟩,
  ⟨⟨some 85, .move (.tmp 15), none⟩, .pure, 0, 0⟩,
  ⟨⟨some 86, .idx 3 (.tmp 84) (.tmp 85), none⟩, .pure, 0, 0⟩,
  ⟨⟨some 87, .off 0 (.tmp 86), none⟩, .pure, 0, 0⟩,
  ⟨⟨some 88, .load false 1 (.tmp 87), none⟩, .read, 0, 0⟩,
  ⟨⟨some 89, .bin .neq (.tmp 82) (.tmp 88), none⟩, .pure, 0, 0⟩,
  ⟨⟨some 90, .move (.tmp 89), none⟩, .pure, 0, 0⟩,
  ⟨⟨some 91, .move (.tmp 14), (some (90, false))⟩, .pure, 0, 0⟩,
  ⟨⟨some 92, .move (.tmp 15), (some (90, false))⟩, .pure, 0, 0⟩,
  ⟨⟨some 93, .idx 3 (.tmp 91) (.tmp 92), (some (90, false))⟩, .pure, 0, 0⟩,
  ⟨⟨some 94, .off 1 (.tmp 93), (some (90, false))⟩, .pure, 0, 0⟩,
  ⟨⟨some 95, .load false 1 (.tmp 94), (some (90, false))⟩, .read, 0, 0⟩,
  ⟨⟨some 96, .off 4 (.tmp 6), (some (90, false))⟩, .pure, 0, 0⟩,
  ⟨⟨some 97, .load false 1 (.tmp 96), (some (90, false))⟩, .read, 0, 0⟩,
  ⟨⟨some 98, .move (.tmp 15), (some (90, false))⟩, .pure, 0, 0⟩,
  ⟨⟨some 99, .idx 3 (.tmp 97) (.tmp 98), (some (90, false))⟩, .pure, 0, 0⟩,
  ⟨⟨some 100, .off 1 (.tmp 99), (some (90, false))⟩, .pure, 0, 0⟩,
  ⟨⟨some 101, .load false 1 (.tmp 100), (some (90, false))⟩, .read, 0, 0⟩,
  ⟨⟨some 102, .bin .neq (.tmp 95) (.tmp 101), (some (90, false))⟩, .pure, 0, 0⟩,
  ⟨⟨some 103, .pick (.tmp 90) (.const (.bool true)) (.tmp 102), none⟩, .pure, 0, 0⟩,
  ⟨⟨some 104, .move (.tmp 103), none⟩, .pure, 0, 0⟩,
  ⟨⟨some 105, .move (.tmp 14), (some (104, false))⟩, .pure, 0, 0⟩,
  ⟨⟨some 106, .move (.tmp 15), (some (104, false))⟩, .pure, 0, 0⟩,
  ⟨⟨some 107, .idx 3 (.tmp 105) (.tmp 106), (some (104, false))⟩, .pure, 0, 0⟩,
  ⟨⟨some 108, .off 2 (.tmp 107), (some (104, false))⟩, .pure, 0, 0⟩,
  ⟨⟨some 109, .load false 1 (.tmp 108), (some (104, false))⟩, .read, 0, 0⟩,
  ⟨⟨some 110, .off 4 (.tmp 6), (some (104, false))⟩, .pure, 0, 0⟩,
  ⟨⟨some 111, .load false 1 (.tmp 110), (some (104, false))⟩, .read, 0, 0⟩,
  ⟨⟨some 112, .move (.tmp 15), (some (104, false))⟩, .pure, 0, 0⟩,
  ⟨⟨some 113, .idx 3 (.tmp 111) (.tmp 112), (some (104, false))⟩, .pure, 0, 0⟩,
  ⟨⟨some 114, .off 2 (.tmp 113), (some (104, false))⟩, .pure, 0, 0⟩,
  ⟨⟨some 115, .load false 1 (.tmp 114), (some (104, false))⟩, .read, 0, 0⟩,
  ⟨⟨some 116, .bin .neq (.tmp 109) (.tmp 115), (some (104, false))⟩, .pure, 0, 0⟩,
  ⟨⟨some 117, .pick (.tmp 104) (.const (.bool true)) (.tmp 116), none⟩, .pure, 0, 0⟩])
 (.cond (.tmp 117) (.seq (.region [⟨some 10, .move (.const (.bool false)), none⟩])
 (.ret))
 (.skip))))
 (.region [⟨some 76, .move (.tmp 15), none⟩,
  ⟨some 77, .bin .add (.tmp 76) (.const (.int .i64 1)), none⟩,
  ⟨some 15, .move (.tmp 77), none⟩]))
def L13 : LCode :=
 .seq (.region [⟨some 6, .box 44 8 (.tmp 1), none⟩,
  ⟨some 10, .move (.const (.bool false)), none⟩])
 (.seq (.region [⟨some 25, .move (.tmp 0), none⟩,
  ⟨some 26, .call 15 [.tmp 25], none⟩,
  ⟨some 24, .move (.tmp 26), none⟩,
  ⟨some 27, .extract (.tmp 24) 0, none⟩,
  ⟨some 28, .extract (.tmp 24) 1, none⟩,
  ⟨some 29, .extract (.tmp 24) 2, none⟩,
  ⟨some 11, .move (.tmp 27), none⟩,
  ⟨some 12, .move (.tmp 28), none⟩,
  ⟨some 13, .move (.tmp 29), none⟩])
 (.seq (.region [⟨some 30, .move (.tmp 0), none⟩,
  ⟨some 31, .call 20 [.tmp 30], none⟩,
  ⟨some 14, .move (.tmp 31), none⟩])
 (.seq (.seq (.draw [⟨⟨some 32, .move (.tmp 11), none⟩, .pure, 0, 0⟩,
  ⟨⟨some 33, .off 4 (.tmp 6), none⟩, .pure, 0, 0⟩,
  ⟨⟨some 34, .load false 1 (.tmp 33), none⟩, .read, 0, 0⟩,
  ⟨⟨some 35, .len (.tmp 34), none⟩, .pure, 0, 0⟩,
  ⟨⟨some 36, .bin .neq (.tmp 32) (.tmp 35), none⟩, .pure, 0, 0⟩,
  ⟨⟨some 37, .move (.tmp 36), none⟩, .pure, 0, 0⟩,
  ⟨⟨some 38, .move (.tmp 12), (some (37, false))⟩, .pure, 0, 0⟩,
  ⟨⟨some 39, .off 5 (.tmp 6), (some (37, false))⟩, .pure, 0, 0⟩,
  ⟨⟨some 40, .load false 1 (.tmp 39), (some (37, false))⟩, .read, 0, 0⟩,
  ⟨⟨some 41, .len (.tmp 40), (some (37, false))⟩, .pure, 0, 0⟩,
  ⟨⟨some 42, .bin .neq (.tmp 38) (.tmp 41), (some (37, false))⟩, .pure, 0, 0⟩,
  ⟨⟨some 43, .pick (.tmp 37) (.const (.bool true)) (.tmp 42), none⟩, .pure, 0, 0⟩,
  ⟨⟨some 44, .move (.tmp 43), none⟩, .pure, 0, 0⟩,
  ⟨⟨some 45, .move (.tmp 13), (some (44, false))⟩, .pure, 0, 0⟩,
  ⟨⟨some 46, .off 6 (.tmp 6), (some (44, false))⟩, .pure, 0, 0⟩,
  ⟨⟨some 47, .load false 1 (.tmp 46), (some (44, false))⟩, .read, 0, 0⟩,
  ⟨⟨some 48, .len (.tmp 47), (some (44, false))⟩, .pure, 0, 0⟩,
  ⟨⟨some 49, .bin .neq (.tmp 45) (.tmp 48), (some (44, false))⟩, .pure, 0, 0⟩,
  ⟨⟨some 50, .pick (.tmp 44) (.const (.bool true)) (.tmp 49), none⟩, .pure, 0, 0⟩,
  ⟨⟨some 51, .move (.tmp 50), none⟩, .pure, 0, 0⟩,
  ⟨⟨some 52, .move (.tmp 14), (some (51, false))⟩, .pure, 0, 0⟩,
  ⟨⟨some 53, .len (.tmp 52), (some (51, false))⟩, .pure, 0, 0⟩,
  ⟨⟨some 54, .move (.tmp 11), (some (51, false))⟩, .pure, 0, 0⟩,
  ⟨⟨some 55, .bin .neq (.tmp 53) (.tmp 54), (some (51, false))⟩, .pure, 0, 0⟩,
  ⟨⟨some 56, .pick (.tmp 51) (.const (.bool true)) (.tmp 55), none⟩, .pure, 0, 0⟩,
  ⟨⟨some 57, .move (.tmp 56), none⟩, .pure, 0, 0⟩,
  ⟨⟨some 58, .move (.tmp 0), (some (57, false))⟩, .pure, 0, 0⟩,
  ⟨⟨some 59, .call 17 [.tmp 58], (some (57, false))⟩, .heavy, 0, 1⟩,
  ⟨⟨some 60, .off 5 (.tmp 6), (some (57, false))⟩, .pure, 0, 1⟩,
  ⟨⟨some 61, .load false 1 (.tmp 60), (some (57, false))⟩, .read, 0, 1⟩,
  ⟨⟨some 62, .call 16 [.tmp 59, .tmp 61], (some (57, false))⟩, .heavy, 1, 2⟩,
  ⟨⟨some 63, .un .not (.tmp 62), (some (57, false))⟩, .pure, 2, 2⟩,
  ⟨⟨some 64, .pick (.tmp 57) (.const (.bool true)) (.tmp 63), none⟩, .pure, 2, 2⟩,
  ⟨⟨some 65, .move (.tmp 64), none⟩, .pure, 2, 2⟩,
  ⟨⟨some 66, .move (.tmp 0), (some (65, false))⟩, .pure, 2, 2⟩,
  ⟨⟨some 67, .call 19 [.tmp 66], (some (65, false))⟩, .heavy, 2, 3⟩,
  ⟨⟨some 68, .off 6 (.tmp 6), (some (65, false))⟩, .pure, 2, 3⟩,
  ⟨⟨some 69, .load false 1 (.tmp 68), (some (65, false))⟩, .read, 2, 3⟩,
  ⟨⟨some 70, .call 18 [.tmp 67, .tmp 69], (some (65, false))⟩, .heavy, 3, 4⟩,
  ⟨⟨some 71, .un .not (.tmp 70), (some (65, false))⟩, .pure, 4, 4⟩,
  ⟨⟨some 72, .pick (.tmp 65) (.const (.bool true)) (.tmp 71), none⟩, .pure, 4, 4⟩])
 (.cond (.tmp 72) (.seq (.region [⟨some 10, .move (.const (.bool false)), none⟩])
 (.ret))
 (.skip)))
 (.seq (.seq (.region [⟨some 15, .move (.const (.int .i64 0)), none⟩])
 (.block 0 (.loop L13_1)))
 (.seq (.region [⟨some 119, .move (.tmp 0), none⟩,
  ⟨some 120, .move (.tmp 2), none⟩,
  ⟨some 121, .call 10 [.tmp 119, .tmp 120], none⟩,
  ⟨some 118, .move (.tmp 121), none⟩,
  ⟨some 122, .extract (.tmp 118) 0, none⟩,
  ⟨some 123, .extract (.tmp 118) 1, none⟩,
  ⟨some 16, .new 29 3 [.int .i64 0, .int .i64 0, .int .i64 0], none⟩,
  ⟨none, .store 3 (.tmp 16) (.tmp 122), none⟩,
  ⟨some 17, .move (.tmp 123), none⟩])
 (.seq (.region [⟨some 124, .load true 8 (.tmp 6), none⟩,
  ⟨some 125, .move (.tmp 2), none⟩,
  ⟨some 126, .call 39 [.tmp 124, .tmp 125], none⟩,
  ⟨some 18, .move (.tmp 126), none⟩])
 (.seq (.seq (.draw [⟨⟨some 127, .move (.tmp 17), none⟩, .pure, 0, 0⟩,
  ⟨⟨some 128, .move (.tmp 18), none⟩, .pure, 0, 0⟩,
  ⟨⟨some 129, .bin .geq (.tmp 128) (.const (.int .i64 0)), none⟩, .pure, 0, 0⟩,
  ⟨⟨some 130, .eqB true (.tmp 127) (.tmp 129), none⟩, .pure, 0, 0⟩,
  ⟨⟨some 131, .move (.tmp 130), none⟩, .pure, 0, 0⟩,
  ⟨⟨some 132, .move (.tmp 17), (some (131, false))⟩, .pure, 0, 0⟩,
  ⟨⟨some 133, .move (.tmp 132), (some (131, false))⟩, .pure, 0, 0⟩,
  ⟨⟨some 134, .load true 3 (.tmp 16), (some (133, true))⟩, .read, 0, 0⟩,
  ⟨⟨some 135, .move (.tmp 14), (some (133, true))⟩, .pure, 0, 0⟩,
  ⟨⟨some 136, .move (.tmp 18), (some (133, true))⟩, .pure, 0, 0⟩,
  ⟨⟨some 137, .idx 3 (.tmp 135) (.tmp 136), (some (133, true))⟩, .pure, 0, 0⟩,
  ⟨⟨some 138, .load true 3 (.tmp 137), (some (133, true))⟩, .read, 0, 0⟩,
  ⟨⟨some 139, .eqR true 29 (.tmp 134) (.tmp 138), (some (133, true))⟩, .pure, 0, 0⟩,
  ⟨⟨some 140, .pick (.tmp 133) (.tmp 139) (.const (.bool false)), (some (131, false))⟩, .pure, 0, 0⟩,
  ⟨⟨some 141, .pick (.tmp 131) (.const (.bool true)) (.tmp 140), none⟩, .pure, 0, 0⟩,
  ⟨⟨some 142, .move (.tmp 141), none⟩, .pure, 0, 0⟩,
  ⟨⟨some 143, .move (.tmp 17), (some (142, false))⟩, .pure, 0, 0⟩,
  ⟨⟨some 144, .un .not (.tmp 143), (some (142, false))⟩, .pure, 0, 0⟩,
  ⟨⟨some 145, .move (.tmp 144), (some (142, false))⟩, .pure, 0, 0⟩,
  ⟨⟨some 146, .load true 3 (.tmp 16), (some (145, true))⟩, .read, 0, 0⟩,
  ⟨⟨some 147, .build [.int .i64 0, .int .i64 0, .int .i64 0] [], (some (145, true))⟩, .pure, 0, 0⟩,
  ⟨⟨some 148, .eqR true 29 (.tmp 146) (.tmp 147), (some (145, true))⟩, .pure, 0, 0⟩,
  ⟨⟨some 149, .pick (.tmp 145) (.tmp 148) (.const (.bool false)), (some (142, false))⟩, .pure, 0, 0⟩,
  ⟨⟨some 150, .pick (.tmp 142) (.const (.bool true)) (.tmp 149), none⟩, .pure, 0, 0⟩])
 (.cond (.tmp 150) (.seq (.region [⟨some 10, .move (.const (.bool false)), none⟩])
 (.ret))
 (.skip)))
 (.seq (.region [⟨some 152, .move (.tmp 0), none⟩,
  ⟨some 153, .move (.tmp 2), none⟩,
  ⟨some 154, .call 40 [.tmp 152, .tmp 153], none⟩,
  ⟨some 151, .move (.tmp 154), none⟩,
  ⟨some 155, .extract (.tmp 151) 0, none⟩,
  ⟨some 156, .extract (.tmp 151) 1, none⟩,
  ⟨some 19, .move (.tmp 155), none⟩,
  ⟨some 20, .move (.tmp 156), none⟩])
 (.seq (.region [⟨some 157, .load true 8 (.tmp 6), none⟩,
  ⟨some 158, .move (.tmp 2), none⟩,
  ⟨some 159, .call 41 [.tmp 157, .tmp 158], none⟩,
  ⟨some 21, .move (.tmp 159), none⟩])
 (.seq (.seq (.draw [⟨⟨some 160, .move (.tmp 20), none⟩, .pure, 0, 0⟩,
  ⟨⟨some 161, .move (.tmp 21), none⟩, .pure, 0, 0⟩,
  ⟨⟨some 162, .bin .geq (.tmp 161) (.const (.int .i64 0)), none⟩, .pure, 0, 0⟩,
  ⟨⟨some 163, .eqB true (.tmp 160) (.tmp 162), none⟩, .pure, 0, 0⟩,
  ⟨⟨some 164, .move (.tmp 163), none⟩, .pure, 0, 0⟩,
  ⟨⟨some 165, .move (.tmp 20), (some (164, false))⟩, .pure, 0, 0⟩,
  ⟨⟨some 166, .move (.tmp 165), (some (164, false))⟩, .pure, 0, 0⟩,
  ⟨⟨some 167, .move (.tmp 19), (some (166, true))⟩, .pure, 0, 0⟩,
  ⟨⟨some 168, .off 5 (.tmp 6), (some (166, true))⟩, .pure, 0, 0⟩,
  ⟨⟨some 169, .load false 1 (.tmp 168), (some (166, true))⟩, .read, 0, 0⟩,
  ⟨⟨some 170, .move (.tmp 21), (some (166, true))⟩, .pure, 0, 0⟩,
  ⟨⟨some 171, .idx 2 (.tmp 169) (.tmp 170), (some (166, true))⟩, .pure, 0, 0⟩,
  ⟨⟨some 172, .off 1 (.tmp 171), (some (166, true))⟩, .pure, 0, 0⟩,
  ⟨⟨some 173, .load false 1 (.tmp 172), (some (166, true))⟩, .read, 0, 0⟩,
  ⟨⟨some 174, .bin .neq (.tmp 167) (.tmp 173), (some (166, true))⟩, .pure, 0, 0⟩,
  ⟨⟨some 175, .pick (.tmp 166) (.tmp 174) (.const (.bool false)), (some (164, false))⟩, .pure, 0, 0⟩,
  ⟨⟨some 176, .pick (.tmp 164) (.const (.bool true)) (.tmp 175), none⟩, .pure, 0, 0⟩,
  ⟨⟨some 177, .move (.tmp 176), none⟩, .pure, 0, 0⟩,
  ⟨⟨some 178, .move (.tmp 20), (some (177, false))⟩, .pure, 0, 0⟩,
  ⟨⟨some 179, .un .not (.tmp 178), (some (177, false))⟩, .pure, 0, 0⟩,
  ⟨⟨some 180, .move (.tmp 179), (some (177, false))⟩, .pure, 0, 0⟩,
  ⟨⟨some 181, .move (.tmp 19), (some (180, true))⟩, .pure, 0, 0⟩,
  ⟨⟨some 182, .bin .neq (.tmp 181) (.const (.int .i64 0)), (some (180, true))⟩, .pure, 0, 0⟩,
  ⟨⟨some 183, .pick (.tmp 180) (.tmp 182) (.const (.bool false)), (some (177, false))⟩, .pure, 0, 0⟩,
  ⟨⟨some 184, .pick (.tmp 177) (.const (.bool true)) (.tmp 183), none⟩, .pure, 0, 0⟩,
  ⟨⟨some 185, .move (.tmp 184), none⟩, .pure, 0, 0⟩,
  ⟨⟨some 186, .move (.tmp 0), (some (185, false))⟩, .pure, 0, 0⟩,
  ⟨⟨some 187, .move (.tmp 3), (some (185, false))⟩, .pure, 0, 0⟩,
  ⟨⟨some 188, .call 8 [.tmp 186, .tmp 187], (some (185, false))⟩, .heavy, 0, 1⟩,
  ⟨⟨some 189, .load true 8 (.tmp 6), (some (185, false))⟩, .read, 0, 1⟩,
  ⟨⟨some 190, .move (.tmp 3), (some (185, false))⟩, .pure, 0, 1⟩,
  ⟨⟨some 191, .call 42 [.tmp 189, .tmp 190], (some (185, false))⟩, .heavy, 1, 2⟩,
  ⟨⟨some 192, .eqB true (.tmp 188) (.tmp 191), (some (185, false))⟩, .pure, 2, 2⟩,
  ⟨⟨some 193, .pick (.tmp 185) (.const (.bool true)) (.tmp 192), none⟩, .pure, 2, 2⟩])
 (.cond (.tmp 193) (.seq (.region [⟨some 10, .move (.const (.bool false)), none⟩])
 (.ret))
 (.skip)))
 (.seq (.region [⟨some 195, .move (.tmp 0), none⟩,
  ⟨some 196, .move (.tmp 4), none⟩,
  ⟨some 197, .call 21 [.tmp 195, .tmp 196], none⟩,
  ⟨some 194, .move (.tmp 197), none⟩,
  ⟨some 198, .extract (.tmp 194) 0, none⟩,
  ⟨some 199, .extract (.tmp 194) 1, none⟩,
  ⟨some 22, .move (.tmp 198), none⟩,
  ⟨some 23, .move (.tmp 199), none⟩])
 (.seq (.seq (.region [⟨some 200, .move (.tmp 4), none⟩,
  ⟨some 201, .len (.tmp 200), none⟩,
  ⟨some 202, .off 3 (.tmp 6), none⟩,
  ⟨some 203, .load false 1 (.tmp 202), none⟩,
  ⟨some 204, .len (.tmp 203), none⟩,
  ⟨some 205, .bin .neq (.tmp 201) (.tmp 204), none⟩])
 (.cond (.tmp 205) (.seq (.region [⟨some 206, .move (.tmp 23), none⟩,
  ⟨some 207, .un .not (.tmp 206), none⟩,
  ⟨some 208, .move (.tmp 207), none⟩,
  ⟨some 209, .move (.tmp 22), (some (208, true))⟩,
  ⟨some 210, .len (.tmp 209), (some (208, true))⟩,
  ⟨some 211, .bin .eql (.tmp 210) (.const (.int .i64 0)), (some (208, true))⟩,
  ⟨some 212, .pick (.tmp 208) (.tmp 211) (.const (.bool false)), none⟩,
  ⟨some 10, .move (.tmp 212), none⟩])
 (.ret))
 (.skip)))
 (.seq (.region [⟨some 213, .move (.tmp 23), none⟩,
  ⟨some 214, .move (.tmp 213), none⟩,
  ⟨some 215, .move (.tmp 22), (some (214, true))⟩,
  ⟨some 216, .load true 8 (.tmp 6), (some (214, true))⟩,
  ⟨some 217, .move (.tmp 4), (some (214, true))⟩,
  ⟨some 218, .call 43 [.tmp 216, .tmp 217], (some (214, true))⟩,
  ⟨some 219, .call 18 [.tmp 215, .tmp 218], (some (214, true))⟩,
  ⟨some 220, .pick (.tmp 214) (.tmp 219) (.const (.bool false)), none⟩,
  ⟨some 10, .move (.tmp 220), none⟩])
 (.ret))))))))))))))
theorem light13 : Light Try.prog 13 5 221 L13 [.tmp 10] :=
  ⟨Try.f13, _, Try.func13, rfl, rfl, by kernel_rfl, by kernel_rfl, by decide⟩

/-! ### function 14: (*outrider/attempt.Log).Clear -/
def L14 : LCode :=
 .seq (.region [⟨some 2, .move (.tmp 0), none⟩,
  ⟨some 3, .move (.tmp 0), none⟩,
  ⟨some 4, .move (.tmp 0), none⟩,
  ⟨some 5, .nilCheck (.tmp 2), none⟩,
  ⟨some 6, .off 0 (.tmp 5), none⟩,
  ⟨none, .store 1 (.tmp 6) (.const (.slice none 0 0)), none⟩,
  ⟨some 7, .nilCheck (.tmp 3), none⟩,
  ⟨some 8, .off 1 (.tmp 7), none⟩,
  ⟨none, .store 1 (.tmp 8) (.const (.slice none 0 0)), none⟩,
  ⟨some 9, .nilCheck (.tmp 4), none⟩,
  ⟨some 10, .off 2 (.tmp 9), none⟩,
  ⟨none, .store 1 (.tmp 10) (.const (.slice none 0 0)), none⟩])
 (.region [⟨some 11, .move (.tmp 0), none⟩,
  ⟨some 12, .nilCheck (.tmp 11), none⟩,
  ⟨some 13, .off 3 (.tmp 12), none⟩,
  ⟨some 14, .load false 1 (.tmp 13), none⟩,
  ⟨some 15, .call 44 [.tmp 14], none⟩])
theorem light14 : Light Try.prog 14 1 16 L14 [] :=
  ⟨Try.f14, _, Try.func14, rfl, rfl, by kernel_rfl, by kernel_rfl, by decide⟩

/-! ### function 15: (*outrider/attempt.Log).Lens -/
def L15 : LCode :=
 .seq (.region [⟨some 2, .move (.const (.int .i64 0)), none⟩,
  ⟨some 3, .move (.const (.int .i64 0)), none⟩,
  ⟨some 4, .move (.const (.int .i64 0)), none⟩])
 (.seq (.draw [⟨⟨some 5, .move (.tmp 0), none⟩, .pure, 0, 0⟩,
  ⟨⟨some 6, .nilCheck (.tmp 5), none⟩, .pure, 0, 0⟩,
  ⟨⟨some 7, .off 0 (.tmp 6), none⟩, .pure, 0, 0⟩,
  ⟨⟨some 8, .load false 1 (.tmp 7), none⟩, .read, 0, 0⟩,
  ⟨⟨some 9, .len (.tmp 8), none⟩, .pure, 0, 0⟩,
  ⟨⟨some 10, .move (.tmp 0), none⟩, .pure, 0, 0⟩,
  ⟨⟨some 11, .nilCheck (.tmp 10), none⟩, .pure, 0, 0⟩,
  ⟨⟨some 12, .off 1 (.tmp 11), none⟩, .pure, 0, 0⟩,
  ⟨⟨some 13, .load false 1 (.tmp 12), none⟩, .read, 0, 0⟩,
  ⟨⟨some 14, .len (.tmp 13), none⟩, .pure, 0, 0⟩,
  ⟨⟨some 15, .move (.tmp 0), none⟩, .pure, 0, 0⟩,
  ⟨⟨some 16, .nilCheck (.tmp 15), none⟩, .pure, 0, 0⟩,
  ⟨⟨some 17, .off 2 (.tmp 16), none⟩, .pure, 0, 0⟩,
  ⟨⟨some 18, .load false 1 (.tmp 17), none⟩, .read, 0, 0⟩,
  ⟨⟨some 19, .len (.tmp 18), none⟩, .pure, 0, 0⟩,
  ⟨⟨some 2, .move (.tmp 9), none⟩, .pure, 0, 0⟩,
  ⟨⟨some 3, .move (.tmp 14), none⟩, .pure, 0, 0⟩,
  ⟨⟨some 4, .move (.tmp 19), none⟩, .pure, 0, 0⟩])
 (.ret))
theorem light15 : Light Try.prog 15 1 20 L15 [.tmp 2, .tmp 3, .tmp 4] :=
  ⟨Try.f15, _, Try.func15, rfl, rfl, by kernel_rfl, by kernel_rfl, by decide⟩

/-! ### function 16: outrider/outriderref13.Same -/
def L16_1 : LCode :=
 .seq (.seq (.region [⟨some 11, .move (.tmp 5), none⟩,
  ⟨some 12, .move (.tmp 0), none⟩,
  ⟨some 13, .len (.tmp 12), none⟩,
  ⟨some 14, .bin .lss (.tmp 11) (.tmp 13), none⟩])
 (.cond (.tmp 14) (.skip)
 (.exit 0)))
 (.seq (.block 1 (.seq (.draw [⟨⟨some 17, .move (.tmp 0), none⟩, .pure, 0, 0⟩,
  ⟨⟨some 18, .move (.tmp 5), none⟩, .pure, 0, 0⟩,
  ⟨⟨some 19, .idx 2 (.tmp 17) (.tmp 18), none⟩, .pure, 0, 0⟩,
  ⟨⟨some 20, .load true 2 (.tmp 19), none⟩, .read, 0, 0⟩,
  ⟨⟨some 21, .move (.tmp 1), none⟩, .pure, 0, 0⟩,
  ⟨⟨some 22, .move (.tmp 5), none⟩, .pure, 0, 0⟩,
  ⟨⟨some 23, .idx 2 (.tmp 21) (.tmp 22), none⟩, .pure, 0, 0⟩,
  ⟨⟨some 24, .load true 2 (.tmp 23), none⟩, .read, 0, 0⟩,
  ⟨⟨some 25, .eqR true 92 (.tmp 20) (.tmp 24), none⟩, .pure, 0, 0⟩])
 (.cond (.tmp 25) (.seq (.region [⟨some 4, .move (.const (.bool false)), none⟩])
 (.ret))
 (.skip))))
 (.region [⟨some 15, .move (.tmp 5), none⟩,
  ⟨some 16, .bin .add (.tmp 15) (.const (.int .i64 1)), none⟩,
  ⟨some 5, .move (.tmp 16), none⟩]))
def L16 : LCode :=
 .seq (.region [⟨some 4, .move (.const (.bool false)), none⟩])
 (.seq (.seq (.region [⟨some 6, .move (.tmp 0), none⟩,
  ⟨some 7, .len (.tmp 6), none⟩,
  ⟨some 8, .move (.tmp 1), none⟩,
  ⟨some 9, .len (.tmp 8), none⟩,
  ⟨some 10, .bin .neq (.tmp 7) (.tmp 9), none⟩])
 (.cond (.tmp 10) (.seq (.region [⟨some 4, .move (.const (.bool false)), none⟩])
 (.ret))
 (.skip)))
 (.seq (.seq (.region [⟨some 5, .move (.const (.int .i64 0)), none⟩])
 (.block 0 (.loop L16_1)))
 (.seq (.region [⟨some 4, .move (.const (.bool true)), none⟩])
 (.ret))))
theorem light16 : Light Try.prog 16 2 26 L16 [.tmp 4] :=
  ⟨Try.f16, _, Try.func16, rfl, rfl, by kernel_rfl, by kernel_rfl, by decide⟩

/-! ### function 17: (*outrider/attempt.Log).Writes -/
def L17 : LCode :=
 .seq (.region [⟨some 2, .move (.const (.slice none 0 0)), none⟩])
 (.seq (.region [⟨some 3, .move (.tmp 0), none⟩,
  ⟨some 4, .nilCheck (.tmp 3), none⟩,
  ⟨some 5, .off 1 (.tmp 4), none⟩,
  ⟨some 6, .load false 1 (.tmp 5), none⟩,
  ⟨some 7, .append 92 2 16 (.const (.slice none 0 0)) (.tmp 6), none⟩,
  ⟨some 2, .move (.tmp 7), none⟩])
 (.ret))
theorem light17 : Light Try.prog 17 1 8 L17 [.tmp 2] :=
  ⟨Try.f17, _, Try.func17, rfl, rfl, by kernel_rfl, by kernel_rfl, by decide⟩

/-! ### function 18: outrider/outriderref07.Row -/
def L18_1 : LCode :=
 .seq (.seq (.region [⟨some 11, .move (.tmp 5), none⟩,
  ⟨some 12, .move (.tmp 0), none⟩,
  ⟨some 13, .len (.tmp 12), none⟩,
  ⟨some 14, .bin .lss (.tmp 11) (.tmp 13), none⟩])
 (.cond (.tmp 14) (.skip)
 (.exit 0)))
 (.seq (.block 1 (.seq (.draw [⟨⟨some 17, .move (.tmp 0), none⟩, .pure, 0, 0⟩,
  ⟨⟨some 18, .move (.tmp 5), none⟩, .pure, 0, 0⟩,
  ⟨⟨some 19, .idx 1 (.tmp 17) (.tmp 18), none⟩, .pure, 0, 0⟩,
  ⟨⟨some 20, .load false 1 (.tmp 19), none⟩, .read, 0, 0⟩,
  ⟨⟨some 21, .move (.tmp 1), none⟩, .pure, 0, 0⟩,
  ⟨⟨some 22, .move (.tmp 5), none⟩, .pure, 0, 0⟩,
  ⟨⟨some 23, .idx 1 (.tmp 21) (.tmp 22), none⟩, .pure, 0, 0⟩,
  ⟨⟨some 24, .load false 1 (.tmp 23), none⟩, .read, 0, 0⟩,
  ⟨⟨some 25, .bin .neq (.tmp 20) (.tmp 24), none⟩, .pure, 0, 0⟩])
 (.cond (.tmp 25) (.seq (.region [⟨some 4, .move (.const (.bool false)), none⟩])
 (.ret))
 (.skip))))
 (.region [⟨some 15, .move (.tmp 5), none⟩,
  ⟨some 16, .bin .add (.tmp 15) (.const (.int .i64 1)), none⟩,
  ⟨some 5, .move (.tmp 16), none⟩]))
def L18 : LCode :=
 .seq (.region [⟨some 4, .move (.const (.bool false)), none⟩])
 (.seq (.seq (.region [⟨some 6, .move (.tmp 0), none⟩,
  ⟨some 7, .len (.tmp 6), none⟩,
  ⟨some 8, .move (.tmp 1), none⟩,
  ⟨some 9, .len (.tmp 8), none⟩,
  ⟨some 10, .bin .neq (.tmp 7) (.tmp 9), none⟩])
 (.cond (.tmp 10) (.seq (.region [⟨some 4, .move (.const (.bool false)), none⟩])
 (.ret))
 (.skip)))
 (.seq (.seq (.region [⟨some 5, .move (.const (.int .i64 0)), none⟩])
 (.block 0 (.loop L18_1)))
 (.seq (.region [⟨some 4, .move (.const (.bool true)), none⟩])
 (.ret))))
theorem light18 : Light Try.prog 18 2 26 L18 [.tmp 4] :=
  ⟨Try.f18, _, Try.func18, rfl, rfl, by kernel_rfl, by kernel_rfl, by decide⟩

/-! ### function 19: (*outrider/attempt.Log).Outs -/
def L19 : LCode :=
 .seq (.region [⟨some 2, .move (.const (.slice none 0 0)), none⟩])
 (.seq (.region [⟨some 3, .move (.tmp 0), none⟩,
  ⟨some 4, .nilCheck (.tmp 3), none⟩,
  ⟨some 5, .off 2 (.tmp 4), none⟩,
  ⟨some 6, .load false 1 (.tmp 5), none⟩,
  ⟨some 7, .append 2 1 8 (.const (.slice none 0 0)) (.tmp 6), none⟩,
  ⟨some 2, .move (.tmp 7), none⟩])
 (.ret))
theorem light19 : Light Try.prog 19 1 8 L19 [.tmp 2] :=
  ⟨Try.f19, _, Try.func19, rfl, rfl, by kernel_rfl, by kernel_rfl, by decide⟩

/-! ### function 20: (*outrider/attempt.Log).Reads -/
def L20 : LCode :=
 .seq (.region [⟨some 2, .move (.const (.slice none 0 0)), none⟩])
 (.seq (.region [⟨some 3, .move (.tmp 0), none⟩,
  ⟨some 4, .nilCheck (.tmp 3), none⟩,
  ⟨some 5, .off 0 (.tmp 4), none⟩,
  ⟨some 6, .load false 1 (.tmp 5), none⟩,
  ⟨some 7, .append 29 3 24 (.const (.slice none 0 0)) (.tmp 6), none⟩,
  ⟨some 2, .move (.tmp 7), none⟩])
 (.ret))
theorem light20 : Light Try.prog 20 1 8 L20 [.tmp 2] :=
  ⟨Try.f20, _, Try.func20, rfl, rfl, by kernel_rfl, by kernel_rfl, by decide⟩

/-! ### function 21: (*outrider/attempt.Log).Onto -/
def L21 : LCode :=
 .seq (.region [⟨some 4, .move (.const (.slice none 0 0)), none⟩,
  ⟨some 5, .move (.const (.bool false)), none⟩])
 (.seq (.region [⟨some 6, .move (.tmp 0), none⟩,
  ⟨some 7, .nilCheck (.tmp 6), none⟩,
  ⟨some 8, .off 3 (.tmp 7), none⟩,
  ⟨some 9, .load false 1 (.tmp 8), none⟩,
  ⟨some 10, .move (.tmp 1), none⟩,
  ⟨some 11, .call 45 [.tmp 9, .tmp 10], none⟩,
  ⟨some 12, .extract (.tmp 11) 0, none⟩,
  ⟨some 13, .extract (.tmp 11) 1, none⟩,
  ⟨some 4, .move (.tmp 12), none⟩,
  ⟨some 5, .move (.tmp 13), none⟩])
 (.ret))
theorem light21 : Light Try.prog 21 2 14 L21 [.tmp 4, .tmp 5] :=
  ⟨Try.f21, _, Try.func21, rfl, rfl, by kernel_rfl, by kernel_rfl, by decide⟩

/-! ### function 22: outrider/red.New -/
def L22_1 : LCode :=
 .seq (.region [⟨some 15, .bin .lss (.tmp 14) (.tmp 13), none⟩])
 (.seq (.cond (.tmp 15) (.skip)
 (.exit 0))
 (.seq (.block 1 (.seq (.region [⟨some 16, .idx 2 (.tmp 12) (.tmp 14), none⟩,
  ⟨some 17, .load true 2 (.tmp 16), none⟩,
  ⟨some 6, .new 49 2 [.int .i64 0, .int .i64 0], none⟩,
  ⟨none, .store 2 (.tmp 6) (.tmp 17), none⟩])
 (.seq (.seq (.region [⟨some 18, .off 0 (.tmp 6), none⟩,
  ⟨some 19, .load false 1 (.tmp 18), none⟩,
  ⟨some 20, .call 46 [.tmp 19], none⟩,
  ⟨some 21, .un .not (.tmp 20), none⟩])
 (.cond (.tmp 21) (.seq (.region [⟨some 2, .move (.const (.pointer none)), none⟩,
  ⟨some 3, .move (.const (.int .i64 140)), none⟩])
 (.ret))
 (.skip)))
 (.seq (.draw [⟨⟨some 22, .move (.tmp 4), none⟩, .pure, 0, 2⟩,
  ⟨⟨some 23, .move (.tmp 4), none⟩, .pure, 0, 1⟩,
  ⟨⟨some 24, .nilCheck (.tmp 23), none⟩, .pure, 0, 1⟩,
  ⟨⟨some 25, .off 0 (.tmp 24), none⟩, .pure, 0, 1⟩,
  ⟨⟨some 26, .load false 1 (.tmp 25), none⟩, .read, 0, 1⟩,
  ⟨⟨some 27, .off 0 (.tmp 6), none⟩, .pure, 0, 0⟩,
  ⟨⟨some 28, .load false 1 (.tmp 27), none⟩, .read, 0, 0⟩,
  ⟨⟨some 29, .buildSlice 47 1 1 [.int .i64 0] [(0, 1, .tmp 28)], none⟩, .heavy, 0, 1⟩,
  ⟨⟨some 30, .append 47 1 8 (.tmp 26) (.tmp 29), none⟩, .heavy, 1, 2⟩,
  ⟨⟨some 31, .nilCheck (.tmp 22), none⟩, .pure, 2, 2⟩,
  ⟨⟨some 32, .off 0 (.tmp 31), none⟩, .pure, 2, 2⟩,
  ⟨⟨none, .store 1 (.tmp 32) (.tmp 30), none⟩, .heavy, 2, 3⟩])
 (.draw [⟨⟨some 33, .move (.tmp 4), none⟩, .pure, 0, 3⟩,
  ⟨⟨some 34, .move (.tmp 4), none⟩, .pure, 0, 2⟩,
  ⟨⟨some 35, .nilCheck (.tmp 34), none⟩, .pure, 0, 2⟩,
  ⟨⟨some 36, .off 1 (.tmp 35), none⟩, .pure, 0, 2⟩,
  ⟨⟨some 37, .load false 1 (.tmp 36), none⟩, .read, 0, 2⟩,
  ⟨⟨some 38, .off 0 (.tmp 6), none⟩, .pure, 0, 0⟩,
  ⟨⟨some 39, .load false 1 (.tmp 38), none⟩, .read, 0, 0⟩,
  ⟨⟨some 40, .call 47 [.tmp 39], none⟩, .heavy, 0, 1⟩,
  ⟨⟨some 41, .buildSlice 2 1 1 [.int .i64 0] [(0, 1, .tmp 40)], none⟩, .heavy, 1, 2⟩,
  ⟨⟨some 42, .append 2 1 8 (.tmp 37) (.tmp 41), none⟩, .heavy, 2, 3⟩,
  ⟨⟨some 43, .nilCheck (.tmp 33), none⟩, .pure, 3, 3⟩,
  ⟨⟨some 44, .off 1 (.tmp 43), none⟩, .pure, 3, 3⟩,
  ⟨⟨none, .store 1 (.tmp 44) (.tmp 42), none⟩, .heavy, 3, 4⟩])))))
 (.region [⟨some 45, .bin .add (.tmp 14) (.const (.int .i64 1)), none⟩,
  ⟨some 14, .move (.tmp 45), none⟩])))
def L22 : LCode :=
 .seq (.region [⟨some 2, .move (.const (.pointer none)), none⟩,
  ⟨some 3, .move (.const (.int .i64 0)), none⟩])
 (.seq (.seq (.region [⟨some 7, .move (.tmp 0), none⟩,
  ⟨some 8, .len (.tmp 7), none⟩,
  ⟨some 9, .bin .gtr (.tmp 8) (.const (.int .i64 4)), none⟩])
 (.cond (.tmp 9) (.seq (.region [⟨some 2, .move (.const (.pointer none)), none⟩,
  ⟨some 3, .move (.const (.int .i64 171)), none⟩])
 (.ret))
 (.skip)))
 (.seq (.region [⟨some 10, .build [.slice none 0 0, .slice none 0 0, .int .i64 0] [], none⟩,
  ⟨some 11, .box 97 3 (.tmp 10), none⟩,
  ⟨some 4, .move (.tmp 11), none⟩])
 (.seq (.seq (.region [⟨some 12, .move (.tmp 0), none⟩,
  ⟨some 13, .len (.tmp 12), none⟩,
  ⟨some 14, .move (.const (.int .i64 0)), none⟩])
 (.block 0 (.loop L22_1)))
 (.seq (.region [⟨some 46, .move (.tmp 4), none⟩,
  ⟨some 2, .move (.tmp 46), none⟩,
  ⟨some 3, .move (.const (.int .i64 0)), none⟩])
 (.ret)))))
theorem light22 : Light Try.prog 22 1 47 L22 [.tmp 2, .tmp 3] :=
  ⟨Try.f22, _, Try.func22, rfl, rfl, by kernel_rfl, by kernel_rfl, by decide⟩

/-! ### function 23: outrider/attempt.find[outrider/attempt.Read] -/
def L23_1 : LCode :=
 .seq (.region [⟨some 10, .bin .lss (.tmp 9) (.tmp 8), none⟩])
 (.seq (.cond (.tmp 10) (.skip)
 (.exit 0))
 (.seq (.block 1 (.seq (.region [⟨some 11, .move (.tmp 9), none⟩,
  ⟨some 12, .idx 3 (.tmp 7) (.tmp 9), none⟩,
  ⟨some 13, .load true 3 (.tmp 12), none⟩,
  ⟨some 6, .new 29 3 [.int .i64 0, .int .i64 0, .int .i64 0], none⟩,
  ⟨some 5, .move (.tmp 11), none⟩,
  ⟨none, .store 3 (.tmp 6) (.tmp 13), none⟩])
 (.seq (.region [⟨some 14, .move (.tmp 1), none⟩,
  ⟨some 15, .load true 3 (.tmp 6), none⟩,
  ⟨some 16, .callv (.tmp 14) [.tmp 15], none⟩])
 (.cond (.tmp 16) (.seq (.region [⟨some 17, .move (.tmp 5), none⟩,
  ⟨some 4, .move (.tmp 17), none⟩])
 (.ret))
 (.skip)))))
 (.region [⟨some 18, .bin .add (.tmp 9) (.const (.int .i64 1)), none⟩,
  ⟨some 9, .move (.tmp 18), none⟩])))
def L23 : LCode :=
 .seq (.region [⟨some 4, .move (.const (.int .i64 0)), none⟩])
 (.seq (.seq (.region [⟨some 7, .move (.tmp 0), none⟩,
  ⟨some 8, .len (.tmp 7), none⟩,
  ⟨some 9, .move (.const (.int .i64 0)), none⟩])
 (.block 0 (.loop L23_1)))
 (.seq (.region [⟨some 4, .move (.const (.int .i64 (-1))), none⟩])
 (.ret)))
theorem light23 : Light Try.prog 23 2 19 L23 [.tmp 4] :=
  ⟨Try.f23, _, Try.func23, rfl, rfl, by kernel_rfl, by kernel_rfl, by decide⟩

/-! ### function 24: (*outrider/attempt.Log).Holds$1 -/
def L24 : LCode :=
 .seq (.region [⟨some 2, .box 29 3 (.tmp 0), none⟩,
  ⟨some 3, .move (.const (.bool false)), none⟩])
 (.seq (.draw [⟨⟨some 4, .off 0 (.tmp 2), none⟩, .pure, 0, 0⟩,
  ⟨⟨some 5, .load false 1 (.tmp 4), none⟩, .read, 0, 0⟩,
  ⟨⟨some 6, .bin .lss (.tmp 5) (.const (.int .i64 0)), none⟩, .pure, 0, 0⟩,
  ⟨⟨some 7, .move (.tmp 6), none⟩, .pure, 0, 0⟩,
  ⟨⟨some 8, .off 0 (.tmp 2), (some (7, false))⟩, .pure, 0, 0⟩,
  ⟨⟨some 9, .load false 1 (.tmp 8), (some (7, false))⟩, .read, 0, 0⟩,
  ⟨⟨some 10, .load false 1 (.tmp 1), (some (7, false))⟩, .read, 0, 0⟩,
  ⟨⟨some 11, .len (.tmp 10), (some (7, false))⟩, .pure, 0, 0⟩,
  ⟨⟨some 12, .bin .geq (.tmp 9) (.tmp 11), (some (7, false))⟩, .pure, 0, 0⟩,
  ⟨⟨some 13, .pick (.tmp 7) (.const (.bool true)) (.tmp 12), none⟩, .pure, 0, 0⟩,
  ⟨⟨some 14, .move (.tmp 13), none⟩, .pure, 0, 0⟩,
  ⟨⟨some 15, .load false 1 (.tmp 1), (some (14, false))⟩, .read, 0, 0⟩,
  ⟨⟨some 16, .off 0 (.tmp 2), (some (14, false))⟩, .pure, 0, 0⟩,
  ⟨⟨some 17, .load false 1 (.tmp 16), (some (14, false))⟩, .read, 0, 0⟩,
  ⟨⟨some 18, .idx 1 (.tmp 15) (.tmp 17), (some (14, false))⟩, .pure, 0, 0⟩,
  ⟨⟨some 19, .load false 1 (.tmp 18), (some (14, false))⟩, .read, 0, 0⟩,
  ⟨⟨some 20, .off 1 (.tmp 2), (some (14, false))⟩, .pure, 0, 0⟩,
  ⟨⟨some 21, .load false 1 (.tmp 20), (some (14, false))⟩, .read, 0, 0⟩,
  ⟨⟨some 22, .bin .neq (.tmp 19) (.tmp 21), (some (14, false))⟩, .pure, 0, 0⟩,
  ⟨⟨some 23, .pick (.tmp 14) (.const (.bool true)) (.tmp 22), none⟩, .pure, 0, 0⟩,
  ⟨⟨some 3, .move (.tmp 23), none⟩, .pure, 0, 0⟩])
 (.ret))
theorem light24 : Light Try.prog 24 2 24 L24 [.tmp 3] :=
  ⟨Try.f24, _, Try.func24, rfl, rfl, by kernel_rfl, by kernel_rfl, by decide⟩

/-! ### function 25: (*outrider/attempt.Log).Write -/
def L25 : LCode :=
 .seq (.region [⟨some 4, .box 3 1 (.tmp 1), none⟩,
  ⟨some 6, .move (.const (.int .i64 0)), none⟩])
 (.seq (.region [⟨some 8, .move (.tmp 0), none⟩,
  ⟨some 9, .nilCheck (.tmp 8), none⟩,
  ⟨some 10, .off 1 (.tmp 9), none⟩,
  ⟨some 11, .load false 1 (.tmp 10), none⟩,
  ⟨some 12, .func (.func 49) [] [.tmp 4], none⟩,
  ⟨some 13, .call 48 [.tmp 11, .tmp 12], none⟩,
  ⟨some 7, .move (.tmp 13), none⟩])
 (.seq (.seq (.region [⟨some 14, .move (.tmp 7), none⟩,
  ⟨some 15, .bin .geq (.tmp 14) (.const (.int .i64 0)), none⟩])
 (.cond (.tmp 15) (.seq (.region [⟨some 16, .move (.tmp 0), none⟩,
  ⟨some 17, .nilCheck (.tmp 16), none⟩,
  ⟨some 18, .off 1 (.tmp 17), none⟩,
  ⟨some 19, .load false 1 (.tmp 18), none⟩,
  ⟨some 20, .move (.tmp 7), none⟩,
  ⟨some 21, .move (.tmp 2), none⟩,
  ⟨some 22, .idx 2 (.tmp 19) (.tmp 20), none⟩,
  ⟨some 23, .off 1 (.tmp 22), none⟩,
  ⟨none, .store 1 (.tmp 23) (.tmp 21), none⟩])
 (.seq (.region [⟨some 6, .move (.const (.int .i64 0)), none⟩])
 (.ret)))
 (.skip)))
 (.seq (.seq (.draw [⟨⟨some 24, .move (.tmp 0), none⟩, .pure, 0, 0⟩,
  ⟨⟨some 25, .nilCheck (.tmp 24), none⟩, .pure, 0, 0⟩,
  ⟨⟨some 26, .off 1 (.tmp 25), none⟩, .pure, 0, 0⟩,
  ⟨⟨some 27, .load false 1 (.tmp 26), none⟩, .read, 0, 0⟩,
  ⟨⟨some 28, .len (.tmp 27), none⟩, .pure, 0, 0⟩,
  ⟨⟨some 29, .move (.tmp 0), none⟩, .pure, 0, 0⟩,
  ⟨⟨some 30, .nilCheck (.tmp 29), none⟩, .pure, 0, 0⟩,
  ⟨⟨some 31, .off 5 (.tmp 30), none⟩, .pure, 0, 0⟩,
  ⟨⟨some 32, .load false 1 (.tmp 31), none⟩, .read, 0, 0⟩,
  ⟨⟨some 33, .bin .eql (.tmp 28) (.tmp 32), none⟩, .pure, 0, 0⟩])
 (.cond (.tmp 33) (.seq (.region [⟨some 6, .move (.const (.int .i64 200)), none⟩])
 (.ret))
 (.skip)))
 (.seq (.draw [⟨⟨some 34, .move (.tmp 0), none⟩, .pure, 0, 2⟩,
  ⟨⟨some 35, .move (.tmp 0), none⟩, .pure, 0, 1⟩,
  ⟨⟨some 36, .nilCheck (.tmp 35), none⟩, .pure, 0, 1⟩,
  ⟨⟨some 37, .off 1 (.tmp 36), none⟩, .pure, 0, 1⟩,
  ⟨⟨some 38, .load false 1 (.tmp 37), none⟩, .read, 0, 1⟩,
  ⟨⟨some 39, .load false 1 (.tmp 4), none⟩, .read, 0, 0⟩,
  ⟨⟨some 40, .move (.tmp 2), none⟩, .pure, 0, 0⟩,
  ⟨⟨some 41, .build [.int .i64 0, .int .i64 0] [(0, 1, .tmp 39), (1, 1, .tmp 40)], none⟩, .pure, 0, 0⟩,
  ⟨⟨some 42, .buildSlice 92 2 1 [.int .i64 0, .int .i64 0] [(0, 2, .tmp 41)], none⟩, .heavy, 0, 1⟩,
  ⟨⟨some 43, .append 92 2 16 (.tmp 38) (.tmp 42), none⟩, .heavy, 1, 2⟩,
  ⟨⟨some 44, .nilCheck (.tmp 34), none⟩, .pure, 2, 2⟩,
  ⟨⟨some 45, .off 1 (.tmp 44), none⟩, .pure, 2, 2⟩,
  ⟨⟨none, .store 1 (.tmp 45) (.tmp 43), none⟩, .heavy, 2, 3⟩])
 (.seq (.region [⟨some 6, .move (.const (.int .i64 0)), none⟩])
 (.ret))))))
theorem light25 : Light Try.prog 25 3 46 L25 [.tmp 6] :=
  ⟨Try.f25, _, Try.func25, rfl, rfl, by kernel_rfl, by kernel_rfl, by decide⟩

/-! ### function 26: (*outrider/attempt.Log).Read$1 -/
def L26 : LCode :=
 .seq (.region [⟨some 2, .box 29 3 (.tmp 0), none⟩,
  ⟨some 3, .move (.const (.bool false)), none⟩])
 (.seq (.region [⟨some 4, .off 0 (.tmp 2), none⟩,
  ⟨some 5, .load false 1 (.tmp 4), none⟩,
  ⟨some 6, .load false 1 (.tmp 1), none⟩,
  ⟨some 7, .bin .eql (.tmp 5) (.tmp 6), none⟩,
  ⟨some 3, .move (.tmp 7), none⟩])
 (.ret))
theorem light26 : Light Try.prog 26 2 8 L26 [.tmp 3] :=
  ⟨Try.f26, _, Try.func26, rfl, rfl, by kernel_rfl, by kernel_rfl, by decide⟩

/-! ### function 27: outrider/outriderref14.Check -/
def L27_1 : LCode :=
 .seq (.seq (.region [⟨some 7, .move (.tmp 3), none⟩,
  ⟨some 8, .move (.tmp 0), none⟩,
  ⟨some 9, .len (.tmp 8), none⟩,
  ⟨some 10, .bin .lss (.tmp 7) (.tmp 9), none⟩])
 (.cond (.tmp 10) (.skip)
 (.exit 0)))
 (.seq (.block 1 (.seq (.region [⟨some 13, .move (.tmp 0), none⟩,
  ⟨some 14, .move (.tmp 3), none⟩,
  ⟨some 15, .idx 2 (.tmp 13) (.tmp 14), none⟩,
  ⟨some 16, .off 0 (.tmp 15), none⟩,
  ⟨some 17, .load false 1 (.tmp 16), none⟩,
  ⟨some 18, .call 50 [.tmp 17], none⟩,
  ⟨some 19, .un .not (.tmp 18), none⟩])
 (.cond (.tmp 19) (.seq (.region [⟨some 2, .move (.const (.int .i64 140)), none⟩])
 (.ret))
 (.skip))))
 (.region [⟨some 11, .move (.tmp 3), none⟩,
  ⟨some 12, .bin .add (.tmp 11) (.const (.int .i64 1)), none⟩,
  ⟨some 3, .move (.tmp 12), none⟩]))
def L27 : LCode :=
 .seq (.region [⟨some 2, .move (.const (.int .i64 0)), none⟩])
 (.seq (.seq (.region [⟨some 4, .move (.tmp 0), none⟩,
  ⟨some 5, .len (.tmp 4), none⟩,
  ⟨some 6, .bin .gtr (.tmp 5) (.const (.int .i64 4)), none⟩])
 (.cond (.tmp 6) (.seq (.region [⟨some 2, .move (.const (.int .i64 171)), none⟩])
 (.ret))
 (.skip)))
 (.seq (.seq (.region [⟨some 3, .move (.const (.int .i64 0)), none⟩])
 (.block 0 (.loop L27_1)))
 (.seq (.region [⟨some 2, .move (.const (.int .i64 0)), none⟩])
 (.ret))))
theorem light27 : Light Try.prog 27 1 20 L27 [.tmp 2] :=
  ⟨Try.f27, _, Try.func27, rfl, rfl, by kernel_rfl, by kernel_rfl, by decide⟩

/-! ### function 28: outrider/outriderlaw22.kind -/
def L28 : LCode :=
 .seq (.region [⟨some 2, .move (.const (.int .i64 0)), none⟩])
 (.seq (.region [⟨some 3, .move (.tmp 0), none⟩,
  ⟨some 4, .bin .rem (.tmp 3) (.const (.int .i64 8)), none⟩,
  ⟨some 5, .bin .add (.tmp 4) (.const (.int .i64 8)), none⟩,
  ⟨some 6, .bin .rem (.tmp 5) (.const (.int .i64 8)), none⟩,
  ⟨some 2, .move (.tmp 6), none⟩])
 (.ret))
theorem light28 : Light Try.prog 28 1 7 L28 [.tmp 2] :=
  ⟨Try.f28, _, Try.func28, rfl, rfl, by kernel_rfl, by kernel_rfl, by decide⟩

/-! ### function 29: outrider/outriderref22.Note -/
def L29 : LCode :=
 .seq (.region [⟨some 2, .box 44 8 (.tmp 0), none⟩,
  ⟨some 3, .box 78 3 (.tmp 1), none⟩,
  ⟨some 4, .new 44 8 [.int .i64 0, .int .i64 0, .int .i64 0, .slice none 0 0, .slice none 0 0, .slice none 0 0, .slice none 0 0, .slice none 0 0], none⟩,
  ⟨some 5, .move (.const (.int .i64 0)), none⟩])
 (.seq (.seq (.region [⟨some 6, .load true 8 (.tmp 2), none⟩,
  ⟨some 7, .off 0 (.tmp 3), none⟩,
  ⟨some 8, .load false 1 (.tmp 7), none⟩,
  ⟨some 9, .call 39 [.tmp 6, .tmp 8], none⟩,
  ⟨some 10, .bin .geq (.tmp 9) (.const (.int .i64 0)), none⟩])
 (.cond (.tmp 10) (.seq (.region [⟨some 11, .load true 8 (.tmp 2), none⟩,
  ⟨none, .store 8 (.tmp 4) (.tmp 11), none⟩,
  ⟨some 5, .move (.const (.int .i64 61)), none⟩])
 (.ret))
 (.skip)))
 (.seq (.seq (.region [⟨some 12, .off 4 (.tmp 2), none⟩,
  ⟨some 13, .load false 1 (.tmp 12), none⟩,
  ⟨some 14, .len (.tmp 13), none⟩,
  ⟨some 15, .off 0 (.tmp 2), none⟩,
  ⟨some 16, .load false 1 (.tmp 15), none⟩,
  ⟨some 17, .bin .eql (.tmp 14) (.tmp 16), none⟩])
 (.cond (.tmp 17) (.seq (.region [⟨some 18, .load true 8 (.tmp 2), none⟩,
  ⟨none, .store 8 (.tmp 4) (.tmp 18), none⟩,
  ⟨some 5, .move (.const (.int .i64 200)), none⟩])
 (.ret))
 (.skip)))
 (.seq (.alts [[⟨⟨some 19, .buildSlice 78 3 0 [.int .i64 0, .int .i64 0, .int .i64 0] [], none⟩, .heavy, 0, 1⟩,
  ⟨⟨some 20, .off 4 (.tmp 2), none⟩, .pure, 0, 1⟩,
  ⟨⟨some 21, .load false 1 (.tmp 20), none⟩, .read, 0, 1⟩,
  ⟨⟨some 22, .append 78 3 24 (.tmp 19) (.tmp 21), none⟩, .heavy, 1, 2⟩,
  ⟨⟨some 23, .load true 3 (.tmp 3), none⟩, .read, 0, 2⟩,
  ⟨⟨some 24, .buildSlice 78 3 1 [.int .i64 0, .int .i64 0, .int .i64 0] [(0, 3, .tmp 23)], none⟩, .heavy, 2, 3⟩,
  ⟨⟨some 25, .append 78 3 24 (.tmp 22) (.tmp 24), none⟩, .heavy, 3, 4⟩,
  ⟨⟨some 26, .off 4 (.tmp 2), none⟩, .pure, 4, 4⟩,
  ⟨⟨none, .store 1 (.tmp 26) (.tmp 25), none⟩, .heavy, 4, 5⟩],
 [⟨⟨some 19, .buildSlice 78 3 0 [.int .i64 0, .int .i64 0, .int .i64 0] [], none⟩, .heavy, 0, 1⟩,
  ⟨⟨some 20, .off 4 (.tmp 2), none⟩, .pure, 0, 2⟩,
  ⟨⟨some 21, .load false 1 (.tmp 20), none⟩, .read, 0, 2⟩,
  ⟨⟨some 23, .load true 3 (.tmp 3), none⟩, .read, 0, 1⟩,
  ⟨⟨some 24, .buildSlice 78 3 1 [.int .i64 0, .int .i64 0, .int .i64 0] [(0, 3, .tmp 23)], none⟩, .heavy, 1, 2⟩,
  ⟨⟨some 22, .append 78 3 24 (.tmp 19) (.tmp 21), none⟩, .heavy, 2, 3⟩,
  ⟨⟨some 25, .append 78 3 24 (.tmp 22) (.tmp 24), none⟩, .heavy, 3, 4⟩,
  ⟨⟨some 26, .off 4 (.tmp 2), none⟩, .pure, 4, 4⟩,
  ⟨⟨none, .store 1 (.tmp 26) (.tmp 25), none⟩, .heavy, 4, 5⟩],
 [⟨⟨some 20, .off 4 (.tmp 2), none⟩, .pure, 0, 2⟩,
  ⟨⟨some 21, .load false 1 (.tmp 20), none⟩, .read, 0, 2⟩,
  ⟨⟨some 23, .load true 3 (.tmp 3), none⟩, .read, 0, 0⟩,
  ⟨⟨some 24, .buildSlice 78 3 1 [.int .i64 0, .int .i64 0, .int .i64 0] [(0, 3, .tmp 23)], none⟩, .heavy, 0, 1⟩,
  ⟨⟨some 19, .buildSlice 78 3 0 [.int .i64 0, .int .i64 0, .int .i64 0] [], none⟩, .heavy, 1, 2⟩,
  ⟨⟨some 22, .append 78 3 24 (.tmp 19) (.tmp 21), none⟩, .heavy, 2, 3⟩,
  ⟨⟨some 25, .append 78 3 24 (.tmp 22) (.tmp 24), none⟩, .heavy, 3, 4⟩,
  ⟨⟨some 26, .off 4 (.tmp 2), none⟩, .pure, 4, 4⟩,
  ⟨⟨none, .store 1 (.tmp 26) (.tmp 25), none⟩, .heavy, 4, 5⟩]])
 (.seq (.region [⟨some 27, .load true 8 (.tmp 2), none⟩,
  ⟨none, .store 8 (.tmp 4) (.tmp 27), none⟩,
  ⟨some 5, .move (.const (.int .i64 0)), none⟩])
 (.ret)))))
theorem lightX29 : LightX Try.prog 29 2 28 L29 [.cell 4 true 8, .tmp 5] :=
  ⟨Try.f29, _, Try.func29, rfl, rfl, by kernel_rfl, by kernel_rfl, by decide⟩

/-! ### function 30: outrider/outriderref22.From -/
def L30 : LCode :=
 .seq (.region [⟨some 3, .box 44 8 (.tmp 0), none⟩,
  ⟨some 6, .new 44 8 [.int .i64 0, .int .i64 0, .int .i64 0, .slice none 0 0, .slice none 0 0, .slice none 0 0, .slice none 0 0, .slice none 0 0], none⟩,
  ⟨some 7, .move (.const (.bool false)), none⟩])
 (.seq (.region [⟨some 9, .load true 8 (.tmp 3), none⟩,
  ⟨some 10, .move (.tmp 1), none⟩,
  ⟨some 11, .call 39 [.tmp 9, .tmp 10], none⟩,
  ⟨some 8, .move (.tmp 11), none⟩])
 (.seq (.seq (.region [⟨some 12, .move (.tmp 8), none⟩,
  ⟨some 13, .bin .lss (.tmp 12) (.const (.int .i64 0)), none⟩])
 (.cond (.tmp 13) (.seq (.region [⟨some 14, .load true 8 (.tmp 3), none⟩,
  ⟨none, .store 8 (.tmp 6) (.tmp 14), none⟩,
  ⟨some 7, .move (.const (.bool false)), none⟩])
 (.ret))
 (.skip)))
 (.seq (.region [⟨some 15, .buildSlice 78 3 0 [.int .i64 0, .int .i64 0, .int .i64 0] [], none⟩,
  ⟨some 16, .off 4 (.tmp 3), none⟩,
  ⟨some 17, .load false 1 (.tmp 16), none⟩,
  ⟨some 18, .append 78 3 24 (.tmp 15) (.tmp 17), none⟩,
  ⟨some 19, .off 4 (.tmp 3), none⟩,
  ⟨none, .store 1 (.tmp 19) (.tmp 18), none⟩])
 (.seq (.region [⟨some 20, .off 4 (.tmp 3), none⟩,
  ⟨some 21, .load false 1 (.tmp 20), none⟩,
  ⟨some 22, .move (.tmp 8), none⟩,
  ⟨some 23, .move (.tmp 2), none⟩,
  ⟨some 24, .idx 3 (.tmp 21) (.tmp 22), none⟩,
  ⟨some 25, .off 2 (.tmp 24), none⟩,
  ⟨none, .store 1 (.tmp 25) (.tmp 23), none⟩])
 (.seq (.region [⟨some 26, .load true 8 (.tmp 3), none⟩,
  ⟨none, .store 8 (.tmp 6) (.tmp 26), none⟩,
  ⟨some 7, .move (.const (.bool true)), none⟩])
 (.ret))))))
theorem light30 : Light Try.prog 30 3 27 L30 [.cell 6 true 8, .tmp 7] :=
  ⟨Try.f30, _, Try.func30, rfl, rfl, by kernel_rfl, by kernel_rfl, by decide⟩

/-! ### function 31: (*outrider/attempt.Log).From -/
def L31 : LCode :=
 .seq (.region [⟨some 4, .box 3 1 (.tmp 1), none⟩,
  ⟨some 6, .move (.const (.bool false)), none⟩])
 (.seq (.region [⟨some 8, .move (.tmp 0), none⟩,
  ⟨some 9, .nilCheck (.tmp 8), none⟩,
  ⟨some 10, .off 0 (.tmp 9), none⟩,
  ⟨some 11, .load false 1 (.tmp 10), none⟩,
  ⟨some 12, .func (.func 51) [] [.tmp 4], none⟩,
  ⟨some 13, .call 23 [.tmp 11, .tmp 12], none⟩,
  ⟨some 7, .move (.tmp 13), none⟩])
 (.seq (.seq (.region [⟨some 14, .move (.tmp 7), none⟩,
  ⟨some 15, .bin .geq (.tmp 14) (.const (.int .i64 0)), none⟩])
 (.cond (.tmp 15) (.region [⟨some 16, .move (.tmp 0), none⟩,
  ⟨some 17, .nilCheck (.tmp 16), none⟩,
  ⟨some 18, .off 0 (.tmp 17), none⟩,
  ⟨some 19, .load false 1 (.tmp 18), none⟩,
  ⟨some 20, .move (.tmp 7), none⟩,
  ⟨some 21, .move (.tmp 2), none⟩,
  ⟨some 22, .idx 3 (.tmp 19) (.tmp 20), none⟩,
  ⟨some 23, .off 2 (.tmp 22), none⟩,
  ⟨none, .store 1 (.tmp 23) (.tmp 21), none⟩])
 (.skip)))
 (.seq (.region [⟨some 24, .move (.tmp 7), none⟩,
  ⟨some 25, .bin .geq (.tmp 24) (.const (.int .i64 0)), none⟩,
  ⟨some 6, .move (.tmp 25), none⟩])
 (.ret))))
theorem light31 : Light Try.prog 31 3 26 L31 [.tmp 6] :=
  ⟨Try.f31, _, Try.func31, rfl, rfl, by kernel_rfl, by kernel_rfl, by decide⟩

/-! ### function 32: outrider/outriderref22.Write -/
def L32 : LCode :=
 .seq (.region [⟨some 3, .box 44 8 (.tmp 0), none⟩,
  ⟨some 6, .new 44 8 [.int .i64 0, .int .i64 0, .int .i64 0, .slice none 0 0, .slice none 0 0, .slice none 0 0, .slice none 0 0, .slice none 0 0], none⟩,
  ⟨some 7, .move (.const (.int .i64 0)), none⟩])
 (.seq (.region [⟨some 10, .load true 8 (.tmp 3), none⟩,
  ⟨some 11, .move (.tmp 1), none⟩,
  ⟨some 12, .call 41 [.tmp 10, .tmp 11], none⟩,
  ⟨some 8, .move (.tmp 12), none⟩])
 (.seq (.seq (.region [⟨some 13, .move (.tmp 8), none⟩,
  ⟨some 14, .bin .lss (.tmp 13) (.const (.int .i64 0)), none⟩,
  ⟨some 15, .move (.tmp 14), none⟩,
  ⟨some 16, .off 5 (.tmp 3), (some (15, true))⟩,
  ⟨some 17, .load false 1 (.tmp 16), (some (15, true))⟩,
  ⟨some 18, .len (.tmp 17), (some (15, true))⟩,
  ⟨some 19, .off 1 (.tmp 3), (some (15, true))⟩,
  ⟨some 20, .load false 1 (.tmp 19), (some (15, true))⟩,
  ⟨some 21, .bin .eql (.tmp 18) (.tmp 20), (some (15, true))⟩,
  ⟨some 22, .pick (.tmp 15) (.tmp 21) (.const (.bool false)), none⟩])
 (.cond (.tmp 22) (.seq (.region [⟨some 23, .load true 8 (.tmp 3), none⟩,
  ⟨none, .store 8 (.tmp 6) (.tmp 23), none⟩,
  ⟨some 7, .move (.const (.int .i64 200)), none⟩])
 (.ret))
 (.skip)))
 (.seq (.region [⟨some 24, .buildSlice 92 2 0 [.int .i64 0, .int .i64 0] [], none⟩,
  ⟨some 25, .off 5 (.tmp 3), none⟩,
  ⟨some 26, .load false 1 (.tmp 25), none⟩,
  ⟨some 27, .append 92 2 16 (.tmp 24) (.tmp 26), none⟩,
  ⟨some 9, .move (.tmp 27), none⟩])
 (.seq (.seq (.region [⟨some 28, .move (.tmp 8), none⟩,
  ⟨some 29, .bin .lss (.tmp 28) (.const (.int .i64 0)), none⟩])
 (.cond (.tmp 29) (.region [⟨some 30, .move (.tmp 9), none⟩,
  ⟨some 31, .move (.tmp 1), none⟩,
  ⟨some 32, .move (.tmp 2), none⟩,
  ⟨some 33, .build [.int .i64 0, .int .i64 0] [(0, 1, .tmp 31), (1, 1, .tmp 32)], none⟩,
  ⟨some 34, .buildSlice 92 2 1 [.int .i64 0, .int .i64 0] [(0, 2, .tmp 33)], none⟩,
  ⟨some 35, .append 92 2 16 (.tmp 30) (.tmp 34), none⟩,
  ⟨some 9, .move (.tmp 35), none⟩])
 (.region [⟨some 36, .move (.tmp 9), none⟩,
  ⟨some 37, .move (.tmp 8), none⟩,
  ⟨some 38, .move (.tmp 2), none⟩,
  ⟨some 39, .idx 2 (.tmp 36) (.tmp 37), none⟩,
  ⟨some 40, .off 1 (.tmp 39), none⟩,
  ⟨none, .store 1 (.tmp 40) (.tmp 38), none⟩])))
 (.seq (.region [⟨some 41, .move (.tmp 9), none⟩,
  ⟨some 42, .off 5 (.tmp 3), none⟩,
  ⟨none, .store 1 (.tmp 42) (.tmp 41), none⟩])
 (.seq (.region [⟨some 43, .load true 8 (.tmp 3), none⟩,
  ⟨none, .store 8 (.tmp 6) (.tmp 43), none⟩,
  ⟨some 7, .move (.const (.int .i64 0)), none⟩])
 (.ret)))))))
theorem light32 : Light Try.prog 32 3 44 L32 [.cell 6 true 8, .tmp 7] :=
  ⟨Try.f32, _, Try.func32, rfl, rfl, by kernel_rfl, by kernel_rfl, by decide⟩

/-! ### function 33: (*outrider/attempt.Log).Room -/
def L33 : LCode :=
 .seq (.region [⟨some 4, .move (.const (.bool false)), none⟩])
 (.seq (.region [⟨some 8, .move (.tmp 0), none⟩,
  ⟨some 9, .move (.tmp 1), none⟩,
  ⟨some 10, .call 40 [.tmp 8, .tmp 9], none⟩,
  ⟨some 7, .move (.tmp 10), none⟩,
  ⟨some 11, .extract (.tmp 7) 0, none⟩,
  ⟨some 12, .extract (.tmp 7) 1, none⟩,
  ⟨some 5, .move (.tmp 11), none⟩,
  ⟨some 6, .move (.tmp 12), none⟩])
 (.seq (.draw [⟨⟨some 13, .move (.tmp 6), none⟩, .pure, 0, 0⟩,
  ⟨⟨some 14, .move (.tmp 13), none⟩, .pure, 0, 0⟩,
  ⟨⟨some 15, .move (.tmp 0), (some (14, false))⟩, .pure, 0, 0⟩,
  ⟨⟨some 16, .nilCheck (.tmp 15), (some (14, false))⟩, .pure, 0, 0⟩,
  ⟨⟨some 17, .off 1 (.tmp 16), (some (14, false))⟩, .pure, 0, 0⟩,
  ⟨⟨some 18, .load false 1 (.tmp 17), (some (14, false))⟩, .read, 0, 0⟩,
  ⟨⟨some 19, .len (.tmp 18), (some (14, false))⟩, .pure, 0, 0⟩,
  ⟨⟨some 20, .move (.tmp 0), (some (14, false))⟩, .pure, 0, 0⟩,
  ⟨⟨some 21, .nilCheck (.tmp 20), (some (14, false))⟩, .pure, 0, 0⟩,
  ⟨⟨some 22, .off 5 (.tmp 21), (some (14, false))⟩, .pure, 0, 0⟩,
  ⟨⟨some 23, .load false 1 (.tmp 22), (some (14, false))⟩, .read, 0, 0⟩,
  ⟨⟨some 24, .bin .lss (.tmp 19) (.tmp 23), (some (14, false))⟩, .pure, 0, 0⟩,
  ⟨⟨some 25, .pick (.tmp 14) (.const (.bool true)) (.tmp 24), none⟩, .pure, 0, 0⟩,
  ⟨⟨some 4, .move (.tmp 25), none⟩, .pure, 0, 0⟩])
 (.ret)))
theorem light33 : Light Try.prog 33 2 26 L33 [.tmp 4] :=
  ⟨Try.f33, _, Try.func33, rfl, rfl, by kernel_rfl, by kernel_rfl, by decide⟩

/-! ### function 34: outrider/outriderref22.Emit -/
def L34 : LCode :=
 .seq (.region [⟨some 2, .box 44 8 (.tmp 0), none⟩,
  ⟨some 4, .new 44 8 [.int .i64 0, .int .i64 0, .int .i64 0, .slice none 0 0, .slice none 0 0, .slice none 0 0, .slice none 0 0, .slice none 0 0], none⟩,
  ⟨some 5, .move (.const (.int .i64 0)), none⟩])
 (.seq (.seq (.region [⟨some 6, .off 6 (.tmp 2), none⟩,
  ⟨some 7, .load false 1 (.tmp 6), none⟩,
  ⟨some 8, .len (.tmp 7), none⟩,
  ⟨some 9, .off 2 (.tmp 2), none⟩,
  ⟨some 10, .load false 1 (.tmp 9), none⟩,
  ⟨some 11, .bin .eql (.tmp 8) (.tmp 10), none⟩])
 (.cond (.tmp 11) (.seq (.region [⟨some 12, .load true 8 (.tmp 2), none⟩,
  ⟨none, .store 8 (.tmp 4) (.tmp 12), none⟩,
  ⟨some 5, .move (.const (.int .i64 200)), none⟩])
 (.ret))
 (.skip)))
 (.seq (.region [⟨some 13, .buildSlice 2 1 0 [.int .i64 0] [], none⟩,
  ⟨some 14, .off 6 (.tmp 2), none⟩,
  ⟨some 15, .load false 1 (.tmp 14), none⟩,
  ⟨some 16, .append 2 1 8 (.tmp 13) (.tmp 15), none⟩,
  ⟨some 17, .move (.tmp 1), none⟩,
  ⟨some 18, .buildSlice 2 1 1 [.int .i64 0] [(0, 1, .tmp 17)], none⟩,
  ⟨some 19, .append 2 1 8 (.tmp 16) (.tmp 18), none⟩,
  ⟨some 20, .off 6 (.tmp 2), none⟩,
  ⟨none, .store 1 (.tmp 20) (.tmp 19), none⟩])
 (.seq (.region [⟨some 21, .load true 8 (.tmp 2), none⟩,
  ⟨none, .store 8 (.tmp 4) (.tmp 21), none⟩,
  ⟨some 5, .move (.const (.int .i64 0)), none⟩])
 (.ret))))
theorem light34 : Light Try.prog 34 2 22 L34 [.cell 4 true 8, .tmp 5] :=
  ⟨Try.f34, _, Try.func34, rfl, rfl, by kernel_rfl, by kernel_rfl, by decide⟩

/-! ### function 35: (*outrider/attempt.Log).Emit -/
def L35 : LCode :=
 .seq (.region [⟨some 4, .move (.const (.int .i64 0)), none⟩])
 (.seq (.seq (.draw [⟨⟨some 5, .move (.tmp 0), none⟩, .pure, 0, 0⟩,
  ⟨⟨some 6, .nilCheck (.tmp 5), none⟩, .pure, 0, 0⟩,
  ⟨⟨some 7, .off 2 (.tmp 6), none⟩, .pure, 0, 0⟩,
  ⟨⟨some 8, .load false 1 (.tmp 7), none⟩, .read, 0, 0⟩,
  ⟨⟨some 9, .len (.tmp 8), none⟩, .pure, 0, 0⟩,
  ⟨⟨some 10, .move (.tmp 0), none⟩, .pure, 0, 0⟩,
  ⟨⟨some 11, .nilCheck (.tmp 10), none⟩, .pure, 0, 0⟩,
  ⟨⟨some 12, .off 6 (.tmp 11), none⟩, .pure, 0, 0⟩,
  ⟨⟨some 13, .load false 1 (.tmp 12), none⟩, .read, 0, 0⟩,
  ⟨⟨some 14, .bin .eql (.tmp 9) (.tmp 13), none⟩, .pure, 0, 0⟩])
 (.cond (.tmp 14) (.seq (.region [⟨some 4, .move (.const (.int .i64 200)), none⟩])
 (.ret))
 (.skip)))
 (.seq (.region [⟨some 15, .move (.tmp 0), none⟩,
  ⟨some 16, .move (.tmp 0), none⟩,
  ⟨some 17, .nilCheck (.tmp 16), none⟩,
  ⟨some 18, .off 2 (.tmp 17), none⟩,
  ⟨some 19, .load false 1 (.tmp 18), none⟩,
  ⟨some 20, .move (.tmp 1), none⟩,
  ⟨some 21, .buildSlice 2 1 1 [.int .i64 0] [(0, 1, .tmp 20)], none⟩,
  ⟨some 22, .append 2 1 8 (.tmp 19) (.tmp 21), none⟩,
  ⟨some 23, .nilCheck (.tmp 15), none⟩,
  ⟨some 24, .off 2 (.tmp 23), none⟩,
  ⟨none, .store 1 (.tmp 24) (.tmp 22), none⟩])
 (.seq (.region [⟨some 4, .move (.const (.int .i64 0)), none⟩])
 (.ret))))
theorem light35 : Light Try.prog 35 2 25 L35 [.tmp 4] :=
  ⟨Try.f35, _, Try.func35, rfl, rfl, by kernel_rfl, by kernel_rfl, by decide⟩

/-! ### function 36: outrider/outriderref22.Into -/
def L36 : LCode :=
 .seq (.region [⟨some 3, .box 44 8 (.tmp 0), none⟩,
  ⟨some 6, .new 44 8 [.int .i64 0, .int .i64 0, .int .i64 0, .slice none 0 0, .slice none 0 0, .slice none 0 0, .slice none 0 0, .slice none 0 0], none⟩,
  ⟨some 7, .move (.const (.bool false)), none⟩])
 (.seq (.seq (.region [⟨some 8, .move (.tmp 1), none⟩,
  ⟨some 9, .bin .lss (.tmp 8) (.const (.int .i64 0)), none⟩,
  ⟨some 10, .move (.tmp 9), none⟩,
  ⟨some 11, .move (.tmp 1), (some (10, false))⟩,
  ⟨some 12, .off 3 (.tmp 3), (some (10, false))⟩,
  ⟨some 13, .load false 1 (.tmp 12), (some (10, false))⟩,
  ⟨some 14, .len (.tmp 13), (some (10, false))⟩,
  ⟨some 15, .bin .geq (.tmp 11) (.tmp 14), (some (10, false))⟩,
  ⟨some 16, .pick (.tmp 10) (.const (.bool true)) (.tmp 15), none⟩])
 (.cond (.tmp 16) (.seq (.region [⟨some 17, .load true 8 (.tmp 3), none⟩,
  ⟨none, .store 8 (.tmp 6) (.tmp 17), none⟩,
  ⟨some 7, .move (.const (.bool false)), none⟩])
 (.ret))
 (.skip)))
 (.seq (.region [⟨some 18, .buildSlice 103 2 0 [.int .i64 0, .int .i64 0] [], none⟩,
  ⟨some 19, .off 7 (.tmp 3), none⟩,
  ⟨some 20, .load false 1 (.tmp 19), none⟩,
  ⟨some 21, .append 103 2 16 (.tmp 18) (.tmp 20), none⟩,
  ⟨some 22, .move (.tmp 1), none⟩,
  ⟨some 23, .move (.tmp 2), none⟩,
  ⟨some 24, .build [.int .i64 0, .int .i64 0] [(0, 1, .tmp 22), (1, 1, .tmp 23)], none⟩,
  ⟨some 25, .buildSlice 103 2 1 [.int .i64 0, .int .i64 0] [(0, 2, .tmp 24)], none⟩,
  ⟨some 26, .append 103 2 16 (.tmp 21) (.tmp 25), none⟩,
  ⟨some 27, .off 7 (.tmp 3), none⟩,
  ⟨none, .store 1 (.tmp 27) (.tmp 26), none⟩])
 (.seq (.region [⟨some 28, .load true 8 (.tmp 3), none⟩,
  ⟨none, .store 8 (.tmp 6) (.tmp 28), none⟩,
  ⟨some 7, .move (.const (.bool true)), none⟩])
 (.ret))))
theorem light36 : Light Try.prog 36 3 29 L36 [.cell 6 true 8, .tmp 7] :=
  ⟨Try.f36, _, Try.func36, rfl, rfl, by kernel_rfl, by kernel_rfl, by decide⟩

/-! ### function 37: (*outrider/attempt.Log).Into -/
def L37 : LCode :=
 .seq (.region [⟨some 6, .move (.const (.bool false)), none⟩])
 (.seq (.region [⟨some 7, .move (.tmp 0), none⟩,
  ⟨some 8, .nilCheck (.tmp 7), none⟩,
  ⟨some 9, .off 3 (.tmp 8), none⟩,
  ⟨some 10, .load false 1 (.tmp 9), none⟩,
  ⟨some 11, .move (.tmp 1), none⟩,
  ⟨some 12, .move (.tmp 2), none⟩,
  ⟨some 13, .call 52 [.tmp 10, .tmp 11, .tmp 12], none⟩,
  ⟨some 6, .move (.tmp 13), none⟩])
 (.ret))
theorem light37 : Light Try.prog 37 3 14 L37 [.tmp 6] :=
  ⟨Try.f37, _, Try.func37, rfl, rfl, by kernel_rfl, by kernel_rfl, by decide⟩

/-! ### function 38: outrider/outriderref22.Clear -/
def L38 : LCode :=
 .seq (.region [⟨some 1, .box 44 8 (.tmp 0), none⟩,
  ⟨some 2, .new 44 8 [.int .i64 0, .int .i64 0, .int .i64 0, .slice none 0 0, .slice none 0 0, .slice none 0 0, .slice none 0 0, .slice none 0 0], none⟩])
 (.seq (.region [⟨some 3, .off 4 (.tmp 1), none⟩,
  ⟨none, .store 1 (.tmp 3) (.const (.slice none 0 0)), none⟩,
  ⟨some 4, .off 5 (.tmp 1), none⟩,
  ⟨none, .store 1 (.tmp 4) (.const (.slice none 0 0)), none⟩,
  ⟨some 5, .off 6 (.tmp 1), none⟩,
  ⟨none, .store 1 (.tmp 5) (.const (.slice none 0 0)), none⟩,
  ⟨some 6, .off 7 (.tmp 1), none⟩,
  ⟨none, .store 1 (.tmp 6) (.const (.slice none 0 0)), none⟩])
 (.seq (.region [⟨some 7, .load true 8 (.tmp 1), none⟩,
  ⟨none, .store 8 (.tmp 2) (.tmp 7), none⟩])
 (.ret)))
theorem light38 : Light Try.prog 38 1 8 L38 [.cell 2 true 8] :=
  ⟨Try.f38, _, Try.func38, rfl, rfl, by kernel_rfl, by kernel_rfl, by decide⟩

/-! ### function 39: outrider/outriderref22.Read -/
def L39_1 : LCode :=
 .seq (.seq (.region [⟨some 6, .move (.tmp 5), none⟩,
  ⟨some 7, .off 4 (.tmp 2), none⟩,
  ⟨some 8, .load false 1 (.tmp 7), none⟩,
  ⟨some 9, .len (.tmp 8), none⟩,
  ⟨some 10, .bin .lss (.tmp 6) (.tmp 9), none⟩])
 (.cond (.tmp 10) (.skip)
 (.exit 0)))
 (.seq (.block 1 (.seq (.region [⟨some 13, .off 4 (.tmp 2), none⟩,
  ⟨some 14, .load false 1 (.tmp 13), none⟩,
  ⟨some 15, .move (.tmp 5), none⟩,
  ⟨some 16, .idx 3 (.tmp 14) (.tmp 15), none⟩,
  ⟨some 17, .off 0 (.tmp 16), none⟩,
  ⟨some 18, .load false 1 (.tmp 17), none⟩,
  ⟨some 19, .move (.tmp 1), none⟩,
  ⟨some 20, .bin .eql (.tmp 18) (.tmp 19), none⟩])
 (.cond (.tmp 20) (.seq (.region [⟨some 21, .move (.tmp 5), none⟩,
  ⟨some 4, .move (.tmp 21), none⟩])
 (.ret))
 (.skip))))
 (.region [⟨some 11, .move (.tmp 5), none⟩,
  ⟨some 12, .bin .add (.tmp 11) (.const (.int .i64 1)), none⟩,
  ⟨some 5, .move (.tmp 12), none⟩]))
def L39 : LCode :=
 .seq (.region [⟨some 2, .box 44 8 (.tmp 0), none⟩,
  ⟨some 4, .move (.const (.int .i64 0)), none⟩])
 (.seq (.seq (.region [⟨some 5, .move (.const (.int .i64 0)), none⟩])
 (.block 0 (.loop L39_1)))
 (.seq (.region [⟨some 4, .move (.const (.int .i64 (-1))), none⟩])
 (.ret)))
theorem light39 : Light Try.prog 39 2 22 L39 [.tmp 4] :=
  ⟨Try.f39, _, Try.func39, rfl, rfl, by kernel_rfl, by kernel_rfl, by decide⟩

/-! ### function 40: (*outrider/attempt.Log).Written -/
def L40 : LCode :=
 .seq (.region [⟨some 3, .box 3 1 (.tmp 1), none⟩,
  ⟨some 4, .move (.const (.int .i64 0)), none⟩,
  ⟨some 5, .move (.const (.bool false)), none⟩])
 (.seq (.region [⟨some 7, .move (.tmp 0), none⟩,
  ⟨some 8, .nilCheck (.tmp 7), none⟩,
  ⟨some 9, .off 1 (.tmp 8), none⟩,
  ⟨some 10, .load false 1 (.tmp 9), none⟩,
  ⟨some 11, .func (.func 53) [] [.tmp 3], none⟩,
  ⟨some 12, .call 48 [.tmp 10, .tmp 11], none⟩,
  ⟨some 6, .move (.tmp 12), none⟩])
 (.seq (.seq (.region [⟨some 13, .move (.tmp 6), none⟩,
  ⟨some 14, .bin .lss (.tmp 13) (.const (.int .i64 0)), none⟩])
 (.cond (.tmp 14) (.seq (.region [⟨some 4, .move (.const (.int .i64 0)), none⟩,
  ⟨some 5, .move (.const (.bool false)), none⟩])
 (.ret))
 (.skip)))
 (.seq (.region [⟨some 15, .move (.tmp 0), none⟩,
  ⟨some 16, .nilCheck (.tmp 15), none⟩,
  ⟨some 17, .off 1 (.tmp 16), none⟩,
  ⟨some 18, .load false 1 (.tmp 17), none⟩,
  ⟨some 19, .move (.tmp 6), none⟩,
  ⟨some 20, .idx 2 (.tmp 18) (.tmp 19), none⟩,
  ⟨some 21, .off 1 (.tmp 20), none⟩,
  ⟨some 22, .load false 1 (.tmp 21), none⟩,
  ⟨some 4, .move (.tmp 22), none⟩,
  ⟨some 5, .move (.const (.bool true)), none⟩])
 (.ret))))
theorem light40 : Light Try.prog 40 2 23 L40 [.tmp 4, .tmp 5] :=
  ⟨Try.f40, _, Try.func40, rfl, rfl, by kernel_rfl, by kernel_rfl, by decide⟩

/-! ### function 41: outrider/outriderref22.Written -/
def L41_1 : LCode :=
 .seq (.seq (.region [⟨some 6, .move (.tmp 5), none⟩,
  ⟨some 7, .off 5 (.tmp 2), none⟩,
  ⟨some 8, .load false 1 (.tmp 7), none⟩,
  ⟨some 9, .len (.tmp 8), none⟩,
  ⟨some 10, .bin .lss (.tmp 6) (.tmp 9), none⟩])
 (.cond (.tmp 10) (.skip)
 (.exit 0)))
 (.seq (.block 1 (.seq (.region [⟨some 13, .off 5 (.tmp 2), none⟩,
  ⟨some 14, .load false 1 (.tmp 13), none⟩,
  ⟨some 15, .move (.tmp 5), none⟩,
  ⟨some 16, .idx 2 (.tmp 14) (.tmp 15), none⟩,
  ⟨some 17, .off 0 (.tmp 16), none⟩,
  ⟨some 18, .load false 1 (.tmp 17), none⟩,
  ⟨some 19, .move (.tmp 1), none⟩,
  ⟨some 20, .bin .eql (.tmp 18) (.tmp 19), none⟩])
 (.cond (.tmp 20) (.seq (.region [⟨some 21, .move (.tmp 5), none⟩,
  ⟨some 4, .move (.tmp 21), none⟩])
 (.ret))
 (.skip))))
 (.region [⟨some 11, .move (.tmp 5), none⟩,
  ⟨some 12, .bin .add (.tmp 11) (.const (.int .i64 1)), none⟩,
  ⟨some 5, .move (.tmp 12), none⟩]))
def L41 : LCode :=
 .seq (.region [⟨some 2, .box 44 8 (.tmp 0), none⟩,
  ⟨some 4, .move (.const (.int .i64 0)), none⟩])
 (.seq (.seq (.region [⟨some 5, .move (.const (.int .i64 0)), none⟩])
 (.block 0 (.loop L41_1)))
 (.seq (.region [⟨some 4, .move (.const (.int .i64 (-1))), none⟩])
 (.ret)))
theorem light41 : Light Try.prog 41 2 22 L41 [.tmp 4] :=
  ⟨Try.f41, _, Try.func41, rfl, rfl, by kernel_rfl, by kernel_rfl, by decide⟩

/-! ### function 42: outrider/outriderref22.Holds -/
def L42_1 : LCode :=
 .seq (.seq (.region [⟨some 7, .move (.tmp 5), none⟩,
  ⟨some 8, .off 4 (.tmp 2), none⟩,
  ⟨some 9, .load false 1 (.tmp 8), none⟩,
  ⟨some 10, .len (.tmp 9), none⟩,
  ⟨some 11, .bin .lss (.tmp 7) (.tmp 10), none⟩])
 (.cond (.tmp 11) (.skip)
 (.exit 0)))
 (.seq (.block 1 (.seq (.region [⟨some 14, .off 4 (.tmp 2), none⟩,
  ⟨some 15, .load false 1 (.tmp 14), none⟩,
  ⟨some 16, .move (.tmp 5), none⟩,
  ⟨some 17, .idx 3 (.tmp 15) (.tmp 16), none⟩,
  ⟨some 18, .load true 3 (.tmp 17), none⟩,
  ⟨some 6, .new 78 3 [.int .i64 0, .int .i64 0, .int .i64 0], none⟩,
  ⟨none, .store 3 (.tmp 6) (.tmp 18), none⟩])
 (.seq (.draw [⟨⟨some 19, .off 0 (.tmp 6), none⟩, .pure, 0, 0⟩,
  ⟨⟨some 20, .load false 1 (.tmp 19), none⟩, .read, 0, 0⟩,
  ⟨⟨some 21, .bin .lss (.tmp 20) (.const (.int .i64 0)), none⟩, .pure, 0, 0⟩,
  ⟨⟨some 22, .move (.tmp 21), none⟩, .pure, 0, 0⟩,
  ⟨⟨some 23, .off 0 (.tmp 6), (some (22, false))⟩, .pure, 0, 0⟩,
  ⟨⟨some 24, .load false 1 (.tmp 23), (some (22, false))⟩, .read, 0, 0⟩,
  ⟨⟨some 25, .move (.tmp 1), (some (22, false))⟩, .pure, 0, 0⟩,
  ⟨⟨some 26, .len (.tmp 25), (some (22, false))⟩, .pure, 0, 0⟩,
  ⟨⟨some 27, .bin .geq (.tmp 24) (.tmp 26), (some (22, false))⟩, .pure, 0, 0⟩,
  ⟨⟨some 28, .pick (.tmp 22) (.const (.bool true)) (.tmp 27), none⟩, .pure, 0, 0⟩,
  ⟨⟨some 29, .move (.tmp 28), none⟩, .pure, 0, 0⟩,
  ⟨⟨some 30, .move (.tmp 1), (some (29, false))⟩, .pure, 0, 0⟩,
  ⟨⟨some 31, .off 0 (.tmp 6), (some (29, false))⟩, .pure, 0, 0⟩,
  ⟨⟨some 32, .load false 1 (.tmp 31), (some (29, false))⟩, .read, 0, 0⟩,
  ⟨⟨some 33, .idx 1 (.tmp 30) (.tmp 32), (some (29, false))⟩, .pure, 0, 0⟩,
  ⟨⟨some 34, .load false 1 (.tmp 33), (some (29, false))⟩, .read, 0, 0⟩,
  ⟨⟨some 35, .off 1 (.tmp 6), (some (29, false))⟩, .pure, 0, 0⟩,
  ⟨⟨some 36, .load false 1 (.tmp 35), (some (29, false))⟩, .read, 0, 0⟩,
  ⟨⟨some 37, .bin .neq (.tmp 34) (.tmp 36), (some (29, false))⟩, .pure, 0, 0⟩,
  ⟨⟨some 38, .pick (.tmp 29) (.const (.bool true)) (.tmp 37), none⟩, .pure, 0, 0⟩])
 (.cond (.tmp 38) (.seq (.region [⟨some 4, .move (.const (.bool false)), none⟩])
 (.ret))
 (.skip)))))
 (.region [⟨some 12, .move (.tmp 5), none⟩,
  ⟨some 13, .bin .add (.tmp 12) (.const (.int .i64 1)), none⟩,
  ⟨some 5, .move (.tmp 13), none⟩]))
def L42 : LCode :=
 .seq (.region [⟨some 2, .box 44 8 (.tmp 0), none⟩,
  ⟨some 4, .move (.const (.bool false)), none⟩])
 (.seq (.seq (.region [⟨some 5, .move (.const (.int .i64 0)), none⟩])
 (.block 0 (.loop L42_1)))
 (.seq (.region [⟨some 4, .move (.const (.bool true)), none⟩])
 (.ret)))
theorem light42 : Light Try.prog 42 2 39 L42 [.tmp 4] :=
  ⟨Try.f42, _, Try.func42, rfl, rfl, by kernel_rfl, by kernel_rfl, by decide⟩

/-! ### function 43: outrider/outriderref22.Onto -/
def L43 : LCode :=
 .seq (.region [⟨some 2, .box 44 8 (.tmp 0), none⟩,
  ⟨some 4, .move (.const (.slice none 0 0)), none⟩])
 (.seq (.draw [⟨⟨some 5, .off 3 (.tmp 2), none⟩, .pure, 0, 1⟩,
  ⟨⟨some 6, .load false 1 (.tmp 5), none⟩, .read, 0, 1⟩,
  ⟨⟨some 7, .move (.tmp 1), none⟩, .pure, 0, 1⟩,
  ⟨⟨some 8, .off 3 (.tmp 2), none⟩, .pure, 0, 0⟩,
  ⟨⟨some 9, .load false 1 (.tmp 8), none⟩, .read, 0, 0⟩,
  ⟨⟨some 10, .off 7 (.tmp 2), none⟩, .pure, 0, 0⟩,
  ⟨⟨some 11, .load false 1 (.tmp 10), none⟩, .read, 0, 0⟩,
  ⟨⟨some 12, .call 55 [.tmp 9, .tmp 11], none⟩, .heavy, 0, 1⟩,
  ⟨⟨some 13, .call 54 [.tmp 6, .tmp 7, .tmp 12], none⟩, .heavy, 1, 2⟩,
  ⟨⟨some 4, .move (.tmp 13), none⟩, .pure, 2, 2⟩])
 (.ret))
theorem light43 : Light Try.prog 43 2 14 L43 [.tmp 4] :=
  ⟨Try.f43, _, Try.func43, rfl, rfl, by kernel_rfl, by kernel_rfl, by decide⟩

/-! ### function 44: (*outrider/red.Heap).Clear -/
def L44_1 : LCode :=
 .seq (.region [⟨some 10, .bin .lss (.tmp 9) (.tmp 8), none⟩])
 (.seq (.cond (.tmp 10) (.skip)
 (.exit 0))
 (.seq (.block 1 (.seq (.region [⟨some 11, .move (.tmp 9), none⟩,
  ⟨some 12, .idx 1 (.tmp 7) (.tmp 9), none⟩,
  ⟨some 13, .load false 1 (.tmp 12), none⟩,
  ⟨some 2, .move (.tmp 11), none⟩,
  ⟨some 3, .move (.tmp 13), none⟩])
 (.draw [⟨⟨some 14, .move (.tmp 0), none⟩, .pure, 0, 1⟩,
  ⟨⟨some 15, .nilCheck (.tmp 14), none⟩, .pure, 0, 1⟩,
  ⟨⟨some 16, .off 1 (.tmp 15), none⟩, .pure, 0, 1⟩,
  ⟨⟨some 17, .load false 1 (.tmp 16), none⟩, .read, 0, 1⟩,
  ⟨⟨some 18, .move (.tmp 2), none⟩, .pure, 0, 1⟩,
  ⟨⟨some 19, .move (.tmp 3), none⟩, .pure, 0, 0⟩,
  ⟨⟨some 20, .call 47 [.tmp 19], none⟩, .heavy, 0, 1⟩,
  ⟨⟨some 21, .idx 1 (.tmp 17) (.tmp 18), none⟩, .pure, 1, 1⟩,
  ⟨⟨none, .store 1 (.tmp 21) (.tmp 20), none⟩, .heavy, 1, 2⟩])))
 (.region [⟨some 22, .bin .add (.tmp 9) (.const (.int .i64 1)), none⟩,
  ⟨some 9, .move (.tmp 22), none⟩])))
def L44 : LCode :=
 .seq (.seq (.region [⟨some 4, .move (.tmp 0), none⟩,
  ⟨some 5, .nilCheck (.tmp 4), none⟩,
  ⟨some 6, .off 0 (.tmp 5), none⟩,
  ⟨some 7, .load false 1 (.tmp 6), none⟩,
  ⟨some 8, .len (.tmp 7), none⟩,
  ⟨some 9, .move (.const (.int .i64 0)), none⟩])
 (.block 0 (.loop L44_1)))
 (.region [⟨some 23, .move (.tmp 0), none⟩,
  ⟨some 24, .nilCheck (.tmp 23), none⟩,
  ⟨some 25, .off 2 (.tmp 24), none⟩,
  ⟨none, .store 1 (.tmp 25) (.const (.int .i64 0)), none⟩])
theorem light44 : Light Try.prog 44 1 26 L44 [] :=
  ⟨Try.f44, _, Try.func44, rfl, rfl, by kernel_rfl, by kernel_rfl, by decide⟩

/-! ### function 45: (*outrider/red.Heap).Onto -/
def L45_1 : LCode :=
 .seq (.region [⟨some 23, .bin .lss (.tmp 22) (.tmp 21), none⟩])
 (.seq (.cond (.tmp 23) (.skip)
 (.exit 0))
 (.seq (.block 1 (.seq (.region [⟨some 24, .move (.tmp 22), none⟩,
  ⟨some 25, .idx 1 (.tmp 20) (.tmp 22), none⟩,
  ⟨some 26, .load false 1 (.tmp 25), none⟩,
  ⟨some 7, .move (.tmp 24), none⟩,
  ⟨some 8, .move (.tmp 26), none⟩])
 (.draw [⟨⟨some 27, .move (.tmp 6), none⟩, .pure, 0, 2⟩,
  ⟨⟨some 28, .move (.tmp 8), none⟩, .pure, 0, 0⟩,
  ⟨⟨some 29, .move (.tmp 1), none⟩, .pure, 0, 0⟩,
  ⟨⟨some 30, .move (.tmp 7), none⟩, .pure, 0, 0⟩,
  ⟨⟨some 31, .idx 1 (.tmp 29) (.tmp 30), none⟩, .pure, 0, 0⟩,
  ⟨⟨some 32, .load false 1 (.tmp 31), none⟩, .read, 0, 0⟩,
  ⟨⟨some 33, .move (.tmp 0), none⟩, .pure, 0, 0⟩,
  ⟨⟨some 34, .nilCheck (.tmp 33), none⟩, .pure, 0, 0⟩,
  ⟨⟨some 35, .off 1 (.tmp 34), none⟩, .pure, 0, 0⟩,
  ⟨⟨some 36, .load false 1 (.tmp 35), none⟩, .read, 0, 0⟩,
  ⟨⟨some 37, .move (.tmp 7), none⟩, .pure, 0, 0⟩,
  ⟨⟨some 38, .idx 1 (.tmp 36) (.tmp 37), none⟩, .pure, 0, 0⟩,
  ⟨⟨some 39, .load false 1 (.tmp 38), none⟩, .read, 0, 0⟩,
  ⟨⟨some 40, .call 56 [.tmp 28, .tmp 32, .tmp 39], none⟩, .heavy, 0, 1⟩,
  ⟨⟨some 41, .buildSlice 2 1 1 [.int .i64 0] [(0, 1, .tmp 40)], none⟩, .heavy, 1, 2⟩,
  ⟨⟨some 42, .append 2 1 8 (.tmp 27) (.tmp 41), none⟩, .heavy, 2, 3⟩,
  ⟨⟨some 6, .move (.tmp 42), none⟩, .pure, 3, 3⟩])))
 (.region [⟨some 43, .bin .add (.tmp 22) (.const (.int .i64 1)), none⟩,
  ⟨some 22, .move (.tmp 43), none⟩])))
def L45 : LCode :=
 .seq (.region [⟨some 4, .move (.const (.slice none 0 0)), none⟩,
  ⟨some 5, .move (.const (.bool false)), none⟩])
 (.seq (.seq (.region [⟨some 9, .move (.tmp 1), none⟩,
  ⟨some 10, .len (.tmp 9), none⟩,
  ⟨some 11, .move (.tmp 0), none⟩,
  ⟨some 12, .nilCheck (.tmp 11), none⟩,
  ⟨some 13, .off 1 (.tmp 12), none⟩,
  ⟨some 14, .load false 1 (.tmp 13), none⟩,
  ⟨some 15, .len (.tmp 14), none⟩,
  ⟨some 16, .bin .neq (.tmp 10) (.tmp 15), none⟩])
 (.cond (.tmp 16) (.seq (.region [⟨some 4, .move (.const (.slice none 0 0)), none⟩,
  ⟨some 5, .move (.const (.bool false)), none⟩])
 (.ret))
 (.skip)))
 (.seq (.region [⟨some 6, .move (.const (.slice none 0 0)), none⟩])
 (.seq (.seq (.region [⟨some 17, .move (.tmp 0), none⟩,
  ⟨some 18, .nilCheck (.tmp 17), none⟩,
  ⟨some 19, .off 0 (.tmp 18), none⟩,
  ⟨some 20, .load false 1 (.tmp 19), none⟩,
  ⟨some 21, .len (.tmp 20), none⟩,
  ⟨some 22, .move (.const (.int .i64 0)), none⟩])
 (.block 0 (.loop L45_1)))
 (.seq (.region [⟨some 44, .move (.tmp 6), none⟩,
  ⟨some 4, .move (.tmp 44), none⟩,
  ⟨some 5, .move (.const (.bool true)), none⟩])
 (.ret)))))
theorem light45 : Light Try.prog 45 2 45 L45 [.tmp 4, .tmp 5] :=
  ⟨Try.f45, _, Try.func45, rfl, rfl, by kernel_rfl, by kernel_rfl, by decide⟩

/-! ### function 46: outrider/red.Right -/
def L46 : LCode :=
 .seq (.region [⟨some 2, .move (.const (.bool false)), none⟩])
 (.seq (.region [⟨some 3, .move (.tmp 0), none⟩,
  ⟨some 4, .bin .geq (.tmp 3) (.const (.int .i64 1)), none⟩,
  ⟨some 5, .move (.tmp 4), none⟩,
  ⟨some 6, .move (.tmp 0), (some (5, true))⟩,
  ⟨some 7, .bin .leq (.tmp 6) (.const (.int .i64 7)), (some (5, true))⟩,
  ⟨some 8, .pick (.tmp 5) (.tmp 7) (.const (.bool false)), none⟩,
  ⟨some 2, .move (.tmp 8), none⟩])
 (.ret))
theorem light46 : Light Try.prog 46 1 9 L46 [.tmp 2] :=
  ⟨Try.f46, _, Try.func46, rfl, rfl, by kernel_rfl, by kernel_rfl, by decide⟩

/-! ### function 47: outrider/red.Zero -/
def L47 : LCode :=
 .seq (.region [⟨some 2, .move (.const (.int .i64 0)), none⟩])
 (.seq (.seq (.region [⟨some 3, .move (.tmp 0), none⟩])
 (.block 0 (.seq (.region [⟨some 5, .bin .eql (.tmp 3) (.const (.int .i64 2)), none⟩,
  ⟨some 4, .move (.tmp 5), none⟩])
 (.cond (.tmp 4) (.seq (.region [⟨some 2, .move (.const (.int .i64 1)), none⟩])
 (.ret))
 (.seq (.region [⟨some 7, .bin .eql (.tmp 3) (.const (.int .i64 3)), none⟩,
  ⟨some 6, .move (.tmp 7), none⟩])
 (.cond (.tmp 6) (.seq (.region [⟨some 2, .move (.const (.int .i64 9223372036854775807)), none⟩])
 (.ret))
 (.seq (.region [⟨some 9, .bin .eql (.tmp 3) (.const (.int .i64 4)), none⟩,
  ⟨some 8, .move (.tmp 9), none⟩])
 (.cond (.tmp 8) (.seq (.region [⟨some 2, .move (.const (.int .i64 (-9223372036854775808))), none⟩])
 (.ret))
 (.seq (.region [⟨some 11, .bin .eql (.tmp 3) (.const (.int .i64 5)), none⟩,
  ⟨some 10, .move (.tmp 11), none⟩])
 (.cond (.tmp 10) (.seq (.region [⟨some 2, .move (.const (.int .i64 (-1))), none⟩])
 (.ret))
 (.skip)))))))))))
 (.seq (.region [⟨some 2, .move (.const (.int .i64 0)), none⟩])
 (.ret)))
theorem light47 : Light Try.prog 47 1 12 L47 [.tmp 2] :=
  ⟨Try.f47, _, Try.func47, rfl, rfl, by kernel_rfl, by kernel_rfl, by decide⟩

/-! ### function 48: outrider/attempt.find[outrider/api.Cell] -/
def L48_1 : LCode :=
 .seq (.region [⟨some 10, .bin .lss (.tmp 9) (.tmp 8), none⟩])
 (.seq (.cond (.tmp 10) (.skip)
 (.exit 0))
 (.seq (.block 1 (.seq (.region [⟨some 11, .move (.tmp 9), none⟩,
  ⟨some 12, .idx 2 (.tmp 7) (.tmp 9), none⟩,
  ⟨some 13, .load true 2 (.tmp 12), none⟩,
  ⟨some 6, .new 92 2 [.int .i64 0, .int .i64 0], none⟩,
  ⟨some 5, .move (.tmp 11), none⟩,
  ⟨none, .store 2 (.tmp 6) (.tmp 13), none⟩])
 (.seq (.region [⟨some 14, .move (.tmp 1), none⟩,
  ⟨some 15, .load true 2 (.tmp 6), none⟩,
  ⟨some 16, .callv (.tmp 14) [.tmp 15], none⟩])
 (.cond (.tmp 16) (.seq (.region [⟨some 17, .move (.tmp 5), none⟩,
  ⟨some 4, .move (.tmp 17), none⟩])
 (.ret))
 (.skip)))))
 (.region [⟨some 18, .bin .add (.tmp 9) (.const (.int .i64 1)), none⟩,
  ⟨some 9, .move (.tmp 18), none⟩])))
def L48 : LCode :=
 .seq (.region [⟨some 4, .move (.const (.int .i64 0)), none⟩])
 (.seq (.seq (.region [⟨some 7, .move (.tmp 0), none⟩,
  ⟨some 8, .len (.tmp 7), none⟩,
  ⟨some 9, .move (.const (.int .i64 0)), none⟩])
 (.block 0 (.loop L48_1)))
 (.seq (.region [⟨some 4, .move (.const (.int .i64 (-1))), none⟩])
 (.ret)))
theorem light48 : Light Try.prog 48 2 19 L48 [.tmp 4] :=
  ⟨Try.f48, _, Try.func48, rfl, rfl, by kernel_rfl, by kernel_rfl, by decide⟩

/-! ### function 49: (*outrider/attempt.Log).Write$1 -/
def L49 : LCode :=
 .seq (.region [⟨some 2, .box 92 2 (.tmp 0), none⟩,
  ⟨some 3, .move (.const (.bool false)), none⟩])
 (.seq (.region [⟨some 4, .off 0 (.tmp 2), none⟩,
  ⟨some 5, .load false 1 (.tmp 4), none⟩,
  ⟨some 6, .load false 1 (.tmp 1), none⟩,
  ⟨some 7, .bin .eql (.tmp 5) (.tmp 6), none⟩,
  ⟨some 3, .move (.tmp 7), none⟩])
 (.ret))
theorem light49 : Light Try.prog 49 2 8 L49 [.tmp 3] :=
  ⟨Try.f49, _, Try.func49, rfl, rfl, by kernel_rfl, by kernel_rfl, by decide⟩

/-! ### function 50: outrider/outriderref14.Right -/
def L50 : LCode :=
 .seq (.region [⟨some 2, .move (.const (.bool false)), none⟩])
 (.seq (.region [⟨some 3, .move (.tmp 0), none⟩,
  ⟨some 4, .bin .geq (.tmp 3) (.const (.int .i64 1)), none⟩,
  ⟨some 5, .move (.tmp 4), none⟩,
  ⟨some 6, .move (.tmp 0), (some (5, true))⟩,
  ⟨some 7, .bin .leq (.tmp 6) (.const (.int .i64 7)), (some (5, true))⟩,
  ⟨some 8, .pick (.tmp 5) (.tmp 7) (.const (.bool false)), none⟩,
  ⟨some 2, .move (.tmp 8), none⟩])
 (.ret))
theorem light50 : Light Try.prog 50 1 9 L50 [.tmp 2] :=
  ⟨Try.f50, _, Try.func50, rfl, rfl, by kernel_rfl, by kernel_rfl, by decide⟩

/-! ### function 51: (*outrider/attempt.Log).From$1 -/
def L51 : LCode :=
 .seq (.region [⟨some 2, .box 29 3 (.tmp 0), none⟩,
  ⟨some 3, .move (.const (.bool false)), none⟩])
 (.seq (.region [⟨some 4, .off 0 (.tmp 2), none⟩,
  ⟨some 5, .load false 1 (.tmp 4), none⟩,
  ⟨some 6, .load false 1 (.tmp 1), none⟩,
  ⟨some 7, .bin .eql (.tmp 5) (.tmp 6), none⟩,
  ⟨some 3, .move (.tmp 7), none⟩])
 (.ret))
theorem light51 : Light Try.prog 51 2 8 L51 [.tmp 3] :=
  ⟨Try.f51, _, Try.func51, rfl, rfl, by kernel_rfl, by kernel_rfl, by decide⟩

/-! ### function 52: (*outrider/red.Heap).Add -/
def L52 : LCode :=
 .seq (.region [⟨some 6, .move (.const (.bool false)), none⟩])
 (.seq (.seq (.region [⟨some 7, .move (.tmp 1), none⟩,
  ⟨some 8, .bin .lss (.tmp 7) (.const (.int .i64 0)), none⟩,
  ⟨some 9, .move (.tmp 8), none⟩,
  ⟨some 10, .move (.tmp 1), (some (9, false))⟩,
  ⟨some 11, .move (.tmp 0), (some (9, false))⟩,
  ⟨some 12, .nilCheck (.tmp 11), (some (9, false))⟩,
  ⟨some 13, .off 0 (.tmp 12), (some (9, false))⟩,
  ⟨some 14, .load false 1 (.tmp 13), (some (9, false))⟩,
  ⟨some 15, .len (.tmp 14), (some (9, false))⟩,
  ⟨some 16, .bin .geq (.tmp 10) (.tmp 15), (some (9, false))⟩,
  ⟨some 17, .pick (.tmp 9) (.const (.bool true)) (.tmp 16), none⟩])
 (.cond (.tmp 17) (.seq (.region [⟨some 6, .move (.const (.bool false)), none⟩])
 (.ret))
 (.skip)))
 (.seq (.draw [⟨⟨some 18, .move (.tmp 0), none⟩, .pure, 0, 1⟩,
  ⟨⟨some 19, .nilCheck (.tmp 18), none⟩, .pure, 0, 1⟩,
  ⟨⟨some 20, .off 1 (.tmp 19), none⟩, .pure, 0, 1⟩,
  ⟨⟨some 21, .load false 1 (.tmp 20), none⟩, .read, 0, 1⟩,
  ⟨⟨some 22, .move (.tmp 1), none⟩, .pure, 0, 1⟩,
  ⟨⟨some 23, .move (.tmp 0), none⟩, .pure, 0, 0⟩,
  ⟨⟨some 24, .nilCheck (.tmp 23), none⟩, .pure, 0, 0⟩,
  ⟨⟨some 25, .off 0 (.tmp 24), none⟩, .pure, 0, 0⟩,
  ⟨⟨some 26, .load false 1 (.tmp 25), none⟩, .read, 0, 0⟩,
  ⟨⟨some 27, .move (.tmp 1), none⟩, .pure, 0, 0⟩,
  ⟨⟨some 28, .idx 1 (.tmp 26) (.tmp 27), none⟩, .pure, 0, 0⟩,
  ⟨⟨some 29, .load false 1 (.tmp 28), none⟩, .read, 0, 0⟩,
  ⟨⟨some 30, .move (.tmp 0), none⟩, .pure, 0, 0⟩,
  ⟨⟨some 31, .nilCheck (.tmp 30), none⟩, .pure, 0, 0⟩,
  ⟨⟨some 32, .off 1 (.tmp 31), none⟩, .pure, 0, 0⟩,
  ⟨⟨some 33, .load false 1 (.tmp 32), none⟩, .read, 0, 0⟩,
  ⟨⟨some 34, .move (.tmp 1), none⟩, .pure, 0, 0⟩,
  ⟨⟨some 35, .idx 1 (.tmp 33) (.tmp 34), none⟩, .pure, 0, 0⟩,
  ⟨⟨some 36, .load false 1 (.tmp 35), none⟩, .read, 0, 0⟩,
  ⟨⟨some 37, .move (.tmp 2), none⟩, .pure, 0, 0⟩,
  ⟨⟨some 38, .call 56 [.tmp 29, .tmp 36, .tmp 37], none⟩, .heavy, 0, 1⟩,
  ⟨⟨some 39, .idx 1 (.tmp 21) (.tmp 22), none⟩, .pure, 1, 1⟩,
  ⟨⟨none, .store 1 (.tmp 39) (.tmp 38), none⟩, .heavy, 1, 2⟩])
 (.seq (.region [⟨some 40, .move (.tmp 0), none⟩,
  ⟨some 41, .nilCheck (.tmp 40), none⟩,
  ⟨some 42, .off 2 (.tmp 41), none⟩,
  ⟨some 43, .load false 1 (.tmp 42), none⟩,
  ⟨some 44, .bin .add (.tmp 43) (.const (.int .i64 1)), none⟩,
  ⟨some 45, .nilCheck (.tmp 40), none⟩,
  ⟨some 46, .off 2 (.tmp 45), none⟩,
  ⟨none, .store 1 (.tmp 46) (.tmp 44), none⟩])
 (.seq (.region [⟨some 6, .move (.const (.bool true)), none⟩])
 (.ret)))))
theorem light52 : Light Try.prog 52 3 47 L52 [.tmp 6] :=
  ⟨Try.f52, _, Try.func52, rfl, rfl, by kernel_rfl, by kernel_rfl, by decide⟩

/-! ### function 53: (*outrider/attempt.Log).Written$1 -/
def L53 : LCode :=
 .seq (.region [⟨some 2, .box 92 2 (.tmp 0), none⟩,
  ⟨some 3, .move (.const (.bool false)), none⟩])
 (.seq (.region [⟨some 4, .off 0 (.tmp 2), none⟩,
  ⟨some 5, .load false 1 (.tmp 4), none⟩,
  ⟨some 6, .load false 1 (.tmp 1), none⟩,
  ⟨some 7, .bin .eql (.tmp 5) (.tmp 6), none⟩,
  ⟨some 3, .move (.tmp 7), none⟩])
 (.ret))
theorem light53 : Light Try.prog 53 2 8 L53 [.tmp 3] :=
  ⟨Try.f53, _, Try.func53, rfl, rfl, by kernel_rfl, by kernel_rfl, by decide⟩

/-! ### function 54: outrider/outriderref14.Onto -/
def L54_1 : LCode :=
 .seq (.seq (.region [⟨some 9, .move (.tmp 8), none⟩,
  ⟨some 10, .move (.tmp 0), none⟩,
  ⟨some 11, .len (.tmp 10), none⟩,
  ⟨some 12, .bin .lss (.tmp 9) (.tmp 11), none⟩])
 (.cond (.tmp 12) (.skip)
 (.exit 0)))
 (.seq (.block 1 (.draw [⟨⟨some 15, .move (.tmp 7), none⟩, .pure, 0, 2⟩,
  ⟨⟨some 16, .move (.tmp 0), none⟩, .pure, 0, 0⟩,
  ⟨⟨some 17, .move (.tmp 8), none⟩, .pure, 0, 0⟩,
  ⟨⟨some 18, .idx 2 (.tmp 16) (.tmp 17), none⟩, .pure, 0, 0⟩,
  ⟨⟨some 19, .off 0 (.tmp 18), none⟩, .pure, 0, 0⟩,
  ⟨⟨some 20, .load false 1 (.tmp 19), none⟩, .read, 0, 0⟩,
  ⟨⟨some 21, .move (.tmp 1), none⟩, .pure, 0, 0⟩,
  ⟨⟨some 22, .move (.tmp 8), none⟩, .pure, 0, 0⟩,
  ⟨⟨some 23, .idx 1 (.tmp 21) (.tmp 22), none⟩, .pure, 0, 0⟩,
  ⟨⟨some 24, .load false 1 (.tmp 23), none⟩, .read, 0, 0⟩,
  ⟨⟨some 25, .move (.tmp 2), none⟩, .pure, 0, 0⟩,
  ⟨⟨some 26, .move (.tmp 8), none⟩, .pure, 0, 0⟩,
  ⟨⟨some 27, .idx 1 (.tmp 25) (.tmp 26), none⟩, .pure, 0, 0⟩,
  ⟨⟨some 28, .load false 1 (.tmp 27), none⟩, .read, 0, 0⟩,
  ⟨⟨some 29, .call 57 [.tmp 20, .tmp 24, .tmp 28], none⟩, .heavy, 0, 1⟩,
  ⟨⟨some 30, .buildSlice 2 1 1 [.int .i64 0] [(0, 1, .tmp 29)], none⟩, .heavy, 1, 2⟩,
  ⟨⟨some 31, .append 2 1 8 (.tmp 15) (.tmp 30), none⟩, .heavy, 2, 3⟩,
  ⟨⟨some 7, .move (.tmp 31), none⟩, .pure, 3, 3⟩]))
 (.region [⟨some 13, .move (.tmp 8), none⟩,
  ⟨some 14, .bin .add (.tmp 13) (.const (.int .i64 1)), none⟩,
  ⟨some 8, .move (.tmp 14), none⟩]))
def L54 : LCode :=
 .seq (.region [⟨some 6, .move (.const (.slice none 0 0)), none⟩])
 (.seq (.region [⟨some 7, .move (.const (.slice none 0 0)), none⟩])
 (.seq (.seq (.region [⟨some 8, .move (.const (.int .i64 0)), none⟩])
 (.block 0 (.loop L54_1)))
 (.seq (.region [⟨some 32, .move (.tmp 7), none⟩,
  ⟨some 6, .move (.tmp 32), none⟩])
 (.ret))))
theorem light54 : Light Try.prog 54 3 33 L54 [.tmp 6] :=
  ⟨Try.f54, _, Try.func54, rfl, rfl, by kernel_rfl, by kernel_rfl, by decide⟩

/-! ### function 55: outrider/outriderref14.In -/
def L55_1 : LCode :=
 .seq (.seq (.region [⟨some 15, .move (.tmp 8), none⟩,
  ⟨some 16, .move (.tmp 1), none⟩,
  ⟨some 17, .len (.tmp 16), none⟩,
  ⟨some 18, .bin .lss (.tmp 15) (.tmp 17), none⟩])
 (.cond (.tmp 18) (.skip)
 (.exit 2)))
 (.seq (.block 3 (.seq (.region [⟨some 21, .move (.tmp 1), none⟩,
  ⟨some 22, .move (.tmp 8), none⟩,
  ⟨some 23, .idx 2 (.tmp 21) (.tmp 22), none⟩,
  ⟨some 24, .off 0 (.tmp 23), none⟩,
  ⟨some 25, .load false 1 (.tmp 24), none⟩,
  ⟨some 26, .move (.tmp 6), none⟩,
  ⟨some 27, .bin .eql (.tmp 25) (.tmp 26), none⟩])
 (.cond (.tmp 27) (.region [⟨some 28, .move (.tmp 7), none⟩,
  ⟨some 29, .move (.tmp 1), none⟩,
  ⟨some 30, .move (.tmp 8), none⟩,
  ⟨some 31, .idx 2 (.tmp 29) (.tmp 30), none⟩,
  ⟨some 32, .off 1 (.tmp 31), none⟩,
  ⟨some 33, .load false 1 (.tmp 32), none⟩,
  ⟨some 34, .buildSlice 2 1 1 [.int .i64 0] [(0, 1, .tmp 33)], none⟩,
  ⟨some 35, .append 2 1 8 (.tmp 28) (.tmp 34), none⟩,
  ⟨some 7, .move (.tmp 35), none⟩])
 (.skip))))
 (.region [⟨some 19, .move (.tmp 8), none⟩,
  ⟨some 20, .bin .add (.tmp 19) (.const (.int .i64 1)), none⟩,
  ⟨some 8, .move (.tmp 20), none⟩]))
def L55_2 : LCode :=
 .seq (.seq (.region [⟨some 9, .move (.tmp 6), none⟩,
  ⟨some 10, .move (.tmp 0), none⟩,
  ⟨some 11, .len (.tmp 10), none⟩,
  ⟨some 12, .bin .lss (.tmp 9) (.tmp 11), none⟩])
 (.cond (.tmp 12) (.skip)
 (.exit 0)))
 (.seq (.block 1 (.seq (.region [⟨some 7, .move (.const (.slice none 0 0)), none⟩])
 (.seq (.seq (.region [⟨some 8, .move (.const (.int .i64 0)), none⟩])
 (.block 2 (.loop L55_1)))
 (.region [⟨some 36, .move (.tmp 5), none⟩,
  ⟨some 37, .move (.tmp 0), none⟩,
  ⟨some 38, .move (.tmp 6), none⟩,
  ⟨some 39, .idx 2 (.tmp 37) (.tmp 38), none⟩,
  ⟨some 40, .off 0 (.tmp 39), none⟩,
  ⟨some 41, .load false 1 (.tmp 40), none⟩,
  ⟨some 42, .move (.tmp 7), none⟩,
  ⟨some 43, .call 58 [.tmp 41, .tmp 42], none⟩,
  ⟨some 44, .buildSlice 2 1 1 [.int .i64 0] [(0, 1, .tmp 43)], none⟩,
  ⟨some 45, .append 2 1 8 (.tmp 36) (.tmp 44), none⟩,
  ⟨some 5, .move (.tmp 45), none⟩]))))
 (.region [⟨some 13, .move (.tmp 6), none⟩,
  ⟨some 14, .bin .add (.tmp 13) (.const (.int .i64 1)), none⟩,
  ⟨some 6, .move (.tmp 14), none⟩]))
def L55 : LCode :=
 .seq (.region [⟨some 4, .move (.const (.slice none 0 0)), none⟩])
 (.seq (.region [⟨some 5, .move (.const (.slice none 0 0)), none⟩])
 (.seq (.seq (.region [⟨some 6, .move (.const (.int .i64 0)), none⟩])
 (.block 0 (.loop L55_2)))
 (.seq (.region [⟨some 46, .move (.tmp 5), none⟩,
  ⟨some 4, .move (.tmp 46), none⟩])
 (.ret))))
theorem light55 : Light Try.prog 55 2 47 L55 [.tmp 4] :=
  ⟨Try.f55, _, Try.func55, rfl, rfl, by kernel_rfl, by kernel_rfl, by decide⟩

/-! ### function 56: outrider/red.Join -/
def L56 : LCode :=
 .seq (.region [⟨some 6, .move (.const (.int .i64 0)), none⟩])
 (.seq (.seq (.region [⟨some 7, .move (.tmp 0), none⟩])
 (.block 0 (.seq (.region [⟨some 9, .bin .eql (.tmp 7) (.const (.int .i64 1)), none⟩,
  ⟨some 8, .move (.tmp 9), none⟩])
 (.cond (.tmp 8) (.seq (.region [⟨some 10, .move (.tmp 1), none⟩,
  ⟨some 11, .move (.tmp 2), none⟩,
  ⟨some 12, .bin .add (.tmp 10) (.tmp 11), none⟩,
  ⟨some 6, .move (.tmp 12), none⟩])
 (.ret))
 (.seq (.region [⟨some 14, .bin .eql (.tmp 7) (.const (.int .i64 2)), none⟩,
  ⟨some 13, .move (.tmp 14), none⟩])
 (.cond (.tmp 13) (.seq (.region [⟨some 15, .move (.tmp 1), none⟩,
  ⟨some 16, .move (.tmp 2), none⟩,
  ⟨some 17, .bin .mul (.tmp 15) (.tmp 16), none⟩,
  ⟨some 6, .move (.tmp 17), none⟩])
 (.ret))
 (.seq (.region [⟨some 19, .bin .eql (.tmp 7) (.const (.int .i64 3)), none⟩,
  ⟨some 18, .move (.tmp 19), none⟩])
 (.cond (.tmp 18) (.seq (.region [⟨some 20, .move (.tmp 1), none⟩,
  ⟨some 21, .move (.tmp 2), none⟩,
  ⟨some 22, .minmax false (.tmp 20) [.tmp 21], none⟩,
  ⟨some 6, .move (.tmp 22), none⟩])
 (.ret))
 (.seq (.region [⟨some 24, .bin .eql (.tmp 7) (.const (.int .i64 4)), none⟩,
  ⟨some 23, .move (.tmp 24), none⟩])
 (.cond (.tmp 23) (.seq (.region [⟨some 25, .move (.tmp 1), none⟩,
  ⟨some 26, .move (.tmp 2), none⟩,
  ⟨some 27, .minmax true (.tmp 25) [.tmp 26], none⟩,
  ⟨some 6, .move (.tmp 27), none⟩])
 (.ret))
 (.seq (.region [⟨some 29, .bin .eql (.tmp 7) (.const (.int .i64 5)), none⟩,
  ⟨some 28, .move (.tmp 29), none⟩])
 (.cond (.tmp 28) (.seq (.region [⟨some 30, .move (.tmp 1), none⟩,
  ⟨some 31, .move (.tmp 2), none⟩,
  ⟨some 32, .bin .and (.tmp 30) (.tmp 31), none⟩,
  ⟨some 6, .move (.tmp 32), none⟩])
 (.ret))
 (.seq (.region [⟨some 34, .bin .eql (.tmp 7) (.const (.int .i64 6)), none⟩,
  ⟨some 33, .move (.tmp 34), none⟩])
 (.cond (.tmp 33) (.seq (.region [⟨some 35, .move (.tmp 1), none⟩,
  ⟨some 36, .move (.tmp 2), none⟩,
  ⟨some 37, .bin .or (.tmp 35) (.tmp 36), none⟩,
  ⟨some 6, .move (.tmp 37), none⟩])
 (.ret))
 (.seq (.region [⟨some 39, .bin .eql (.tmp 7) (.const (.int .i64 7)), none⟩,
  ⟨some 38, .move (.tmp 39), none⟩])
 (.cond (.tmp 38) (.seq (.region [⟨some 40, .move (.tmp 1), none⟩,
  ⟨some 41, .move (.tmp 2), none⟩,
  ⟨some 42, .bin .xor (.tmp 40) (.tmp 41), none⟩,
  ⟨some 6, .move (.tmp 42), none⟩])
 (.ret))
 (.skip)))))))))))))))))
 (.seq (.region [⟨some 6, .move (.const (.int .i64 0)), none⟩])
 (.ret)))
theorem light56 : Light Try.prog 56 3 43 L56 [.tmp 6] :=
  ⟨Try.f56, _, Try.func56, rfl, rfl, by kernel_rfl, by kernel_rfl, by decide⟩

/-! ### function 57: outrider/outriderref14.Join -/
def L57 : LCode :=
 .seq (.region [⟨some 6, .move (.const (.int .i64 0)), none⟩])
 (.seq (.seq (.region [⟨some 9, .move (.tmp 0), none⟩,
  ⟨some 10, .call 50 [.tmp 9], none⟩,
  ⟨some 11, .un .not (.tmp 10), none⟩])
 (.cond (.tmp 11) (.seq (.region [⟨some 6, .move (.const (.int .i64 0)), none⟩])
 (.ret))
 (.skip)))
 (.seq (.region [⟨some 13, .move (.tmp 0), none⟩,
  ⟨some 14, .call 60 [.tmp 13], none⟩,
  ⟨some 15, .move (.tmp 1), none⟩,
  ⟨some 16, .move (.tmp 2), none⟩,
  ⟨some 17, .call 59 [.tmp 14, .tmp 15, .tmp 16], none⟩,
  ⟨some 12, .move (.tmp 17), none⟩,
  ⟨some 18, .extract (.tmp 12) 0, none⟩,
  ⟨some 19, .extract (.tmp 12) 1, none⟩,
  ⟨some 7, .move (.tmp 18), none⟩,
  ⟨some 8, .move (.tmp 19), none⟩])
 (.seq (.region [⟨some 20, .move (.tmp 7), none⟩,
  ⟨some 6, .move (.tmp 20), none⟩])
 (.ret))))
theorem light57 : Light Try.prog 57 3 21 L57 [.tmp 6] :=
  ⟨Try.f57, _, Try.func57, rfl, rfl, by kernel_rfl, by kernel_rfl, by decide⟩

/-! ### function 58: outrider/outriderref14.Fold -/
def L58_1 : LCode :=
 .seq (.seq (.region [⟨some 9, .move (.tmp 6), none⟩,
  ⟨some 10, .move (.tmp 1), none⟩,
  ⟨some 11, .len (.tmp 10), none⟩,
  ⟨some 12, .bin .lss (.tmp 9) (.tmp 11), none⟩])
 (.cond (.tmp 12) (.skip)
 (.exit 0)))
 (.seq (.block 1 (.region [⟨some 15, .move (.tmp 0), none⟩,
  ⟨some 16, .move (.tmp 5), none⟩,
  ⟨some 17, .move (.tmp 1), none⟩,
  ⟨some 18, .move (.tmp 6), none⟩,
  ⟨some 19, .idx 1 (.tmp 17) (.tmp 18), none⟩,
  ⟨some 20, .load false 1 (.tmp 19), none⟩,
  ⟨some 21, .call 57 [.tmp 15, .tmp 16, .tmp 20], none⟩,
  ⟨some 5, .move (.tmp 21), none⟩]))
 (.region [⟨some 13, .move (.tmp 6), none⟩,
  ⟨some 14, .bin .add (.tmp 13) (.const (.int .i64 1)), none⟩,
  ⟨some 6, .move (.tmp 14), none⟩]))
def L58 : LCode :=
 .seq (.region [⟨some 4, .move (.const (.int .i64 0)), none⟩])
 (.seq (.region [⟨some 7, .move (.tmp 0), none⟩,
  ⟨some 8, .call 61 [.tmp 7], none⟩,
  ⟨some 5, .move (.tmp 8), none⟩])
 (.seq (.seq (.region [⟨some 6, .move (.const (.int .i64 0)), none⟩])
 (.block 0 (.loop L58_1)))
 (.seq (.region [⟨some 22, .move (.tmp 5), none⟩,
  ⟨some 4, .move (.tmp 22), none⟩])
 (.ret))))
theorem light58 : Light Try.prog 58 2 23 L58 [.tmp 4] :=
  ⟨Try.f58, _, Try.func58, rfl, rfl, by kernel_rfl, by kernel_rfl, by decide⟩

/-! ### function 59: outrider/outriderref01.Two -/
def L59 : LCode :=
 .seq (.region [⟨some 6, .move (.const (.int .i64 0)), none⟩,
  ⟨some 7, .move (.const (.bool false)), none⟩])
 (.seq (.seq (.region [⟨some 10, .move (.tmp 0), none⟩])
 (.block 0 (.seq (.region [⟨some 12, .bin .eql (.tmp 10) (.const (.int .i64 1)), none⟩,
  ⟨some 11, .move (.tmp 12), none⟩])
 (.cond (.tmp 11) (.seq (.region [⟨some 13, .move (.tmp 1), none⟩,
  ⟨some 14, .move (.tmp 2), none⟩,
  ⟨some 15, .call 62 [.tmp 13, .tmp 14], none⟩,
  ⟨some 6, .move (.tmp 15), none⟩,
  ⟨some 7, .move (.const (.bool true)), none⟩])
 (.ret))
 (.seq (.region [⟨some 17, .bin .eql (.tmp 10) (.const (.int .i64 2)), none⟩,
  ⟨some 16, .move (.tmp 17), none⟩])
 (.cond (.tmp 16) (.seq (.region [⟨some 18, .move (.tmp 1), none⟩,
  ⟨some 19, .move (.tmp 2), none⟩,
  ⟨some 20, .call 63 [.tmp 19], none⟩,
  ⟨some 21, .call 62 [.tmp 18, .tmp 20], none⟩,
  ⟨some 6, .move (.tmp 21), none⟩,
  ⟨some 7, .move (.const (.bool true)), none⟩])
 (.ret))
 (.seq (.region [⟨some 23, .bin .eql (.tmp 10) (.const (.int .i64 3)), none⟩,
  ⟨some 22, .move (.tmp 23), none⟩])
 (.cond (.tmp 22) (.seq (.region [⟨some 24, .move (.tmp 1), none⟩,
  ⟨some 25, .move (.tmp 2), none⟩,
  ⟨some 26, .call 64 [.tmp 24, .tmp 25], none⟩,
  ⟨some 6, .move (.tmp 26), none⟩,
  ⟨some 7, .move (.const (.bool true)), none⟩])
 (.ret))
 (.seq (.seq (.region [⟨some 28, .bin .eql (.tmp 10) (.const (.int .i64 4)), none⟩,
  ⟨some 27, .move (.tmp 28), none⟩])
 (.cond (.tmp 27) (.skip)
 (.region [⟨some 29, .bin .eql (.tmp 10) (.const (.int .i64 5)), none⟩,
  ⟨some 27, .move (.tmp 29), none⟩])))
 (.cond (.tmp 27) (.seq (.seq (.region [⟨some 30, .move (.tmp 2), none⟩,
  ⟨some 31, .bin .eql (.tmp 30) (.const (.int .i64 0)), none⟩])
 (.cond (.tmp 31) (.seq (.region [⟨some 6, .move (.const (.int .i64 0)), none⟩,
  ⟨some 7, .move (.const (.bool false)), none⟩])
 (.ret))
 (.skip)))
 (.seq (.region [⟨some 33, .move (.tmp 1), none⟩,
  ⟨some 34, .call 66 [.tmp 33], none⟩,
  ⟨some 35, .move (.tmp 2), none⟩,
  ⟨some 36, .call 66 [.tmp 35], none⟩,
  ⟨some 37, .call 65 [.tmp 34, .tmp 36], none⟩,
  ⟨some 32, .move (.tmp 37), none⟩,
  ⟨some 38, .extract (.tmp 32) 0, none⟩,
  ⟨some 39, .extract (.tmp 32) 1, none⟩,
  ⟨some 8, .move (.tmp 38), none⟩,
  ⟨some 9, .move (.tmp 39), none⟩])
 (.seq (.seq (.region [⟨some 40, .move (.tmp 0), none⟩,
  ⟨some 41, .bin .eql (.tmp 40) (.const (.int .i64 4)), none⟩])
 (.cond (.tmp 41) (.seq (.region [⟨some 42, .move (.tmp 8), none⟩,
  ⟨some 43, .move (.tmp 1), none⟩,
  ⟨some 44, .bin .lss (.tmp 43) (.const (.int .i64 0)), none⟩,
  ⟨some 45, .move (.tmp 2), none⟩,
  ⟨some 46, .bin .lss (.tmp 45) (.const (.int .i64 0)), none⟩,
  ⟨some 47, .eqB true (.tmp 44) (.tmp 46), none⟩,
  ⟨some 48, .call 67 [.tmp 42, .tmp 47], none⟩,
  ⟨some 6, .move (.tmp 48), none⟩,
  ⟨some 7, .move (.const (.bool true)), none⟩])
 (.ret))
 (.skip)))
 (.seq (.region [⟨some 49, .move (.tmp 9), none⟩,
  ⟨some 50, .move (.tmp 1), none⟩,
  ⟨some 51, .bin .lss (.tmp 50) (.const (.int .i64 0)), none⟩,
  ⟨some 52, .call 67 [.tmp 49, .tmp 51], none⟩,
  ⟨some 6, .move (.tmp 52), none⟩,
  ⟨some 7, .move (.const (.bool true)), none⟩])
 (.ret)))))
 (.seq (.seq (.region [⟨some 54, .bin .eql (.tmp 10) (.const (.int .i64 6)), none⟩,
  ⟨some 53, .move (.tmp 54), none⟩])
 (.cond (.tmp 53) (.skip)
 (.seq (.region [⟨some 55, .bin .eql (.tmp 10) (.const (.int .i64 7)), none⟩,
  ⟨some 53, .move (.tmp 55), none⟩])
 (.cond (.tmp 53) (.skip)
 (.region [⟨some 56, .bin .eql (.tmp 10) (.const (.int .i64 8)), none⟩,
  ⟨some 53, .move (.tmp 56), none⟩])))))
 (.cond (.tmp 53) (.seq (.region [⟨some 57, .move (.tmp 0), none⟩,
  ⟨some 58, .move (.tmp 1), none⟩,
  ⟨some 59, .move (.tmp 2), none⟩,
  ⟨some 60, .call 68 [.tmp 57, .tmp 58, .tmp 59], none⟩,
  ⟨some 6, .move (.tmp 60), none⟩,
  ⟨some 7, .move (.const (.bool true)), none⟩])
 (.ret))
 (.seq (.seq (.region [⟨some 62, .bin .eql (.tmp 10) (.const (.int .i64 9)), none⟩,
  ⟨some 61, .move (.tmp 62), none⟩])
 (.cond (.tmp 61) (.skip)
 (.region [⟨some 63, .bin .eql (.tmp 10) (.const (.int .i64 10)), none⟩,
  ⟨some 61, .move (.tmp 63), none⟩])))
 (.cond (.tmp 61) (.seq (.region [⟨some 64, .move (.tmp 0), none⟩,
  ⟨some 65, .move (.tmp 1), none⟩,
  ⟨some 66, .move (.tmp 2), none⟩,
  ⟨some 67, .call 69 [.tmp 64, .tmp 65, .tmp 66], none⟩,
  ⟨some 6, .move (.tmp 67), none⟩,
  ⟨some 7, .move (.const (.bool true)), none⟩])
 (.ret))
 (.seq (.region [⟨some 69, .bin .eql (.tmp 10) (.const (.int .i64 11)), none⟩,
  ⟨some 68, .move (.tmp 69), none⟩])
 (.cond (.tmp 68) (.seq (.region [⟨some 70, .move (.tmp 1), none⟩,
  ⟨some 71, .move (.tmp 2), none⟩,
  ⟨some 72, .call 71 [.tmp 70, .tmp 71], none⟩,
  ⟨some 73, .un .not (.tmp 72), none⟩,
  ⟨some 74, .move (.tmp 73), none⟩,
  ⟨some 75, .move (.tmp 2), (some (74, true))⟩,
  ⟨some 76, .move (.tmp 1), (some (74, true))⟩,
  ⟨some 77, .call 71 [.tmp 75, .tmp 76], (some (74, true))⟩,
  ⟨some 78, .un .not (.tmp 77), (some (74, true))⟩,
  ⟨some 79, .pick (.tmp 74) (.tmp 78) (.const (.bool false)), none⟩,
  ⟨some 80, .call 70 [.tmp 79], none⟩,
  ⟨some 6, .move (.tmp 80), none⟩,
  ⟨some 7, .move (.const (.bool true)), none⟩])
 (.ret))
 (.seq (.region [⟨some 82, .bin .eql (.tmp 10) (.const (.int .i64 12)), none⟩,
  ⟨some 81, .move (.tmp 82), none⟩])
 (.cond (.tmp 81) (.seq (.region [⟨some 83, .move (.tmp 1), none⟩,
  ⟨some 84, .move (.tmp 2), none⟩,
  ⟨some 85, .call 71 [.tmp 83, .tmp 84], none⟩,
  ⟨some 86, .move (.tmp 85), none⟩,
  ⟨some 87, .move (.tmp 2), (some (86, false))⟩,
  ⟨some 88, .move (.tmp 1), (some (86, false))⟩,
  ⟨some 89, .call 71 [.tmp 87, .tmp 88], (some (86, false))⟩,
  ⟨some 90, .pick (.tmp 86) (.const (.bool true)) (.tmp 89), none⟩,
  ⟨some 91, .call 70 [.tmp 90], none⟩,
  ⟨some 6, .move (.tmp 91), none⟩,
  ⟨some 7, .move (.const (.bool true)), none⟩])
 (.ret))
 (.seq (.region [⟨some 93, .bin .eql (.tmp 10) (.const (.int .i64 13)), none⟩,
  ⟨some 92, .move (.tmp 93), none⟩])
 (.cond (.tmp 92) (.seq (.region [⟨some 94, .move (.tmp 1), none⟩,
  ⟨some 95, .move (.tmp 2), none⟩,
  ⟨some 96, .call 71 [.tmp 94, .tmp 95], none⟩,
  ⟨some 97, .call 70 [.tmp 96], none⟩,
  ⟨some 6, .move (.tmp 97), none⟩,
  ⟨some 7, .move (.const (.bool true)), none⟩])
 (.ret))
 (.seq (.region [⟨some 99, .bin .eql (.tmp 10) (.const (.int .i64 14)), none⟩,
  ⟨some 98, .move (.tmp 99), none⟩])
 (.cond (.tmp 98) (.seq (.region [⟨some 100, .move (.tmp 2), none⟩,
  ⟨some 101, .move (.tmp 1), none⟩,
  ⟨some 102, .call 71 [.tmp 100, .tmp 101], none⟩,
  ⟨some 103, .un .not (.tmp 102), none⟩,
  ⟨some 104, .call 70 [.tmp 103], none⟩,
  ⟨some 6, .move (.tmp 104), none⟩,
  ⟨some 7, .move (.const (.bool true)), none⟩])
 (.ret))
 (.seq (.region [⟨some 106, .bin .eql (.tmp 10) (.const (.int .i64 15)), none⟩,
  ⟨some 105, .move (.tmp 106), none⟩])
 (.cond (.tmp 105) (.seq (.region [⟨some 107, .move (.tmp 2), none⟩,
  ⟨some 108, .move (.tmp 1), none⟩,
  ⟨some 109, .call 71 [.tmp 107, .tmp 108], none⟩,
  ⟨some 110, .call 70 [.tmp 109], none⟩,
  ⟨some 6, .move (.tmp 110), none⟩,
  ⟨some 7, .move (.const (.bool true)), none⟩])
 (.ret))
 (.seq (.region [⟨some 112, .bin .eql (.tmp 10) (.const (.int .i64 16)), none⟩,
  ⟨some 111, .move (.tmp 112), none⟩])
 (.cond (.tmp 111) (.seq (.region [⟨some 113, .move (.tmp 1), none⟩,
  ⟨some 114, .move (.tmp 2), none⟩,
  ⟨some 115, .call 71 [.tmp 113, .tmp 114], none⟩,
  ⟨some 116, .un .not (.tmp 115), none⟩,
  ⟨some 117, .call 70 [.tmp 116], none⟩,
  ⟨some 6, .move (.tmp 117), none⟩,
  ⟨some 7, .move (.const (.bool true)), none⟩])
 (.ret))
 (.seq (.region [⟨some 119, .bin .eql (.tmp 10) (.const (.int .i64 17)), none⟩,
  ⟨some 118, .move (.tmp 119), none⟩])
 (.cond (.tmp 118) (.seq (.seq (.region [⟨some 120, .move (.tmp 2), none⟩,
  ⟨some 121, .move (.tmp 1), none⟩,
  ⟨some 122, .call 71 [.tmp 120, .tmp 121], none⟩])
 (.cond (.tmp 122) (.seq (.region [⟨some 123, .move (.tmp 2), none⟩,
  ⟨some 6, .move (.tmp 123), none⟩,
  ⟨some 7, .move (.const (.bool true)), none⟩])
 (.ret))
 (.skip)))
 (.seq (.region [⟨some 124, .move (.tmp 1), none⟩,
  ⟨some 6, .move (.tmp 124), none⟩,
  ⟨some 7, .move (.const (.bool true)), none⟩])
 (.ret)))
 (.seq (.region [⟨some 126, .bin .eql (.tmp 10) (.const (.int .i64 18)), none⟩,
  ⟨some 125, .move (.tmp 126), none⟩])
 (.cond (.tmp 125) (.seq (.seq (.region [⟨some 127, .move (.tmp 1), none⟩,
  ⟨some 128, .move (.tmp 2), none⟩,
  ⟨some 129, .call 71 [.tmp 127, .tmp 128], none⟩])
 (.cond (.tmp 129) (.seq (.region [⟨some 130, .move (.tmp 2), none⟩,
  ⟨some 6, .move (.tmp 130), none⟩,
  ⟨some 7, .move (.const (.bool true)), none⟩])
 (.ret))
 (.skip)))
 (.seq (.region [⟨some 131, .move (.tmp 1), none⟩,
  ⟨some 6, .move (.tmp 131), none⟩,
  ⟨some 7, .move (.const (.bool true)), none⟩])
 (.ret)))
 (.skip)))))))))))))))))))))))))))))))
 (.seq (.region [⟨some 6, .move (.const (.int .i64 0)), none⟩,
  ⟨some 7, .move (.const (.bool false)), none⟩])
 (.ret)))
theorem light59 : Light Try.prog 59 3 132 L59 [.tmp 6, .tmp 7] :=
  ⟨Try.f59, _, Try.func59, rfl, rfl, by kernel_rfl, by kernel_rfl, by decide⟩

/-! ### function 60: outrider/outriderref14.two -/
def L60 : LCode :=
 .seq (.region [⟨some 2, .move (.const (.int .i64 0)), none⟩])
 (.seq (.region [⟨some 4, .buildSlice 109 1 7 [.int .i64 0] [(0, 1, .const (.int .i64 1)), (1, 1, .const (.int .i64 3)), (2, 1, .const (.int .i64 17)), (3, 1, .const (.int .i64 18)), (4, 1, .const (.int .i64 6)), (5, 1, .const (.int .i64 7)), (6, 1, .const (.int .i64 8))], none⟩,
  ⟨some 3, .move (.tmp 4), none⟩])
 (.seq (.region [⟨some 5, .move (.tmp 3), none⟩,
  ⟨some 6, .move (.tmp 0), none⟩,
  ⟨some 7, .bin .sub (.tmp 6) (.const (.int .i64 1)), none⟩,
  ⟨some 8, .idx 1 (.tmp 5) (.tmp 7), none⟩,
  ⟨some 9, .load false 1 (.tmp 8), none⟩,
  ⟨some 2, .move (.tmp 9), none⟩])
 (.ret)))
theorem light60 : Light Try.prog 60 1 10 L60 [.tmp 2] :=
  ⟨Try.f60, _, Try.func60, rfl, rfl, by kernel_rfl, by kernel_rfl, by decide⟩

/-! ### function 61: outrider/outriderref14.Zero -/
def L61 : LCode :=
 .seq (.region [⟨some 2, .move (.const (.int .i64 0)), none⟩])
 (.seq (.region [⟨some 4, .buildSlice 2 1 7 [.int .i64 0] [(0, 1, .const (.int .i64 0)), (1, 1, .const (.int .i64 1)), (2, 1, .const (.int .i64 9223372036854775807)), (3, 1, .const (.int .i64 (-9223372036854775808))), (4, 1, .const (.int .i64 (-1))), (5, 1, .const (.int .i64 0)), (6, 1, .const (.int .i64 0))], none⟩,
  ⟨some 3, .move (.tmp 4), none⟩])
 (.seq (.seq (.region [⟨some 5, .move (.tmp 0), none⟩,
  ⟨some 6, .call 50 [.tmp 5], none⟩,
  ⟨some 7, .un .not (.tmp 6), none⟩])
 (.cond (.tmp 7) (.seq (.region [⟨some 2, .move (.const (.int .i64 0)), none⟩])
 (.ret))
 (.skip)))
 (.seq (.region [⟨some 8, .move (.tmp 3), none⟩,
  ⟨some 9, .move (.tmp 0), none⟩,
  ⟨some 10, .bin .sub (.tmp 9) (.const (.int .i64 1)), none⟩,
  ⟨some 11, .idx 1 (.tmp 8) (.tmp 10), none⟩,
  ⟨some 12, .load false 1 (.tmp 11), none⟩,
  ⟨some 2, .move (.tmp 12), none⟩])
 (.ret))))
theorem light61 : Light Try.prog 61 1 13 L61 [.tmp 2] :=
  ⟨Try.f61, _, Try.func61, rfl, rfl, by kernel_rfl, by kernel_rfl, by decide⟩

/-! ### function 62: outrider/outriderref01.add -/
def L62 : LCode :=
 .seq (.region [⟨some 4, .move (.const (.int .i64 0)), none⟩])
 (.seq (.region [⟨some 11, .move (.tmp 0), none⟩,
  ⟨some 12, .call 72 [.tmp 11], none⟩,
  ⟨some 10, .move (.tmp 12), none⟩,
  ⟨some 13, .extract (.tmp 10) 0, none⟩,
  ⟨some 14, .extract (.tmp 10) 1, none⟩,
  ⟨some 5, .move (.tmp 13), none⟩,
  ⟨some 6, .move (.tmp 14), none⟩])
 (.seq (.region [⟨some 16, .move (.tmp 1), none⟩,
  ⟨some 17, .call 72 [.tmp 16], none⟩,
  ⟨some 15, .move (.tmp 17), none⟩,
  ⟨some 18, .extract (.tmp 15) 0, none⟩,
  ⟨some 19, .extract (.tmp 15) 1, none⟩,
  ⟨some 7, .move (.tmp 18), none⟩,
  ⟨some 8, .move (.tmp 19), none⟩])
 (.seq (.region [⟨some 20, .move (.tmp 5), none⟩,
  ⟨some 21, .move (.tmp 7), none⟩,
  ⟨some 22, .bin .add (.tmp 20) (.tmp 21), none⟩,
  ⟨some 9, .move (.tmp 22), none⟩])
 (.seq (.region [⟨some 23, .move (.tmp 9), none⟩,
  ⟨some 24, .move (.tmp 6), none⟩,
  ⟨some 25, .move (.tmp 8), none⟩,
  ⟨some 26, .bin .add (.tmp 24) (.tmp 25), none⟩,
  ⟨some 27, .move (.tmp 9), none⟩,
  ⟨some 28, .bin .shr (.tmp 27) (.const (.int .u64 32)), none⟩,
  ⟨some 29, .bin .add (.tmp 26) (.tmp 28), none⟩,
  ⟨some 30, .call 73 [.tmp 23, .tmp 29], none⟩,
  ⟨some 4, .move (.tmp 30), none⟩])
 (.ret)))))
theorem light62 : Light Try.prog 62 2 31 L62 [.tmp 4] :=
  ⟨Try.f62, _, Try.func62, rfl, rfl, by kernel_rfl, by kernel_rfl, by decide⟩

/-! ### function 63: outrider/outriderref01.neg -/
def L63 : LCode :=
 .seq (.region [⟨some 2, .move (.const (.int .i64 0)), none⟩])
 (.seq (.region [⟨some 3, .move (.tmp 0), none⟩,
  ⟨some 4, .call 74 [.tmp 3], none⟩,
  ⟨some 5, .call 62 [.tmp 4, .const (.int .i64 1)], none⟩,
  ⟨some 2, .move (.tmp 5), none⟩])
 (.ret))
theorem light63 : Light Try.prog 63 1 6 L63 [.tmp 2] :=
  ⟨Try.f63, _, Try.func63, rfl, rfl, by kernel_rfl, by kernel_rfl, by decide⟩

/-! ### function 64: outrider/outriderref01.mul -/
def L64_1 : LCode :=
 .seq (.seq (.region [⟨some 7, .move (.tmp 6), none⟩,
  ⟨some 8, .bin .lss (.tmp 7) (.const (.int .i64 64)), none⟩])
 (.cond (.tmp 8) (.skip)
 (.exit 0)))
 (.seq (.block 1 (.seq (.seq (.region [⟨some 11, .move (.tmp 1), none⟩,
  ⟨some 12, .move (.tmp 6), none⟩,
  ⟨some 13, .call 75 [.tmp 11, .tmp 12], none⟩])
 (.cond (.tmp 13) (.region [⟨some 14, .move (.tmp 5), none⟩,
  ⟨some 15, .move (.tmp 0), none⟩,
  ⟨some 16, .call 62 [.tmp 14, .tmp 15], none⟩,
  ⟨some 5, .move (.tmp 16), none⟩])
 (.skip)))
 (.region [⟨some 17, .move (.tmp 0), none⟩,
  ⟨some 18, .move (.tmp 0), none⟩,
  ⟨some 19, .call 62 [.tmp 17, .tmp 18], none⟩,
  ⟨some 0, .move (.tmp 19), none⟩])))
 (.region [⟨some 9, .move (.tmp 6), none⟩,
  ⟨some 10, .bin .add (.tmp 9) (.const (.int .i64 1)), none⟩,
  ⟨some 6, .move (.tmp 10), none⟩]))
def L64 : LCode :=
 .seq (.region [⟨some 4, .move (.const (.int .i64 0)), none⟩])
 (.seq (.region [⟨some 5, .move (.const (.int .i64 0)), none⟩])
 (.seq (.seq (.region [⟨some 6, .move (.const (.int .i64 0)), none⟩])
 (.block 0 (.loop L64_1)))
 (.seq (.region [⟨some 20, .move (.tmp 5), none⟩,
  ⟨some 4, .move (.tmp 20), none⟩])
 (.ret))))
theorem light64 : Light Try.prog 64 2 21 L64 [.tmp 4] :=
  ⟨Try.f64, _, Try.func64, rfl, rfl, by kernel_rfl, by kernel_rfl, by decide⟩

/-! ### function 65: outrider/outriderref01.Long -/
def L65_1 : LCode :=
 .seq (.seq (.region [⟨some 10, .move (.tmp 8), none⟩,
  ⟨some 11, .bin .geq (.tmp 10) (.const (.int .i64 0)), none⟩])
 (.cond (.tmp 11) (.skip)
 (.exit 0)))
 (.seq (.block 1 (.seq (.region [⟨some 14, .move (.tmp 7), none⟩,
  ⟨some 15, .bin .shr (.tmp 14) (.const (.int .u64 63)), none⟩,
  ⟨some 16, .bin .eql (.tmp 15) (.const (.int .u64 1)), none⟩,
  ⟨some 9, .move (.tmp 16), none⟩])
 (.seq (.region [⟨some 17, .move (.tmp 7), none⟩,
  ⟨some 18, .bin .shl (.tmp 17) (.const (.int .u64 1)), none⟩,
  ⟨some 19, .move (.tmp 0), none⟩,
  ⟨some 20, .move (.tmp 8), none⟩,
  ⟨some 21, .conv .u64 (.tmp 20), none⟩,
  ⟨some 22, .bin .shr (.tmp 19) (.tmp 21), none⟩,
  ⟨some 23, .bin .and (.tmp 22) (.const (.int .u64 1)), none⟩,
  ⟨some 24, .bin .or (.tmp 18) (.tmp 23), none⟩,
  ⟨some 7, .move (.tmp 24), none⟩])
 (.seq (.region [⟨some 25, .move (.tmp 6), none⟩,
  ⟨some 26, .bin .shl (.tmp 25) (.const (.int .u64 1)), none⟩,
  ⟨some 6, .move (.tmp 26), none⟩])
 (.seq (.region [⟨some 27, .move (.tmp 9), none⟩,
  ⟨some 28, .move (.tmp 27), none⟩,
  ⟨some 29, .move (.tmp 7), (some (28, false))⟩,
  ⟨some 30, .move (.tmp 1), (some (28, false))⟩,
  ⟨some 31, .bin .geq (.tmp 29) (.tmp 30), (some (28, false))⟩,
  ⟨some 32, .pick (.tmp 28) (.const (.bool true)) (.tmp 31), none⟩])
 (.cond (.tmp 32) (.seq (.region [⟨some 33, .move (.tmp 7), none⟩,
  ⟨some 34, .move (.tmp 1), none⟩,
  ⟨some 35, .bin .sub (.tmp 33) (.tmp 34), none⟩,
  ⟨some 7, .move (.tmp 35), none⟩])
 (.region [⟨some 36, .move (.tmp 6), none⟩,
  ⟨some 37, .bin .or (.tmp 36) (.const (.int .u64 1)), none⟩,
  ⟨some 6, .move (.tmp 37), none⟩]))
 (.skip)))))))
 (.region [⟨some 12, .move (.tmp 8), none⟩,
  ⟨some 13, .bin .sub (.tmp 12) (.const (.int .i64 1)), none⟩,
  ⟨some 8, .move (.tmp 13), none⟩]))
def L65 : LCode :=
 .seq (.region [⟨some 4, .move (.const (.int .u64 0)), none⟩,
  ⟨some 5, .move (.const (.int .u64 0)), none⟩])
 (.seq (.region [⟨some 6, .move (.const (.int .u64 0)), none⟩,
  ⟨some 7, .move (.const (.int .u64 0)), none⟩])
 (.seq (.seq (.region [⟨some 8, .move (.const (.int .i64 63)), none⟩])
 (.block 0 (.loop L65_1)))
 (.seq (.region [⟨some 38, .move (.tmp 6), none⟩,
  ⟨some 39, .move (.tmp 7), none⟩,
  ⟨some 4, .move (.tmp 38), none⟩,
  ⟨some 5, .move (.tmp 39), none⟩])
 (.ret))))
theorem light65 : Light Try.prog 65 2 40 L65 [.tmp 4, .tmp 5] :=
  ⟨Try.f65, _, Try.func65, rfl, rfl, by kernel_rfl, by kernel_rfl, by decide⟩

/-! ### function 66: outrider/outriderref01.size -/
def L66 : LCode :=
 .seq (.region [⟨some 2, .move (.const (.int .u64 0)), none⟩])
 (.seq (.seq (.region [⟨some 3, .move (.tmp 0), none⟩,
  ⟨some 4, .bin .lss (.tmp 3) (.const (.int .i64 0)), none⟩])
 (.cond (.tmp 4) (.seq (.region [⟨some 5, .move (.tmp 0), none⟩,
  ⟨some 6, .call 63 [.tmp 5], none⟩,
  ⟨some 7, .conv .u64 (.tmp 6), none⟩,
  ⟨some 2, .move (.tmp 7), none⟩])
 (.ret))
 (.skip)))
 (.seq (.region [⟨some 8, .move (.tmp 0), none⟩,
  ⟨some 9, .conv .u64 (.tmp 8), none⟩,
  ⟨some 2, .move (.tmp 9), none⟩])
 (.ret)))
theorem light66 : Light Try.prog 66 1 10 L66 [.tmp 2] :=
  ⟨Try.f66, _, Try.func66, rfl, rfl, by kernel_rfl, by kernel_rfl, by decide⟩

/-! ### function 67: outrider/outriderref01.signed -/
def L67 : LCode :=
 .seq (.region [⟨some 4, .move (.const (.int .i64 0)), none⟩])
 (.seq (.seq (.region [⟨some 5, .move (.tmp 1), none⟩])
 (.cond (.tmp 5) (.seq (.region [⟨some 6, .move (.tmp 0), none⟩,
  ⟨some 7, .conv .i64 (.tmp 6), none⟩,
  ⟨some 8, .call 63 [.tmp 7], none⟩,
  ⟨some 4, .move (.tmp 8), none⟩])
 (.ret))
 (.skip)))
 (.seq (.region [⟨some 9, .move (.tmp 0), none⟩,
  ⟨some 10, .conv .i64 (.tmp 9), none⟩,
  ⟨some 4, .move (.tmp 10), none⟩])
 (.ret)))
theorem light67 : Light Try.prog 67 2 11 L67 [.tmp 4] :=
  ⟨Try.f67, _, Try.func67, rfl, rfl, by kernel_rfl, by kernel_rfl, by decide⟩

/-! ### function 68: outrider/outriderref01.logic -/
def L68_1 : LCode :=
 .seq (.seq (.region [⟨some 12, .move (.tmp 8), none⟩,
  ⟨some 13, .bin .lss (.tmp 12) (.const (.int .i64 64)), none⟩])
 (.cond (.tmp 13) (.skip)
 (.exit 0)))
 (.seq (.block 1 (.seq (.region [⟨some 16, .move (.tmp 1), none⟩,
  ⟨some 17, .move (.tmp 8), none⟩,
  ⟨some 18, .call 75 [.tmp 16, .tmp 17], none⟩,
  ⟨some 19, .move (.tmp 2), none⟩,
  ⟨some 20, .move (.tmp 8), none⟩,
  ⟨some 21, .call 75 [.tmp 19, .tmp 20], none⟩,
  ⟨some 9, .move (.tmp 18), none⟩,
  ⟨some 10, .move (.tmp 21), none⟩])
 (.seq (.region [⟨some 22, .move (.tmp 9), none⟩,
  ⟨some 23, .move (.tmp 22), none⟩,
  ⟨some 24, .move (.tmp 10), (some (23, true))⟩,
  ⟨some 25, .pick (.tmp 23) (.tmp 24) (.const (.bool false)), none⟩,
  ⟨some 11, .move (.tmp 25), none⟩])
 (.seq (.seq (.region [⟨some 26, .move (.tmp 0), none⟩,
  ⟨some 27, .bin .eql (.tmp 26) (.const (.int .i64 7)), none⟩])
 (.cond (.tmp 27) (.region [⟨some 28, .move (.tmp 9), none⟩,
  ⟨some 29, .move (.tmp 28), none⟩,
  ⟨some 30, .move (.tmp 10), (some (29, false))⟩,
  ⟨some 31, .pick (.tmp 29) (.const (.bool true)) (.tmp 30), none⟩,
  ⟨some 11, .move (.tmp 31), none⟩])
 (.skip)))
 (.seq (.seq (.region [⟨some 32, .move (.tmp 0), none⟩,
  ⟨some 33, .bin .eql (.tmp 32) (.const (.int .i64 8)), none⟩])
 (.cond (.tmp 33) (.region [⟨some 34, .move (.tmp 9), none⟩,
  ⟨some 35, .move (.tmp 10), none⟩,
  ⟨some 36, .eqB true (.tmp 34) (.tmp 35), none⟩,
  ⟨some 11, .move (.tmp 36), none⟩])
 (.skip)))
 (.seq (.region [⟨some 37, .move (.tmp 11), none⟩])
 (.cond (.tmp 37) (.region [⟨some 38, .move (.tmp 7), none⟩,
  ⟨some 39, .move (.tmp 8), none⟩,
  ⟨some 40, .conv .u64 (.tmp 39), none⟩,
  ⟨some 41, .bin .shl (.const (.int .u64 1)) (.tmp 40), none⟩,
  ⟨some 42, .bin .or (.tmp 38) (.tmp 41), none⟩,
  ⟨some 7, .move (.tmp 42), none⟩])
 (.skip))))))))
 (.region [⟨some 14, .move (.tmp 8), none⟩,
  ⟨some 15, .bin .add (.tmp 14) (.const (.int .i64 1)), none⟩,
  ⟨some 8, .move (.tmp 15), none⟩]))
def L68 : LCode :=
 .seq (.region [⟨some 6, .move (.const (.int .i64 0)), none⟩])
 (.seq (.region [⟨some 7, .move (.const (.int .u64 0)), none⟩])
 (.seq (.seq (.region [⟨some 8, .move (.const (.int .i64 0)), none⟩])
 (.block 0 (.loop L68_1)))
 (.seq (.region [⟨some 43, .move (.tmp 7), none⟩,
  ⟨some 44, .conv .i64 (.tmp 43), none⟩,
  ⟨some 6, .move (.tmp 44), none⟩])
 (.ret))))
theorem light68 : Light Try.prog 68 3 45 L68 [.tmp 6] :=
  ⟨Try.f68, _, Try.func68, rfl, rfl, by kernel_rfl, by kernel_rfl, by decide⟩

/-! ### function 69: outrider/outriderref01.moved -/
def L69_1 : LCode :=
 .seq (.seq (.region [⟨some 12, .move (.tmp 7), none⟩,
  ⟨some 13, .bin .gtr (.tmp 12) (.const (.int .u64 0)), none⟩])
 (.cond (.tmp 13) (.skip)
 (.exit 0)))
 (.seq (.block 1 (.seq (.seq (.region [⟨some 16, .move (.tmp 0), none⟩,
  ⟨some 17, .bin .eql (.tmp 16) (.const (.int .i64 9)), none⟩])
 (.cond (.tmp 17) (.seq (.region [⟨some 18, .move (.tmp 1), none⟩,
  ⟨some 19, .move (.tmp 1), none⟩,
  ⟨some 20, .call 62 [.tmp 18, .tmp 19], none⟩,
  ⟨some 1, .move (.tmp 20), none⟩])
 (.exit 1))
 (.skip)))
 (.seq (.region [⟨some 21, .move (.tmp 1), none⟩,
  ⟨some 22, .conv .u64 (.tmp 21), none⟩,
  ⟨some 23, .bin .shr (.tmp 22) (.const (.int .u64 1)), none⟩,
  ⟨some 8, .move (.tmp 23), none⟩])
 (.seq (.seq (.region [⟨some 24, .move (.tmp 1), none⟩,
  ⟨some 25, .bin .lss (.tmp 24) (.const (.int .i64 0)), none⟩])
 (.cond (.tmp 25) (.region [⟨some 26, .move (.tmp 8), none⟩,
  ⟨some 27, .bin .or (.tmp 26) (.const (.int .u64 9223372036854775808)), none⟩,
  ⟨some 8, .move (.tmp 27), none⟩])
 (.skip)))
 (.region [⟨some 28, .move (.tmp 8), none⟩,
  ⟨some 29, .conv .i64 (.tmp 28), none⟩,
  ⟨some 1, .move (.tmp 29), none⟩])))))
 (.region [⟨some 14, .move (.tmp 7), none⟩,
  ⟨some 15, .bin .sub (.tmp 14) (.const (.int .u64 1)), none⟩,
  ⟨some 7, .move (.tmp 15), none⟩]))
def L69 : LCode :=
 .seq (.region [⟨some 6, .move (.const (.int .i64 0)), none⟩])
 (.seq (.seq (.region [⟨some 9, .move (.tmp 2), none⟩,
  ⟨some 10, .conv .u64 (.tmp 9), none⟩,
  ⟨some 11, .bin .rem (.tmp 10) (.const (.int .u64 64)), none⟩,
  ⟨some 7, .move (.tmp 11), none⟩])
 (.block 0 (.loop L69_1)))
 (.seq (.region [⟨some 30, .move (.tmp 1), none⟩,
  ⟨some 6, .move (.tmp 30), none⟩])
 (.ret)))
theorem light69 : Light Try.prog 69 3 31 L69 [.tmp 6] :=
  ⟨Try.f69, _, Try.func69, rfl, rfl, by kernel_rfl, by kernel_rfl, by decide⟩

/-! ### function 70: outrider/outriderref01.truth -/
def L70 : LCode :=
 .seq (.region [⟨some 2, .move (.const (.int .i64 0)), none⟩])
 (.seq (.seq (.region [⟨some 3, .move (.tmp 0), none⟩])
 (.cond (.tmp 3) (.seq (.region [⟨some 2, .move (.const (.int .i64 1)), none⟩])
 (.ret))
 (.skip)))
 (.seq (.region [⟨some 2, .move (.const (.int .i64 0)), none⟩])
 (.ret)))
theorem light70 : Light Try.prog 70 1 4 L70 [.tmp 2] :=
  ⟨Try.f70, _, Try.func70, rfl, rfl, by kernel_rfl, by kernel_rfl, by decide⟩

/-! ### function 71: outrider/outriderref01.below -/
def L71_1 : LCode :=
 .seq (.seq (.region [⟨some 13, .move (.tmp 5), none⟩,
  ⟨some 14, .bin .geq (.tmp 13) (.const (.int .i64 0)), none⟩])
 (.cond (.tmp 14) (.skip)
 (.exit 0)))
 (.seq (.block 1 (.seq (.region [⟨some 17, .move (.tmp 0), none⟩,
  ⟨some 18, .move (.tmp 5), none⟩,
  ⟨some 19, .call 75 [.tmp 17, .tmp 18], none⟩,
  ⟨some 20, .move (.tmp 1), none⟩,
  ⟨some 21, .move (.tmp 5), none⟩,
  ⟨some 22, .call 75 [.tmp 20, .tmp 21], none⟩,
  ⟨some 23, .eqB true (.tmp 19) (.tmp 22), none⟩])
 (.cond (.tmp 23) (.seq (.region [⟨some 24, .move (.tmp 1), none⟩,
  ⟨some 25, .move (.tmp 5), none⟩,
  ⟨some 26, .call 75 [.tmp 24, .tmp 25], none⟩,
  ⟨some 4, .move (.tmp 26), none⟩])
 (.ret))
 (.skip))))
 (.region [⟨some 15, .move (.tmp 5), none⟩,
  ⟨some 16, .bin .sub (.tmp 15) (.const (.int .i64 1)), none⟩,
  ⟨some 5, .move (.tmp 16), none⟩]))
def L71 : LCode :=
 .seq (.region [⟨some 4, .move (.const (.bool false)), none⟩])
 (.seq (.seq (.region [⟨some 6, .move (.tmp 0), none⟩,
  ⟨some 7, .bin .lss (.tmp 6) (.const (.int .i64 0)), none⟩,
  ⟨some 8, .move (.tmp 1), none⟩,
  ⟨some 9, .bin .lss (.tmp 8) (.const (.int .i64 0)), none⟩,
  ⟨some 10, .eqB true (.tmp 7) (.tmp 9), none⟩])
 (.cond (.tmp 10) (.seq (.region [⟨some 11, .move (.tmp 0), none⟩,
  ⟨some 12, .bin .lss (.tmp 11) (.const (.int .i64 0)), none⟩,
  ⟨some 4, .move (.tmp 12), none⟩])
 (.ret))
 (.skip)))
 (.seq (.seq (.region [⟨some 5, .move (.const (.int .i64 63)), none⟩])
 (.block 0 (.loop L71_1)))
 (.seq (.region [⟨some 4, .move (.const (.bool false)), none⟩])
 (.ret))))
theorem light71 : Light Try.prog 71 2 27 L71 [.tmp 4] :=
  ⟨Try.f71, _, Try.func71, rfl, rfl, by kernel_rfl, by kernel_rfl, by decide⟩

/-! ### function 72: outrider/outriderref01.half -/
def L72 : LCode :=
 .seq (.region [⟨some 2, .move (.const (.int .u64 0)), none⟩,
  ⟨some 3, .move (.const (.int .u64 0)), none⟩])
 (.seq (.region [⟨some 4, .move (.tmp 0), none⟩,
  ⟨some 5, .conv .u64 (.tmp 4), none⟩,
  ⟨some 6, .bin .and (.tmp 5) (.const (.int .u64 4294967295)), none⟩,
  ⟨some 7, .move (.tmp 0), none⟩,
  ⟨some 8, .conv .u64 (.tmp 7), none⟩,
  ⟨some 9, .bin .shr (.tmp 8) (.const (.int .u64 32)), none⟩,
  ⟨some 2, .move (.tmp 6), none⟩,
  ⟨some 3, .move (.tmp 9), none⟩])
 (.ret))
theorem light72 : Light Try.prog 72 1 10 L72 [.tmp 2, .tmp 3] :=
  ⟨Try.f72, _, Try.func72, rfl, rfl, by kernel_rfl, by kernel_rfl, by decide⟩

/-! ### function 73: outrider/outriderref01.whole -/
def L73 : LCode :=
 .seq (.region [⟨some 4, .move (.const (.int .i64 0)), none⟩])
 (.seq (.region [⟨some 5, .move (.tmp 1), none⟩,
  ⟨some 6, .bin .shl (.tmp 5) (.const (.int .u64 32)), none⟩,
  ⟨some 7, .move (.tmp 0), none⟩,
  ⟨some 8, .bin .and (.tmp 7) (.const (.int .u64 4294967295)), none⟩,
  ⟨some 9, .bin .or (.tmp 6) (.tmp 8), none⟩,
  ⟨some 10, .conv .i64 (.tmp 9), none⟩,
  ⟨some 4, .move (.tmp 10), none⟩])
 (.ret))
theorem light73 : Light Try.prog 73 2 11 L73 [.tmp 4] :=
  ⟨Try.f73, _, Try.func73, rfl, rfl, by kernel_rfl, by kernel_rfl, by decide⟩

/-! ### function 74: outrider/outriderref01.com -/
def L74 : LCode :=
 .seq (.region [⟨some 2, .move (.const (.int .i64 0)), none⟩])
 (.seq (.region [⟨some 6, .move (.tmp 0), none⟩,
  ⟨some 7, .call 72 [.tmp 6], none⟩,
  ⟨some 5, .move (.tmp 7), none⟩,
  ⟨some 8, .extract (.tmp 5) 0, none⟩,
  ⟨some 9, .extract (.tmp 5) 1, none⟩,
  ⟨some 3, .move (.tmp 8), none⟩,
  ⟨some 4, .move (.tmp 9), none⟩])
 (.seq (.region [⟨some 10, .move (.tmp 3), none⟩,
  ⟨some 11, .bin .sub (.const (.int .u64 4294967295)) (.tmp 10), none⟩,
  ⟨some 12, .move (.tmp 4), none⟩,
  ⟨some 13, .bin .sub (.const (.int .u64 4294967295)) (.tmp 12), none⟩,
  ⟨some 14, .call 73 [.tmp 11, .tmp 13], none⟩,
  ⟨some 2, .move (.tmp 14), none⟩])
 (.ret)))
theorem light74 : Light Try.prog 74 1 15 L74 [.tmp 2] :=
  ⟨Try.f74, _, Try.func74, rfl, rfl, by kernel_rfl, by kernel_rfl, by decide⟩

/-! ### function 75: outrider/outriderref01.bit -/
def L75 : LCode :=
 .seq (.region [⟨some 4, .move (.const (.bool false)), none⟩])
 (.seq (.region [⟨some 5, .move (.tmp 0), none⟩,
  ⟨some 6, .conv .u64 (.tmp 5), none⟩,
  ⟨some 7, .move (.tmp 1), none⟩,
  ⟨some 8, .conv .u64 (.tmp 7), none⟩,
  ⟨some 9, .bin .shr (.tmp 6) (.tmp 8), none⟩,
  ⟨some 10, .bin .and (.tmp 9) (.const (.int .u64 1)), none⟩,
  ⟨some 11, .bin .eql (.tmp 10) (.const (.int .u64 1)), none⟩,
  ⟨some 4, .move (.tmp 11), none⟩])
 (.ret))
theorem light75 : Light Try.prog 75 2 12 L75 [.tmp 4] :=
  ⟨Try.f75, _, Try.func75, rfl, rfl, by kernel_rfl, by kernel_rfl, by decide⟩

end Go.Proofs.Ytjpdoflmjokplaa
