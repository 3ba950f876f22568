/-
  The light code of functions of this seat: printed by a program of this session (wip/tools/lightgen.py); each is held against the program by the kernel.
-/
import Derived.Test.YtfmcnojojknkfaaOtT
import Derived.KernelRfl
import Derived.Test.YtfmcnojojknkfaaProg
set_option maxRecDepth 100000
namespace Go.Proofs.Ytfmcnojojknkfaa
open Go.Ot

/-! ### function 3: outrider/outriderlaw29.FlowLists -/
def L3_1 : LCode :=
 .seq (.seq (.region [⟨some 8, .move (.tmp 4), none⟩,
  ⟨some 9, .move (.tmp 0), none⟩,
  ⟨some 10, .len (.tmp 9), none⟩,
  ⟨some 11, .bin .lss (.tmp 8) (.tmp 10), none⟩])
 (.cond (.tmp 11) (.skip)
 (.exit 0)))
 (.seq (.block 1 (.seq (.seq (.region [⟨some 14, .move (.tmp 0), none⟩,
  ⟨some 15, .move (.tmp 4), none⟩,
  ⟨some 16, .idx 5 (.tmp 14) (.tmp 15), none⟩,
  ⟨some 17, .off 1 (.tmp 16), none⟩,
  ⟨some 18, .load false 1 (.tmp 17), none⟩,
  ⟨some 19, .len (.tmp 18), none⟩,
  ⟨some 20, .bin .gtr (.tmp 19) (.const (.int .i64 50)), none⟩,
  ⟨some 21, .move (.tmp 20), none⟩,
  ⟨some 22, .move (.tmp 0), (some (21, false))⟩,
  ⟨some 23, .move (.tmp 4), (some (21, false))⟩,
  ⟨some 24, .idx 5 (.tmp 22) (.tmp 23), (some (21, false))⟩,
  ⟨some 25, .off 2 (.tmp 24), (some (21, false))⟩,
  ⟨some 26, .load false 1 (.tmp 25), (some (21, false))⟩,
  ⟨some 27, .len (.tmp 26), (some (21, false))⟩,
  ⟨some 28, .bin .gtr (.tmp 27) (.const (.int .i64 50)), (some (21, false))⟩,
  ⟨some 29, .pick (.tmp 21) (.const (.bool true)) (.tmp 28), none⟩,
  ⟨some 30, .move (.tmp 29), none⟩,
  ⟨some 31, .move (.tmp 0), (some (30, false))⟩,
  ⟨some 32, .move (.tmp 4), (some (30, false))⟩,
  ⟨some 33, .idx 5 (.tmp 31) (.tmp 32), (some (30, false))⟩,
  ⟨some 34, .off 3 (.tmp 33), (some (30, false))⟩,
  ⟨some 35, .load false 1 (.tmp 34), (some (30, false))⟩,
  ⟨some 36, .len (.tmp 35), (some (30, false))⟩,
  ⟨some 37, .bin .gtr (.tmp 36) (.const (.int .i64 50)), (some (30, false))⟩,
  ⟨some 38, .pick (.tmp 30) (.const (.bool true)) (.tmp 37), none⟩])
 (.cond (.tmp 38) (.seq (.region [⟨some 2, .move (.const (.bool true)), none⟩])
 (.ret))
 (.skip)))
 (.draw [⟨⟨some 39, .move (.tmp 3), none⟩, .pure, 0, 1⟩,
  ⟨⟨some 40, .move (.tmp 0), none⟩, .pure, 0, 0⟩,
  ⟨⟨some 41, .move (.tmp 4), none⟩, .pure, 0, 0⟩,
  ⟨⟨some 42, .idx 5 (.tmp 40) (.tmp 41), none⟩, .pure, 0, 0⟩,
  ⟨⟨some 43, .off 0 (.tmp 42), none⟩, .pure, 0, 0⟩,
  ⟨⟨some 44, .load false 1 (.tmp 43), none⟩, .read, 0, 0⟩,
  ⟨⟨some 45, .move (.tmp 0), none⟩, .pure, 0, 0⟩,
  ⟨⟨some 46, .move (.tmp 4), none⟩, .pure, 0, 0⟩,
  ⟨⟨some 47, .idx 5 (.tmp 45) (.tmp 46), none⟩, .pure, 0, 0⟩,
  ⟨⟨some 48, .off 1 (.tmp 47), none⟩, .pure, 0, 0⟩,
  ⟨⟨some 49, .load false 1 (.tmp 48), none⟩, .read, 0, 0⟩,
  ⟨⟨some 50, .move (.tmp 0), none⟩, .pure, 0, 0⟩,
  ⟨⟨some 51, .move (.tmp 4), none⟩, .pure, 0, 0⟩,
  ⟨⟨some 52, .idx 5 (.tmp 50) (.tmp 51), none⟩, .pure, 0, 0⟩,
  ⟨⟨some 53, .off 2 (.tmp 52), none⟩, .pure, 0, 0⟩,
  ⟨⟨some 54, .load false 1 (.tmp 53), none⟩, .read, 0, 0⟩,
  ⟨⟨some 55, .move (.tmp 0), none⟩, .pure, 0, 0⟩,
  ⟨⟨some 56, .move (.tmp 4), none⟩, .pure, 0, 0⟩,
  ⟨⟨some 57, .idx 5 (.tmp 55) (.tmp 56), none⟩, .pure, 0, 0⟩,
  ⟨⟨some 58, .off 3 (.tmp 57), none⟩, .pure, 0, 0⟩,
  ⟨⟨some 59, .load false 1 (.tmp 58), none⟩, .read, 0, 0⟩,
  ⟨⟨some 60, .move (.tmp 0), none⟩, .pure, 0, 0⟩,
  ⟨⟨some 61, .move (.tmp 4), none⟩, .pure, 0, 0⟩,
  ⟨⟨some 62, .idx 5 (.tmp 60) (.tmp 61), none⟩, .pure, 0, 0⟩,
  ⟨⟨some 63, .off 4 (.tmp 62), none⟩, .pure, 0, 0⟩,
  ⟨⟨some 64, .load false 1 (.tmp 63), none⟩, .read, 0, 0⟩,
  ⟨⟨some 65, .build [.int .i64 0, .slice none 0 0, .slice none 0 0, .slice none 0 0, .int .i64 0] [(0, 1, .tmp 44), (1, 1, .tmp 49), (2, 1, .tmp 54), (3, 1, .tmp 59), (4, 1, .tmp 64)], none⟩, .pure, 0, 0⟩,
  ⟨⟨some 66, .buildSlice 27 5 1 [.int .i64 0, .slice none 0 0, .slice none 0 0, .slice none 0 0, .int .i64 0] [(0, 5, .tmp 65)], none⟩, .heavy, 0, 1⟩,
  ⟨⟨some 67, .append 27 5 88 (.tmp 39) (.tmp 66), none⟩, .heavy, 1, 2⟩,
  ⟨⟨some 3, .move (.tmp 67), none⟩, .pure, 2, 2⟩])))
 (.region [⟨some 12, .move (.tmp 4), none⟩,
  ⟨some 13, .bin .add (.tmp 12) (.const (.int .i64 1)), none⟩,
  ⟨some 4, .move (.tmp 13), none⟩]))
def L3 : LCode :=
 .seq (.region [⟨some 2, .move (.const (.bool false)), none⟩])
 (.seq (.seq (.region [⟨some 5, .move (.tmp 0), none⟩,
  ⟨some 6, .len (.tmp 5), none⟩,
  ⟨some 7, .bin .gtr (.tmp 6) (.const (.int .i64 100)), none⟩])
 (.cond (.tmp 7) (.seq (.region [⟨some 2, .move (.const (.bool true)), none⟩])
 (.ret))
 (.skip)))
 (.seq (.region [⟨some 3, .move (.const (.slice none 0 0)), none⟩])
 (.seq (.seq (.region [⟨some 4, .move (.const (.int .i64 0)), none⟩])
 (.block 0 (.loop L3_1)))
 (.seq (.region [⟨some 68, .move (.tmp 0), none⟩,
  ⟨some 69, .call 6 [.tmp 68], none⟩,
  ⟨some 70, .move (.tmp 3), none⟩,
  ⟨some 71, .call 7 [.tmp 70], none⟩,
  ⟨some 72, .call 5 [.tmp 69, .tmp 71], none⟩,
  ⟨some 73, .move (.tmp 72), none⟩,
  ⟨some 74, .move (.tmp 0), (some (73, true))⟩,
  ⟨some 75, .call 8 [.tmp 74], (some (73, true))⟩,
  ⟨some 76, .move (.tmp 3), (some (73, true))⟩,
  ⟨some 77, .call 9 [.tmp 76], (some (73, true))⟩,
  ⟨some 78, .call 5 [.tmp 75, .tmp 77], (some (73, true))⟩,
  ⟨some 79, .pick (.tmp 73) (.tmp 78) (.const (.bool false)), none⟩,
  ⟨some 80, .move (.tmp 79), none⟩,
  ⟨some 81, .move (.tmp 0), (some (80, true))⟩,
  ⟨some 82, .call 10 [.tmp 81], (some (80, true))⟩,
  ⟨some 83, .move (.tmp 3), (some (80, true))⟩,
  ⟨some 84, .call 11 [.tmp 83], (some (80, true))⟩,
  ⟨some 85, .bin .eql (.tmp 82) (.tmp 84), (some (80, true))⟩,
  ⟨some 86, .pick (.tmp 80) (.tmp 85) (.const (.bool false)), none⟩,
  ⟨some 87, .move (.tmp 86), none⟩,
  ⟨some 88, .call 12 [], (some (87, true))⟩,
  ⟨some 89, .pick (.tmp 87) (.tmp 88) (.const (.bool false)), none⟩,
  ⟨some 2, .move (.tmp 89), none⟩])
 (.ret)))))
theorem light3 : Light Try.prog 3 1 90 L3 [.tmp 2] :=
  ⟨Try.f3, _, Try.func3, rfl, rfl, by kernel_rfl, by kernel_rfl, by decide⟩

/-! ### function 4: outrider/outriderlaw29.FlowChains -/
def L4_1 : LCode :=
 .seq (.seq (.region [⟨some 33, .move (.tmp 10), none⟩,
  ⟨some 34, .move (.tmp 7), none⟩,
  ⟨some 35, .len (.tmp 34), none⟩,
  ⟨some 36, .bin .lss (.tmp 33) (.tmp 35), none⟩])
 (.cond (.tmp 36) (.skip)
 (.exit 0)))
 (.seq (.block 1 (.seq (.seq (.region [⟨some 39, .move (.tmp 7), none⟩,
  ⟨some 40, .move (.tmp 10), none⟩,
  ⟨some 41, .idx 1 (.tmp 39) (.tmp 40), none⟩,
  ⟨some 42, .load false 1 (.tmp 41), none⟩,
  ⟨some 43, .bin .lss (.tmp 42) (.const (.int .i64 1)), none⟩])
 (.cond (.tmp 43) (.seq (.region [⟨some 4, .move (.const (.bool false)), none⟩])
 (.ret))
 (.skip)))
 (.region [⟨some 44, .move (.tmp 9), none⟩,
  ⟨some 45, .move (.tmp 7), none⟩,
  ⟨some 46, .move (.tmp 10), none⟩,
  ⟨some 47, .idx 1 (.tmp 45) (.tmp 46), none⟩,
  ⟨some 48, .load false 1 (.tmp 47), none⟩,
  ⟨some 49, .bin .add (.tmp 44) (.tmp 48), none⟩,
  ⟨some 9, .move (.tmp 49), none⟩])))
 (.region [⟨some 37, .move (.tmp 10), none⟩,
  ⟨some 38, .bin .add (.tmp 37) (.const (.int .i64 1)), none⟩,
  ⟨some 10, .move (.tmp 38), none⟩]))
def L4_2 : LCode :=
 .seq (.seq (.region [⟨some 61, .move (.tmp 11), none⟩,
  ⟨some 62, .move (.tmp 8), none⟩,
  ⟨some 63, .len (.tmp 62), none⟩,
  ⟨some 64, .bin .lss (.tmp 61) (.tmp 63), none⟩])
 (.cond (.tmp 64) (.skip)
 (.exit 2)))
 (.seq (.block 3 (.seq (.draw [⟨⟨some 67, .move (.tmp 8), none⟩, .pure, 0, 0⟩,
  ⟨⟨some 68, .move (.tmp 11), none⟩, .pure, 0, 0⟩,
  ⟨⟨some 69, .idx 1 (.tmp 67) (.tmp 68), none⟩, .pure, 0, 0⟩,
  ⟨⟨some 70, .load false 1 (.tmp 69), none⟩, .read, 0, 0⟩,
  ⟨⟨some 71, .bin .lss (.tmp 70) (.const (.int .i64 0)), none⟩, .pure, 0, 0⟩,
  ⟨⟨some 72, .move (.tmp 71), none⟩, .pure, 0, 0⟩,
  ⟨⟨some 73, .move (.tmp 8), (some (72, false))⟩, .pure, 0, 0⟩,
  ⟨⟨some 74, .move (.tmp 11), (some (72, false))⟩, .pure, 0, 0⟩,
  ⟨⟨some 75, .idx 1 (.tmp 73) (.tmp 74), (some (72, false))⟩, .pure, 0, 0⟩,
  ⟨⟨some 76, .load false 1 (.tmp 75), (some (72, false))⟩, .read, 0, 0⟩,
  ⟨⟨some 77, .move (.tmp 5), (some (72, false))⟩, .pure, 0, 0⟩,
  ⟨⟨some 78, .len (.tmp 77), (some (72, false))⟩, .pure, 0, 0⟩,
  ⟨⟨some 79, .bin .geq (.tmp 76) (.tmp 78), (some (72, false))⟩, .pure, 0, 0⟩,
  ⟨⟨some 80, .pick (.tmp 72) (.const (.bool true)) (.tmp 79), none⟩, .pure, 0, 0⟩,
  ⟨⟨some 81, .move (.tmp 80), none⟩, .pure, 0, 0⟩,
  ⟨⟨some 82, .move (.tmp 5), (some (81, false))⟩, .pure, 0, 0⟩,
  ⟨⟨some 83, .move (.tmp 8), (some (81, false))⟩, .pure, 0, 0⟩,
  ⟨⟨some 84, .move (.tmp 11), (some (81, false))⟩, .pure, 0, 0⟩,
  ⟨⟨some 85, .idx 1 (.tmp 83) (.tmp 84), (some (81, false))⟩, .pure, 0, 0⟩,
  ⟨⟨some 86, .load false 1 (.tmp 85), (some (81, false))⟩, .read, 0, 0⟩,
  ⟨⟨some 87, .idx 5 (.tmp 82) (.tmp 86), (some (81, false))⟩, .pure, 0, 0⟩,
  ⟨⟨some 88, .off 4 (.tmp 87), (some (81, false))⟩, .pure, 0, 0⟩,
  ⟨⟨some 89, .load false 1 (.tmp 88), (some (81, false))⟩, .read, 0, 0⟩,
  ⟨⟨some 90, .move (.tmp 11), (some (81, false))⟩, .pure, 0, 0⟩,
  ⟨⟨some 91, .bin .add (.tmp 90) (.const (.int .i64 1)), (some (81, false))⟩, .pure, 0, 0⟩,
  ⟨⟨some 92, .bin .neq (.tmp 89) (.tmp 91), (some (81, false))⟩, .pure, 0, 0⟩,
  ⟨⟨some 93, .pick (.tmp 81) (.const (.bool true)) (.tmp 92), none⟩, .pure, 0, 0⟩,
  ⟨⟨some 94, .move (.tmp 93), none⟩, .pure, 0, 0⟩,
  ⟨⟨some 95, .move (.tmp 11), (some (94, false))⟩, .pure, 0, 0⟩,
  ⟨⟨some 96, .bin .gtr (.tmp 95) (.const (.int .i64 0)), (some (94, false))⟩, .pure, 0, 0⟩,
  ⟨⟨some 97, .move (.tmp 96), (some (94, false))⟩, .pure, 0, 0⟩,
  ⟨⟨some 98, .move (.tmp 5), (some (97, true))⟩, .pure, 0, 0⟩,
  ⟨⟨some 99, .move (.tmp 8), (some (97, true))⟩, .pure, 0, 0⟩,
  ⟨⟨some 100, .move (.tmp 11), (some (97, true))⟩, .pure, 0, 0⟩,
  ⟨⟨some 101, .idx 1 (.tmp 99) (.tmp 100), (some (97, true))⟩, .pure, 0, 0⟩,
  ⟨⟨some 102, .load false 1 (.tmp 101), (some (97, true))⟩, .read, 0, 0⟩,
  ⟨⟨some 103, .idx 5 (.tmp 98) (.tmp 102), (some (97, true))⟩, .pure, 0, 0⟩,
  ⟨⟨some 104, .load true 5 (.tmp 103), (some (97, true))⟩, .read, 0, 0⟩,
  ⟨⟨some 105, .move (.tmp 8), (some (97, true))⟩, .pure, 0, 0⟩,
  ⟨⟨some 106, .move (.tmp 11), (some (97, true))⟩, .pure, 0, 0⟩,
  ⟨⟨some 107, .bin .sub (.tmp 106) (.const (.int .i64 1)), (some (97, true))⟩, .pure, 0, 0⟩,
  ⟨⟨some 108, .idx 1 (.tmp 105) (.tmp 107), (some (97, true))⟩, .pure, 0, 0⟩,
  ⟨⟨some 109, .load false 1 (.tmp 108), (some (97, true))⟩, .read, 0, 0⟩,
  ⟨⟨some 110, .call 15 [.tmp 104, .tmp 109], (some (97, true))⟩, .heavy, 0, 1⟩,
  ⟨⟨some 111, .un .not (.tmp 110), (some (97, true))⟩, .pure, 1, 1⟩,
  ⟨⟨some 112, .pick (.tmp 97) (.tmp 111) (.const (.bool false)), (some (94, false))⟩, .pure, 1, 1⟩,
  ⟨⟨some 113, .pick (.tmp 94) (.const (.bool true)) (.tmp 112), none⟩, .pure, 1, 1⟩])
 (.cond (.tmp 113) (.seq (.region [⟨some 4, .move (.const (.bool false)), none⟩])
 (.ret))
 (.skip))))
 (.region [⟨some 65, .move (.tmp 11), none⟩,
  ⟨some 66, .bin .add (.tmp 65) (.const (.int .i64 1)), none⟩,
  ⟨some 11, .move (.tmp 66), none⟩]))
def L4 : LCode :=
 .seq (.region [⟨some 2, .box 42 11 (.tmp 0), none⟩,
  ⟨some 3, .box 45 11 (.tmp 1), none⟩,
  ⟨some 4, .move (.const (.bool false)), none⟩])
 (.seq (.seq (.region [⟨some 14, .load true 11 (.tmp 2), none⟩,
  ⟨some 15, .call 13 [.tmp 14], none⟩])
 (.cond (.tmp 15) (.seq (.region [⟨some 4, .move (.const (.bool true)), none⟩])
 (.ret))
 (.skip)))
 (.seq (.region [⟨some 17, .load true 11 (.tmp 2), none⟩,
  ⟨some 18, .call 14 [.tmp 17], none⟩,
  ⟨some 16, .move (.tmp 18), none⟩,
  ⟨some 19, .extract (.tmp 16) 0, none⟩,
  ⟨some 20, .extract (.tmp 16) 1, none⟩,
  ⟨some 5, .move (.tmp 19), none⟩,
  ⟨some 6, .move (.tmp 20), none⟩])
 (.seq (.seq (.region [⟨some 21, .move (.tmp 6), none⟩,
  ⟨some 22, .bin .neq (.tmp 21) (.const (.int .i64 0)), none⟩])
 (.cond (.tmp 22) (.seq (.region [⟨some 23, .move (.tmp 5), none⟩,
  ⟨some 24, .len (.tmp 23), none⟩,
  ⟨some 25, .bin .eql (.tmp 24) (.const (.int .i64 0)), none⟩,
  ⟨some 26, .move (.tmp 25), none⟩,
  ⟨some 27, .call 12 [], (some (26, true))⟩,
  ⟨some 28, .pick (.tmp 26) (.tmp 27) (.const (.bool false)), none⟩,
  ⟨some 4, .move (.tmp 28), none⟩])
 (.ret))
 (.skip)))
 (.seq (.region [⟨some 29, .move (.tmp 5), none⟩,
  ⟨some 30, .call 6 [.tmp 29], none⟩,
  ⟨some 31, .move (.tmp 5), none⟩,
  ⟨some 32, .call 8 [.tmp 31], none⟩,
  ⟨some 7, .move (.tmp 30), none⟩,
  ⟨some 8, .move (.tmp 32), none⟩])
 (.seq (.region [⟨some 9, .move (.const (.int .i64 0)), none⟩])
 (.seq (.seq (.region [⟨some 10, .move (.const (.int .i64 0)), none⟩])
 (.block 0 (.loop L4_1)))
 (.seq (.seq (.region [⟨some 50, .move (.tmp 9), none⟩,
  ⟨some 51, .move (.tmp 5), none⟩,
  ⟨some 52, .len (.tmp 51), none⟩,
  ⟨some 53, .bin .neq (.tmp 50) (.tmp 52), none⟩,
  ⟨some 54, .move (.tmp 53), none⟩,
  ⟨some 55, .move (.tmp 8), (some (54, false))⟩,
  ⟨some 56, .len (.tmp 55), (some (54, false))⟩,
  ⟨some 57, .move (.tmp 7), (some (54, false))⟩,
  ⟨some 58, .len (.tmp 57), (some (54, false))⟩,
  ⟨some 59, .bin .neq (.tmp 56) (.tmp 58), (some (54, false))⟩,
  ⟨some 60, .pick (.tmp 54) (.const (.bool true)) (.tmp 59), none⟩])
 (.cond (.tmp 60) (.seq (.region [⟨some 4, .move (.const (.bool false)), none⟩])
 (.ret))
 (.skip)))
 (.seq (.seq (.region [⟨some 11, .move (.const (.int .i64 0)), none⟩])
 (.block 2 (.loop L4_2)))
 (.seq (.region [⟨some 115, .load true 11 (.tmp 2), none⟩,
  ⟨some 116, .load true 11 (.tmp 3), none⟩,
  ⟨some 117, .call 16 [.tmp 115, .tmp 116], none⟩,
  ⟨some 114, .move (.tmp 117), none⟩,
  ⟨some 118, .extract (.tmp 114) 0, none⟩,
  ⟨some 119, .extract (.tmp 114) 1, none⟩,
  ⟨some 12, .move (.tmp 118), none⟩,
  ⟨some 13, .move (.tmp 119), none⟩])
 (.seq (.region [⟨some 120, .move (.tmp 13), none⟩,
  ⟨some 121, .bin .neq (.tmp 120) (.const (.int .i64 0)), none⟩,
  ⟨some 122, .move (.tmp 121), none⟩,
  ⟨some 123, .move (.tmp 12), (some (122, false))⟩,
  ⟨some 124, .un .not (.tmp 123), (some (122, false))⟩,
  ⟨some 125, .pick (.tmp 122) (.const (.bool true)) (.tmp 124), none⟩,
  ⟨some 126, .move (.tmp 125), none⟩,
  ⟨some 127, .move (.tmp 7), (some (126, false))⟩,
  ⟨some 128, .len (.tmp 127), (some (126, false))⟩,
  ⟨some 129, .bin .leq (.tmp 128) (.const (.int .i64 1)), (some (126, false))⟩,
  ⟨some 130, .pick (.tmp 126) (.const (.bool true)) (.tmp 129), none⟩,
  ⟨some 131, .move (.tmp 130), none⟩,
  ⟨some 132, .call 12 [], (some (131, true))⟩,
  ⟨some 133, .pick (.tmp 131) (.tmp 132) (.const (.bool false)), none⟩,
  ⟨some 4, .move (.tmp 133), none⟩])
 (.ret)))))))))))
theorem light4 : Light Try.prog 4 2 134 L4 [.tmp 4] :=
  ⟨Try.f4, _, Try.func4, rfl, rfl, by kernel_rfl, by kernel_rfl, by decide⟩

/-! ### function 5: outrider/outriderlaw29.row -/
def L5_1 : LCode :=
 .seq (.seq (.region [⟨some 11, .move (.tmp 5), none⟩,
  ⟨some 12, .move (.tmp 0), none⟩,
  ⟨some 13, .len (.tmp 12), none⟩,
  ⟨some 14, .bin .lss (.tmp 11) (.tmp 13), none⟩])
 (.cond (.tmp 14) (.skip)
 (.exit 0)))
 (.seq (.block 1 (.seq (.draw [⟨⟨some 17, .move (.tmp 0), none⟩, .pure, 0, 0⟩,
  ⟨⟨some 18, .move (.tmp 5), none⟩, .pure, 0, 0⟩,
  ⟨⟨some 19, .idx 1 (.tmp 17) (.tmp 18), none⟩, .pure, 0, 0⟩,
  ⟨⟨some 20, .load false 1 (.tmp 19), none⟩, .read, 0, 0⟩,
  ⟨⟨some 21, .move (.tmp 1), none⟩, .pure, 0, 0⟩,
  ⟨⟨some 22, .move (.tmp 5), none⟩, .pure, 0, 0⟩,
  ⟨⟨some 23, .idx 1 (.tmp 21) (.tmp 22), none⟩, .pure, 0, 0⟩,
  ⟨⟨some 24, .load false 1 (.tmp 23), none⟩, .read, 0, 0⟩,
  ⟨⟨some 25, .bin .neq (.tmp 20) (.tmp 24), none⟩, .pure, 0, 0⟩])
 (.cond (.tmp 25) (.seq (.region [⟨some 4, .move (.const (.bool false)), none⟩])
 (.ret))
 (.skip))))
 (.region [⟨some 15, .move (.tmp 5), none⟩,
  ⟨some 16, .bin .add (.tmp 15) (.const (.int .i64 1)), none⟩,
  ⟨some 5, .move (.tmp 16), none⟩]))
def L5 : LCode :=
 .seq (.region [⟨some 4, .move (.const (.bool false)), none⟩])
 (.seq (.seq (.region [⟨some 6, .move (.tmp 0), none⟩,
  ⟨some 7, .len (.tmp 6), none⟩,
  ⟨some 8, .move (.tmp 1), none⟩,
  ⟨some 9, .len (.tmp 8), none⟩,
  ⟨some 10, .bin .neq (.tmp 7) (.tmp 9), none⟩])
 (.cond (.tmp 10) (.seq (.region [⟨some 4, .move (.const (.bool false)), none⟩])
 (.ret))
 (.skip)))
 (.seq (.seq (.region [⟨some 5, .move (.const (.int .i64 0)), none⟩])
 (.block 0 (.loop L5_1)))
 (.seq (.region [⟨some 4, .move (.const (.bool true)), none⟩])
 (.ret))))
theorem light5 : Light Try.prog 5 2 26 L5 [.tmp 4] :=
  ⟨Try.f5, _, Try.func5, rfl, rfl, by kernel_rfl, by kernel_rfl, by decide⟩

/-! ### function 6: outrider/flow.Wide -/
def L6_1 : LCode :=
 .seq (.seq (.region [⟨some 20, .move (.tmp 3), none⟩,
  ⟨some 21, .len (.tmp 20), none⟩,
  ⟨some 22, .off 4 (.tmp 5), none⟩,
  ⟨some 23, .load false 1 (.tmp 22), none⟩,
  ⟨some 24, .bin .lss (.tmp 21) (.tmp 23), none⟩])
 (.cond (.tmp 24) (.skip)
 (.exit 2)))
 (.block 3 (.region [⟨some 25, .move (.tmp 3), none⟩,
  ⟨some 26, .buildSlice 3 1 1 [.int .i64 0] [(0, 1, .const (.int .i64 0))], none⟩,
  ⟨some 27, .append 3 1 8 (.tmp 25) (.tmp 26), none⟩,
  ⟨some 3, .move (.tmp 27), none⟩]))
def L6_2 : LCode :=
 .seq (.region [⟨some 9, .bin .lss (.tmp 8) (.tmp 7), none⟩])
 (.seq (.cond (.tmp 9) (.skip)
 (.exit 0))
 (.seq (.block 1 (.seq (.region [⟨some 10, .idx 5 (.tmp 6) (.tmp 8), none⟩,
  ⟨some 11, .load true 5 (.tmp 10), none⟩,
  ⟨some 5, .new 26 5 [.int .i64 0, .slice none 0 0, .slice none 0 0, .slice none 0 0, .int .i64 0], none⟩,
  ⟨none, .store 5 (.tmp 5) (.tmp 11), none⟩])
 (.seq (.seq (.region [⟨some 12, .off 4 (.tmp 5), none⟩,
  ⟨some 13, .load false 1 (.tmp 12), none⟩,
  ⟨some 14, .bin .lss (.tmp 13) (.const (.int .i64 1)), none⟩,
  ⟨some 15, .move (.tmp 14), none⟩,
  ⟨some 16, .off 4 (.tmp 5), (some (15, false))⟩,
  ⟨some 17, .load false 1 (.tmp 16), (some (15, false))⟩,
  ⟨some 18, .bin .gtr (.tmp 17) (.const (.int .i64 200)), (some (15, false))⟩,
  ⟨some 19, .pick (.tmp 15) (.const (.bool true)) (.tmp 18), none⟩])
 (.cond (.tmp 19) (.exit 1)
 (.skip)))
 (.seq (.block 2 (.loop L6_1))
 (.region [⟨some 28, .move (.tmp 3), none⟩,
  ⟨some 29, .off 4 (.tmp 5), none⟩,
  ⟨some 30, .load false 1 (.tmp 29), none⟩,
  ⟨some 31, .bin .sub (.tmp 30) (.const (.int .i64 1)), none⟩,
  ⟨some 32, .idx 1 (.tmp 28) (.tmp 31), none⟩,
  ⟨some 33, .load false 1 (.tmp 32), none⟩,
  ⟨some 34, .bin .add (.tmp 33) (.const (.int .i64 1)), none⟩,
  ⟨some 35, .idx 1 (.tmp 28) (.tmp 31), none⟩,
  ⟨none, .store 1 (.tmp 35) (.tmp 34), none⟩])))))
 (.region [⟨some 36, .bin .add (.tmp 8) (.const (.int .i64 1)), none⟩,
  ⟨some 8, .move (.tmp 36), none⟩])))
def L6 : LCode :=
 .seq (.region [⟨some 2, .move (.const (.slice none 0 0)), none⟩])
 (.seq (.region [⟨some 3, .move (.const (.slice none 0 0)), none⟩])
 (.seq (.seq (.region [⟨some 6, .move (.tmp 0), none⟩,
  ⟨some 7, .len (.tmp 6), none⟩,
  ⟨some 8, .move (.const (.int .i64 0)), none⟩])
 (.block 0 (.loop L6_2)))
 (.seq (.region [⟨some 37, .move (.tmp 3), none⟩,
  ⟨some 2, .move (.tmp 37), none⟩])
 (.ret))))
theorem light6 : Light Try.prog 6 1 38 L6 [.tmp 2] :=
  ⟨Try.f6, _, Try.func6, rfl, rfl, by kernel_rfl, by kernel_rfl, by decide⟩

/-! ### function 7: outrider/outriderref29.Wide -/
def L7_1 : LCode :=
 .seq (.seq (.region [⟨some 7, .move (.tmp 4), none⟩,
  ⟨some 8, .move (.tmp 0), none⟩,
  ⟨some 9, .len (.tmp 8), none⟩,
  ⟨some 10, .bin .lss (.tmp 7) (.tmp 9), none⟩])
 (.cond (.tmp 10) (.skip)
 (.exit 0)))
 (.seq (.block 1 (.seq (.region [⟨some 13, .move (.tmp 0), none⟩,
  ⟨some 14, .move (.tmp 4), none⟩,
  ⟨some 15, .idx 5 (.tmp 13) (.tmp 14), none⟩,
  ⟨some 16, .off 4 (.tmp 15), none⟩,
  ⟨some 17, .load false 1 (.tmp 16), none⟩,
  ⟨some 18, .move (.tmp 3), none⟩,
  ⟨some 19, .bin .gtr (.tmp 17) (.tmp 18), none⟩,
  ⟨some 20, .move (.tmp 19), none⟩,
  ⟨some 21, .move (.tmp 0), (some (20, true))⟩,
  ⟨some 22, .move (.tmp 4), (some (20, true))⟩,
  ⟨some 23, .idx 5 (.tmp 21) (.tmp 22), (some (20, true))⟩,
  ⟨some 24, .off 4 (.tmp 23), (some (20, true))⟩,
  ⟨some 25, .load false 1 (.tmp 24), (some (20, true))⟩,
  ⟨some 26, .bin .leq (.tmp 25) (.const (.int .i64 200)), (some (20, true))⟩,
  ⟨some 27, .pick (.tmp 20) (.tmp 26) (.const (.bool false)), none⟩])
 (.cond (.tmp 27) (.region [⟨some 28, .move (.tmp 0), none⟩,
  ⟨some 29, .move (.tmp 4), none⟩,
  ⟨some 30, .idx 5 (.tmp 28) (.tmp 29), none⟩,
  ⟨some 31, .off 4 (.tmp 30), none⟩,
  ⟨some 32, .load false 1 (.tmp 31), none⟩,
  ⟨some 3, .move (.tmp 32), none⟩])
 (.skip))))
 (.region [⟨some 11, .move (.tmp 4), none⟩,
  ⟨some 12, .bin .add (.tmp 11) (.const (.int .i64 1)), none⟩,
  ⟨some 4, .move (.tmp 12), none⟩]))
def L7_2 : LCode :=
 .seq (.seq (.region [⟨some 35, .move (.tmp 6), none⟩,
  ⟨some 36, .move (.tmp 0), none⟩,
  ⟨some 37, .len (.tmp 36), none⟩,
  ⟨some 38, .bin .lss (.tmp 35) (.tmp 37), none⟩])
 (.cond (.tmp 38) (.skip)
 (.exit 2)))
 (.seq (.block 3 (.seq (.region [⟨some 41, .move (.tmp 0), none⟩,
  ⟨some 42, .move (.tmp 6), none⟩,
  ⟨some 43, .idx 5 (.tmp 41) (.tmp 42), none⟩,
  ⟨some 44, .off 4 (.tmp 43), none⟩,
  ⟨some 45, .load false 1 (.tmp 44), none⟩,
  ⟨some 46, .bin .geq (.tmp 45) (.const (.int .i64 1)), none⟩,
  ⟨some 47, .move (.tmp 46), none⟩,
  ⟨some 48, .move (.tmp 0), (some (47, true))⟩,
  ⟨some 49, .move (.tmp 6), (some (47, true))⟩,
  ⟨some 50, .idx 5 (.tmp 48) (.tmp 49), (some (47, true))⟩,
  ⟨some 51, .off 4 (.tmp 50), (some (47, true))⟩,
  ⟨some 52, .load false 1 (.tmp 51), (some (47, true))⟩,
  ⟨some 53, .move (.tmp 3), (some (47, true))⟩,
  ⟨some 54, .bin .leq (.tmp 52) (.tmp 53), (some (47, true))⟩,
  ⟨some 55, .pick (.tmp 47) (.tmp 54) (.const (.bool false)), none⟩])
 (.cond (.tmp 55) (.region [⟨some 56, .move (.tmp 5), none⟩,
  ⟨some 57, .move (.tmp 0), none⟩,
  ⟨some 58, .move (.tmp 6), none⟩,
  ⟨some 59, .idx 5 (.tmp 57) (.tmp 58), none⟩,
  ⟨some 60, .off 4 (.tmp 59), none⟩,
  ⟨some 61, .load false 1 (.tmp 60), none⟩,
  ⟨some 62, .bin .sub (.tmp 61) (.const (.int .i64 1)), none⟩,
  ⟨some 63, .idx 1 (.tmp 56) (.tmp 62), none⟩,
  ⟨some 64, .load false 1 (.tmp 63), none⟩,
  ⟨some 65, .bin .add (.tmp 64) (.const (.int .i64 1)), none⟩,
  ⟨some 66, .idx 1 (.tmp 56) (.tmp 62), none⟩,
  ⟨none, .store 1 (.tmp 66) (.tmp 65), none⟩])
 (.skip))))
 (.region [⟨some 39, .move (.tmp 6), none⟩,
  ⟨some 40, .bin .add (.tmp 39) (.const (.int .i64 1)), none⟩,
  ⟨some 6, .move (.tmp 40), none⟩]))
def L7 : LCode :=
 .seq (.region [⟨some 2, .move (.const (.slice none 0 0)), none⟩])
 (.seq (.region [⟨some 3, .move (.const (.int .i64 0)), none⟩])
 (.seq (.seq (.region [⟨some 4, .move (.const (.int .i64 0)), none⟩])
 (.block 0 (.loop L7_1)))
 (.seq (.region [⟨some 33, .move (.tmp 3), none⟩,
  ⟨some 34, .make 3 1 8 [.int .i64 0] (.tmp 33) (.tmp 33), none⟩,
  ⟨some 5, .move (.tmp 34), none⟩])
 (.seq (.seq (.region [⟨some 6, .move (.const (.int .i64 0)), none⟩])
 (.block 2 (.loop L7_2)))
 (.seq (.region [⟨some 67, .move (.tmp 5), none⟩,
  ⟨some 2, .move (.tmp 67), none⟩])
 (.ret))))))
theorem light7 : Light Try.prog 7 1 68 L7 [.tmp 2] :=
  ⟨Try.f7, _, Try.func7, rfl, rfl, by kernel_rfl, by kernel_rfl, by decide⟩

/-! ### function 8: outrider/flow.Chain -/
def L8_1 : LCode :=
 .seq (.region [⟨some 11, .bin .lss (.tmp 10) (.tmp 9), none⟩])
 (.seq (.cond (.tmp 11) (.skip)
 (.exit 0))
 (.seq (.block 1 (.seq (.region [⟨some 12, .move (.tmp 10), none⟩,
  ⟨some 13, .idx 5 (.tmp 8) (.tmp 10), none⟩,
  ⟨some 14, .load true 5 (.tmp 13), none⟩,
  ⟨some 5, .new 26 5 [.int .i64 0, .slice none 0 0, .slice none 0 0, .slice none 0 0, .int .i64 0], none⟩,
  ⟨some 4, .move (.tmp 12), none⟩,
  ⟨none, .store 5 (.tmp 5) (.tmp 14), none⟩])
 (.seq (.draw [⟨⟨some 15, .move (.tmp 3), none⟩, .pure, 0, 0⟩,
  ⟨⟨some 16, .bin .lss (.tmp 15) (.const (.int .i64 0)), none⟩, .pure, 0, 0⟩,
  ⟨⟨some 17, .move (.tmp 16), none⟩, .pure, 0, 0⟩,
  ⟨⟨some 18, .off 4 (.tmp 5), (some (17, false))⟩, .pure, 0, 0⟩,
  ⟨⟨some 19, .load false 1 (.tmp 18), (some (17, false))⟩, .read, 0, 0⟩,
  ⟨⟨some 20, .move (.tmp 0), (some (17, false))⟩, .pure, 0, 0⟩,
  ⟨⟨some 21, .move (.tmp 3), (some (17, false))⟩, .pure, 0, 0⟩,
  ⟨⟨some 22, .idx 5 (.tmp 20) (.tmp 21), (some (17, false))⟩, .pure, 0, 0⟩,
  ⟨⟨some 23, .off 4 (.tmp 22), (some (17, false))⟩, .pure, 0, 0⟩,
  ⟨⟨some 24, .load false 1 (.tmp 23), (some (17, false))⟩, .read, 0, 0⟩,
  ⟨⟨some 25, .bin .gtr (.tmp 19) (.tmp 24), (some (17, false))⟩, .pure, 0, 0⟩,
  ⟨⟨some 26, .pick (.tmp 17) (.const (.bool true)) (.tmp 25), none⟩, .pure, 0, 0⟩])
 (.cond (.tmp 26) (.region [⟨some 27, .move (.tmp 4), none⟩,
  ⟨some 3, .move (.tmp 27), none⟩])
 (.skip)))))
 (.region [⟨some 28, .bin .add (.tmp 10) (.const (.int .i64 1)), none⟩,
  ⟨some 10, .move (.tmp 28), none⟩])))
def L8_2 : LCode :=
 .seq (.seq (.region [⟨some 30, .move (.tmp 7), none⟩,
  ⟨some 31, .bin .geq (.tmp 30) (.const (.int .i64 0)), none⟩])
 (.cond (.tmp 31) (.skip)
 (.exit 2)))
 (.seq (.block 3 (.seq (.region [⟨some 35, .move (.tmp 0), none⟩,
  ⟨some 36, .move (.tmp 7), none⟩,
  ⟨some 37, .idx 5 (.tmp 35) (.tmp 36), none⟩,
  ⟨some 38, .off 0 (.tmp 37), none⟩,
  ⟨some 39, .load false 1 (.tmp 38), none⟩,
  ⟨some 40, .buildSlice 3 1 1 [.int .i64 0] [(0, 1, .tmp 39)], none⟩,
  ⟨some 41, .move (.tmp 6), none⟩,
  ⟨some 42, .append 3 1 8 (.tmp 40) (.tmp 41), none⟩,
  ⟨some 6, .move (.tmp 42), none⟩])
 (.seq (.region [⟨some 43, .move (.tmp 6), none⟩,
  ⟨some 44, .len (.tmp 43), none⟩,
  ⟨some 45, .move (.tmp 0), none⟩,
  ⟨some 46, .len (.tmp 45), none⟩,
  ⟨some 47, .bin .gtr (.tmp 44) (.tmp 46), none⟩])
 (.cond (.tmp 47) (.seq (.region [⟨some 2, .move (.const (.slice none 0 0)), none⟩])
 (.ret))
 (.skip)))))
 (.region [⟨some 32, .move (.tmp 0), none⟩,
  ⟨some 33, .move (.tmp 7), none⟩,
  ⟨some 34, .call 17 [.tmp 32, .tmp 33], none⟩,
  ⟨some 7, .move (.tmp 34), none⟩]))
def L8 : LCode :=
 .seq (.region [⟨some 2, .move (.const (.slice none 0 0)), none⟩])
 (.seq (.region [⟨some 3, .move (.const (.int .i64 (-1))), none⟩])
 (.seq (.seq (.region [⟨some 8, .move (.tmp 0), none⟩,
  ⟨some 9, .len (.tmp 8), none⟩,
  ⟨some 10, .move (.const (.int .i64 0)), none⟩])
 (.block 0 (.loop L8_1)))
 (.seq (.region [⟨some 6, .move (.const (.slice none 0 0)), none⟩])
 (.seq (.seq (.region [⟨some 29, .move (.tmp 3), none⟩,
  ⟨some 7, .move (.tmp 29), none⟩])
 (.block 2 (.loop L8_2)))
 (.seq (.region [⟨some 48, .move (.tmp 6), none⟩,
  ⟨some 2, .move (.tmp 48), none⟩])
 (.ret))))))
theorem light8 : Light Try.prog 8 1 49 L8 [.tmp 2] :=
  ⟨Try.f8, _, Try.func8, rfl, rfl, by kernel_rfl, by kernel_rfl, by decide⟩

/-! ### function 9: outrider/outriderref29.Chain -/
def L9_1 : LCode :=
 .seq (.seq (.region [⟨some 10, .move (.tmp 4), none⟩,
  ⟨some 11, .move (.tmp 0), none⟩,
  ⟨some 12, .len (.tmp 11), none⟩,
  ⟨some 13, .bin .lss (.tmp 10) (.tmp 12), none⟩])
 (.cond (.tmp 13) (.skip)
 (.exit 0)))
 (.seq (.block 1 (.seq (.draw [⟨⟨some 16, .move (.tmp 3), none⟩, .pure, 0, 0⟩,
  ⟨⟨some 17, .bin .lss (.tmp 16) (.const (.int .i64 0)), none⟩, .pure, 0, 0⟩,
  ⟨⟨some 18, .move (.tmp 17), none⟩, .pure, 0, 0⟩,
  ⟨⟨some 19, .move (.tmp 0), (some (18, false))⟩, .pure, 0, 0⟩,
  ⟨⟨some 20, .move (.tmp 4), (some (18, false))⟩, .pure, 0, 0⟩,
  ⟨⟨some 21, .idx 5 (.tmp 19) (.tmp 20), (some (18, false))⟩, .pure, 0, 0⟩,
  ⟨⟨some 22, .off 4 (.tmp 21), (some (18, false))⟩, .pure, 0, 0⟩,
  ⟨⟨some 23, .load false 1 (.tmp 22), (some (18, false))⟩, .read, 0, 0⟩,
  ⟨⟨some 24, .move (.tmp 0), (some (18, false))⟩, .pure, 0, 0⟩,
  ⟨⟨some 25, .move (.tmp 3), (some (18, false))⟩, .pure, 0, 0⟩,
  ⟨⟨some 26, .idx 5 (.tmp 24) (.tmp 25), (some (18, false))⟩, .pure, 0, 0⟩,
  ⟨⟨some 27, .off 4 (.tmp 26), (some (18, false))⟩, .pure, 0, 0⟩,
  ⟨⟨some 28, .load false 1 (.tmp 27), (some (18, false))⟩, .read, 0, 0⟩,
  ⟨⟨some 29, .bin .gtr (.tmp 23) (.tmp 28), (some (18, false))⟩, .pure, 0, 0⟩,
  ⟨⟨some 30, .pick (.tmp 18) (.const (.bool true)) (.tmp 29), none⟩, .pure, 0, 0⟩])
 (.cond (.tmp 30) (.region [⟨some 31, .move (.tmp 4), none⟩,
  ⟨some 3, .move (.tmp 31), none⟩])
 (.skip))))
 (.region [⟨some 14, .move (.tmp 4), none⟩,
  ⟨some 15, .bin .add (.tmp 14) (.const (.int .i64 1)), none⟩,
  ⟨some 4, .move (.tmp 15), none⟩]))
def L9_2 : LCode :=
 .seq (.seq (.region [⟨some 47, .move (.tmp 7), none⟩,
  ⟨some 48, .move (.tmp 0), none⟩,
  ⟨some 49, .move (.tmp 3), none⟩,
  ⟨some 50, .idx 5 (.tmp 48) (.tmp 49), none⟩,
  ⟨some 51, .off 3 (.tmp 50), none⟩,
  ⟨some 52, .load false 1 (.tmp 51), none⟩,
  ⟨some 53, .len (.tmp 52), none⟩,
  ⟨some 54, .bin .lss (.tmp 47) (.tmp 53), none⟩,
  ⟨some 55, .move (.tmp 54), none⟩,
  ⟨some 56, .move (.tmp 6), (some (55, true))⟩,
  ⟨some 57, .bin .lss (.tmp 56) (.const (.int .i64 0)), (some (55, true))⟩,
  ⟨some 58, .pick (.tmp 55) (.tmp 57) (.const (.bool false)), none⟩])
 (.cond (.tmp 58) (.skip)
 (.exit 4)))
 (.seq (.block 5 (.draw [⟨⟨some 61, .move (.tmp 0), none⟩, .pure, 0, 0⟩,
  ⟨⟨some 62, .move (.tmp 0), none⟩, .pure, 0, 0⟩,
  ⟨⟨some 63, .move (.tmp 3), none⟩, .pure, 0, 0⟩,
  ⟨⟨some 64, .idx 5 (.tmp 62) (.tmp 63), none⟩, .pure, 0, 0⟩,
  ⟨⟨some 65, .off 3 (.tmp 64), none⟩, .pure, 0, 0⟩,
  ⟨⟨some 66, .load false 1 (.tmp 65), none⟩, .read, 0, 0⟩,
  ⟨⟨some 67, .move (.tmp 7), none⟩, .pure, 0, 0⟩,
  ⟨⟨some 68, .idx 1 (.tmp 66) (.tmp 67), none⟩, .pure, 0, 0⟩,
  ⟨⟨some 69, .load false 1 (.tmp 68), none⟩, .read, 0, 0⟩,
  ⟨⟨some 70, .move (.tmp 0), none⟩, .pure, 0, 0⟩,
  ⟨⟨some 71, .move (.tmp 3), none⟩, .pure, 0, 0⟩,
  ⟨⟨some 72, .idx 5 (.tmp 70) (.tmp 71), none⟩, .pure, 0, 0⟩,
  ⟨⟨some 73, .off 4 (.tmp 72), none⟩, .pure, 0, 0⟩,
  ⟨⟨some 74, .load false 1 (.tmp 73), none⟩, .read, 0, 0⟩,
  ⟨⟨some 75, .bin .sub (.tmp 74) (.const (.int .i64 1)), none⟩, .pure, 0, 0⟩,
  ⟨⟨some 76, .call 18 [.tmp 61, .tmp 69, .tmp 75], none⟩, .heavy, 0, 1⟩,
  ⟨⟨some 6, .move (.tmp 76), none⟩, .pure, 1, 1⟩]))
 (.region [⟨some 59, .move (.tmp 7), none⟩,
  ⟨some 60, .bin .add (.tmp 59) (.const (.int .i64 1)), none⟩,
  ⟨some 7, .move (.tmp 60), none⟩]))
def L9_3 : LCode :=
 .seq (.seq (.region [⟨some 32, .move (.tmp 3), none⟩,
  ⟨some 33, .bin .geq (.tmp 32) (.const (.int .i64 0)), none⟩])
 (.cond (.tmp 33) (.skip)
 (.exit 2)))
 (.block 3 (.seq (.region [⟨some 34, .move (.tmp 5), none⟩,
  ⟨some 35, .move (.tmp 0), none⟩,
  ⟨some 36, .move (.tmp 3), none⟩,
  ⟨some 37, .idx 5 (.tmp 35) (.tmp 36), none⟩,
  ⟨some 38, .off 0 (.tmp 37), none⟩,
  ⟨some 39, .load false 1 (.tmp 38), none⟩,
  ⟨some 40, .buildSlice 3 1 1 [.int .i64 0] [(0, 1, .tmp 39)], none⟩,
  ⟨some 41, .append 3 1 8 (.tmp 34) (.tmp 40), none⟩,
  ⟨some 5, .move (.tmp 41), none⟩])
 (.seq (.seq (.region [⟨some 42, .move (.tmp 5), none⟩,
  ⟨some 43, .len (.tmp 42), none⟩,
  ⟨some 44, .move (.tmp 0), none⟩,
  ⟨some 45, .len (.tmp 44), none⟩,
  ⟨some 46, .bin .gtr (.tmp 43) (.tmp 45), none⟩])
 (.cond (.tmp 46) (.seq (.region [⟨some 2, .move (.const (.slice none 0 0)), none⟩])
 (.ret))
 (.skip)))
 (.seq (.region [⟨some 6, .move (.const (.int .i64 (-1))), none⟩])
 (.seq (.seq (.region [⟨some 7, .move (.const (.int .i64 0)), none⟩])
 (.block 4 (.loop L9_2)))
 (.region [⟨some 77, .move (.tmp 6), none⟩,
  ⟨some 3, .move (.tmp 77), none⟩]))))))
def L9_4 : LCode :=
 .seq (.seq (.region [⟨some 81, .move (.tmp 9), none⟩,
  ⟨some 82, .bin .geq (.tmp 81) (.const (.int .i64 0)), none⟩])
 (.cond (.tmp 82) (.skip)
 (.exit 6)))
 (.seq (.block 7 (.region [⟨some 85, .move (.tmp 8), none⟩,
  ⟨some 86, .move (.tmp 5), none⟩,
  ⟨some 87, .move (.tmp 9), none⟩,
  ⟨some 88, .idx 1 (.tmp 86) (.tmp 87), none⟩,
  ⟨some 89, .load false 1 (.tmp 88), none⟩,
  ⟨some 90, .buildSlice 3 1 1 [.int .i64 0] [(0, 1, .tmp 89)], none⟩,
  ⟨some 91, .append 3 1 8 (.tmp 85) (.tmp 90), none⟩,
  ⟨some 8, .move (.tmp 91), none⟩]))
 (.region [⟨some 83, .move (.tmp 9), none⟩,
  ⟨some 84, .bin .sub (.tmp 83) (.const (.int .i64 1)), none⟩,
  ⟨some 9, .move (.tmp 84), none⟩]))
def L9 : LCode :=
 .seq (.region [⟨some 2, .move (.const (.slice none 0 0)), none⟩])
 (.seq (.region [⟨some 3, .move (.const (.int .i64 (-1))), none⟩])
 (.seq (.seq (.region [⟨some 4, .move (.const (.int .i64 0)), none⟩])
 (.block 0 (.loop L9_1)))
 (.seq (.region [⟨some 5, .move (.const (.slice none 0 0)), none⟩])
 (.seq (.block 2 (.loop L9_3))
 (.seq (.region [⟨some 8, .move (.const (.slice none 0 0)), none⟩])
 (.seq (.seq (.region [⟨some 78, .move (.tmp 5), none⟩,
  ⟨some 79, .len (.tmp 78), none⟩,
  ⟨some 80, .bin .sub (.tmp 79) (.const (.int .i64 1)), none⟩,
  ⟨some 9, .move (.tmp 80), none⟩])
 (.block 6 (.loop L9_4)))
 (.seq (.region [⟨some 92, .move (.tmp 8), none⟩,
  ⟨some 2, .move (.tmp 92), none⟩])
 (.ret))))))))
theorem light9 : Light Try.prog 9 1 93 L9 [.tmp 2] :=
  ⟨Try.f9, _, Try.func9, rfl, rfl, by kernel_rfl, by kernel_rfl, by decide⟩

/-! ### function 10: outrider/flow.Text -/
def L10_1 : LCode :=
 .seq (.region [⟨some 9, .bin .lss (.tmp 8) (.tmp 7), none⟩])
 (.seq (.cond (.tmp 9) (.skip)
 (.exit 0))
 (.seq (.block 1 (.seq (.region [⟨some 10, .idx 5 (.tmp 6) (.tmp 8), none⟩,
  ⟨some 11, .load true 5 (.tmp 10), none⟩,
  ⟨some 5, .new 26 5 [.int .i64 0, .slice none 0 0, .slice none 0 0, .slice none 0 0, .int .i64 0], none⟩,
  ⟨none, .store 5 (.tmp 5) (.tmp 11), none⟩])
 (.draw [⟨⟨some 12, .move (.tmp 3), none⟩, .pure, 0, 5⟩,
  ⟨⟨some 13, .off 0 (.tmp 5), none⟩, .pure, 0, 0⟩,
  ⟨⟨some 14, .load false 1 (.tmp 13), none⟩, .read, 0, 0⟩,
  ⟨⟨some 15, .off 4 (.tmp 5), none⟩, .pure, 0, 0⟩,
  ⟨⟨some 16, .load false 1 (.tmp 15), none⟩, .read, 0, 0⟩,
  ⟨⟨some 17, .buildSlice 3 1 2 [.int .i64 0] [(0, 1, .tmp 14), (1, 1, .tmp 16)], none⟩, .heavy, 0, 1⟩,
  ⟨⟨some 18, .call 19 [.const (.string ⟨#[116, 97, 115, 107]⟩), .tmp 17], none⟩, .heavy, 1, 2⟩,
  ⟨⟨some 19, .off 1 (.tmp 5), none⟩, .pure, 0, 2⟩,
  ⟨⟨some 20, .load false 1 (.tmp 19), none⟩, .read, 0, 2⟩,
  ⟨⟨some 21, .call 19 [.const (.string ⟨#[32, 114, 101, 97, 100, 115]⟩), .tmp 20], none⟩, .heavy, 2, 3⟩,
  ⟨⟨some 22, .bin .add (.tmp 18) (.tmp 21), none⟩, .pure, 3, 5⟩,
  ⟨⟨some 23, .off 2 (.tmp 5), none⟩, .pure, 0, 3⟩,
  ⟨⟨some 24, .load false 1 (.tmp 23), none⟩, .read, 0, 3⟩,
  ⟨⟨some 25, .call 19 [.const (.string ⟨#[32, 119, 114, 105, 116, 101, 115]⟩), .tmp 24], none⟩, .heavy, 3, 4⟩,
  ⟨⟨some 26, .bin .add (.tmp 22) (.tmp 25), none⟩, .pure, 4, 5⟩,
  ⟨⟨some 27, .off 3 (.tmp 5), none⟩, .pure, 0, 4⟩,
  ⟨⟨some 28, .load false 1 (.tmp 27), none⟩, .read, 0, 4⟩,
  ⟨⟨some 29, .call 19 [.const (.string ⟨#[32, 102, 114, 111, 109]⟩), .tmp 28], none⟩, .heavy, 4, 5⟩,
  ⟨⟨some 30, .bin .add (.tmp 26) (.tmp 29), none⟩, .pure, 5, 5⟩,
  ⟨⟨some 31, .bin .add (.tmp 30) (.const (.string ⟨#[10]⟩)), none⟩, .pure, 5, 5⟩,
  ⟨⟨some 32, .bin .add (.tmp 12) (.tmp 31), none⟩, .pure, 5, 5⟩,
  ⟨⟨some 3, .move (.tmp 32), none⟩, .pure, 5, 5⟩])))
 (.region [⟨some 33, .bin .add (.tmp 8) (.const (.int .i64 1)), none⟩,
  ⟨some 8, .move (.tmp 33), none⟩])))
def L10 : LCode :=
 .seq (.region [⟨some 2, .move (.const (.string ByteArray.empty)), none⟩])
 (.seq (.region [⟨some 3, .move (.const (.string ByteArray.empty)), none⟩])
 (.seq (.seq (.region [⟨some 6, .move (.tmp 0), none⟩,
  ⟨some 7, .len (.tmp 6), none⟩,
  ⟨some 8, .move (.const (.int .i64 0)), none⟩])
 (.block 0 (.loop L10_1)))
 (.seq (.region [⟨some 34, .move (.tmp 3), none⟩,
  ⟨some 2, .move (.tmp 34), none⟩])
 (.ret))))
theorem light10 : Light Try.prog 10 1 35 L10 [.tmp 2] :=
  ⟨Try.f10, _, Try.func10, rfl, rfl, by kernel_rfl, by kernel_rfl, by decide⟩

/-! ### function 11: outrider/outriderref29.Text -/
def L11_1 : LCode :=
 .seq (.seq (.region [⟨some 5, .move (.tmp 4), none⟩,
  ⟨some 6, .move (.tmp 0), none⟩,
  ⟨some 7, .len (.tmp 6), none⟩,
  ⟨some 8, .bin .lss (.tmp 5) (.tmp 7), none⟩])
 (.cond (.tmp 8) (.skip)
 (.exit 0)))
 (.seq (.block 1 (.draw [⟨⟨some 11, .move (.tmp 3), none⟩, .pure, 0, 5⟩,
  ⟨⟨some 12, .move (.tmp 0), none⟩, .pure, 0, 0⟩,
  ⟨⟨some 13, .move (.tmp 4), none⟩, .pure, 0, 0⟩,
  ⟨⟨some 14, .idx 5 (.tmp 12) (.tmp 13), none⟩, .pure, 0, 0⟩,
  ⟨⟨some 15, .off 0 (.tmp 14), none⟩, .pure, 0, 0⟩,
  ⟨⟨some 16, .load false 1 (.tmp 15), none⟩, .read, 0, 0⟩,
  ⟨⟨some 17, .move (.tmp 0), none⟩, .pure, 0, 0⟩,
  ⟨⟨some 18, .move (.tmp 4), none⟩, .pure, 0, 0⟩,
  ⟨⟨some 19, .idx 5 (.tmp 17) (.tmp 18), none⟩, .pure, 0, 0⟩,
  ⟨⟨some 20, .off 4 (.tmp 19), none⟩, .pure, 0, 0⟩,
  ⟨⟨some 21, .load false 1 (.tmp 20), none⟩, .read, 0, 0⟩,
  ⟨⟨some 22, .buildSlice 3 1 2 [.int .i64 0] [(0, 1, .tmp 16), (1, 1, .tmp 21)], none⟩, .heavy, 0, 1⟩,
  ⟨⟨some 23, .call 20 [.const (.string ⟨#[116, 97, 115, 107]⟩), .tmp 22], none⟩, .heavy, 1, 2⟩,
  ⟨⟨some 24, .bin .add (.tmp 23) (.const (.string ⟨#[32]⟩)), none⟩, .pure, 2, 5⟩,
  ⟨⟨some 25, .move (.tmp 0), none⟩, .pure, 0, 2⟩,
  ⟨⟨some 26, .move (.tmp 4), none⟩, .pure, 0, 2⟩,
  ⟨⟨some 27, .idx 5 (.tmp 25) (.tmp 26), none⟩, .pure, 0, 2⟩,
  ⟨⟨some 28, .off 1 (.tmp 27), none⟩, .pure, 0, 2⟩,
  ⟨⟨some 29, .load false 1 (.tmp 28), none⟩, .read, 0, 2⟩,
  ⟨⟨some 30, .call 20 [.const (.string ⟨#[114, 101, 97, 100, 115]⟩), .tmp 29], none⟩, .heavy, 2, 3⟩,
  ⟨⟨some 31, .bin .add (.tmp 24) (.tmp 30), none⟩, .pure, 3, 5⟩,
  ⟨⟨some 32, .bin .add (.tmp 31) (.const (.string ⟨#[32]⟩)), none⟩, .pure, 3, 5⟩,
  ⟨⟨some 33, .move (.tmp 0), none⟩, .pure, 0, 3⟩,
  ⟨⟨some 34, .move (.tmp 4), none⟩, .pure, 0, 3⟩,
  ⟨⟨some 35, .idx 5 (.tmp 33) (.tmp 34), none⟩, .pure, 0, 3⟩,
  ⟨⟨some 36, .off 2 (.tmp 35), none⟩, .pure, 0, 3⟩,
  ⟨⟨some 37, .load false 1 (.tmp 36), none⟩, .read, 0, 3⟩,
  ⟨⟨some 38, .call 20 [.const (.string ⟨#[119, 114, 105, 116, 101, 115]⟩), .tmp 37], none⟩, .heavy, 3, 4⟩,
  ⟨⟨some 39, .bin .add (.tmp 32) (.tmp 38), none⟩, .pure, 4, 5⟩,
  ⟨⟨some 40, .bin .add (.tmp 39) (.const (.string ⟨#[32]⟩)), none⟩, .pure, 4, 5⟩,
  ⟨⟨some 41, .move (.tmp 0), none⟩, .pure, 0, 4⟩,
  ⟨⟨some 42, .move (.tmp 4), none⟩, .pure, 0, 4⟩,
  ⟨⟨some 43, .idx 5 (.tmp 41) (.tmp 42), none⟩, .pure, 0, 4⟩,
  ⟨⟨some 44, .off 3 (.tmp 43), none⟩, .pure, 0, 4⟩,
  ⟨⟨some 45, .load false 1 (.tmp 44), none⟩, .read, 0, 4⟩,
  ⟨⟨some 46, .call 20 [.const (.string ⟨#[102, 114, 111, 109]⟩), .tmp 45], none⟩, .heavy, 4, 5⟩,
  ⟨⟨some 47, .bin .add (.tmp 40) (.tmp 46), none⟩, .pure, 5, 5⟩,
  ⟨⟨some 48, .bin .add (.tmp 47) (.const (.string ⟨#[10]⟩)), none⟩, .pure, 5, 5⟩,
  ⟨⟨some 49, .bin .add (.tmp 11) (.tmp 48), none⟩, .pure, 5, 5⟩,
  ⟨⟨some 3, .move (.tmp 49), none⟩, .pure, 5, 5⟩]))
 (.region [⟨some 9, .move (.tmp 4), none⟩,
  ⟨some 10, .bin .add (.tmp 9) (.const (.int .i64 1)), none⟩,
  ⟨some 4, .move (.tmp 10), none⟩]))
def L11 : LCode :=
 .seq (.region [⟨some 2, .move (.const (.string ByteArray.empty)), none⟩])
 (.seq (.region [⟨some 3, .move (.const (.string ByteArray.empty)), none⟩])
 (.seq (.seq (.region [⟨some 4, .move (.const (.int .i64 0)), none⟩])
 (.block 0 (.loop L11_1)))
 (.seq (.region [⟨some 50, .move (.tmp 3), none⟩,
  ⟨some 2, .move (.tmp 50), none⟩])
 (.ret))))
theorem light11 : Light Try.prog 11 1 51 L11 [.tmp 2] :=
  ⟨Try.f11, _, Try.func11, rfl, rfl, by kernel_rfl, by kernel_rfl, by decide⟩

/-! ### function 12: outrider/outriderlaw29.alive -/
def L12 : LCode :=
 .seq (.region [⟨some 0, .move (.const (.bool false)), none⟩])
 (.seq (.region [⟨some 4, .build [.int .i64 0, .int .i64 0, .int .i64 0, .int .i64 0, .int .i64 0, .int .i64 0] [(0, 1, .const (.int .i64 6)), (2, 1, .const (.int .i64 3)), (3, 1, .const (.int .i64 1))], none⟩,
  ⟨some 5, .build [.int .i64 0, .int .i64 0, .int .i64 0, .int .i64 0, .int .i64 0, .int .i64 0] [(0, 1, .const (.int .i64 7)), (2, 1, .const (.int .i64 3)), (3, 1, .const (.int .i64 1)), (5, 1, .const (.int .i64 1))], none⟩,
  ⟨some 6, .build [.int .i64 0, .int .i64 0, .int .i64 0, .int .i64 0, .int .i64 0, .int .i64 0] [(0, 1, .const (.int .i64 1))], none⟩,
  ⟨some 7, .buildSlice 60 6 3 [.int .i64 0, .int .i64 0, .int .i64 0, .int .i64 0, .int .i64 0, .int .i64 0] [(0, 6, .tmp 4), (6, 6, .tmp 5), (12, 6, .tmp 6)], none⟩,
  ⟨some 1, .move (.tmp 7), none⟩])
 (.seq (.region [⟨some 9, .build [.int .i64 0, .int .i64 0, .int .i64 0, .int .i64 0, .int .i64 0, .int .i64 0] [(0, 1, .const (.int .i64 1)), (2, 1, .const (.int .i64 3)), (3, 1, .const (.int .i64 1))], none⟩,
  ⟨some 10, .move (.tmp 1), none⟩,
  ⟨some 11, .buildSlice 61 1 1 [.slice none 0 0] [(0, 1, .tmp 10)], none⟩,
  ⟨some 12, .build [.int .i64 0, .slice none 0 0, .slice none 0 0, .int .i64 0, .int .i64 0, .int .i64 0, .int .i64 0, .int .i64 0, .int .i64 0, .int .i64 0, .slice none 0 0] [(0, 1, .const (.int .i64 4)), (3, 1, .const (.int .i64 9)), (4, 6, .tmp 9), (10, 1, .tmp 11)], none⟩,
  ⟨some 13, .call 14 [.tmp 12], none⟩,
  ⟨some 8, .move (.tmp 13), none⟩,
  ⟨some 14, .extract (.tmp 8) 0, none⟩,
  ⟨some 15, .extract (.tmp 8) 1, none⟩,
  ⟨some 2, .move (.tmp 14), none⟩,
  ⟨some 3, .move (.tmp 15), none⟩])
 (.seq (.region [⟨some 16, .move (.tmp 3), none⟩,
  ⟨some 17, .bin .eql (.tmp 16) (.const (.int .i64 0)), none⟩,
  ⟨some 18, .move (.tmp 17), none⟩,
  ⟨some 19, .move (.tmp 2), (some (18, true))⟩,
  ⟨some 20, .len (.tmp 19), (some (18, true))⟩,
  ⟨some 21, .bin .eql (.tmp 20) (.const (.int .i64 3)), (some (18, true))⟩,
  ⟨some 22, .pick (.tmp 18) (.tmp 21) (.const (.bool false)), none⟩,
  ⟨some 23, .move (.tmp 22), none⟩,
  ⟨some 24, .move (.tmp 2), (some (23, true))⟩,
  ⟨some 25, .idx 5 (.tmp 24) (.const (.int .i64 2)), (some (23, true))⟩,
  ⟨some 26, .off 4 (.tmp 25), (some (23, true))⟩,
  ⟨some 27, .load false 1 (.tmp 26), (some (23, true))⟩,
  ⟨some 28, .bin .eql (.tmp 27) (.const (.int .i64 3)), (some (23, true))⟩,
  ⟨some 29, .pick (.tmp 23) (.tmp 28) (.const (.bool false)), none⟩,
  ⟨some 30, .move (.tmp 29), none⟩,
  ⟨some 31, .move (.tmp 2), (some (30, true))⟩,
  ⟨some 32, .idx 5 (.tmp 31) (.const (.int .i64 2)), (some (30, true))⟩,
  ⟨some 33, .off 3 (.tmp 32), (some (30, true))⟩,
  ⟨some 34, .load false 1 (.tmp 33), (some (30, true))⟩,
  ⟨some 35, .buildSlice 3 1 1 [.int .i64 0] [(0, 1, .const (.int .i64 1))], (some (30, true))⟩,
  ⟨some 36, .call 5 [.tmp 34, .tmp 35], (some (30, true))⟩,
  ⟨some 37, .pick (.tmp 30) (.tmp 36) (.const (.bool false)), none⟩,
  ⟨some 38, .move (.tmp 37), none⟩,
  ⟨some 39, .move (.tmp 2), (some (38, true))⟩,
  ⟨some 40, .call 8 [.tmp 39], (some (38, true))⟩,
  ⟨some 41, .buildSlice 3 1 3 [.int .i64 0] [(0, 1, .const (.int .i64 0)), (1, 1, .const (.int .i64 1)), (2, 1, .const (.int .i64 2))], (some (38, true))⟩,
  ⟨some 42, .call 5 [.tmp 40, .tmp 41], (some (38, true))⟩,
  ⟨some 43, .pick (.tmp 38) (.tmp 42) (.const (.bool false)), none⟩,
  ⟨some 44, .move (.tmp 43), none⟩,
  ⟨some 45, .move (.tmp 2), (some (44, true))⟩,
  ⟨some 46, .call 6 [.tmp 45], (some (44, true))⟩,
  ⟨some 47, .buildSlice 3 1 3 [.int .i64 0] [(0, 1, .const (.int .i64 1)), (1, 1, .const (.int .i64 1)), (2, 1, .const (.int .i64 1))], (some (44, true))⟩,
  ⟨some 48, .call 5 [.tmp 46, .tmp 47], (some (44, true))⟩,
  ⟨some 49, .pick (.tmp 44) (.tmp 48) (.const (.bool false)), none⟩,
  ⟨some 0, .move (.tmp 49), none⟩])
 (.ret))))
theorem light12 : Light Try.prog 12 0 50 L12 [.tmp 0] :=
  ⟨Try.f12, _, Try.func12, rfl, rfl, by kernel_rfl, by kernel_rfl, by decide⟩

/-! ### function 13: outrider/outriderlaw17.Great -/
def L13_1 : LCode :=
 .seq (.seq (.region [⟨some 20, .move (.tmp 3), none⟩,
  ⟨some 21, .off 10 (.tmp 1), none⟩,
  ⟨some 22, .load false 1 (.tmp 21), none⟩,
  ⟨some 23, .len (.tmp 22), none⟩,
  ⟨some 24, .bin .lss (.tmp 20) (.tmp 23), none⟩])
 (.cond (.tmp 24) (.skip)
 (.exit 0)))
 (.seq (.block 1 (.seq (.region [⟨some 27, .off 10 (.tmp 1), none⟩,
  ⟨some 28, .load false 1 (.tmp 27), none⟩,
  ⟨some 29, .move (.tmp 3), none⟩,
  ⟨some 30, .idx 1 (.tmp 28) (.tmp 29), none⟩,
  ⟨some 31, .load false 1 (.tmp 30), none⟩,
  ⟨some 32, .len (.tmp 31), none⟩,
  ⟨some 33, .bin .gtr (.tmp 32) (.const (.int .i64 700)), none⟩])
 (.cond (.tmp 33) (.seq (.region [⟨some 2, .move (.const (.bool true)), none⟩])
 (.ret))
 (.skip))))
 (.region [⟨some 25, .move (.tmp 3), none⟩,
  ⟨some 26, .bin .add (.tmp 25) (.const (.int .i64 1)), none⟩,
  ⟨some 3, .move (.tmp 26), none⟩]))
def L13 : LCode :=
 .seq (.region [⟨some 1, .box 42 11 (.tmp 0), none⟩,
  ⟨some 2, .move (.const (.bool false)), none⟩])
 (.seq (.seq (.region [⟨some 4, .off 1 (.tmp 1), none⟩,
  ⟨some 5, .load false 1 (.tmp 4), none⟩,
  ⟨some 6, .len (.tmp 5), none⟩,
  ⟨some 7, .bin .gtr (.tmp 6) (.const (.int .i64 200)), none⟩,
  ⟨some 8, .move (.tmp 7), none⟩,
  ⟨some 9, .off 2 (.tmp 1), (some (8, false))⟩,
  ⟨some 10, .load false 1 (.tmp 9), (some (8, false))⟩,
  ⟨some 11, .len (.tmp 10), (some (8, false))⟩,
  ⟨some 12, .bin .gtr (.tmp 11) (.const (.int .i64 50)), (some (8, false))⟩,
  ⟨some 13, .pick (.tmp 8) (.const (.bool true)) (.tmp 12), none⟩,
  ⟨some 14, .move (.tmp 13), none⟩,
  ⟨some 15, .off 10 (.tmp 1), (some (14, false))⟩,
  ⟨some 16, .load false 1 (.tmp 15), (some (14, false))⟩,
  ⟨some 17, .len (.tmp 16), (some (14, false))⟩,
  ⟨some 18, .bin .gtr (.tmp 17) (.const (.int .i64 50)), (some (14, false))⟩,
  ⟨some 19, .pick (.tmp 14) (.const (.bool true)) (.tmp 18), none⟩])
 (.cond (.tmp 19) (.seq (.region [⟨some 2, .move (.const (.bool true)), none⟩])
 (.ret))
 (.skip)))
 (.seq (.seq (.region [⟨some 3, .move (.const (.int .i64 0)), none⟩])
 (.block 0 (.loop L13_1)))
 (.seq (.region [⟨some 2, .move (.const (.bool false)), none⟩])
 (.ret))))
theorem light13 : Light Try.prog 13 1 34 L13 [.tmp 2] :=
  ⟨Try.f13, _, Try.func13, rfl, rfl, by kernel_rfl, by kernel_rfl, by decide⟩

/-! ### function 14: outrider/flow.Plain -/
def L14_1 : LCode :=
 .seq (.region [⟨some 34, .bin .lss (.tmp 33) (.tmp 32), none⟩])
 (.seq (.cond (.tmp 34) (.skip)
 (.exit 0))
 (.seq (.block 1 (.seq (.region [⟨some 35, .move (.tmp 33), none⟩,
  ⟨some 10, .move (.tmp 35), none⟩])
 (.seq (.region [⟨some 37, .load true 11 (.tmp 1), none⟩,
  ⟨some 38, .move (.tmp 10), none⟩,
  ⟨some 39, .off 0 (.tmp 7), none⟩,
  ⟨some 40, .load false 1 (.tmp 39), none⟩,
  ⟨some 41, .call 24 [.tmp 37, .tmp 38, .tmp 40], none⟩,
  ⟨some 36, .move (.tmp 41), none⟩,
  ⟨some 42, .extract (.tmp 36) 0, none⟩,
  ⟨some 43, .extract (.tmp 36) 1, none⟩,
  ⟨some 11, .move (.tmp 42), none⟩,
  ⟨some 12, .move (.tmp 43), none⟩])
 (.seq (.seq (.region [⟨some 44, .move (.tmp 12), none⟩,
  ⟨some 45, .un .not (.tmp 44), none⟩])
 (.cond (.tmp 45) (.exit 0)
 (.skip)))
 (.region [⟨some 46, .move (.tmp 9), none⟩,
  ⟨some 47, .move (.tmp 10), none⟩,
  ⟨some 48, .move (.tmp 11), none⟩,
  ⟨some 49, .call 25 [.tmp 46, .tmp 47, .tmp 48], none⟩])))))
 (.region [⟨some 50, .bin .add (.tmp 33) (.const (.int .i64 1)), none⟩,
  ⟨some 33, .move (.tmp 50), none⟩])))
def L14 : LCode :=
 .seq (.region [⟨some 1, .box 42 11 (.tmp 0), none⟩,
  ⟨some 2, .move (.const (.slice none 0 0)), none⟩,
  ⟨some 3, .move (.const (.int .i64 0)), none⟩])
 (.seq (.seq (.region [⟨some 13, .load true 11 (.tmp 1), none⟩,
  ⟨some 14, .call 21 [.tmp 13], none⟩,
  ⟨some 4, .move (.tmp 14), none⟩])
 (.seq (.region [⟨some 15, .move (.tmp 4), none⟩,
  ⟨some 16, .bin .neq (.tmp 15) (.const (.int .i64 0)), none⟩])
 (.cond (.tmp 16) (.seq (.region [⟨some 17, .move (.tmp 4), none⟩,
  ⟨some 2, .move (.const (.slice none 0 0)), none⟩,
  ⟨some 3, .move (.tmp 17), none⟩])
 (.ret))
 (.skip))))
 (.seq (.region [⟨some 19, .off 4 (.tmp 1), none⟩,
  ⟨some 20, .load true 6 (.tmp 19), none⟩,
  ⟨some 21, .call 22 [.tmp 20], none⟩,
  ⟨some 18, .move (.tmp 21), none⟩,
  ⟨some 22, .extract (.tmp 18) 0, none⟩,
  ⟨some 23, .extract (.tmp 18) 1, none⟩,
  ⟨some 5, .move (.tmp 22), none⟩,
  ⟨some 6, .move (.tmp 23), none⟩])
 (.seq (.region [⟨some 25, .load true 11 (.tmp 1), none⟩,
  ⟨some 26, .call 23 [.tmp 25], none⟩,
  ⟨some 24, .move (.tmp 26), none⟩,
  ⟨some 27, .extract (.tmp 24) 0, none⟩,
  ⟨some 28, .extract (.tmp 24) 1, none⟩,
  ⟨some 7, .new 70 7 [.slice none 0 0, .slice none 0 0, .slice none 0 0, .int .i64 0, .int .i64 0, .int .i64 0, .int .i64 0], none⟩,
  ⟨none, .store 7 (.tmp 7) (.tmp 27), none⟩,
  ⟨some 8, .move (.tmp 28), none⟩])
 (.seq (.region [⟨some 29, .makeMap, none⟩,
  ⟨some 30, .build [.slice none 0 0, .map none] [(1, 1, .tmp 29)], none⟩,
  ⟨some 31, .box 76 2 (.tmp 30), none⟩,
  ⟨some 9, .move (.tmp 31), none⟩])
 (.seq (.seq (.region [⟨some 32, .move (.tmp 5), none⟩,
  ⟨some 33, .move (.const (.int .i64 0)), none⟩])
 (.block 0 (.loop L14_1)))
 (.seq (.region [⟨some 51, .move (.tmp 9), none⟩,
  ⟨some 52, .nilCheck (.tmp 51), none⟩,
  ⟨some 53, .off 0 (.tmp 52), none⟩,
  ⟨some 54, .load false 1 (.tmp 53), none⟩,
  ⟨some 2, .move (.tmp 54), none⟩,
  ⟨some 3, .move (.const (.int .i64 0)), none⟩])
 (.ret)))))))
theorem light14 : Light Try.prog 14 1 55 L14 [.tmp 2, .tmp 3] :=
  ⟨Try.f14, _, Try.func14, rfl, rfl, by kernel_rfl, by kernel_rfl, by decide⟩

/-! ### function 15: outrider/outriderlaw29.lives -/
def L15_1 : LCode :=
 .seq (.seq (.region [⟨some 6, .move (.tmp 5), none⟩,
  ⟨some 7, .off 3 (.tmp 2), none⟩,
  ⟨some 8, .load false 1 (.tmp 7), none⟩,
  ⟨some 9, .len (.tmp 8), none⟩,
  ⟨some 10, .bin .lss (.tmp 6) (.tmp 9), none⟩])
 (.cond (.tmp 10) (.skip)
 (.exit 0)))
 (.seq (.block 1 (.seq (.region [⟨some 13, .off 3 (.tmp 2), none⟩,
  ⟨some 14, .load false 1 (.tmp 13), none⟩,
  ⟨some 15, .move (.tmp 5), none⟩,
  ⟨some 16, .idx 1 (.tmp 14) (.tmp 15), none⟩,
  ⟨some 17, .load false 1 (.tmp 16), none⟩,
  ⟨some 18, .move (.tmp 1), none⟩,
  ⟨some 19, .bin .eql (.tmp 17) (.tmp 18), none⟩])
 (.cond (.tmp 19) (.seq (.region [⟨some 4, .move (.const (.bool true)), none⟩])
 (.ret))
 (.skip))))
 (.region [⟨some 11, .move (.tmp 5), none⟩,
  ⟨some 12, .bin .add (.tmp 11) (.const (.int .i64 1)), none⟩,
  ⟨some 5, .move (.tmp 12), none⟩]))
def L15 : LCode :=
 .seq (.region [⟨some 2, .box 26 5 (.tmp 0), none⟩,
  ⟨some 4, .move (.const (.bool false)), none⟩])
 (.seq (.seq (.region [⟨some 5, .move (.const (.int .i64 0)), none⟩])
 (.block 0 (.loop L15_1)))
 (.seq (.region [⟨some 4, .move (.const (.bool false)), none⟩])
 (.ret)))
theorem light15 : Light Try.prog 15 2 20 L15 [.tmp 4] :=
  ⟨Try.f15, _, Try.func15, rfl, rfl, by kernel_rfl, by kernel_rfl, by decide⟩

/-! ### function 16: outrider/dep.Independent -/
def L16 : LCode :=
 .seq (.region [⟨some 2, .box 42 11 (.tmp 0), none⟩,
  ⟨some 3, .box 45 11 (.tmp 1), none⟩,
  ⟨some 4, .move (.const (.bool false)), none⟩,
  ⟨some 5, .move (.const (.int .i64 0)), none⟩])
 (.seq (.seq (.region [⟨some 13, .load true 11 (.tmp 2), none⟩,
  ⟨some 14, .call 21 [.tmp 13], none⟩,
  ⟨some 6, .move (.tmp 14), none⟩])
 (.seq (.region [⟨some 15, .move (.tmp 6), none⟩,
  ⟨some 16, .bin .neq (.tmp 15) (.const (.int .i64 0)), none⟩])
 (.cond (.tmp 16) (.seq (.region [⟨some 17, .move (.tmp 6), none⟩,
  ⟨some 4, .move (.const (.bool false)), none⟩,
  ⟨some 5, .move (.tmp 17), none⟩])
 (.ret))
 (.skip))))
 (.seq (.seq (.region [⟨some 18, .load true 11 (.tmp 3), none⟩,
  ⟨some 19, .call 26 [.tmp 18], none⟩,
  ⟨some 7, .move (.tmp 19), none⟩])
 (.seq (.region [⟨some 20, .move (.tmp 7), none⟩,
  ⟨some 21, .bin .neq (.tmp 20) (.const (.int .i64 0)), none⟩])
 (.cond (.tmp 21) (.seq (.region [⟨some 22, .move (.tmp 7), none⟩,
  ⟨some 4, .move (.const (.bool false)), none⟩,
  ⟨some 5, .move (.tmp 22), none⟩])
 (.ret))
 (.skip))))
 (.seq (.region [⟨some 23, .off 4 (.tmp 2), none⟩,
  ⟨some 24, .load true 6 (.tmp 23), none⟩,
  ⟨some 8, .new 39 6 [.int .i64 0, .int .i64 0, .int .i64 0, .int .i64 0, .int .i64 0, .int .i64 0], none⟩,
  ⟨none, .store 6 (.tmp 8) (.tmp 24), none⟩])
 (.seq (.seq (.region [⟨some 25, .off 0 (.tmp 8), none⟩,
  ⟨some 26, .load false 1 (.tmp 25), none⟩,
  ⟨some 27, .bin .neq (.tmp 26) (.const (.int .i64 1)), none⟩,
  ⟨some 28, .move (.tmp 27), none⟩,
  ⟨some 29, .off 10 (.tmp 3), (some (28, false))⟩,
  ⟨some 30, .load false 1 (.tmp 29), (some (28, false))⟩,
  ⟨some 31, .pick (.tmp 28) (.const (.bool true)) (.tmp 30), none⟩,
  ⟨some 32, .move (.tmp 31), none⟩,
  ⟨some 33, .off 1 (.tmp 8), (some (32, false))⟩,
  ⟨some 34, .load false 1 (.tmp 33), (some (32, false))⟩,
  ⟨some 35, .call 27 [.tmp 34], (some (32, false))⟩,
  ⟨some 36, .un .not (.tmp 35), (some (32, false))⟩,
  ⟨some 37, .pick (.tmp 32) (.const (.bool true)) (.tmp 36), none⟩,
  ⟨some 38, .move (.tmp 37), none⟩,
  ⟨some 39, .off 2 (.tmp 8), (some (38, false))⟩,
  ⟨some 40, .load false 1 (.tmp 39), (some (38, false))⟩,
  ⟨some 41, .call 27 [.tmp 40], (some (38, false))⟩,
  ⟨some 42, .un .not (.tmp 41), (some (38, false))⟩,
  ⟨some 43, .pick (.tmp 38) (.const (.bool true)) (.tmp 42), none⟩,
  ⟨some 44, .move (.tmp 43), none⟩,
  ⟨some 45, .off 3 (.tmp 8), (some (44, false))⟩,
  ⟨some 46, .load false 1 (.tmp 45), (some (44, false))⟩,
  ⟨some 47, .call 27 [.tmp 46], (some (44, false))⟩,
  ⟨some 48, .un .not (.tmp 47), (some (44, false))⟩,
  ⟨some 49, .pick (.tmp 44) (.const (.bool true)) (.tmp 48), none⟩])
 (.cond (.tmp 49) (.seq (.region [⟨some 4, .move (.const (.bool false)), none⟩,
  ⟨some 5, .move (.const (.int .i64 0)), none⟩])
 (.ret))
 (.skip)))
 (.seq (.draw [⟨⟨some 51, .off 10 (.tmp 2), none⟩, .pure, 0, 0⟩,
  ⟨⟨some 52, .load false 1 (.tmp 51), none⟩, .read, 0, 0⟩,
  ⟨⟨some 53, .idx 1 (.tmp 52) (.const (.int .i64 0)), none⟩, .pure, 0, 0⟩,
  ⟨⟨some 54, .load false 1 (.tmp 53), none⟩, .read, 0, 0⟩,
  ⟨⟨some 55, .off 2 (.tmp 2), none⟩, .pure, 0, 0⟩,
  ⟨⟨some 56, .load false 1 (.tmp 55), none⟩, .read, 0, 0⟩,
  ⟨⟨some 57, .len (.tmp 56), none⟩, .pure, 0, 0⟩,
  ⟨⟨some 58, .call 28 [.tmp 54, .tmp 57], none⟩, .heavy, 0, 1⟩,
  ⟨⟨some 50, .move (.tmp 58), none⟩, .pure, 1, 1⟩,
  ⟨⟨some 59, .extract (.tmp 50) 0, none⟩, .pure, 1, 1⟩,
  ⟨⟨some 60, .extract (.tmp 50) 1, none⟩, .pure, 1, 1⟩,
  ⟨⟨some 9, .move (.tmp 59), none⟩, .pure, 1, 1⟩,
  ⟨⟨some 10, .move (.tmp 60), none⟩, .pure, 1, 1⟩])
 (.seq (.seq (.draw [⟨⟨some 61, .move (.tmp 10), none⟩, .pure, 0, 0⟩,
  ⟨⟨some 62, .un .not (.tmp 61), none⟩, .pure, 0, 0⟩,
  ⟨⟨some 63, .move (.tmp 62), none⟩, .pure, 0, 0⟩,
  ⟨⟨some 64, .off 10 (.tmp 2), (some (63, false))⟩, .pure, 0, 0⟩,
  ⟨⟨some 65, .load false 1 (.tmp 64), (some (63, false))⟩, .read, 0, 0⟩,
  ⟨⟨some 66, .idx 1 (.tmp 65) (.const (.int .i64 0)), (some (63, false))⟩, .pure, 0, 0⟩,
  ⟨⟨some 67, .load false 1 (.tmp 66), (some (63, false))⟩, .read, 0, 0⟩,
  ⟨⟨some 68, .move (.tmp 9), (some (63, false))⟩, .pure, 0, 0⟩,
  ⟨⟨some 69, .load true 11 (.tmp 2), (some (63, false))⟩, .read, 0, 0⟩,
  ⟨⟨some 70, .load true 11 (.tmp 3), (some (63, false))⟩, .read, 0, 0⟩,
  ⟨⟨some 71, .call 29 [.tmp 67, .tmp 68, .tmp 69, .tmp 70], (some (63, false))⟩, .heavy, 0, 1⟩,
  ⟨⟨some 72, .un .not (.tmp 71), (some (63, false))⟩, .pure, 1, 1⟩,
  ⟨⟨some 73, .pick (.tmp 63) (.const (.bool true)) (.tmp 72), none⟩, .pure, 1, 1⟩])
 (.cond (.tmp 73) (.seq (.region [⟨some 4, .move (.const (.bool false)), none⟩,
  ⟨some 5, .move (.const (.int .i64 0)), none⟩])
 (.ret))
 (.skip)))
 (.seq (.region [⟨some 75, .load true 6 (.tmp 8), none⟩,
  ⟨some 76, .call 22 [.tmp 75], none⟩,
  ⟨some 74, .move (.tmp 76), none⟩,
  ⟨some 77, .extract (.tmp 74) 0, none⟩,
  ⟨some 78, .extract (.tmp 74) 1, none⟩,
  ⟨some 11, .move (.tmp 77), none⟩,
  ⟨some 12, .move (.tmp 78), none⟩])
 (.seq (.region [⟨some 79, .move (.tmp 9), none⟩,
  ⟨some 80, .load true 11 (.tmp 2), none⟩,
  ⟨some 81, .move (.tmp 11), none⟩,
  ⟨some 82, .call 30 [.tmp 79, .tmp 80, .tmp 81], none⟩,
  ⟨some 4, .move (.tmp 82), none⟩,
  ⟨some 5, .move (.const (.int .i64 0)), none⟩])
 (.ret)))))))))
theorem light16 : Light Try.prog 16 2 83 L16 [.tmp 4, .tmp 5] :=
  ⟨Try.f16, _, Try.func16, rfl, rfl, by kernel_rfl, by kernel_rfl, by decide⟩

/-! ### function 17: outrider/flow.before -/
def L17_1 : LCode :=
 .seq (.region [⟨some 22, .bin .lss (.tmp 21) (.tmp 20), none⟩])
 (.seq (.cond (.tmp 22) (.skip)
 (.exit 2))
 (.seq (.block 3 (.seq (.region [⟨some 23, .move (.tmp 21), none⟩,
  ⟨some 24, .idx 5 (.tmp 19) (.tmp 21), none⟩,
  ⟨some 25, .load true 5 (.tmp 24), none⟩,
  ⟨some 8, .new 26 5 [.int .i64 0, .slice none 0 0, .slice none 0 0, .slice none 0 0, .int .i64 0], none⟩,
  ⟨some 7, .move (.tmp 23), none⟩,
  ⟨none, .store 5 (.tmp 8) (.tmp 25), none⟩])
 (.seq (.draw [⟨⟨some 26, .off 0 (.tmp 8), none⟩, .pure, 0, 0⟩,
  ⟨⟨some 27, .load false 1 (.tmp 26), none⟩, .read, 0, 0⟩,
  ⟨⟨some 28, .move (.tmp 6), none⟩, .pure, 0, 0⟩,
  ⟨⟨some 29, .bin .eql (.tmp 27) (.tmp 28), none⟩, .pure, 0, 0⟩,
  ⟨⟨some 30, .move (.tmp 29), none⟩, .pure, 0, 0⟩,
  ⟨⟨some 31, .off 4 (.tmp 8), (some (30, true))⟩, .pure, 0, 0⟩,
  ⟨⟨some 32, .load false 1 (.tmp 31), (some (30, true))⟩, .read, 0, 0⟩,
  ⟨⟨some 33, .move (.tmp 0), (some (30, true))⟩, .pure, 0, 0⟩,
  ⟨⟨some 34, .move (.tmp 1), (some (30, true))⟩, .pure, 0, 0⟩,
  ⟨⟨some 35, .idx 5 (.tmp 33) (.tmp 34), (some (30, true))⟩, .pure, 0, 0⟩,
  ⟨⟨some 36, .off 4 (.tmp 35), (some (30, true))⟩, .pure, 0, 0⟩,
  ⟨⟨some 37, .load false 1 (.tmp 36), (some (30, true))⟩, .read, 0, 0⟩,
  ⟨⟨some 38, .bin .sub (.tmp 37) (.const (.int .i64 1)), (some (30, true))⟩, .pure, 0, 0⟩,
  ⟨⟨some 39, .bin .eql (.tmp 32) (.tmp 38), (some (30, true))⟩, .pure, 0, 0⟩,
  ⟨⟨some 40, .pick (.tmp 30) (.tmp 39) (.const (.bool false)), none⟩, .pure, 0, 0⟩])
 (.cond (.tmp 40) (.seq (.region [⟨some 41, .move (.tmp 7), none⟩,
  ⟨some 4, .move (.tmp 41), none⟩])
 (.ret))
 (.skip)))))
 (.region [⟨some 42, .bin .add (.tmp 21) (.const (.int .i64 1)), none⟩,
  ⟨some 21, .move (.tmp 42), none⟩])))
def L17_2 : LCode :=
 .seq (.region [⟨some 16, .bin .lss (.tmp 15) (.tmp 14), none⟩])
 (.seq (.cond (.tmp 16) (.skip)
 (.exit 0))
 (.seq (.block 1 (.seq (.region [⟨some 17, .idx 1 (.tmp 13) (.tmp 15), none⟩,
  ⟨some 18, .load false 1 (.tmp 17), none⟩,
  ⟨some 6, .move (.tmp 18), none⟩])
 (.seq (.region [⟨some 19, .move (.tmp 0), none⟩,
  ⟨some 20, .len (.tmp 19), none⟩,
  ⟨some 21, .move (.const (.int .i64 0)), none⟩])
 (.block 2 (.loop L17_1)))))
 (.region [⟨some 43, .bin .add (.tmp 15) (.const (.int .i64 1)), none⟩,
  ⟨some 15, .move (.tmp 43), none⟩])))
def L17 : LCode :=
 .seq (.region [⟨some 4, .move (.const (.int .i64 0)), none⟩])
 (.seq (.seq (.region [⟨some 9, .move (.tmp 0), none⟩,
  ⟨some 10, .move (.tmp 1), none⟩,
  ⟨some 11, .idx 5 (.tmp 9) (.tmp 10), none⟩,
  ⟨some 12, .off 3 (.tmp 11), none⟩,
  ⟨some 13, .load false 1 (.tmp 12), none⟩,
  ⟨some 14, .len (.tmp 13), none⟩,
  ⟨some 15, .move (.const (.int .i64 0)), none⟩])
 (.block 0 (.loop L17_2)))
 (.seq (.region [⟨some 4, .move (.const (.int .i64 (-1))), none⟩])
 (.ret)))
theorem light17 : Light Try.prog 17 2 44 L17 [.tmp 4] :=
  ⟨Try.f17, _, Try.func17, rfl, rfl, by kernel_rfl, by kernel_rfl, by decide⟩

/-! ### function 18: outrider/outriderref29.find -/
def L18_1 : LCode :=
 .seq (.seq (.region [⟨some 8, .move (.tmp 7), none⟩,
  ⟨some 9, .move (.tmp 0), none⟩,
  ⟨some 10, .len (.tmp 9), none⟩,
  ⟨some 11, .bin .lss (.tmp 8) (.tmp 10), none⟩])
 (.cond (.tmp 11) (.skip)
 (.exit 0)))
 (.seq (.block 1 (.seq (.region [⟨some 14, .move (.tmp 0), none⟩,
  ⟨some 15, .move (.tmp 7), none⟩,
  ⟨some 16, .idx 5 (.tmp 14) (.tmp 15), none⟩,
  ⟨some 17, .off 0 (.tmp 16), none⟩,
  ⟨some 18, .load false 1 (.tmp 17), none⟩,
  ⟨some 19, .move (.tmp 1), none⟩,
  ⟨some 20, .bin .eql (.tmp 18) (.tmp 19), none⟩,
  ⟨some 21, .move (.tmp 20), none⟩,
  ⟨some 22, .move (.tmp 0), (some (21, true))⟩,
  ⟨some 23, .move (.tmp 7), (some (21, true))⟩,
  ⟨some 24, .idx 5 (.tmp 22) (.tmp 23), (some (21, true))⟩,
  ⟨some 25, .off 4 (.tmp 24), (some (21, true))⟩,
  ⟨some 26, .load false 1 (.tmp 25), (some (21, true))⟩,
  ⟨some 27, .move (.tmp 2), (some (21, true))⟩,
  ⟨some 28, .bin .eql (.tmp 26) (.tmp 27), (some (21, true))⟩,
  ⟨some 29, .pick (.tmp 21) (.tmp 28) (.const (.bool false)), none⟩])
 (.cond (.tmp 29) (.seq (.region [⟨some 30, .move (.tmp 7), none⟩,
  ⟨some 6, .move (.tmp 30), none⟩])
 (.ret))
 (.skip))))
 (.region [⟨some 12, .move (.tmp 7), none⟩,
  ⟨some 13, .bin .add (.tmp 12) (.const (.int .i64 1)), none⟩,
  ⟨some 7, .move (.tmp 13), none⟩]))
def L18 : LCode :=
 .seq (.region [⟨some 6, .move (.const (.int .i64 0)), none⟩])
 (.seq (.seq (.region [⟨some 7, .move (.const (.int .i64 0)), none⟩])
 (.block 0 (.loop L18_1)))
 (.seq (.region [⟨some 6, .move (.const (.int .i64 (-1))), none⟩])
 (.ret)))
theorem light18 : Light Try.prog 18 3 31 L18 [.tmp 6] :=
  ⟨Try.f18, _, Try.func18, rfl, rfl, by kernel_rfl, by kernel_rfl, by decide⟩

/-! ### function 19: outrider/flow.row -/
def L19_1 : LCode :=
 .seq (.region [⟨some 10, .bin .lss (.tmp 9) (.tmp 8), none⟩])
 (.seq (.cond (.tmp 10) (.skip)
 (.exit 0))
 (.seq (.block 1 (.seq (.region [⟨some 11, .idx 1 (.tmp 7) (.tmp 9), none⟩,
  ⟨some 12, .load false 1 (.tmp 11), none⟩,
  ⟨some 6, .move (.tmp 12), none⟩])
 (.region [⟨some 13, .move (.tmp 0), none⟩,
  ⟨some 14, .move (.tmp 6), none⟩,
  ⟨some 15, .call 31 [.tmp 14], none⟩,
  ⟨some 16, .bin .add (.const (.string ⟨#[32]⟩)) (.tmp 15), none⟩,
  ⟨some 17, .bin .add (.tmp 13) (.tmp 16), none⟩,
  ⟨some 0, .move (.tmp 17), none⟩])))
 (.region [⟨some 18, .bin .add (.tmp 9) (.const (.int .i64 1)), none⟩,
  ⟨some 9, .move (.tmp 18), none⟩])))
def L19 : LCode :=
 .seq (.region [⟨some 4, .move (.const (.string ByteArray.empty)), none⟩])
 (.seq (.seq (.region [⟨some 7, .move (.tmp 1), none⟩,
  ⟨some 8, .len (.tmp 7), none⟩,
  ⟨some 9, .move (.const (.int .i64 0)), none⟩])
 (.block 0 (.loop L19_1)))
 (.seq (.region [⟨some 19, .move (.tmp 0), none⟩,
  ⟨some 4, .move (.tmp 19), none⟩])
 (.ret)))
theorem light19 : Light Try.prog 19 2 20 L19 [.tmp 4] :=
  ⟨Try.f19, _, Try.func19, rfl, rfl, by kernel_rfl, by kernel_rfl, by decide⟩

/-! ### function 20: outrider/outriderref29.numbers -/
def L20_1 : LCode :=
 .seq (.seq (.region [⟨some 6, .move (.tmp 5), none⟩,
  ⟨some 7, .move (.tmp 1), none⟩,
  ⟨some 8, .len (.tmp 7), none⟩,
  ⟨some 9, .bin .lss (.tmp 6) (.tmp 8), none⟩])
 (.cond (.tmp 9) (.skip)
 (.exit 0)))
 (.seq (.block 1 (.region [⟨some 12, .move (.tmp 0), none⟩,
  ⟨some 13, .move (.tmp 1), none⟩,
  ⟨some 14, .move (.tmp 5), none⟩,
  ⟨some 15, .idx 1 (.tmp 13) (.tmp 14), none⟩,
  ⟨some 16, .load false 1 (.tmp 15), none⟩,
  ⟨some 17, .call 32 [.tmp 16], none⟩,
  ⟨some 18, .bin .add (.const (.string ⟨#[32]⟩)) (.tmp 17), none⟩,
  ⟨some 19, .bin .add (.tmp 12) (.tmp 18), none⟩,
  ⟨some 0, .move (.tmp 19), none⟩]))
 (.region [⟨some 10, .move (.tmp 5), none⟩,
  ⟨some 11, .bin .add (.tmp 10) (.const (.int .i64 1)), none⟩,
  ⟨some 5, .move (.tmp 11), none⟩]))
def L20 : LCode :=
 .seq (.region [⟨some 4, .move (.const (.string ByteArray.empty)), none⟩])
 (.seq (.seq (.region [⟨some 5, .move (.const (.int .i64 0)), none⟩])
 (.block 0 (.loop L20_1)))
 (.seq (.region [⟨some 20, .move (.tmp 0), none⟩,
  ⟨some 4, .move (.tmp 20), none⟩])
 (.ret)))
theorem light20 : Light Try.prog 20 2 21 L20 [.tmp 4] :=
  ⟨Try.f20, _, Try.func20, rfl, rfl, by kernel_rfl, by kernel_rfl, by decide⟩

/-! ### function 21: outrider/job.Valid -/
def L21_1 : LCode :=
 .seq (.region [⟨some 61, .bin .lss (.tmp 60) (.tmp 59), none⟩])
 (.seq (.cond (.tmp 61) (.skip)
 (.exit 0))
 (.seq (.block 1 (.seq (.region [⟨some 62, .idx 1 (.tmp 58) (.tmp 60), none⟩,
  ⟨some 63, .load false 1 (.tmp 62), none⟩,
  ⟨some 10, .move (.tmp 63), none⟩])
 (.seq (.region [⟨some 65, .move (.tmp 10), none⟩,
  ⟨some 66, .off 2 (.tmp 1), none⟩,
  ⟨some 67, .load false 1 (.tmp 66), none⟩,
  ⟨some 68, .len (.tmp 67), none⟩,
  ⟨some 69, .call 36 [.tmp 65, .tmp 68], none⟩,
  ⟨some 64, .move (.tmp 69), none⟩,
  ⟨some 70, .extract (.tmp 64) 0, none⟩,
  ⟨some 71, .extract (.tmp 64) 1, none⟩,
  ⟨some 11, .move (.tmp 70), none⟩,
  ⟨some 12, .move (.tmp 71), none⟩])
 (.seq (.region [⟨some 72, .move (.tmp 12), none⟩,
  ⟨some 73, .bin .neq (.tmp 72) (.const (.int .i64 0)), none⟩])
 (.cond (.tmp 73) (.seq (.region [⟨some 74, .move (.tmp 12), none⟩,
  ⟨some 2, .move (.tmp 74), none⟩])
 (.ret))
 (.skip))))))
 (.region [⟨some 75, .bin .add (.tmp 60) (.const (.int .i64 1)), none⟩,
  ⟨some 60, .move (.tmp 75), none⟩])))
def L21 : LCode :=
 .seq (.region [⟨some 1, .box 42 11 (.tmp 0), none⟩,
  ⟨some 2, .move (.const (.int .i64 0)), none⟩])
 (.seq (.seq (.region [⟨some 14, .off 0 (.tmp 1), none⟩,
  ⟨some 15, .load false 1 (.tmp 14), none⟩,
  ⟨some 16, .off 1 (.tmp 1), none⟩,
  ⟨some 17, .load false 1 (.tmp 16), none⟩,
  ⟨some 18, .call 33 [.tmp 15, .tmp 17], none⟩,
  ⟨some 13, .move (.tmp 18), none⟩,
  ⟨some 19, .extract (.tmp 13) 0, none⟩,
  ⟨some 20, .extract (.tmp 13) 1, none⟩,
  ⟨some 3, .move (.tmp 19), none⟩,
  ⟨some 4, .move (.tmp 20), none⟩])
 (.seq (.region [⟨some 21, .move (.tmp 4), none⟩,
  ⟨some 22, .bin .neq (.tmp 21) (.const (.int .i64 0)), none⟩])
 (.cond (.tmp 22) (.seq (.region [⟨some 23, .move (.tmp 4), none⟩,
  ⟨some 2, .move (.tmp 23), none⟩])
 (.ret))
 (.skip))))
 (.seq (.seq (.region [⟨some 25, .off 2 (.tmp 1), none⟩,
  ⟨some 26, .load false 1 (.tmp 25), none⟩,
  ⟨some 27, .call 34 [.tmp 26], none⟩,
  ⟨some 24, .move (.tmp 27), none⟩,
  ⟨some 28, .extract (.tmp 24) 0, none⟩,
  ⟨some 29, .extract (.tmp 24) 1, none⟩,
  ⟨some 5, .move (.tmp 28), none⟩,
  ⟨some 6, .move (.tmp 29), none⟩])
 (.seq (.region [⟨some 30, .move (.tmp 6), none⟩,
  ⟨some 31, .bin .neq (.tmp 30) (.const (.int .i64 0)), none⟩])
 (.cond (.tmp 31) (.seq (.region [⟨some 32, .move (.tmp 6), none⟩,
  ⟨some 2, .move (.tmp 32), none⟩])
 (.ret))
 (.skip))))
 (.seq (.seq (.region [⟨some 33, .off 3 (.tmp 1), none⟩,
  ⟨some 34, .load false 1 (.tmp 33), none⟩,
  ⟨some 35, .bin .lss (.tmp 34) (.const (.int .i64 1)), none⟩,
  ⟨some 36, .move (.tmp 35), none⟩,
  ⟨some 37, .off 3 (.tmp 1), (some (36, false))⟩,
  ⟨some 38, .load false 1 (.tmp 37), (some (36, false))⟩,
  ⟨some 39, .bin .gtr (.tmp 38) (.const (.int .i64 4000)), (some (36, false))⟩,
  ⟨some 40, .pick (.tmp 36) (.const (.bool true)) (.tmp 39), none⟩])
 (.cond (.tmp 40) (.seq (.region [⟨some 2, .move (.const (.int .i64 110)), none⟩])
 (.ret))
 (.skip)))
 (.seq (.seq (.region [⟨some 42, .off 4 (.tmp 1), none⟩,
  ⟨some 43, .load true 6 (.tmp 42), none⟩,
  ⟨some 44, .call 22 [.tmp 43], none⟩,
  ⟨some 41, .move (.tmp 44), none⟩,
  ⟨some 45, .extract (.tmp 41) 0, none⟩,
  ⟨some 46, .extract (.tmp 41) 1, none⟩,
  ⟨some 7, .move (.tmp 45), none⟩,
  ⟨some 8, .move (.tmp 46), none⟩])
 (.seq (.region [⟨some 47, .move (.tmp 8), none⟩,
  ⟨some 48, .bin .neq (.tmp 47) (.const (.int .i64 0)), none⟩])
 (.cond (.tmp 48) (.seq (.region [⟨some 49, .move (.tmp 8), none⟩,
  ⟨some 2, .move (.tmp 49), none⟩])
 (.ret))
 (.skip))))
 (.seq (.seq (.draw [⟨⟨some 50, .off 10 (.tmp 1), none⟩, .pure, 0, 1⟩,
  ⟨⟨some 51, .load false 1 (.tmp 50), none⟩, .read, 0, 1⟩,
  ⟨⟨some 52, .len (.tmp 51), none⟩, .pure, 0, 1⟩,
  ⟨⟨some 53, .off 4 (.tmp 1), none⟩, .pure, 0, 0⟩,
  ⟨⟨some 54, .load true 6 (.tmp 53), none⟩, .read, 0, 0⟩,
  ⟨⟨some 55, .call 35 [.tmp 54], none⟩, .heavy, 0, 1⟩,
  ⟨⟨some 56, .bin .neq (.tmp 52) (.tmp 55), none⟩, .pure, 1, 1⟩])
 (.cond (.tmp 56) (.seq (.region [⟨some 2, .move (.const (.int .i64 170)), none⟩])
 (.ret))
 (.skip)))
 (.seq (.seq (.region [⟨some 57, .off 10 (.tmp 1), none⟩,
  ⟨some 58, .load false 1 (.tmp 57), none⟩,
  ⟨some 59, .len (.tmp 58), none⟩,
  ⟨some 60, .move (.const (.int .i64 0)), none⟩])
 (.block 0 (.loop L21_1)))
 (.seq (.region [⟨some 2, .move (.const (.int .i64 0)), none⟩])
 (.ret))))))))
theorem light21 : Light Try.prog 21 1 76 L21 [.tmp 2] :=
  ⟨Try.f21, _, Try.func21, rfl, rfl, by kernel_rfl, by kernel_rfl, by decide⟩

/-! ### function 22: outrider/plan.Count -/
def L22 : LCode :=
 .seq (.region [⟨some 1, .box 39 6 (.tmp 0), none⟩,
  ⟨some 2, .move (.const (.int .i64 0)), none⟩,
  ⟨some 3, .move (.const (.int .i64 0)), none⟩])
 (.seq (.seq (.region [⟨some 4, .off 0 (.tmp 1), none⟩,
  ⟨some 5, .load false 1 (.tmp 4), none⟩])
 (.block 0 (.seq (.region [⟨some 7, .bin .eql (.tmp 5) (.const (.int .i64 1)), none⟩,
  ⟨some 6, .move (.tmp 7), none⟩])
 (.cond (.tmp 6) (.seq (.seq (.region [⟨some 8, .off 4 (.tmp 1), none⟩,
  ⟨some 9, .load false 1 (.tmp 8), none⟩,
  ⟨some 10, .bin .neq (.tmp 9) (.const (.int .i64 0)), none⟩,
  ⟨some 11, .move (.tmp 10), none⟩,
  ⟨some 12, .off 5 (.tmp 1), (some (11, false))⟩,
  ⟨some 13, .load false 1 (.tmp 12), (some (11, false))⟩,
  ⟨some 14, .bin .neq (.tmp 13) (.const (.int .i64 0)), (some (11, false))⟩,
  ⟨some 15, .pick (.tmp 11) (.const (.bool true)) (.tmp 14), none⟩])
 (.cond (.tmp 15) (.seq (.region [⟨some 2, .move (.const (.int .i64 0)), none⟩,
  ⟨some 3, .move (.const (.int .i64 152)), none⟩])
 (.ret))
 (.skip)))
 (.seq (.region [⟨some 16, .load true 6 (.tmp 1), none⟩,
  ⟨some 17, .call 37 [.tmp 16], none⟩,
  ⟨some 18, .extract (.tmp 17) 0, none⟩,
  ⟨some 19, .extract (.tmp 17) 1, none⟩,
  ⟨some 2, .move (.tmp 18), none⟩,
  ⟨some 3, .move (.tmp 19), none⟩])
 (.ret)))
 (.seq (.region [⟨some 21, .bin .eql (.tmp 5) (.const (.int .i64 2)), none⟩,
  ⟨some 20, .move (.tmp 21), none⟩])
 (.cond (.tmp 20) (.seq (.seq (.region [⟨some 22, .off 1 (.tmp 1), none⟩,
  ⟨some 23, .load false 1 (.tmp 22), none⟩,
  ⟨some 24, .bin .neq (.tmp 23) (.const (.int .i64 0)), none⟩,
  ⟨some 25, .move (.tmp 24), none⟩,
  ⟨some 26, .off 2 (.tmp 1), (some (25, false))⟩,
  ⟨some 27, .load false 1 (.tmp 26), (some (25, false))⟩,
  ⟨some 28, .bin .neq (.tmp 27) (.const (.int .i64 0)), (some (25, false))⟩,
  ⟨some 29, .pick (.tmp 25) (.const (.bool true)) (.tmp 28), none⟩,
  ⟨some 30, .move (.tmp 29), none⟩,
  ⟨some 31, .off 3 (.tmp 1), (some (30, false))⟩,
  ⟨some 32, .load false 1 (.tmp 31), (some (30, false))⟩,
  ⟨some 33, .bin .neq (.tmp 32) (.const (.int .i64 0)), (some (30, false))⟩,
  ⟨some 34, .pick (.tmp 30) (.const (.bool true)) (.tmp 33), none⟩])
 (.cond (.tmp 34) (.seq (.region [⟨some 2, .move (.const (.int .i64 0)), none⟩,
  ⟨some 3, .move (.const (.int .i64 152)), none⟩])
 (.ret))
 (.skip)))
 (.seq (.seq (.region [⟨some 35, .off 4 (.tmp 1), none⟩,
  ⟨some 36, .load false 1 (.tmp 35), none⟩,
  ⟨some 37, .bin .lss (.tmp 36) (.const (.int .i64 0)), none⟩,
  ⟨some 38, .move (.tmp 37), none⟩,
  ⟨some 39, .off 5 (.tmp 1), (some (38, false))⟩,
  ⟨some 40, .load false 1 (.tmp 39), (some (38, false))⟩,
  ⟨some 41, .bin .lss (.tmp 40) (.const (.int .i64 1)), (some (38, false))⟩,
  ⟨some 42, .pick (.tmp 38) (.const (.bool true)) (.tmp 41), none⟩,
  ⟨some 43, .move (.tmp 42), none⟩,
  ⟨some 44, .off 5 (.tmp 1), (some (43, false))⟩,
  ⟨some 45, .load false 1 (.tmp 44), (some (43, false))⟩,
  ⟨some 46, .bin .gtr (.tmp 45) (.const (.int .i64 6)), (some (43, false))⟩,
  ⟨some 47, .pick (.tmp 43) (.const (.bool true)) (.tmp 46), none⟩])
 (.cond (.tmp 47) (.seq (.region [⟨some 2, .move (.const (.int .i64 0)), none⟩,
  ⟨some 3, .move (.const (.int .i64 152)), none⟩])
 (.ret))
 (.skip)))
 (.seq (.seq (.draw [⟨⟨some 48, .off 4 (.tmp 1), none⟩, .pure, 0, 0⟩,
  ⟨⟨some 49, .load false 1 (.tmp 48), none⟩, .read, 0, 0⟩,
  ⟨⟨some 50, .off 5 (.tmp 1), none⟩, .pure, 0, 0⟩,
  ⟨⟨some 51, .load false 1 (.tmp 50), none⟩, .read, 0, 0⟩,
  ⟨⟨some 52, .bin .quo (.const (.int .i64 200)) (.tmp 51), none⟩, .pure, 0, 0⟩,
  ⟨⟨some 53, .bin .gtr (.tmp 49) (.tmp 52), none⟩, .pure, 0, 0⟩])
 (.cond (.tmp 53) (.seq (.region [⟨some 2, .move (.const (.int .i64 0)), none⟩,
  ⟨some 3, .move (.const (.int .i64 151)), none⟩])
 (.ret))
 (.skip)))
 (.seq (.region [⟨some 54, .off 4 (.tmp 1), none⟩,
  ⟨some 55, .load false 1 (.tmp 54), none⟩,
  ⟨some 56, .off 5 (.tmp 1), none⟩,
  ⟨some 57, .load false 1 (.tmp 56), none⟩,
  ⟨some 58, .bin .mul (.tmp 55) (.tmp 57), none⟩,
  ⟨some 2, .move (.tmp 58), none⟩,
  ⟨some 3, .move (.const (.int .i64 0)), none⟩])
 (.ret)))))
 (.skip)))))))
 (.seq (.region [⟨some 2, .move (.const (.int .i64 0)), none⟩,
  ⟨some 3, .move (.const (.int .i64 152)), none⟩])
 (.ret)))
theorem light22 : Light Try.prog 22 1 59 L22 [.tmp 2, .tmp 3] :=
  ⟨Try.f22, _, Try.func22, rfl, rfl, by kernel_rfl, by kernel_rfl, by decide⟩

/-! ### function 23: outrider/fold.Begin -/
def L23_1 : LCode :=
 .seq (.region [⟨some 30, .bin .lss (.tmp 29) (.tmp 28), none⟩])
 (.seq (.cond (.tmp 30) (.skip)
 (.exit 0))
 (.seq (.block 1 (.seq (.region [⟨some 31, .idx 2 (.tmp 27) (.tmp 29), none⟩,
  ⟨some 32, .load true 2 (.tmp 31), none⟩,
  ⟨some 9, .new 98 2 [.int .i64 0, .int .i64 0], none⟩,
  ⟨none, .store 2 (.tmp 9) (.tmp 32), none⟩])
 (.region [⟨some 33, .off 2 (.tmp 7), none⟩,
  ⟨some 34, .load false 1 (.tmp 33), none⟩,
  ⟨some 35, .off 1 (.tmp 9), none⟩,
  ⟨some 36, .load false 1 (.tmp 35), none⟩,
  ⟨some 37, .buildSlice 2 1 1 [.int .i64 0] [(0, 1, .tmp 36)], none⟩,
  ⟨some 38, .append 2 1 8 (.tmp 34) (.tmp 37), none⟩,
  ⟨some 39, .off 2 (.tmp 7), none⟩,
  ⟨none, .store 1 (.tmp 39) (.tmp 38), none⟩])))
 (.region [⟨some 40, .bin .add (.tmp 29) (.const (.int .i64 1)), none⟩,
  ⟨some 29, .move (.tmp 40), none⟩])))
def L23 : LCode :=
 .seq (.region [⟨some 1, .box 42 11 (.tmp 0), none⟩,
  ⟨some 2, .new 70 7 [.slice none 0 0, .slice none 0 0, .slice none 0 0, .int .i64 0, .int .i64 0, .int .i64 0, .int .i64 0], none⟩,
  ⟨some 3, .move (.const (.int .i64 0)), none⟩])
 (.seq (.seq (.region [⟨some 10, .load true 11 (.tmp 1), none⟩,
  ⟨some 11, .call 21 [.tmp 10], none⟩,
  ⟨some 4, .move (.tmp 11), none⟩])
 (.seq (.region [⟨some 12, .move (.tmp 4), none⟩,
  ⟨some 13, .bin .neq (.tmp 12) (.const (.int .i64 0)), none⟩])
 (.cond (.tmp 13) (.seq (.region [⟨some 14, .build [.slice none 0 0, .slice none 0 0, .slice none 0 0, .int .i64 0, .int .i64 0, .int .i64 0, .int .i64 0] [], none⟩,
  ⟨some 15, .move (.tmp 4), none⟩,
  ⟨none, .store 7 (.tmp 2) (.tmp 14), none⟩,
  ⟨some 3, .move (.tmp 15), none⟩])
 (.ret))
 (.skip))))
 (.seq (.region [⟨some 17, .off 0 (.tmp 1), none⟩,
  ⟨some 18, .load false 1 (.tmp 17), none⟩,
  ⟨some 19, .off 1 (.tmp 1), none⟩,
  ⟨some 20, .load false 1 (.tmp 19), none⟩,
  ⟨some 21, .call 33 [.tmp 18, .tmp 20], none⟩,
  ⟨some 16, .move (.tmp 21), none⟩,
  ⟨some 22, .extract (.tmp 16) 0, none⟩,
  ⟨some 23, .extract (.tmp 16) 1, none⟩,
  ⟨some 5, .move (.tmp 22), none⟩,
  ⟨some 6, .move (.tmp 23), none⟩])
 (.seq (.region [⟨some 24, .move (.tmp 5), none⟩,
  ⟨some 25, .build [.slice none 0 0, .slice none 0 0, .slice none 0 0, .int .i64 0, .int .i64 0, .int .i64 0, .int .i64 0] [(0, 1, .tmp 24)], none⟩,
  ⟨some 7, .new 70 7 [.slice none 0 0, .slice none 0 0, .slice none 0 0, .int .i64 0, .int .i64 0, .int .i64 0, .int .i64 0], none⟩,
  ⟨none, .store 7 (.tmp 7) (.tmp 25), none⟩])
 (.seq (.seq (.region [⟨some 26, .off 2 (.tmp 1), none⟩,
  ⟨some 27, .load false 1 (.tmp 26), none⟩,
  ⟨some 28, .len (.tmp 27), none⟩,
  ⟨some 29, .move (.const (.int .i64 0)), none⟩])
 (.block 0 (.loop L23_1)))
 (.seq (.region [⟨some 41, .load true 7 (.tmp 7), none⟩,
  ⟨none, .store 7 (.tmp 2) (.tmp 41), none⟩,
  ⟨some 3, .move (.const (.int .i64 0)), none⟩])
 (.ret))))))
theorem light23 : Light Try.prog 23 1 42 L23 [.cell 2 true 7, .tmp 3] :=
  ⟨Try.f23, _, Try.func23, rfl, rfl, by kernel_rfl, by kernel_rfl, by decide⟩

/-! ### function 24: outrider/flow.alone -/
def L24_1 : LCode :=
 .block 1 (.seq (.region [⟨some 14, .move (.const (.int .i64 0)), none⟩])
 (.seq (.seq (.region [⟨some 46, .move (.tmp 11), none⟩,
  ⟨some 47, .call 41 [.tmp 46], none⟩,
  ⟨some 15, .new 107 3 [.int .i64 0, .int .i64 0, .int .i64 0], none⟩,
  ⟨none, .store 3 (.tmp 15) (.tmp 47), none⟩])
 (.seq (.region [⟨some 48, .off 0 (.tmp 15), none⟩,
  ⟨some 49, .load false 1 (.tmp 48), none⟩])
 (.block 2 (.seq (.region [⟨some 51, .bin .eql (.tmp 49) (.const (.int .i64 1)), none⟩,
  ⟨some 50, .move (.tmp 51), none⟩])
 (.cond (.tmp 50) (.seq (.region [⟨some 52, .move (.tmp 13), none⟩,
  ⟨some 53, .off 1 (.tmp 15), none⟩,
  ⟨some 54, .load false 1 (.tmp 53), none⟩,
  ⟨some 55, .call 42 [.tmp 52, .tmp 54], none⟩])
 (.region [⟨some 56, .move (.tmp 2), none⟩,
  ⟨some 57, .off 1 (.tmp 15), none⟩,
  ⟨some 58, .load false 1 (.tmp 57), none⟩,
  ⟨some 59, .idx 1 (.tmp 56) (.tmp 58), none⟩,
  ⟨some 60, .load false 1 (.tmp 59), none⟩,
  ⟨some 14, .move (.tmp 60), none⟩]))
 (.seq (.region [⟨some 62, .bin .eql (.tmp 49) (.const (.int .i64 2)), none⟩,
  ⟨some 61, .move (.tmp 62), none⟩])
 (.cond (.tmp 61) (.seq (.region [⟨some 63, .move (.tmp 13), none⟩,
  ⟨some 64, .off 1 (.tmp 15), none⟩,
  ⟨some 65, .load false 1 (.tmp 64), none⟩,
  ⟨some 66, .call 43 [.tmp 63, .tmp 65], none⟩])
 (.region [⟨some 67, .move (.tmp 2), none⟩,
  ⟨some 68, .off 1 (.tmp 15), none⟩,
  ⟨some 69, .load false 1 (.tmp 68), none⟩,
  ⟨some 70, .off 2 (.tmp 15), none⟩,
  ⟨some 71, .load false 1 (.tmp 70), none⟩,
  ⟨some 72, .idx 1 (.tmp 67) (.tmp 69), none⟩,
  ⟨none, .store 1 (.tmp 72) (.tmp 71), none⟩]))
 (.skip))))))))
 (.seq (.region [⟨some 73, .move (.tmp 11), none⟩,
  ⟨some 74, .move (.tmp 14), none⟩,
  ⟨some 75, .call 44 [.tmp 73, .tmp 74], none⟩,
  ⟨some 76, .un .not (.tmp 75), none⟩])
 (.cond (.tmp 76) (.exit 0)
 (.skip)))))
def L24 : LCode :=
 .seq (.region [⟨some 3, .box 42 11 (.tmp 0), none⟩,
  ⟨some 6, .move (.const (.pointer none)), none⟩,
  ⟨some 7, .move (.const (.bool false)), none⟩])
 (.seq (.region [⟨some 19, .off 4 (.tmp 3), none⟩,
  ⟨some 20, .load true 6 (.tmp 19), none⟩,
  ⟨some 21, .move (.tmp 1), none⟩,
  ⟨some 22, .call 38 [.tmp 20, .tmp 21], none⟩,
  ⟨some 18, .move (.tmp 22), none⟩,
  ⟨some 23, .extract (.tmp 18) 0, none⟩,
  ⟨some 24, .extract (.tmp 18) 1, none⟩,
  ⟨some 25, .extract (.tmp 18) 2, none⟩,
  ⟨some 8, .move (.tmp 23), none⟩,
  ⟨some 9, .move (.tmp 24), none⟩,
  ⟨some 10, .move (.tmp 25), none⟩])
 (.seq (.draw [⟨⟨some 27, .off 10 (.tmp 3), none⟩, .pure, 0, 0⟩,
  ⟨⟨some 28, .load false 1 (.tmp 27), none⟩, .read, 0, 0⟩,
  ⟨⟨some 29, .move (.tmp 9), none⟩, .pure, 0, 0⟩,
  ⟨⟨some 30, .idx 1 (.tmp 28) (.tmp 29), none⟩, .pure, 0, 0⟩,
  ⟨⟨some 31, .load false 1 (.tmp 30), none⟩, .read, 0, 0⟩,
  ⟨⟨some 32, .off 2 (.tmp 3), none⟩, .pure, 0, 0⟩,
  ⟨⟨some 33, .load false 1 (.tmp 32), none⟩, .read, 0, 0⟩,
  ⟨⟨some 34, .len (.tmp 33), none⟩, .pure, 0, 0⟩,
  ⟨⟨some 35, .off 0 (.tmp 3), none⟩, .pure, 0, 0⟩,
  ⟨⟨some 36, .load false 1 (.tmp 35), none⟩, .read, 0, 0⟩,
  ⟨⟨some 37, .off 3 (.tmp 3), none⟩, .pure, 0, 0⟩,
  ⟨⟨some 38, .load false 1 (.tmp 37), none⟩, .read, 0, 0⟩,
  ⟨⟨some 39, .move (.tmp 1), none⟩, .pure, 0, 0⟩,
  ⟨⟨some 40, .move (.tmp 8), none⟩, .pure, 0, 0⟩,
  ⟨⟨some 41, .move (.tmp 9), none⟩, .pure, 0, 0⟩,
  ⟨⟨some 42, .call 39 [.tmp 31, .tmp 34, .tmp 36, .tmp 38, .tmp 39, .tmp 40, .tmp 41], none⟩, .heavy, 0, 1⟩,
  ⟨⟨some 26, .move (.tmp 42), none⟩, .pure, 1, 1⟩,
  ⟨⟨some 43, .extract (.tmp 26) 0, none⟩, .pure, 1, 1⟩,
  ⟨⟨some 44, .extract (.tmp 26) 1, none⟩, .pure, 1, 1⟩,
  ⟨⟨some 11, .move (.tmp 43), none⟩, .pure, 1, 1⟩,
  ⟨⟨some 12, .move (.tmp 44), none⟩, .pure, 1, 1⟩])
 (.seq (.region [⟨some 45, .call 40 [], none⟩,
  ⟨some 13, .move (.tmp 45), none⟩])
 (.seq (.block 0 (.loop L24_1))
 (.seq (.region [⟨some 78, .move (.tmp 11), none⟩,
  ⟨some 79, .call 45 [.tmp 78], none⟩,
  ⟨some 77, .move (.tmp 79), none⟩,
  ⟨some 80, .extract (.tmp 77) 0, none⟩,
  ⟨some 81, .extract (.tmp 77) 1, none⟩,
  ⟨some 16, .move (.tmp 80), none⟩,
  ⟨some 17, .move (.tmp 81), none⟩])
 (.seq (.region [⟨some 82, .move (.tmp 13), none⟩,
  ⟨some 83, .move (.tmp 16), none⟩,
  ⟨some 84, .bin .eql (.tmp 83) (.const (.int .i64 1)), none⟩,
  ⟨some 6, .move (.tmp 82), none⟩,
  ⟨some 7, .move (.tmp 84), none⟩])
 (.ret)))))))
theorem light24 : Light Try.prog 24 3 85 L24 [.tmp 6, .tmp 7] :=
  ⟨Try.f24, _, Try.func24, rfl, rfl, by kernel_rfl, by kernel_rfl, by decide⟩

/-! ### function 25: (*outrider/flow.book).commit -/
def L25_1 : LCode :=
 .seq (.region [⟨some 33, .bin .lss (.tmp 32) (.tmp 31), none⟩])
 (.seq (.cond (.tmp 33) (.skip)
 (.exit 0))
 (.seq (.block 1 (.seq (.region [⟨some 34, .idx 1 (.tmp 30) (.tmp 32), none⟩,
  ⟨some 35, .load false 1 (.tmp 34), none⟩,
  ⟨some 9, .move (.tmp 35), none⟩])
 (.seq (.region [⟨some 37, .move (.tmp 0), none⟩,
  ⟨some 38, .nilCheck (.tmp 37), none⟩,
  ⟨some 39, .off 1 (.tmp 38), none⟩,
  ⟨some 40, .load false 1 (.tmp 39), none⟩,
  ⟨some 41, .move (.tmp 9), none⟩,
  ⟨some 42, .lookup (.int .i64) (.int .i64 0) true (.tmp 40) (.tmp 41), none⟩,
  ⟨some 36, .move (.tmp 42), none⟩,
  ⟨some 43, .extract (.tmp 36) 0, none⟩,
  ⟨some 44, .extract (.tmp 36) 1, none⟩,
  ⟨some 10, .move (.tmp 43), none⟩,
  ⟨some 11, .move (.tmp 44), none⟩])
 (.seq (.region [⟨some 45, .move (.tmp 11), none⟩])
 (.cond (.tmp 45) (.region [⟨some 46, .move (.tmp 7), none⟩,
  ⟨some 47, .move (.tmp 10), none⟩,
  ⟨some 48, .call 47 [.tmp 46, .tmp 47], none⟩])
 (.skip))))))
 (.region [⟨some 49, .bin .add (.tmp 32) (.const (.int .i64 1)), none⟩,
  ⟨some 32, .move (.tmp 49), none⟩])))
def L25_2 : LCode :=
 .seq (.region [⟨some 58, .bin .lss (.tmp 57) (.tmp 56), none⟩])
 (.seq (.cond (.tmp 58) (.skip)
 (.exit 2))
 (.seq (.block 3 (.seq (.region [⟨some 59, .idx 1 (.tmp 55) (.tmp 57), none⟩,
  ⟨some 60, .load false 1 (.tmp 59), none⟩,
  ⟨some 13, .move (.tmp 60), none⟩])
 (.draw [⟨⟨some 61, .off 4 (.tmp 6), none⟩, .pure, 0, 0⟩,
  ⟨⟨some 62, .load false 1 (.tmp 61), none⟩, .read, 0, 0⟩,
  ⟨⟨some 63, .move (.tmp 0), none⟩, .pure, 0, 0⟩,
  ⟨⟨some 64, .nilCheck (.tmp 63), none⟩, .pure, 0, 0⟩,
  ⟨⟨some 65, .off 0 (.tmp 64), none⟩, .pure, 0, 0⟩,
  ⟨⟨some 66, .load false 1 (.tmp 65), none⟩, .read, 0, 0⟩,
  ⟨⟨some 67, .move (.tmp 13), none⟩, .pure, 0, 0⟩,
  ⟨⟨some 68, .idx 5 (.tmp 66) (.tmp 67), none⟩, .pure, 0, 0⟩,
  ⟨⟨some 69, .off 4 (.tmp 68), none⟩, .pure, 0, 0⟩,
  ⟨⟨some 70, .load false 1 (.tmp 69), none⟩, .read, 0, 0⟩,
  ⟨⟨some 71, .bin .add (.tmp 70) (.const (.int .i64 1)), none⟩, .pure, 0, 0⟩,
  ⟨⟨some 72, .minmax true (.tmp 62) [.tmp 71], none⟩, .pure, 0, 0⟩,
  ⟨⟨some 73, .off 4 (.tmp 6), none⟩, .pure, 0, 0⟩,
  ⟨⟨none, .store 1 (.tmp 73) (.tmp 72), none⟩, .heavy, 0, 1⟩])))
 (.region [⟨some 74, .bin .add (.tmp 57) (.const (.int .i64 1)), none⟩,
  ⟨some 57, .move (.tmp 74), none⟩])))
def L25_3 : LCode :=
 .seq (.region [⟨some 79, .bin .lss (.tmp 78) (.tmp 77), none⟩])
 (.seq (.cond (.tmp 79) (.skip)
 (.exit 4))
 (.seq (.block 5 (.seq (.region [⟨some 80, .idx 1 (.tmp 76) (.tmp 78), none⟩,
  ⟨some 81, .load false 1 (.tmp 80), none⟩,
  ⟨some 15, .move (.tmp 81), none⟩])
 (.region [⟨some 82, .move (.tmp 0), none⟩,
  ⟨some 83, .nilCheck (.tmp 82), none⟩,
  ⟨some 84, .off 1 (.tmp 83), none⟩,
  ⟨some 85, .load false 1 (.tmp 84), none⟩,
  ⟨some 86, .move (.tmp 15), none⟩,
  ⟨some 87, .move (.tmp 1), none⟩,
  ⟨none, .mapUpdate (.int .i64) (.tmp 85) (.tmp 86) (.tmp 87), none⟩])))
 (.region [⟨some 88, .bin .add (.tmp 78) (.const (.int .i64 1)), none⟩,
  ⟨some 78, .move (.tmp 88), none⟩])))
def L25 : LCode :=
 .seq (.tree (.light ⟨some 16, .move (.tmp 1), none⟩ (.light ⟨some 17, .move (.tmp 2), none⟩ (.light ⟨some 18, .nilCheck (.tmp 17), none⟩ (.light ⟨some 19, .off 0 (.tmp 18), none⟩ (.light ⟨some 20, .load false 1 (.tmp 19), none⟩ (.light ⟨some 22, .move (.tmp 2), none⟩ (.light ⟨some 23, .nilCheck (.tmp 22), none⟩ (.light ⟨some 24, .off 1 (.tmp 23), none⟩ (.light ⟨some 25, .load false 1 (.tmp 24), none⟩ (.fork ⟨some 21, .call 46 [.tmp 20], none⟩ (.again ⟨some 25, .load false 1 (.tmp 24), none⟩ (.fork ⟨some 26, .call 46 [.tmp 25], none⟩ (.light ⟨some 27, .build [.int .i64 0, .slice none 0 0, .slice none 0 0, .slice none 0 0, .int .i64 0] [(0, 1, .tmp 16), (1, 1, .tmp 21), (2, 1, .tmp 26)], none⟩ (.fork ⟨some 6, .new 26 5 [.int .i64 0, .slice none 0 0, .slice none 0 0, .slice none 0 0, .int .i64 0], none⟩ (.fork ⟨none, .store 5 (.tmp 6) (.tmp 27), none⟩ (.done)
 (.stop))
 (.stop)))
 (.fork ⟨some 6, .new 26 5 [.int .i64 0, .slice none 0 0, .slice none 0 0, .slice none 0 0, .int .i64 0], none⟩ (.again ⟨some 25, .load false 1 (.tmp 24), none⟩ (.fork ⟨some 26, .call 46 [.tmp 25], none⟩ (.light ⟨some 27, .build [.int .i64 0, .slice none 0 0, .slice none 0 0, .slice none 0 0, .int .i64 0] [(0, 1, .tmp 16), (1, 1, .tmp 21), (2, 1, .tmp 26)], none⟩ (.fork ⟨none, .store 5 (.tmp 6) (.tmp 27), none⟩ (.done)
 (.stop)))
 (.stop)))
 (.stop))))
 (.fork ⟨some 6, .new 26 5 [.int .i64 0, .slice none 0 0, .slice none 0 0, .slice none 0 0, .int .i64 0], none⟩ (.again ⟨some 20, .load false 1 (.tmp 19), none⟩ (.again ⟨some 25, .load false 1 (.tmp 24), none⟩ (.fork ⟨some 21, .call 46 [.tmp 20], none⟩ (.again ⟨some 25, .load false 1 (.tmp 24), none⟩ (.fork ⟨some 26, .call 46 [.tmp 25], none⟩ (.light ⟨some 27, .build [.int .i64 0, .slice none 0 0, .slice none 0 0, .slice none 0 0, .int .i64 0] [(0, 1, .tmp 16), (1, 1, .tmp 21), (2, 1, .tmp 26)], none⟩ (.fork ⟨none, .store 5 (.tmp 6) (.tmp 27), none⟩ (.done)
 (.stop)))
 (.stop)))
 (.stop))))
 (.stop)))))))))))))
 (.seq (.region [⟨some 28, .makeMap, none⟩,
  ⟨some 7, .move (.tmp 28), none⟩])
 (.seq (.seq (.region [⟨some 29, .off 1 (.tmp 6), none⟩,
  ⟨some 30, .load false 1 (.tmp 29), none⟩,
  ⟨some 31, .len (.tmp 30), none⟩,
  ⟨some 32, .move (.const (.int .i64 0)), none⟩])
 (.block 0 (.loop L25_1)))
 (.seq (.region [⟨some 50, .move (.tmp 7), none⟩,
  ⟨some 51, .call 46 [.tmp 50], none⟩,
  ⟨some 52, .off 3 (.tmp 6), none⟩,
  ⟨none, .store 1 (.tmp 52) (.tmp 51), none⟩,
  ⟨some 53, .off 4 (.tmp 6), none⟩,
  ⟨none, .store 1 (.tmp 53) (.const (.int .i64 1)), none⟩])
 (.seq (.seq (.region [⟨some 54, .off 3 (.tmp 6), none⟩,
  ⟨some 55, .load false 1 (.tmp 54), none⟩,
  ⟨some 56, .len (.tmp 55), none⟩,
  ⟨some 57, .move (.const (.int .i64 0)), none⟩])
 (.block 2 (.loop L25_2)))
 (.seq (.seq (.region [⟨some 75, .off 2 (.tmp 6), none⟩,
  ⟨some 76, .load false 1 (.tmp 75), none⟩,
  ⟨some 77, .len (.tmp 76), none⟩,
  ⟨some 78, .move (.const (.int .i64 0)), none⟩])
 (.block 4 (.loop L25_3)))
 (.draw [⟨⟨some 89, .move (.tmp 0), none⟩, .pure, 0, 2⟩,
  ⟨⟨some 90, .move (.tmp 0), none⟩, .pure, 0, 1⟩,
  ⟨⟨some 91, .nilCheck (.tmp 90), none⟩, .pure, 0, 1⟩,
  ⟨⟨some 92, .off 0 (.tmp 91), none⟩, .pure, 0, 1⟩,
  ⟨⟨some 93, .load false 1 (.tmp 92), none⟩, .read, 0, 1⟩,
  ⟨⟨some 94, .load true 5 (.tmp 6), none⟩, .read, 0, 0⟩,
  ⟨⟨some 95, .buildSlice 26 5 1 [.int .i64 0, .slice none 0 0, .slice none 0 0, .slice none 0 0, .int .i64 0] [(0, 5, .tmp 94)], none⟩, .heavy, 0, 1⟩,
  ⟨⟨some 96, .append 26 5 88 (.tmp 93) (.tmp 95), none⟩, .heavy, 1, 2⟩,
  ⟨⟨some 97, .nilCheck (.tmp 89), none⟩, .pure, 2, 2⟩,
  ⟨⟨some 98, .off 0 (.tmp 97), none⟩, .pure, 2, 2⟩,
  ⟨⟨none, .store 1 (.tmp 98) (.tmp 96), none⟩, .heavy, 2, 3⟩]))))))
theorem lightX25 : LightX Try.prog 25 3 99 L25 [] :=
  ⟨Try.f25, _, Try.func25, rfl, rfl, by kernel_rfl, by kernel_rfl, by decide⟩

/-! ### function 26: outrider/job.Right -/
def L26_1 : LCode :=
 .seq (.region [⟨some 50, .bin .lss (.tmp 49) (.tmp 48), none⟩])
 (.seq (.cond (.tmp 50) (.skip)
 (.exit 0))
 (.seq (.block 1 (.seq (.region [⟨some 51, .idx 2 (.tmp 47) (.tmp 49), none⟩,
  ⟨some 52, .load true 2 (.tmp 51), none⟩,
  ⟨some 4, .new 118 2 [.int .i64 0, .int .i64 0], none⟩,
  ⟨none, .store 2 (.tmp 4) (.tmp 52), none⟩])
 (.seq (.region [⟨some 53, .idxArr 2 1 (.tmp 4) (.const (.int .i64 0)), none⟩,
  ⟨some 54, .load false 1 (.tmp 53), none⟩,
  ⟨some 55, .bin .lss (.tmp 54) (.const (.int .i64 1)), none⟩,
  ⟨some 56, .move (.tmp 55), none⟩,
  ⟨some 57, .idxArr 2 1 (.tmp 4) (.const (.int .i64 0)), (some (56, false))⟩,
  ⟨some 58, .load false 1 (.tmp 57), (some (56, false))⟩,
  ⟨some 59, .idxArr 2 1 (.tmp 4) (.const (.int .i64 1)), (some (56, false))⟩,
  ⟨some 60, .load false 1 (.tmp 59), (some (56, false))⟩,
  ⟨some 61, .bin .gtr (.tmp 58) (.tmp 60), (some (56, false))⟩,
  ⟨some 62, .pick (.tmp 56) (.const (.bool true)) (.tmp 61), none⟩])
 (.cond (.tmp 62) (.seq (.region [⟨some 2, .move (.const (.int .i64 172)), none⟩])
 (.ret))
 (.skip)))))
 (.region [⟨some 63, .bin .add (.tmp 49) (.const (.int .i64 1)), none⟩,
  ⟨some 49, .move (.tmp 63), none⟩])))
def L26 : LCode :=
 .seq (.region [⟨some 1, .box 45 11 (.tmp 0), none⟩,
  ⟨some 2, .move (.const (.int .i64 0)), none⟩])
 (.seq (.seq (.region [⟨some 5, .off 0 (.tmp 1), none⟩,
  ⟨some 6, .load false 1 (.tmp 5), none⟩,
  ⟨some 7, .bin .lss (.tmp 6) (.const (.int .i64 1)), none⟩,
  ⟨some 8, .move (.tmp 7), none⟩,
  ⟨some 9, .off 0 (.tmp 1), (some (8, false))⟩,
  ⟨some 10, .load false 1 (.tmp 9), (some (8, false))⟩,
  ⟨some 11, .bin .gtr (.tmp 10) (.const (.int .i64 8)), (some (8, false))⟩,
  ⟨some 12, .pick (.tmp 8) (.const (.bool true)) (.tmp 11), none⟩])
 (.cond (.tmp 12) (.seq (.region [⟨some 2, .move (.const (.int .i64 162)), none⟩])
 (.ret))
 (.skip)))
 (.seq (.seq (.region [⟨some 13, .off 2 (.tmp 1), none⟩,
  ⟨some 14, .load false 1 (.tmp 13), none⟩,
  ⟨some 15, .bin .lss (.tmp 14) (.const (.int .i64 1)), none⟩,
  ⟨some 16, .move (.tmp 15), none⟩,
  ⟨some 17, .off 2 (.tmp 1), (some (16, false))⟩,
  ⟨some 18, .load false 1 (.tmp 17), (some (16, false))⟩,
  ⟨some 19, .bin .gtr (.tmp 18) (.const (.int .i64 3)), (some (16, false))⟩,
  ⟨some 20, .pick (.tmp 16) (.const (.bool true)) (.tmp 19), none⟩])
 (.cond (.tmp 20) (.seq (.region [⟨some 2, .move (.const (.int .i64 160)), none⟩])
 (.ret))
 (.skip)))
 (.seq (.seq (.region [⟨some 21, .off 3 (.tmp 1), none⟩,
  ⟨some 22, .load false 1 (.tmp 21), none⟩,
  ⟨some 23, .bin .lss (.tmp 22) (.const (.int .i64 1)), none⟩,
  ⟨some 24, .move (.tmp 23), none⟩,
  ⟨some 25, .off 3 (.tmp 1), (some (24, false))⟩,
  ⟨some 26, .load false 1 (.tmp 25), (some (24, false))⟩,
  ⟨some 27, .bin .gtr (.tmp 26) (.const (.int .i64 200)), (some (24, false))⟩,
  ⟨some 28, .pick (.tmp 24) (.const (.bool true)) (.tmp 27), none⟩])
 (.cond (.tmp 28) (.seq (.region [⟨some 2, .move (.const (.int .i64 161)), none⟩])
 (.ret))
 (.skip)))
 (.seq (.seq (.region [⟨some 29, .off 1 (.tmp 1), none⟩,
  ⟨some 30, .load false 1 (.tmp 29), none⟩,
  ⟨some 31, .build [.int .i64 0, .int .i64 0] [(0, 1, .tmp 30), (1, 1, .const (.int .i64 32))], none⟩,
  ⟨some 32, .off 4 (.tmp 1), none⟩,
  ⟨some 33, .load false 1 (.tmp 32), none⟩,
  ⟨some 34, .build [.int .i64 0, .int .i64 0] [(0, 1, .tmp 33), (1, 1, .const (.int .i64 64))], none⟩,
  ⟨some 35, .off 5 (.tmp 1), none⟩,
  ⟨some 36, .load false 1 (.tmp 35), none⟩,
  ⟨some 37, .build [.int .i64 0, .int .i64 0] [(0, 1, .tmp 36), (1, 1, .const (.int .i64 64))], none⟩,
  ⟨some 38, .off 6 (.tmp 1), none⟩,
  ⟨some 39, .load false 1 (.tmp 38), none⟩,
  ⟨some 40, .build [.int .i64 0, .int .i64 0] [(0, 1, .tmp 39), (1, 1, .const (.int .i64 64))], none⟩,
  ⟨some 41, .off 7 (.tmp 1), none⟩,
  ⟨some 42, .load false 1 (.tmp 41), none⟩,
  ⟨some 43, .build [.int .i64 0, .int .i64 0] [(0, 1, .tmp 42), (1, 1, .const (.int .i64 512))], none⟩,
  ⟨some 44, .off 8 (.tmp 1), none⟩,
  ⟨some 45, .load false 1 (.tmp 44), none⟩,
  ⟨some 46, .build [.int .i64 0, .int .i64 0] [(0, 1, .tmp 45), (1, 1, .const (.int .i64 512))], none⟩,
  ⟨some 47, .buildSlice 118 2 6 [.int .i64 0, .int .i64 0] [(0, 2, .tmp 31), (2, 2, .tmp 34), (4, 2, .tmp 37), (6, 2, .tmp 40), (8, 2, .tmp 43), (10, 2, .tmp 46)], none⟩,
  ⟨some 48, .len (.tmp 47), none⟩,
  ⟨some 49, .move (.const (.int .i64 0)), none⟩])
 (.block 0 (.loop L26_1)))
 (.seq (.seq (.region [⟨some 64, .off 9 (.tmp 1), none⟩,
  ⟨some 65, .load false 1 (.tmp 64), none⟩,
  ⟨some 66, .bin .lss (.tmp 65) (.const (.int .i64 0)), none⟩,
  ⟨some 67, .move (.tmp 66), none⟩,
  ⟨some 68, .off 9 (.tmp 1), (some (67, false))⟩,
  ⟨some 69, .load false 1 (.tmp 68), (some (67, false))⟩,
  ⟨some 70, .bin .gtr (.tmp 69) (.const (.int .i64 9)), (some (67, false))⟩,
  ⟨some 71, .pick (.tmp 67) (.const (.bool true)) (.tmp 70), none⟩])
 (.cond (.tmp 71) (.seq (.region [⟨some 2, .move (.const (.int .i64 172)), none⟩])
 (.ret))
 (.skip)))
 (.seq (.region [⟨some 2, .move (.const (.int .i64 0)), none⟩])
 (.ret)))))))
theorem light26 : Light Try.prog 26 1 72 L26 [.tmp 2] :=
  ⟨Try.f26, _, Try.func26, rfl, rfl, by kernel_rfl, by kernel_rfl, by decide⟩

/-! ### function 27: outrider/dep.near -/
def L27 : LCode :=
 .seq (.region [⟨some 2, .move (.const (.bool false)), none⟩])
 (.seq (.region [⟨some 3, .move (.tmp 0), none⟩,
  ⟨some 4, .bin .geq (.tmp 3) (.const (.int .i64 (-1073741824))), none⟩,
  ⟨some 5, .move (.tmp 4), none⟩,
  ⟨some 6, .move (.tmp 0), (some (5, true))⟩,
  ⟨some 7, .bin .leq (.tmp 6) (.const (.int .i64 1073741824)), (some (5, true))⟩,
  ⟨some 8, .pick (.tmp 5) (.tmp 7) (.const (.bool false)), none⟩,
  ⟨some 2, .move (.tmp 8), none⟩])
 (.ret))
theorem light27 : Light Try.prog 27 1 9 L27 [.tmp 2] :=
  ⟨Try.f27, _, Try.func27, rfl, rfl, by kernel_rfl, by kernel_rfl, by decide⟩

/-! ### function 28: outrider/dep.Accesses -/
def L28_1 : LCode :=
 .seq (.region [⟨some 23, .bin .lss (.tmp 22) (.const (.int .i64 16)), none⟩])
 (.seq (.cond (.tmp 23) (.skip)
 (.exit 0))
 (.seq (.block 1 (.seq (.region [⟨some 24, .move (.tmp 22), none⟩,
  ⟨some 9, .move (.tmp 24), none⟩])
 (.draw [⟨⟨some 25, .move (.tmp 8), none⟩, .pure, 0, 1⟩,
  ⟨⟨some 26, .move (.tmp 9), none⟩, .pure, 0, 1⟩,
  ⟨⟨some 27, .call 48 [.const (.int .i64 0), .const (.int .i64 0)], none⟩, .heavy, 0, 1⟩,
  ⟨⟨some 28, .nilCheck (.tmp 25), none⟩, .pure, 0, 1⟩,
  ⟨⟨some 29, .off 0 (.tmp 28), none⟩, .pure, 0, 1⟩,
  ⟨⟨some 30, .idxArr 16 3 (.tmp 29) (.tmp 26), none⟩, .pure, 1, 1⟩,
  ⟨⟨none, .store 3 (.tmp 30) (.tmp 27), none⟩, .heavy, 1, 2⟩])))
 (.region [⟨some 31, .bin .add (.tmp 22) (.const (.int .i64 1)), none⟩,
  ⟨some 22, .move (.tmp 31), none⟩])))
def L28_2 : LCode :=
 .seq (.region [⟨some 50, .bin .lss (.tmp 49) (.tmp 48), none⟩])
 (.seq (.cond (.tmp 50) (.skip)
 (.exit 2))
 (.seq (.block 3 (.seq (.region [⟨some 51, .idx 6 (.tmp 47) (.tmp 49), none⟩,
  ⟨some 52, .load true 6 (.tmp 51), none⟩,
  ⟨some 11, .new 60 6 [.int .i64 0, .int .i64 0, .int .i64 0, .int .i64 0, .int .i64 0, .int .i64 0], none⟩,
  ⟨none, .store 6 (.tmp 11) (.tmp 52), none⟩])
 (.seq (.seq (.region [⟨some 53, .off 0 (.tmp 11), none⟩,
  ⟨some 54, .load false 1 (.tmp 53), none⟩,
  ⟨some 55, .bin .eql (.tmp 54) (.const (.int .i64 1)), none⟩])
 (.cond (.tmp 55) (.seq (.region [⟨some 56, .move (.tmp 8), none⟩,
  ⟨some 57, .nilCheck (.tmp 56), none⟩,
  ⟨some 58, .off 48 (.tmp 57), none⟩,
  ⟨some 59, .load false 1 (.tmp 58), none⟩,
  ⟨some 4, .move (.tmp 59), none⟩,
  ⟨some 5, .move (.const (.bool true)), none⟩])
 (.ret))
 (.skip)))
 (.seq (.region [⟨some 60, .move (.tmp 8), none⟩,
  ⟨some 61, .load true 6 (.tmp 11), none⟩,
  ⟨some 62, .call 49 [.tmp 60, .tmp 61], none⟩,
  ⟨some 63, .un .not (.tmp 62), none⟩])
 (.cond (.tmp 63) (.seq (.region [⟨some 4, .move (.const (.slice none 0 0)), none⟩,
  ⟨some 5, .move (.const (.bool false)), none⟩])
 (.ret))
 (.skip))))))
 (.region [⟨some 64, .bin .add (.tmp 49) (.const (.int .i64 1)), none⟩,
  ⟨some 49, .move (.tmp 64), none⟩])))
def L28 : LCode :=
 .seq (.region [⟨some 4, .move (.const (.slice none 0 0)), none⟩,
  ⟨some 5, .move (.const (.bool false)), none⟩])
 (.seq (.seq (.region [⟨some 13, .move (.tmp 0), none⟩,
  ⟨some 14, .move (.tmp 1), none⟩,
  ⟨some 15, .call 36 [.tmp 13, .tmp 14], none⟩,
  ⟨some 12, .move (.tmp 15), none⟩,
  ⟨some 16, .extract (.tmp 12) 0, none⟩,
  ⟨some 17, .extract (.tmp 12) 1, none⟩,
  ⟨some 6, .move (.tmp 16), none⟩,
  ⟨some 7, .move (.tmp 17), none⟩])
 (.seq (.region [⟨some 18, .move (.tmp 7), none⟩,
  ⟨some 19, .bin .neq (.tmp 18) (.const (.int .i64 0)), none⟩])
 (.cond (.tmp 19) (.seq (.region [⟨some 4, .move (.const (.slice none 0 0)), none⟩,
  ⟨some 5, .move (.const (.bool false)), none⟩])
 (.ret))
 (.skip))))
 (.seq (.region [⟨some 20, .build [.bool false, .int .i64 0, .int .i64 0, .bool false, .int .i64 0, .int .i64 0, .bool false, .int .i64 0, .int .i64 0, .bool false, .int .i64 0, .int .i64 0, .bool false, .int .i64 0, .int .i64 0, .bool false, .int .i64 0, .int .i64 0, .bool false, .int .i64 0, .int .i64 0, .bool false, .int .i64 0, .int .i64 0, .bool false, .int .i64 0, .int .i64 0, .bool false, .int .i64 0, .int .i64 0, .bool false, .int .i64 0, .int .i64 0, .bool false, .int .i64 0, .int .i64 0, .bool false, .int .i64 0, .int .i64 0, .bool false, .int .i64 0, .int .i64 0, .bool false, .int .i64 0, .int .i64 0, .bool false, .int .i64 0, .int .i64 0, .slice none 0 0] [], none⟩,
  ⟨some 21, .box 125 49 (.tmp 20), none⟩,
  ⟨some 8, .move (.tmp 21), none⟩])
 (.seq (.seq (.region [⟨some 22, .move (.const (.int .i64 0)), none⟩])
 (.block 0 (.loop L28_1)))
 (.seq (.draw [⟨⟨some 32, .move (.tmp 8), none⟩, .pure, 0, 2⟩,
  ⟨⟨some 33, .move (.tmp 8), none⟩, .pure, 0, 3⟩,
  ⟨⟨some 34, .move (.tmp 8), none⟩, .pure, 0, 4⟩,
  ⟨⟨some 35, .build [.bool false, .int .i64 0, .int .i64 0] [], none⟩, .pure, 0, 2⟩,
  ⟨⟨some 36, .call 48 [.const (.int .i64 1), .const (.int .i64 0)], none⟩, .heavy, 0, 1⟩,
  ⟨⟨some 37, .call 48 [.const (.int .i64 0), .const (.int .i64 0)], none⟩, .heavy, 1, 2⟩,
  ⟨⟨some 38, .nilCheck (.tmp 32), none⟩, .pure, 0, 2⟩,
  ⟨⟨some 39, .off 0 (.tmp 38), none⟩, .pure, 0, 2⟩,
  ⟨⟨some 40, .idxArr 16 3 (.tmp 39) (.const (.int .i64 0)), none⟩, .pure, 2, 2⟩,
  ⟨⟨none, .store 3 (.tmp 40) (.tmp 35), none⟩, .heavy, 2, 3⟩,
  ⟨⟨some 41, .nilCheck (.tmp 33), none⟩, .pure, 0, 3⟩,
  ⟨⟨some 42, .off 0 (.tmp 41), none⟩, .pure, 0, 3⟩,
  ⟨⟨some 43, .idxArr 16 3 (.tmp 42) (.const (.int .i64 1)), none⟩, .pure, 3, 3⟩,
  ⟨⟨none, .store 3 (.tmp 43) (.tmp 36), none⟩, .heavy, 3, 4⟩,
  ⟨⟨some 44, .nilCheck (.tmp 34), none⟩, .pure, 0, 4⟩,
  ⟨⟨some 45, .off 0 (.tmp 44), none⟩, .pure, 0, 4⟩,
  ⟨⟨some 46, .idxArr 16 3 (.tmp 45) (.const (.int .i64 2)), none⟩, .pure, 4, 4⟩,
  ⟨⟨none, .store 3 (.tmp 46) (.tmp 37), none⟩, .heavy, 4, 5⟩])
 (.seq (.seq (.region [⟨some 47, .move (.tmp 0), none⟩,
  ⟨some 48, .len (.tmp 47), none⟩,
  ⟨some 49, .move (.const (.int .i64 0)), none⟩])
 (.block 2 (.loop L28_2)))
 (.seq (.region [⟨some 4, .move (.const (.slice none 0 0)), none⟩,
  ⟨some 5, .move (.const (.bool false)), none⟩])
 (.ret)))))))
theorem light28 : Light Try.prog 28 2 65 L28 [.tmp 4, .tmp 5] :=
  ⟨Try.f28, _, Try.func28, rfl, rfl, by kernel_rfl, by kernel_rfl, by decide⟩

/-! ### function 29: outrider/dep.room -/
def L29_1 : LCode :=
 .seq (.region [⟨some 19, .bin .lss (.tmp 18) (.tmp 17), none⟩])
 (.seq (.cond (.tmp 19) (.skip)
 (.exit 0))
 (.seq (.block 1 (.seq (.region [⟨some 20, .idx 6 (.tmp 16) (.tmp 18), none⟩,
  ⟨some 21, .load true 6 (.tmp 20), none⟩,
  ⟨some 12, .new 60 6 [.int .i64 0, .int .i64 0, .int .i64 0, .int .i64 0, .int .i64 0, .int .i64 0], none⟩,
  ⟨none, .store 6 (.tmp 12) (.tmp 21), none⟩])
 (.seq (.region [⟨some 22, .move (.tmp 9), none⟩,
  ⟨some 23, .bin .add (.tmp 22) (.const (.int .i64 1)), none⟩,
  ⟨some 9, .move (.tmp 23), none⟩])
 (.seq (.seq (.region [⟨some 24, .off 0 (.tmp 12), none⟩,
  ⟨some 25, .load false 1 (.tmp 24), none⟩,
  ⟨some 26, .bin .eql (.tmp 25) (.const (.int .i64 9)), none⟩])
 (.cond (.tmp 26) (.region [⟨some 27, .move (.tmp 10), none⟩,
  ⟨some 28, .bin .add (.tmp 27) (.const (.int .i64 1)), none⟩,
  ⟨some 10, .move (.tmp 28), none⟩])
 (.skip)))
 (.seq (.region [⟨some 29, .off 0 (.tmp 12), none⟩,
  ⟨some 30, .load false 1 (.tmp 29), none⟩,
  ⟨some 31, .bin .eql (.tmp 30) (.const (.int .i64 1)), none⟩])
 (.cond (.tmp 31) (.exit 0)
 (.skip)))))))
 (.region [⟨some 32, .bin .add (.tmp 18) (.const (.int .i64 1)), none⟩,
  ⟨some 18, .move (.tmp 32), none⟩])))
def L29_2 : LCode :=
 .seq (.region [⟨some 36, .bin .lss (.tmp 35) (.tmp 34), none⟩])
 (.seq (.cond (.tmp 36) (.skip)
 (.exit 2))
 (.seq (.block 3 (.seq (.region [⟨some 37, .idx 4 (.tmp 33) (.tmp 35), none⟩,
  ⟨some 38, .load true 4 (.tmp 37), none⟩,
  ⟨some 15, .new 129 4 [.bool false, .bool false, .int .i64 0, .int .i64 0], none⟩,
  ⟨none, .store 4 (.tmp 15) (.tmp 38), none⟩])
 (.seq (.region [⟨some 39, .off 0 (.tmp 15), none⟩,
  ⟨some 40, .load false 1 (.tmp 39), none⟩])
 (.cond (.tmp 40) (.region [⟨some 41, .move (.tmp 13), none⟩,
  ⟨some 42, .bin .add (.tmp 41) (.const (.int .i64 1)), none⟩,
  ⟨some 13, .move (.tmp 42), none⟩])
 (.skip)))))
 (.region [⟨some 43, .bin .add (.tmp 35) (.const (.int .i64 1)), none⟩,
  ⟨some 35, .move (.tmp 43), none⟩])))
def L29 : LCode :=
 .seq (.region [⟨some 6, .box 42 11 (.tmp 2), none⟩,
  ⟨some 7, .box 45 11 (.tmp 3), none⟩,
  ⟨some 8, .move (.const (.bool false)), none⟩])
 (.seq (.region [⟨some 9, .move (.const (.int .i64 0)), none⟩,
  ⟨some 10, .move (.const (.int .i64 0)), none⟩])
 (.seq (.seq (.region [⟨some 16, .move (.tmp 0), none⟩,
  ⟨some 17, .len (.tmp 16), none⟩,
  ⟨some 18, .move (.const (.int .i64 0)), none⟩])
 (.block 0 (.loop L29_1)))
 (.seq (.region [⟨some 13, .move (.const (.int .i64 0)), none⟩])
 (.seq (.seq (.region [⟨some 33, .move (.tmp 1), none⟩,
  ⟨some 34, .len (.tmp 33), none⟩,
  ⟨some 35, .move (.const (.int .i64 0)), none⟩])
 (.block 2 (.loop L29_2)))
 (.seq (.draw [⟨⟨some 44, .move (.tmp 9), none⟩, .pure, 0, 0⟩,
  ⟨⟨some 45, .off 3 (.tmp 6), none⟩, .pure, 0, 0⟩,
  ⟨⟨some 46, .load false 1 (.tmp 45), none⟩, .read, 0, 0⟩,
  ⟨⟨some 47, .bin .leq (.tmp 44) (.tmp 46), none⟩, .pure, 0, 0⟩,
  ⟨⟨some 48, .move (.tmp 47), none⟩, .pure, 0, 0⟩,
  ⟨⟨some 49, .move (.tmp 10), (some (48, true))⟩, .pure, 0, 0⟩,
  ⟨⟨some 50, .off 6 (.tmp 7), (some (48, true))⟩, .pure, 0, 0⟩,
  ⟨⟨some 51, .load false 1 (.tmp 50), (some (48, true))⟩, .read, 0, 0⟩,
  ⟨⟨some 52, .bin .leq (.tmp 49) (.tmp 51), (some (48, true))⟩, .pure, 0, 0⟩,
  ⟨⟨some 53, .pick (.tmp 48) (.tmp 52) (.const (.bool false)), none⟩, .pure, 0, 0⟩,
  ⟨⟨some 54, .move (.tmp 53), none⟩, .pure, 0, 0⟩,
  ⟨⟨some 55, .move (.tmp 1), (some (54, true))⟩, .pure, 0, 0⟩,
  ⟨⟨some 56, .len (.tmp 55), (some (54, true))⟩, .pure, 0, 0⟩,
  ⟨⟨some 57, .move (.tmp 13), (some (54, true))⟩, .pure, 0, 0⟩,
  ⟨⟨some 58, .bin .sub (.tmp 56) (.tmp 57), (some (54, true))⟩, .pure, 0, 0⟩,
  ⟨⟨some 59, .off 4 (.tmp 7), (some (54, true))⟩, .pure, 0, 0⟩,
  ⟨⟨some 60, .load false 1 (.tmp 59), (some (54, true))⟩, .read, 0, 0⟩,
  ⟨⟨some 61, .bin .leq (.tmp 58) (.tmp 60), (some (54, true))⟩, .pure, 0, 0⟩,
  ⟨⟨some 62, .pick (.tmp 54) (.tmp 61) (.const (.bool false)), none⟩, .pure, 0, 0⟩,
  ⟨⟨some 63, .move (.tmp 62), none⟩, .pure, 0, 0⟩,
  ⟨⟨some 64, .move (.tmp 13), (some (63, true))⟩, .pure, 0, 0⟩,
  ⟨⟨some 65, .off 5 (.tmp 7), (some (63, true))⟩, .pure, 0, 0⟩,
  ⟨⟨some 66, .load false 1 (.tmp 65), (some (63, true))⟩, .read, 0, 0⟩,
  ⟨⟨some 67, .bin .leq (.tmp 64) (.tmp 66), (some (63, true))⟩, .pure, 0, 0⟩,
  ⟨⟨some 68, .pick (.tmp 63) (.tmp 67) (.const (.bool false)), none⟩, .pure, 0, 0⟩,
  ⟨⟨some 69, .move (.tmp 68), none⟩, .pure, 0, 0⟩,
  ⟨⟨some 70, .off 1 (.tmp 7), (some (69, true))⟩, .pure, 0, 0⟩,
  ⟨⟨some 71, .load false 1 (.tmp 70), (some (69, true))⟩, .read, 0, 0⟩,
  ⟨⟨some 72, .move (.tmp 13), (some (69, true))⟩, .pure, 0, 0⟩,
  ⟨⟨some 73, .call 50 [.tmp 71, .tmp 72], (some (69, true))⟩, .heavy, 0, 1⟩,
  ⟨⟨some 74, .off 7 (.tmp 7), (some (69, true))⟩, .pure, 0, 1⟩,
  ⟨⟨some 75, .load false 1 (.tmp 74), (some (69, true))⟩, .read, 0, 1⟩,
  ⟨⟨some 76, .bin .leq (.tmp 73) (.tmp 75), (some (69, true))⟩, .pure, 1, 1⟩,
  ⟨⟨some 77, .pick (.tmp 69) (.tmp 76) (.const (.bool false)), none⟩, .pure, 1, 1⟩,
  ⟨⟨some 8, .move (.tmp 77), none⟩, .pure, 1, 1⟩])
 (.ret))))))
theorem light29 : Light Try.prog 29 4 78 L29 [.tmp 8] :=
  ⟨Try.f29, _, Try.func29, rfl, rfl, by kernel_rfl, by kernel_rfl, by decide⟩

/-! ### function 30: outrider/dep.apart -/
def L30_1 : LCode :=
 .seq (.region [⟨some 18, .bin .lss (.tmp 17) (.tmp 16), none⟩])
 (.seq (.cond (.tmp 18) (.skip)
 (.exit 0))
 (.seq (.block 1 (.seq (.region [⟨some 19, .idx 4 (.tmp 15) (.tmp 17), none⟩,
  ⟨some 20, .load true 4 (.tmp 19), none⟩,
  ⟨some 9, .new 129 4 [.bool false, .bool false, .int .i64 0, .int .i64 0], none⟩,
  ⟨none, .store 4 (.tmp 9) (.tmp 20), none⟩])
 (.seq (.seq (.region [⟨some 21, .off 1 (.tmp 9), none⟩,
  ⟨some 22, .off 0 (.tmp 21), none⟩,
  ⟨some 23, .load false 1 (.tmp 22), none⟩,
  ⟨some 24, .un .not (.tmp 23), none⟩])
 (.cond (.tmp 24) (.seq (.region [⟨some 6, .move (.const (.bool false)), none⟩])
 (.ret))
 (.skip)))
 (.seq (.region [⟨some 25, .off 0 (.tmp 9), none⟩,
  ⟨some 26, .load false 1 (.tmp 25), none⟩,
  ⟨some 27, .off 1 (.tmp 9), none⟩,
  ⟨some 28, .off 1 (.tmp 27), none⟩,
  ⟨some 29, .load false 1 (.tmp 28), none⟩,
  ⟨some 30, .off 4 (.tmp 4), none⟩,
  ⟨some 31, .off 1 (.tmp 30), none⟩,
  ⟨some 32, .load false 1 (.tmp 31), none⟩,
  ⟨some 33, .bin .mul (.tmp 29) (.tmp 32), none⟩,
  ⟨some 34, .off 1 (.tmp 9), none⟩,
  ⟨some 35, .off 2 (.tmp 34), none⟩,
  ⟨some 36, .load false 1 (.tmp 35), none⟩,
  ⟨some 37, .bin .add (.tmp 33) (.tmp 36), none⟩,
  ⟨some 38, .off 1 (.tmp 9), none⟩,
  ⟨some 39, .off 1 (.tmp 38), none⟩,
  ⟨some 40, .load false 1 (.tmp 39), none⟩,
  ⟨some 41, .off 4 (.tmp 4), none⟩,
  ⟨some 42, .off 3 (.tmp 41), none⟩,
  ⟨some 43, .load false 1 (.tmp 42), none⟩,
  ⟨some 44, .bin .mul (.tmp 40) (.tmp 43), none⟩,
  ⟨some 45, .build [.bool false, .int .i64 0, .int .i64 0] [(0, 1, .tmp 26), (1, 1, .tmp 37), (2, 1, .tmp 44)], none⟩,
  ⟨some 10, .new 133 3 [.bool false, .int .i64 0, .int .i64 0], none⟩,
  ⟨none, .store 3 (.tmp 10) (.tmp 45), none⟩])
 (.seq (.seq (.region [⟨some 46, .move (.tmp 2), none⟩,
  ⟨some 47, .bin .gtr (.tmp 46) (.const (.int .i64 0)), none⟩,
  ⟨some 48, .move (.tmp 47), none⟩,
  ⟨some 49, .off 1 (.tmp 10), (some (48, true))⟩,
  ⟨some 50, .load false 1 (.tmp 49), (some (48, true))⟩,
  ⟨some 51, .off 0 (.tmp 4), (some (48, true))⟩,
  ⟨some 52, .load false 1 (.tmp 51), (some (48, true))⟩,
  ⟨some 53, .call 51 [.tmp 50, .tmp 52], (some (48, true))⟩,
  ⟨some 54, .un .not (.tmp 53), (some (48, true))⟩,
  ⟨some 55, .pick (.tmp 48) (.tmp 54) (.const (.bool false)), none⟩,
  ⟨some 56, .move (.tmp 55), none⟩,
  ⟨some 57, .move (.tmp 2), (some (56, false))⟩,
  ⟨some 58, .bin .gtr (.tmp 57) (.const (.int .i64 1)), (some (56, false))⟩,
  ⟨some 59, .move (.tmp 58), (some (56, false))⟩,
  ⟨some 60, .off 1 (.tmp 9), (some (59, true))⟩,
  ⟨some 61, .off 1 (.tmp 60), (some (59, true))⟩,
  ⟨some 62, .load false 1 (.tmp 61), (some (59, true))⟩,
  ⟨some 63, .off 4 (.tmp 4), (some (59, true))⟩,
  ⟨some 64, .off 1 (.tmp 63), (some (59, true))⟩,
  ⟨some 65, .load false 1 (.tmp 64), (some (59, true))⟩,
  ⟨some 66, .move (.tmp 2), (some (59, true))⟩,
  ⟨some 67, .bin .sub (.tmp 66) (.const (.int .i64 1)), (some (59, true))⟩,
  ⟨some 68, .off 4 (.tmp 4), (some (59, true))⟩,
  ⟨some 69, .off 3 (.tmp 68), (some (59, true))⟩,
  ⟨some 70, .load false 1 (.tmp 69), (some (59, true))⟩,
  ⟨some 71, .bin .mul (.tmp 67) (.tmp 70), (some (59, true))⟩,
  ⟨some 72, .bin .add (.tmp 65) (.tmp 71), (some (59, true))⟩,
  ⟨some 73, .bin .mul (.tmp 62) (.tmp 72), (some (59, true))⟩,
  ⟨some 74, .off 1 (.tmp 9), (some (59, true))⟩,
  ⟨some 75, .off 2 (.tmp 74), (some (59, true))⟩,
  ⟨some 76, .load false 1 (.tmp 75), (some (59, true))⟩,
  ⟨some 77, .bin .add (.tmp 73) (.tmp 76), (some (59, true))⟩,
  ⟨some 78, .off 0 (.tmp 4), (some (59, true))⟩,
  ⟨some 79, .load false 1 (.tmp 78), (some (59, true))⟩,
  ⟨some 80, .call 51 [.tmp 77, .tmp 79], (some (59, true))⟩,
  ⟨some 81, .un .not (.tmp 80), (some (59, true))⟩,
  ⟨some 82, .pick (.tmp 59) (.tmp 81) (.const (.bool false)), (some (56, false))⟩,
  ⟨some 83, .pick (.tmp 56) (.const (.bool true)) (.tmp 82), none⟩])
 (.cond (.tmp 83) (.seq (.region [⟨some 6, .move (.const (.bool false)), none⟩])
 (.ret))
 (.skip)))
 (.region [⟨some 84, .move (.tmp 7), none⟩,
  ⟨some 85, .load true 3 (.tmp 10), none⟩,
  ⟨some 86, .buildSlice 133 3 1 [.bool false, .int .i64 0, .int .i64 0] [(0, 3, .tmp 85)], none⟩,
  ⟨some 87, .append 133 3 24 (.tmp 84) (.tmp 86), none⟩,
  ⟨some 7, .move (.tmp 87), none⟩]))))))
 (.region [⟨some 88, .bin .add (.tmp 17) (.const (.int .i64 1)), none⟩,
  ⟨some 17, .move (.tmp 88), none⟩])))
def L30_2 : LCode :=
 .seq (.region [⟨some 101, .bin .lss (.tmp 100) (.tmp 99), none⟩])
 (.seq (.cond (.tmp 101) (.skip)
 (.exit 4))
 (.seq (.block 5 (.seq (.region [⟨some 102, .move (.tmp 100), none⟩,
  ⟨some 103, .idx 3 (.tmp 98) (.tmp 100), none⟩,
  ⟨some 104, .load true 3 (.tmp 103), none⟩,
  ⟨some 14, .new 133 3 [.bool false, .int .i64 0, .int .i64 0], none⟩,
  ⟨some 13, .move (.tmp 102), none⟩,
  ⟨none, .store 3 (.tmp 14) (.tmp 104), none⟩])
 (.seq (.region [⟨some 105, .move (.tmp 13), none⟩,
  ⟨some 106, .move (.tmp 11), none⟩,
  ⟨some 107, .bin .gtr (.tmp 105) (.tmp 106), none⟩,
  ⟨some 108, .move (.tmp 107), none⟩,
  ⟨some 109, .move (.tmp 13), (some (108, false))⟩,
  ⟨some 110, .move (.tmp 11), (some (108, false))⟩,
  ⟨some 111, .bin .eql (.tmp 109) (.tmp 110), (some (108, false))⟩,
  ⟨some 112, .pick (.tmp 108) (.const (.bool true)) (.tmp 111), none⟩,
  ⟨some 113, .move (.tmp 112), none⟩,
  ⟨some 114, .off 0 (.tmp 12), (some (113, true))⟩,
  ⟨some 115, .load false 1 (.tmp 114), (some (113, true))⟩,
  ⟨some 116, .move (.tmp 115), (some (113, true))⟩,
  ⟨some 117, .off 0 (.tmp 14), (some (116, false))⟩,
  ⟨some 118, .load false 1 (.tmp 117), (some (116, false))⟩,
  ⟨some 119, .pick (.tmp 116) (.const (.bool true)) (.tmp 118), (some (113, true))⟩,
  ⟨some 120, .pick (.tmp 113) (.tmp 119) (.const (.bool false)), none⟩,
  ⟨some 121, .move (.tmp 120), none⟩,
  ⟨some 122, .off 1 (.tmp 12), (some (121, true))⟩,
  ⟨some 123, .load false 1 (.tmp 122), (some (121, true))⟩,
  ⟨some 124, .off 2 (.tmp 12), (some (121, true))⟩,
  ⟨some 125, .load false 1 (.tmp 124), (some (121, true))⟩,
  ⟨some 126, .off 1 (.tmp 14), (some (121, true))⟩,
  ⟨some 127, .load false 1 (.tmp 126), (some (121, true))⟩,
  ⟨some 128, .off 2 (.tmp 14), (some (121, true))⟩,
  ⟨some 129, .load false 1 (.tmp 128), (some (121, true))⟩,
  ⟨some 130, .move (.tmp 2), (some (121, true))⟩,
  ⟨some 131, .call 52 [.tmp 123, .tmp 125, .tmp 127, .tmp 129, .tmp 130], (some (121, true))⟩,
  ⟨some 132, .pick (.tmp 121) (.tmp 131) (.const (.bool false)), none⟩])
 (.cond (.tmp 132) (.seq (.region [⟨some 6, .move (.const (.bool false)), none⟩])
 (.ret))
 (.skip)))))
 (.region [⟨some 133, .bin .add (.tmp 100) (.const (.int .i64 1)), none⟩,
  ⟨some 100, .move (.tmp 133), none⟩])))
def L30_3 : LCode :=
 .seq (.region [⟨some 94, .bin .lss (.tmp 93) (.tmp 92), none⟩])
 (.seq (.cond (.tmp 94) (.skip)
 (.exit 2))
 (.seq (.block 3 (.seq (.region [⟨some 95, .move (.tmp 93), none⟩,
  ⟨some 96, .idx 3 (.tmp 91) (.tmp 93), none⟩,
  ⟨some 97, .load true 3 (.tmp 96), none⟩,
  ⟨some 12, .new 133 3 [.bool false, .int .i64 0, .int .i64 0], none⟩,
  ⟨some 11, .move (.tmp 95), none⟩,
  ⟨none, .store 3 (.tmp 12) (.tmp 97), none⟩])
 (.seq (.region [⟨some 98, .move (.tmp 7), none⟩,
  ⟨some 99, .len (.tmp 98), none⟩,
  ⟨some 100, .move (.const (.int .i64 0)), none⟩])
 (.block 4 (.loop L30_2)))))
 (.region [⟨some 134, .bin .add (.tmp 93) (.const (.int .i64 1)), none⟩,
  ⟨some 93, .move (.tmp 134), none⟩])))
def L30 : LCode :=
 .seq (.region [⟨some 4, .box 42 11 (.tmp 1), none⟩,
  ⟨some 6, .move (.const (.bool false)), none⟩])
 (.seq (.region [⟨some 7, .move (.const (.slice none 0 0)), none⟩])
 (.seq (.seq (.region [⟨some 15, .move (.tmp 0), none⟩,
  ⟨some 16, .len (.tmp 15), none⟩,
  ⟨some 17, .move (.const (.int .i64 0)), none⟩])
 (.block 0 (.loop L30_1)))
 (.seq (.seq (.region [⟨some 89, .move (.tmp 2), none⟩,
  ⟨some 90, .bin .lss (.tmp 89) (.const (.int .i64 2)), none⟩])
 (.cond (.tmp 90) (.seq (.region [⟨some 6, .move (.const (.bool true)), none⟩])
 (.ret))
 (.skip)))
 (.seq (.seq (.region [⟨some 91, .move (.tmp 7), none⟩,
  ⟨some 92, .len (.tmp 91), none⟩,
  ⟨some 93, .move (.const (.int .i64 0)), none⟩])
 (.block 2 (.loop L30_3)))
 (.seq (.region [⟨some 6, .move (.const (.bool true)), none⟩])
 (.ret))))))
theorem light30 : Light Try.prog 30 3 135 L30 [.tmp 6] :=
  ⟨Try.f30, _, Try.func30, rfl, rfl, by kernel_rfl, by kernel_rfl, by decide⟩

/-! ### function 31: outrider/num.Text -/
def L31_1 : LCode :=
 .block 1 (.seq (.region [⟨some 8, .move (.tmp 4), none⟩,
  ⟨some 9, .bin .sub (.tmp 8) (.const (.int .i64 1)), none⟩,
  ⟨some 4, .move (.tmp 9), none⟩])
 (.seq (.region [⟨some 10, .move (.tmp 4), none⟩,
  ⟨some 11, .move (.tmp 5), none⟩,
  ⟨some 12, .bin .rem (.tmp 11) (.const (.int .u64 10)), none⟩,
  ⟨some 13, .bin .add (.const (.int .u64 48)) (.tmp 12), none⟩,
  ⟨some 14, .conv .u8 (.tmp 13), none⟩,
  ⟨some 15, .idxArr 20 1 (.tmp 3) (.tmp 10), none⟩,
  ⟨none, .store 1 (.tmp 15) (.tmp 14), none⟩])
 (.seq (.region [⟨some 16, .move (.tmp 5), none⟩,
  ⟨some 17, .bin .quo (.tmp 16) (.const (.int .u64 10)), none⟩,
  ⟨some 5, .move (.tmp 17), none⟩])
 (.seq (.region [⟨some 18, .move (.tmp 5), none⟩,
  ⟨some 19, .bin .eql (.tmp 18) (.const (.int .u64 0)), none⟩])
 (.cond (.tmp 19) (.exit 0)
 (.skip))))))
def L31 : LCode :=
 .seq (.region [⟨some 2, .move (.const (.string ByteArray.empty)), none⟩])
 (.seq (.region [⟨some 3, .new 136 20 [.int .u8 0, .int .u8 0, .int .u8 0, .int .u8 0, .int .u8 0, .int .u8 0, .int .u8 0, .int .u8 0, .int .u8 0, .int .u8 0, .int .u8 0, .int .u8 0, .int .u8 0, .int .u8 0, .int .u8 0, .int .u8 0, .int .u8 0, .int .u8 0, .int .u8 0, .int .u8 0], none⟩])
 (.seq (.region [⟨some 4, .move (.const (.int .i64 20)), none⟩])
 (.seq (.region [⟨some 6, .move (.tmp 0), none⟩,
  ⟨some 7, .call 53 [.tmp 6], none⟩,
  ⟨some 5, .move (.tmp 7), none⟩])
 (.seq (.block 0 (.loop L31_1))
 (.seq (.seq (.region [⟨some 20, .move (.tmp 0), none⟩,
  ⟨some 21, .bin .lss (.tmp 20) (.const (.int .i64 0)), none⟩])
 (.cond (.tmp 21) (.seq (.region [⟨some 22, .move (.tmp 4), none⟩,
  ⟨some 23, .bin .sub (.tmp 22) (.const (.int .i64 1)), none⟩,
  ⟨some 4, .move (.tmp 23), none⟩])
 (.region [⟨some 24, .move (.tmp 4), none⟩,
  ⟨some 25, .idxArr 20 1 (.tmp 3) (.tmp 24), none⟩,
  ⟨none, .store 1 (.tmp 25) (.const (.int .u8 45)), none⟩]))
 (.skip)))
 (.seq (.region [⟨some 26, .move (.tmp 4), none⟩,
  ⟨some 27, .sliceArr 20 1 (.tmp 3) (some (.tmp 26)) none none, none⟩,
  ⟨some 28, .toStr (.tmp 27), none⟩,
  ⟨some 2, .move (.tmp 28), none⟩])
 (.ret)))))))
theorem light31 : Light Try.prog 31 1 29 L31 [.tmp 2] :=
  ⟨Try.f31, _, Try.func31, rfl, rfl, by kernel_rfl, by kernel_rfl, by decide⟩

/-! ### function 32: outrider/outriderref01.Text -/
def L32_1 : LCode :=
 .seq (.seq (.region [⟨some 9, .move (.tmp 3), none⟩,
  ⟨some 10, .bin .gtr (.tmp 9) (.const (.int .u64 0)), none⟩,
  ⟨some 11, .move (.tmp 10), none⟩,
  ⟨some 12, .move (.tmp 4), (some (11, false))⟩,
  ⟨some 13, .bin .eql (.tmp 12) (.const (.string ByteArray.empty)), (some (11, false))⟩,
  ⟨some 14, .pick (.tmp 11) (.const (.bool true)) (.tmp 13), none⟩])
 (.cond (.tmp 14) (.skip)
 (.exit 0)))
 (.block 1 (.seq (.region [⟨some 16, .move (.tmp 3), none⟩,
  ⟨some 17, .call 55 [.tmp 16, .const (.int .u64 10)], none⟩,
  ⟨some 15, .move (.tmp 17), none⟩,
  ⟨some 18, .extract (.tmp 15) 0, none⟩,
  ⟨some 19, .extract (.tmp 15) 1, none⟩,
  ⟨some 5, .move (.tmp 18), none⟩,
  ⟨some 6, .move (.tmp 19), none⟩])
 (.seq (.region [⟨some 20, .move (.tmp 6), none⟩,
  ⟨some 21, .bin .add (.const (.int .u64 48)) (.tmp 20), none⟩,
  ⟨some 22, .conv .u8 (.tmp 21), none⟩,
  ⟨some 23, .buildSlice 5 1 1 [.int .u8 0] [(0, 1, .tmp 22)], none⟩,
  ⟨some 24, .toStr (.tmp 23), none⟩,
  ⟨some 25, .move (.tmp 4), none⟩,
  ⟨some 26, .bin .add (.tmp 24) (.tmp 25), none⟩,
  ⟨some 4, .move (.tmp 26), none⟩])
 (.region [⟨some 27, .move (.tmp 5), none⟩,
  ⟨some 3, .move (.tmp 27), none⟩]))))
def L32 : LCode :=
 .seq (.region [⟨some 2, .move (.const (.string ByteArray.empty)), none⟩])
 (.seq (.region [⟨some 7, .move (.tmp 0), none⟩,
  ⟨some 8, .call 54 [.tmp 7], none⟩,
  ⟨some 3, .move (.tmp 8), none⟩])
 (.seq (.region [⟨some 4, .move (.const (.string ByteArray.empty)), none⟩])
 (.seq (.block 0 (.loop L32_1))
 (.seq (.seq (.region [⟨some 28, .move (.tmp 0), none⟩,
  ⟨some 29, .bin .lss (.tmp 28) (.const (.int .i64 0)), none⟩])
 (.cond (.tmp 29) (.seq (.region [⟨some 30, .move (.tmp 4), none⟩,
  ⟨some 31, .bin .add (.const (.string ⟨#[45]⟩)) (.tmp 30), none⟩,
  ⟨some 2, .move (.tmp 31), none⟩])
 (.ret))
 (.skip)))
 (.seq (.region [⟨some 32, .move (.tmp 4), none⟩,
  ⟨some 2, .move (.tmp 32), none⟩])
 (.ret))))))
theorem light32 : Light Try.prog 32 1 33 L32 [.tmp 2] :=
  ⟨Try.f32, _, Try.func32, rfl, rfl, by kernel_rfl, by kernel_rfl, by decide⟩

/-! ### function 33: outrider/mem.Of -/
def L33_1 : LCode :=
 .seq (.region [⟨some 21, .bin .lss (.tmp 20) (.tmp 19), none⟩])
 (.seq (.cond (.tmp 21) (.skip)
 (.exit 0))
 (.seq (.block 1 (.seq (.region [⟨some 22, .idx 2 (.tmp 18) (.tmp 20), none⟩,
  ⟨some 23, .load true 2 (.tmp 22), none⟩,
  ⟨some 9, .new 144 2 [.int .i64 0, .int .i64 0], none⟩,
  ⟨none, .store 2 (.tmp 9) (.tmp 23), none⟩])
 (.seq (.seq (.region [⟨some 24, .off 0 (.tmp 9), none⟩,
  ⟨some 25, .load false 1 (.tmp 24), none⟩,
  ⟨some 26, .bin .lss (.tmp 25) (.const (.int .i64 0)), none⟩,
  ⟨some 27, .move (.tmp 26), none⟩,
  ⟨some 28, .off 0 (.tmp 9), (some (27, false))⟩,
  ⟨some 29, .load false 1 (.tmp 28), (some (27, false))⟩,
  ⟨some 30, .move (.tmp 0), (some (27, false))⟩,
  ⟨some 31, .bin .geq (.tmp 29) (.tmp 30), (some (27, false))⟩,
  ⟨some 32, .pick (.tmp 27) (.const (.bool true)) (.tmp 31), none⟩])
 (.cond (.tmp 32) (.seq (.region [⟨some 4, .move (.const (.slice none 0 0)), none⟩,
  ⟨some 5, .move (.const (.int .i64 131)), none⟩])
 (.ret))
 (.skip)))
 (.seq (.seq (.region [⟨some 33, .off 0 (.tmp 9), none⟩,
  ⟨some 34, .load false 1 (.tmp 33), none⟩,
  ⟨some 35, .idxArr 64 1 (.tmp 7) (.tmp 34), none⟩,
  ⟨some 36, .load false 1 (.tmp 35), none⟩])
 (.cond (.tmp 36) (.seq (.region [⟨some 4, .move (.const (.slice none 0 0)), none⟩,
  ⟨some 5, .move (.const (.int .i64 61)), none⟩])
 (.ret))
 (.skip)))
 (.seq (.region [⟨some 37, .off 0 (.tmp 9), none⟩,
  ⟨some 38, .load false 1 (.tmp 37), none⟩,
  ⟨some 39, .idxArr 64 1 (.tmp 7) (.tmp 38), none⟩,
  ⟨none, .store 1 (.tmp 39) (.const (.bool true)), none⟩])
 (.region [⟨some 40, .move (.tmp 6), none⟩,
  ⟨some 41, .off 0 (.tmp 9), none⟩,
  ⟨some 42, .load false 1 (.tmp 41), none⟩,
  ⟨some 43, .off 1 (.tmp 9), none⟩,
  ⟨some 44, .load false 1 (.tmp 43), none⟩,
  ⟨some 45, .idx 1 (.tmp 40) (.tmp 42), none⟩,
  ⟨none, .store 1 (.tmp 45) (.tmp 44), none⟩]))))))
 (.region [⟨some 46, .bin .add (.tmp 20) (.const (.int .i64 1)), none⟩,
  ⟨some 20, .move (.tmp 46), none⟩])))
def L33 : LCode :=
 .seq (.region [⟨some 4, .move (.const (.slice none 0 0)), none⟩,
  ⟨some 5, .move (.const (.int .i64 0)), none⟩])
 (.seq (.seq (.region [⟨some 10, .move (.tmp 0), none⟩,
  ⟨some 11, .bin .lss (.tmp 10) (.const (.int .i64 1)), none⟩,
  ⟨some 12, .move (.tmp 11), none⟩,
  ⟨some 13, .move (.tmp 0), (some (12, false))⟩,
  ⟨some 14, .bin .gtr (.tmp 13) (.const (.int .i64 64)), (some (12, false))⟩,
  ⟨some 15, .pick (.tmp 12) (.const (.bool true)) (.tmp 14), none⟩])
 (.cond (.tmp 15) (.seq (.region [⟨some 4, .move (.const (.slice none 0 0)), none⟩,
  ⟨some 5, .move (.const (.int .i64 130)), none⟩])
 (.ret))
 (.skip)))
 (.seq (.region [⟨some 16, .move (.tmp 0), none⟩,
  ⟨some 17, .make 2 1 8 [.int .i64 0] (.tmp 16) (.tmp 16), none⟩,
  ⟨some 6, .move (.tmp 17), none⟩])
 (.seq (.region [⟨some 7, .new 142 64 [.bool false, .bool false, .bool false, .bool false, .bool false, .bool false, .bool false, .bool false, .bool false, .bool false, .bool false, .bool false, .bool false, .bool false, .bool false, .bool false, .bool false, .bool false, .bool false, .bool false, .bool false, .bool false, .bool false, .bool false, .bool false, .bool false, .bool false, .bool false, .bool false, .bool false, .bool false, .bool false, .bool false, .bool false, .bool false, .bool false, .bool false, .bool false, .bool false, .bool false, .bool false, .bool false, .bool false, .bool false, .bool false, .bool false, .bool false, .bool false, .bool false, .bool false, .bool false, .bool false, .bool false, .bool false, .bool false, .bool false, .bool false, .bool false, .bool false, .bool false, .bool false, .bool false, .bool false, .bool false], none⟩])
 (.seq (.seq (.region [⟨some 18, .move (.tmp 1), none⟩,
  ⟨some 19, .len (.tmp 18), none⟩,
  ⟨some 20, .move (.const (.int .i64 0)), none⟩])
 (.block 0 (.loop L33_1)))
 (.seq (.region [⟨some 47, .move (.tmp 6), none⟩,
  ⟨some 4, .move (.tmp 47), none⟩,
  ⟨some 5, .move (.const (.int .i64 0)), none⟩])
 (.ret))))))
theorem light33 : Light Try.prog 33 2 48 L33 [.tmp 4, .tmp 5] :=
  ⟨Try.f33, _, Try.func33, rfl, rfl, by kernel_rfl, by kernel_rfl, by decide⟩

/-! ### function 34: outrider/red.New -/
def L34_1 : LCode :=
 .seq (.region [⟨some 15, .bin .lss (.tmp 14) (.tmp 13), none⟩])
 (.seq (.cond (.tmp 15) (.skip)
 (.exit 0))
 (.seq (.block 1 (.seq (.region [⟨some 16, .idx 2 (.tmp 12) (.tmp 14), none⟩,
  ⟨some 17, .load true 2 (.tmp 16), none⟩,
  ⟨some 6, .new 98 2 [.int .i64 0, .int .i64 0], none⟩,
  ⟨none, .store 2 (.tmp 6) (.tmp 17), none⟩])
 (.seq (.seq (.region [⟨some 18, .off 0 (.tmp 6), none⟩,
  ⟨some 19, .load false 1 (.tmp 18), none⟩,
  ⟨some 20, .call 56 [.tmp 19], none⟩,
  ⟨some 21, .un .not (.tmp 20), none⟩])
 (.cond (.tmp 21) (.seq (.region [⟨some 2, .move (.const (.pointer none)), none⟩,
  ⟨some 3, .move (.const (.int .i64 140)), none⟩])
 (.ret))
 (.skip)))
 (.seq (.draw [⟨⟨some 22, .move (.tmp 4), none⟩, .pure, 0, 2⟩,
  ⟨⟨some 23, .move (.tmp 4), none⟩, .pure, 0, 1⟩,
  ⟨⟨some 24, .nilCheck (.tmp 23), none⟩, .pure, 0, 1⟩,
  ⟨⟨some 25, .off 0 (.tmp 24), none⟩, .pure, 0, 1⟩,
  ⟨⟨some 26, .load false 1 (.tmp 25), none⟩, .read, 0, 1⟩,
  ⟨⟨some 27, .off 0 (.tmp 6), none⟩, .pure, 0, 0⟩,
  ⟨⟨some 28, .load false 1 (.tmp 27), none⟩, .read, 0, 0⟩,
  ⟨⟨some 29, .buildSlice 96 1 1 [.int .i64 0] [(0, 1, .tmp 28)], none⟩, .heavy, 0, 1⟩,
  ⟨⟨some 30, .append 96 1 8 (.tmp 26) (.tmp 29), none⟩, .heavy, 1, 2⟩,
  ⟨⟨some 31, .nilCheck (.tmp 22), none⟩, .pure, 2, 2⟩,
  ⟨⟨some 32, .off 0 (.tmp 31), none⟩, .pure, 2, 2⟩,
  ⟨⟨none, .store 1 (.tmp 32) (.tmp 30), none⟩, .heavy, 2, 3⟩])
 (.draw [⟨⟨some 33, .move (.tmp 4), none⟩, .pure, 0, 3⟩,
  ⟨⟨some 34, .move (.tmp 4), none⟩, .pure, 0, 2⟩,
  ⟨⟨some 35, .nilCheck (.tmp 34), none⟩, .pure, 0, 2⟩,
  ⟨⟨some 36, .off 1 (.tmp 35), none⟩, .pure, 0, 2⟩,
  ⟨⟨some 37, .load false 1 (.tmp 36), none⟩, .read, 0, 2⟩,
  ⟨⟨some 38, .off 0 (.tmp 6), none⟩, .pure, 0, 0⟩,
  ⟨⟨some 39, .load false 1 (.tmp 38), none⟩, .read, 0, 0⟩,
  ⟨⟨some 40, .call 57 [.tmp 39], none⟩, .heavy, 0, 1⟩,
  ⟨⟨some 41, .buildSlice 2 1 1 [.int .i64 0] [(0, 1, .tmp 40)], none⟩, .heavy, 1, 2⟩,
  ⟨⟨some 42, .append 2 1 8 (.tmp 37) (.tmp 41), none⟩, .heavy, 2, 3⟩,
  ⟨⟨some 43, .nilCheck (.tmp 33), none⟩, .pure, 3, 3⟩,
  ⟨⟨some 44, .off 1 (.tmp 43), none⟩, .pure, 3, 3⟩,
  ⟨⟨none, .store 1 (.tmp 44) (.tmp 42), none⟩, .heavy, 3, 4⟩])))))
 (.region [⟨some 45, .bin .add (.tmp 14) (.const (.int .i64 1)), none⟩,
  ⟨some 14, .move (.tmp 45), none⟩])))
def L34 : LCode :=
 .seq (.region [⟨some 2, .move (.const (.pointer none)), none⟩,
  ⟨some 3, .move (.const (.int .i64 0)), none⟩])
 (.seq (.seq (.region [⟨some 7, .move (.tmp 0), none⟩,
  ⟨some 8, .len (.tmp 7), none⟩,
  ⟨some 9, .bin .gtr (.tmp 8) (.const (.int .i64 4)), none⟩])
 (.cond (.tmp 9) (.seq (.region [⟨some 2, .move (.const (.pointer none)), none⟩,
  ⟨some 3, .move (.const (.int .i64 171)), none⟩])
 (.ret))
 (.skip)))
 (.seq (.region [⟨some 10, .build [.slice none 0 0, .slice none 0 0, .int .i64 0] [], none⟩,
  ⟨some 11, .box 147 3 (.tmp 10), none⟩,
  ⟨some 4, .move (.tmp 11), none⟩])
 (.seq (.seq (.region [⟨some 12, .move (.tmp 0), none⟩,
  ⟨some 13, .len (.tmp 12), none⟩,
  ⟨some 14, .move (.const (.int .i64 0)), none⟩])
 (.block 0 (.loop L34_1)))
 (.seq (.region [⟨some 46, .move (.tmp 4), none⟩,
  ⟨some 2, .move (.tmp 46), none⟩,
  ⟨some 3, .move (.const (.int .i64 0)), none⟩])
 (.ret)))))
theorem light34 : Light Try.prog 34 1 47 L34 [.tmp 2, .tmp 3] :=
  ⟨Try.f34, _, Try.func34, rfl, rfl, by kernel_rfl, by kernel_rfl, by decide⟩

/-! ### function 35: outrider/plan.Stages -/
def L35 : LCode :=
 .seq (.region [⟨some 1, .box 39 6 (.tmp 0), none⟩,
  ⟨some 2, .move (.const (.int .i64 0)), none⟩])
 (.seq (.seq (.region [⟨some 3, .off 0 (.tmp 1), none⟩,
  ⟨some 4, .load false 1 (.tmp 3), none⟩,
  ⟨some 5, .bin .eql (.tmp 4) (.const (.int .i64 2)), none⟩])
 (.cond (.tmp 5) (.seq (.region [⟨some 6, .off 5 (.tmp 1), none⟩,
  ⟨some 7, .load false 1 (.tmp 6), none⟩,
  ⟨some 2, .move (.tmp 7), none⟩])
 (.ret))
 (.skip)))
 (.seq (.region [⟨some 2, .move (.const (.int .i64 1)), none⟩])
 (.ret)))
theorem light35 : Light Try.prog 35 1 8 L35 [.tmp 2] :=
  ⟨Try.f35, _, Try.func35, rfl, rfl, by kernel_rfl, by kernel_rfl, by decide⟩

/-! ### function 36: outrider/ins.Check -/
def L36_1 : LCode :=
 .seq (.region [⟨some 21, .bin .lss (.tmp 20) (.tmp 19), none⟩])
 (.seq (.cond (.tmp 21) (.skip)
 (.exit 0))
 (.seq (.block 1 (.seq (.region [⟨some 22, .move (.tmp 20), none⟩,
  ⟨some 23, .idx 6 (.tmp 18) (.tmp 20), none⟩,
  ⟨some 24, .load true 6 (.tmp 23), none⟩,
  ⟨some 7, .new 60 6 [.int .i64 0, .int .i64 0, .int .i64 0, .int .i64 0, .int .i64 0, .int .i64 0], none⟩,
  ⟨some 6, .move (.tmp 22), none⟩,
  ⟨none, .store 6 (.tmp 7) (.tmp 24), none⟩])
 (.seq (.region [⟨some 25, .load true 6 (.tmp 7), none⟩,
  ⟨some 26, .move (.tmp 1), none⟩,
  ⟨some 27, .move (.tmp 0), none⟩,
  ⟨some 28, .len (.tmp 27), none⟩,
  ⟨some 29, .call 58 [.tmp 25, .tmp 26, .tmp 28], none⟩,
  ⟨some 8, .move (.tmp 29), none⟩])
 (.seq (.region [⟨some 30, .move (.tmp 8), none⟩,
  ⟨some 31, .bin .neq (.tmp 30) (.const (.int .i64 0)), none⟩])
 (.cond (.tmp 31) (.seq (.region [⟨some 32, .move (.tmp 6), none⟩,
  ⟨some 33, .move (.tmp 8), none⟩,
  ⟨some 4, .move (.tmp 32), none⟩,
  ⟨some 5, .move (.tmp 33), none⟩])
 (.ret))
 (.skip))))))
 (.region [⟨some 34, .bin .add (.tmp 20) (.const (.int .i64 1)), none⟩,
  ⟨some 20, .move (.tmp 34), none⟩])))
def L36 : LCode :=
 .seq (.region [⟨some 4, .move (.const (.int .i64 0)), none⟩,
  ⟨some 5, .move (.const (.int .i64 0)), none⟩])
 (.seq (.seq (.region [⟨some 10, .move (.tmp 0), none⟩,
  ⟨some 11, .len (.tmp 10), none⟩,
  ⟨some 12, .bin .eql (.tmp 11) (.const (.int .i64 0)), none⟩,
  ⟨some 13, .move (.tmp 12), none⟩,
  ⟨some 14, .move (.tmp 0), (some (13, false))⟩,
  ⟨some 15, .len (.tmp 14), (some (13, false))⟩,
  ⟨some 16, .bin .gtr (.tmp 15) (.const (.int .i64 600)), (some (13, false))⟩,
  ⟨some 17, .pick (.tmp 13) (.const (.bool true)) (.tmp 16), none⟩])
 (.cond (.tmp 17) (.seq (.region [⟨some 4, .move (.const (.int .i64 0)), none⟩,
  ⟨some 5, .move (.const (.int .i64 80)), none⟩])
 (.ret))
 (.skip)))
 (.seq (.seq (.region [⟨some 18, .move (.tmp 0), none⟩,
  ⟨some 19, .len (.tmp 18), none⟩,
  ⟨some 20, .move (.const (.int .i64 0)), none⟩])
 (.block 0 (.loop L36_1)))
 (.seq (.region [⟨some 35, .move (.tmp 0), none⟩,
  ⟨some 36, .len (.tmp 35), none⟩,
  ⟨some 37, .bin .sub (.tmp 36) (.const (.int .i64 1)), none⟩,
  ⟨some 9, .move (.tmp 37), none⟩])
 (.seq (.seq (.region [⟨some 38, .move (.tmp 0), none⟩,
  ⟨some 39, .move (.tmp 9), none⟩,
  ⟨some 40, .idx 6 (.tmp 38) (.tmp 39), none⟩,
  ⟨some 41, .load true 6 (.tmp 40), none⟩,
  ⟨some 42, .call 59 [.tmp 41], none⟩])
 (.cond (.tmp 42) (.seq (.region [⟨some 43, .move (.tmp 9), none⟩,
  ⟨some 4, .move (.tmp 43), none⟩,
  ⟨some 5, .move (.const (.int .i64 85)), none⟩])
 (.ret))
 (.skip)))
 (.seq (.region [⟨some 4, .move (.const (.int .i64 0)), none⟩,
  ⟨some 5, .move (.const (.int .i64 0)), none⟩])
 (.ret))))))
theorem light36 : Light Try.prog 36 2 44 L36 [.tmp 4, .tmp 5] :=
  ⟨Try.f36, _, Try.func36, rfl, rfl, by kernel_rfl, by kernel_rfl, by decide⟩

/-! ### function 37: outrider/plan.loop -/
def L37 : LCode :=
 .seq (.region [⟨some 1, .box 39 6 (.tmp 0), none⟩,
  ⟨some 2, .move (.const (.int .i64 0)), none⟩,
  ⟨some 3, .move (.const (.int .i64 0)), none⟩])
 (.seq (.seq (.region [⟨some 8, .off 3 (.tmp 1), none⟩,
  ⟨some 9, .load false 1 (.tmp 8), none⟩,
  ⟨some 10, .bin .eql (.tmp 9) (.const (.int .i64 0)), none⟩])
 (.cond (.tmp 10) (.seq (.region [⟨some 2, .move (.const (.int .i64 0)), none⟩,
  ⟨some 3, .move (.const (.int .i64 150)), none⟩])
 (.ret))
 (.skip)))
 (.seq (.draw [⟨⟨some 11, .off 2 (.tmp 1), none⟩, .pure, 0, 0⟩,
  ⟨⟨some 12, .load false 1 (.tmp 11), none⟩, .read, 0, 0⟩,
  ⟨⟨some 13, .conv .u64 (.tmp 12), none⟩, .pure, 0, 0⟩,
  ⟨⟨some 14, .off 1 (.tmp 1), none⟩, .pure, 0, 0⟩,
  ⟨⟨some 15, .load false 1 (.tmp 14), none⟩, .read, 0, 0⟩,
  ⟨⟨some 16, .conv .u64 (.tmp 15), none⟩, .pure, 0, 0⟩,
  ⟨⟨some 17, .bin .sub (.tmp 13) (.tmp 16), none⟩, .pure, 0, 0⟩,
  ⟨⟨some 18, .off 3 (.tmp 1), none⟩, .pure, 0, 0⟩,
  ⟨⟨some 19, .load false 1 (.tmp 18), none⟩, .read, 0, 0⟩,
  ⟨⟨some 20, .conv .u64 (.tmp 19), none⟩, .pure, 0, 0⟩,
  ⟨⟨some 4, .move (.tmp 17), none⟩, .pure, 0, 0⟩,
  ⟨⟨some 5, .move (.tmp 20), none⟩, .pure, 0, 0⟩])
 (.seq (.region [⟨some 21, .off 1 (.tmp 1), none⟩,
  ⟨some 22, .load false 1 (.tmp 21), none⟩,
  ⟨some 23, .off 2 (.tmp 1), none⟩,
  ⟨some 24, .load false 1 (.tmp 23), none⟩,
  ⟨some 25, .bin .geq (.tmp 22) (.tmp 24), none⟩,
  ⟨some 6, .move (.tmp 25), none⟩])
 (.seq (.seq (.region [⟨some 26, .off 3 (.tmp 1), none⟩,
  ⟨some 27, .load false 1 (.tmp 26), none⟩,
  ⟨some 28, .bin .lss (.tmp 27) (.const (.int .i64 0)), none⟩])
 (.cond (.tmp 28) (.draw [⟨⟨some 29, .move (.tmp 4), none⟩, .pure, 0, 0⟩,
  ⟨⟨some 30, .un .neg (.tmp 29), none⟩, .pure, 0, 0⟩,
  ⟨⟨some 31, .move (.tmp 5), none⟩, .pure, 0, 0⟩,
  ⟨⟨some 32, .un .neg (.tmp 31), none⟩, .pure, 0, 0⟩,
  ⟨⟨some 33, .off 1 (.tmp 1), none⟩, .pure, 0, 0⟩,
  ⟨⟨some 34, .load false 1 (.tmp 33), none⟩, .read, 0, 0⟩,
  ⟨⟨some 35, .off 2 (.tmp 1), none⟩, .pure, 0, 0⟩,
  ⟨⟨some 36, .load false 1 (.tmp 35), none⟩, .read, 0, 0⟩,
  ⟨⟨some 37, .bin .leq (.tmp 34) (.tmp 36), none⟩, .pure, 0, 0⟩,
  ⟨⟨some 4, .move (.tmp 30), none⟩, .pure, 0, 0⟩,
  ⟨⟨some 5, .move (.tmp 32), none⟩, .pure, 0, 0⟩,
  ⟨⟨some 6, .move (.tmp 37), none⟩, .pure, 0, 0⟩])
 (.skip)))
 (.seq (.seq (.region [⟨some 38, .move (.tmp 6), none⟩])
 (.cond (.tmp 38) (.seq (.region [⟨some 2, .move (.const (.int .i64 0)), none⟩,
  ⟨some 3, .move (.const (.int .i64 0)), none⟩])
 (.ret))
 (.skip)))
 (.seq (.region [⟨some 39, .move (.tmp 4), none⟩,
  ⟨some 40, .bin .sub (.tmp 39) (.const (.int .u64 1)), none⟩,
  ⟨some 41, .move (.tmp 5), none⟩,
  ⟨some 42, .bin .quo (.tmp 40) (.tmp 41), none⟩,
  ⟨some 43, .bin .add (.tmp 42) (.const (.int .u64 1)), none⟩,
  ⟨some 7, .move (.tmp 43), none⟩])
 (.seq (.seq (.region [⟨some 44, .move (.tmp 7), none⟩,
  ⟨some 45, .bin .gtr (.tmp 44) (.const (.int .u64 200)), none⟩])
 (.cond (.tmp 45) (.seq (.region [⟨some 2, .move (.const (.int .i64 0)), none⟩,
  ⟨some 3, .move (.const (.int .i64 151)), none⟩])
 (.ret))
 (.skip)))
 (.seq (.region [⟨some 46, .move (.tmp 7), none⟩,
  ⟨some 47, .conv .i64 (.tmp 46), none⟩,
  ⟨some 2, .move (.tmp 47), none⟩,
  ⟨some 3, .move (.const (.int .i64 0)), none⟩])
 (.ret)))))))))
theorem light37 : Light Try.prog 37 1 48 L37 [.tmp 2, .tmp 3] :=
  ⟨Try.f37, _, Try.func37, rfl, rfl, by kernel_rfl, by kernel_rfl, by decide⟩

/-! ### function 38: outrider/plan.At -/
def L38 : LCode :=
 .seq (.region [⟨some 2, .box 39 6 (.tmp 0), none⟩,
  ⟨some 4, .move (.const (.int .i64 0)), none⟩,
  ⟨some 5, .move (.const (.int .i64 0)), none⟩,
  ⟨some 6, .move (.const (.int .i64 0)), none⟩])
 (.seq (.region [⟨some 10, .load true 6 (.tmp 2), none⟩,
  ⟨some 11, .call 22 [.tmp 10], none⟩,
  ⟨some 9, .move (.tmp 11), none⟩,
  ⟨some 12, .extract (.tmp 9) 0, none⟩,
  ⟨some 13, .extract (.tmp 9) 1, none⟩,
  ⟨some 7, .move (.tmp 12), none⟩,
  ⟨some 8, .move (.tmp 13), none⟩])
 (.seq (.seq (.region [⟨some 14, .move (.tmp 8), none⟩,
  ⟨some 15, .bin .neq (.tmp 14) (.const (.int .i64 0)), none⟩])
 (.cond (.tmp 15) (.seq (.region [⟨some 16, .move (.tmp 8), none⟩,
  ⟨some 4, .move (.const (.int .i64 0)), none⟩,
  ⟨some 5, .move (.const (.int .i64 0)), none⟩,
  ⟨some 6, .move (.tmp 16), none⟩])
 (.ret))
 (.skip)))
 (.seq (.seq (.region [⟨some 17, .move (.tmp 1), none⟩,
  ⟨some 18, .bin .lss (.tmp 17) (.const (.int .i64 0)), none⟩,
  ⟨some 19, .move (.tmp 18), none⟩,
  ⟨some 20, .move (.tmp 1), (some (19, false))⟩,
  ⟨some 21, .move (.tmp 7), (some (19, false))⟩,
  ⟨some 22, .bin .geq (.tmp 20) (.tmp 21), (some (19, false))⟩,
  ⟨some 23, .pick (.tmp 19) (.const (.bool true)) (.tmp 22), none⟩])
 (.cond (.tmp 23) (.seq (.region [⟨some 4, .move (.const (.int .i64 0)), none⟩,
  ⟨some 5, .move (.const (.int .i64 0)), none⟩,
  ⟨some 6, .move (.const (.int .i64 210)), none⟩])
 (.ret))
 (.skip)))
 (.seq (.seq (.region [⟨some 24, .off 0 (.tmp 2), none⟩,
  ⟨some 25, .load false 1 (.tmp 24), none⟩,
  ⟨some 26, .bin .eql (.tmp 25) (.const (.int .i64 2)), none⟩])
 (.cond (.tmp 26) (.seq (.draw [⟨⟨some 27, .move (.tmp 1), none⟩, .pure, 0, 0⟩,
  ⟨⟨some 28, .off 5 (.tmp 2), none⟩, .pure, 0, 0⟩,
  ⟨⟨some 29, .load false 1 (.tmp 28), none⟩, .read, 0, 0⟩,
  ⟨⟨some 30, .bin .quo (.tmp 27) (.tmp 29), none⟩, .pure, 0, 0⟩,
  ⟨⟨some 31, .move (.tmp 1), none⟩, .pure, 0, 0⟩,
  ⟨⟨some 32, .off 5 (.tmp 2), none⟩, .pure, 0, 0⟩,
  ⟨⟨some 33, .load false 1 (.tmp 32), none⟩, .read, 0, 0⟩,
  ⟨⟨some 34, .bin .rem (.tmp 31) (.tmp 33), none⟩, .pure, 0, 0⟩,
  ⟨⟨some 4, .move (.tmp 30), none⟩, .pure, 0, 0⟩,
  ⟨⟨some 5, .move (.tmp 34), none⟩, .pure, 0, 0⟩,
  ⟨⟨some 6, .move (.const (.int .i64 0)), none⟩, .pure, 0, 0⟩])
 (.ret))
 (.skip)))
 (.seq (.region [⟨some 35, .off 1 (.tmp 2), none⟩,
  ⟨some 36, .load false 1 (.tmp 35), none⟩,
  ⟨some 37, .move (.tmp 1), none⟩,
  ⟨some 38, .off 3 (.tmp 2), none⟩,
  ⟨some 39, .load false 1 (.tmp 38), none⟩,
  ⟨some 40, .bin .mul (.tmp 37) (.tmp 39), none⟩,
  ⟨some 41, .bin .add (.tmp 36) (.tmp 40), none⟩,
  ⟨some 4, .move (.tmp 41), none⟩,
  ⟨some 5, .move (.const (.int .i64 0)), none⟩,
  ⟨some 6, .move (.const (.int .i64 0)), none⟩])
 (.ret))))))
theorem light38 : Light Try.prog 38 2 42 L38 [.tmp 4, .tmp 5, .tmp 6] :=
  ⟨Try.f38, _, Try.func38, rfl, rfl, by kernel_rfl, by kernel_rfl, by decide⟩

/-! ### function 39: outrider/vm.New -/
def L39 : LCode :=
 .seq (.region [⟨some 14, .move (.const (.pointer none)), none⟩,
  ⟨some 15, .move (.const (.int .i64 0)), none⟩])
 (.seq (.seq (.region [⟨some 20, .move (.tmp 0), none⟩,
  ⟨some 21, .move (.tmp 1), none⟩,
  ⟨some 22, .call 36 [.tmp 20, .tmp 21], none⟩,
  ⟨some 19, .move (.tmp 22), none⟩,
  ⟨some 23, .extract (.tmp 19) 0, none⟩,
  ⟨some 24, .extract (.tmp 19) 1, none⟩,
  ⟨some 16, .move (.tmp 23), none⟩,
  ⟨some 17, .move (.tmp 24), none⟩])
 (.seq (.region [⟨some 25, .move (.tmp 17), none⟩,
  ⟨some 26, .bin .neq (.tmp 25) (.const (.int .i64 0)), none⟩])
 (.cond (.tmp 26) (.seq (.region [⟨some 27, .move (.tmp 17), none⟩,
  ⟨some 14, .move (.const (.pointer none)), none⟩,
  ⟨some 15, .move (.tmp 27), none⟩])
 (.ret))
 (.skip))))
 (.seq (.seq (.region [⟨some 28, .move (.tmp 2), none⟩,
  ⟨some 29, .bin .lss (.tmp 28) (.const (.int .i64 1)), none⟩,
  ⟨some 30, .move (.tmp 29), none⟩,
  ⟨some 31, .move (.tmp 2), (some (30, false))⟩,
  ⟨some 32, .bin .gtr (.tmp 31) (.const (.int .i64 64)), (some (30, false))⟩,
  ⟨some 33, .pick (.tmp 30) (.const (.bool true)) (.tmp 32), none⟩])
 (.cond (.tmp 33) (.seq (.region [⟨some 14, .move (.const (.pointer none)), none⟩,
  ⟨some 15, .move (.const (.int .i64 130)), none⟩])
 (.ret))
 (.skip)))
 (.seq (.seq (.region [⟨some 34, .move (.tmp 3), none⟩,
  ⟨some 35, .bin .lss (.tmp 34) (.const (.int .i64 1)), none⟩,
  ⟨some 36, .move (.tmp 35), none⟩,
  ⟨some 37, .move (.tmp 3), (some (36, false))⟩,
  ⟨some 38, .bin .gtr (.tmp 37) (.const (.int .i64 4000)), (some (36, false))⟩,
  ⟨some 39, .pick (.tmp 36) (.const (.bool true)) (.tmp 38), none⟩])
 (.cond (.tmp 39) (.seq (.region [⟨some 14, .move (.const (.pointer none)), none⟩,
  ⟨some 15, .move (.const (.int .i64 110)), none⟩])
 (.ret))
 (.skip)))
 (.seq (.region [⟨some 40, .move (.tmp 0), none⟩,
  ⟨some 41, .append 60 6 48 (.const (.slice none 0 0)) (.tmp 40), none⟩,
  ⟨some 42, .move (.tmp 2), none⟩,
  ⟨some 43, .move (.tmp 3), none⟩,
  ⟨some 44, .build [.int .i64 0, .int .i64 0, .int .i64 0, .int .i64 0, .int .i64 0, .int .i64 0, .int .i64 0, .int .i64 0, .int .i64 0, .int .i64 0, .int .i64 0, .int .i64 0, .int .i64 0, .int .i64 0, .int .i64 0, .int .i64 0, .int .i64 0, .int .i64 0, .int .i64 0, .int .i64 0, .slice none 0 0, .int .i64 0, .int .i64 0, .int .i64 0, .int .i64 0, .int .i64 0, .int .i64 0, .int .i64 0, .int .i64 0, .int .i64 0, .int .i64 0, .int .i64 0, .int .i64 0, .int .i64 0, .int .i64 0, .int .i64 0, .int .i64 0, .int .i64 0, .int .i64 0, .int .i64 0, .int .i64 0, .int .i64 0, .int .i64 0] [(20, 1, .tmp 41), (21, 1, .tmp 42), (22, 1, .tmp 43)], none⟩,
  ⟨some 45, .box 155 43 (.tmp 44), none⟩,
  ⟨some 18, .move (.tmp 45), none⟩])
 (.seq (.draw [⟨⟨some 46, .move (.tmp 18), none⟩, .pure, 0, 0⟩,
  ⟨⟨some 47, .move (.tmp 18), none⟩, .pure, 0, 1⟩,
  ⟨⟨some 48, .move (.tmp 18), none⟩, .pure, 0, 2⟩,
  ⟨⟨some 49, .move (.tmp 4), none⟩, .pure, 0, 0⟩,
  ⟨⟨some 50, .move (.tmp 5), none⟩, .pure, 0, 1⟩,
  ⟨⟨some 51, .move (.tmp 6), none⟩, .pure, 0, 2⟩,
  ⟨⟨some 52, .nilCheck (.tmp 46), none⟩, .pure, 0, 0⟩,
  ⟨⟨some 53, .off 23 (.tmp 52), none⟩, .pure, 0, 0⟩,
  ⟨⟨some 54, .off 0 (.tmp 53), none⟩, .pure, 0, 0⟩,
  ⟨⟨some 55, .idxArr 16 1 (.tmp 54) (.const (.int .i64 0)), none⟩, .pure, 0, 0⟩,
  ⟨⟨none, .store 1 (.tmp 55) (.tmp 49), none⟩, .heavy, 0, 1⟩,
  ⟨⟨some 56, .nilCheck (.tmp 47), none⟩, .pure, 0, 1⟩,
  ⟨⟨some 57, .off 23 (.tmp 56), none⟩, .pure, 0, 1⟩,
  ⟨⟨some 58, .off 0 (.tmp 57), none⟩, .pure, 0, 1⟩,
  ⟨⟨some 59, .idxArr 16 1 (.tmp 58) (.const (.int .i64 1)), none⟩, .pure, 1, 1⟩,
  ⟨⟨none, .store 1 (.tmp 59) (.tmp 50), none⟩, .heavy, 1, 2⟩,
  ⟨⟨some 60, .nilCheck (.tmp 48), none⟩, .pure, 0, 2⟩,
  ⟨⟨some 61, .off 23 (.tmp 60), none⟩, .pure, 0, 2⟩,
  ⟨⟨some 62, .off 0 (.tmp 61), none⟩, .pure, 0, 2⟩,
  ⟨⟨some 63, .idxArr 16 1 (.tmp 62) (.const (.int .i64 2)), none⟩, .pure, 2, 2⟩,
  ⟨⟨none, .store 1 (.tmp 63) (.tmp 51), none⟩, .heavy, 2, 3⟩])
 (.seq (.region [⟨some 64, .move (.tmp 18), none⟩,
  ⟨some 65, .move (.tmp 18), none⟩,
  ⟨some 66, .nilCheck (.tmp 65), none⟩,
  ⟨some 67, .off 23 (.tmp 66), none⟩,
  ⟨some 68, .load true 20 (.tmp 67), none⟩,
  ⟨some 69, .nilCheck (.tmp 64), none⟩,
  ⟨some 70, .off 0 (.tmp 69), none⟩,
  ⟨none, .store 20 (.tmp 70) (.tmp 68), none⟩])
 (.seq (.region [⟨some 71, .move (.tmp 18), none⟩,
  ⟨some 14, .move (.tmp 71), none⟩,
  ⟨some 15, .move (.const (.int .i64 0)), none⟩])
 (.ret))))))))
theorem light39 : Light Try.prog 39 7 72 L39 [.tmp 14, .tmp 15] :=
  ⟨Try.f39, _, Try.func39, rfl, rfl, by kernel_rfl, by kernel_rfl, by decide⟩

/-! ### function 40: outrider/flow.fresh -/
def L40 : LCode :=
 .seq (.region [⟨some 0, .move (.const (.pointer none)), none⟩])
 (.seq (.region [⟨some 1, .makeMap, none⟩,
  ⟨some 2, .makeMap, none⟩,
  ⟨some 3, .build [.map none, .map none] [(0, 1, .tmp 1), (1, 1, .tmp 2)], none⟩,
  ⟨some 4, .box 115 2 (.tmp 3), none⟩,
  ⟨some 0, .move (.tmp 4), none⟩])
 (.ret))
theorem light40 : Light Try.prog 40 0 5 L40 [.tmp 0] :=
  ⟨Try.f40, _, Try.func40, rfl, rfl, by kernel_rfl, by kernel_rfl, by decide⟩

/-! ### function 41: (*outrider/vm.VM).Want -/
def L41 : LCode :=
 .seq (.region [⟨some 2, .new 107 3 [.int .i64 0, .int .i64 0, .int .i64 0], none⟩])
 (.seq (.seq (.draw [⟨⟨some 6, .move (.tmp 0), none⟩, .pure, 0, 0⟩,
  ⟨⟨some 7, .nilCheck (.tmp 6), none⟩, .pure, 0, 0⟩,
  ⟨⟨some 8, .off 0 (.tmp 7), none⟩, .pure, 0, 0⟩,
  ⟨⟨some 9, .off 18 (.tmp 8), none⟩, .pure, 0, 0⟩,
  ⟨⟨some 10, .load false 1 (.tmp 9), none⟩, .read, 0, 0⟩,
  ⟨⟨some 11, .bin .neq (.tmp 10) (.const (.int .i64 0)), none⟩, .pure, 0, 0⟩,
  ⟨⟨some 12, .move (.tmp 11), none⟩, .pure, 0, 0⟩,
  ⟨⟨some 13, .move (.tmp 0), (some (12, false))⟩, .pure, 0, 0⟩,
  ⟨⟨some 14, .nilCheck (.tmp 13), (some (12, false))⟩, .pure, 0, 0⟩,
  ⟨⟨some 15, .off 0 (.tmp 14), (some (12, false))⟩, .pure, 0, 0⟩,
  ⟨⟨some 16, .off 17 (.tmp 15), (some (12, false))⟩, .pure, 0, 0⟩,
  ⟨⟨some 17, .load false 1 (.tmp 16), (some (12, false))⟩, .read, 0, 0⟩,
  ⟨⟨some 18, .move (.tmp 0), (some (12, false))⟩, .pure, 0, 0⟩,
  ⟨⟨some 19, .nilCheck (.tmp 18), (some (12, false))⟩, .pure, 0, 0⟩,
  ⟨⟨some 20, .off 22 (.tmp 19), (some (12, false))⟩, .pure, 0, 0⟩,
  ⟨⟨some 21, .load false 1 (.tmp 20), (some (12, false))⟩, .read, 0, 0⟩,
  ⟨⟨some 22, .bin .eql (.tmp 17) (.tmp 21), (some (12, false))⟩, .pure, 0, 0⟩,
  ⟨⟨some 23, .pick (.tmp 12) (.const (.bool true)) (.tmp 22), none⟩, .pure, 0, 0⟩])
 (.cond (.tmp 23) (.seq (.region [⟨some 24, .build [.int .i64 0, .int .i64 0, .int .i64 0] [], none⟩,
  ⟨none, .store 3 (.tmp 2) (.tmp 24), none⟩])
 (.ret))
 (.skip)))
 (.seq (.draw [⟨⟨some 25, .move (.tmp 0), none⟩, .pure, 0, 1⟩,
  ⟨⟨some 26, .nilCheck (.tmp 25), none⟩, .pure, 0, 1⟩,
  ⟨⟨some 27, .off 20 (.tmp 26), none⟩, .pure, 0, 1⟩,
  ⟨⟨some 28, .load false 1 (.tmp 27), none⟩, .read, 0, 1⟩,
  ⟨⟨some 29, .move (.tmp 0), none⟩, .pure, 0, 1⟩,
  ⟨⟨some 30, .nilCheck (.tmp 29), none⟩, .pure, 0, 1⟩,
  ⟨⟨some 31, .off 0 (.tmp 30), none⟩, .pure, 0, 1⟩,
  ⟨⟨some 32, .off 16 (.tmp 31), none⟩, .pure, 0, 1⟩,
  ⟨⟨some 33, .load false 1 (.tmp 32), none⟩, .read, 0, 1⟩,
  ⟨⟨some 34, .idx 6 (.tmp 28) (.tmp 33), none⟩, .pure, 0, 1⟩,
  ⟨⟨some 35, .load true 6 (.tmp 34), none⟩, .read, 0, 1⟩,
  ⟨⟨some 3, .new 60 6 [.int .i64 0, .int .i64 0, .int .i64 0, .int .i64 0, .int .i64 0, .int .i64 0], none⟩, .heavy, 0, 1⟩,
  ⟨⟨none, .store 6 (.tmp 3) (.tmp 35), none⟩, .heavy, 1, 2⟩])
 (.seq (.region [⟨some 37, .move (.tmp 0), none⟩,
  ⟨some 38, .load true 6 (.tmp 3), none⟩,
  ⟨some 39, .call 60 [.tmp 37, .tmp 38], none⟩,
  ⟨some 36, .move (.tmp 39), none⟩,
  ⟨some 40, .extract (.tmp 36) 0, none⟩,
  ⟨some 41, .extract (.tmp 36) 1, none⟩,
  ⟨some 4, .move (.tmp 40), none⟩,
  ⟨some 5, .move (.tmp 41), none⟩])
 (.seq (.block 0 (.seq (.region [⟨some 43, .off 0 (.tmp 3), none⟩,
  ⟨some 44, .load false 1 (.tmp 43), none⟩,
  ⟨some 45, .bin .eql (.tmp 44) (.const (.int .i64 6)), none⟩,
  ⟨some 46, .move (.tmp 45), none⟩,
  ⟨some 47, .move (.tmp 5), (some (46, true))⟩,
  ⟨some 48, .pick (.tmp 46) (.tmp 47) (.const (.bool false)), none⟩,
  ⟨some 42, .move (.tmp 48), none⟩])
 (.cond (.tmp 42) (.seq (.region [⟨some 49, .move (.tmp 4), none⟩,
  ⟨some 50, .build [.int .i64 0, .int .i64 0, .int .i64 0] [(0, 1, .const (.int .i64 1)), (1, 1, .tmp 49)], none⟩,
  ⟨none, .store 3 (.tmp 2) (.tmp 50), none⟩])
 (.ret))
 (.seq (.region [⟨some 52, .off 0 (.tmp 3), none⟩,
  ⟨some 53, .load false 1 (.tmp 52), none⟩,
  ⟨some 54, .bin .eql (.tmp 53) (.const (.int .i64 7)), none⟩,
  ⟨some 55, .move (.tmp 54), none⟩,
  ⟨some 56, .move (.tmp 5), (some (55, true))⟩,
  ⟨some 57, .pick (.tmp 55) (.tmp 56) (.const (.bool false)), none⟩,
  ⟨some 51, .move (.tmp 57), none⟩])
 (.cond (.tmp 51) (.seq (.draw [⟨⟨some 58, .move (.tmp 4), none⟩, .pure, 0, 0⟩,
  ⟨⟨some 59, .move (.tmp 0), none⟩, .pure, 0, 0⟩,
  ⟨⟨some 60, .off 2 (.tmp 3), none⟩, .pure, 0, 0⟩,
  ⟨⟨some 61, .load false 1 (.tmp 60), none⟩, .read, 0, 0⟩,
  ⟨⟨some 62, .nilCheck (.tmp 59), none⟩, .pure, 0, 0⟩,
  ⟨⟨some 63, .off 0 (.tmp 62), none⟩, .pure, 0, 0⟩,
  ⟨⟨some 64, .off 0 (.tmp 63), none⟩, .pure, 0, 0⟩,
  ⟨⟨some 65, .idxArr 16 1 (.tmp 64) (.tmp 61), none⟩, .pure, 0, 0⟩,
  ⟨⟨some 66, .load false 1 (.tmp 65), none⟩, .read, 0, 0⟩,
  ⟨⟨some 67, .build [.int .i64 0, .int .i64 0, .int .i64 0] [(0, 1, .const (.int .i64 2)), (1, 1, .tmp 58), (2, 1, .tmp 66)], none⟩, .pure, 0, 0⟩,
  ⟨⟨none, .store 3 (.tmp 2) (.tmp 67), none⟩, .heavy, 0, 1⟩])
 (.ret))
 (.seq (.region [⟨some 69, .off 0 (.tmp 3), none⟩,
  ⟨some 70, .load false 1 (.tmp 69), none⟩,
  ⟨some 71, .bin .eql (.tmp 70) (.const (.int .i64 8)), none⟩,
  ⟨some 68, .move (.tmp 71), none⟩])
 (.cond (.tmp 68) (.seq (.draw [⟨⟨some 72, .off 4 (.tmp 3), none⟩, .pure, 0, 0⟩,
  ⟨⟨some 73, .load false 1 (.tmp 72), none⟩, .read, 0, 0⟩,
  ⟨⟨some 74, .move (.tmp 0), none⟩, .pure, 0, 0⟩,
  ⟨⟨some 75, .off 2 (.tmp 3), none⟩, .pure, 0, 0⟩,
  ⟨⟨some 76, .load false 1 (.tmp 75), none⟩, .read, 0, 0⟩,
  ⟨⟨some 77, .nilCheck (.tmp 74), none⟩, .pure, 0, 0⟩,
  ⟨⟨some 78, .off 0 (.tmp 77), none⟩, .pure, 0, 0⟩,
  ⟨⟨some 79, .off 0 (.tmp 78), none⟩, .pure, 0, 0⟩,
  ⟨⟨some 80, .idxArr 16 1 (.tmp 79) (.tmp 76), none⟩, .pure, 0, 0⟩,
  ⟨⟨some 81, .load false 1 (.tmp 80), none⟩, .read, 0, 0⟩,
  ⟨⟨some 82, .build [.int .i64 0, .int .i64 0, .int .i64 0] [(0, 1, .const (.int .i64 3)), (1, 1, .tmp 73), (2, 1, .tmp 81)], none⟩, .pure, 0, 0⟩,
  ⟨⟨none, .store 3 (.tmp 2) (.tmp 82), none⟩, .heavy, 0, 1⟩])
 (.ret))
 (.seq (.region [⟨some 84, .off 0 (.tmp 3), none⟩,
  ⟨some 85, .load false 1 (.tmp 84), none⟩,
  ⟨some 86, .bin .eql (.tmp 85) (.const (.int .i64 9)), none⟩,
  ⟨some 83, .move (.tmp 86), none⟩])
 (.cond (.tmp 83) (.seq (.draw [⟨⟨some 87, .move (.tmp 0), none⟩, .pure, 0, 0⟩,
  ⟨⟨some 88, .off 2 (.tmp 3), none⟩, .pure, 0, 0⟩,
  ⟨⟨some 89, .load false 1 (.tmp 88), none⟩, .read, 0, 0⟩,
  ⟨⟨some 90, .nilCheck (.tmp 87), none⟩, .pure, 0, 0⟩,
  ⟨⟨some 91, .off 0 (.tmp 90), none⟩, .pure, 0, 0⟩,
  ⟨⟨some 92, .off 0 (.tmp 91), none⟩, .pure, 0, 0⟩,
  ⟨⟨some 93, .idxArr 16 1 (.tmp 92) (.tmp 89), none⟩, .pure, 0, 0⟩,
  ⟨⟨some 94, .load false 1 (.tmp 93), none⟩, .read, 0, 0⟩,
  ⟨⟨some 95, .build [.int .i64 0, .int .i64 0, .int .i64 0] [(0, 1, .const (.int .i64 4)), (2, 1, .tmp 94)], none⟩, .pure, 0, 0⟩,
  ⟨⟨none, .store 3 (.tmp 2) (.tmp 95), none⟩, .heavy, 0, 1⟩])
 (.ret))
 (.skip))))))))))
 (.seq (.region [⟨some 96, .build [.int .i64 0, .int .i64 0, .int .i64 0] [], none⟩,
  ⟨none, .store 3 (.tmp 2) (.tmp 96), none⟩])
 (.ret))))))
theorem light41 : Light Try.prog 41 1 97 L41 [.cell 2 true 3] :=
  ⟨Try.f41, _, Try.func41, rfl, rfl, by kernel_rfl, by kernel_rfl, by decide⟩

/-! ### function 42: (*outrider/flow.did).load -/
def L42 : LCode :=
 .seq (.region [⟨some 7, .move (.tmp 0), none⟩,
  ⟨some 8, .nilCheck (.tmp 7), none⟩,
  ⟨some 9, .off 1 (.tmp 8), none⟩,
  ⟨some 10, .load false 1 (.tmp 9), none⟩,
  ⟨some 11, .move (.tmp 1), none⟩,
  ⟨some 12, .lookup (.int .i64) (.agg #[]) true (.tmp 10) (.tmp 11), none⟩,
  ⟨some 6, .move (.tmp 12), none⟩,
  ⟨some 13, .extract (.tmp 6) 0, none⟩,
  ⟨some 14, .extract (.tmp 6) 1, none⟩,
  ⟨some 4, .new 158 1 [], none⟩,
  ⟨none, .store 0 (.tmp 4) (.tmp 13), none⟩,
  ⟨some 5, .move (.tmp 14), none⟩])
 (.seq (.region [⟨some 15, .move (.tmp 5), none⟩,
  ⟨some 16, .un .not (.tmp 15), none⟩])
 (.cond (.tmp 16) (.region [⟨some 17, .move (.tmp 0), none⟩,
  ⟨some 18, .nilCheck (.tmp 17), none⟩,
  ⟨some 19, .off 0 (.tmp 18), none⟩,
  ⟨some 20, .load false 1 (.tmp 19), none⟩,
  ⟨some 21, .move (.tmp 1), none⟩,
  ⟨some 22, .call 47 [.tmp 20, .tmp 21], none⟩])
 (.skip)))
theorem light42 : Light Try.prog 42 2 23 L42 [] :=
  ⟨Try.f42, _, Try.func42, rfl, rfl, by kernel_rfl, by kernel_rfl, by decide⟩

/-! ### function 43: (*outrider/flow.did).store -/
def L43 : LCode :=
 .region [⟨some 4, .move (.tmp 0), none⟩,
  ⟨some 5, .nilCheck (.tmp 4), none⟩,
  ⟨some 6, .off 1 (.tmp 5), none⟩,
  ⟨some 7, .load false 1 (.tmp 6), none⟩,
  ⟨some 8, .move (.tmp 1), none⟩,
  ⟨some 9, .call 47 [.tmp 7, .tmp 8], none⟩]
theorem light43 : Light Try.prog 43 2 10 L43 [] :=
  ⟨Try.f43, _, Try.func43, rfl, rfl, by kernel_rfl, by kernel_rfl, by decide⟩

/-! ### function 44: (*outrider/vm.VM).Step -/
def L44 : LCode :=
 .seq (.region [⟨some 4, .move (.const (.bool false)), none⟩])
 (.seq (.seq (.region [⟨some 6, .move (.tmp 0), none⟩,
  ⟨some 7, .nilCheck (.tmp 6), none⟩,
  ⟨some 8, .off 0 (.tmp 7), none⟩,
  ⟨some 9, .off 18 (.tmp 8), none⟩,
  ⟨some 10, .load false 1 (.tmp 9), none⟩,
  ⟨some 11, .bin .neq (.tmp 10) (.const (.int .i64 0)), none⟩])
 (.cond (.tmp 11) (.seq (.region [⟨some 4, .move (.const (.bool false)), none⟩])
 (.ret))
 (.skip)))
 (.seq (.seq (.draw [⟨⟨some 12, .move (.tmp 0), none⟩, .pure, 0, 0⟩,
  ⟨⟨some 13, .nilCheck (.tmp 12), none⟩, .pure, 0, 0⟩,
  ⟨⟨some 14, .off 0 (.tmp 13), none⟩, .pure, 0, 0⟩,
  ⟨⟨some 15, .off 17 (.tmp 14), none⟩, .pure, 0, 0⟩,
  ⟨⟨some 16, .load false 1 (.tmp 15), none⟩, .read, 0, 0⟩,
  ⟨⟨some 17, .move (.tmp 0), none⟩, .pure, 0, 0⟩,
  ⟨⟨some 18, .nilCheck (.tmp 17), none⟩, .pure, 0, 0⟩,
  ⟨⟨some 19, .off 22 (.tmp 18), none⟩, .pure, 0, 0⟩,
  ⟨⟨some 20, .load false 1 (.tmp 19), none⟩, .read, 0, 0⟩,
  ⟨⟨some 21, .bin .eql (.tmp 16) (.tmp 20), none⟩, .pure, 0, 0⟩])
 (.cond (.tmp 21) (.seq (.region [⟨some 22, .move (.tmp 0), none⟩,
  ⟨some 23, .call 61 [.tmp 22, .const (.int .i64 5), .const (.int .i64 0)], none⟩])
 (.seq (.region [⟨some 4, .move (.const (.bool true)), none⟩])
 (.ret)))
 (.skip)))
 (.seq (.region [⟨some 24, .move (.tmp 0), none⟩,
  ⟨some 25, .nilCheck (.tmp 24), none⟩,
  ⟨some 26, .off 0 (.tmp 25), none⟩,
  ⟨some 27, .off 17 (.tmp 26), none⟩,
  ⟨some 28, .load false 1 (.tmp 27), none⟩,
  ⟨some 29, .bin .add (.tmp 28) (.const (.int .i64 1)), none⟩,
  ⟨some 30, .nilCheck (.tmp 24), none⟩,
  ⟨some 31, .off 0 (.tmp 30), none⟩,
  ⟨some 32, .off 17 (.tmp 31), none⟩,
  ⟨none, .store 1 (.tmp 32) (.tmp 29), none⟩])
 (.seq (.draw [⟨⟨some 33, .move (.tmp 0), none⟩, .pure, 0, 1⟩,
  ⟨⟨some 34, .nilCheck (.tmp 33), none⟩, .pure, 0, 1⟩,
  ⟨⟨some 35, .off 20 (.tmp 34), none⟩, .pure, 0, 1⟩,
  ⟨⟨some 36, .load false 1 (.tmp 35), none⟩, .read, 0, 1⟩,
  ⟨⟨some 37, .move (.tmp 0), none⟩, .pure, 0, 1⟩,
  ⟨⟨some 38, .nilCheck (.tmp 37), none⟩, .pure, 0, 1⟩,
  ⟨⟨some 39, .off 0 (.tmp 38), none⟩, .pure, 0, 1⟩,
  ⟨⟨some 40, .off 16 (.tmp 39), none⟩, .pure, 0, 1⟩,
  ⟨⟨some 41, .load false 1 (.tmp 40), none⟩, .read, 0, 1⟩,
  ⟨⟨some 42, .idx 6 (.tmp 36) (.tmp 41), none⟩, .pure, 0, 1⟩,
  ⟨⟨some 43, .load true 6 (.tmp 42), none⟩, .read, 0, 1⟩,
  ⟨⟨some 5, .new 60 6 [.int .i64 0, .int .i64 0, .int .i64 0, .int .i64 0, .int .i64 0, .int .i64 0], none⟩, .heavy, 0, 1⟩,
  ⟨⟨none, .store 6 (.tmp 5) (.tmp 43), none⟩, .heavy, 1, 2⟩])
 (.seq (.seq (.region [⟨some 44, .off 0 (.tmp 5), none⟩,
  ⟨some 45, .load false 1 (.tmp 44), none⟩])
 (.block 0 (.seq (.region [⟨some 50, .bin .eql (.tmp 45) (.const (.int .i64 1)), none⟩,
  ⟨some 49, .move (.tmp 50), none⟩])
 (.cond (.tmp 49) (.region [⟨some 51, .move (.tmp 0), none⟩,
  ⟨some 52, .call 61 [.tmp 51, .const (.int .i64 1), .const (.int .i64 0)], none⟩])
 (.seq (.region [⟨some 54, .bin .eql (.tmp 45) (.const (.int .i64 13)), none⟩,
  ⟨some 53, .move (.tmp 54), none⟩])
 (.cond (.tmp 53) (.draw [⟨⟨some 55, .move (.tmp 0), none⟩, .pure, 0, 0⟩,
  ⟨⟨some 56, .move (.tmp 0), none⟩, .pure, 0, 0⟩,
  ⟨⟨some 57, .off 2 (.tmp 5), none⟩, .pure, 0, 0⟩,
  ⟨⟨some 58, .load false 1 (.tmp 57), none⟩, .read, 0, 0⟩,
  ⟨⟨some 59, .nilCheck (.tmp 56), none⟩, .pure, 0, 0⟩,
  ⟨⟨some 60, .off 0 (.tmp 59), none⟩, .pure, 0, 0⟩,
  ⟨⟨some 61, .off 0 (.tmp 60), none⟩, .pure, 0, 0⟩,
  ⟨⟨some 62, .idxArr 16 1 (.tmp 61) (.tmp 58), none⟩, .pure, 0, 0⟩,
  ⟨⟨some 63, .load false 1 (.tmp 62), none⟩, .read, 0, 0⟩,
  ⟨⟨some 64, .call 61 [.tmp 55, .const (.int .i64 4), .tmp 63], none⟩, .heavy, 0, 1⟩])
 (.seq (.seq (.region [⟨some 66, .bin .eql (.tmp 45) (.const (.int .i64 6)), none⟩,
  ⟨some 65, .move (.tmp 66), none⟩])
 (.cond (.tmp 65) (.skip)
 (.region [⟨some 67, .bin .eql (.tmp 45) (.const (.int .i64 7)), none⟩,
  ⟨some 65, .move (.tmp 67), none⟩])))
 (.cond (.tmp 65) (.region [⟨some 68, .move (.tmp 0), none⟩,
  ⟨some 69, .load true 6 (.tmp 5), none⟩,
  ⟨some 70, .move (.tmp 1), none⟩,
  ⟨some 71, .call 62 [.tmp 68, .tmp 69, .tmp 70], none⟩])
 (.seq (.seq (.region [⟨some 73, .bin .eql (.tmp 45) (.const (.int .i64 10)), none⟩,
  ⟨some 72, .move (.tmp 73), none⟩])
 (.cond (.tmp 72) (.skip)
 (.seq (.region [⟨some 74, .bin .eql (.tmp 45) (.const (.int .i64 11)), none⟩,
  ⟨some 72, .move (.tmp 74), none⟩])
 (.cond (.tmp 72) (.skip)
 (.region [⟨some 75, .bin .eql (.tmp 45) (.const (.int .i64 12)), none⟩,
  ⟨some 72, .move (.tmp 75), none⟩])))))
 (.cond (.tmp 72) (.region [⟨some 76, .move (.tmp 0), none⟩,
  ⟨some 77, .load true 6 (.tmp 5), none⟩,
  ⟨some 78, .call 63 [.tmp 76, .tmp 77], none⟩])
 (.region [⟨some 46, .move (.tmp 0), none⟩,
  ⟨some 47, .load true 6 (.tmp 5), none⟩,
  ⟨some 48, .call 64 [.tmp 46, .tmp 47], none⟩])))))))))))
 (.seq (.region [⟨some 4, .move (.const (.bool true)), none⟩])
 (.ret)))))))
theorem light44 : Light Try.prog 44 2 79 L44 [.tmp 4] :=
  ⟨Try.f44, _, Try.func44, rfl, rfl, by kernel_rfl, by kernel_rfl, by decide⟩

/-! ### function 45: (*outrider/vm.VM).End -/
def L45 : LCode :=
 .seq (.region [⟨some 2, .move (.const (.int .i64 0)), none⟩,
  ⟨some 3, .move (.const (.int .i64 0)), none⟩])
 (.seq (.draw [⟨⟨some 4, .move (.tmp 0), none⟩, .pure, 0, 0⟩,
  ⟨⟨some 5, .nilCheck (.tmp 4), none⟩, .pure, 0, 0⟩,
  ⟨⟨some 6, .off 0 (.tmp 5), none⟩, .pure, 0, 0⟩,
  ⟨⟨some 7, .off 18 (.tmp 6), none⟩, .pure, 0, 0⟩,
  ⟨⟨some 8, .load false 1 (.tmp 7), none⟩, .read, 0, 0⟩,
  ⟨⟨some 9, .move (.tmp 0), none⟩, .pure, 0, 0⟩,
  ⟨⟨some 10, .nilCheck (.tmp 9), none⟩, .pure, 0, 0⟩,
  ⟨⟨some 11, .off 0 (.tmp 10), none⟩, .pure, 0, 0⟩,
  ⟨⟨some 12, .off 19 (.tmp 11), none⟩, .pure, 0, 0⟩,
  ⟨⟨some 13, .load false 1 (.tmp 12), none⟩, .read, 0, 0⟩,
  ⟨⟨some 2, .move (.tmp 8), none⟩, .pure, 0, 0⟩,
  ⟨⟨some 3, .move (.tmp 13), none⟩, .pure, 0, 0⟩])
 (.ret))
theorem light45 : Light Try.prog 45 1 14 L45 [.tmp 2, .tmp 3] :=
  ⟨Try.f45, _, Try.func45, rfl, rfl, by kernel_rfl, by kernel_rfl, by decide⟩

/-! ### function 46: (outrider/flow.set).list -/
def L46_1 : LCode :=
 .seq (.region [⟨some 7, .nextM (.tmp 6), none⟩,
  ⟨some 8, .extract (.tmp 7) 0, none⟩])
 (.seq (.cond (.tmp 8) (.skip)
 (.exit 0))
 (.block 1 (.seq (.region [⟨some 9, .entryM (.tmp 6), none⟩,
  ⟨some 10, .extract (.tmp 9) 0, none⟩,
  ⟨some 4, .move (.tmp 10), none⟩])
 (.region [⟨some 11, .move (.tmp 3), none⟩,
  ⟨some 12, .move (.tmp 4), none⟩,
  ⟨some 13, .buildSlice 3 1 1 [.int .i64 0] [(0, 1, .tmp 12)], none⟩,
  ⟨some 14, .append 3 1 8 (.tmp 11) (.tmp 13), none⟩,
  ⟨some 3, .move (.tmp 14), none⟩]))))
def L46 : LCode :=
 .seq (.region [⟨some 2, .move (.const (.slice none 0 0)), none⟩])
 (.seq (.region [⟨some 3, .move (.const (.slice none 0 0)), none⟩])
 (.seq (.seq (.region [⟨some 5, .move (.tmp 0), none⟩,
  ⟨some 6, .rangeM (.tmp 5), none⟩])
 (.block 0 (.loop L46_1)))
 (.seq (.region [⟨some 15, .move (.tmp 3), none⟩,
  ⟨some 16, .call 65 [.tmp 15], none⟩])
 (.seq (.region [⟨some 17, .move (.tmp 3), none⟩,
  ⟨some 2, .move (.tmp 17), none⟩])
 (.ret)))))
theorem light46 : Light Try.prog 46 1 18 L46 [.tmp 2] :=
  ⟨Try.f46, _, Try.func46, rfl, rfl, by kernel_rfl, by kernel_rfl, by decide⟩

/-! ### function 47: (outrider/flow.set).add -/
def L47 : LCode :=
 .region [⟨some 4, .move (.tmp 0), none⟩,
  ⟨some 5, .move (.tmp 1), none⟩,
  ⟨some 6, .build [] [], none⟩,
  ⟨none, .mapUpdate (.int .i64) (.tmp 4) (.tmp 5) (.tmp 6), none⟩]
theorem light47 : Light Try.prog 47 2 7 L47 [] :=
  ⟨Try.f47, _, Try.func47, rfl, rfl, by kernel_rfl, by kernel_rfl, by decide⟩

/-! ### function 48: outrider/dep.form -/
def L48 : LCode :=
 .seq (.region [⟨some 4, .new 122 3 [.bool false, .int .i64 0, .int .i64 0], none⟩])
 (.seq (.seq (.region [⟨some 5, .move (.tmp 0), none⟩,
  ⟨some 6, .bin .lss (.tmp 5) (.const (.int .i64 (-1073741824))), none⟩,
  ⟨some 7, .move (.tmp 6), none⟩,
  ⟨some 8, .move (.tmp 0), (some (7, false))⟩,
  ⟨some 9, .bin .gtr (.tmp 8) (.const (.int .i64 1073741824)), (some (7, false))⟩,
  ⟨some 10, .pick (.tmp 7) (.const (.bool true)) (.tmp 9), none⟩,
  ⟨some 11, .move (.tmp 10), none⟩,
  ⟨some 12, .move (.tmp 1), (some (11, false))⟩,
  ⟨some 13, .bin .lss (.tmp 12) (.const (.int .i64 (-1152921504606846976))), (some (11, false))⟩,
  ⟨some 14, .pick (.tmp 11) (.const (.bool true)) (.tmp 13), none⟩,
  ⟨some 15, .move (.tmp 14), none⟩,
  ⟨some 16, .move (.tmp 1), (some (15, false))⟩,
  ⟨some 17, .bin .gtr (.tmp 16) (.const (.int .i64 1152921504606846976)), (some (15, false))⟩,
  ⟨some 18, .pick (.tmp 15) (.const (.bool true)) (.tmp 17), none⟩])
 (.cond (.tmp 18) (.seq (.region [⟨some 19, .build [.bool false, .int .i64 0, .int .i64 0] [], none⟩,
  ⟨none, .store 3 (.tmp 4) (.tmp 19), none⟩])
 (.ret))
 (.skip)))
 (.seq (.region [⟨some 20, .move (.tmp 0), none⟩,
  ⟨some 21, .move (.tmp 1), none⟩,
  ⟨some 22, .build [.bool false, .int .i64 0, .int .i64 0] [(0, 1, .const (.bool true)), (1, 1, .tmp 20), (2, 1, .tmp 21)], none⟩,
  ⟨none, .store 3 (.tmp 4) (.tmp 22), none⟩])
 (.ret)))
theorem light48 : Light Try.prog 48 2 23 L48 [.cell 4 true 3] :=
  ⟨Try.f48, _, Try.func48, rfl, rfl, by kernel_rfl, by kernel_rfl, by decide⟩

/-! ### function 49: (*outrider/dep.walker).step -/
def L49 : LCode :=
 .seq (.region [⟨some 3, .box 60 6 (.tmp 1), none⟩,
  ⟨some 4, .move (.const (.bool false)), none⟩])
 (.seq (.seq (.region [⟨some 11, .off 0 (.tmp 3), none⟩,
  ⟨some 12, .load false 1 (.tmp 11), none⟩])
 (.block 0 (.seq (.region [⟨some 14, .bin .eql (.tmp 12) (.const (.int .i64 2)), none⟩,
  ⟨some 13, .move (.tmp 14), none⟩])
 (.cond (.tmp 13) (.draw [⟨⟨some 15, .move (.tmp 0), none⟩, .pure, 0, 1⟩,
  ⟨⟨some 16, .off 2 (.tmp 3), none⟩, .pure, 0, 1⟩,
  ⟨⟨some 17, .load false 1 (.tmp 16), none⟩, .read, 0, 1⟩,
  ⟨⟨some 18, .off 5 (.tmp 3), none⟩, .pure, 0, 0⟩,
  ⟨⟨some 19, .load false 1 (.tmp 18), none⟩, .read, 0, 0⟩,
  ⟨⟨some 20, .call 48 [.const (.int .i64 0), .tmp 19], none⟩, .heavy, 0, 1⟩,
  ⟨⟨some 21, .nilCheck (.tmp 15), none⟩, .pure, 0, 1⟩,
  ⟨⟨some 22, .off 0 (.tmp 21), none⟩, .pure, 0, 1⟩,
  ⟨⟨some 23, .idxArr 16 3 (.tmp 22) (.tmp 17), none⟩, .pure, 1, 1⟩,
  ⟨⟨none, .store 3 (.tmp 23) (.tmp 20), none⟩, .heavy, 1, 2⟩])
 (.seq (.region [⟨some 25, .bin .eql (.tmp 12) (.const (.int .i64 3)), none⟩,
  ⟨some 24, .move (.tmp 25), none⟩])
 (.cond (.tmp 24) (.draw [⟨⟨some 26, .move (.tmp 0), none⟩, .pure, 0, 0⟩,
  ⟨⟨some 27, .off 2 (.tmp 3), none⟩, .pure, 0, 0⟩,
  ⟨⟨some 28, .load false 1 (.tmp 27), none⟩, .read, 0, 0⟩,
  ⟨⟨some 29, .move (.tmp 0), none⟩, .pure, 0, 0⟩,
  ⟨⟨some 30, .off 3 (.tmp 3), none⟩, .pure, 0, 0⟩,
  ⟨⟨some 31, .load false 1 (.tmp 30), none⟩, .read, 0, 0⟩,
  ⟨⟨some 32, .nilCheck (.tmp 29), none⟩, .pure, 0, 0⟩,
  ⟨⟨some 33, .off 0 (.tmp 32), none⟩, .pure, 0, 0⟩,
  ⟨⟨some 34, .idxArr 16 3 (.tmp 33) (.tmp 31), none⟩, .pure, 0, 0⟩,
  ⟨⟨some 35, .load true 3 (.tmp 34), none⟩, .read, 0, 0⟩,
  ⟨⟨some 36, .nilCheck (.tmp 26), none⟩, .pure, 0, 0⟩,
  ⟨⟨some 37, .off 0 (.tmp 36), none⟩, .pure, 0, 0⟩,
  ⟨⟨some 38, .idxArr 16 3 (.tmp 37) (.tmp 28), none⟩, .pure, 0, 0⟩,
  ⟨⟨none, .store 3 (.tmp 38) (.tmp 35), none⟩, .heavy, 0, 1⟩])
 (.seq (.region [⟨some 40, .bin .eql (.tmp 12) (.const (.int .i64 4)), none⟩,
  ⟨some 39, .move (.tmp 40), none⟩])
 (.cond (.tmp 39) (.seq (.region [⟨some 41, .build [.bool false, .int .i64 0, .int .i64 0] [], none⟩,
  ⟨some 5, .new 122 3 [.bool false, .int .i64 0, .int .i64 0], none⟩,
  ⟨none, .store 3 (.tmp 5) (.tmp 41), none⟩])
 (.seq (.seq (.draw [⟨⟨some 42, .move (.tmp 0), none⟩, .pure, 0, 1⟩,
  ⟨⟨some 43, .off 3 (.tmp 3), none⟩, .pure, 0, 1⟩,
  ⟨⟨some 44, .load false 1 (.tmp 43), none⟩, .read, 0, 1⟩,
  ⟨⟨some 45, .nilCheck (.tmp 42), none⟩, .pure, 0, 1⟩,
  ⟨⟨some 46, .off 0 (.tmp 45), none⟩, .pure, 0, 1⟩,
  ⟨⟨some 47, .idxArr 16 3 (.tmp 46) (.tmp 44), none⟩, .pure, 0, 1⟩,
  ⟨⟨some 48, .load true 3 (.tmp 47), none⟩, .read, 0, 1⟩,
  ⟨⟨some 6, .new 122 3 [.bool false, .int .i64 0, .int .i64 0], none⟩, .heavy, 0, 1⟩,
  ⟨⟨none, .store 3 (.tmp 6) (.tmp 48), none⟩, .heavy, 1, 2⟩])
 (.block 1 (.seq (.region [⟨some 50, .load true 3 (.tmp 6), none⟩,
  ⟨some 51, .call 66 [.tmp 50], none⟩,
  ⟨some 49, .move (.tmp 51), none⟩])
 (.cond (.tmp 49) (.seq (.region [⟨some 53, .off 1 (.tmp 3), none⟩,
  ⟨some 54, .load false 1 (.tmp 53), none⟩,
  ⟨some 55, .off 2 (.tmp 6), none⟩,
  ⟨some 56, .load false 1 (.tmp 55), none⟩,
  ⟨some 57, .call 67 [.tmp 54, .tmp 56], none⟩,
  ⟨some 52, .move (.tmp 57), none⟩,
  ⟨some 58, .extract (.tmp 52) 0, none⟩,
  ⟨some 59, .extract (.tmp 52) 1, none⟩,
  ⟨some 7, .move (.tmp 58), none⟩,
  ⟨some 8, .move (.tmp 59), none⟩])
 (.region [⟨some 60, .move (.tmp 7), none⟩,
  ⟨some 61, .call 48 [.const (.int .i64 0), .tmp 60], none⟩,
  ⟨none, .store 3 (.tmp 5) (.tmp 61), none⟩]))
 (.seq (.region [⟨some 63, .off 0 (.tmp 6), none⟩,
  ⟨some 64, .load false 1 (.tmp 63), none⟩,
  ⟨some 65, .move (.tmp 64), none⟩,
  ⟨some 66, .off 1 (.tmp 3), (some (65, true))⟩,
  ⟨some 67, .load false 1 (.tmp 66), (some (65, true))⟩,
  ⟨some 68, .bin .eql (.tmp 67) (.const (.int .i64 19)), (some (65, true))⟩,
  ⟨some 69, .pick (.tmp 65) (.tmp 68) (.const (.bool false)), none⟩,
  ⟨some 62, .move (.tmp 69), none⟩])
 (.cond (.tmp 62) (.region [⟨some 70, .off 1 (.tmp 6), none⟩,
  ⟨some 71, .load false 1 (.tmp 70), none⟩,
  ⟨some 72, .un .neg (.tmp 71), none⟩,
  ⟨some 73, .off 2 (.tmp 6), none⟩,
  ⟨some 74, .load false 1 (.tmp 73), none⟩,
  ⟨some 75, .un .neg (.tmp 74), none⟩,
  ⟨some 76, .call 48 [.tmp 72, .tmp 75], none⟩,
  ⟨none, .store 3 (.tmp 5) (.tmp 76), none⟩])
 (.skip)))))))
 (.draw [⟨⟨some 77, .move (.tmp 0), none⟩, .pure, 0, 0⟩,
  ⟨⟨some 78, .off 2 (.tmp 3), none⟩, .pure, 0, 0⟩,
  ⟨⟨some 79, .load false 1 (.tmp 78), none⟩, .read, 0, 0⟩,
  ⟨⟨some 80, .load true 3 (.tmp 5), none⟩, .read, 0, 0⟩,
  ⟨⟨some 81, .nilCheck (.tmp 77), none⟩, .pure, 0, 0⟩,
  ⟨⟨some 82, .off 0 (.tmp 81), none⟩, .pure, 0, 0⟩,
  ⟨⟨some 83, .idxArr 16 3 (.tmp 82) (.tmp 79), none⟩, .pure, 0, 0⟩,
  ⟨⟨none, .store 3 (.tmp 83) (.tmp 80), none⟩, .heavy, 0, 1⟩])))
 (.seq (.region [⟨some 85, .bin .eql (.tmp 12) (.const (.int .i64 5)), none⟩,
  ⟨some 84, .move (.tmp 85), none⟩])
 (.cond (.tmp 84) (.seq (.region [⟨some 86, .off 1 (.tmp 3), none⟩,
  ⟨some 87, .load false 1 (.tmp 86), none⟩,
  ⟨some 88, .bin .eql (.tmp 87) (.const (.int .i64 4)), none⟩,
  ⟨some 89, .move (.tmp 88), none⟩,
  ⟨some 90, .off 1 (.tmp 3), (some (89, false))⟩,
  ⟨some 91, .load false 1 (.tmp 90), (some (89, false))⟩,
  ⟨some 92, .bin .eql (.tmp 91) (.const (.int .i64 5)), (some (89, false))⟩,
  ⟨some 93, .pick (.tmp 89) (.const (.bool true)) (.tmp 92), none⟩,
  ⟨some 9, .move (.tmp 93), none⟩])
 (.seq (.seq (.draw [⟨⟨some 94, .move (.tmp 0), none⟩, .pure, 0, 1⟩,
  ⟨⟨some 95, .off 4 (.tmp 3), none⟩, .pure, 0, 1⟩,
  ⟨⟨some 96, .load false 1 (.tmp 95), none⟩, .read, 0, 1⟩,
  ⟨⟨some 97, .nilCheck (.tmp 94), none⟩, .pure, 0, 1⟩,
  ⟨⟨some 98, .off 0 (.tmp 97), none⟩, .pure, 0, 1⟩,
  ⟨⟨some 99, .idxArr 16 3 (.tmp 98) (.tmp 96), none⟩, .pure, 0, 1⟩,
  ⟨⟨some 100, .load true 3 (.tmp 99), none⟩, .read, 0, 1⟩,
  ⟨⟨some 10, .new 122 3 [.bool false, .int .i64 0, .int .i64 0], none⟩, .heavy, 0, 1⟩,
  ⟨⟨none, .store 3 (.tmp 10) (.tmp 100), none⟩, .heavy, 1, 2⟩])
 (.seq (.region [⟨some 101, .move (.tmp 9), none⟩,
  ⟨some 102, .move (.tmp 101), none⟩,
  ⟨some 103, .load true 3 (.tmp 10), (some (102, true))⟩,
  ⟨some 104, .call 66 [.tmp 103], (some (102, true))⟩,
  ⟨some 105, .un .not (.tmp 104), (some (102, true))⟩,
  ⟨some 106, .move (.tmp 105), (some (102, true))⟩,
  ⟨some 107, .off 2 (.tmp 10), (some (106, false))⟩,
  ⟨some 108, .load false 1 (.tmp 107), (some (106, false))⟩,
  ⟨some 109, .bin .eql (.tmp 108) (.const (.int .i64 0)), (some (106, false))⟩,
  ⟨some 110, .pick (.tmp 106) (.const (.bool true)) (.tmp 109), (some (102, true))⟩,
  ⟨some 111, .pick (.tmp 102) (.tmp 110) (.const (.bool false)), none⟩])
 (.cond (.tmp 111) (.seq (.region [⟨some 4, .move (.const (.bool false)), none⟩])
 (.ret))
 (.skip))))
 (.draw [⟨⟨some 112, .move (.tmp 0), none⟩, .pure, 0, 1⟩,
  ⟨⟨some 113, .off 2 (.tmp 3), none⟩, .pure, 0, 1⟩,
  ⟨⟨some 114, .load false 1 (.tmp 113), none⟩, .read, 0, 1⟩,
  ⟨⟨some 115, .off 1 (.tmp 3), none⟩, .pure, 0, 0⟩,
  ⟨⟨some 116, .load false 1 (.tmp 115), none⟩, .read, 0, 0⟩,
  ⟨⟨some 117, .move (.tmp 0), none⟩, .pure, 0, 0⟩,
  ⟨⟨some 118, .off 3 (.tmp 3), none⟩, .pure, 0, 0⟩,
  ⟨⟨some 119, .load false 1 (.tmp 118), none⟩, .read, 0, 0⟩,
  ⟨⟨some 120, .nilCheck (.tmp 117), none⟩, .pure, 0, 0⟩,
  ⟨⟨some 121, .off 0 (.tmp 120), none⟩, .pure, 0, 0⟩,
  ⟨⟨some 122, .idxArr 16 3 (.tmp 121) (.tmp 119), none⟩, .pure, 0, 0⟩,
  ⟨⟨some 123, .load true 3 (.tmp 122), none⟩, .read, 0, 0⟩,
  ⟨⟨some 124, .move (.tmp 0), none⟩, .pure, 0, 0⟩,
  ⟨⟨some 125, .off 4 (.tmp 3), none⟩, .pure, 0, 0⟩,
  ⟨⟨some 126, .load false 1 (.tmp 125), none⟩, .read, 0, 0⟩,
  ⟨⟨some 127, .nilCheck (.tmp 124), none⟩, .pure, 0, 0⟩,
  ⟨⟨some 128, .off 0 (.tmp 127), none⟩, .pure, 0, 0⟩,
  ⟨⟨some 129, .idxArr 16 3 (.tmp 128) (.tmp 126), none⟩, .pure, 0, 0⟩,
  ⟨⟨some 130, .load true 3 (.tmp 129), none⟩, .read, 0, 0⟩,
  ⟨⟨some 131, .call 68 [.tmp 116, .tmp 123, .tmp 130], none⟩, .heavy, 0, 1⟩,
  ⟨⟨some 132, .nilCheck (.tmp 112), none⟩, .pure, 0, 1⟩,
  ⟨⟨some 133, .off 0 (.tmp 132), none⟩, .pure, 0, 1⟩,
  ⟨⟨some 134, .idxArr 16 3 (.tmp 133) (.tmp 114), none⟩, .pure, 1, 1⟩,
  ⟨⟨none, .store 3 (.tmp 134) (.tmp 131), none⟩, .heavy, 1, 2⟩])))
 (.seq (.seq (.region [⟨some 136, .bin .eql (.tmp 12) (.const (.int .i64 6)), none⟩,
  ⟨some 135, .move (.tmp 136), none⟩])
 (.cond (.tmp 135) (.skip)
 (.region [⟨some 137, .bin .eql (.tmp 12) (.const (.int .i64 7)), none⟩,
  ⟨some 135, .move (.tmp 137), none⟩])))
 (.cond (.tmp 135) (.seq (.draw [⟨⟨some 138, .move (.tmp 0), none⟩, .pure, 0, 4⟩,
  ⟨⟨some 139, .move (.tmp 0), none⟩, .pure, 0, 3⟩,
  ⟨⟨some 140, .nilCheck (.tmp 139), none⟩, .pure, 0, 3⟩,
  ⟨⟨some 141, .off 48 (.tmp 140), none⟩, .pure, 0, 3⟩,
  ⟨⟨some 142, .load false 1 (.tmp 141), none⟩, .read, 0, 3⟩,
  ⟨⟨some 143, .off 0 (.tmp 3), none⟩, .pure, 0, 2⟩,
  ⟨⟨some 144, .load false 1 (.tmp 143), none⟩, .read, 0, 2⟩,
  ⟨⟨some 145, .bin .eql (.tmp 144) (.const (.int .i64 7)), none⟩, .pure, 0, 2⟩,
  ⟨⟨some 146, .move (.tmp 0), none⟩, .pure, 0, 1⟩,
  ⟨⟨some 147, .off 3 (.tmp 3), none⟩, .pure, 0, 1⟩,
  ⟨⟨some 148, .load false 1 (.tmp 147), none⟩, .read, 0, 1⟩,
  ⟨⟨some 149, .nilCheck (.tmp 146), none⟩, .pure, 0, 1⟩,
  ⟨⟨some 150, .off 0 (.tmp 149), none⟩, .pure, 0, 1⟩,
  ⟨⟨some 151, .idxArr 16 3 (.tmp 150) (.tmp 148), none⟩, .pure, 0, 1⟩,
  ⟨⟨some 152, .load true 3 (.tmp 151), none⟩, .read, 0, 1⟩,
  ⟨⟨some 153, .off 5 (.tmp 3), none⟩, .pure, 0, 0⟩,
  ⟨⟨some 154, .load false 1 (.tmp 153), none⟩, .read, 0, 0⟩,
  ⟨⟨some 155, .call 48 [.const (.int .i64 0), .tmp 154], none⟩, .heavy, 0, 1⟩,
  ⟨⟨some 156, .call 68 [.const (.int .i64 1), .tmp 152, .tmp 155], none⟩, .heavy, 1, 2⟩,
  ⟨⟨some 157, .build [.bool false, .bool false, .int .i64 0, .int .i64 0] [(0, 1, .tmp 145), (1, 3, .tmp 156)], none⟩, .pure, 2, 2⟩,
  ⟨⟨some 158, .buildSlice 129 4 1 [.bool false, .bool false, .int .i64 0, .int .i64 0] [(0, 4, .tmp 157)], none⟩, .heavy, 2, 3⟩,
  ⟨⟨some 159, .append 129 4 32 (.tmp 142) (.tmp 158), none⟩, .heavy, 3, 4⟩,
  ⟨⟨some 160, .nilCheck (.tmp 138), none⟩, .pure, 4, 4⟩,
  ⟨⟨some 161, .off 48 (.tmp 160), none⟩, .pure, 4, 4⟩,
  ⟨⟨none, .store 1 (.tmp 161) (.tmp 159), none⟩, .heavy, 4, 5⟩])
 (.seq (.region [⟨some 162, .off 0 (.tmp 3), none⟩,
  ⟨some 163, .load false 1 (.tmp 162), none⟩,
  ⟨some 164, .bin .eql (.tmp 163) (.const (.int .i64 6)), none⟩])
 (.cond (.tmp 164) (.draw [⟨⟨some 165, .move (.tmp 0), none⟩, .pure, 0, 0⟩,
  ⟨⟨some 166, .off 2 (.tmp 3), none⟩, .pure, 0, 0⟩,
  ⟨⟨some 167, .load false 1 (.tmp 166), none⟩, .read, 0, 0⟩,
  ⟨⟨some 168, .build [.bool false, .int .i64 0, .int .i64 0] [], none⟩, .pure, 0, 0⟩,
  ⟨⟨some 169, .nilCheck (.tmp 165), none⟩, .pure, 0, 0⟩,
  ⟨⟨some 170, .off 0 (.tmp 169), none⟩, .pure, 0, 0⟩,
  ⟨⟨some 171, .idxArr 16 3 (.tmp 170) (.tmp 167), none⟩, .pure, 0, 0⟩,
  ⟨⟨none, .store 3 (.tmp 171) (.tmp 168), none⟩, .heavy, 0, 1⟩])
 (.skip))))
 (.seq (.seq (.region [⟨some 173, .bin .eql (.tmp 12) (.const (.int .i64 10)), none⟩,
  ⟨some 172, .move (.tmp 173), none⟩])
 (.cond (.tmp 172) (.skip)
 (.seq (.region [⟨some 174, .bin .eql (.tmp 12) (.const (.int .i64 11)), none⟩,
  ⟨some 172, .move (.tmp 174), none⟩])
 (.cond (.tmp 172) (.skip)
 (.seq (.region [⟨some 175, .bin .eql (.tmp 12) (.const (.int .i64 12)), none⟩,
  ⟨some 172, .move (.tmp 175), none⟩])
 (.cond (.tmp 172) (.skip)
 (.region [⟨some 176, .bin .eql (.tmp 12) (.const (.int .i64 13)), none⟩,
  ⟨some 172, .move (.tmp 176), none⟩])))))))
 (.cond (.tmp 172) (.seq (.region [⟨some 4, .move (.const (.bool false)), none⟩])
 (.ret))
 (.skip)))))))))))))))
 (.seq (.region [⟨some 4, .move (.const (.bool true)), none⟩])
 (.ret)))
theorem light49 : Light Try.prog 49 2 177 L49 [.tmp 4] :=
  ⟨Try.f49, _, Try.func49, rfl, rfl, by kernel_rfl, by kernel_rfl, by decide⟩

end Go.Proofs.Ytfmcnojojknkfaa
