/-
  The light code of functions of this seat: printed by a program of this session (wip/tools/lightgen.py); each is held against the program by the kernel.
-/
import Derived.Test.YtnomffikflfilaaGreatSeatL
import Derived.KernelRfl
import Derived.Test.YtnomffikflfilaaGreatProg
set_option maxRecDepth 100000
namespace Go.Proofs.YtnomffikflfilaaGreat
open Go.Ot
def L80_1 : LCode :=
 .block 1 (.seq (.region [⟨some 4, .move (.tmp 3), none⟩, ⟨some 5, .move (.tmp 0), none⟩, ⟨some 6, .bin .rem (.tmp 5) (.const (.int .u64 128)), none⟩, ⟨some 7, .conv .u8 (.tmp 6), none⟩, ⟨some 8, .buildSlice 5 1 1 [.int .u8 0] [(0, 1, .tmp 7)], none⟩, ⟨some 9, .append 5 1 1 (.tmp 4) (.tmp 8), none⟩, ⟨some 3, .move (.tmp 9), none⟩])
 (.seq (.region [⟨some 10, .move (.tmp 0), none⟩, ⟨some 11, .bin .quo (.tmp 10) (.const (.int .u64 128)), none⟩, ⟨some 0, .move (.tmp 11), none⟩])
 (.seq (.seq (.region [⟨some 12, .move (.tmp 0), none⟩, ⟨some 13, .bin .eql (.tmp 12) (.const (.int .u64 0)), none⟩])
 (.cond (.tmp 13) (.exit 0)
 (.skip)))
 (.region [⟨some 14, .move (.tmp 3), none⟩, ⟨some 15, .move (.tmp 3), none⟩, ⟨some 16, .len (.tmp 15), none⟩, ⟨some 17, .bin .sub (.tmp 16) (.const (.int .i64 1)), none⟩, ⟨some 18, .idx 1 (.tmp 14) (.tmp 17), none⟩, ⟨some 19, .load false 1 (.tmp 18), none⟩, ⟨some 20, .bin .add (.tmp 19) (.const (.int .u8 128)), none⟩, ⟨some 21, .idx 1 (.tmp 14) (.tmp 17), none⟩, ⟨none, .store 1 (.tmp 21) (.tmp 20), none⟩]))))
def L80 : LCode :=
 .seq (.region [⟨some 2, .move (.const (.slice none 0 0)), none⟩])
 (.seq (.region [⟨some 3, .move (.const (.slice none 0 0)), none⟩])
 (.seq (.block 0 (.loop L80_1))
 (.seq (.region [⟨some 22, .move (.tmp 3), none⟩, ⟨some 2, .move (.tmp 22), none⟩])
 (.ret))))
theorem light80 : Light Tryz.prog 80 1 23 L80 [.tmp 2] :=
  ⟨Tryz.f80, _, Tryz.func80, rfl, rfl, by kernel_rfl, by kernel_rfl, by decide⟩
def L81 : LCode :=
 .seq (.region [⟨some 2, .move (.const (.slice none 0 0)), none⟩])
 (.seq (.seq (.region [⟨some 3, .move (.tmp 0), none⟩, ⟨some 4, .bin .geq (.tmp 3) (.const (.int .i64 0)), none⟩])
 (.cond (.tmp 4) (.seq (.region [⟨some 5, .move (.tmp 0), none⟩, ⟨some 6, .conv .u64 (.tmp 5), none⟩, ⟨some 7, .bin .mul (.tmp 6) (.const (.int .u64 2)), none⟩, ⟨some 8, .call 80 [.tmp 7], none⟩, ⟨some 2, .move (.tmp 8), none⟩])
 (.ret))
 (.skip)))
 (.seq (.region [⟨some 9, .move (.tmp 0), none⟩, ⟨some 10, .bin .add (.tmp 9) (.const (.int .i64 1)), none⟩, ⟨some 11, .un .neg (.tmp 10), none⟩, ⟨some 12, .conv .u64 (.tmp 11), none⟩, ⟨some 13, .bin .mul (.tmp 12) (.const (.int .u64 2)), none⟩, ⟨some 14, .bin .add (.tmp 13) (.const (.int .u64 1)), none⟩, ⟨some 15, .call 80 [.tmp 14], none⟩, ⟨some 2, .move (.tmp 15), none⟩])
 (.ret)))
theorem light81 : Light Tryz.prog 81 1 16 L81 [.tmp 2] :=
  ⟨Tryz.f81, _, Tryz.func81, rfl, rfl, by kernel_rfl, by kernel_rfl, by decide⟩
def L82_1 : LCode :=
 .seq (.seq (.region [⟨some 16, .move (.tmp 6), none⟩, ⟨some 17, .move (.tmp 0), none⟩, ⟨some 18, .len (.tmp 17), none⟩, ⟨some 19, .bin .lss (.tmp 16) (.tmp 18), none⟩])
 (.cond (.tmp 19) (.skip)
 (.exit 0)))
 (.seq (.block 1 (.seq (.region [⟨some 22, .move (.tmp 0), none⟩, ⟨some 23, .move (.tmp 6), none⟩, ⟨some 24, .idx 6 (.tmp 22) (.tmp 23), none⟩, ⟨some 25, .load true 6 (.tmp 24), none⟩, ⟨some 26, .move (.tmp 1), none⟩, ⟨some 27, .move (.tmp 0), none⟩, ⟨some 28, .len (.tmp 27), none⟩, ⟨some 29, .call 115 [.tmp 25, .tmp 26, .tmp 28], none⟩, ⟨some 7, .move (.tmp 29), none⟩])
 (.seq (.region [⟨some 30, .move (.tmp 7), none⟩, ⟨some 31, .bin .neq (.tmp 30) (.const (.int .i64 0)), none⟩])
 (.cond (.tmp 31) (.seq (.region [⟨some 32, .move (.tmp 6), none⟩, ⟨some 33, .move (.tmp 7), none⟩, ⟨some 4, .move (.tmp 32), none⟩, ⟨some 5, .move (.tmp 33), none⟩])
 (.ret))
 (.skip)))))
 (.region [⟨some 20, .move (.tmp 6), none⟩, ⟨some 21, .bin .add (.tmp 20) (.const (.int .i64 1)), none⟩, ⟨some 6, .move (.tmp 21), none⟩]))
def L82 : LCode :=
 .seq (.region [⟨some 4, .move (.const (.int .i64 0)), none⟩, ⟨some 5, .move (.const (.int .i64 0)), none⟩])
 (.seq (.seq (.region [⟨some 8, .move (.tmp 0), none⟩, ⟨some 9, .len (.tmp 8), none⟩, ⟨some 10, .bin .eql (.tmp 9) (.const (.int .i64 0)), none⟩, ⟨some 11, .move (.tmp 10), none⟩, ⟨some 12, .move (.tmp 0), (some (11, false))⟩, ⟨some 13, .len (.tmp 12), (some (11, false))⟩, ⟨some 14, .bin .gtr (.tmp 13) (.const (.int .i64 600)), (some (11, false))⟩, ⟨some 15, .pick (.tmp 11) (.const (.bool true)) (.tmp 14), none⟩])
 (.cond (.tmp 15) (.seq (.region [⟨some 4, .move (.const (.int .i64 0)), none⟩, ⟨some 5, .move (.const (.int .i64 80)), none⟩])
 (.ret))
 (.skip)))
 (.seq (.seq (.region [⟨some 6, .move (.const (.int .i64 0)), none⟩])
 (.block 0 (.loop L82_1)))
 (.seq (.seq (.region [⟨some 34, .move (.tmp 0), none⟩, ⟨some 35, .move (.tmp 0), none⟩, ⟨some 36, .len (.tmp 35), none⟩, ⟨some 37, .bin .sub (.tmp 36) (.const (.int .i64 1)), none⟩, ⟨some 38, .idx 6 (.tmp 34) (.tmp 37), none⟩, ⟨some 39, .load true 6 (.tmp 38), none⟩, ⟨some 40, .call 116 [.tmp 39], none⟩])
 (.cond (.tmp 40) (.seq (.region [⟨some 41, .move (.tmp 0), none⟩, ⟨some 42, .len (.tmp 41), none⟩, ⟨some 43, .bin .sub (.tmp 42) (.const (.int .i64 1)), none⟩, ⟨some 4, .move (.tmp 43), none⟩, ⟨some 5, .move (.const (.int .i64 85)), none⟩])
 (.ret))
 (.skip)))
 (.seq (.region [⟨some 4, .move (.const (.int .i64 0)), none⟩, ⟨some 5, .move (.const (.int .i64 0)), none⟩])
 (.ret)))))
theorem light82 : Light Tryz.prog 82 2 44 L82 [.tmp 4, .tmp 5] :=
  ⟨Tryz.f82, _, Tryz.func82, rfl, rfl, by kernel_rfl, by kernel_rfl, by decide⟩
def L83 : LCode :=
 .seq (.region [⟨some 2, .move (.const (.string ByteArray.empty)), none⟩])
 (.seq (.region [⟨some 4, .buildSlice 9 1 13 [.string ByteArray.empty] [(0, 1, .const (.string ByteArray.empty)), (1, 1, .const (.string ⟨#[97, 107]⟩)), (2, 1, .const (.string ⟨#[97, 98]⟩)), (3, 1, .const (.string ⟨#[112, 97, 98]⟩)), (4, 1, .const (.string ⟨#[111, 97, 98, 99]⟩)), (5, 1, .const (.string ⟨#[97, 98, 107]⟩)), (6, 1, .const (.string ⟨#[97, 98, 107]⟩)), (7, 1, .const (.string ⟨#[97, 114]⟩)), (8, 1, .const (.string ⟨#[97]⟩)), (9, 1, .const (.string ⟨#[116]⟩)), (10, 1, .const (.string ⟨#[97, 116]⟩)), (11, 1, .const (.string ⟨#[97, 116]⟩)), (12, 1, .const (.string ⟨#[97]⟩))], none⟩, ⟨some 3, .move (.tmp 4), none⟩])
 (.seq (.seq (.region [⟨some 5, .move (.tmp 0), none⟩, ⟨some 6, .bin .lss (.tmp 5) (.const (.int .i64 1)), none⟩, ⟨some 7, .move (.tmp 6), none⟩, ⟨some 8, .move (.tmp 0), (some (7, false))⟩, ⟨some 9, .bin .gtr (.tmp 8) (.const (.int .i64 13)), (some (7, false))⟩, ⟨some 10, .pick (.tmp 7) (.const (.bool true)) (.tmp 9), none⟩])
 (.cond (.tmp 10) (.seq (.region [⟨some 2, .move (.const (.string ⟨#[63]⟩)), none⟩])
 (.ret))
 (.skip)))
 (.seq (.region [⟨some 11, .move (.tmp 3), none⟩, ⟨some 12, .move (.tmp 0), none⟩, ⟨some 13, .bin .sub (.tmp 12) (.const (.int .i64 1)), none⟩, ⟨some 14, .idx 1 (.tmp 11) (.tmp 13), none⟩, ⟨some 15, .load false 1 (.tmp 14), none⟩, ⟨some 2, .move (.tmp 15), none⟩])
 (.ret))))
theorem light83 : Light Tryz.prog 83 1 16 L83 [.tmp 2] :=
  ⟨Tryz.f83, _, Tryz.func83, rfl, rfl, by kernel_rfl, by kernel_rfl, by decide⟩
def L115 : LCode :=
 .seq (.region [⟨some 3, .box 113 6 (.tmp 0), none⟩, ⟨some 6, .move (.const (.int .i64 0)), none⟩])
 (.seq (.region [⟨some 8, .off 0 (.tmp 3), none⟩, ⟨some 9, .load false 1 (.tmp 8), none⟩, ⟨some 10, .call 83 [.tmp 9], none⟩, ⟨some 7, .move (.tmp 10), none⟩])
 (.seq (.seq (.region [⟨some 11, .move (.tmp 7), none⟩, ⟨some 12, .bin .eql (.tmp 11) (.const (.string ⟨#[63]⟩)), none⟩, ⟨some 13, .move (.tmp 12), none⟩, ⟨some 14, .move (.tmp 7), (some (13, false))⟩, ⟨some 15, .call 149 [.tmp 14, .const (.int .u8 111)], (some (13, false))⟩, ⟨some 16, .move (.tmp 15), (some (13, false))⟩, ⟨some 17, .off 1 (.tmp 3), (some (16, true))⟩, ⟨some 18, .load false 1 (.tmp 17), (some (16, true))⟩, ⟨some 19, .bin .lss (.tmp 18) (.const (.int .i64 1)), (some (16, true))⟩, ⟨some 20, .move (.tmp 19), (some (16, true))⟩, ⟨some 21, .off 1 (.tmp 3), (some (20, false))⟩, ⟨some 22, .load false 1 (.tmp 21), (some (20, false))⟩, ⟨some 23, .bin .gtr (.tmp 22) (.const (.int .i64 18)), (some (20, false))⟩, ⟨some 24, .pick (.tmp 20) (.const (.bool true)) (.tmp 23), (some (16, true))⟩, ⟨some 25, .pick (.tmp 16) (.tmp 24) (.const (.bool false)), (some (13, false))⟩, ⟨some 26, .pick (.tmp 13) (.const (.bool true)) (.tmp 25), none⟩, ⟨some 27, .move (.tmp 26), none⟩, ⟨some 28, .move (.tmp 7), (some (27, false))⟩, ⟨some 29, .call 149 [.tmp 28, .const (.int .u8 112)], (some (27, false))⟩, ⟨some 30, .move (.tmp 29), (some (27, false))⟩, ⟨some 31, .off 1 (.tmp 3), (some (30, true))⟩, ⟨some 32, .load false 1 (.tmp 31), (some (30, true))⟩, ⟨some 33, .bin .lss (.tmp 32) (.const (.int .i64 19)), (some (30, true))⟩, ⟨some 34, .move (.tmp 33), (some (30, true))⟩, ⟨some 35, .off 1 (.tmp 3), (some (34, false))⟩, ⟨some 36, .load false 1 (.tmp 35), (some (34, false))⟩, ⟨some 37, .bin .gtr (.tmp 36) (.const (.int .i64 21)), (some (34, false))⟩, ⟨some 38, .pick (.tmp 34) (.const (.bool true)) (.tmp 37), (some (30, true))⟩, ⟨some 39, .pick (.tmp 30) (.tmp 38) (.const (.bool false)), (some (27, false))⟩, ⟨some 40, .pick (.tmp 27) (.const (.bool true)) (.tmp 39), none⟩])
 (.cond (.tmp 40) (.seq (.region [⟨some 6, .move (.const (.int .i64 81)), none⟩])
 (.ret))
 (.skip)))
 (.seq (.seq (.region [⟨some 41, .move (.tmp 7), none⟩, ⟨some 42, .call 149 [.tmp 41, .const (.int .u8 97)], none⟩, ⟨some 43, .move (.tmp 42), none⟩, ⟨some 44, .off 2 (.tmp 3), (some (43, true))⟩, ⟨some 45, .load false 1 (.tmp 44), (some (43, true))⟩, ⟨some 46, .call 150 [.tmp 45], (some (43, true))⟩, ⟨some 47, .pick (.tmp 43) (.tmp 46) (.const (.bool false)), none⟩, ⟨some 48, .move (.tmp 47), none⟩, ⟨some 49, .move (.tmp 7), (some (48, false))⟩, ⟨some 50, .call 149 [.tmp 49, .const (.int .u8 98)], (some (48, false))⟩, ⟨some 51, .move (.tmp 50), (some (48, false))⟩, ⟨some 52, .off 3 (.tmp 3), (some (51, true))⟩, ⟨some 53, .load false 1 (.tmp 52), (some (51, true))⟩, ⟨some 54, .call 150 [.tmp 53], (some (51, true))⟩, ⟨some 55, .pick (.tmp 51) (.tmp 54) (.const (.bool false)), (some (48, false))⟩, ⟨some 56, .pick (.tmp 48) (.const (.bool true)) (.tmp 55), none⟩, ⟨some 57, .move (.tmp 56), none⟩, ⟨some 58, .move (.tmp 7), (some (57, false))⟩, ⟨some 59, .call 149 [.tmp 58, .const (.int .u8 99)], (some (57, false))⟩, ⟨some 60, .move (.tmp 59), (some (57, false))⟩, ⟨some 61, .off 4 (.tmp 3), (some (60, true))⟩, ⟨some 62, .load false 1 (.tmp 61), (some (60, true))⟩, ⟨some 63, .call 150 [.tmp 62], (some (60, true))⟩, ⟨some 64, .pick (.tmp 60) (.tmp 63) (.const (.bool false)), (some (57, false))⟩, ⟨some 65, .pick (.tmp 57) (.const (.bool true)) (.tmp 64), none⟩])
 (.cond (.tmp 65) (.seq (.region [⟨some 6, .move (.const (.int .i64 82)), none⟩])
 (.ret))
 (.skip)))
 (.seq (.seq (.region [⟨some 66, .move (.tmp 7), none⟩, ⟨some 67, .call 149 [.tmp 66, .const (.int .u8 97)], none⟩, ⟨some 68, .un .not (.tmp 67), none⟩, ⟨some 69, .move (.tmp 68), none⟩, ⟨some 70, .off 2 (.tmp 3), (some (69, true))⟩, ⟨some 71, .load false 1 (.tmp 70), (some (69, true))⟩, ⟨some 72, .bin .neq (.tmp 71) (.const (.int .i64 0)), (some (69, true))⟩, ⟨some 73, .pick (.tmp 69) (.tmp 72) (.const (.bool false)), none⟩, ⟨some 74, .move (.tmp 73), none⟩, ⟨some 75, .move (.tmp 7), (some (74, false))⟩, ⟨some 76, .call 149 [.tmp 75, .const (.int .u8 98)], (some (74, false))⟩, ⟨some 77, .un .not (.tmp 76), (some (74, false))⟩, ⟨some 78, .move (.tmp 77), (some (74, false))⟩, ⟨some 79, .off 3 (.tmp 3), (some (78, true))⟩, ⟨some 80, .load false 1 (.tmp 79), (some (78, true))⟩, ⟨some 81, .bin .neq (.tmp 80) (.const (.int .i64 0)), (some (78, true))⟩, ⟨some 82, .pick (.tmp 78) (.tmp 81) (.const (.bool false)), (some (74, false))⟩, ⟨some 83, .pick (.tmp 74) (.const (.bool true)) (.tmp 82), none⟩, ⟨some 84, .move (.tmp 83), none⟩, ⟨some 85, .move (.tmp 7), (some (84, false))⟩, ⟨some 86, .call 149 [.tmp 85, .const (.int .u8 99)], (some (84, false))⟩, ⟨some 87, .un .not (.tmp 86), (some (84, false))⟩, ⟨some 88, .move (.tmp 87), (some (84, false))⟩, ⟨some 89, .move (.tmp 7), (some (88, true))⟩, ⟨some 90, .call 149 [.tmp 89, .const (.int .u8 114)], (some (88, true))⟩, ⟨some 91, .un .not (.tmp 90), (some (88, true))⟩, ⟨some 92, .pick (.tmp 88) (.tmp 91) (.const (.bool false)), (some (84, false))⟩, ⟨some 93, .move (.tmp 92), (some (84, false))⟩, ⟨some 94, .off 4 (.tmp 3), (some (93, true))⟩, ⟨some 95, .load false 1 (.tmp 94), (some (93, true))⟩, ⟨some 96, .bin .neq (.tmp 95) (.const (.int .i64 0)), (some (93, true))⟩, ⟨some 97, .pick (.tmp 93) (.tmp 96) (.const (.bool false)), (some (84, false))⟩, ⟨some 98, .pick (.tmp 84) (.const (.bool true)) (.tmp 97), none⟩, ⟨some 99, .move (.tmp 98), none⟩, ⟨some 100, .move (.tmp 7), (some (99, false))⟩, ⟨some 101, .call 149 [.tmp 100, .const (.int .u8 107)], (some (99, false))⟩, ⟨some 102, .un .not (.tmp 101), (some (99, false))⟩, ⟨some 103, .move (.tmp 102), (some (99, false))⟩, ⟨some 104, .move (.tmp 7), (some (103, true))⟩, ⟨some 105, .call 149 [.tmp 104, .const (.int .u8 116)], (some (103, true))⟩, ⟨some 106, .un .not (.tmp 105), (some (103, true))⟩, ⟨some 107, .pick (.tmp 103) (.tmp 106) (.const (.bool false)), (some (99, false))⟩, ⟨some 108, .move (.tmp 107), (some (99, false))⟩, ⟨some 109, .off 5 (.tmp 3), (some (108, true))⟩, ⟨some 110, .load false 1 (.tmp 109), (some (108, true))⟩, ⟨some 111, .bin .neq (.tmp 110) (.const (.int .i64 0)), (some (108, true))⟩, ⟨some 112, .pick (.tmp 108) (.tmp 111) (.const (.bool false)), (some (99, false))⟩, ⟨some 113, .pick (.tmp 99) (.const (.bool true)) (.tmp 112), none⟩, ⟨some 114, .move (.tmp 113), none⟩, ⟨some 115, .move (.tmp 7), (some (114, false))⟩, ⟨some 116, .call 149 [.tmp 115, .const (.int .u8 111)], (some (114, false))⟩, ⟨some 117, .un .not (.tmp 116), (some (114, false))⟩, ⟨some 118, .move (.tmp 117), (some (114, false))⟩, ⟨some 119, .move (.tmp 7), (some (118, true))⟩, ⟨some 120, .call 149 [.tmp 119, .const (.int .u8 112)], (some (118, true))⟩, ⟨some 121, .un .not (.tmp 120), (some (118, true))⟩, ⟨some 122, .pick (.tmp 118) (.tmp 121) (.const (.bool false)), (some (114, false))⟩, ⟨some 123, .move (.tmp 122), (some (114, false))⟩, ⟨some 124, .off 1 (.tmp 3), (some (123, true))⟩, ⟨some 125, .load false 1 (.tmp 124), (some (123, true))⟩, ⟨some 126, .bin .neq (.tmp 125) (.const (.int .i64 0)), (some (123, true))⟩, ⟨some 127, .pick (.tmp 123) (.tmp 126) (.const (.bool false)), (some (114, false))⟩, ⟨some 128, .pick (.tmp 114) (.const (.bool true)) (.tmp 127), none⟩])
 (.cond (.tmp 128) (.seq (.region [⟨some 6, .move (.const (.int .i64 83)), none⟩])
 (.ret))
 (.skip)))
 (.seq (.seq (.region [⟨some 129, .move (.tmp 7), none⟩, ⟨some 130, .call 149 [.tmp 129, .const (.int .u8 114)], none⟩, ⟨some 131, .move (.tmp 130), none⟩, ⟨some 132, .off 4 (.tmp 3), (some (131, true))⟩, ⟨some 133, .load false 1 (.tmp 132), (some (131, true))⟩, ⟨some 134, .bin .lss (.tmp 133) (.const (.int .i64 0)), (some (131, true))⟩, ⟨some 135, .move (.tmp 134), (some (131, true))⟩, ⟨some 136, .off 4 (.tmp 3), (some (135, false))⟩, ⟨some 137, .load false 1 (.tmp 136), (some (135, false))⟩, ⟨some 138, .move (.tmp 1), (some (135, false))⟩, ⟨some 139, .bin .geq (.tmp 137) (.tmp 138), (some (135, false))⟩, ⟨some 140, .pick (.tmp 135) (.const (.bool true)) (.tmp 139), (some (131, true))⟩, ⟨some 141, .move (.tmp 140), (some (131, true))⟩, ⟨some 142, .off 4 (.tmp 3), (some (141, false))⟩, ⟨some 143, .load false 1 (.tmp 142), (some (141, false))⟩, ⟨some 144, .bin .geq (.tmp 143) (.const (.int .i64 4)), (some (141, false))⟩, ⟨some 145, .pick (.tmp 141) (.const (.bool true)) (.tmp 144), (some (131, true))⟩, ⟨some 146, .pick (.tmp 131) (.tmp 145) (.const (.bool false)), none⟩])
 (.cond (.tmp 146) (.seq (.region [⟨some 6, .move (.const (.int .i64 63)), none⟩])
 (.ret))
 (.skip)))
 (.seq (.seq (.region [⟨some 147, .move (.tmp 7), none⟩, ⟨some 148, .call 149 [.tmp 147, .const (.int .u8 116)], none⟩, ⟨some 149, .move (.tmp 148), none⟩, ⟨some 150, .off 5 (.tmp 3), (some (149, true))⟩, ⟨some 151, .load false 1 (.tmp 150), (some (149, true))⟩, ⟨some 152, .bin .lss (.tmp 151) (.const (.int .i64 0)), (some (149, true))⟩, ⟨some 153, .move (.tmp 152), (some (149, true))⟩, ⟨some 154, .off 5 (.tmp 3), (some (153, false))⟩, ⟨some 155, .load false 1 (.tmp 154), (some (153, false))⟩, ⟨some 156, .move (.tmp 2), (some (153, false))⟩, ⟨some 157, .bin .geq (.tmp 155) (.tmp 156), (some (153, false))⟩, ⟨some 158, .pick (.tmp 153) (.const (.bool true)) (.tmp 157), (some (149, true))⟩, ⟨some 159, .pick (.tmp 149) (.tmp 158) (.const (.bool false)), none⟩])
 (.cond (.tmp 159) (.seq (.region [⟨some 6, .move (.const (.int .i64 84)), none⟩])
 (.ret))
 (.skip)))
 (.seq (.region [⟨some 6, .move (.const (.int .i64 0)), none⟩])
 (.ret))))))))
theorem light115 : Light Tryz.prog 115 3 160 L115 [.tmp 6] :=
  ⟨Tryz.f115, _, Tryz.func115, rfl, rfl, by kernel_rfl, by kernel_rfl, by decide⟩
def L116 : LCode :=
 .seq (.region [⟨some 1, .box 113 6 (.tmp 0), none⟩, ⟨some 2, .move (.const (.bool false)), none⟩])
 (.seq (.region [⟨some 3, .off 0 (.tmp 1), none⟩, ⟨some 4, .load false 1 (.tmp 3), none⟩, ⟨some 5, .bin .neq (.tmp 4) (.const (.int .i64 1)), none⟩, ⟨some 6, .move (.tmp 5), none⟩, ⟨some 7, .off 0 (.tmp 1), (some (6, true))⟩, ⟨some 8, .load false 1 (.tmp 7), (some (6, true))⟩, ⟨some 9, .bin .neq (.tmp 8) (.const (.int .i64 10)), (some (6, true))⟩, ⟨some 10, .pick (.tmp 6) (.tmp 9) (.const (.bool false)), none⟩, ⟨some 11, .move (.tmp 10), none⟩, ⟨some 12, .off 0 (.tmp 1), (some (11, true))⟩, ⟨some 13, .load false 1 (.tmp 12), (some (11, true))⟩, ⟨some 14, .bin .neq (.tmp 13) (.const (.int .i64 13)), (some (11, true))⟩, ⟨some 15, .pick (.tmp 11) (.tmp 14) (.const (.bool false)), none⟩, ⟨some 2, .move (.tmp 15), none⟩])
 (.ret))
theorem light116 : Light Tryz.prog 116 1 16 L116 [.tmp 2] :=
  ⟨Tryz.f116, _, Tryz.func116, rfl, rfl, by kernel_rfl, by kernel_rfl, by decide⟩
def L149_1 : LCode :=
 .seq (.seq (.region [⟨some 6, .move (.tmp 5), none⟩, ⟨some 7, .move (.tmp 0), none⟩, ⟨some 8, .lenS (.tmp 7), none⟩, ⟨some 9, .bin .lss (.tmp 6) (.tmp 8), none⟩])
 (.cond (.tmp 9) (.skip)
 (.exit 0)))
 (.seq (.block 1 (.seq (.region [⟨some 12, .move (.tmp 0), none⟩, ⟨some 13, .move (.tmp 5), none⟩, ⟨some 14, .idxStr (.tmp 12) (.tmp 13), none⟩, ⟨some 15, .move (.tmp 1), none⟩, ⟨some 16, .bin .eql (.tmp 14) (.tmp 15), none⟩])
 (.cond (.tmp 16) (.seq (.region [⟨some 4, .move (.const (.bool true)), none⟩])
 (.ret))
 (.skip))))
 (.region [⟨some 10, .move (.tmp 5), none⟩, ⟨some 11, .bin .add (.tmp 10) (.const (.int .i64 1)), none⟩, ⟨some 5, .move (.tmp 11), none⟩]))
def L149 : LCode :=
 .seq (.region [⟨some 4, .move (.const (.bool false)), none⟩])
 (.seq (.seq (.region [⟨some 5, .move (.const (.int .i64 0)), none⟩])
 (.block 0 (.loop L149_1)))
 (.seq (.region [⟨some 4, .move (.const (.bool false)), none⟩])
 (.ret)))
theorem light149 : Light Tryz.prog 149 2 17 L149 [.tmp 4] :=
  ⟨Tryz.f149, _, Tryz.func149, rfl, rfl, by kernel_rfl, by kernel_rfl, by decide⟩
def L150 : LCode :=
 .seq (.region [⟨some 2, .move (.const (.bool false)), none⟩])
 (.seq (.region [⟨some 3, .move (.tmp 0), none⟩, ⟨some 4, .bin .lss (.tmp 3) (.const (.int .i64 0)), none⟩, ⟨some 5, .move (.tmp 4), none⟩, ⟨some 6, .move (.tmp 0), (some (5, false))⟩, ⟨some 7, .bin .gtr (.tmp 6) (.const (.int .i64 15)), (some (5, false))⟩, ⟨some 8, .pick (.tmp 5) (.const (.bool true)) (.tmp 7), none⟩, ⟨some 2, .move (.tmp 8), none⟩])
 (.ret))
theorem light150 : Light Tryz.prog 150 1 9 L150 [.tmp 2] :=
  ⟨Tryz.f150, _, Tryz.func150, rfl, rfl, by kernel_rfl, by kernel_rfl, by decide⟩
end Go.Proofs.YtnomffikflfilaaGreat
