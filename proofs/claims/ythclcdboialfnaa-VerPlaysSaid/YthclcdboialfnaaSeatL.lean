/-
  The light code of functions of this seat: printed by a program of this session (wip/tools/lightgen.py); each is held against the program by the kernel.
-/
import Derived.Test.YthclcdboialfnaaOtT
import Derived.KernelRfl
import Derived.Test.YthclcdboialfnaaProg
set_option maxRecDepth 100000
namespace Go.Proofs.Ythclcdboialfnaa
open Go.Ot

/-! ### function 3: outrider/outriderlaw21.VerReads -/
def L3_1 : LCode :=
 .seq (.seq (.region [⟨some 43, .move (.tmp 12), none⟩,
  ⟨some 44, .move (.tmp 0), none⟩,
  ⟨some 45, .len (.tmp 44), none⟩,
  ⟨some 46, .bin .lss (.tmp 43) (.tmp 45), none⟩])
 (.cond (.tmp 46) (.skip)
 (.exit 0)))
 (.seq (.block 1 (.seq (.region [⟨some 49, .move (.tmp 0), none⟩,
  ⟨some 50, .move (.tmp 12), none⟩,
  ⟨some 51, .idx 4 (.tmp 49) (.tmp 50), none⟩,
  ⟨some 52, .load true 4 (.tmp 51), none⟩,
  ⟨some 13, .new 28 4 [.int .i64 0, .int .i64 0, .int .i64 0, .int .i64 0], none⟩,
  ⟨none, .store 4 (.tmp 13) (.tmp 52), none⟩])
 (.seq (.seq (.region [⟨some 53, .off 0 (.tmp 13), none⟩,
  ⟨some 54, .load false 1 (.tmp 53), none⟩,
  ⟨some 55, .call 7 [.tmp 54], none⟩,
  ⟨some 56, .bin .lss (.tmp 55) (.const (.int .i64 3)), none⟩])
 (.cond (.tmp 56) (.region [⟨some 57, .move (.tmp 7), none⟩,
  ⟨some 58, .off 1 (.tmp 13), none⟩,
  ⟨some 59, .load false 1 (.tmp 58), none⟩,
  ⟨some 60, .off 2 (.tmp 13), none⟩,
  ⟨some 61, .load false 1 (.tmp 60), none⟩,
  ⟨some 62, .off 3 (.tmp 13), none⟩,
  ⟨some 63, .load false 1 (.tmp 62), none⟩,
  ⟨some 64, .call 8 [.tmp 57, .tmp 59, .tmp 61, .tmp 63], none⟩])
 (.skip)))
 (.seq (.seq (.region [⟨some 65, .off 0 (.tmp 13), none⟩,
  ⟨some 66, .load false 1 (.tmp 65), none⟩,
  ⟨some 67, .call 7 [.tmp 66], none⟩,
  ⟨some 68, .bin .eql (.tmp 67) (.const (.int .i64 5)), none⟩])
 (.cond (.tmp 68) (.region [⟨some 69, .move (.tmp 7), none⟩,
  ⟨some 70, .off 1 (.tmp 13), none⟩,
  ⟨some 71, .load false 1 (.tmp 70), none⟩,
  ⟨some 72, .off 2 (.tmp 13), none⟩,
  ⟨some 73, .load false 1 (.tmp 72), none⟩,
  ⟨some 74, .call 9 [.tmp 69, .tmp 71, .tmp 73], none⟩])
 (.skip)))
 (.seq (.region [⟨some 75, .off 0 (.tmp 13), none⟩,
  ⟨some 76, .load false 1 (.tmp 75), none⟩,
  ⟨some 77, .call 7 [.tmp 76], none⟩,
  ⟨some 78, .bin .eql (.tmp 77) (.const (.int .i64 6)), none⟩])
 (.cond (.tmp 78) (.region [⟨some 79, .move (.tmp 7), none⟩,
  ⟨some 80, .off 2 (.tmp 13), none⟩,
  ⟨some 81, .load false 1 (.tmp 80), none⟩,
  ⟨some 82, .call 10 [.tmp 79, .tmp 81], none⟩])
 (.skip)))))))
 (.region [⟨some 47, .move (.tmp 12), none⟩,
  ⟨some 48, .bin .add (.tmp 47) (.const (.int .i64 1)), none⟩,
  ⟨some 12, .move (.tmp 48), none⟩]))
def L3_2 : LCode :=
 .seq (.seq (.region [⟨some 125, .move (.tmp 17), none⟩,
  ⟨some 126, .move (.tmp 0), none⟩,
  ⟨some 127, .len (.tmp 126), none⟩,
  ⟨some 128, .bin .lss (.tmp 125) (.tmp 127), none⟩])
 (.cond (.tmp 128) (.skip)
 (.exit 4)))
 (.seq (.block 5 (.seq (.region [⟨some 131, .move (.tmp 0), none⟩,
  ⟨some 132, .move (.tmp 17), none⟩,
  ⟨some 133, .idx 4 (.tmp 131) (.tmp 132), none⟩,
  ⟨some 134, .load true 4 (.tmp 133), none⟩,
  ⟨some 18, .new 28 4 [.int .i64 0, .int .i64 0, .int .i64 0, .int .i64 0], none⟩,
  ⟨none, .store 4 (.tmp 18) (.tmp 134), none⟩])
 (.region [⟨some 135, .move (.tmp 16), none⟩,
  ⟨some 136, .move (.tmp 135), none⟩,
  ⟨some 137, .off 2 (.tmp 18), (some (136, false))⟩,
  ⟨some 138, .load false 1 (.tmp 137), (some (136, false))⟩,
  ⟨some 139, .off 2 (.tmp 15), (some (136, false))⟩,
  ⟨some 140, .load false 1 (.tmp 139), (some (136, false))⟩,
  ⟨some 141, .bin .eql (.tmp 138) (.tmp 140), (some (136, false))⟩,
  ⟨some 142, .move (.tmp 141), (some (136, false))⟩,
  ⟨some 143, .off 0 (.tmp 18), (some (142, true))⟩,
  ⟨some 144, .load false 1 (.tmp 143), (some (142, true))⟩,
  ⟨some 145, .call 7 [.tmp 144], (some (142, true))⟩,
  ⟨some 146, .bin .eql (.tmp 145) (.const (.int .i64 6)), (some (142, true))⟩,
  ⟨some 147, .move (.tmp 146), (some (142, true))⟩,
  ⟨some 148, .off 0 (.tmp 18), (some (147, false))⟩,
  ⟨some 149, .load false 1 (.tmp 148), (some (147, false))⟩,
  ⟨some 150, .call 7 [.tmp 149], (some (147, false))⟩,
  ⟨some 151, .bin .eql (.tmp 150) (.const (.int .i64 5)), (some (147, false))⟩,
  ⟨some 152, .move (.tmp 151), (some (147, false))⟩,
  ⟨some 153, .off 1 (.tmp 18), (some (152, true))⟩,
  ⟨some 154, .load false 1 (.tmp 153), (some (152, true))⟩,
  ⟨some 155, .move (.tmp 1), (some (152, true))⟩,
  ⟨some 156, .bin .eql (.tmp 154) (.tmp 155), (some (152, true))⟩,
  ⟨some 157, .pick (.tmp 152) (.tmp 156) (.const (.bool false)), (some (147, false))⟩,
  ⟨some 158, .pick (.tmp 147) (.const (.bool true)) (.tmp 157), (some (142, true))⟩,
  ⟨some 159, .pick (.tmp 142) (.tmp 158) (.const (.bool false)), (some (136, false))⟩,
  ⟨some 160, .pick (.tmp 136) (.const (.bool true)) (.tmp 159), none⟩,
  ⟨some 16, .move (.tmp 160), none⟩])))
 (.region [⟨some 129, .move (.tmp 17), none⟩,
  ⟨some 130, .bin .add (.tmp 129) (.const (.int .i64 1)), none⟩,
  ⟨some 17, .move (.tmp 130), none⟩]))
def L3_3 : LCode :=
 .seq (.seq (.region [⟨some 83, .move (.tmp 14), none⟩,
  ⟨some 84, .move (.tmp 0), none⟩,
  ⟨some 85, .len (.tmp 84), none⟩,
  ⟨some 86, .bin .lss (.tmp 83) (.tmp 85), none⟩])
 (.cond (.tmp 86) (.skip)
 (.exit 2)))
 (.seq (.block 3 (.seq (.region [⟨some 89, .move (.tmp 0), none⟩,
  ⟨some 90, .move (.tmp 14), none⟩,
  ⟨some 91, .idx 4 (.tmp 89) (.tmp 90), none⟩,
  ⟨some 92, .load true 4 (.tmp 91), none⟩,
  ⟨some 15, .new 28 4 [.int .i64 0, .int .i64 0, .int .i64 0, .int .i64 0], none⟩,
  ⟨none, .store 4 (.tmp 15) (.tmp 92), none⟩])
 (.seq (.seq (.region [⟨some 93, .off 0 (.tmp 15), none⟩,
  ⟨some 94, .load false 1 (.tmp 93), none⟩,
  ⟨some 95, .call 7 [.tmp 94], none⟩,
  ⟨some 96, .bin .geq (.tmp 95) (.const (.int .i64 3)), none⟩,
  ⟨some 97, .move (.tmp 96), none⟩,
  ⟨some 98, .off 1 (.tmp 15), (some (97, false))⟩,
  ⟨some 99, .load false 1 (.tmp 98), (some (97, false))⟩,
  ⟨some 100, .move (.tmp 1), (some (97, false))⟩,
  ⟨some 101, .bin .neq (.tmp 99) (.tmp 100), (some (97, false))⟩,
  ⟨some 102, .pick (.tmp 97) (.const (.bool true)) (.tmp 101), none⟩,
  ⟨some 103, .move (.tmp 102), none⟩,
  ⟨some 104, .off 2 (.tmp 15), (some (103, false))⟩,
  ⟨some 105, .load false 1 (.tmp 104), (some (103, false))⟩,
  ⟨some 106, .bin .lss (.tmp 105) (.const (.int .i64 0)), (some (103, false))⟩,
  ⟨some 107, .pick (.tmp 103) (.const (.bool true)) (.tmp 106), none⟩,
  ⟨some 108, .move (.tmp 107), none⟩,
  ⟨some 109, .off 2 (.tmp 15), (some (108, false))⟩,
  ⟨some 110, .load false 1 (.tmp 109), (some (108, false))⟩,
  ⟨some 111, .move (.tmp 2), (some (108, false))⟩,
  ⟨some 112, .bin .geq (.tmp 110) (.tmp 111), (some (108, false))⟩,
  ⟨some 113, .pick (.tmp 108) (.const (.bool true)) (.tmp 112), none⟩,
  ⟨some 114, .move (.tmp 113), none⟩,
  ⟨some 115, .move (.tmp 11), (some (114, false))⟩,
  ⟨some 116, .move (.tmp 115), (some (114, false))⟩,
  ⟨some 117, .off 2 (.tmp 15), (some (116, true))⟩,
  ⟨some 118, .load false 1 (.tmp 117), (some (116, true))⟩,
  ⟨some 119, .move (.tmp 9), (some (116, true))⟩,
  ⟨some 120, .bin .lss (.tmp 118) (.tmp 119), (some (116, true))⟩,
  ⟨some 121, .pick (.tmp 116) (.tmp 120) (.const (.bool false)), (some (114, false))⟩,
  ⟨some 122, .pick (.tmp 114) (.const (.bool true)) (.tmp 121), none⟩])
 (.cond (.tmp 122) (.exit 3)
 (.skip)))
 (.seq (.region [⟨some 16, .move (.const (.bool false)), none⟩])
 (.seq (.seq (.region [⟨some 123, .move (.tmp 14), none⟩,
  ⟨some 124, .bin .add (.tmp 123) (.const (.int .i64 1)), none⟩,
  ⟨some 17, .move (.tmp 124), none⟩])
 (.block 4 (.loop L3_2)))
 (.seq (.region [⟨some 161, .move (.tmp 16), none⟩,
  ⟨some 162, .un .not (.tmp 161), none⟩])
 (.cond (.tmp 162) (.draw [⟨⟨some 163, .off 2 (.tmp 15), none⟩, .pure, 0, 0⟩,
  ⟨⟨some 164, .load false 1 (.tmp 163), none⟩, .read, 0, 0⟩,
  ⟨⟨some 165, .off 3 (.tmp 15), none⟩, .pure, 0, 0⟩,
  ⟨⟨some 166, .load false 1 (.tmp 165), none⟩, .read, 0, 0⟩,
  ⟨⟨some 9, .move (.tmp 164), none⟩, .pure, 0, 0⟩,
  ⟨⟨some 10, .move (.tmp 166), none⟩, .pure, 0, 0⟩,
  ⟨⟨some 11, .move (.const (.bool true)), none⟩, .pure, 0, 0⟩])
 (.skip))))))))
 (.region [⟨some 87, .move (.tmp 14), none⟩,
  ⟨some 88, .bin .add (.tmp 87) (.const (.int .i64 1)), none⟩,
  ⟨some 14, .move (.tmp 88), none⟩]))
def L3 : LCode :=
 .seq (.region [⟨some 6, .move (.const (.bool false)), none⟩])
 (.seq (.region [⟨some 22, .call 6 [.const (.int .i64 64), .const (.int .i64 512)], none⟩,
  ⟨some 21, .move (.tmp 22), none⟩,
  ⟨some 23, .extract (.tmp 21) 0, none⟩,
  ⟨some 24, .extract (.tmp 21) 1, none⟩,
  ⟨some 7, .move (.tmp 23), none⟩,
  ⟨some 8, .move (.tmp 24), none⟩])
 (.seq (.seq (.region [⟨some 25, .move (.tmp 8), none⟩,
  ⟨some 26, .bin .neq (.tmp 25) (.const (.int .i64 0)), none⟩,
  ⟨some 27, .move (.tmp 26), none⟩,
  ⟨some 28, .move (.tmp 7), (some (27, false))⟩,
  ⟨some 29, .isNil false (.pointer 60) (.tmp 28), (some (27, false))⟩,
  ⟨some 30, .pick (.tmp 27) (.const (.bool true)) (.tmp 29), none⟩,
  ⟨some 31, .move (.tmp 30), none⟩,
  ⟨some 32, .move (.tmp 0), (some (31, false))⟩,
  ⟨some 33, .len (.tmp 32), (some (31, false))⟩,
  ⟨some 34, .bin .gtr (.tmp 33) (.const (.int .i64 120)), (some (31, false))⟩,
  ⟨some 35, .pick (.tmp 31) (.const (.bool true)) (.tmp 34), none⟩])
 (.cond (.tmp 35) (.seq (.region [⟨some 36, .move (.tmp 0), none⟩,
  ⟨some 37, .len (.tmp 36), none⟩,
  ⟨some 38, .bin .gtr (.tmp 37) (.const (.int .i64 120)), none⟩,
  ⟨some 6, .move (.tmp 38), none⟩])
 (.ret))
 (.skip)))
 (.seq (.region [⟨some 39, .move (.tmp 1), none⟩,
  ⟨some 40, .bin .rem (.tmp 39) (.const (.int .i64 64)), none⟩,
  ⟨some 41, .bin .add (.tmp 40) (.const (.int .i64 64)), none⟩,
  ⟨some 42, .bin .rem (.tmp 41) (.const (.int .i64 64)), none⟩,
  ⟨some 1, .move (.tmp 42), none⟩])
 (.seq (.region [⟨some 9, .move (.const (.int .i64 0)), none⟩,
  ⟨some 10, .move (.const (.int .i64 0)), none⟩,
  ⟨some 11, .move (.const (.bool false)), none⟩])
 (.seq (.seq (.region [⟨some 12, .move (.const (.int .i64 0)), none⟩])
 (.block 0 (.loop L3_1)))
 (.seq (.seq (.region [⟨some 14, .move (.const (.int .i64 0)), none⟩])
 (.block 2 (.loop L3_3)))
 (.seq (.region [⟨some 168, .move (.tmp 7), none⟩,
  ⟨some 169, .move (.tmp 1), none⟩,
  ⟨some 170, .move (.tmp 2), none⟩,
  ⟨some 171, .call 11 [.tmp 168, .tmp 169, .tmp 170], none⟩,
  ⟨some 167, .move (.tmp 171), none⟩,
  ⟨some 172, .extract (.tmp 167) 0, none⟩,
  ⟨some 173, .extract (.tmp 167) 1, none⟩,
  ⟨some 19, .new 33 2 [.int .i64 0, .int .i64 0], none⟩,
  ⟨none, .store 2 (.tmp 19) (.tmp 172), none⟩,
  ⟨some 20, .move (.tmp 173), none⟩])
 (.seq (.region [⟨some 174, .move (.tmp 20), none⟩,
  ⟨some 175, .move (.tmp 11), none⟩,
  ⟨some 176, .eqB false (.tmp 174) (.tmp 175), none⟩,
  ⟨some 177, .move (.tmp 176), none⟩,
  ⟨some 178, .off 1 (.tmp 19), (some (177, true))⟩,
  ⟨some 179, .load false 1 (.tmp 178), (some (177, true))⟩,
  ⟨some 180, .move (.tmp 10), (some (177, true))⟩,
  ⟨some 181, .bin .eql (.tmp 179) (.tmp 180), (some (177, true))⟩,
  ⟨some 182, .pick (.tmp 177) (.tmp 181) (.const (.bool false)), none⟩,
  ⟨some 183, .move (.tmp 182), none⟩,
  ⟨some 184, .move (.tmp 20), (some (183, true))⟩,
  ⟨some 185, .un .not (.tmp 184), (some (183, true))⟩,
  ⟨some 186, .move (.tmp 185), (some (183, true))⟩,
  ⟨some 187, .off 0 (.tmp 19), (some (186, false))⟩,
  ⟨some 188, .load false 1 (.tmp 187), (some (186, false))⟩,
  ⟨some 189, .move (.tmp 9), (some (186, false))⟩,
  ⟨some 190, .bin .eql (.tmp 188) (.tmp 189), (some (186, false))⟩,
  ⟨some 191, .pick (.tmp 186) (.const (.bool true)) (.tmp 190), (some (183, true))⟩,
  ⟨some 192, .pick (.tmp 183) (.tmp 191) (.const (.bool false)), none⟩,
  ⟨some 193, .move (.tmp 192), none⟩,
  ⟨some 194, .call 12 [], (some (193, true))⟩,
  ⟨some 195, .pick (.tmp 193) (.tmp 194) (.const (.bool false)), none⟩,
  ⟨some 6, .move (.tmp 195), none⟩])
 (.ret)))))))))
theorem light3 : Light Try.prog 3 3 196 L3 [.tmp 6] :=
  ⟨Try.f3, _, Try.func3, rfl, rfl, by kernel_rfl, by kernel_rfl, by decide⟩

/-! ### function 4: outrider/outriderlaw21.VerApart -/
def L4_1 : LCode :=
 .seq (.seq (.region [⟨some 46, .move (.tmp 11), none⟩,
  ⟨some 47, .move (.tmp 0), none⟩,
  ⟨some 48, .len (.tmp 47), none⟩,
  ⟨some 49, .bin .lss (.tmp 46) (.tmp 48), none⟩])
 (.cond (.tmp 49) (.skip)
 (.exit 0)))
 (.seq (.block 1 (.seq (.draw [⟨⟨some 52, .move (.tmp 5), none⟩, .pure, 0, 0⟩,
  ⟨⟨some 53, .load true 3 (.tmp 9), none⟩, .read, 0, 0⟩,
  ⟨⟨some 54, .move (.tmp 0), none⟩, .pure, 0, 0⟩,
  ⟨⟨some 55, .move (.tmp 11), none⟩, .pure, 0, 0⟩,
  ⟨⟨some 56, .idx 4 (.tmp 54) (.tmp 55), none⟩, .pure, 0, 0⟩,
  ⟨⟨some 57, .load true 4 (.tmp 56), none⟩, .read, 0, 0⟩,
  ⟨⟨some 58, .call 14 [.tmp 52, .tmp 53, .tmp 57], none⟩, .heavy, 0, 1⟩])
 (.seq (.region [⟨some 59, .move (.tmp 0), none⟩,
  ⟨some 60, .move (.tmp 11), none⟩,
  ⟨some 61, .idx 4 (.tmp 59) (.tmp 60), none⟩,
  ⟨some 62, .off 2 (.tmp 61), none⟩,
  ⟨some 63, .load false 1 (.tmp 62), none⟩,
  ⟨some 64, .move (.tmp 1), none⟩,
  ⟨some 65, .bin .neq (.tmp 63) (.tmp 64), none⟩])
 (.cond (.tmp 65) (.draw [⟨⟨some 66, .move (.tmp 7), none⟩, .pure, 0, 0⟩,
  ⟨⟨some 67, .load true 3 (.tmp 9), none⟩, .read, 0, 0⟩,
  ⟨⟨some 68, .move (.tmp 0), none⟩, .pure, 0, 0⟩,
  ⟨⟨some 69, .move (.tmp 11), none⟩, .pure, 0, 0⟩,
  ⟨⟨some 70, .idx 4 (.tmp 68) (.tmp 69), none⟩, .pure, 0, 0⟩,
  ⟨⟨some 71, .load true 4 (.tmp 70), none⟩, .read, 0, 0⟩,
  ⟨⟨some 72, .call 14 [.tmp 66, .tmp 67, .tmp 71], none⟩, .heavy, 0, 1⟩])
 (.skip)))))
 (.region [⟨some 50, .move (.tmp 11), none⟩,
  ⟨some 51, .bin .add (.tmp 50) (.const (.int .i64 1)), none⟩,
  ⟨some 11, .move (.tmp 51), none⟩]))
def L4_2 : LCode :=
 .seq (.seq (.region [⟨some 96, .move (.tmp 15), none⟩,
  ⟨some 97, .move (.tmp 13), none⟩,
  ⟨some 98, .len (.tmp 97), none⟩,
  ⟨some 99, .bin .lss (.tmp 96) (.tmp 98), none⟩])
 (.cond (.tmp 99) (.skip)
 (.exit 4)))
 (.seq (.block 5 (.seq (.draw [⟨⟨some 102, .move (.tmp 13), none⟩, .pure, 0, 0⟩,
  ⟨⟨some 103, .move (.tmp 15), none⟩, .pure, 0, 0⟩,
  ⟨⟨some 104, .idx 2 (.tmp 102) (.tmp 103), none⟩, .pure, 0, 0⟩,
  ⟨⟨some 105, .load true 2 (.tmp 104), none⟩, .read, 0, 0⟩,
  ⟨⟨some 106, .move (.tmp 14), none⟩, .pure, 0, 0⟩,
  ⟨⟨some 107, .move (.tmp 15), none⟩, .pure, 0, 0⟩,
  ⟨⟨some 108, .idx 2 (.tmp 106) (.tmp 107), none⟩, .pure, 0, 0⟩,
  ⟨⟨some 109, .load true 2 (.tmp 108), none⟩, .read, 0, 0⟩,
  ⟨⟨some 110, .eqR true 33 (.tmp 105) (.tmp 109), none⟩, .pure, 0, 0⟩])
 (.cond (.tmp 110) (.seq (.region [⟨some 4, .move (.const (.bool false)), none⟩])
 (.ret))
 (.skip))))
 (.region [⟨some 100, .move (.tmp 15), none⟩,
  ⟨some 101, .bin .add (.tmp 100) (.const (.int .i64 1)), none⟩,
  ⟨some 15, .move (.tmp 101), none⟩]))
def L4_3 : LCode :=
 .seq (.seq (.region [⟨some 81, .move (.tmp 12), none⟩,
  ⟨some 82, .bin .lss (.tmp 81) (.const (.int .i64 64)), none⟩])
 (.cond (.tmp 82) (.skip)
 (.exit 2)))
 (.seq (.block 3 (.seq (.region [⟨some 85, .move (.tmp 5), none⟩,
  ⟨some 86, .move (.tmp 12), none⟩,
  ⟨some 87, .call 16 [.tmp 85, .tmp 86], none⟩,
  ⟨some 88, .move (.tmp 7), none⟩,
  ⟨some 89, .move (.tmp 12), none⟩,
  ⟨some 90, .call 16 [.tmp 88, .tmp 89], none⟩,
  ⟨some 13, .move (.tmp 87), none⟩,
  ⟨some 14, .move (.tmp 90), none⟩])
 (.seq (.seq (.region [⟨some 91, .move (.tmp 13), none⟩,
  ⟨some 92, .len (.tmp 91), none⟩,
  ⟨some 93, .move (.tmp 14), none⟩,
  ⟨some 94, .len (.tmp 93), none⟩,
  ⟨some 95, .bin .neq (.tmp 92) (.tmp 94), none⟩])
 (.cond (.tmp 95) (.seq (.region [⟨some 4, .move (.const (.bool false)), none⟩])
 (.ret))
 (.skip)))
 (.seq (.region [⟨some 15, .move (.const (.int .i64 0)), none⟩])
 (.block 4 (.loop L4_2))))))
 (.region [⟨some 83, .move (.tmp 12), none⟩,
  ⟨some 84, .bin .add (.tmp 83) (.const (.int .i64 1)), none⟩,
  ⟨some 12, .move (.tmp 84), none⟩]))
def L4 : LCode :=
 .seq (.region [⟨some 4, .move (.const (.bool false)), none⟩])
 (.seq (.region [⟨some 17, .call 6 [.const (.int .i64 64), .const (.int .i64 512)], none⟩,
  ⟨some 16, .move (.tmp 17), none⟩,
  ⟨some 18, .extract (.tmp 16) 0, none⟩,
  ⟨some 19, .extract (.tmp 16) 1, none⟩,
  ⟨some 5, .move (.tmp 18), none⟩,
  ⟨some 6, .move (.tmp 19), none⟩])
 (.seq (.region [⟨some 21, .call 6 [.const (.int .i64 64), .const (.int .i64 512)], none⟩,
  ⟨some 20, .move (.tmp 21), none⟩,
  ⟨some 22, .extract (.tmp 20) 0, none⟩,
  ⟨some 23, .extract (.tmp 20) 1, none⟩,
  ⟨some 7, .move (.tmp 22), none⟩,
  ⟨some 8, .move (.tmp 23), none⟩])
 (.seq (.seq (.region [⟨some 24, .move (.tmp 6), none⟩,
  ⟨some 25, .bin .neq (.tmp 24) (.const (.int .i64 0)), none⟩,
  ⟨some 26, .move (.tmp 25), none⟩,
  ⟨some 27, .move (.tmp 5), (some (26, false))⟩,
  ⟨some 28, .isNil false (.pointer 60) (.tmp 27), (some (26, false))⟩,
  ⟨some 29, .pick (.tmp 26) (.const (.bool true)) (.tmp 28), none⟩,
  ⟨some 30, .move (.tmp 29), none⟩,
  ⟨some 31, .move (.tmp 7), (some (30, false))⟩,
  ⟨some 32, .isNil false (.pointer 60) (.tmp 31), (some (30, false))⟩,
  ⟨some 33, .pick (.tmp 30) (.const (.bool true)) (.tmp 32), none⟩,
  ⟨some 34, .move (.tmp 33), none⟩,
  ⟨some 35, .move (.tmp 0), (some (34, false))⟩,
  ⟨some 36, .len (.tmp 35), (some (34, false))⟩,
  ⟨some 37, .bin .gtr (.tmp 36) (.const (.int .i64 120)), (some (34, false))⟩,
  ⟨some 38, .pick (.tmp 34) (.const (.bool true)) (.tmp 37), none⟩])
 (.cond (.tmp 38) (.seq (.region [⟨some 39, .move (.tmp 0), none⟩,
  ⟨some 40, .len (.tmp 39), none⟩,
  ⟨some 41, .bin .gtr (.tmp 40) (.const (.int .i64 120)), none⟩,
  ⟨some 4, .move (.tmp 41), none⟩])
 (.ret))
 (.skip)))
 (.seq (.region [⟨some 43, .call 13 [.const (.int .i64 64), .const (.int .i64 512)], none⟩,
  ⟨some 42, .move (.tmp 43), none⟩,
  ⟨some 44, .extract (.tmp 42) 0, none⟩,
  ⟨some 45, .extract (.tmp 42) 1, none⟩,
  ⟨some 9, .new 40 3 [.int .i64 0, .int .i64 0, .slice none 0 0], none⟩,
  ⟨none, .store 3 (.tmp 9) (.tmp 44), none⟩,
  ⟨some 10, .move (.tmp 45), none⟩])
 (.seq (.seq (.region [⟨some 11, .move (.const (.int .i64 0)), none⟩])
 (.block 0 (.loop L4_1)))
 (.seq (.region [⟨some 73, .move (.tmp 5), none⟩,
  ⟨some 74, .move (.tmp 1), none⟩,
  ⟨some 75, .call 10 [.tmp 73, .tmp 74], none⟩])
 (.seq (.seq (.region [⟨some 76, .move (.tmp 5), none⟩,
  ⟨some 77, .call 15 [.tmp 76], none⟩,
  ⟨some 78, .move (.tmp 7), none⟩,
  ⟨some 79, .call 15 [.tmp 78], none⟩,
  ⟨some 80, .bin .neq (.tmp 77) (.tmp 79), none⟩])
 (.cond (.tmp 80) (.seq (.region [⟨some 4, .move (.const (.bool false)), none⟩])
 (.ret))
 (.skip)))
 (.seq (.seq (.region [⟨some 12, .move (.const (.int .i64 0)), none⟩])
 (.block 2 (.loop L4_3)))
 (.seq (.region [⟨some 111, .call 12 [], none⟩,
  ⟨some 4, .move (.tmp 111), none⟩])
 (.ret))))))))))
theorem light4 : Light Try.prog 4 2 112 L4 [.tmp 4] :=
  ⟨Try.f4, _, Try.func4, rfl, rfl, by kernel_rfl, by kernel_rfl, by decide⟩

/-! ### function 5: outrider/outriderlaw21.VerPlays -/
def L5_1 : LCode :=
 .seq (.seq (.region [⟨some 38, .move (.tmp 11), none⟩,
  ⟨some 39, .move (.tmp 2), none⟩,
  ⟨some 40, .len (.tmp 39), none⟩,
  ⟨some 41, .bin .lss (.tmp 38) (.tmp 40), none⟩,
  ⟨some 42, .move (.tmp 41), none⟩,
  ⟨some 43, .move (.tmp 7), (some (42, true))⟩,
  ⟨some 44, .isNil true (.pointer 60) (.tmp 43), (some (42, true))⟩,
  ⟨some 45, .pick (.tmp 42) (.tmp 44) (.const (.bool false)), none⟩])
 (.cond (.tmp 45) (.skip)
 (.exit 0)))
 (.seq (.block 1 (.seq (.region [⟨some 12, .move (.const (.bool false)), none⟩])
 (.seq (.draw [⟨⟨some 49, .move (.tmp 7), none⟩, .pure, 0, 0⟩,
  ⟨⟨some 50, .load true 3 (.tmp 9), none⟩, .read, 0, 0⟩,
  ⟨⟨some 51, .move (.tmp 2), none⟩, .pure, 0, 0⟩,
  ⟨⟨some 52, .move (.tmp 11), none⟩, .pure, 0, 0⟩,
  ⟨⟨some 53, .idx 4 (.tmp 51) (.tmp 52), none⟩, .pure, 0, 0⟩,
  ⟨⟨some 54, .load true 4 (.tmp 53), none⟩, .read, 0, 0⟩,
  ⟨⟨some 55, .call 14 [.tmp 49, .tmp 50, .tmp 54], none⟩, .heavy, 0, 1⟩,
  ⟨⟨some 48, .move (.tmp 55), none⟩, .pure, 1, 1⟩,
  ⟨⟨some 56, .extract (.tmp 48) 0, none⟩, .pure, 1, 1⟩,
  ⟨⟨some 57, .extract (.tmp 48) 1, none⟩, .pure, 1, 2⟩,
  ⟨⟨none, .store 3 (.tmp 9) (.tmp 56), none⟩, .heavy, 1, 2⟩,
  ⟨⟨some 12, .move (.tmp 57), none⟩, .pure, 2, 2⟩])
 (.seq (.region [⟨some 58, .move (.tmp 12), none⟩,
  ⟨some 59, .un .not (.tmp 58), none⟩,
  ⟨some 60, .move (.tmp 59), none⟩,
  ⟨some 61, .move (.tmp 7), (some (60, false))⟩,
  ⟨some 62, .load true 3 (.tmp 9), (some (60, false))⟩,
  ⟨some 63, .call 17 [.tmp 61, .tmp 62], (some (60, false))⟩,
  ⟨some 64, .un .not (.tmp 63), (some (60, false))⟩,
  ⟨some 65, .pick (.tmp 60) (.const (.bool true)) (.tmp 64), none⟩])
 (.cond (.tmp 65) (.seq (.region [⟨some 6, .move (.const (.bool false)), none⟩])
 (.ret))
 (.skip))))))
 (.region [⟨some 46, .move (.tmp 11), none⟩,
  ⟨some 47, .bin .add (.tmp 46) (.const (.int .i64 1)), none⟩,
  ⟨some 11, .move (.tmp 47), none⟩]))
def L5 : LCode :=
 .seq (.region [⟨some 6, .move (.const (.bool false)), none⟩])
 (.seq (.seq (.region [⟨some 13, .move (.tmp 2), none⟩,
  ⟨some 14, .len (.tmp 13), none⟩,
  ⟨some 15, .bin .gtr (.tmp 14) (.const (.int .i64 120)), none⟩])
 (.cond (.tmp 15) (.seq (.region [⟨some 6, .move (.const (.bool true)), none⟩])
 (.ret))
 (.skip)))
 (.seq (.region [⟨some 17, .move (.tmp 0), none⟩,
  ⟨some 18, .move (.tmp 1), none⟩,
  ⟨some 19, .call 6 [.tmp 17, .tmp 18], none⟩,
  ⟨some 16, .move (.tmp 19), none⟩,
  ⟨some 20, .extract (.tmp 16) 0, none⟩,
  ⟨some 21, .extract (.tmp 16) 1, none⟩,
  ⟨some 7, .move (.tmp 20), none⟩,
  ⟨some 8, .move (.tmp 21), none⟩])
 (.seq (.region [⟨some 23, .move (.tmp 0), none⟩,
  ⟨some 24, .move (.tmp 1), none⟩,
  ⟨some 25, .call 13 [.tmp 23, .tmp 24], none⟩,
  ⟨some 22, .move (.tmp 25), none⟩,
  ⟨some 26, .extract (.tmp 22) 0, none⟩,
  ⟨some 27, .extract (.tmp 22) 1, none⟩,
  ⟨some 9, .new 40 3 [.int .i64 0, .int .i64 0, .slice none 0 0], none⟩,
  ⟨none, .store 3 (.tmp 9) (.tmp 26), none⟩,
  ⟨some 10, .move (.tmp 27), none⟩])
 (.seq (.seq (.region [⟨some 28, .move (.tmp 8), none⟩,
  ⟨some 29, .move (.tmp 10), none⟩,
  ⟨some 30, .bin .neq (.tmp 28) (.tmp 29), none⟩,
  ⟨some 31, .move (.tmp 30), none⟩,
  ⟨some 32, .move (.tmp 7), (some (31, false))⟩,
  ⟨some 33, .isNil false (.pointer 60) (.tmp 32), (some (31, false))⟩,
  ⟨some 34, .move (.tmp 10), (some (31, false))⟩,
  ⟨some 35, .bin .neq (.tmp 34) (.const (.int .i64 0)), (some (31, false))⟩,
  ⟨some 36, .eqB true (.tmp 33) (.tmp 35), (some (31, false))⟩,
  ⟨some 37, .pick (.tmp 31) (.const (.bool true)) (.tmp 36), none⟩])
 (.cond (.tmp 37) (.seq (.region [⟨some 6, .move (.const (.bool false)), none⟩])
 (.ret))
 (.skip)))
 (.seq (.seq (.region [⟨some 11, .move (.const (.int .i64 0)), none⟩])
 (.block 0 (.loop L5_1)))
 (.seq (.region [⟨some 66, .call 12 [], none⟩,
  ⟨some 6, .move (.tmp 66), none⟩])
 (.ret)))))))
theorem light5 : Light Try.prog 5 3 67 L5 [.tmp 6] :=
  ⟨Try.f5, _, Try.func5, rfl, rfl, by kernel_rfl, by kernel_rfl, by decide⟩

/-! ### function 6: outrider/ver.New -/
def L6 : LCode :=
 .seq (.region [⟨some 4, .move (.const (.pointer none)), none⟩,
  ⟨some 5, .move (.const (.int .i64 0)), none⟩])
 (.seq (.seq (.region [⟨some 8, .move (.tmp 0), none⟩,
  ⟨some 9, .bin .lss (.tmp 8) (.const (.int .i64 1)), none⟩,
  ⟨some 10, .move (.tmp 9), none⟩,
  ⟨some 11, .move (.tmp 0), (some (10, false))⟩,
  ⟨some 12, .bin .gtr (.tmp 11) (.const (.int .i64 64)), (some (10, false))⟩,
  ⟨some 13, .pick (.tmp 10) (.const (.bool true)) (.tmp 12), none⟩])
 (.cond (.tmp 13) (.seq (.region [⟨some 4, .move (.const (.pointer none)), none⟩,
  ⟨some 5, .move (.const (.int .i64 130)), none⟩])
 (.ret))
 (.skip)))
 (.seq (.region [⟨some 15, .move (.tmp 1), none⟩,
  ⟨some 16, .call 18 [.tmp 15], none⟩,
  ⟨some 14, .move (.tmp 16), none⟩,
  ⟨some 17, .extract (.tmp 14) 0, none⟩,
  ⟨some 18, .extract (.tmp 14) 1, none⟩,
  ⟨some 6, .move (.tmp 17), none⟩,
  ⟨some 7, .move (.tmp 18), none⟩])
 (.seq (.seq (.region [⟨some 19, .move (.tmp 7), none⟩,
  ⟨some 20, .bin .neq (.tmp 19) (.const (.int .i64 0)), none⟩])
 (.cond (.tmp 20) (.seq (.region [⟨some 21, .move (.tmp 7), none⟩,
  ⟨some 4, .move (.const (.pointer none)), none⟩,
  ⟨some 5, .move (.tmp 21), none⟩])
 (.ret))
 (.skip)))
 (.seq (.alts [[⟨⟨some 22, .move (.tmp 6), none⟩, .pure, 0, 3⟩,
  ⟨⟨some 23, .move (.tmp 1), none⟩, .pure, 0, 0⟩,
  ⟨⟨some 24, .make 2 1 8 [.int .i64 0] (.tmp 23) (.tmp 23), none⟩, .heavy, 0, 1⟩,
  ⟨⟨some 25, .build [.pointer none, .slice none 0 0] [(0, 1, .tmp 22), (1, 1, .tmp 24)], none⟩, .pure, 1, 3⟩,
  ⟨⟨some 26, .move (.tmp 0), none⟩, .pure, 0, 1⟩,
  ⟨⟨some 27, .make 66 1 24 [.slice none 0 0] (.tmp 26) (.tmp 26), none⟩, .heavy, 1, 2⟩,
  ⟨⟨some 28, .makeMap, none⟩, .heavy, 2, 3⟩,
  ⟨⟨some 29, .build [.pointer none, .slice none 0 0, .slice none 0 0, .map none] [(0, 2, .tmp 25), (2, 1, .tmp 27), (3, 1, .tmp 28)], none⟩, .pure, 3, 3⟩,
  ⟨⟨some 30, .box 60 4 (.tmp 29), none⟩, .heavy, 3, 4⟩,
  ⟨⟨some 4, .move (.tmp 30), none⟩, .pure, 4, 4⟩,
  ⟨⟨some 5, .move (.const (.int .i64 0)), none⟩, .pure, 4, 4⟩],
 [⟨⟨some 22, .move (.tmp 6), none⟩, .pure, 0, 3⟩,
  ⟨⟨some 23, .move (.tmp 1), none⟩, .pure, 0, 0⟩,
  ⟨⟨some 24, .make 2 1 8 [.int .i64 0] (.tmp 23) (.tmp 23), none⟩, .heavy, 0, 1⟩,
  ⟨⟨some 25, .build [.pointer none, .slice none 0 0] [(0, 1, .tmp 22), (1, 1, .tmp 24)], none⟩, .pure, 1, 3⟩,
  ⟨⟨some 26, .move (.tmp 0), none⟩, .pure, 0, 2⟩,
  ⟨⟨some 28, .makeMap, none⟩, .heavy, 1, 2⟩,
  ⟨⟨some 27, .make 66 1 24 [.slice none 0 0] (.tmp 26) (.tmp 26), none⟩, .heavy, 2, 3⟩,
  ⟨⟨some 29, .build [.pointer none, .slice none 0 0, .slice none 0 0, .map none] [(0, 2, .tmp 25), (2, 1, .tmp 27), (3, 1, .tmp 28)], none⟩, .pure, 3, 3⟩,
  ⟨⟨some 30, .box 60 4 (.tmp 29), none⟩, .heavy, 3, 4⟩,
  ⟨⟨some 4, .move (.tmp 30), none⟩, .pure, 4, 4⟩,
  ⟨⟨some 5, .move (.const (.int .i64 0)), none⟩, .pure, 4, 4⟩],
 [⟨⟨some 22, .move (.tmp 6), none⟩, .pure, 0, 3⟩,
  ⟨⟨some 23, .move (.tmp 1), none⟩, .pure, 0, 1⟩,
  ⟨⟨some 26, .move (.tmp 0), none⟩, .pure, 0, 0⟩,
  ⟨⟨some 27, .make 66 1 24 [.slice none 0 0] (.tmp 26) (.tmp 26), none⟩, .heavy, 0, 1⟩,
  ⟨⟨some 24, .make 2 1 8 [.int .i64 0] (.tmp 23) (.tmp 23), none⟩, .heavy, 1, 2⟩,
  ⟨⟨some 25, .build [.pointer none, .slice none 0 0] [(0, 1, .tmp 22), (1, 1, .tmp 24)], none⟩, .pure, 2, 3⟩,
  ⟨⟨some 28, .makeMap, none⟩, .heavy, 2, 3⟩,
  ⟨⟨some 29, .build [.pointer none, .slice none 0 0, .slice none 0 0, .map none] [(0, 2, .tmp 25), (2, 1, .tmp 27), (3, 1, .tmp 28)], none⟩, .pure, 3, 3⟩,
  ⟨⟨some 30, .box 60 4 (.tmp 29), none⟩, .heavy, 3, 4⟩,
  ⟨⟨some 4, .move (.tmp 30), none⟩, .pure, 4, 4⟩,
  ⟨⟨some 5, .move (.const (.int .i64 0)), none⟩, .pure, 4, 4⟩],
 [⟨⟨some 22, .move (.tmp 6), none⟩, .pure, 0, 3⟩,
  ⟨⟨some 23, .move (.tmp 1), none⟩, .pure, 0, 2⟩,
  ⟨⟨some 26, .move (.tmp 0), none⟩, .pure, 0, 0⟩,
  ⟨⟨some 27, .make 66 1 24 [.slice none 0 0] (.tmp 26) (.tmp 26), none⟩, .heavy, 0, 1⟩,
  ⟨⟨some 28, .makeMap, none⟩, .heavy, 1, 2⟩,
  ⟨⟨some 24, .make 2 1 8 [.int .i64 0] (.tmp 23) (.tmp 23), none⟩, .heavy, 2, 3⟩,
  ⟨⟨some 25, .build [.pointer none, .slice none 0 0] [(0, 1, .tmp 22), (1, 1, .tmp 24)], none⟩, .pure, 3, 3⟩,
  ⟨⟨some 29, .build [.pointer none, .slice none 0 0, .slice none 0 0, .map none] [(0, 2, .tmp 25), (2, 1, .tmp 27), (3, 1, .tmp 28)], none⟩, .pure, 3, 3⟩,
  ⟨⟨some 30, .box 60 4 (.tmp 29), none⟩, .heavy, 3, 4⟩,
  ⟨⟨some 4, .move (.tmp 30), none⟩, .pure, 4, 4⟩,
  ⟨⟨some 5, .move (.const (.int .i64 0)), none⟩, .pure, 4, 4⟩],
 [⟨⟨some 22, .move (.tmp 6), none⟩, .pure, 0, 3⟩,
  ⟨⟨some 23, .move (.tmp 1), none⟩, .pure, 0, 1⟩,
  ⟨⟨some 26, .move (.tmp 0), none⟩, .pure, 0, 2⟩,
  ⟨⟨some 28, .makeMap, none⟩, .heavy, 0, 1⟩,
  ⟨⟨some 24, .make 2 1 8 [.int .i64 0] (.tmp 23) (.tmp 23), none⟩, .heavy, 1, 2⟩,
  ⟨⟨some 25, .build [.pointer none, .slice none 0 0] [(0, 1, .tmp 22), (1, 1, .tmp 24)], none⟩, .pure, 2, 3⟩,
  ⟨⟨some 27, .make 66 1 24 [.slice none 0 0] (.tmp 26) (.tmp 26), none⟩, .heavy, 2, 3⟩,
  ⟨⟨some 29, .build [.pointer none, .slice none 0 0, .slice none 0 0, .map none] [(0, 2, .tmp 25), (2, 1, .tmp 27), (3, 1, .tmp 28)], none⟩, .pure, 3, 3⟩,
  ⟨⟨some 30, .box 60 4 (.tmp 29), none⟩, .heavy, 3, 4⟩,
  ⟨⟨some 4, .move (.tmp 30), none⟩, .pure, 4, 4⟩,
  ⟨⟨some 5, .move (.const (.int .i64 0)), none⟩, .pure, 4, 4⟩],
 [⟨⟨some 22, .move (.tmp 6), none⟩, .pure, 0, 3⟩,
  ⟨⟨some 23, .move (.tmp 1), none⟩, .pure, 0, 2⟩,
  ⟨⟨some 26, .move (.tmp 0), none⟩, .pure, 0, 1⟩,
  ⟨⟨some 28, .makeMap, none⟩, .heavy, 0, 1⟩,
  ⟨⟨some 27, .make 66 1 24 [.slice none 0 0] (.tmp 26) (.tmp 26), none⟩, .heavy, 1, 2⟩,
  ⟨⟨some 24, .make 2 1 8 [.int .i64 0] (.tmp 23) (.tmp 23), none⟩, .heavy, 2, 3⟩,
  ⟨⟨some 25, .build [.pointer none, .slice none 0 0] [(0, 1, .tmp 22), (1, 1, .tmp 24)], none⟩, .pure, 3, 3⟩,
  ⟨⟨some 29, .build [.pointer none, .slice none 0 0, .slice none 0 0, .map none] [(0, 2, .tmp 25), (2, 1, .tmp 27), (3, 1, .tmp 28)], none⟩, .pure, 3, 3⟩,
  ⟨⟨some 30, .box 60 4 (.tmp 29), none⟩, .heavy, 3, 4⟩,
  ⟨⟨some 4, .move (.tmp 30), none⟩, .pure, 4, 4⟩,
  ⟨⟨some 5, .move (.const (.int .i64 0)), none⟩, .pure, 4, 4⟩]])
 (.ret)))))
theorem lightX6 : LightX Try.prog 6 2 31 L6 [.tmp 4, .tmp 5] :=
  ⟨Try.f6, _, Try.func6, rfl, rfl, by kernel_rfl, by kernel_rfl, by decide⟩

/-! ### function 7: outrider/outriderlaw21.kind -/
def L7 : LCode :=
 .seq (.region [⟨some 2, .move (.const (.int .i64 0)), none⟩])
 (.seq (.region [⟨some 3, .move (.tmp 0), none⟩,
  ⟨some 4, .bin .rem (.tmp 3) (.const (.int .i64 7)), none⟩,
  ⟨some 5, .bin .add (.tmp 4) (.const (.int .i64 7)), none⟩,
  ⟨some 6, .bin .rem (.tmp 5) (.const (.int .i64 7)), none⟩,
  ⟨some 2, .move (.tmp 6), none⟩])
 (.ret))
theorem light7 : Light Try.prog 7 1 7 L7 [.tmp 2] :=
  ⟨Try.f7, _, Try.func7, rfl, rfl, by kernel_rfl, by kernel_rfl, by decide⟩

/-! ### function 8: (*outrider/ver.Store).Put -/
def L8 : LCode :=
 .seq (.region [⟨some 8, .move (.const (.int .i64 0)), none⟩])
 (.seq (.seq (.region [⟨some 14, .move (.tmp 0), none⟩,
  ⟨some 15, .move (.tmp 1), none⟩,
  ⟨some 16, .call 19 [.tmp 14, .tmp 15], none⟩,
  ⟨some 17, .un .not (.tmp 16), none⟩])
 (.cond (.tmp 17) (.seq (.region [⟨some 8, .move (.const (.int .i64 131)), none⟩])
 (.ret))
 (.skip)))
 (.seq (.seq (.region [⟨some 18, .move (.tmp 2), none⟩,
  ⟨some 19, .bin .lss (.tmp 18) (.const (.int .i64 0)), none⟩])
 (.cond (.tmp 19) (.seq (.region [⟨some 8, .move (.const (.int .i64 210)), none⟩])
 (.ret))
 (.skip)))
 (.seq (.region [⟨some 21, .move (.tmp 0), none⟩,
  ⟨some 22, .move (.tmp 1), none⟩,
  ⟨some 23, .move (.tmp 2), none⟩,
  ⟨some 24, .call 20 [.tmp 21, .tmp 22, .tmp 23], none⟩,
  ⟨some 20, .move (.tmp 24), none⟩,
  ⟨some 25, .extract (.tmp 20) 0, none⟩,
  ⟨some 26, .extract (.tmp 20) 1, none⟩,
  ⟨some 9, .move (.tmp 25), none⟩,
  ⟨some 10, .move (.tmp 26), none⟩])
 (.seq (.seq (.region [⟨some 27, .move (.tmp 10), none⟩])
 (.cond (.tmp 27) (.seq (.draw [⟨⟨some 28, .move (.tmp 0), none⟩, .pure, 0, 0⟩,
  ⟨⟨some 29, .nilCheck (.tmp 28), none⟩, .pure, 0, 0⟩,
  ⟨⟨some 30, .off 0 (.tmp 29), none⟩, .pure, 0, 0⟩,
  ⟨⟨some 31, .off 1 (.tmp 30), none⟩, .pure, 0, 0⟩,
  ⟨⟨some 32, .load false 1 (.tmp 31), none⟩, .read, 0, 0⟩,
  ⟨⟨some 33, .move (.tmp 0), none⟩, .pure, 0, 0⟩,
  ⟨⟨some 34, .nilCheck (.tmp 33), none⟩, .pure, 0, 0⟩,
  ⟨⟨some 35, .off 2 (.tmp 34), none⟩, .pure, 0, 0⟩,
  ⟨⟨some 36, .load false 1 (.tmp 35), none⟩, .read, 0, 0⟩,
  ⟨⟨some 37, .move (.tmp 1), none⟩, .pure, 0, 0⟩,
  ⟨⟨some 38, .idx 1 (.tmp 36) (.tmp 37), none⟩, .pure, 0, 0⟩,
  ⟨⟨some 39, .load false 1 (.tmp 38), none⟩, .read, 0, 0⟩,
  ⟨⟨some 40, .move (.tmp 9), none⟩, .pure, 0, 0⟩,
  ⟨⟨some 41, .idx 2 (.tmp 39) (.tmp 40), none⟩, .pure, 0, 0⟩,
  ⟨⟨some 42, .off 1 (.tmp 41), none⟩, .pure, 0, 0⟩,
  ⟨⟨some 43, .load false 1 (.tmp 42), none⟩, .read, 0, 0⟩,
  ⟨⟨some 44, .move (.tmp 3), none⟩, .pure, 0, 0⟩,
  ⟨⟨some 45, .idx 1 (.tmp 32) (.tmp 43), none⟩, .pure, 0, 0⟩,
  ⟨⟨none, .store 1 (.tmp 45) (.tmp 44), none⟩, .heavy, 0, 1⟩])
 (.seq (.region [⟨some 8, .move (.const (.int .i64 0)), none⟩])
 (.ret)))
 (.skip)))
 (.seq (.region [⟨some 47, .move (.tmp 0), none⟩,
  ⟨some 48, .nilCheck (.tmp 47), none⟩,
  ⟨some 49, .off 0 (.tmp 48), none⟩,
  ⟨some 50, .off 0 (.tmp 49), none⟩,
  ⟨some 51, .load false 1 (.tmp 50), none⟩,
  ⟨some 52, .call 21 [.tmp 51], none⟩,
  ⟨some 46, .move (.tmp 52), none⟩,
  ⟨some 53, .extract (.tmp 46) 0, none⟩,
  ⟨some 54, .extract (.tmp 46) 1, none⟩,
  ⟨some 11, .move (.tmp 53), none⟩,
  ⟨some 12, .move (.tmp 54), none⟩])
 (.seq (.seq (.region [⟨some 55, .move (.tmp 12), none⟩,
  ⟨some 56, .bin .neq (.tmp 55) (.const (.int .i64 0)), none⟩])
 (.cond (.tmp 56) (.seq (.region [⟨some 57, .move (.tmp 12), none⟩,
  ⟨some 8, .move (.tmp 57), none⟩])
 (.ret))
 (.skip)))
 (.seq (.region [⟨some 58, .move (.tmp 0), none⟩,
  ⟨some 59, .nilCheck (.tmp 58), none⟩,
  ⟨some 60, .off 0 (.tmp 59), none⟩,
  ⟨some 61, .off 1 (.tmp 60), none⟩,
  ⟨some 62, .load false 1 (.tmp 61), none⟩,
  ⟨some 63, .move (.tmp 11), none⟩,
  ⟨some 64, .move (.tmp 3), none⟩,
  ⟨some 65, .idx 1 (.tmp 62) (.tmp 63), none⟩,
  ⟨none, .store 1 (.tmp 65) (.tmp 64), none⟩])
 (.seq (.region [⟨some 66, .move (.tmp 0), none⟩,
  ⟨some 67, .nilCheck (.tmp 66), none⟩,
  ⟨some 68, .off 2 (.tmp 67), none⟩,
  ⟨some 69, .load false 1 (.tmp 68), none⟩,
  ⟨some 70, .move (.tmp 1), none⟩,
  ⟨some 71, .idx 1 (.tmp 69) (.tmp 70), none⟩,
  ⟨some 72, .load false 1 (.tmp 71), none⟩,
  ⟨some 73, .build [.int .i64 0, .int .i64 0] [], none⟩,
  ⟨some 74, .buildSlice 65 2 1 [.int .i64 0, .int .i64 0] [(0, 2, .tmp 73)], none⟩,
  ⟨some 75, .append 65 2 16 (.tmp 72) (.tmp 74), none⟩,
  ⟨some 13, .move (.tmp 75), none⟩])
 (.seq (.draw [⟨⟨some 76, .move (.tmp 13), none⟩, .pure, 0, 0⟩,
  ⟨⟨some 77, .move (.tmp 9), none⟩, .pure, 0, 0⟩,
  ⟨⟨some 78, .bin .add (.tmp 77) (.const (.int .i64 1)), none⟩, .pure, 0, 0⟩,
  ⟨⟨some 79, .slice 2 (.tmp 76) (some (.tmp 78)) none none, none⟩, .pure, 0, 0⟩,
  ⟨⟨some 80, .move (.tmp 13), none⟩, .pure, 0, 0⟩,
  ⟨⟨some 81, .move (.tmp 9), none⟩, .pure, 0, 0⟩,
  ⟨⟨some 82, .slice 2 (.tmp 80) (some (.tmp 81)) none none, none⟩, .pure, 0, 0⟩,
  ⟨⟨some 83, .copy 2 (.tmp 79) (.tmp 82), none⟩, .heavy, 0, 1⟩])
 (.seq (.region [⟨some 84, .move (.tmp 13), none⟩,
  ⟨some 85, .move (.tmp 9), none⟩,
  ⟨some 86, .move (.tmp 2), none⟩,
  ⟨some 87, .move (.tmp 11), none⟩,
  ⟨some 88, .build [.int .i64 0, .int .i64 0] [(0, 1, .tmp 86), (1, 1, .tmp 87)], none⟩,
  ⟨some 89, .idx 2 (.tmp 84) (.tmp 85), none⟩,
  ⟨none, .store 2 (.tmp 89) (.tmp 88), none⟩])
 (.seq (.region [⟨some 90, .move (.tmp 0), none⟩,
  ⟨some 91, .nilCheck (.tmp 90), none⟩,
  ⟨some 92, .off 2 (.tmp 91), none⟩,
  ⟨some 93, .load false 1 (.tmp 92), none⟩,
  ⟨some 94, .move (.tmp 1), none⟩,
  ⟨some 95, .move (.tmp 13), none⟩,
  ⟨some 96, .idx 1 (.tmp 93) (.tmp 94), none⟩,
  ⟨none, .store 1 (.tmp 96) (.tmp 95), none⟩])
 (.seq (.region [⟨some 97, .move (.tmp 0), none⟩,
  ⟨some 98, .nilCheck (.tmp 97), none⟩,
  ⟨some 99, .off 3 (.tmp 98), none⟩,
  ⟨some 100, .load false 1 (.tmp 99), none⟩,
  ⟨some 101, .move (.tmp 2), none⟩,
  ⟨some 102, .lookup (.int .i64) (.int .i64 0) false (.tmp 100) (.tmp 101), none⟩,
  ⟨some 103, .bin .add (.tmp 102) (.const (.int .i64 1)), none⟩,
  ⟨none, .mapUpdate (.int .i64) (.tmp 100) (.tmp 101) (.tmp 103), none⟩])
 (.seq (.region [⟨some 8, .move (.const (.int .i64 0)), none⟩])
 (.ret))))))))))))))
theorem light8 : Light Try.prog 8 4 104 L8 [.tmp 8] :=
  ⟨Try.f8, _, Try.func8, rfl, rfl, by kernel_rfl, by kernel_rfl, by decide⟩

/-! ### function 9: (*outrider/ver.Store).Drop -/
def L9 : LCode :=
 .seq (.region [⟨some 6, .move (.const (.bool false)), none⟩])
 (.seq (.seq (.region [⟨some 10, .move (.tmp 0), none⟩,
  ⟨some 11, .move (.tmp 1), none⟩,
  ⟨some 12, .call 19 [.tmp 10, .tmp 11], none⟩,
  ⟨some 13, .un .not (.tmp 12), none⟩])
 (.cond (.tmp 13) (.seq (.region [⟨some 6, .move (.const (.bool false)), none⟩])
 (.ret))
 (.skip)))
 (.seq (.region [⟨some 15, .move (.tmp 0), none⟩,
  ⟨some 16, .move (.tmp 1), none⟩,
  ⟨some 17, .move (.tmp 2), none⟩,
  ⟨some 18, .call 20 [.tmp 15, .tmp 16, .tmp 17], none⟩,
  ⟨some 14, .move (.tmp 18), none⟩,
  ⟨some 19, .extract (.tmp 14) 0, none⟩,
  ⟨some 20, .extract (.tmp 14) 1, none⟩,
  ⟨some 7, .move (.tmp 19), none⟩,
  ⟨some 8, .move (.tmp 20), none⟩])
 (.seq (.seq (.region [⟨some 21, .move (.tmp 8), none⟩,
  ⟨some 22, .un .not (.tmp 21), none⟩])
 (.cond (.tmp 22) (.seq (.region [⟨some 6, .move (.const (.bool false)), none⟩])
 (.ret))
 (.skip)))
 (.seq (.region [⟨some 23, .move (.tmp 0), none⟩,
  ⟨some 24, .nilCheck (.tmp 23), none⟩,
  ⟨some 25, .off 2 (.tmp 24), none⟩,
  ⟨some 26, .load false 1 (.tmp 25), none⟩,
  ⟨some 27, .move (.tmp 1), none⟩,
  ⟨some 28, .idx 1 (.tmp 26) (.tmp 27), none⟩,
  ⟨some 29, .load false 1 (.tmp 28), none⟩,
  ⟨some 9, .move (.tmp 29), none⟩])
 (.seq (.draw [⟨⟨some 30, .move (.tmp 0), none⟩, .pure, 0, 0⟩,
  ⟨⟨some 31, .nilCheck (.tmp 30), none⟩, .pure, 0, 0⟩,
  ⟨⟨some 32, .off 0 (.tmp 31), none⟩, .pure, 0, 0⟩,
  ⟨⟨some 33, .off 0 (.tmp 32), none⟩, .pure, 0, 0⟩,
  ⟨⟨some 34, .load false 1 (.tmp 33), none⟩, .read, 0, 0⟩,
  ⟨⟨some 35, .move (.tmp 9), none⟩, .pure, 0, 0⟩,
  ⟨⟨some 36, .move (.tmp 7), none⟩, .pure, 0, 0⟩,
  ⟨⟨some 37, .idx 2 (.tmp 35) (.tmp 36), none⟩, .pure, 0, 0⟩,
  ⟨⟨some 38, .off 1 (.tmp 37), none⟩, .pure, 0, 0⟩,
  ⟨⟨some 39, .load false 1 (.tmp 38), none⟩, .read, 0, 0⟩,
  ⟨⟨some 40, .call 22 [.tmp 34, .tmp 39], none⟩, .heavy, 0, 1⟩])
 (.seq (.draw [⟨⟨some 41, .move (.tmp 0), none⟩, .pure, 0, 1⟩,
  ⟨⟨some 42, .nilCheck (.tmp 41), none⟩, .pure, 0, 1⟩,
  ⟨⟨some 43, .off 2 (.tmp 42), none⟩, .pure, 0, 1⟩,
  ⟨⟨some 44, .load false 1 (.tmp 43), none⟩, .read, 0, 1⟩,
  ⟨⟨some 45, .move (.tmp 1), none⟩, .pure, 0, 1⟩,
  ⟨⟨some 46, .move (.tmp 9), none⟩, .pure, 0, 0⟩,
  ⟨⟨some 47, .move (.tmp 7), none⟩, .pure, 0, 0⟩,
  ⟨⟨some 48, .move (.tmp 7), none⟩, .pure, 0, 0⟩,
  ⟨⟨some 49, .slice 2 (.tmp 46) none (some (.tmp 47)) (some (.tmp 48)), none⟩, .pure, 0, 0⟩,
  ⟨⟨some 50, .move (.tmp 9), none⟩, .pure, 0, 0⟩,
  ⟨⟨some 51, .move (.tmp 7), none⟩, .pure, 0, 0⟩,
  ⟨⟨some 52, .bin .add (.tmp 51) (.const (.int .i64 1)), none⟩, .pure, 0, 0⟩,
  ⟨⟨some 53, .slice 2 (.tmp 50) (some (.tmp 52)) none none, none⟩, .pure, 0, 0⟩,
  ⟨⟨some 54, .append 65 2 16 (.tmp 49) (.tmp 53), none⟩, .heavy, 0, 1⟩,
  ⟨⟨some 55, .idx 1 (.tmp 44) (.tmp 45), none⟩, .pure, 1, 1⟩,
  ⟨⟨none, .store 1 (.tmp 55) (.tmp 54), none⟩, .heavy, 1, 2⟩])
 (.seq (.region [⟨some 56, .move (.tmp 0), none⟩,
  ⟨some 57, .nilCheck (.tmp 56), none⟩,
  ⟨some 58, .off 3 (.tmp 57), none⟩,
  ⟨some 59, .load false 1 (.tmp 58), none⟩,
  ⟨some 60, .move (.tmp 2), none⟩,
  ⟨some 61, .lookup (.int .i64) (.int .i64 0) false (.tmp 59) (.tmp 60), none⟩,
  ⟨some 62, .bin .sub (.tmp 61) (.const (.int .i64 1)), none⟩,
  ⟨none, .mapUpdate (.int .i64) (.tmp 59) (.tmp 60) (.tmp 62), none⟩])
 (.seq (.seq (.region [⟨some 63, .move (.tmp 0), none⟩,
  ⟨some 64, .nilCheck (.tmp 63), none⟩,
  ⟨some 65, .off 3 (.tmp 64), none⟩,
  ⟨some 66, .load false 1 (.tmp 65), none⟩,
  ⟨some 67, .move (.tmp 2), none⟩,
  ⟨some 68, .lookup (.int .i64) (.int .i64 0) false (.tmp 66) (.tmp 67), none⟩,
  ⟨some 69, .bin .eql (.tmp 68) (.const (.int .i64 0)), none⟩])
 (.cond (.tmp 69) (.region [⟨some 70, .move (.tmp 0), none⟩,
  ⟨some 71, .nilCheck (.tmp 70), none⟩,
  ⟨some 72, .off 3 (.tmp 71), none⟩,
  ⟨some 73, .load false 1 (.tmp 72), none⟩,
  ⟨some 74, .move (.tmp 2), none⟩,
  ⟨none, .delete (.int .i64) (.tmp 73) (.tmp 74), none⟩])
 (.skip)))
 (.seq (.region [⟨some 6, .move (.const (.bool true)), none⟩])
 (.ret))))))))))
theorem light9 : Light Try.prog 9 3 75 L9 [.tmp 6] :=
  ⟨Try.f9, _, Try.func9, rfl, rfl, by kernel_rfl, by kernel_rfl, by decide⟩

/-! ### function 10: (*outrider/ver.Store).DropAll -/
def L10_1 : LCode :=
 .seq (.region [⟨some 13, .bin .lss (.tmp 12) (.tmp 11), none⟩])
 (.seq (.cond (.tmp 13) (.skip)
 (.exit 0))
 (.seq (.block 1 (.seq (.region [⟨some 14, .move (.tmp 12), none⟩,
  ⟨some 6, .move (.tmp 14), none⟩])
 (.seq (.region [⟨some 15, .move (.tmp 0), none⟩,
  ⟨some 16, .move (.tmp 6), none⟩,
  ⟨some 17, .move (.tmp 1), none⟩,
  ⟨some 18, .call 9 [.tmp 15, .tmp 16, .tmp 17], none⟩])
 (.cond (.tmp 18) (.region [⟨some 19, .move (.tmp 5), none⟩,
  ⟨some 20, .bin .add (.tmp 19) (.const (.int .i64 1)), none⟩,
  ⟨some 5, .move (.tmp 20), none⟩])
 (.skip)))))
 (.region [⟨some 21, .bin .add (.tmp 12) (.const (.int .i64 1)), none⟩,
  ⟨some 12, .move (.tmp 21), none⟩])))
def L10 : LCode :=
 .seq (.region [⟨some 4, .move (.const (.int .i64 0)), none⟩])
 (.seq (.region [⟨some 5, .move (.const (.int .i64 0)), none⟩])
 (.seq (.seq (.region [⟨some 7, .move (.tmp 0), none⟩,
  ⟨some 8, .nilCheck (.tmp 7), none⟩,
  ⟨some 9, .off 2 (.tmp 8), none⟩,
  ⟨some 10, .load false 1 (.tmp 9), none⟩,
  ⟨some 11, .len (.tmp 10), none⟩,
  ⟨some 12, .move (.const (.int .i64 0)), none⟩])
 (.block 0 (.loop L10_1)))
 (.seq (.region [⟨some 22, .move (.tmp 5), none⟩,
  ⟨some 4, .move (.tmp 22), none⟩])
 (.ret))))
theorem light10 : Light Try.prog 10 2 23 L10 [.tmp 4] :=
  ⟨Try.f10, _, Try.func10, rfl, rfl, by kernel_rfl, by kernel_rfl, by decide⟩

/-! ### function 11: (*outrider/ver.Store).Older -/
def L11 : LCode :=
 .seq (.region [⟨some 6, .new 33 2 [.int .i64 0, .int .i64 0], none⟩,
  ⟨some 7, .move (.const (.bool false)), none⟩])
 (.seq (.seq (.region [⟨some 11, .move (.tmp 0), none⟩,
  ⟨some 12, .move (.tmp 1), none⟩,
  ⟨some 13, .call 19 [.tmp 11, .tmp 12], none⟩,
  ⟨some 14, .un .not (.tmp 13), none⟩])
 (.cond (.tmp 14) (.seq (.region [⟨some 15, .build [.int .i64 0, .int .i64 0] [], none⟩,
  ⟨none, .store 2 (.tmp 6) (.tmp 15), none⟩,
  ⟨some 7, .move (.const (.bool false)), none⟩])
 (.ret))
 (.skip)))
 (.seq (.region [⟨some 17, .move (.tmp 0), none⟩,
  ⟨some 18, .move (.tmp 1), none⟩,
  ⟨some 19, .move (.tmp 2), none⟩,
  ⟨some 20, .call 20 [.tmp 17, .tmp 18, .tmp 19], none⟩,
  ⟨some 16, .move (.tmp 20), none⟩,
  ⟨some 21, .extract (.tmp 16) 0, none⟩,
  ⟨some 22, .extract (.tmp 16) 1, none⟩,
  ⟨some 8, .move (.tmp 21), none⟩,
  ⟨some 9, .move (.tmp 22), none⟩])
 (.seq (.seq (.region [⟨some 23, .move (.tmp 8), none⟩,
  ⟨some 24, .bin .eql (.tmp 23) (.const (.int .i64 0)), none⟩])
 (.cond (.tmp 24) (.seq (.region [⟨some 25, .build [.int .i64 0, .int .i64 0] [], none⟩,
  ⟨none, .store 2 (.tmp 6) (.tmp 25), none⟩,
  ⟨some 7, .move (.const (.bool false)), none⟩])
 (.ret))
 (.skip)))
 (.seq (.region [⟨some 26, .move (.tmp 0), none⟩,
  ⟨some 27, .nilCheck (.tmp 26), none⟩,
  ⟨some 28, .off 2 (.tmp 27), none⟩,
  ⟨some 29, .load false 1 (.tmp 28), none⟩,
  ⟨some 30, .move (.tmp 1), none⟩,
  ⟨some 31, .idx 1 (.tmp 29) (.tmp 30), none⟩,
  ⟨some 32, .load false 1 (.tmp 31), none⟩,
  ⟨some 33, .move (.tmp 8), none⟩,
  ⟨some 34, .bin .sub (.tmp 33) (.const (.int .i64 1)), none⟩,
  ⟨some 35, .idx 2 (.tmp 32) (.tmp 34), none⟩,
  ⟨some 36, .load true 2 (.tmp 35), none⟩,
  ⟨some 10, .new 65 2 [.int .i64 0, .int .i64 0], none⟩,
  ⟨none, .store 2 (.tmp 10) (.tmp 36), none⟩])
 (.seq (.draw [⟨⟨some 37, .off 0 (.tmp 10), none⟩, .pure, 0, 0⟩,
  ⟨⟨some 38, .load false 1 (.tmp 37), none⟩, .read, 0, 0⟩,
  ⟨⟨some 39, .move (.tmp 0), none⟩, .pure, 0, 0⟩,
  ⟨⟨some 40, .nilCheck (.tmp 39), none⟩, .pure, 0, 0⟩,
  ⟨⟨some 41, .off 0 (.tmp 40), none⟩, .pure, 0, 0⟩,
  ⟨⟨some 42, .off 1 (.tmp 41), none⟩, .pure, 0, 0⟩,
  ⟨⟨some 43, .load false 1 (.tmp 42), none⟩, .read, 0, 0⟩,
  ⟨⟨some 44, .off 1 (.tmp 10), none⟩, .pure, 0, 0⟩,
  ⟨⟨some 45, .load false 1 (.tmp 44), none⟩, .read, 0, 0⟩,
  ⟨⟨some 46, .idx 1 (.tmp 43) (.tmp 45), none⟩, .pure, 0, 0⟩,
  ⟨⟨some 47, .load false 1 (.tmp 46), none⟩, .read, 0, 0⟩,
  ⟨⟨some 48, .build [.int .i64 0, .int .i64 0] [(0, 1, .tmp 38), (1, 1, .tmp 47)], none⟩, .pure, 0, 0⟩,
  ⟨⟨none, .store 2 (.tmp 6) (.tmp 48), none⟩, .heavy, 0, 1⟩,
  ⟨⟨some 7, .move (.const (.bool true)), none⟩, .pure, 1, 1⟩])
 (.ret))))))
theorem light11 : Light Try.prog 11 3 49 L11 [.cell 6 true 2, .tmp 7] :=
  ⟨Try.f11, _, Try.func11, rfl, rfl, by kernel_rfl, by kernel_rfl, by decide⟩

/-! ### function 12: outrider/outriderlaw21.alive -/
def L12 : LCode :=
 .seq (.region [⟨some 0, .move (.const (.bool false)), none⟩])
 (.seq (.region [⟨some 10, .call 6 [.const (.int .i64 2), .const (.int .i64 3)], none⟩,
  ⟨some 9, .move (.tmp 10), none⟩,
  ⟨some 11, .extract (.tmp 9) 0, none⟩,
  ⟨some 12, .extract (.tmp 9) 1, none⟩,
  ⟨some 1, .move (.tmp 11), none⟩,
  ⟨some 2, .move (.tmp 12), none⟩])
 (.seq (.seq (.region [⟨some 13, .move (.tmp 2), none⟩,
  ⟨some 14, .bin .neq (.tmp 13) (.const (.int .i64 0)), none⟩,
  ⟨some 15, .move (.tmp 14), none⟩,
  ⟨some 16, .move (.tmp 1), (some (15, false))⟩,
  ⟨some 17, .isNil false (.pointer 60) (.tmp 16), (some (15, false))⟩,
  ⟨some 18, .pick (.tmp 15) (.const (.bool true)) (.tmp 17), none⟩])
 (.cond (.tmp 18) (.seq (.region [⟨some 0, .move (.const (.bool false)), none⟩])
 (.ret))
 (.skip)))
 (.seq (.region [⟨some 19, .move (.tmp 1), none⟩,
  ⟨some 20, .call 8 [.tmp 19, .const (.int .i64 0), .const (.int .i64 5), .const (.int .i64 50)], none⟩,
  ⟨some 21, .move (.tmp 1), none⟩,
  ⟨some 22, .call 8 [.tmp 21, .const (.int .i64 0), .const (.int .i64 2), .const (.int .i64 20)], none⟩,
  ⟨some 23, .move (.tmp 1), none⟩,
  ⟨some 24, .call 8 [.tmp 23, .const (.int .i64 1), .const (.int .i64 5), .const (.int .i64 7)], none⟩,
  ⟨some 25, .move (.tmp 1), none⟩,
  ⟨some 26, .call 8 [.tmp 25, .const (.int .i64 1), .const (.int .i64 6), .const (.int .i64 8)], none⟩,
  ⟨some 3, .move (.tmp 20), none⟩,
  ⟨some 4, .move (.tmp 22), none⟩,
  ⟨some 5, .move (.tmp 24), none⟩,
  ⟨some 6, .move (.tmp 26), none⟩])
 (.seq (.region [⟨some 28, .move (.tmp 1), none⟩,
  ⟨some 29, .call 11 [.tmp 28, .const (.int .i64 0), .const (.int .i64 5)], none⟩,
  ⟨some 27, .move (.tmp 29), none⟩,
  ⟨some 30, .extract (.tmp 27) 0, none⟩,
  ⟨some 31, .extract (.tmp 27) 1, none⟩,
  ⟨some 7, .new 33 2 [.int .i64 0, .int .i64 0], none⟩,
  ⟨none, .store 2 (.tmp 7) (.tmp 30), none⟩,
  ⟨some 8, .move (.tmp 31), none⟩])
 (.seq (.region [⟨some 32, .move (.tmp 3), none⟩,
  ⟨some 33, .bin .eql (.tmp 32) (.const (.int .i64 0)), none⟩,
  ⟨some 34, .move (.tmp 33), none⟩,
  ⟨some 35, .move (.tmp 4), (some (34, true))⟩,
  ⟨some 36, .bin .eql (.tmp 35) (.const (.int .i64 0)), (some (34, true))⟩,
  ⟨some 37, .pick (.tmp 34) (.tmp 36) (.const (.bool false)), none⟩,
  ⟨some 38, .move (.tmp 37), none⟩,
  ⟨some 39, .move (.tmp 5), (some (38, true))⟩,
  ⟨some 40, .bin .eql (.tmp 39) (.const (.int .i64 0)), (some (38, true))⟩,
  ⟨some 41, .pick (.tmp 38) (.tmp 40) (.const (.bool false)), none⟩,
  ⟨some 42, .move (.tmp 41), none⟩,
  ⟨some 43, .move (.tmp 6), (some (42, true))⟩,
  ⟨some 44, .bin .eql (.tmp 43) (.const (.int .i64 200)), (some (42, true))⟩,
  ⟨some 45, .pick (.tmp 42) (.tmp 44) (.const (.bool false)), none⟩,
  ⟨some 46, .move (.tmp 45), none⟩,
  ⟨some 47, .move (.tmp 8), (some (46, true))⟩,
  ⟨some 48, .pick (.tmp 46) (.tmp 47) (.const (.bool false)), none⟩,
  ⟨some 49, .move (.tmp 48), none⟩,
  ⟨some 50, .load true 2 (.tmp 7), (some (49, true))⟩,
  ⟨some 51, .build [.int .i64 0, .int .i64 0] [(0, 1, .const (.int .i64 2)), (1, 1, .const (.int .i64 20))], (some (49, true))⟩,
  ⟨some 52, .eqR false 33 (.tmp 50) (.tmp 51), (some (49, true))⟩,
  ⟨some 53, .pick (.tmp 49) (.tmp 52) (.const (.bool false)), none⟩,
  ⟨some 54, .move (.tmp 53), none⟩,
  ⟨some 55, .move (.tmp 1), (some (54, true))⟩,
  ⟨some 56, .call 15 [.tmp 55], (some (54, true))⟩,
  ⟨some 57, .bin .eql (.tmp 56) (.const (.int .i64 3)), (some (54, true))⟩,
  ⟨some 58, .pick (.tmp 54) (.tmp 57) (.const (.bool false)), none⟩,
  ⟨some 59, .move (.tmp 58), none⟩,
  ⟨some 60, .move (.tmp 1), (some (59, true))⟩,
  ⟨some 61, .call 10 [.tmp 60, .const (.int .i64 5)], (some (59, true))⟩,
  ⟨some 62, .bin .eql (.tmp 61) (.const (.int .i64 2)), (some (59, true))⟩,
  ⟨some 63, .pick (.tmp 59) (.tmp 62) (.const (.bool false)), none⟩,
  ⟨some 64, .move (.tmp 63), none⟩,
  ⟨some 65, .move (.tmp 1), (some (64, true))⟩,
  ⟨some 66, .call 23 [.tmp 65], (some (64, true))⟩,
  ⟨some 67, .bin .eql (.tmp 66) (.const (.int .i64 2)), (some (64, true))⟩,
  ⟨some 68, .pick (.tmp 64) (.tmp 67) (.const (.bool false)), none⟩,
  ⟨some 0, .move (.tmp 68), none⟩])
 (.ret))))))
theorem light12 : Light Try.prog 12 0 69 L12 [.tmp 0] :=
  ⟨Try.f12, _, Try.func12, rfl, rfl, by kernel_rfl, by kernel_rfl, by decide⟩

/-! ### function 13: outrider/outriderref21.New -/
def L13 : LCode :=
 .seq (.region [⟨some 4, .new 40 3 [.int .i64 0, .int .i64 0, .slice none 0 0], none⟩,
  ⟨some 5, .move (.const (.int .i64 0)), none⟩])
 (.seq (.seq (.region [⟨some 6, .move (.tmp 0), none⟩,
  ⟨some 7, .bin .lss (.tmp 6) (.const (.int .i64 1)), none⟩,
  ⟨some 8, .move (.tmp 7), none⟩,
  ⟨some 9, .move (.tmp 0), (some (8, false))⟩,
  ⟨some 10, .bin .gtr (.tmp 9) (.const (.int .i64 64)), (some (8, false))⟩,
  ⟨some 11, .pick (.tmp 8) (.const (.bool true)) (.tmp 10), none⟩])
 (.cond (.tmp 11) (.seq (.region [⟨some 12, .build [.int .i64 0, .int .i64 0, .slice none 0 0] [], none⟩,
  ⟨none, .store 3 (.tmp 4) (.tmp 12), none⟩,
  ⟨some 5, .move (.const (.int .i64 130)), none⟩])
 (.ret))
 (.skip)))
 (.seq (.seq (.region [⟨some 13, .move (.tmp 1), none⟩,
  ⟨some 14, .bin .lss (.tmp 13) (.const (.int .i64 1)), none⟩,
  ⟨some 15, .move (.tmp 14), none⟩,
  ⟨some 16, .move (.tmp 1), (some (15, false))⟩,
  ⟨some 17, .bin .gtr (.tmp 16) (.const (.int .i64 512)), (some (15, false))⟩,
  ⟨some 18, .pick (.tmp 15) (.const (.bool true)) (.tmp 17), none⟩])
 (.cond (.tmp 18) (.seq (.region [⟨some 19, .build [.int .i64 0, .int .i64 0, .slice none 0 0] [], none⟩,
  ⟨none, .store 3 (.tmp 4) (.tmp 19), none⟩,
  ⟨some 5, .move (.const (.int .i64 161)), none⟩])
 (.ret))
 (.skip)))
 (.seq (.region [⟨some 20, .move (.tmp 0), none⟩,
  ⟨some 21, .move (.tmp 1), none⟩,
  ⟨some 22, .build [.int .i64 0, .int .i64 0, .slice none 0 0] [(0, 1, .tmp 20), (1, 1, .tmp 21)], none⟩,
  ⟨none, .store 3 (.tmp 4) (.tmp 22), none⟩,
  ⟨some 5, .move (.const (.int .i64 0)), none⟩])
 (.ret))))
theorem light13 : Light Try.prog 13 2 23 L13 [.cell 4 true 3, .tmp 5] :=
  ⟨Try.f13, _, Try.func13, rfl, rfl, by kernel_rfl, by kernel_rfl, by decide⟩

/-! ### function 14: outrider/outriderlaw21.one -/
def L14 : LCode :=
 .seq (.region [⟨some 4, .box 40 3 (.tmp 1), none⟩,
  ⟨some 5, .box 28 4 (.tmp 2), none⟩,
  ⟨some 6, .new 40 3 [.int .i64 0, .int .i64 0, .slice none 0 0], none⟩,
  ⟨some 7, .move (.const (.bool false)), none⟩])
 (.seq (.seq (.region [⟨some 20, .off 0 (.tmp 5), none⟩,
  ⟨some 21, .load false 1 (.tmp 20), none⟩,
  ⟨some 22, .call 7 [.tmp 21], none⟩])
 (.block 0 (.seq (.region [⟨some 24, .bin .eql (.tmp 22) (.const (.int .i64 3)), none⟩,
  ⟨some 23, .move (.tmp 24), none⟩])
 (.cond (.tmp 23) (.seq (.region [⟨some 26, .move (.tmp 0), none⟩,
  ⟨some 27, .off 1 (.tmp 5), none⟩,
  ⟨some 28, .load false 1 (.tmp 27), none⟩,
  ⟨some 29, .off 2 (.tmp 5), none⟩,
  ⟨some 30, .load false 1 (.tmp 29), none⟩,
  ⟨some 31, .call 11 [.tmp 26, .tmp 28, .tmp 30], none⟩,
  ⟨some 25, .move (.tmp 31), none⟩,
  ⟨some 32, .extract (.tmp 25) 0, none⟩,
  ⟨some 33, .extract (.tmp 25) 1, none⟩,
  ⟨some 8, .new 33 2 [.int .i64 0, .int .i64 0], none⟩,
  ⟨none, .store 2 (.tmp 8) (.tmp 32), none⟩,
  ⟨some 9, .move (.tmp 33), none⟩])
 (.seq (.region [⟨some 35, .load true 3 (.tmp 4), none⟩,
  ⟨some 36, .off 1 (.tmp 5), none⟩,
  ⟨some 37, .load false 1 (.tmp 36), none⟩,
  ⟨some 38, .off 2 (.tmp 5), none⟩,
  ⟨some 39, .load false 1 (.tmp 38), none⟩,
  ⟨some 40, .call 24 [.tmp 35, .tmp 37, .tmp 39], none⟩,
  ⟨some 34, .move (.tmp 40), none⟩,
  ⟨some 41, .extract (.tmp 34) 0, none⟩,
  ⟨some 42, .extract (.tmp 34) 1, none⟩,
  ⟨some 10, .new 71 3 [.int .i64 0, .int .i64 0, .int .i64 0], none⟩,
  ⟨none, .store 3 (.tmp 10) (.tmp 41), none⟩,
  ⟨some 11, .move (.tmp 42), none⟩])
 (.seq (.draw [⟨⟨some 43, .load true 3 (.tmp 4), none⟩, .read, 0, 0⟩,
  ⟨⟨some 44, .move (.tmp 9), none⟩, .pure, 0, 0⟩,
  ⟨⟨some 45, .move (.tmp 11), none⟩, .pure, 0, 0⟩,
  ⟨⟨some 46, .eqB false (.tmp 44) (.tmp 45), none⟩, .pure, 0, 0⟩,
  ⟨⟨some 47, .move (.tmp 46), none⟩, .pure, 0, 0⟩,
  ⟨⟨some 48, .off 0 (.tmp 8), (some (47, true))⟩, .pure, 0, 0⟩,
  ⟨⟨some 49, .load false 1 (.tmp 48), (some (47, true))⟩, .read, 0, 0⟩,
  ⟨⟨some 50, .off 1 (.tmp 10), (some (47, true))⟩, .pure, 0, 0⟩,
  ⟨⟨some 51, .load false 1 (.tmp 50), (some (47, true))⟩, .read, 0, 0⟩,
  ⟨⟨some 52, .bin .eql (.tmp 49) (.tmp 51), (some (47, true))⟩, .pure, 0, 0⟩,
  ⟨⟨some 53, .pick (.tmp 47) (.tmp 52) (.const (.bool false)), none⟩, .pure, 0, 0⟩,
  ⟨⟨some 54, .move (.tmp 53), none⟩, .pure, 0, 0⟩,
  ⟨⟨some 55, .off 1 (.tmp 8), (some (54, true))⟩, .pure, 0, 1⟩,
  ⟨⟨some 56, .load false 1 (.tmp 55), (some (54, true))⟩, .read, 0, 1⟩,
  ⟨⟨some 57, .off 2 (.tmp 10), (some (54, true))⟩, .pure, 0, 1⟩,
  ⟨⟨some 58, .load false 1 (.tmp 57), (some (54, true))⟩, .read, 0, 1⟩,
  ⟨⟨some 59, .bin .eql (.tmp 56) (.tmp 58), (some (54, true))⟩, .pure, 0, 1⟩,
  ⟨⟨some 60, .pick (.tmp 54) (.tmp 59) (.const (.bool false)), none⟩, .pure, 0, 1⟩,
  ⟨⟨none, .store 3 (.tmp 6) (.tmp 43), none⟩, .heavy, 0, 1⟩,
  ⟨⟨some 7, .move (.tmp 60), none⟩, .pure, 1, 1⟩])
 (.ret))))
 (.seq (.region [⟨some 62, .bin .eql (.tmp 22) (.const (.int .i64 4)), none⟩,
  ⟨some 61, .move (.tmp 62), none⟩])
 (.cond (.tmp 61) (.seq (.region [⟨some 64, .move (.tmp 0), none⟩,
  ⟨some 65, .off 1 (.tmp 5), none⟩,
  ⟨some 66, .load false 1 (.tmp 65), none⟩,
  ⟨some 67, .off 2 (.tmp 5), none⟩,
  ⟨some 68, .load false 1 (.tmp 67), none⟩,
  ⟨some 69, .call 25 [.tmp 64, .tmp 66, .tmp 68], none⟩,
  ⟨some 63, .move (.tmp 69), none⟩,
  ⟨some 70, .extract (.tmp 63) 0, none⟩,
  ⟨some 71, .extract (.tmp 63) 1, none⟩,
  ⟨some 12, .move (.tmp 70), none⟩,
  ⟨some 13, .move (.tmp 71), none⟩])
 (.seq (.region [⟨some 72, .load true 3 (.tmp 4), none⟩,
  ⟨some 73, .off 1 (.tmp 5), none⟩,
  ⟨some 74, .load false 1 (.tmp 73), none⟩,
  ⟨some 75, .off 2 (.tmp 5), none⟩,
  ⟨some 76, .load false 1 (.tmp 75), none⟩,
  ⟨some 77, .call 26 [.tmp 72, .tmp 74, .tmp 76], none⟩,
  ⟨some 14, .move (.tmp 77), none⟩])
 (.seq (.seq (.region [⟨some 78, .move (.tmp 14), none⟩,
  ⟨some 79, .bin .lss (.tmp 78) (.const (.int .i64 0)), none⟩])
 (.cond (.tmp 79) (.seq (.region [⟨some 80, .load true 3 (.tmp 4), none⟩,
  ⟨some 81, .move (.tmp 13), none⟩,
  ⟨some 82, .un .not (.tmp 81), none⟩,
  ⟨some 83, .move (.tmp 82), none⟩,
  ⟨some 84, .move (.tmp 12), (some (83, true))⟩,
  ⟨some 85, .bin .eql (.tmp 84) (.const (.int .i64 0)), (some (83, true))⟩,
  ⟨some 86, .pick (.tmp 83) (.tmp 85) (.const (.bool false)), none⟩,
  ⟨none, .store 3 (.tmp 6) (.tmp 80), none⟩,
  ⟨some 7, .move (.tmp 86), none⟩])
 (.ret))
 (.skip)))
 (.seq (.draw [⟨⟨some 87, .load true 3 (.tmp 4), none⟩, .read, 0, 0⟩,
  ⟨⟨some 88, .move (.tmp 13), none⟩, .pure, 0, 0⟩,
  ⟨⟨some 89, .move (.tmp 88), none⟩, .pure, 0, 0⟩,
  ⟨⟨some 90, .move (.tmp 12), (some (89, true))⟩, .pure, 0, 1⟩,
  ⟨⟨some 91, .off 2 (.tmp 4), (some (89, true))⟩, .pure, 0, 1⟩,
  ⟨⟨some 92, .load false 1 (.tmp 91), (some (89, true))⟩, .read, 0, 1⟩,
  ⟨⟨some 93, .move (.tmp 14), (some (89, true))⟩, .pure, 0, 1⟩,
  ⟨⟨some 94, .idx 3 (.tmp 92) (.tmp 93), (some (89, true))⟩, .pure, 0, 1⟩,
  ⟨⟨some 95, .off 2 (.tmp 94), (some (89, true))⟩, .pure, 0, 1⟩,
  ⟨⟨some 96, .load false 1 (.tmp 95), (some (89, true))⟩, .read, 0, 1⟩,
  ⟨⟨some 97, .bin .eql (.tmp 90) (.tmp 96), (some (89, true))⟩, .pure, 0, 1⟩,
  ⟨⟨some 98, .pick (.tmp 89) (.tmp 97) (.const (.bool false)), none⟩, .pure, 0, 1⟩,
  ⟨⟨none, .store 3 (.tmp 6) (.tmp 87), none⟩, .heavy, 0, 1⟩,
  ⟨⟨some 7, .move (.tmp 98), none⟩, .pure, 1, 1⟩])
 (.ret)))))
 (.seq (.region [⟨some 100, .bin .eql (.tmp 22) (.const (.int .i64 5)), none⟩,
  ⟨some 99, .move (.tmp 100), none⟩])
 (.cond (.tmp 99) (.seq (.region [⟨some 101, .load true 3 (.tmp 4), none⟩,
  ⟨some 102, .off 1 (.tmp 5), none⟩,
  ⟨some 103, .load false 1 (.tmp 102), none⟩,
  ⟨some 104, .off 2 (.tmp 5), none⟩,
  ⟨some 105, .load false 1 (.tmp 104), none⟩,
  ⟨some 106, .call 26 [.tmp 101, .tmp 103, .tmp 105], none⟩,
  ⟨some 107, .bin .geq (.tmp 106) (.const (.int .i64 0)), none⟩,
  ⟨some 15, .move (.tmp 107), none⟩])
 (.seq (.seq (.region [⟨some 108, .move (.tmp 15), none⟩])
 (.cond (.tmp 108) (.region [⟨some 110, .load true 3 (.tmp 4), none⟩,
  ⟨some 111, .off 1 (.tmp 5), none⟩,
  ⟨some 112, .load false 1 (.tmp 111), none⟩,
  ⟨some 113, .off 2 (.tmp 5), none⟩,
  ⟨some 114, .load false 1 (.tmp 113), none⟩,
  ⟨some 115, .call 27 [.tmp 110, .tmp 112, .tmp 114], none⟩,
  ⟨some 109, .move (.tmp 115), none⟩,
  ⟨some 116, .extract (.tmp 109) 0, none⟩,
  ⟨some 117, .extract (.tmp 109) 1, none⟩,
  ⟨none, .store 3 (.tmp 4) (.tmp 116), none⟩])
 (.skip)))
 (.seq (.draw [⟨⟨some 118, .load true 3 (.tmp 4), none⟩, .read, 0, 1⟩,
  ⟨⟨some 119, .move (.tmp 0), none⟩, .pure, 0, 0⟩,
  ⟨⟨some 120, .off 1 (.tmp 5), none⟩, .pure, 0, 0⟩,
  ⟨⟨some 121, .load false 1 (.tmp 120), none⟩, .read, 0, 0⟩,
  ⟨⟨some 122, .off 2 (.tmp 5), none⟩, .pure, 0, 0⟩,
  ⟨⟨some 123, .load false 1 (.tmp 122), none⟩, .read, 0, 0⟩,
  ⟨⟨some 124, .call 9 [.tmp 119, .tmp 121, .tmp 123], none⟩, .heavy, 0, 1⟩,
  ⟨⟨some 125, .move (.tmp 15), none⟩, .pure, 0, 2⟩,
  ⟨⟨some 126, .eqB false (.tmp 124) (.tmp 125), none⟩, .pure, 1, 2⟩,
  ⟨⟨none, .store 3 (.tmp 6) (.tmp 118), none⟩, .heavy, 1, 2⟩,
  ⟨⟨some 7, .move (.tmp 126), none⟩, .pure, 2, 2⟩])
 (.ret))))
 (.seq (.region [⟨some 128, .bin .eql (.tmp 22) (.const (.int .i64 6)), none⟩,
  ⟨some 127, .move (.tmp 128), none⟩])
 (.cond (.tmp 127) (.seq (.region [⟨some 130, .load true 3 (.tmp 4), none⟩,
  ⟨some 131, .off 2 (.tmp 5), none⟩,
  ⟨some 132, .load false 1 (.tmp 131), none⟩,
  ⟨some 133, .call 27 [.tmp 130, .const (.int .i64 (-1)), .tmp 132], none⟩,
  ⟨some 129, .move (.tmp 133), none⟩,
  ⟨some 134, .extract (.tmp 129) 0, none⟩,
  ⟨some 135, .extract (.tmp 129) 1, none⟩,
  ⟨some 16, .new 40 3 [.int .i64 0, .int .i64 0, .slice none 0 0], none⟩,
  ⟨none, .store 3 (.tmp 16) (.tmp 134), none⟩,
  ⟨some 17, .move (.tmp 135), none⟩])
 (.seq (.draw [⟨⟨some 136, .load true 3 (.tmp 16), none⟩, .read, 0, 1⟩,
  ⟨⟨some 137, .move (.tmp 0), none⟩, .pure, 0, 0⟩,
  ⟨⟨some 138, .off 2 (.tmp 5), none⟩, .pure, 0, 0⟩,
  ⟨⟨some 139, .load false 1 (.tmp 138), none⟩, .read, 0, 0⟩,
  ⟨⟨some 140, .call 10 [.tmp 137, .tmp 139], none⟩, .heavy, 0, 1⟩,
  ⟨⟨some 141, .move (.tmp 17), none⟩, .pure, 0, 2⟩,
  ⟨⟨some 142, .bin .eql (.tmp 140) (.tmp 141), none⟩, .pure, 1, 2⟩,
  ⟨⟨none, .store 3 (.tmp 6) (.tmp 136), none⟩, .heavy, 1, 2⟩,
  ⟨⟨some 7, .move (.tmp 142), none⟩, .pure, 2, 2⟩])
 (.ret)))
 (.skip)))))))))))
 (.seq (.region [⟨some 144, .load true 3 (.tmp 4), none⟩,
  ⟨some 145, .off 1 (.tmp 5), none⟩,
  ⟨some 146, .load false 1 (.tmp 145), none⟩,
  ⟨some 147, .off 2 (.tmp 5), none⟩,
  ⟨some 148, .load false 1 (.tmp 147), none⟩,
  ⟨some 149, .off 3 (.tmp 5), none⟩,
  ⟨some 150, .load false 1 (.tmp 149), none⟩,
  ⟨some 151, .call 28 [.tmp 144, .tmp 146, .tmp 148, .tmp 150], none⟩,
  ⟨some 143, .move (.tmp 151), none⟩,
  ⟨some 152, .extract (.tmp 143) 0, none⟩,
  ⟨some 153, .extract (.tmp 143) 1, none⟩,
  ⟨some 18, .new 40 3 [.int .i64 0, .int .i64 0, .slice none 0 0], none⟩,
  ⟨none, .store 3 (.tmp 18) (.tmp 152), none⟩,
  ⟨some 19, .move (.tmp 153), none⟩])
 (.seq (.draw [⟨⟨some 154, .load true 3 (.tmp 18), none⟩, .read, 0, 1⟩,
  ⟨⟨some 155, .move (.tmp 0), none⟩, .pure, 0, 0⟩,
  ⟨⟨some 156, .off 1 (.tmp 5), none⟩, .pure, 0, 0⟩,
  ⟨⟨some 157, .load false 1 (.tmp 156), none⟩, .read, 0, 0⟩,
  ⟨⟨some 158, .off 2 (.tmp 5), none⟩, .pure, 0, 0⟩,
  ⟨⟨some 159, .load false 1 (.tmp 158), none⟩, .read, 0, 0⟩,
  ⟨⟨some 160, .off 3 (.tmp 5), none⟩, .pure, 0, 0⟩,
  ⟨⟨some 161, .load false 1 (.tmp 160), none⟩, .read, 0, 0⟩,
  ⟨⟨some 162, .call 8 [.tmp 155, .tmp 157, .tmp 159, .tmp 161], none⟩, .heavy, 0, 1⟩,
  ⟨⟨some 163, .move (.tmp 19), none⟩, .pure, 0, 2⟩,
  ⟨⟨some 164, .bin .eql (.tmp 162) (.tmp 163), none⟩, .pure, 1, 2⟩,
  ⟨⟨none, .store 3 (.tmp 6) (.tmp 154), none⟩, .heavy, 1, 2⟩,
  ⟨⟨some 7, .move (.tmp 164), none⟩, .pure, 2, 2⟩])
 (.ret))))
theorem light14 : Light Try.prog 14 3 165 L14 [.cell 6 true 3, .tmp 7] :=
  ⟨Try.f14, _, Try.func14, rfl, rfl, by kernel_rfl, by kernel_rfl, by decide⟩

/-! ### function 15: (*outrider/ver.Store).Live -/
def L15 : LCode :=
 .seq (.region [⟨some 2, .move (.const (.int .i64 0)), none⟩])
 (.seq (.region [⟨some 3, .move (.tmp 0), none⟩,
  ⟨some 4, .nilCheck (.tmp 3), none⟩,
  ⟨some 5, .off 0 (.tmp 4), none⟩,
  ⟨some 6, .off 0 (.tmp 5), none⟩,
  ⟨some 7, .load false 1 (.tmp 6), none⟩,
  ⟨some 8, .call 29 [.tmp 7], none⟩,
  ⟨some 2, .move (.tmp 8), none⟩])
 (.ret))
theorem light15 : Light Try.prog 15 1 9 L15 [.tmp 2] :=
  ⟨Try.f15, _, Try.func15, rfl, rfl, by kernel_rfl, by kernel_rfl, by decide⟩

/-! ### function 16: (*outrider/ver.Store).Chain -/
def L16_1 : LCode :=
 .seq (.region [⟨some 21, .bin .lss (.tmp 20) (.tmp 19), none⟩])
 (.seq (.cond (.tmp 21) (.skip)
 (.exit 0))
 (.seq (.block 1 (.seq (.region [⟨some 22, .idx 2 (.tmp 18) (.tmp 20), none⟩,
  ⟨some 23, .load true 2 (.tmp 22), none⟩,
  ⟨some 7, .new 65 2 [.int .i64 0, .int .i64 0], none⟩,
  ⟨none, .store 2 (.tmp 7) (.tmp 23), none⟩])
 (.draw [⟨⟨some 24, .move (.tmp 5), none⟩, .pure, 0, 1⟩,
  ⟨⟨some 25, .off 0 (.tmp 7), none⟩, .pure, 0, 0⟩,
  ⟨⟨some 26, .load false 1 (.tmp 25), none⟩, .read, 0, 0⟩,
  ⟨⟨some 27, .move (.tmp 0), none⟩, .pure, 0, 0⟩,
  ⟨⟨some 28, .nilCheck (.tmp 27), none⟩, .pure, 0, 0⟩,
  ⟨⟨some 29, .off 0 (.tmp 28), none⟩, .pure, 0, 0⟩,
  ⟨⟨some 30, .off 1 (.tmp 29), none⟩, .pure, 0, 0⟩,
  ⟨⟨some 31, .load false 1 (.tmp 30), none⟩, .read, 0, 0⟩,
  ⟨⟨some 32, .off 1 (.tmp 7), none⟩, .pure, 0, 0⟩,
  ⟨⟨some 33, .load false 1 (.tmp 32), none⟩, .read, 0, 0⟩,
  ⟨⟨some 34, .idx 1 (.tmp 31) (.tmp 33), none⟩, .pure, 0, 0⟩,
  ⟨⟨some 35, .load false 1 (.tmp 34), none⟩, .read, 0, 0⟩,
  ⟨⟨some 36, .build [.int .i64 0, .int .i64 0] [(0, 1, .tmp 26), (1, 1, .tmp 35)], none⟩, .pure, 0, 0⟩,
  ⟨⟨some 37, .buildSlice 33 2 1 [.int .i64 0, .int .i64 0] [(0, 2, .tmp 36)], none⟩, .heavy, 0, 1⟩,
  ⟨⟨some 38, .append 33 2 16 (.tmp 24) (.tmp 37), none⟩, .heavy, 1, 2⟩,
  ⟨⟨some 5, .move (.tmp 38), none⟩, .pure, 2, 2⟩])))
 (.region [⟨some 39, .bin .add (.tmp 20) (.const (.int .i64 1)), none⟩,
  ⟨some 20, .move (.tmp 39), none⟩])))
def L16 : LCode :=
 .seq (.region [⟨some 4, .move (.const (.slice none 0 0)), none⟩])
 (.seq (.seq (.region [⟨some 8, .move (.tmp 0), none⟩,
  ⟨some 9, .move (.tmp 1), none⟩,
  ⟨some 10, .call 19 [.tmp 8, .tmp 9], none⟩,
  ⟨some 11, .un .not (.tmp 10), none⟩])
 (.cond (.tmp 11) (.seq (.region [⟨some 4, .move (.const (.slice none 0 0)), none⟩])
 (.ret))
 (.skip)))
 (.seq (.region [⟨some 5, .move (.const (.slice none 0 0)), none⟩])
 (.seq (.seq (.region [⟨some 12, .move (.tmp 0), none⟩,
  ⟨some 13, .nilCheck (.tmp 12), none⟩,
  ⟨some 14, .off 2 (.tmp 13), none⟩,
  ⟨some 15, .load false 1 (.tmp 14), none⟩,
  ⟨some 16, .move (.tmp 1), none⟩,
  ⟨some 17, .idx 1 (.tmp 15) (.tmp 16), none⟩,
  ⟨some 18, .load false 1 (.tmp 17), none⟩,
  ⟨some 19, .len (.tmp 18), none⟩,
  ⟨some 20, .move (.const (.int .i64 0)), none⟩])
 (.block 0 (.loop L16_1)))
 (.seq (.region [⟨some 40, .move (.tmp 5), none⟩,
  ⟨some 4, .move (.tmp 40), none⟩])
 (.ret)))))
theorem light16 : Light Try.prog 16 2 41 L16 [.tmp 4] :=
  ⟨Try.f16, _, Try.func16, rfl, rfl, by kernel_rfl, by kernel_rfl, by decide⟩

/-! ### function 17: outrider/outriderlaw21.same -/
def L17_1 : LCode :=
 .seq (.seq (.region [⟨some 38, .move (.tmp 7), none⟩,
  ⟨some 39, .move (.tmp 5), none⟩,
  ⟨some 40, .len (.tmp 39), none⟩,
  ⟨some 41, .bin .lss (.tmp 38) (.tmp 40), none⟩])
 (.cond (.tmp 41) (.skip)
 (.exit 0)))
 (.seq (.block 1 (.seq (.draw [⟨⟨some 44, .move (.tmp 5), none⟩, .pure, 0, 0⟩,
  ⟨⟨some 45, .move (.tmp 7), none⟩, .pure, 0, 0⟩,
  ⟨⟨some 46, .idx 1 (.tmp 44) (.tmp 45), none⟩, .pure, 0, 0⟩,
  ⟨⟨some 47, .load false 1 (.tmp 46), none⟩, .read, 0, 0⟩,
  ⟨⟨some 48, .move (.tmp 6), none⟩, .pure, 0, 0⟩,
  ⟨⟨some 49, .move (.tmp 7), none⟩, .pure, 0, 0⟩,
  ⟨⟨some 50, .idx 1 (.tmp 48) (.tmp 49), none⟩, .pure, 0, 0⟩,
  ⟨⟨some 51, .load false 1 (.tmp 50), none⟩, .read, 0, 0⟩,
  ⟨⟨some 52, .bin .neq (.tmp 47) (.tmp 51), none⟩, .pure, 0, 0⟩,
  ⟨⟨some 53, .move (.tmp 52), none⟩, .pure, 0, 0⟩,
  ⟨⟨some 54, .move (.tmp 0), (some (53, false))⟩, .pure, 0, 0⟩,
  ⟨⟨some 55, .move (.tmp 5), (some (53, false))⟩, .pure, 0, 0⟩,
  ⟨⟨some 56, .move (.tmp 7), (some (53, false))⟩, .pure, 0, 0⟩,
  ⟨⟨some 57, .idx 1 (.tmp 55) (.tmp 56), (some (53, false))⟩, .pure, 0, 0⟩,
  ⟨⟨some 58, .load false 1 (.tmp 57), (some (53, false))⟩, .read, 0, 0⟩,
  ⟨⟨some 59, .call 32 [.tmp 54, .tmp 58], (some (53, false))⟩, .heavy, 0, 1⟩,
  ⟨⟨some 60, .load true 3 (.tmp 3), (some (53, false))⟩, .read, 0, 1⟩,
  ⟨⟨some 61, .move (.tmp 5), (some (53, false))⟩, .pure, 0, 1⟩,
  ⟨⟨some 62, .move (.tmp 7), (some (53, false))⟩, .pure, 0, 1⟩,
  ⟨⟨some 63, .idx 1 (.tmp 61) (.tmp 62), (some (53, false))⟩, .pure, 0, 1⟩,
  ⟨⟨some 64, .load false 1 (.tmp 63), (some (53, false))⟩, .read, 0, 1⟩,
  ⟨⟨some 65, .call 33 [.tmp 60, .tmp 64], (some (53, false))⟩, .heavy, 1, 2⟩,
  ⟨⟨some 66, .bin .neq (.tmp 59) (.tmp 65), (some (53, false))⟩, .pure, 2, 2⟩,
  ⟨⟨some 67, .pick (.tmp 53) (.const (.bool true)) (.tmp 66), none⟩, .pure, 2, 2⟩])
 (.cond (.tmp 67) (.seq (.region [⟨some 4, .move (.const (.bool false)), none⟩])
 (.ret))
 (.skip))))
 (.region [⟨some 42, .move (.tmp 7), none⟩,
  ⟨some 43, .bin .add (.tmp 42) (.const (.int .i64 1)), none⟩,
  ⟨some 7, .move (.tmp 43), none⟩]))
def L17_2 : LCode :=
 .seq (.seq (.region [⟨some 85, .move (.tmp 11), none⟩,
  ⟨some 86, .move (.tmp 9), none⟩,
  ⟨some 87, .len (.tmp 86), none⟩,
  ⟨some 88, .bin .lss (.tmp 85) (.tmp 87), none⟩])
 (.cond (.tmp 88) (.skip)
 (.exit 4)))
 (.seq (.block 5 (.seq (.draw [⟨⟨some 91, .move (.tmp 9), none⟩, .pure, 0, 0⟩,
  ⟨⟨some 92, .move (.tmp 11), none⟩, .pure, 0, 0⟩,
  ⟨⟨some 93, .idx 2 (.tmp 91) (.tmp 92), none⟩, .pure, 0, 0⟩,
  ⟨⟨some 94, .off 0 (.tmp 93), none⟩, .pure, 0, 0⟩,
  ⟨⟨some 95, .load false 1 (.tmp 94), none⟩, .read, 0, 0⟩,
  ⟨⟨some 96, .move (.tmp 10), none⟩, .pure, 0, 0⟩,
  ⟨⟨some 97, .move (.tmp 11), none⟩, .pure, 0, 0⟩,
  ⟨⟨some 98, .idx 3 (.tmp 96) (.tmp 97), none⟩, .pure, 0, 0⟩,
  ⟨⟨some 99, .off 1 (.tmp 98), none⟩, .pure, 0, 0⟩,
  ⟨⟨some 100, .load false 1 (.tmp 99), none⟩, .read, 0, 0⟩,
  ⟨⟨some 101, .bin .neq (.tmp 95) (.tmp 100), none⟩, .pure, 0, 0⟩,
  ⟨⟨some 102, .move (.tmp 101), none⟩, .pure, 0, 0⟩,
  ⟨⟨some 103, .move (.tmp 9), (some (102, false))⟩, .pure, 0, 0⟩,
  ⟨⟨some 104, .move (.tmp 11), (some (102, false))⟩, .pure, 0, 0⟩,
  ⟨⟨some 105, .idx 2 (.tmp 103) (.tmp 104), (some (102, false))⟩, .pure, 0, 0⟩,
  ⟨⟨some 106, .off 1 (.tmp 105), (some (102, false))⟩, .pure, 0, 0⟩,
  ⟨⟨some 107, .load false 1 (.tmp 106), (some (102, false))⟩, .read, 0, 0⟩,
  ⟨⟨some 108, .move (.tmp 10), (some (102, false))⟩, .pure, 0, 0⟩,
  ⟨⟨some 109, .move (.tmp 11), (some (102, false))⟩, .pure, 0, 0⟩,
  ⟨⟨some 110, .idx 3 (.tmp 108) (.tmp 109), (some (102, false))⟩, .pure, 0, 0⟩,
  ⟨⟨some 111, .off 2 (.tmp 110), (some (102, false))⟩, .pure, 0, 0⟩,
  ⟨⟨some 112, .load false 1 (.tmp 111), (some (102, false))⟩, .read, 0, 0⟩,
  ⟨⟨some 113, .bin .neq (.tmp 107) (.tmp 112), (some (102, false))⟩, .pure, 0, 0⟩,
  ⟨⟨some 114, .pick (.tmp 102) (.const (.bool true)) (.tmp 113), none⟩, .pure, 0, 0⟩])
 (.cond (.tmp 114) (.seq (.region [⟨some 4, .move (.const (.bool false)), none⟩])
 (.ret))
 (.skip))))
 (.region [⟨some 89, .move (.tmp 11), none⟩,
  ⟨some 90, .bin .add (.tmp 89) (.const (.int .i64 1)), none⟩,
  ⟨some 11, .move (.tmp 90), none⟩]))
def L17_3 : LCode :=
 .seq (.seq (.region [⟨some 68, .move (.tmp 8), none⟩,
  ⟨some 69, .off 0 (.tmp 3), none⟩,
  ⟨some 70, .load false 1 (.tmp 69), none⟩,
  ⟨some 71, .bin .leq (.tmp 68) (.tmp 70), none⟩])
 (.cond (.tmp 71) (.skip)
 (.exit 2)))
 (.seq (.block 3 (.seq (.draw [⟨⟨some 74, .move (.tmp 0), none⟩, .pure, 0, 0⟩,
  ⟨⟨some 75, .move (.tmp 8), none⟩, .pure, 0, 0⟩,
  ⟨⟨some 76, .call 16 [.tmp 74, .tmp 75], none⟩, .heavy, 0, 1⟩,
  ⟨⟨some 77, .load true 3 (.tmp 3), none⟩, .read, 0, 1⟩,
  ⟨⟨some 78, .move (.tmp 8), none⟩, .pure, 0, 1⟩,
  ⟨⟨some 79, .call 34 [.tmp 77, .tmp 78], none⟩, .heavy, 1, 2⟩,
  ⟨⟨some 9, .move (.tmp 76), none⟩, .pure, 2, 2⟩,
  ⟨⟨some 10, .move (.tmp 79), none⟩, .pure, 2, 2⟩])
 (.seq (.seq (.region [⟨some 80, .move (.tmp 9), none⟩,
  ⟨some 81, .len (.tmp 80), none⟩,
  ⟨some 82, .move (.tmp 10), none⟩,
  ⟨some 83, .len (.tmp 82), none⟩,
  ⟨some 84, .bin .neq (.tmp 81) (.tmp 83), none⟩])
 (.cond (.tmp 84) (.seq (.region [⟨some 4, .move (.const (.bool false)), none⟩])
 (.ret))
 (.skip)))
 (.seq (.region [⟨some 11, .move (.const (.int .i64 0)), none⟩])
 (.block 4 (.loop L17_2))))))
 (.region [⟨some 72, .move (.tmp 8), none⟩,
  ⟨some 73, .bin .add (.tmp 72) (.const (.int .i64 1)), none⟩,
  ⟨some 8, .move (.tmp 73), none⟩]))
def L17 : LCode :=
 .seq (.region [⟨some 3, .box 40 3 (.tmp 1), none⟩,
  ⟨some 4, .move (.const (.bool false)), none⟩])
 (.seq (.seq (.draw [⟨⟨some 12, .move (.tmp 0), none⟩, .pure, 0, 0⟩,
  ⟨⟨some 13, .call 15 [.tmp 12], none⟩, .heavy, 0, 1⟩,
  ⟨⟨some 14, .off 2 (.tmp 3), none⟩, .pure, 0, 1⟩,
  ⟨⟨some 15, .load false 1 (.tmp 14), none⟩, .read, 0, 1⟩,
  ⟨⟨some 16, .len (.tmp 15), none⟩, .pure, 0, 1⟩,
  ⟨⟨some 17, .bin .neq (.tmp 13) (.tmp 16), none⟩, .pure, 1, 1⟩,
  ⟨⟨some 18, .move (.tmp 17), none⟩, .pure, 1, 1⟩,
  ⟨⟨some 19, .move (.tmp 0), (some (18, false))⟩, .pure, 1, 1⟩,
  ⟨⟨some 20, .call 23 [.tmp 19], (some (18, false))⟩, .heavy, 1, 2⟩,
  ⟨⟨some 21, .off 1 (.tmp 3), (some (18, false))⟩, .pure, 1, 2⟩,
  ⟨⟨some 22, .load false 1 (.tmp 21), (some (18, false))⟩, .read, 1, 2⟩,
  ⟨⟨some 23, .off 2 (.tmp 3), (some (18, false))⟩, .pure, 1, 2⟩,
  ⟨⟨some 24, .load false 1 (.tmp 23), (some (18, false))⟩, .read, 1, 2⟩,
  ⟨⟨some 25, .len (.tmp 24), (some (18, false))⟩, .pure, 1, 2⟩,
  ⟨⟨some 26, .bin .sub (.tmp 22) (.tmp 25), (some (18, false))⟩, .pure, 1, 2⟩,
  ⟨⟨some 27, .bin .neq (.tmp 20) (.tmp 26), (some (18, false))⟩, .pure, 2, 2⟩,
  ⟨⟨some 28, .pick (.tmp 18) (.const (.bool true)) (.tmp 27), none⟩, .pure, 2, 2⟩])
 (.cond (.tmp 28) (.seq (.region [⟨some 4, .move (.const (.bool false)), none⟩])
 (.ret))
 (.skip)))
 (.seq (.draw [⟨⟨some 29, .move (.tmp 0), none⟩, .pure, 0, 0⟩,
  ⟨⟨some 30, .call 30 [.tmp 29], none⟩, .heavy, 0, 1⟩,
  ⟨⟨some 31, .load true 3 (.tmp 3), none⟩, .read, 0, 1⟩,
  ⟨⟨some 32, .call 31 [.tmp 31], none⟩, .heavy, 1, 2⟩,
  ⟨⟨some 5, .move (.tmp 30), none⟩, .pure, 2, 2⟩,
  ⟨⟨some 6, .move (.tmp 32), none⟩, .pure, 2, 2⟩])
 (.seq (.seq (.region [⟨some 33, .move (.tmp 5), none⟩,
  ⟨some 34, .len (.tmp 33), none⟩,
  ⟨some 35, .move (.tmp 6), none⟩,
  ⟨some 36, .len (.tmp 35), none⟩,
  ⟨some 37, .bin .neq (.tmp 34) (.tmp 36), none⟩])
 (.cond (.tmp 37) (.seq (.region [⟨some 4, .move (.const (.bool false)), none⟩])
 (.ret))
 (.skip)))
 (.seq (.seq (.region [⟨some 7, .move (.const (.int .i64 0)), none⟩])
 (.block 0 (.loop L17_1)))
 (.seq (.seq (.region [⟨some 8, .move (.const (.int .i64 (-1))), none⟩])
 (.block 2 (.loop L17_3)))
 (.seq (.region [⟨some 4, .move (.const (.bool true)), none⟩])
 (.ret)))))))
theorem light17 : Light Try.prog 17 2 115 L17 [.tmp 4] :=
  ⟨Try.f17, _, Try.func17, rfl, rfl, by kernel_rfl, by kernel_rfl, by decide⟩

/-! ### function 18: outrider/arena.New -/
def L18_1 : LCode :=
 .seq (.seq (.region [⟨some 18, .move (.tmp 5), none⟩,
  ⟨some 19, .bin .geq (.tmp 18) (.const (.int .i64 0)), none⟩])
 (.cond (.tmp 19) (.skip)
 (.exit 0)))
 (.seq (.block 1 (.region [⟨some 22, .move (.tmp 4), none⟩,
  ⟨some 23, .move (.tmp 4), none⟩,
  ⟨some 24, .nilCheck (.tmp 23), none⟩,
  ⟨some 25, .off 0 (.tmp 24), none⟩,
  ⟨some 26, .load false 1 (.tmp 25), none⟩,
  ⟨some 27, .move (.tmp 5), none⟩,
  ⟨some 28, .buildSlice 3 1 1 [.int .i64 0] [(0, 1, .tmp 27)], none⟩,
  ⟨some 29, .append 3 1 8 (.tmp 26) (.tmp 28), none⟩,
  ⟨some 30, .nilCheck (.tmp 22), none⟩,
  ⟨some 31, .off 0 (.tmp 30), none⟩,
  ⟨none, .store 1 (.tmp 31) (.tmp 29), none⟩]))
 (.region [⟨some 20, .move (.tmp 5), none⟩,
  ⟨some 21, .bin .sub (.tmp 20) (.const (.int .i64 1)), none⟩,
  ⟨some 5, .move (.tmp 21), none⟩]))
def L18 : LCode :=
 .seq (.region [⟨some 2, .move (.const (.pointer none)), none⟩,
  ⟨some 3, .move (.const (.int .i64 0)), none⟩])
 (.seq (.seq (.region [⟨some 6, .move (.tmp 0), none⟩,
  ⟨some 7, .bin .lss (.tmp 6) (.const (.int .i64 1)), none⟩,
  ⟨some 8, .move (.tmp 7), none⟩,
  ⟨some 9, .move (.tmp 0), (some (8, false))⟩,
  ⟨some 10, .bin .gtr (.tmp 9) (.const (.int .i64 512)), (some (8, false))⟩,
  ⟨some 11, .pick (.tmp 8) (.const (.bool true)) (.tmp 10), none⟩])
 (.cond (.tmp 11) (.seq (.region [⟨some 2, .move (.const (.pointer none)), none⟩,
  ⟨some 3, .move (.const (.int .i64 161)), none⟩])
 (.ret))
 (.skip)))
 (.seq (.region [⟨some 12, .move (.tmp 0), none⟩,
  ⟨some 13, .make 4 1 1 [.bool false] (.tmp 12) (.tmp 12), none⟩,
  ⟨some 14, .build [.slice none 0 0, .slice none 0 0] [(1, 1, .tmp 13)], none⟩,
  ⟨some 15, .box 86 2 (.tmp 14), none⟩,
  ⟨some 4, .move (.tmp 15), none⟩])
 (.seq (.seq (.region [⟨some 16, .move (.tmp 0), none⟩,
  ⟨some 17, .bin .sub (.tmp 16) (.const (.int .i64 1)), none⟩,
  ⟨some 5, .move (.tmp 17), none⟩])
 (.block 0 (.loop L18_1)))
 (.seq (.region [⟨some 32, .move (.tmp 4), none⟩,
  ⟨some 2, .move (.tmp 32), none⟩,
  ⟨some 3, .move (.const (.int .i64 0)), none⟩])
 (.ret)))))
theorem light18 : Light Try.prog 18 1 33 L18 [.tmp 2, .tmp 3] :=
  ⟨Try.f18, _, Try.func18, rfl, rfl, by kernel_rfl, by kernel_rfl, by decide⟩

/-! ### function 19: (*outrider/ver.Store).inside -/
def L19 : LCode :=
 .seq (.region [⟨some 4, .move (.const (.bool false)), none⟩])
 (.seq (.region [⟨some 5, .move (.tmp 1), none⟩,
  ⟨some 6, .bin .geq (.tmp 5) (.const (.int .i64 0)), none⟩,
  ⟨some 7, .move (.tmp 6), none⟩,
  ⟨some 8, .move (.tmp 1), (some (7, true))⟩,
  ⟨some 9, .move (.tmp 0), (some (7, true))⟩,
  ⟨some 10, .nilCheck (.tmp 9), (some (7, true))⟩,
  ⟨some 11, .off 2 (.tmp 10), (some (7, true))⟩,
  ⟨some 12, .load false 1 (.tmp 11), (some (7, true))⟩,
  ⟨some 13, .len (.tmp 12), (some (7, true))⟩,
  ⟨some 14, .bin .lss (.tmp 8) (.tmp 13), (some (7, true))⟩,
  ⟨some 15, .pick (.tmp 7) (.tmp 14) (.const (.bool false)), none⟩,
  ⟨some 4, .move (.tmp 15), none⟩])
 (.ret))
theorem light19 : Light Try.prog 19 2 16 L19 [.tmp 4] :=
  ⟨Try.f19, _, Try.func19, rfl, rfl, by kernel_rfl, by kernel_rfl, by decide⟩

/-! ### function 20: (*outrider/ver.Store).place -/
def L20 : LCode :=
 .seq (.region [⟨some 5, .box 3 1 (.tmp 2), none⟩,
  ⟨some 6, .move (.const (.int .i64 0)), none⟩,
  ⟨some 7, .move (.const (.bool false)), none⟩])
 (.seq (.region [⟨some 10, .move (.tmp 0), none⟩,
  ⟨some 11, .nilCheck (.tmp 10), none⟩,
  ⟨some 12, .off 2 (.tmp 11), none⟩,
  ⟨some 13, .load false 1 (.tmp 12), none⟩,
  ⟨some 14, .move (.tmp 1), none⟩,
  ⟨some 15, .idx 1 (.tmp 13) (.tmp 14), none⟩,
  ⟨some 16, .load false 1 (.tmp 15), none⟩,
  ⟨some 8, .new 66 1 [.slice none 0 0], none⟩,
  ⟨none, .store 1 (.tmp 8) (.tmp 16), none⟩])
 (.seq (.region [⟨some 17, .load false 1 (.tmp 8), none⟩,
  ⟨some 18, .len (.tmp 17), none⟩,
  ⟨some 19, .func (.func 36) [] [.tmp 8, .tmp 5], none⟩,
  ⟨some 20, .call 35 [.tmp 18, .tmp 19], none⟩,
  ⟨some 9, .move (.tmp 20), none⟩])
 (.seq (.draw [⟨⟨some 21, .move (.tmp 9), none⟩, .pure, 0, 0⟩,
  ⟨⟨some 22, .move (.tmp 9), none⟩, .pure, 0, 0⟩,
  ⟨⟨some 23, .load false 1 (.tmp 8), none⟩, .read, 0, 0⟩,
  ⟨⟨some 24, .len (.tmp 23), none⟩, .pure, 0, 0⟩,
  ⟨⟨some 25, .bin .lss (.tmp 22) (.tmp 24), none⟩, .pure, 0, 0⟩,
  ⟨⟨some 26, .move (.tmp 25), none⟩, .pure, 0, 0⟩,
  ⟨⟨some 27, .load false 1 (.tmp 8), (some (26, true))⟩, .read, 0, 0⟩,
  ⟨⟨some 28, .move (.tmp 9), (some (26, true))⟩, .pure, 0, 0⟩,
  ⟨⟨some 29, .idx 2 (.tmp 27) (.tmp 28), (some (26, true))⟩, .pure, 0, 0⟩,
  ⟨⟨some 30, .off 0 (.tmp 29), (some (26, true))⟩, .pure, 0, 0⟩,
  ⟨⟨some 31, .load false 1 (.tmp 30), (some (26, true))⟩, .read, 0, 0⟩,
  ⟨⟨some 32, .load false 1 (.tmp 5), (some (26, true))⟩, .read, 0, 0⟩,
  ⟨⟨some 33, .bin .eql (.tmp 31) (.tmp 32), (some (26, true))⟩, .pure, 0, 0⟩,
  ⟨⟨some 34, .pick (.tmp 26) (.tmp 33) (.const (.bool false)), none⟩, .pure, 0, 0⟩,
  ⟨⟨some 6, .move (.tmp 21), none⟩, .pure, 0, 0⟩,
  ⟨⟨some 7, .move (.tmp 34), none⟩, .pure, 0, 0⟩])
 (.ret))))
theorem light20 : Light Try.prog 20 3 35 L20 [.tmp 6, .tmp 7] :=
  ⟨Try.f20, _, Try.func20, rfl, rfl, by kernel_rfl, by kernel_rfl, by decide⟩

/-! ### function 21: (*outrider/arena.Arena).Take -/
def L21 : LCode :=
 .seq (.region [⟨some 2, .move (.const (.int .i64 0)), none⟩,
  ⟨some 3, .move (.const (.int .i64 0)), none⟩])
 (.seq (.seq (.region [⟨some 5, .move (.tmp 0), none⟩,
  ⟨some 6, .nilCheck (.tmp 5), none⟩,
  ⟨some 7, .off 0 (.tmp 6), none⟩,
  ⟨some 8, .load false 1 (.tmp 7), none⟩,
  ⟨some 9, .len (.tmp 8), none⟩,
  ⟨some 10, .bin .eql (.tmp 9) (.const (.int .i64 0)), none⟩])
 (.cond (.tmp 10) (.seq (.region [⟨some 2, .move (.const (.int .i64 0)), none⟩,
  ⟨some 3, .move (.const (.int .i64 200)), none⟩])
 (.ret))
 (.skip)))
 (.seq (.draw [⟨⟨some 11, .move (.tmp 0), none⟩, .pure, 0, 0⟩,
  ⟨⟨some 12, .nilCheck (.tmp 11), none⟩, .pure, 0, 0⟩,
  ⟨⟨some 13, .off 0 (.tmp 12), none⟩, .pure, 0, 0⟩,
  ⟨⟨some 14, .load false 1 (.tmp 13), none⟩, .read, 0, 0⟩,
  ⟨⟨some 15, .move (.tmp 0), none⟩, .pure, 0, 0⟩,
  ⟨⟨some 16, .nilCheck (.tmp 15), none⟩, .pure, 0, 0⟩,
  ⟨⟨some 17, .off 0 (.tmp 16), none⟩, .pure, 0, 0⟩,
  ⟨⟨some 18, .load false 1 (.tmp 17), none⟩, .read, 0, 0⟩,
  ⟨⟨some 19, .len (.tmp 18), none⟩, .pure, 0, 0⟩,
  ⟨⟨some 20, .bin .sub (.tmp 19) (.const (.int .i64 1)), none⟩, .pure, 0, 0⟩,
  ⟨⟨some 21, .idx 1 (.tmp 14) (.tmp 20), none⟩, .pure, 0, 0⟩,
  ⟨⟨some 22, .load false 1 (.tmp 21), none⟩, .read, 0, 0⟩,
  ⟨⟨some 4, .move (.tmp 22), none⟩, .pure, 0, 0⟩])
 (.seq (.draw [⟨⟨some 23, .move (.tmp 0), none⟩, .pure, 0, 0⟩,
  ⟨⟨some 24, .move (.tmp 0), none⟩, .pure, 0, 0⟩,
  ⟨⟨some 25, .nilCheck (.tmp 24), none⟩, .pure, 0, 0⟩,
  ⟨⟨some 26, .off 0 (.tmp 25), none⟩, .pure, 0, 0⟩,
  ⟨⟨some 27, .load false 1 (.tmp 26), none⟩, .read, 0, 0⟩,
  ⟨⟨some 28, .move (.tmp 0), none⟩, .pure, 0, 0⟩,
  ⟨⟨some 29, .nilCheck (.tmp 28), none⟩, .pure, 0, 0⟩,
  ⟨⟨some 30, .off 0 (.tmp 29), none⟩, .pure, 0, 0⟩,
  ⟨⟨some 31, .load false 1 (.tmp 30), none⟩, .read, 0, 0⟩,
  ⟨⟨some 32, .len (.tmp 31), none⟩, .pure, 0, 0⟩,
  ⟨⟨some 33, .bin .sub (.tmp 32) (.const (.int .i64 1)), none⟩, .pure, 0, 0⟩,
  ⟨⟨some 34, .slice 1 (.tmp 27) none (some (.tmp 33)) none, none⟩, .pure, 0, 0⟩,
  ⟨⟨some 35, .nilCheck (.tmp 23), none⟩, .pure, 0, 0⟩,
  ⟨⟨some 36, .off 0 (.tmp 35), none⟩, .pure, 0, 0⟩,
  ⟨⟨none, .store 1 (.tmp 36) (.tmp 34), none⟩, .heavy, 0, 1⟩])
 (.seq (.region [⟨some 37, .move (.tmp 0), none⟩,
  ⟨some 38, .nilCheck (.tmp 37), none⟩,
  ⟨some 39, .off 1 (.tmp 38), none⟩,
  ⟨some 40, .load false 1 (.tmp 39), none⟩,
  ⟨some 41, .move (.tmp 4), none⟩,
  ⟨some 42, .idx 1 (.tmp 40) (.tmp 41), none⟩,
  ⟨none, .store 1 (.tmp 42) (.const (.bool true)), none⟩])
 (.seq (.region [⟨some 43, .move (.tmp 4), none⟩,
  ⟨some 2, .move (.tmp 43), none⟩,
  ⟨some 3, .move (.const (.int .i64 0)), none⟩])
 (.ret))))))
theorem light21 : Light Try.prog 21 1 44 L21 [.tmp 2, .tmp 3] :=
  ⟨Try.f21, _, Try.func21, rfl, rfl, by kernel_rfl, by kernel_rfl, by decide⟩

/-! ### function 22: (*outrider/arena.Arena).Back -/
def L22 : LCode :=
 .seq (.region [⟨some 4, .move (.const (.int .i64 0)), none⟩])
 (.seq (.seq (.region [⟨some 5, .move (.tmp 0), none⟩,
  ⟨some 6, .move (.tmp 1), none⟩,
  ⟨some 7, .call 37 [.tmp 5, .tmp 6], none⟩,
  ⟨some 8, .un .not (.tmp 7), none⟩])
 (.cond (.tmp 8) (.seq (.region [⟨some 4, .move (.const (.int .i64 201)), none⟩])
 (.ret))
 (.skip)))
 (.seq (.region [⟨some 9, .move (.tmp 0), none⟩,
  ⟨some 10, .nilCheck (.tmp 9), none⟩,
  ⟨some 11, .off 1 (.tmp 10), none⟩,
  ⟨some 12, .load false 1 (.tmp 11), none⟩,
  ⟨some 13, .move (.tmp 1), none⟩,
  ⟨some 14, .idx 1 (.tmp 12) (.tmp 13), none⟩,
  ⟨none, .store 1 (.tmp 14) (.const (.bool false)), none⟩])
 (.seq (.region [⟨some 15, .move (.tmp 0), none⟩,
  ⟨some 16, .move (.tmp 0), none⟩,
  ⟨some 17, .nilCheck (.tmp 16), none⟩,
  ⟨some 18, .off 0 (.tmp 17), none⟩,
  ⟨some 19, .load false 1 (.tmp 18), none⟩,
  ⟨some 20, .move (.tmp 1), none⟩,
  ⟨some 21, .buildSlice 3 1 1 [.int .i64 0] [(0, 1, .tmp 20)], none⟩,
  ⟨some 22, .append 3 1 8 (.tmp 19) (.tmp 21), none⟩,
  ⟨some 23, .nilCheck (.tmp 15), none⟩,
  ⟨some 24, .off 0 (.tmp 23), none⟩,
  ⟨none, .store 1 (.tmp 24) (.tmp 22), none⟩])
 (.seq (.region [⟨some 4, .move (.const (.int .i64 0)), none⟩])
 (.ret)))))
theorem light22 : Light Try.prog 22 2 25 L22 [.tmp 4] :=
  ⟨Try.f22, _, Try.func22, rfl, rfl, by kernel_rfl, by kernel_rfl, by decide⟩

/-! ### function 23: (*outrider/ver.Store).Free -/
def L23 : LCode :=
 .seq (.region [⟨some 2, .move (.const (.int .i64 0)), none⟩])
 (.seq (.region [⟨some 3, .move (.tmp 0), none⟩,
  ⟨some 4, .nilCheck (.tmp 3), none⟩,
  ⟨some 5, .off 0 (.tmp 4), none⟩,
  ⟨some 6, .off 0 (.tmp 5), none⟩,
  ⟨some 7, .load false 1 (.tmp 6), none⟩,
  ⟨some 8, .call 38 [.tmp 7], none⟩,
  ⟨some 2, .move (.tmp 8), none⟩])
 (.ret))
theorem light23 : Light Try.prog 23 1 9 L23 [.tmp 2] :=
  ⟨Try.f23, _, Try.func23, rfl, rfl, by kernel_rfl, by kernel_rfl, by decide⟩

/-! ### function 24: outrider/outriderref21.Older -/
def L24_1 : LCode :=
 .seq (.seq (.region [⟨some 13, .move (.tmp 10), none⟩,
  ⟨some 14, .off 2 (.tmp 3), none⟩,
  ⟨some 15, .load false 1 (.tmp 14), none⟩,
  ⟨some 16, .len (.tmp 15), none⟩,
  ⟨some 17, .bin .lss (.tmp 13) (.tmp 16), none⟩])
 (.cond (.tmp 17) (.skip)
 (.exit 0)))
 (.seq (.block 1 (.seq (.region [⟨some 20, .off 2 (.tmp 3), none⟩,
  ⟨some 21, .load false 1 (.tmp 20), none⟩,
  ⟨some 22, .move (.tmp 10), none⟩,
  ⟨some 23, .idx 3 (.tmp 21) (.tmp 22), none⟩,
  ⟨some 24, .load true 3 (.tmp 23), none⟩,
  ⟨some 11, .new 71 3 [.int .i64 0, .int .i64 0, .int .i64 0], none⟩,
  ⟨none, .store 3 (.tmp 11) (.tmp 24), none⟩])
 (.seq (.region [⟨some 25, .off 0 (.tmp 11), none⟩,
  ⟨some 26, .load false 1 (.tmp 25), none⟩,
  ⟨some 27, .move (.tmp 1), none⟩,
  ⟨some 28, .bin .eql (.tmp 26) (.tmp 27), none⟩,
  ⟨some 29, .move (.tmp 28), none⟩,
  ⟨some 30, .off 1 (.tmp 11), (some (29, true))⟩,
  ⟨some 31, .load false 1 (.tmp 30), (some (29, true))⟩,
  ⟨some 32, .move (.tmp 2), (some (29, true))⟩,
  ⟨some 33, .bin .lss (.tmp 31) (.tmp 32), (some (29, true))⟩,
  ⟨some 34, .pick (.tmp 29) (.tmp 33) (.const (.bool false)), none⟩,
  ⟨some 35, .move (.tmp 34), none⟩,
  ⟨some 36, .move (.tmp 9), (some (35, true))⟩,
  ⟨some 37, .un .not (.tmp 36), (some (35, true))⟩,
  ⟨some 38, .move (.tmp 37), (some (35, true))⟩,
  ⟨some 39, .off 1 (.tmp 11), (some (38, false))⟩,
  ⟨some 40, .load false 1 (.tmp 39), (some (38, false))⟩,
  ⟨some 41, .off 1 (.tmp 8), (some (38, false))⟩,
  ⟨some 42, .load false 1 (.tmp 41), (some (38, false))⟩,
  ⟨some 43, .bin .gtr (.tmp 40) (.tmp 42), (some (38, false))⟩,
  ⟨some 44, .pick (.tmp 38) (.const (.bool true)) (.tmp 43), (some (35, true))⟩,
  ⟨some 45, .pick (.tmp 35) (.tmp 44) (.const (.bool false)), none⟩])
 (.cond (.tmp 45) (.region [⟨some 46, .load true 3 (.tmp 11), none⟩,
  ⟨none, .store 3 (.tmp 8) (.tmp 46), none⟩,
  ⟨some 9, .move (.const (.bool true)), none⟩])
 (.skip)))))
 (.region [⟨some 18, .move (.tmp 10), none⟩,
  ⟨some 19, .bin .add (.tmp 18) (.const (.int .i64 1)), none⟩,
  ⟨some 10, .move (.tmp 19), none⟩]))
def L24 : LCode :=
 .seq (.region [⟨some 3, .box 40 3 (.tmp 0), none⟩,
  ⟨some 6, .new 71 3 [.int .i64 0, .int .i64 0, .int .i64 0], none⟩,
  ⟨some 7, .move (.const (.bool false)), none⟩])
 (.seq (.region [⟨some 12, .build [.int .i64 0, .int .i64 0, .int .i64 0] [], none⟩,
  ⟨some 8, .new 71 3 [.int .i64 0, .int .i64 0, .int .i64 0], none⟩,
  ⟨none, .store 3 (.tmp 8) (.tmp 12), none⟩])
 (.seq (.region [⟨some 9, .move (.const (.bool false)), none⟩])
 (.seq (.seq (.region [⟨some 10, .move (.const (.int .i64 0)), none⟩])
 (.block 0 (.loop L24_1)))
 (.seq (.region [⟨some 47, .load true 3 (.tmp 8), none⟩,
  ⟨some 48, .move (.tmp 9), none⟩,
  ⟨none, .store 3 (.tmp 6) (.tmp 47), none⟩,
  ⟨some 7, .move (.tmp 48), none⟩])
 (.ret)))))
theorem light24 : Light Try.prog 24 3 49 L24 [.cell 6 true 3, .tmp 7] :=
  ⟨Try.f24, _, Try.func24, rfl, rfl, by kernel_rfl, by kernel_rfl, by decide⟩

/-! ### function 25: (*outrider/ver.Store).Get -/
def L25 : LCode :=
 .seq (.region [⟨some 6, .move (.const (.int .i64 0)), none⟩,
  ⟨some 7, .move (.const (.bool false)), none⟩])
 (.seq (.seq (.region [⟨some 10, .move (.tmp 0), none⟩,
  ⟨some 11, .move (.tmp 1), none⟩,
  ⟨some 12, .call 19 [.tmp 10, .tmp 11], none⟩,
  ⟨some 13, .un .not (.tmp 12), none⟩])
 (.cond (.tmp 13) (.seq (.region [⟨some 6, .move (.const (.int .i64 0)), none⟩,
  ⟨some 7, .move (.const (.bool false)), none⟩])
 (.ret))
 (.skip)))
 (.seq (.region [⟨some 15, .move (.tmp 0), none⟩,
  ⟨some 16, .move (.tmp 1), none⟩,
  ⟨some 17, .move (.tmp 2), none⟩,
  ⟨some 18, .call 20 [.tmp 15, .tmp 16, .tmp 17], none⟩,
  ⟨some 14, .move (.tmp 18), none⟩,
  ⟨some 19, .extract (.tmp 14) 0, none⟩,
  ⟨some 20, .extract (.tmp 14) 1, none⟩,
  ⟨some 8, .move (.tmp 19), none⟩,
  ⟨some 9, .move (.tmp 20), none⟩])
 (.seq (.seq (.region [⟨some 21, .move (.tmp 9), none⟩,
  ⟨some 22, .un .not (.tmp 21), none⟩])
 (.cond (.tmp 22) (.seq (.region [⟨some 6, .move (.const (.int .i64 0)), none⟩,
  ⟨some 7, .move (.const (.bool false)), none⟩])
 (.ret))
 (.skip)))
 (.seq (.draw [⟨⟨some 23, .move (.tmp 0), none⟩, .pure, 0, 0⟩,
  ⟨⟨some 24, .nilCheck (.tmp 23), none⟩, .pure, 0, 0⟩,
  ⟨⟨some 25, .off 0 (.tmp 24), none⟩, .pure, 0, 0⟩,
  ⟨⟨some 26, .off 1 (.tmp 25), none⟩, .pure, 0, 0⟩,
  ⟨⟨some 27, .load false 1 (.tmp 26), none⟩, .read, 0, 0⟩,
  ⟨⟨some 28, .move (.tmp 0), none⟩, .pure, 0, 0⟩,
  ⟨⟨some 29, .nilCheck (.tmp 28), none⟩, .pure, 0, 0⟩,
  ⟨⟨some 30, .off 2 (.tmp 29), none⟩, .pure, 0, 0⟩,
  ⟨⟨some 31, .load false 1 (.tmp 30), none⟩, .read, 0, 0⟩,
  ⟨⟨some 32, .move (.tmp 1), none⟩, .pure, 0, 0⟩,
  ⟨⟨some 33, .idx 1 (.tmp 31) (.tmp 32), none⟩, .pure, 0, 0⟩,
  ⟨⟨some 34, .load false 1 (.tmp 33), none⟩, .read, 0, 0⟩,
  ⟨⟨some 35, .move (.tmp 8), none⟩, .pure, 0, 0⟩,
  ⟨⟨some 36, .idx 2 (.tmp 34) (.tmp 35), none⟩, .pure, 0, 0⟩,
  ⟨⟨some 37, .off 1 (.tmp 36), none⟩, .pure, 0, 0⟩,
  ⟨⟨some 38, .load false 1 (.tmp 37), none⟩, .read, 0, 0⟩,
  ⟨⟨some 39, .idx 1 (.tmp 27) (.tmp 38), none⟩, .pure, 0, 0⟩,
  ⟨⟨some 40, .load false 1 (.tmp 39), none⟩, .read, 0, 0⟩,
  ⟨⟨some 6, .move (.tmp 40), none⟩, .pure, 0, 0⟩,
  ⟨⟨some 7, .move (.const (.bool true)), none⟩, .pure, 0, 0⟩])
 (.ret)))))
theorem light25 : Light Try.prog 25 3 41 L25 [.tmp 6, .tmp 7] :=
  ⟨Try.f25, _, Try.func25, rfl, rfl, by kernel_rfl, by kernel_rfl, by decide⟩

/-! ### function 26: outrider/outriderref21.Find -/
def L26_1 : LCode :=
 .seq (.seq (.region [⟨some 8, .move (.tmp 7), none⟩,
  ⟨some 9, .off 2 (.tmp 3), none⟩,
  ⟨some 10, .load false 1 (.tmp 9), none⟩,
  ⟨some 11, .len (.tmp 10), none⟩,
  ⟨some 12, .bin .lss (.tmp 8) (.tmp 11), none⟩])
 (.cond (.tmp 12) (.skip)
 (.exit 0)))
 (.seq (.block 1 (.seq (.region [⟨some 15, .off 2 (.tmp 3), none⟩,
  ⟨some 16, .load false 1 (.tmp 15), none⟩,
  ⟨some 17, .move (.tmp 7), none⟩,
  ⟨some 18, .idx 3 (.tmp 16) (.tmp 17), none⟩,
  ⟨some 19, .off 0 (.tmp 18), none⟩,
  ⟨some 20, .load false 1 (.tmp 19), none⟩,
  ⟨some 21, .move (.tmp 1), none⟩,
  ⟨some 22, .bin .eql (.tmp 20) (.tmp 21), none⟩,
  ⟨some 23, .move (.tmp 22), none⟩,
  ⟨some 24, .off 2 (.tmp 3), (some (23, true))⟩,
  ⟨some 25, .load false 1 (.tmp 24), (some (23, true))⟩,
  ⟨some 26, .move (.tmp 7), (some (23, true))⟩,
  ⟨some 27, .idx 3 (.tmp 25) (.tmp 26), (some (23, true))⟩,
  ⟨some 28, .off 1 (.tmp 27), (some (23, true))⟩,
  ⟨some 29, .load false 1 (.tmp 28), (some (23, true))⟩,
  ⟨some 30, .move (.tmp 2), (some (23, true))⟩,
  ⟨some 31, .bin .eql (.tmp 29) (.tmp 30), (some (23, true))⟩,
  ⟨some 32, .pick (.tmp 23) (.tmp 31) (.const (.bool false)), none⟩])
 (.cond (.tmp 32) (.seq (.region [⟨some 33, .move (.tmp 7), none⟩,
  ⟨some 6, .move (.tmp 33), none⟩])
 (.ret))
 (.skip))))
 (.region [⟨some 13, .move (.tmp 7), none⟩,
  ⟨some 14, .bin .add (.tmp 13) (.const (.int .i64 1)), none⟩,
  ⟨some 7, .move (.tmp 14), none⟩]))
def L26 : LCode :=
 .seq (.region [⟨some 3, .box 40 3 (.tmp 0), none⟩,
  ⟨some 6, .move (.const (.int .i64 0)), none⟩])
 (.seq (.seq (.region [⟨some 7, .move (.const (.int .i64 0)), none⟩])
 (.block 0 (.loop L26_1)))
 (.seq (.region [⟨some 6, .move (.const (.int .i64 (-1))), none⟩])
 (.ret)))
theorem light26 : Light Try.prog 26 3 34 L26 [.tmp 6] :=
  ⟨Try.f26, _, Try.func26, rfl, rfl, by kernel_rfl, by kernel_rfl, by decide⟩

/-! ### function 27: outrider/outriderref21.Drop -/
def L27_1 : LCode :=
 .seq (.seq (.region [⟨some 11, .move (.tmp 9), none⟩,
  ⟨some 12, .off 2 (.tmp 3), none⟩,
  ⟨some 13, .load false 1 (.tmp 12), none⟩,
  ⟨some 14, .len (.tmp 13), none⟩,
  ⟨some 15, .bin .lss (.tmp 11) (.tmp 14), none⟩])
 (.cond (.tmp 15) (.skip)
 (.exit 0)))
 (.seq (.block 1 (.seq (.region [⟨some 18, .off 2 (.tmp 3), none⟩,
  ⟨some 19, .load false 1 (.tmp 18), none⟩,
  ⟨some 20, .move (.tmp 9), none⟩,
  ⟨some 21, .idx 3 (.tmp 19) (.tmp 20), none⟩,
  ⟨some 22, .off 1 (.tmp 21), none⟩,
  ⟨some 23, .load false 1 (.tmp 22), none⟩,
  ⟨some 24, .move (.tmp 2), none⟩,
  ⟨some 25, .bin .neq (.tmp 23) (.tmp 24), none⟩,
  ⟨some 26, .move (.tmp 25), none⟩,
  ⟨some 27, .move (.tmp 1), (some (26, false))⟩,
  ⟨some 28, .bin .geq (.tmp 27) (.const (.int .i64 0)), (some (26, false))⟩,
  ⟨some 29, .move (.tmp 28), (some (26, false))⟩,
  ⟨some 30, .off 2 (.tmp 3), (some (29, true))⟩,
  ⟨some 31, .load false 1 (.tmp 30), (some (29, true))⟩,
  ⟨some 32, .move (.tmp 9), (some (29, true))⟩,
  ⟨some 33, .idx 3 (.tmp 31) (.tmp 32), (some (29, true))⟩,
  ⟨some 34, .off 0 (.tmp 33), (some (29, true))⟩,
  ⟨some 35, .load false 1 (.tmp 34), (some (29, true))⟩,
  ⟨some 36, .move (.tmp 1), (some (29, true))⟩,
  ⟨some 37, .bin .neq (.tmp 35) (.tmp 36), (some (29, true))⟩,
  ⟨some 38, .pick (.tmp 29) (.tmp 37) (.const (.bool false)), (some (26, false))⟩,
  ⟨some 39, .pick (.tmp 26) (.const (.bool true)) (.tmp 38), none⟩])
 (.cond (.tmp 39) (.region [⟨some 40, .move (.tmp 8), none⟩,
  ⟨some 41, .off 2 (.tmp 3), none⟩,
  ⟨some 42, .load false 1 (.tmp 41), none⟩,
  ⟨some 43, .move (.tmp 9), none⟩,
  ⟨some 44, .idx 3 (.tmp 42) (.tmp 43), none⟩,
  ⟨some 45, .load true 3 (.tmp 44), none⟩,
  ⟨some 46, .buildSlice 71 3 1 [.int .i64 0, .int .i64 0, .int .i64 0] [(0, 3, .tmp 45)], none⟩,
  ⟨some 47, .append 71 3 24 (.tmp 40) (.tmp 46), none⟩,
  ⟨some 8, .move (.tmp 47), none⟩])
 (.skip))))
 (.region [⟨some 16, .move (.tmp 9), none⟩,
  ⟨some 17, .bin .add (.tmp 16) (.const (.int .i64 1)), none⟩,
  ⟨some 9, .move (.tmp 17), none⟩]))
def L27 : LCode :=
 .seq (.region [⟨some 3, .box 40 3 (.tmp 0), none⟩,
  ⟨some 6, .new 40 3 [.int .i64 0, .int .i64 0, .slice none 0 0], none⟩,
  ⟨some 7, .move (.const (.int .i64 0)), none⟩])
 (.seq (.region [⟨some 8, .move (.const (.slice none 0 0)), none⟩])
 (.seq (.seq (.region [⟨some 9, .move (.const (.int .i64 0)), none⟩])
 (.block 0 (.loop L27_1)))
 (.seq (.region [⟨some 48, .off 2 (.tmp 3), none⟩,
  ⟨some 49, .load false 1 (.tmp 48), none⟩,
  ⟨some 50, .len (.tmp 49), none⟩,
  ⟨some 51, .move (.tmp 8), none⟩,
  ⟨some 52, .len (.tmp 51), none⟩,
  ⟨some 53, .bin .sub (.tmp 50) (.tmp 52), none⟩,
  ⟨some 10, .move (.tmp 53), none⟩])
 (.seq (.region [⟨some 54, .move (.tmp 8), none⟩,
  ⟨some 55, .off 2 (.tmp 3), none⟩,
  ⟨none, .store 1 (.tmp 55) (.tmp 54), none⟩])
 (.seq (.region [⟨some 56, .load true 3 (.tmp 3), none⟩,
  ⟨some 57, .move (.tmp 10), none⟩,
  ⟨none, .store 3 (.tmp 6) (.tmp 56), none⟩,
  ⟨some 7, .move (.tmp 57), none⟩])
 (.ret))))))
theorem light27 : Light Try.prog 27 3 58 L27 [.cell 6 true 3, .tmp 7] :=
  ⟨Try.f27, _, Try.func27, rfl, rfl, by kernel_rfl, by kernel_rfl, by decide⟩

/-! ### function 28: outrider/outriderref21.Put -/
def L28 : LCode :=
 .seq (.region [⟨some 4, .box 40 3 (.tmp 0), none⟩,
  ⟨some 8, .new 40 3 [.int .i64 0, .int .i64 0, .slice none 0 0], none⟩,
  ⟨some 9, .move (.const (.int .i64 0)), none⟩])
 (.seq (.seq (.region [⟨some 12, .move (.tmp 1), none⟩,
  ⟨some 13, .bin .lss (.tmp 12) (.const (.int .i64 0)), none⟩,
  ⟨some 14, .move (.tmp 13), none⟩,
  ⟨some 15, .move (.tmp 1), (some (14, false))⟩,
  ⟨some 16, .off 0 (.tmp 4), (some (14, false))⟩,
  ⟨some 17, .load false 1 (.tmp 16), (some (14, false))⟩,
  ⟨some 18, .bin .geq (.tmp 15) (.tmp 17), (some (14, false))⟩,
  ⟨some 19, .pick (.tmp 14) (.const (.bool true)) (.tmp 18), none⟩])
 (.cond (.tmp 19) (.seq (.region [⟨some 20, .load true 3 (.tmp 4), none⟩,
  ⟨none, .store 3 (.tmp 8) (.tmp 20), none⟩,
  ⟨some 9, .move (.const (.int .i64 131)), none⟩])
 (.ret))
 (.skip)))
 (.seq (.seq (.region [⟨some 21, .move (.tmp 2), none⟩,
  ⟨some 22, .bin .lss (.tmp 21) (.const (.int .i64 0)), none⟩])
 (.cond (.tmp 22) (.seq (.region [⟨some 23, .load true 3 (.tmp 4), none⟩,
  ⟨none, .store 3 (.tmp 8) (.tmp 23), none⟩,
  ⟨some 9, .move (.const (.int .i64 210)), none⟩])
 (.ret))
 (.skip)))
 (.seq (.region [⟨some 24, .load true 3 (.tmp 4), none⟩,
  ⟨some 25, .move (.tmp 1), none⟩,
  ⟨some 26, .move (.tmp 2), none⟩,
  ⟨some 27, .call 26 [.tmp 24, .tmp 25, .tmp 26], none⟩,
  ⟨some 10, .move (.tmp 27), none⟩])
 (.seq (.seq (.region [⟨some 28, .move (.tmp 10), none⟩,
  ⟨some 29, .bin .lss (.tmp 28) (.const (.int .i64 0)), none⟩,
  ⟨some 30, .move (.tmp 29), none⟩,
  ⟨some 31, .off 2 (.tmp 4), (some (30, true))⟩,
  ⟨some 32, .load false 1 (.tmp 31), (some (30, true))⟩,
  ⟨some 33, .len (.tmp 32), (some (30, true))⟩,
  ⟨some 34, .off 1 (.tmp 4), (some (30, true))⟩,
  ⟨some 35, .load false 1 (.tmp 34), (some (30, true))⟩,
  ⟨some 36, .bin .eql (.tmp 33) (.tmp 35), (some (30, true))⟩,
  ⟨some 37, .pick (.tmp 30) (.tmp 36) (.const (.bool false)), none⟩])
 (.cond (.tmp 37) (.seq (.region [⟨some 38, .load true 3 (.tmp 4), none⟩,
  ⟨none, .store 3 (.tmp 8) (.tmp 38), none⟩,
  ⟨some 9, .move (.const (.int .i64 200)), none⟩])
 (.ret))
 (.skip)))
 (.seq (.region [⟨some 39, .buildSlice 71 3 0 [.int .i64 0, .int .i64 0, .int .i64 0] [], none⟩,
  ⟨some 40, .off 2 (.tmp 4), none⟩,
  ⟨some 41, .load false 1 (.tmp 40), none⟩,
  ⟨some 42, .append 71 3 24 (.tmp 39) (.tmp 41), none⟩,
  ⟨some 11, .move (.tmp 42), none⟩])
 (.seq (.seq (.region [⟨some 43, .move (.tmp 10), none⟩,
  ⟨some 44, .bin .lss (.tmp 43) (.const (.int .i64 0)), none⟩])
 (.cond (.tmp 44) (.seq (.region [⟨some 45, .move (.tmp 11), none⟩,
  ⟨some 46, .move (.tmp 1), none⟩,
  ⟨some 47, .move (.tmp 2), none⟩,
  ⟨some 48, .move (.tmp 3), none⟩,
  ⟨some 49, .build [.int .i64 0, .int .i64 0, .int .i64 0] [(0, 1, .tmp 46), (1, 1, .tmp 47), (2, 1, .tmp 48)], none⟩,
  ⟨some 50, .buildSlice 71 3 1 [.int .i64 0, .int .i64 0, .int .i64 0] [(0, 3, .tmp 49)], none⟩,
  ⟨some 51, .append 71 3 24 (.tmp 45) (.tmp 50), none⟩,
  ⟨some 52, .off 2 (.tmp 4), none⟩,
  ⟨none, .store 1 (.tmp 52) (.tmp 51), none⟩])
 (.seq (.region [⟨some 53, .load true 3 (.tmp 4), none⟩,
  ⟨none, .store 3 (.tmp 8) (.tmp 53), none⟩,
  ⟨some 9, .move (.const (.int .i64 0)), none⟩])
 (.ret)))
 (.skip)))
 (.seq (.region [⟨some 54, .move (.tmp 11), none⟩,
  ⟨some 55, .move (.tmp 10), none⟩,
  ⟨some 56, .move (.tmp 3), none⟩,
  ⟨some 57, .idx 3 (.tmp 54) (.tmp 55), none⟩,
  ⟨some 58, .off 2 (.tmp 57), none⟩,
  ⟨none, .store 1 (.tmp 58) (.tmp 56), none⟩])
 (.seq (.region [⟨some 59, .move (.tmp 11), none⟩,
  ⟨some 60, .off 2 (.tmp 4), none⟩,
  ⟨none, .store 1 (.tmp 60) (.tmp 59), none⟩])
 (.seq (.region [⟨some 61, .load true 3 (.tmp 4), none⟩,
  ⟨none, .store 3 (.tmp 8) (.tmp 61), none⟩,
  ⟨some 9, .move (.const (.int .i64 0)), none⟩])
 (.ret))))))))))
theorem light28 : Light Try.prog 28 4 62 L28 [.cell 8 true 3, .tmp 9] :=
  ⟨Try.f28, _, Try.func28, rfl, rfl, by kernel_rfl, by kernel_rfl, by decide⟩

/-! ### function 29: (*outrider/arena.Arena).Live -/
def L29 : LCode :=
 .seq (.region [⟨some 2, .move (.const (.int .i64 0)), none⟩])
 (.seq (.draw [⟨⟨some 3, .move (.tmp 0), none⟩, .pure, 0, 0⟩,
  ⟨⟨some 4, .nilCheck (.tmp 3), none⟩, .pure, 0, 0⟩,
  ⟨⟨some 5, .off 1 (.tmp 4), none⟩, .pure, 0, 0⟩,
  ⟨⟨some 6, .load false 1 (.tmp 5), none⟩, .read, 0, 0⟩,
  ⟨⟨some 7, .len (.tmp 6), none⟩, .pure, 0, 0⟩,
  ⟨⟨some 8, .move (.tmp 0), none⟩, .pure, 0, 0⟩,
  ⟨⟨some 9, .nilCheck (.tmp 8), none⟩, .pure, 0, 0⟩,
  ⟨⟨some 10, .off 0 (.tmp 9), none⟩, .pure, 0, 0⟩,
  ⟨⟨some 11, .load false 1 (.tmp 10), none⟩, .read, 0, 0⟩,
  ⟨⟨some 12, .len (.tmp 11), none⟩, .pure, 0, 0⟩,
  ⟨⟨some 13, .bin .sub (.tmp 7) (.tmp 12), none⟩, .pure, 0, 0⟩,
  ⟨⟨some 2, .move (.tmp 13), none⟩, .pure, 0, 0⟩])
 (.ret))
theorem light29 : Light Try.prog 29 1 14 L29 [.tmp 2] :=
  ⟨Try.f29, _, Try.func29, rfl, rfl, by kernel_rfl, by kernel_rfl, by decide⟩

/-! ### function 31: outrider/outriderref21.Ages -/
def L31_1 : LCode :=
 .seq (.seq (.region [⟨some 8, .move (.tmp 7), none⟩,
  ⟨some 9, .off 2 (.tmp 1), none⟩,
  ⟨some 10, .load false 1 (.tmp 9), none⟩,
  ⟨some 11, .len (.tmp 10), none⟩,
  ⟨some 12, .bin .lss (.tmp 8) (.tmp 11), none⟩])
 (.cond (.tmp 12) (.skip)
 (.exit 2)))
 (.seq (.block 3 (.seq (.region [⟨some 15, .off 2 (.tmp 1), none⟩,
  ⟨some 16, .load false 1 (.tmp 15), none⟩,
  ⟨some 17, .move (.tmp 7), none⟩,
  ⟨some 18, .idx 3 (.tmp 16) (.tmp 17), none⟩,
  ⟨some 19, .off 1 (.tmp 18), none⟩,
  ⟨some 20, .load false 1 (.tmp 19), none⟩,
  ⟨some 21, .move (.tmp 4), none⟩,
  ⟨some 22, .bin .gtr (.tmp 20) (.tmp 21), none⟩,
  ⟨some 23, .move (.tmp 22), none⟩,
  ⟨some 24, .move (.tmp 6), (some (23, true))⟩,
  ⟨some 25, .un .not (.tmp 24), (some (23, true))⟩,
  ⟨some 26, .move (.tmp 25), (some (23, true))⟩,
  ⟨some 27, .off 2 (.tmp 1), (some (26, false))⟩,
  ⟨some 28, .load false 1 (.tmp 27), (some (26, false))⟩,
  ⟨some 29, .move (.tmp 7), (some (26, false))⟩,
  ⟨some 30, .idx 3 (.tmp 28) (.tmp 29), (some (26, false))⟩,
  ⟨some 31, .off 1 (.tmp 30), (some (26, false))⟩,
  ⟨some 32, .load false 1 (.tmp 31), (some (26, false))⟩,
  ⟨some 33, .move (.tmp 5), (some (26, false))⟩,
  ⟨some 34, .bin .lss (.tmp 32) (.tmp 33), (some (26, false))⟩,
  ⟨some 35, .pick (.tmp 26) (.const (.bool true)) (.tmp 34), (some (23, true))⟩,
  ⟨some 36, .pick (.tmp 23) (.tmp 35) (.const (.bool false)), none⟩])
 (.cond (.tmp 36) (.region [⟨some 37, .off 2 (.tmp 1), none⟩,
  ⟨some 38, .load false 1 (.tmp 37), none⟩,
  ⟨some 39, .move (.tmp 7), none⟩,
  ⟨some 40, .idx 3 (.tmp 38) (.tmp 39), none⟩,
  ⟨some 41, .off 1 (.tmp 40), none⟩,
  ⟨some 42, .load false 1 (.tmp 41), none⟩,
  ⟨some 5, .move (.tmp 42), none⟩,
  ⟨some 6, .move (.const (.bool true)), none⟩])
 (.skip))))
 (.region [⟨some 13, .move (.tmp 7), none⟩,
  ⟨some 14, .bin .add (.tmp 13) (.const (.int .i64 1)), none⟩,
  ⟨some 7, .move (.tmp 14), none⟩]))
def L31_2 : LCode :=
 .block 1 (.seq (.region [⟨some 5, .move (.const (.int .i64 0)), none⟩,
  ⟨some 6, .move (.const (.bool false)), none⟩])
 (.seq (.seq (.region [⟨some 7, .move (.const (.int .i64 0)), none⟩])
 (.block 2 (.loop L31_1)))
 (.seq (.seq (.region [⟨some 43, .move (.tmp 6), none⟩,
  ⟨some 44, .un .not (.tmp 43), none⟩])
 (.cond (.tmp 44) (.seq (.region [⟨some 45, .move (.tmp 3), none⟩,
  ⟨some 2, .move (.tmp 45), none⟩])
 (.ret))
 (.skip)))
 (.seq (.region [⟨some 46, .move (.tmp 3), none⟩,
  ⟨some 47, .move (.tmp 5), none⟩,
  ⟨some 48, .buildSlice 3 1 1 [.int .i64 0] [(0, 1, .tmp 47)], none⟩,
  ⟨some 49, .append 3 1 8 (.tmp 46) (.tmp 48), none⟩,
  ⟨some 3, .move (.tmp 49), none⟩])
 (.region [⟨some 50, .move (.tmp 5), none⟩,
  ⟨some 4, .move (.tmp 50), none⟩])))))
def L31 : LCode :=
 .seq (.region [⟨some 1, .box 40 3 (.tmp 0), none⟩,
  ⟨some 2, .move (.const (.slice none 0 0)), none⟩])
 (.seq (.region [⟨some 3, .move (.const (.slice none 0 0)), none⟩])
 (.seq (.region [⟨some 4, .move (.const (.int .i64 (-1))), none⟩])
 (.block 0 (.loop L31_2))))
theorem light31 : Light Try.prog 31 1 51 L31 [.tmp 2] :=
  ⟨Try.f31, _, Try.func31, rfl, rfl, by kernel_rfl, by kernel_rfl, by decide⟩

/-! ### function 32: (*outrider/ver.Store).Many -/
def L32 : LCode :=
 .seq (.region [⟨some 4, .move (.const (.int .i64 0)), none⟩])
 (.seq (.region [⟨some 5, .move (.tmp 0), none⟩,
  ⟨some 6, .nilCheck (.tmp 5), none⟩,
  ⟨some 7, .off 3 (.tmp 6), none⟩,
  ⟨some 8, .load false 1 (.tmp 7), none⟩,
  ⟨some 9, .move (.tmp 1), none⟩,
  ⟨some 10, .lookup (.int .i64) (.int .i64 0) false (.tmp 8) (.tmp 9), none⟩,
  ⟨some 4, .move (.tmp 10), none⟩])
 (.ret))
theorem light32 : Light Try.prog 32 2 11 L32 [.tmp 4] :=
  ⟨Try.f32, _, Try.func32, rfl, rfl, by kernel_rfl, by kernel_rfl, by decide⟩

/-! ### function 33: outrider/outriderref21.Many -/
def L33 : LCode :=
 .seq (.region [⟨some 2, .box 40 3 (.tmp 0), none⟩,
  ⟨some 4, .move (.const (.int .i64 0)), none⟩])
 (.seq (.region [⟨some 8, .load true 3 (.tmp 2), none⟩,
  ⟨some 9, .move (.tmp 1), none⟩,
  ⟨some 10, .call 27 [.tmp 8, .const (.int .i64 (-1)), .tmp 9], none⟩,
  ⟨some 7, .move (.tmp 10), none⟩,
  ⟨some 11, .extract (.tmp 7) 0, none⟩,
  ⟨some 12, .extract (.tmp 7) 1, none⟩,
  ⟨some 5, .new 40 3 [.int .i64 0, .int .i64 0, .slice none 0 0], none⟩,
  ⟨none, .store 3 (.tmp 5) (.tmp 11), none⟩,
  ⟨some 6, .move (.tmp 12), none⟩])
 (.seq (.region [⟨some 13, .move (.tmp 6), none⟩,
  ⟨some 4, .move (.tmp 13), none⟩])
 (.ret)))
theorem light33 : Light Try.prog 33 2 14 L33 [.tmp 4] :=
  ⟨Try.f33, _, Try.func33, rfl, rfl, by kernel_rfl, by kernel_rfl, by decide⟩

/-! ### function 34: outrider/outriderref21.Chain -/
def L34_1 : LCode :=
 .seq (.seq (.region [⟨some 12, .move (.tmp 9), none⟩,
  ⟨some 13, .off 2 (.tmp 2), none⟩,
  ⟨some 14, .load false 1 (.tmp 13), none⟩,
  ⟨some 15, .len (.tmp 14), none⟩,
  ⟨some 16, .bin .lss (.tmp 12) (.tmp 15), none⟩])
 (.cond (.tmp 16) (.skip)
 (.exit 2)))
 (.seq (.block 3 (.seq (.region [⟨some 19, .off 2 (.tmp 2), none⟩,
  ⟨some 20, .load false 1 (.tmp 19), none⟩,
  ⟨some 21, .move (.tmp 9), none⟩,
  ⟨some 22, .idx 3 (.tmp 20) (.tmp 21), none⟩,
  ⟨some 23, .load true 3 (.tmp 22), none⟩,
  ⟨some 10, .new 71 3 [.int .i64 0, .int .i64 0, .int .i64 0], none⟩,
  ⟨none, .store 3 (.tmp 10) (.tmp 23), none⟩])
 (.seq (.region [⟨some 24, .off 0 (.tmp 10), none⟩,
  ⟨some 25, .load false 1 (.tmp 24), none⟩,
  ⟨some 26, .move (.tmp 1), none⟩,
  ⟨some 27, .bin .eql (.tmp 25) (.tmp 26), none⟩,
  ⟨some 28, .move (.tmp 27), none⟩,
  ⟨some 29, .off 1 (.tmp 10), (some (28, true))⟩,
  ⟨some 30, .load false 1 (.tmp 29), (some (28, true))⟩,
  ⟨some 31, .move (.tmp 6), (some (28, true))⟩,
  ⟨some 32, .bin .gtr (.tmp 30) (.tmp 31), (some (28, true))⟩,
  ⟨some 33, .pick (.tmp 28) (.tmp 32) (.const (.bool false)), none⟩,
  ⟨some 34, .move (.tmp 33), none⟩,
  ⟨some 35, .move (.tmp 8), (some (34, true))⟩,
  ⟨some 36, .un .not (.tmp 35), (some (34, true))⟩,
  ⟨some 37, .move (.tmp 36), (some (34, true))⟩,
  ⟨some 38, .off 1 (.tmp 10), (some (37, false))⟩,
  ⟨some 39, .load false 1 (.tmp 38), (some (37, false))⟩,
  ⟨some 40, .off 1 (.tmp 7), (some (37, false))⟩,
  ⟨some 41, .load false 1 (.tmp 40), (some (37, false))⟩,
  ⟨some 42, .bin .lss (.tmp 39) (.tmp 41), (some (37, false))⟩,
  ⟨some 43, .pick (.tmp 37) (.const (.bool true)) (.tmp 42), (some (34, true))⟩,
  ⟨some 44, .pick (.tmp 34) (.tmp 43) (.const (.bool false)), none⟩])
 (.cond (.tmp 44) (.region [⟨some 45, .load true 3 (.tmp 10), none⟩,
  ⟨none, .store 3 (.tmp 7) (.tmp 45), none⟩,
  ⟨some 8, .move (.const (.bool true)), none⟩])
 (.skip)))))
 (.region [⟨some 17, .move (.tmp 9), none⟩,
  ⟨some 18, .bin .add (.tmp 17) (.const (.int .i64 1)), none⟩,
  ⟨some 9, .move (.tmp 18), none⟩]))
def L34_2 : LCode :=
 .block 1 (.seq (.region [⟨some 11, .build [.int .i64 0, .int .i64 0, .int .i64 0] [], none⟩,
  ⟨some 7, .new 71 3 [.int .i64 0, .int .i64 0, .int .i64 0], none⟩,
  ⟨none, .store 3 (.tmp 7) (.tmp 11), none⟩])
 (.seq (.region [⟨some 8, .move (.const (.bool false)), none⟩])
 (.seq (.seq (.region [⟨some 9, .move (.const (.int .i64 0)), none⟩])
 (.block 2 (.loop L34_1)))
 (.seq (.seq (.region [⟨some 46, .move (.tmp 8), none⟩,
  ⟨some 47, .un .not (.tmp 46), none⟩])
 (.cond (.tmp 47) (.seq (.region [⟨some 48, .move (.tmp 5), none⟩,
  ⟨some 4, .move (.tmp 48), none⟩])
 (.ret))
 (.skip)))
 (.seq (.region [⟨some 49, .move (.tmp 5), none⟩,
  ⟨some 50, .load true 3 (.tmp 7), none⟩,
  ⟨some 51, .buildSlice 71 3 1 [.int .i64 0, .int .i64 0, .int .i64 0] [(0, 3, .tmp 50)], none⟩,
  ⟨some 52, .append 71 3 24 (.tmp 49) (.tmp 51), none⟩,
  ⟨some 5, .move (.tmp 52), none⟩])
 (.region [⟨some 53, .off 1 (.tmp 7), none⟩,
  ⟨some 54, .load false 1 (.tmp 53), none⟩,
  ⟨some 6, .move (.tmp 54), none⟩]))))))
def L34 : LCode :=
 .seq (.region [⟨some 2, .box 40 3 (.tmp 0), none⟩,
  ⟨some 4, .move (.const (.slice none 0 0)), none⟩])
 (.seq (.region [⟨some 5, .move (.const (.slice none 0 0)), none⟩])
 (.seq (.region [⟨some 6, .move (.const (.int .i64 (-1))), none⟩])
 (.block 0 (.loop L34_2))))
theorem light34 : Light Try.prog 34 2 55 L34 [.tmp 4] :=
  ⟨Try.f34, _, Try.func34, rfl, rfl, by kernel_rfl, by kernel_rfl, by decide⟩

/-! ### function 35: sort.Search -/
def L35_1 : LCode :=
 .seq (.seq (.region [⟨some 9, .move (.tmp 5), none⟩,
  ⟨some 10, .move (.tmp 6), none⟩,
  ⟨some 11, .bin .lss (.tmp 9) (.tmp 10), none⟩])
 (.cond (.tmp 11) (.skip)
 (.exit 0)))
 (.block 1 (.seq (.region [⟨some 12, .move (.tmp 5), none⟩,
  ⟨some 13, .move (.tmp 6), none⟩,
  ⟨some 14, .bin .add (.tmp 12) (.tmp 13), none⟩,
  ⟨some 15, .conv .u64 (.tmp 14), none⟩,
  ⟨some 16, .bin .shr (.tmp 15) (.const (.int .u64 1)), none⟩,
  ⟨some 17, .conv .i64 (.tmp 16), none⟩,
  ⟨some 7, .move (.tmp 17), none⟩])
 (.seq (.region [⟨some 18, .move (.tmp 1), none⟩,
  ⟨some 19, .move (.tmp 7), none⟩,
  ⟨some 20, .callv (.tmp 18) [.tmp 19], none⟩,
  ⟨some 21, .un .not (.tmp 20), none⟩])
 (.cond (.tmp 21) (.region [⟨some 22, .move (.tmp 7), none⟩,
  ⟨some 23, .bin .add (.tmp 22) (.const (.int .i64 1)), none⟩,
  ⟨some 5, .move (.tmp 23), none⟩])
 (.region [⟨some 24, .move (.tmp 7), none⟩,
  ⟨some 6, .move (.tmp 24), none⟩])))))
def L35 : LCode :=
 .seq (.region [⟨some 4, .move (.const (.int .i64 0)), none⟩])
 (.seq (.region [⟨some 8, .move (.tmp 0), none⟩,
  ⟨some 5, .move (.const (.int .i64 0)), none⟩,
  ⟨some 6, .move (.tmp 8), none⟩])
 (.seq (.block 0 (.loop L35_1))
 (.seq (.region [⟨some 25, .move (.tmp 5), none⟩,
  ⟨some 4, .move (.tmp 25), none⟩])
 (.ret))))
theorem light35 : Light Try.prog 35 2 26 L35 [.tmp 4] :=
  ⟨Try.f35, _, Try.func35, rfl, rfl, by kernel_rfl, by kernel_rfl, by decide⟩

/-! ### function 36: (*outrider/ver.Store).place$1 -/
def L36 : LCode :=
 .seq (.region [⟨some 4, .move (.const (.bool false)), none⟩])
 (.seq (.draw [⟨⟨some 5, .load false 1 (.tmp 1), none⟩, .read, 0, 0⟩,
  ⟨⟨some 6, .move (.tmp 0), none⟩, .pure, 0, 0⟩,
  ⟨⟨some 7, .idx 2 (.tmp 5) (.tmp 6), none⟩, .pure, 0, 0⟩,
  ⟨⟨some 8, .off 0 (.tmp 7), none⟩, .pure, 0, 0⟩,
  ⟨⟨some 9, .load false 1 (.tmp 8), none⟩, .read, 0, 0⟩,
  ⟨⟨some 10, .load false 1 (.tmp 2), none⟩, .read, 0, 0⟩,
  ⟨⟨some 11, .bin .geq (.tmp 9) (.tmp 10), none⟩, .pure, 0, 0⟩,
  ⟨⟨some 4, .move (.tmp 11), none⟩, .pure, 0, 0⟩])
 (.ret))
theorem light36 : Light Try.prog 36 3 12 L36 [.tmp 4] :=
  ⟨Try.f36, _, Try.func36, rfl, rfl, by kernel_rfl, by kernel_rfl, by decide⟩

/-! ### function 37: (*outrider/arena.Arena).Used -/
def L37 : LCode :=
 .seq (.region [⟨some 4, .move (.const (.bool false)), none⟩])
 (.seq (.region [⟨some 5, .move (.tmp 1), none⟩,
  ⟨some 6, .bin .geq (.tmp 5) (.const (.int .i64 0)), none⟩,
  ⟨some 7, .move (.tmp 6), none⟩,
  ⟨some 8, .move (.tmp 1), (some (7, true))⟩,
  ⟨some 9, .move (.tmp 0), (some (7, true))⟩,
  ⟨some 10, .nilCheck (.tmp 9), (some (7, true))⟩,
  ⟨some 11, .off 1 (.tmp 10), (some (7, true))⟩,
  ⟨some 12, .load false 1 (.tmp 11), (some (7, true))⟩,
  ⟨some 13, .len (.tmp 12), (some (7, true))⟩,
  ⟨some 14, .bin .lss (.tmp 8) (.tmp 13), (some (7, true))⟩,
  ⟨some 15, .pick (.tmp 7) (.tmp 14) (.const (.bool false)), none⟩,
  ⟨some 16, .move (.tmp 15), none⟩,
  ⟨some 17, .move (.tmp 0), (some (16, true))⟩,
  ⟨some 18, .nilCheck (.tmp 17), (some (16, true))⟩,
  ⟨some 19, .off 1 (.tmp 18), (some (16, true))⟩,
  ⟨some 20, .load false 1 (.tmp 19), (some (16, true))⟩,
  ⟨some 21, .move (.tmp 1), (some (16, true))⟩,
  ⟨some 22, .idx 1 (.tmp 20) (.tmp 21), (some (16, true))⟩,
  ⟨some 23, .load false 1 (.tmp 22), (some (16, true))⟩,
  ⟨some 24, .pick (.tmp 16) (.tmp 23) (.const (.bool false)), none⟩,
  ⟨some 4, .move (.tmp 24), none⟩])
 (.ret))
theorem light37 : Light Try.prog 37 2 25 L37 [.tmp 4] :=
  ⟨Try.f37, _, Try.func37, rfl, rfl, by kernel_rfl, by kernel_rfl, by decide⟩

/-! ### function 38: (*outrider/arena.Arena).Free -/
def L38 : LCode :=
 .seq (.region [⟨some 2, .move (.const (.int .i64 0)), none⟩])
 (.seq (.region [⟨some 3, .move (.tmp 0), none⟩,
  ⟨some 4, .nilCheck (.tmp 3), none⟩,
  ⟨some 5, .off 0 (.tmp 4), none⟩,
  ⟨some 6, .load false 1 (.tmp 5), none⟩,
  ⟨some 7, .len (.tmp 6), none⟩,
  ⟨some 2, .move (.tmp 7), none⟩])
 (.ret))
theorem light38 : Light Try.prog 38 1 8 L38 [.tmp 2] :=
  ⟨Try.f38, _, Try.func38, rfl, rfl, by kernel_rfl, by kernel_rfl, by decide⟩

end Go.Proofs.Ythclcdboialfnaa
