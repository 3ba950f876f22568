/-
  The light code of functions of this seat: printed by a program of this session (wip/tools/lightgen.py); each is held against the program by the kernel.
-/
import Derived.Test.YtadegahkgpedgaaOtT
import Derived.KernelRfl
import Derived.Test.YtadegahkgpedgaaProg
set_option maxRecDepth 100000
namespace Go.Proofs.Ytadegahkgpedgaa
open Go.Ot

/-! ### function 3: outrider/outriderlaw23.GraphRoom -/
def L3_1 : LCode :=
 .seq (.seq (.region [⟨some 30, .move (.tmp 5), none⟩,
  ⟨some 31, .move (.tmp 0), none⟩,
  ⟨some 32, .bin .lss (.tmp 30) (.tmp 31), none⟩])
 (.cond (.tmp 32) (.skip)
 (.exit 0)))
 (.seq (.block 1 (.seq (.region [⟨some 35, .move (.tmp 3), none⟩,
  ⟨some 36, .move (.tmp 5), none⟩,
  ⟨some 37, .bin .add (.tmp 36) (.const (.int .i64 1)), none⟩,
  ⟨some 38, .move (.tmp 5), none⟩,
  ⟨some 39, .call 8 [.tmp 35, .tmp 37, .tmp 38], none⟩,
  ⟨some 40, .bin .neq (.tmp 39) (.const (.int .i64 0)), none⟩,
  ⟨some 41, .move (.tmp 40), none⟩,
  ⟨some 42, .move (.tmp 3), (some (41, false))⟩,
  ⟨some 43, .move (.tmp 5), (some (41, false))⟩,
  ⟨some 44, .bin .add (.tmp 43) (.const (.int .i64 1)), (some (41, false))⟩,
  ⟨some 45, .move (.tmp 5), (some (41, false))⟩,
  ⟨some 46, .call 8 [.tmp 42, .tmp 44, .tmp 45], (some (41, false))⟩,
  ⟨some 47, .bin .neq (.tmp 46) (.const (.int .i64 0)), (some (41, false))⟩,
  ⟨some 48, .pick (.tmp 41) (.const (.bool true)) (.tmp 47), none⟩,
  ⟨some 49, .move (.tmp 48), none⟩,
  ⟨some 50, .move (.tmp 3), (some (49, false))⟩,
  ⟨some 51, .call 9 [.tmp 50], (some (49, false))⟩,
  ⟨some 52, .move (.tmp 5), (some (49, false))⟩,
  ⟨some 53, .bin .add (.tmp 52) (.const (.int .i64 1)), (some (49, false))⟩,
  ⟨some 54, .bin .neq (.tmp 51) (.tmp 53), (some (49, false))⟩,
  ⟨some 55, .pick (.tmp 49) (.const (.bool true)) (.tmp 54), none⟩])
 (.cond (.tmp 55) (.seq (.region [⟨some 2, .move (.const (.bool false)), none⟩])
 (.ret))
 (.skip))))
 (.region [⟨some 33, .move (.tmp 5), none⟩,
  ⟨some 34, .bin .add (.tmp 33) (.const (.int .i64 1)), none⟩,
  ⟨some 5, .move (.tmp 34), none⟩]))
def L3 : LCode :=
 .seq (.region [⟨some 2, .move (.const (.bool false)), none⟩])
 (.seq (.region [⟨some 7, .move (.tmp 0), none⟩,
  ⟨some 8, .call 6 [.tmp 7], none⟩,
  ⟨some 6, .move (.tmp 8), none⟩,
  ⟨some 9, .extract (.tmp 6) 0, none⟩,
  ⟨some 10, .extract (.tmp 6) 1, none⟩,
  ⟨some 3, .move (.tmp 9), none⟩,
  ⟨some 4, .move (.tmp 10), none⟩])
 (.seq (.seq (.region [⟨some 11, .move (.tmp 4), none⟩,
  ⟨some 12, .bin .neq (.tmp 11) (.const (.int .i64 0)), none⟩,
  ⟨some 13, .move (.tmp 12), none⟩,
  ⟨some 14, .move (.tmp 3), (some (13, false))⟩,
  ⟨some 15, .isNil false (.pointer 57) (.tmp 14), (some (13, false))⟩,
  ⟨some 16, .pick (.tmp 13) (.const (.bool true)) (.tmp 15), none⟩])
 (.cond (.tmp 16) (.seq (.region [⟨some 17, .move (.tmp 3), none⟩,
  ⟨some 18, .isNil false (.pointer 57) (.tmp 17), none⟩,
  ⟨some 19, .move (.tmp 18), none⟩,
  ⟨some 20, .move (.tmp 0), (some (19, true))⟩,
  ⟨some 21, .bin .lss (.tmp 20) (.const (.int .i64 1)), (some (19, true))⟩,
  ⟨some 22, .move (.tmp 21), (some (19, true))⟩,
  ⟨some 23, .move (.tmp 0), (some (22, false))⟩,
  ⟨some 24, .bin .gtr (.tmp 23) (.const (.int .i64 512)), (some (22, false))⟩,
  ⟨some 25, .pick (.tmp 22) (.const (.bool true)) (.tmp 24), (some (19, true))⟩,
  ⟨some 26, .pick (.tmp 19) (.tmp 25) (.const (.bool false)), none⟩,
  ⟨some 27, .move (.tmp 26), none⟩,
  ⟨some 28, .call 7 [], (some (27, true))⟩,
  ⟨some 29, .pick (.tmp 27) (.tmp 28) (.const (.bool false)), none⟩,
  ⟨some 2, .move (.tmp 29), none⟩])
 (.ret))
 (.skip)))
 (.seq (.seq (.region [⟨some 5, .move (.const (.int .i64 0)), none⟩])
 (.block 0 (.loop L3_1)))
 (.seq (.region [⟨some 56, .move (.tmp 3), none⟩,
  ⟨some 57, .move (.tmp 0), none⟩,
  ⟨some 58, .bin .add (.tmp 57) (.const (.int .i64 5)), none⟩,
  ⟨some 59, .call 8 [.tmp 56, .tmp 58, .const (.int .i64 0)], none⟩,
  ⟨some 60, .bin .eql (.tmp 59) (.const (.int .i64 200)), none⟩,
  ⟨some 61, .move (.tmp 60), none⟩,
  ⟨some 62, .move (.tmp 3), (some (61, true))⟩,
  ⟨some 63, .call 8 [.tmp 62, .const (.int .i64 1), .const (.int .i64 0)], (some (61, true))⟩,
  ⟨some 64, .bin .eql (.tmp 63) (.const (.int .i64 0)), (some (61, true))⟩,
  ⟨some 65, .pick (.tmp 61) (.tmp 64) (.const (.bool false)), none⟩,
  ⟨some 66, .move (.tmp 65), none⟩,
  ⟨some 67, .move (.tmp 3), (some (66, true))⟩,
  ⟨some 68, .call 10 [.tmp 67, .const (.int .i64 0)], (some (66, true))⟩,
  ⟨some 69, .bin .eql (.tmp 68) (.const (.int .i64 1)), (some (66, true))⟩,
  ⟨some 70, .pick (.tmp 66) (.tmp 69) (.const (.bool false)), none⟩,
  ⟨some 71, .move (.tmp 70), none⟩,
  ⟨some 72, .move (.tmp 3), (some (71, true))⟩,
  ⟨some 73, .move (.tmp 0), (some (71, true))⟩,
  ⟨some 74, .bin .add (.tmp 73) (.const (.int .i64 5)), (some (71, true))⟩,
  ⟨some 75, .call 8 [.tmp 72, .tmp 74, .const (.int .i64 0)], (some (71, true))⟩,
  ⟨some 76, .bin .eql (.tmp 75) (.const (.int .i64 0)), (some (71, true))⟩,
  ⟨some 77, .pick (.tmp 71) (.tmp 76) (.const (.bool false)), none⟩,
  ⟨some 78, .move (.tmp 77), none⟩,
  ⟨some 79, .move (.tmp 3), (some (78, true))⟩,
  ⟨some 80, .call 11 [.tmp 79, .const (.int .i64 1)], (some (78, true))⟩,
  ⟨some 81, .len (.tmp 80), (some (78, true))⟩,
  ⟨some 82, .move (.tmp 0), (some (78, true))⟩,
  ⟨some 83, .bin .eql (.tmp 81) (.tmp 82), (some (78, true))⟩,
  ⟨some 84, .pick (.tmp 78) (.tmp 83) (.const (.bool false)), none⟩,
  ⟨some 85, .move (.tmp 84), none⟩,
  ⟨some 86, .call 7 [], (some (85, true))⟩,
  ⟨some 87, .pick (.tmp 85) (.tmp 86) (.const (.bool false)), none⟩,
  ⟨some 2, .move (.tmp 87), none⟩])
 (.ret)))))
theorem light3 : Light Try.prog 3 1 88 L3 [.tmp 2] :=
  ⟨Try.f3, _, Try.func3, rfl, rfl, by kernel_rfl, by kernel_rfl, by decide⟩

/-! ### function 4: outrider/outriderlaw23.GraphFalls -/
def L4_1 : LCode :=
 .seq (.seq (.region [⟨some 35, .move (.tmp 9), none⟩,
  ⟨some 36, .move (.tmp 0), none⟩,
  ⟨some 37, .len (.tmp 36), none⟩,
  ⟨some 38, .bin .lss (.tmp 35) (.tmp 37), none⟩])
 (.cond (.tmp 38) (.skip)
 (.exit 0)))
 (.seq (.block 1 (.draw [⟨⟨some 41, .move (.tmp 5), none⟩, .pure, 0, 0⟩,
  ⟨⟨some 42, .load true 2 (.tmp 7), none⟩, .read, 0, 0⟩,
  ⟨⟨some 43, .move (.tmp 0), none⟩, .pure, 0, 0⟩,
  ⟨⟨some 44, .move (.tmp 9), none⟩, .pure, 0, 0⟩,
  ⟨⟨some 45, .idx 3 (.tmp 43) (.tmp 44), none⟩, .pure, 0, 0⟩,
  ⟨⟨some 46, .load true 3 (.tmp 45), none⟩, .read, 0, 0⟩,
  ⟨⟨some 47, .call 13 [.tmp 41, .tmp 42, .tmp 46], none⟩, .heavy, 0, 1⟩]))
 (.region [⟨some 39, .move (.tmp 9), none⟩,
  ⟨some 40, .bin .add (.tmp 39) (.const (.int .i64 1)), none⟩,
  ⟨some 9, .move (.tmp 40), none⟩]))
def L4_2 : LCode :=
 .seq (.seq (.region [⟨some 89, .move (.tmp 14), none⟩,
  ⟨some 90, .move (.tmp 11), none⟩,
  ⟨some 91, .len (.tmp 90), none⟩,
  ⟨some 92, .bin .lss (.tmp 89) (.tmp 91), none⟩])
 (.cond (.tmp 92) (.skip)
 (.exit 4)))
 (.seq (.block 5 (.draw [⟨⟨some 95, .move (.tmp 13), none⟩, .pure, 0, 0⟩,
  ⟨⟨some 96, .move (.tmp 95), none⟩, .pure, 0, 0⟩,
  ⟨⟨some 97, .move (.tmp 11), (some (96, false))⟩, .pure, 0, 0⟩,
  ⟨⟨some 98, .move (.tmp 14), (some (96, false))⟩, .pure, 0, 0⟩,
  ⟨⟨some 99, .idx 2 (.tmp 97) (.tmp 98), (some (96, false))⟩, .pure, 0, 0⟩,
  ⟨⟨some 100, .off 0 (.tmp 99), (some (96, false))⟩, .pure, 0, 0⟩,
  ⟨⟨some 101, .load false 1 (.tmp 100), (some (96, false))⟩, .read, 0, 0⟩,
  ⟨⟨some 102, .move (.tmp 10), (some (96, false))⟩, .pure, 0, 0⟩,
  ⟨⟨some 103, .move (.tmp 12), (some (96, false))⟩, .pure, 0, 0⟩,
  ⟨⟨some 104, .idx 1 (.tmp 102) (.tmp 103), (some (96, false))⟩, .pure, 0, 0⟩,
  ⟨⟨some 105, .load false 1 (.tmp 104), (some (96, false))⟩, .read, 0, 0⟩,
  ⟨⟨some 106, .bin .eql (.tmp 101) (.tmp 105), (some (96, false))⟩, .pure, 0, 0⟩,
  ⟨⟨some 107, .move (.tmp 106), (some (96, false))⟩, .pure, 0, 0⟩,
  ⟨⟨some 108, .move (.tmp 10), (some (107, true))⟩, .pure, 0, 0⟩,
  ⟨⟨some 109, .move (.tmp 11), (some (107, true))⟩, .pure, 0, 0⟩,
  ⟨⟨some 110, .move (.tmp 14), (some (107, true))⟩, .pure, 0, 0⟩,
  ⟨⟨some 111, .idx 2 (.tmp 109) (.tmp 110), (some (107, true))⟩, .pure, 0, 0⟩,
  ⟨⟨some 112, .off 1 (.tmp 111), (some (107, true))⟩, .pure, 0, 0⟩,
  ⟨⟨some 113, .load false 1 (.tmp 112), (some (107, true))⟩, .read, 0, 0⟩,
  ⟨⟨some 114, .call 15 [.tmp 108, .tmp 113], (some (107, true))⟩, .heavy, 0, 1⟩,
  ⟨⟨some 115, .pick (.tmp 107) (.tmp 114) (.const (.bool false)), (some (96, false))⟩, .pure, 1, 1⟩,
  ⟨⟨some 116, .pick (.tmp 96) (.const (.bool true)) (.tmp 115), none⟩, .pure, 1, 1⟩,
  ⟨⟨some 13, .move (.tmp 116), none⟩, .pure, 1, 1⟩]))
 (.region [⟨some 93, .move (.tmp 14), none⟩,
  ⟨some 94, .bin .add (.tmp 93) (.const (.int .i64 1)), none⟩,
  ⟨some 14, .move (.tmp 94), none⟩]))
def L4_3 : LCode :=
 .seq (.seq (.region [⟨some 63, .move (.tmp 12), none⟩,
  ⟨some 64, .move (.tmp 10), none⟩,
  ⟨some 65, .len (.tmp 64), none⟩,
  ⟨some 66, .bin .lss (.tmp 63) (.tmp 65), none⟩])
 (.cond (.tmp 66) (.skip)
 (.exit 2)))
 (.seq (.block 3 (.seq (.seq (.draw [⟨⟨some 69, .move (.tmp 12), none⟩, .pure, 0, 0⟩,
  ⟨⟨some 70, .bin .gtr (.tmp 69) (.const (.int .i64 0)), none⟩, .pure, 0, 0⟩,
  ⟨⟨some 71, .move (.tmp 70), none⟩, .pure, 0, 0⟩,
  ⟨⟨some 72, .move (.tmp 10), (some (71, true))⟩, .pure, 0, 0⟩,
  ⟨⟨some 73, .move (.tmp 12), (some (71, true))⟩, .pure, 0, 0⟩,
  ⟨⟨some 74, .idx 1 (.tmp 72) (.tmp 73), (some (71, true))⟩, .pure, 0, 0⟩,
  ⟨⟨some 75, .load false 1 (.tmp 74), (some (71, true))⟩, .read, 0, 0⟩,
  ⟨⟨some 76, .move (.tmp 10), (some (71, true))⟩, .pure, 0, 0⟩,
  ⟨⟨some 77, .move (.tmp 12), (some (71, true))⟩, .pure, 0, 0⟩,
  ⟨⟨some 78, .bin .sub (.tmp 77) (.const (.int .i64 1)), (some (71, true))⟩, .pure, 0, 0⟩,
  ⟨⟨some 79, .idx 1 (.tmp 76) (.tmp 78), (some (71, true))⟩, .pure, 0, 0⟩,
  ⟨⟨some 80, .load false 1 (.tmp 79), (some (71, true))⟩, .read, 0, 0⟩,
  ⟨⟨some 81, .bin .leq (.tmp 75) (.tmp 80), (some (71, true))⟩, .pure, 0, 0⟩,
  ⟨⟨some 82, .pick (.tmp 71) (.tmp 81) (.const (.bool false)), none⟩, .pure, 0, 0⟩])
 (.cond (.tmp 82) (.seq (.region [⟨some 4, .move (.const (.bool false)), none⟩])
 (.ret))
 (.skip)))
 (.seq (.region [⟨some 83, .move (.tmp 10), none⟩,
  ⟨some 84, .move (.tmp 12), none⟩,
  ⟨some 85, .idx 1 (.tmp 83) (.tmp 84), none⟩,
  ⟨some 86, .load false 1 (.tmp 85), none⟩,
  ⟨some 87, .move (.tmp 1), none⟩,
  ⟨some 88, .bin .eql (.tmp 86) (.tmp 87), none⟩,
  ⟨some 13, .move (.tmp 88), none⟩])
 (.seq (.seq (.region [⟨some 14, .move (.const (.int .i64 0)), none⟩])
 (.block 4 (.loop L4_2)))
 (.seq (.region [⟨some 117, .move (.tmp 13), none⟩,
  ⟨some 118, .un .not (.tmp 117), none⟩])
 (.cond (.tmp 118) (.seq (.region [⟨some 4, .move (.const (.bool false)), none⟩])
 (.ret))
 (.skip)))))))
 (.region [⟨some 67, .move (.tmp 12), none⟩,
  ⟨some 68, .bin .add (.tmp 67) (.const (.int .i64 1)), none⟩,
  ⟨some 12, .move (.tmp 68), none⟩]))
def L4_4 : LCode :=
 .seq (.seq (.region [⟨some 119, .move (.tmp 15), none⟩,
  ⟨some 120, .move (.tmp 11), none⟩,
  ⟨some 121, .len (.tmp 120), none⟩,
  ⟨some 122, .bin .lss (.tmp 119) (.tmp 121), none⟩])
 (.cond (.tmp 122) (.skip)
 (.exit 6)))
 (.seq (.block 7 (.seq (.region [⟨some 125, .move (.tmp 10), none⟩,
  ⟨some 126, .move (.tmp 11), none⟩,
  ⟨some 127, .move (.tmp 15), none⟩,
  ⟨some 128, .idx 2 (.tmp 126) (.tmp 127), none⟩,
  ⟨some 129, .off 1 (.tmp 128), none⟩,
  ⟨some 130, .load false 1 (.tmp 129), none⟩,
  ⟨some 131, .call 15 [.tmp 125, .tmp 130], none⟩,
  ⟨some 132, .move (.tmp 131), none⟩,
  ⟨some 133, .move (.tmp 10), (some (132, true))⟩,
  ⟨some 134, .move (.tmp 11), (some (132, true))⟩,
  ⟨some 135, .move (.tmp 15), (some (132, true))⟩,
  ⟨some 136, .idx 2 (.tmp 134) (.tmp 135), (some (132, true))⟩,
  ⟨some 137, .off 0 (.tmp 136), (some (132, true))⟩,
  ⟨some 138, .load false 1 (.tmp 137), (some (132, true))⟩,
  ⟨some 139, .call 15 [.tmp 133, .tmp 138], (some (132, true))⟩,
  ⟨some 140, .un .not (.tmp 139), (some (132, true))⟩,
  ⟨some 141, .pick (.tmp 132) (.tmp 140) (.const (.bool false)), none⟩])
 (.cond (.tmp 141) (.seq (.region [⟨some 4, .move (.const (.bool false)), none⟩])
 (.ret))
 (.skip))))
 (.region [⟨some 123, .move (.tmp 15), none⟩,
  ⟨some 124, .bin .add (.tmp 123) (.const (.int .i64 1)), none⟩,
  ⟨some 15, .move (.tmp 124), none⟩]))
def L4_5 : LCode :=
 .seq (.seq (.region [⟨some 142, .move (.tmp 16), none⟩,
  ⟨some 143, .move (.tmp 10), none⟩,
  ⟨some 144, .len (.tmp 143), none⟩,
  ⟨some 145, .bin .lss (.tmp 142) (.tmp 144), none⟩])
 (.cond (.tmp 145) (.skip)
 (.exit 8)))
 (.seq (.block 9 (.region [⟨some 148, .move (.tmp 5), none⟩,
  ⟨some 149, .move (.tmp 10), none⟩,
  ⟨some 150, .move (.tmp 16), none⟩,
  ⟨some 151, .idx 1 (.tmp 149) (.tmp 150), none⟩,
  ⟨some 152, .load false 1 (.tmp 151), none⟩,
  ⟨some 153, .call 10 [.tmp 148, .tmp 152], none⟩]))
 (.region [⟨some 146, .move (.tmp 16), none⟩,
  ⟨some 147, .bin .add (.tmp 146) (.const (.int .i64 1)), none⟩,
  ⟨some 16, .move (.tmp 147), none⟩]))
def L4_6 : LCode :=
 .seq (.seq (.region [⟨some 154, .move (.tmp 17), none⟩,
  ⟨some 155, .move (.tmp 10), none⟩,
  ⟨some 156, .len (.tmp 155), none⟩,
  ⟨some 157, .bin .lss (.tmp 154) (.tmp 156), none⟩])
 (.cond (.tmp 157) (.skip)
 (.exit 10)))
 (.seq (.block 11 (.seq (.region [⟨some 160, .move (.tmp 5), none⟩,
  ⟨some 161, .move (.tmp 10), none⟩,
  ⟨some 162, .move (.tmp 17), none⟩,
  ⟨some 163, .idx 1 (.tmp 161) (.tmp 162), none⟩,
  ⟨some 164, .load false 1 (.tmp 163), none⟩,
  ⟨some 165, .call 16 [.tmp 160, .tmp 164], none⟩,
  ⟨some 166, .len (.tmp 165), none⟩,
  ⟨some 167, .bin .neq (.tmp 166) (.const (.int .i64 0)), none⟩])
 (.cond (.tmp 167) (.seq (.region [⟨some 4, .move (.const (.bool false)), none⟩])
 (.ret))
 (.skip))))
 (.region [⟨some 158, .move (.tmp 17), none⟩,
  ⟨some 159, .bin .add (.tmp 158) (.const (.int .i64 1)), none⟩,
  ⟨some 17, .move (.tmp 159), none⟩]))
def L4 : LCode :=
 .seq (.region [⟨some 4, .move (.const (.bool false)), none⟩])
 (.seq (.seq (.region [⟨some 18, .move (.tmp 0), none⟩,
  ⟨some 19, .len (.tmp 18), none⟩,
  ⟨some 20, .bin .gtr (.tmp 19) (.const (.int .i64 80)), none⟩])
 (.cond (.tmp 20) (.seq (.region [⟨some 4, .move (.const (.bool true)), none⟩])
 (.ret))
 (.skip)))
 (.seq (.region [⟨some 22, .call 6 [.const (.int .i64 512)], none⟩,
  ⟨some 21, .move (.tmp 22), none⟩,
  ⟨some 23, .extract (.tmp 21) 0, none⟩,
  ⟨some 24, .extract (.tmp 21) 1, none⟩,
  ⟨some 5, .move (.tmp 23), none⟩,
  ⟨some 6, .move (.tmp 24), none⟩])
 (.seq (.region [⟨some 26, .call 12 [.const (.int .i64 512)], none⟩,
  ⟨some 25, .move (.tmp 26), none⟩,
  ⟨some 27, .extract (.tmp 25) 0, none⟩,
  ⟨some 28, .extract (.tmp 25) 1, none⟩,
  ⟨some 7, .new 36 2 [.int .i64 0, .slice none 0 0], none⟩,
  ⟨none, .store 2 (.tmp 7) (.tmp 27), none⟩,
  ⟨some 8, .move (.tmp 28), none⟩])
 (.seq (.seq (.region [⟨some 29, .move (.tmp 6), none⟩,
  ⟨some 30, .bin .neq (.tmp 29) (.const (.int .i64 0)), none⟩,
  ⟨some 31, .move (.tmp 30), none⟩,
  ⟨some 32, .move (.tmp 5), (some (31, false))⟩,
  ⟨some 33, .isNil false (.pointer 57) (.tmp 32), (some (31, false))⟩,
  ⟨some 34, .pick (.tmp 31) (.const (.bool true)) (.tmp 33), none⟩])
 (.cond (.tmp 34) (.seq (.region [⟨some 4, .move (.const (.bool false)), none⟩])
 (.ret))
 (.skip)))
 (.seq (.seq (.region [⟨some 9, .move (.const (.int .i64 0)), none⟩])
 (.block 0 (.loop L4_1)))
 (.seq (.region [⟨some 48, .move (.tmp 5), none⟩,
  ⟨some 49, .move (.tmp 1), none⟩,
  ⟨some 50, .call 11 [.tmp 48, .tmp 49], none⟩,
  ⟨some 10, .move (.tmp 50), none⟩])
 (.seq (.seq (.region [⟨some 51, .move (.tmp 10), none⟩,
  ⟨some 52, .len (.tmp 51), none⟩,
  ⟨some 53, .bin .eql (.tmp 52) (.const (.int .i64 0)), none⟩,
  ⟨some 54, .move (.tmp 53), none⟩,
  ⟨some 55, .move (.tmp 10), (some (54, false))⟩,
  ⟨some 56, .idx 1 (.tmp 55) (.const (.int .i64 0)), (some (54, false))⟩,
  ⟨some 57, .load false 1 (.tmp 56), (some (54, false))⟩,
  ⟨some 58, .move (.tmp 1), (some (54, false))⟩,
  ⟨some 59, .bin .neq (.tmp 57) (.tmp 58), (some (54, false))⟩,
  ⟨some 60, .pick (.tmp 54) (.const (.bool true)) (.tmp 59), none⟩])
 (.cond (.tmp 60) (.seq (.region [⟨some 4, .move (.const (.bool false)), none⟩])
 (.ret))
 (.skip)))
 (.seq (.region [⟨some 61, .move (.tmp 5), none⟩,
  ⟨some 62, .call 14 [.tmp 61], none⟩,
  ⟨some 11, .move (.tmp 62), none⟩])
 (.seq (.seq (.region [⟨some 12, .move (.const (.int .i64 0)), none⟩])
 (.block 2 (.loop L4_3)))
 (.seq (.seq (.region [⟨some 15, .move (.const (.int .i64 0)), none⟩])
 (.block 6 (.loop L4_4)))
 (.seq (.seq (.region [⟨some 16, .move (.const (.int .i64 0)), none⟩])
 (.block 8 (.loop L4_5)))
 (.seq (.seq (.region [⟨some 17, .move (.const (.int .i64 0)), none⟩])
 (.block 10 (.loop L4_6)))
 (.seq (.region [⟨some 168, .call 7 [], none⟩,
  ⟨some 4, .move (.tmp 168), none⟩])
 (.ret))))))))))))))
theorem light4 : Light Try.prog 4 2 169 L4 [.tmp 4] :=
  ⟨Try.f4, _, Try.func4, rfl, rfl, by kernel_rfl, by kernel_rfl, by decide⟩

/-! ### function 5: outrider/outriderlaw23.GraphPlays -/
def L5_1 : LCode :=
 .seq (.seq (.region [⟨some 132, .move (.tmp 16), none⟩,
  ⟨some 133, .move (.tmp 14), none⟩,
  ⟨some 134, .len (.tmp 133), none⟩,
  ⟨some 135, .bin .lss (.tmp 132) (.tmp 134), none⟩])
 (.cond (.tmp 135) (.skip)
 (.exit 2)))
 (.seq (.block 3 (.seq (.draw [⟨⟨some 138, .move (.tmp 14), none⟩, .pure, 0, 0⟩,
  ⟨⟨some 139, .move (.tmp 16), none⟩, .pure, 0, 0⟩,
  ⟨⟨some 140, .idx 2 (.tmp 138) (.tmp 139), none⟩, .pure, 0, 0⟩,
  ⟨⟨some 141, .off 0 (.tmp 140), none⟩, .pure, 0, 0⟩,
  ⟨⟨some 142, .load false 1 (.tmp 141), none⟩, .read, 0, 0⟩,
  ⟨⟨some 143, .move (.tmp 15), none⟩, .pure, 0, 0⟩,
  ⟨⟨some 144, .move (.tmp 16), none⟩, .pure, 0, 0⟩,
  ⟨⟨some 145, .idx 2 (.tmp 143) (.tmp 144), none⟩, .pure, 0, 0⟩,
  ⟨⟨some 146, .off 0 (.tmp 145), none⟩, .pure, 0, 0⟩,
  ⟨⟨some 147, .load false 1 (.tmp 146), none⟩, .read, 0, 0⟩,
  ⟨⟨some 148, .bin .neq (.tmp 142) (.tmp 147), none⟩, .pure, 0, 0⟩,
  ⟨⟨some 149, .move (.tmp 148), none⟩, .pure, 0, 0⟩,
  ⟨⟨some 150, .move (.tmp 14), (some (149, false))⟩, .pure, 0, 0⟩,
  ⟨⟨some 151, .move (.tmp 16), (some (149, false))⟩, .pure, 0, 0⟩,
  ⟨⟨some 152, .idx 2 (.tmp 150) (.tmp 151), (some (149, false))⟩, .pure, 0, 0⟩,
  ⟨⟨some 153, .off 1 (.tmp 152), (some (149, false))⟩, .pure, 0, 0⟩,
  ⟨⟨some 154, .load false 1 (.tmp 153), (some (149, false))⟩, .read, 0, 0⟩,
  ⟨⟨some 155, .move (.tmp 15), (some (149, false))⟩, .pure, 0, 0⟩,
  ⟨⟨some 156, .move (.tmp 16), (some (149, false))⟩, .pure, 0, 0⟩,
  ⟨⟨some 157, .idx 2 (.tmp 155) (.tmp 156), (some (149, false))⟩, .pure, 0, 0⟩,
  ⟨⟨some 158, .off 1 (.tmp 157), (some (149, false))⟩, .pure, 0, 0⟩,
  ⟨⟨some 159, .load false 1 (.tmp 158), (some (149, false))⟩, .read, 0, 0⟩,
  ⟨⟨some 160, .bin .neq (.tmp 154) (.tmp 159), (some (149, false))⟩, .pure, 0, 0⟩,
  ⟨⟨some 161, .pick (.tmp 149) (.const (.bool true)) (.tmp 160), none⟩, .pure, 0, 0⟩])
 (.cond (.tmp 161) (.seq (.region [⟨some 6, .move (.const (.bool false)), none⟩])
 (.ret))
 (.skip))))
 (.region [⟨some 136, .move (.tmp 16), none⟩,
  ⟨some 137, .bin .add (.tmp 136) (.const (.int .i64 1)), none⟩,
  ⟨some 16, .move (.tmp 137), none⟩]))
def L5_2 : LCode :=
 .seq (.seq (.region [⟨some 40, .move (.tmp 11), none⟩,
  ⟨some 41, .move (.tmp 1), none⟩,
  ⟨some 42, .len (.tmp 41), none⟩,
  ⟨some 43, .bin .lss (.tmp 40) (.tmp 42), none⟩,
  ⟨some 44, .move (.tmp 43), none⟩,
  ⟨some 45, .move (.tmp 7), (some (44, true))⟩,
  ⟨some 46, .isNil true (.pointer 57) (.tmp 45), (some (44, true))⟩,
  ⟨some 47, .pick (.tmp 44) (.tmp 46) (.const (.bool false)), none⟩])
 (.cond (.tmp 47) (.skip)
 (.exit 0)))
 (.seq (.block 1 (.seq (.region [⟨some 12, .move (.const (.bool false)), none⟩])
 (.seq (.draw [⟨⟨some 51, .move (.tmp 7), none⟩, .pure, 0, 0⟩,
  ⟨⟨some 52, .load true 2 (.tmp 9), none⟩, .read, 0, 0⟩,
  ⟨⟨some 53, .move (.tmp 1), none⟩, .pure, 0, 0⟩,
  ⟨⟨some 54, .move (.tmp 11), none⟩, .pure, 0, 0⟩,
  ⟨⟨some 55, .idx 3 (.tmp 53) (.tmp 54), none⟩, .pure, 0, 0⟩,
  ⟨⟨some 56, .load true 3 (.tmp 55), none⟩, .read, 0, 0⟩,
  ⟨⟨some 57, .call 13 [.tmp 51, .tmp 52, .tmp 56], none⟩, .heavy, 0, 1⟩,
  ⟨⟨some 50, .move (.tmp 57), none⟩, .pure, 1, 1⟩,
  ⟨⟨some 58, .extract (.tmp 50) 0, none⟩, .pure, 1, 1⟩,
  ⟨⟨some 59, .extract (.tmp 50) 1, none⟩, .pure, 1, 2⟩,
  ⟨⟨none, .store 2 (.tmp 9) (.tmp 58), none⟩, .heavy, 1, 2⟩,
  ⟨⟨some 12, .move (.tmp 59), none⟩, .pure, 2, 2⟩])
 (.seq (.region [⟨some 60, .move (.tmp 1), none⟩,
  ⟨some 61, .move (.tmp 11), none⟩,
  ⟨some 62, .idx 3 (.tmp 60) (.tmp 61), none⟩,
  ⟨some 63, .load true 3 (.tmp 62), none⟩,
  ⟨some 13, .new 42 3 [.int .i64 0, .int .i64 0, .int .i64 0], none⟩,
  ⟨none, .store 3 (.tmp 13) (.tmp 63), none⟩])
 (.seq (.seq (.draw [⟨⟨some 64, .move (.tmp 12), none⟩, .pure, 0, 0⟩,
  ⟨⟨some 65, .un .not (.tmp 64), none⟩, .pure, 0, 0⟩,
  ⟨⟨some 66, .move (.tmp 65), none⟩, .pure, 0, 0⟩,
  ⟨⟨some 67, .move (.tmp 7), (some (66, false))⟩, .pure, 0, 0⟩,
  ⟨⟨some 68, .call 9 [.tmp 67], (some (66, false))⟩, .heavy, 0, 1⟩,
  ⟨⟨some 69, .off 1 (.tmp 9), (some (66, false))⟩, .pure, 0, 1⟩,
  ⟨⟨some 70, .load false 1 (.tmp 69), (some (66, false))⟩, .read, 0, 1⟩,
  ⟨⟨some 71, .len (.tmp 70), (some (66, false))⟩, .pure, 0, 1⟩,
  ⟨⟨some 72, .bin .neq (.tmp 68) (.tmp 71), (some (66, false))⟩, .pure, 1, 1⟩,
  ⟨⟨some 73, .pick (.tmp 66) (.const (.bool true)) (.tmp 72), none⟩, .pure, 1, 1⟩,
  ⟨⟨some 74, .move (.tmp 73), none⟩, .pure, 1, 1⟩,
  ⟨⟨some 75, .move (.tmp 7), (some (74, false))⟩, .pure, 1, 1⟩,
  ⟨⟨some 76, .off 1 (.tmp 13), (some (74, false))⟩, .pure, 1, 1⟩,
  ⟨⟨some 77, .load false 1 (.tmp 76), (some (74, false))⟩, .read, 1, 1⟩,
  ⟨⟨some 78, .off 2 (.tmp 13), (some (74, false))⟩, .pure, 1, 1⟩,
  ⟨⟨some 79, .load false 1 (.tmp 78), (some (74, false))⟩, .read, 1, 1⟩,
  ⟨⟨some 80, .call 17 [.tmp 75, .tmp 77, .tmp 79], (some (74, false))⟩, .heavy, 1, 2⟩,
  ⟨⟨some 81, .load true 2 (.tmp 9), (some (74, false))⟩, .read, 1, 2⟩,
  ⟨⟨some 82, .off 1 (.tmp 13), (some (74, false))⟩, .pure, 1, 2⟩,
  ⟨⟨some 83, .load false 1 (.tmp 82), (some (74, false))⟩, .read, 1, 2⟩,
  ⟨⟨some 84, .off 2 (.tmp 13), (some (74, false))⟩, .pure, 1, 2⟩,
  ⟨⟨some 85, .load false 1 (.tmp 84), (some (74, false))⟩, .read, 1, 2⟩,
  ⟨⟨some 86, .call 18 [.tmp 81, .tmp 83, .tmp 85], (some (74, false))⟩, .heavy, 2, 3⟩,
  ⟨⟨some 87, .eqB true (.tmp 80) (.tmp 86), (some (74, false))⟩, .pure, 3, 3⟩,
  ⟨⟨some 88, .pick (.tmp 74) (.const (.bool true)) (.tmp 87), none⟩, .pure, 3, 3⟩,
  ⟨⟨some 89, .move (.tmp 88), none⟩, .pure, 3, 3⟩,
  ⟨⟨some 90, .move (.tmp 7), (some (89, false))⟩, .pure, 3, 3⟩,
  ⟨⟨some 91, .off 2 (.tmp 13), (some (89, false))⟩, .pure, 3, 3⟩,
  ⟨⟨some 92, .load false 1 (.tmp 91), (some (89, false))⟩, .read, 3, 3⟩,
  ⟨⟨some 93, .call 16 [.tmp 90, .tmp 92], (some (89, false))⟩, .heavy, 3, 4⟩,
  ⟨⟨some 94, .load true 2 (.tmp 9), (some (89, false))⟩, .read, 3, 4⟩,
  ⟨⟨some 95, .off 2 (.tmp 13), (some (89, false))⟩, .pure, 3, 4⟩,
  ⟨⟨some 96, .load false 1 (.tmp 95), (some (89, false))⟩, .read, 3, 4⟩,
  ⟨⟨some 97, .call 20 [.tmp 94, .tmp 96], (some (89, false))⟩, .heavy, 4, 5⟩,
  ⟨⟨some 98, .call 19 [.tmp 93, .tmp 97], (some (89, false))⟩, .heavy, 5, 6⟩,
  ⟨⟨some 99, .un .not (.tmp 98), (some (89, false))⟩, .pure, 6, 6⟩,
  ⟨⟨some 100, .pick (.tmp 89) (.const (.bool true)) (.tmp 99), none⟩, .pure, 6, 6⟩,
  ⟨⟨some 101, .move (.tmp 100), none⟩, .pure, 6, 6⟩,
  ⟨⟨some 102, .move (.tmp 7), (some (101, false))⟩, .pure, 6, 6⟩,
  ⟨⟨some 103, .move (.tmp 2), (some (101, false))⟩, .pure, 6, 6⟩,
  ⟨⟨some 104, .call 11 [.tmp 102, .tmp 103], (some (101, false))⟩, .heavy, 6, 7⟩,
  ⟨⟨some 105, .load true 2 (.tmp 9), (some (101, false))⟩, .read, 6, 7⟩,
  ⟨⟨some 106, .move (.tmp 2), (some (101, false))⟩, .pure, 6, 7⟩,
  ⟨⟨some 107, .call 21 [.tmp 105, .tmp 106], (some (101, false))⟩, .heavy, 7, 8⟩,
  ⟨⟨some 108, .call 19 [.tmp 104, .tmp 107], (some (101, false))⟩, .heavy, 8, 9⟩,
  ⟨⟨some 109, .un .not (.tmp 108), (some (101, false))⟩, .pure, 9, 9⟩,
  ⟨⟨some 110, .pick (.tmp 101) (.const (.bool true)) (.tmp 109), none⟩, .pure, 9, 9⟩,
  ⟨⟨some 111, .move (.tmp 110), none⟩, .pure, 9, 9⟩,
  ⟨⟨some 112, .move (.tmp 7), (some (111, false))⟩, .pure, 9, 9⟩,
  ⟨⟨some 113, .off 2 (.tmp 13), (some (111, false))⟩, .pure, 9, 9⟩,
  ⟨⟨some 114, .load false 1 (.tmp 113), (some (111, false))⟩, .read, 9, 9⟩,
  ⟨⟨some 115, .call 11 [.tmp 112, .tmp 114], (some (111, false))⟩, .heavy, 9, 10⟩,
  ⟨⟨some 116, .load true 2 (.tmp 9), (some (111, false))⟩, .read, 9, 10⟩,
  ⟨⟨some 117, .off 2 (.tmp 13), (some (111, false))⟩, .pure, 9, 10⟩,
  ⟨⟨some 118, .load false 1 (.tmp 117), (some (111, false))⟩, .read, 9, 10⟩,
  ⟨⟨some 119, .call 21 [.tmp 116, .tmp 118], (some (111, false))⟩, .heavy, 10, 11⟩,
  ⟨⟨some 120, .call 19 [.tmp 115, .tmp 119], (some (111, false))⟩, .heavy, 11, 12⟩,
  ⟨⟨some 121, .un .not (.tmp 120), (some (111, false))⟩, .pure, 12, 12⟩,
  ⟨⟨some 122, .pick (.tmp 111) (.const (.bool true)) (.tmp 121), none⟩, .pure, 12, 12⟩])
 (.cond (.tmp 122) (.seq (.region [⟨some 6, .move (.const (.bool false)), none⟩])
 (.ret))
 (.skip)))
 (.seq (.draw [⟨⟨some 123, .move (.tmp 7), none⟩, .pure, 0, 0⟩,
  ⟨⟨some 124, .call 14 [.tmp 123], none⟩, .heavy, 0, 1⟩,
  ⟨⟨some 125, .load true 2 (.tmp 9), none⟩, .read, 0, 1⟩,
  ⟨⟨some 126, .call 22 [.tmp 125], none⟩, .heavy, 1, 2⟩,
  ⟨⟨some 14, .move (.tmp 124), none⟩, .pure, 2, 2⟩,
  ⟨⟨some 15, .move (.tmp 126), none⟩, .pure, 2, 2⟩])
 (.seq (.seq (.region [⟨some 127, .move (.tmp 14), none⟩,
  ⟨some 128, .len (.tmp 127), none⟩,
  ⟨some 129, .move (.tmp 15), none⟩,
  ⟨some 130, .len (.tmp 129), none⟩,
  ⟨some 131, .bin .neq (.tmp 128) (.tmp 130), none⟩])
 (.cond (.tmp 131) (.seq (.region [⟨some 6, .move (.const (.bool false)), none⟩])
 (.ret))
 (.skip)))
 (.seq (.region [⟨some 16, .move (.const (.int .i64 0)), none⟩])
 (.block 2 (.loop L5_1))))))))))
 (.region [⟨some 48, .move (.tmp 11), none⟩,
  ⟨some 49, .bin .add (.tmp 48) (.const (.int .i64 1)), none⟩,
  ⟨some 11, .move (.tmp 49), none⟩]))
def L5 : LCode :=
 .seq (.region [⟨some 6, .move (.const (.bool false)), none⟩])
 (.seq (.seq (.region [⟨some 17, .move (.tmp 1), none⟩,
  ⟨some 18, .len (.tmp 17), none⟩,
  ⟨some 19, .bin .gtr (.tmp 18) (.const (.int .i64 80)), none⟩])
 (.cond (.tmp 19) (.seq (.region [⟨some 6, .move (.const (.bool true)), none⟩])
 (.ret))
 (.skip)))
 (.seq (.region [⟨some 21, .move (.tmp 0), none⟩,
  ⟨some 22, .call 6 [.tmp 21], none⟩,
  ⟨some 20, .move (.tmp 22), none⟩,
  ⟨some 23, .extract (.tmp 20) 0, none⟩,
  ⟨some 24, .extract (.tmp 20) 1, none⟩,
  ⟨some 7, .move (.tmp 23), none⟩,
  ⟨some 8, .move (.tmp 24), none⟩])
 (.seq (.region [⟨some 26, .move (.tmp 0), none⟩,
  ⟨some 27, .call 12 [.tmp 26], none⟩,
  ⟨some 25, .move (.tmp 27), none⟩,
  ⟨some 28, .extract (.tmp 25) 0, none⟩,
  ⟨some 29, .extract (.tmp 25) 1, none⟩,
  ⟨some 9, .new 36 2 [.int .i64 0, .slice none 0 0], none⟩,
  ⟨none, .store 2 (.tmp 9) (.tmp 28), none⟩,
  ⟨some 10, .move (.tmp 29), none⟩])
 (.seq (.seq (.region [⟨some 30, .move (.tmp 8), none⟩,
  ⟨some 31, .move (.tmp 10), none⟩,
  ⟨some 32, .bin .neq (.tmp 30) (.tmp 31), none⟩,
  ⟨some 33, .move (.tmp 32), none⟩,
  ⟨some 34, .move (.tmp 7), (some (33, false))⟩,
  ⟨some 35, .isNil false (.pointer 57) (.tmp 34), (some (33, false))⟩,
  ⟨some 36, .move (.tmp 10), (some (33, false))⟩,
  ⟨some 37, .bin .neq (.tmp 36) (.const (.int .i64 0)), (some (33, false))⟩,
  ⟨some 38, .eqB true (.tmp 35) (.tmp 37), (some (33, false))⟩,
  ⟨some 39, .pick (.tmp 33) (.const (.bool true)) (.tmp 38), none⟩])
 (.cond (.tmp 39) (.seq (.region [⟨some 6, .move (.const (.bool false)), none⟩])
 (.ret))
 (.skip)))
 (.seq (.seq (.region [⟨some 11, .move (.const (.int .i64 0)), none⟩])
 (.block 0 (.loop L5_2)))
 (.seq (.region [⟨some 162, .call 7 [], none⟩,
  ⟨some 6, .move (.tmp 162), none⟩])
 (.ret)))))))
theorem light5 : Light Try.prog 5 3 163 L5 [.tmp 6] :=
  ⟨Try.f5, _, Try.func5, rfl, rfl, by kernel_rfl, by kernel_rfl, by decide⟩

/-! ### function 6: outrider/graph.New -/
def L6 : LCode :=
 .seq (.region [⟨some 2, .move (.const (.pointer none)), none⟩,
  ⟨some 3, .move (.const (.int .i64 0)), none⟩])
 (.seq (.seq (.region [⟨some 4, .move (.tmp 0), none⟩,
  ⟨some 5, .bin .lss (.tmp 4) (.const (.int .i64 1)), none⟩,
  ⟨some 6, .move (.tmp 5), none⟩,
  ⟨some 7, .move (.tmp 0), (some (6, false))⟩,
  ⟨some 8, .bin .gtr (.tmp 7) (.const (.int .i64 512)), (some (6, false))⟩,
  ⟨some 9, .pick (.tmp 6) (.const (.bool true)) (.tmp 8), none⟩])
 (.cond (.tmp 9) (.seq (.region [⟨some 2, .move (.const (.pointer none)), none⟩,
  ⟨some 3, .move (.const (.int .i64 161)), none⟩])
 (.ret))
 (.skip)))
 (.seq (.region [⟨some 10, .move (.tmp 0), none⟩,
  ⟨some 11, .build [.int .i64 0, .slice none 0 0] [(0, 1, .tmp 10)], none⟩,
  ⟨some 12, .box 57 2 (.tmp 11), none⟩,
  ⟨some 2, .move (.tmp 12), none⟩,
  ⟨some 3, .move (.const (.int .i64 0)), none⟩])
 (.ret)))
theorem light6 : Light Try.prog 6 1 13 L6 [.tmp 2, .tmp 3] :=
  ⟨Try.f6, _, Try.func6, rfl, rfl, by kernel_rfl, by kernel_rfl, by decide⟩

/-! ### function 7: outrider/outriderlaw23.alive -/
def L7 : LCode :=
 .seq (.region [⟨some 0, .move (.const (.bool false)), none⟩])
 (.seq (.region [⟨some 8, .call 6 [.const (.int .i64 9)], none⟩,
  ⟨some 7, .move (.tmp 8), none⟩,
  ⟨some 9, .extract (.tmp 7) 0, none⟩,
  ⟨some 10, .extract (.tmp 7) 1, none⟩,
  ⟨some 1, .move (.tmp 9), none⟩,
  ⟨some 2, .move (.tmp 10), none⟩])
 (.seq (.seq (.region [⟨some 11, .move (.tmp 2), none⟩,
  ⟨some 12, .bin .neq (.tmp 11) (.const (.int .i64 0)), none⟩,
  ⟨some 13, .move (.tmp 12), none⟩,
  ⟨some 14, .move (.tmp 1), (some (13, false))⟩,
  ⟨some 15, .isNil false (.pointer 57) (.tmp 14), (some (13, false))⟩,
  ⟨some 16, .pick (.tmp 13) (.const (.bool true)) (.tmp 15), none⟩])
 (.cond (.tmp 16) (.seq (.region [⟨some 0, .move (.const (.bool false)), none⟩])
 (.ret))
 (.skip)))
 (.seq (.region [⟨some 17, .move (.tmp 1), none⟩,
  ⟨some 18, .call 8 [.tmp 17, .const (.int .i64 3), .const (.int .i64 1)], none⟩,
  ⟨some 19, .move (.tmp 1), none⟩,
  ⟨some 20, .call 8 [.tmp 19, .const (.int .i64 5), .const (.int .i64 3)], none⟩,
  ⟨some 21, .move (.tmp 1), none⟩,
  ⟨some 22, .call 8 [.tmp 21, .const (.int .i64 4), .const (.int .i64 2)], none⟩,
  ⟨some 23, .move (.tmp 1), none⟩,
  ⟨some 24, .call 8 [.tmp 23, .const (.int .i64 1), .const (.int .i64 3)], none⟩,
  ⟨some 3, .move (.tmp 18), none⟩,
  ⟨some 4, .move (.tmp 20), none⟩,
  ⟨some 5, .move (.tmp 22), none⟩,
  ⟨some 6, .move (.tmp 24), none⟩])
 (.seq (.region [⟨some 25, .move (.tmp 3), none⟩,
  ⟨some 26, .bin .eql (.tmp 25) (.const (.int .i64 0)), none⟩,
  ⟨some 27, .move (.tmp 26), none⟩,
  ⟨some 28, .move (.tmp 4), (some (27, true))⟩,
  ⟨some 29, .bin .eql (.tmp 28) (.const (.int .i64 0)), (some (27, true))⟩,
  ⟨some 30, .pick (.tmp 27) (.tmp 29) (.const (.bool false)), none⟩,
  ⟨some 31, .move (.tmp 30), none⟩,
  ⟨some 32, .move (.tmp 5), (some (31, true))⟩,
  ⟨some 33, .bin .eql (.tmp 32) (.const (.int .i64 0)), (some (31, true))⟩,
  ⟨some 34, .pick (.tmp 31) (.tmp 33) (.const (.bool false)), none⟩,
  ⟨some 35, .move (.tmp 34), none⟩,
  ⟨some 36, .move (.tmp 6), (some (35, true))⟩,
  ⟨some 37, .bin .eql (.tmp 36) (.const (.int .i64 230)), (some (35, true))⟩,
  ⟨some 38, .pick (.tmp 35) (.tmp 37) (.const (.bool false)), none⟩,
  ⟨some 39, .move (.tmp 38), none⟩,
  ⟨some 40, .move (.tmp 1), (some (39, true))⟩,
  ⟨some 41, .call 11 [.tmp 40, .const (.int .i64 1)], (some (39, true))⟩,
  ⟨some 42, .buildSlice 3 1 3 [.int .i64 0] [(0, 1, .const (.int .i64 1)), (1, 1, .const (.int .i64 3)), (2, 1, .const (.int .i64 5))], (some (39, true))⟩,
  ⟨some 43, .call 19 [.tmp 41, .tmp 42], (some (39, true))⟩,
  ⟨some 44, .pick (.tmp 39) (.tmp 43) (.const (.bool false)), none⟩,
  ⟨some 45, .move (.tmp 44), none⟩,
  ⟨some 46, .move (.tmp 1), (some (45, true))⟩,
  ⟨some 47, .call 16 [.tmp 46, .const (.int .i64 2)], (some (45, true))⟩,
  ⟨some 48, .buildSlice 3 1 1 [.int .i64 0] [(0, 1, .const (.int .i64 4))], (some (45, true))⟩,
  ⟨some 49, .call 19 [.tmp 47, .tmp 48], (some (45, true))⟩,
  ⟨some 50, .pick (.tmp 45) (.tmp 49) (.const (.bool false)), none⟩,
  ⟨some 51, .move (.tmp 50), none⟩,
  ⟨some 52, .move (.tmp 1), (some (51, true))⟩,
  ⟨some 53, .call 10 [.tmp 52, .const (.int .i64 3)], (some (51, true))⟩,
  ⟨some 54, .bin .eql (.tmp 53) (.const (.int .i64 2)), (some (51, true))⟩,
  ⟨some 55, .pick (.tmp 51) (.tmp 54) (.const (.bool false)), none⟩,
  ⟨some 56, .move (.tmp 55), none⟩,
  ⟨some 57, .move (.tmp 1), (some (56, true))⟩,
  ⟨some 58, .call 11 [.tmp 57, .const (.int .i64 1)], (some (56, true))⟩,
  ⟨some 59, .buildSlice 3 1 1 [.int .i64 0] [(0, 1, .const (.int .i64 1))], (some (56, true))⟩,
  ⟨some 60, .call 19 [.tmp 58, .tmp 59], (some (56, true))⟩,
  ⟨some 61, .pick (.tmp 56) (.tmp 60) (.const (.bool false)), none⟩,
  ⟨some 62, .move (.tmp 61), none⟩,
  ⟨some 63, .move (.tmp 1), (some (62, true))⟩,
  ⟨some 64, .call 9 [.tmp 63], (some (62, true))⟩,
  ⟨some 65, .bin .eql (.tmp 64) (.const (.int .i64 1)), (some (62, true))⟩,
  ⟨some 66, .pick (.tmp 62) (.tmp 65) (.const (.bool false)), none⟩,
  ⟨some 0, .move (.tmp 66), none⟩])
 (.ret)))))
theorem light7 : Light Try.prog 7 0 67 L7 [.tmp 0] :=
  ⟨Try.f7, _, Try.func7, rfl, rfl, by kernel_rfl, by kernel_rfl, by decide⟩

/-! ### function 8: (*outrider/graph.Graph).Add -/
def L8 : LCode :=
 .seq (.region [⟨some 6, .move (.const (.int .i64 0)), none⟩])
 (.seq (.region [⟨some 10, .move (.tmp 1), none⟩,
  ⟨some 11, .move (.tmp 2), none⟩,
  ⟨some 12, .build [.int .i64 0, .int .i64 0] [(0, 1, .tmp 10), (1, 1, .tmp 11)], none⟩,
  ⟨some 7, .new 46 2 [.int .i64 0, .int .i64 0], none⟩,
  ⟨none, .store 2 (.tmp 7) (.tmp 12), none⟩])
 (.seq (.seq (.region [⟨some 13, .move (.tmp 2), none⟩,
  ⟨some 14, .bin .lss (.tmp 13) (.const (.int .i64 0)), none⟩,
  ⟨some 15, .move (.tmp 14), none⟩,
  ⟨some 16, .move (.tmp 2), (some (15, false))⟩,
  ⟨some 17, .move (.tmp 1), (some (15, false))⟩,
  ⟨some 18, .bin .geq (.tmp 16) (.tmp 17), (some (15, false))⟩,
  ⟨some 19, .pick (.tmp 15) (.const (.bool true)) (.tmp 18), none⟩])
 (.cond (.tmp 19) (.seq (.region [⟨some 6, .move (.const (.int .i64 230)), none⟩])
 (.ret))
 (.skip)))
 (.seq (.region [⟨some 21, .move (.tmp 0), none⟩,
  ⟨some 22, .load true 2 (.tmp 7), none⟩,
  ⟨some 23, .call 23 [.tmp 21, .tmp 22], none⟩,
  ⟨some 20, .move (.tmp 23), none⟩,
  ⟨some 24, .extract (.tmp 20) 0, none⟩,
  ⟨some 25, .extract (.tmp 20) 1, none⟩,
  ⟨some 8, .move (.tmp 24), none⟩,
  ⟨some 9, .move (.tmp 25), none⟩])
 (.seq (.seq (.region [⟨some 26, .move (.tmp 9), none⟩])
 (.cond (.tmp 26) (.seq (.region [⟨some 6, .move (.const (.int .i64 0)), none⟩])
 (.ret))
 (.skip)))
 (.seq (.seq (.draw [⟨⟨some 27, .move (.tmp 0), none⟩, .pure, 0, 0⟩,
  ⟨⟨some 28, .nilCheck (.tmp 27), none⟩, .pure, 0, 0⟩,
  ⟨⟨some 29, .off 1 (.tmp 28), none⟩, .pure, 0, 0⟩,
  ⟨⟨some 30, .load false 1 (.tmp 29), none⟩, .read, 0, 0⟩,
  ⟨⟨some 31, .len (.tmp 30), none⟩, .pure, 0, 0⟩,
  ⟨⟨some 32, .move (.tmp 0), none⟩, .pure, 0, 0⟩,
  ⟨⟨some 33, .nilCheck (.tmp 32), none⟩, .pure, 0, 0⟩,
  ⟨⟨some 34, .off 0 (.tmp 33), none⟩, .pure, 0, 0⟩,
  ⟨⟨some 35, .load false 1 (.tmp 34), none⟩, .read, 0, 0⟩,
  ⟨⟨some 36, .bin .eql (.tmp 31) (.tmp 35), none⟩, .pure, 0, 0⟩])
 (.cond (.tmp 36) (.seq (.region [⟨some 6, .move (.const (.int .i64 200)), none⟩])
 (.ret))
 (.skip)))
 (.seq (.region [⟨some 37, .move (.tmp 0), none⟩,
  ⟨some 38, .move (.tmp 0), none⟩,
  ⟨some 39, .nilCheck (.tmp 38), none⟩,
  ⟨some 40, .off 1 (.tmp 39), none⟩,
  ⟨some 41, .load false 1 (.tmp 40), none⟩,
  ⟨some 42, .build [.int .i64 0, .int .i64 0] [], none⟩,
  ⟨some 43, .buildSlice 46 2 1 [.int .i64 0, .int .i64 0] [(0, 2, .tmp 42)], none⟩,
  ⟨some 44, .append 46 2 16 (.tmp 41) (.tmp 43), none⟩,
  ⟨some 45, .nilCheck (.tmp 37), none⟩,
  ⟨some 46, .off 1 (.tmp 45), none⟩,
  ⟨none, .store 1 (.tmp 46) (.tmp 44), none⟩])
 (.seq (.draw [⟨⟨some 47, .move (.tmp 0), none⟩, .pure, 0, 0⟩,
  ⟨⟨some 48, .nilCheck (.tmp 47), none⟩, .pure, 0, 0⟩,
  ⟨⟨some 49, .off 1 (.tmp 48), none⟩, .pure, 0, 0⟩,
  ⟨⟨some 50, .load false 1 (.tmp 49), none⟩, .read, 0, 0⟩,
  ⟨⟨some 51, .move (.tmp 8), none⟩, .pure, 0, 0⟩,
  ⟨⟨some 52, .bin .add (.tmp 51) (.const (.int .i64 1)), none⟩, .pure, 0, 0⟩,
  ⟨⟨some 53, .slice 2 (.tmp 50) (some (.tmp 52)) none none, none⟩, .pure, 0, 0⟩,
  ⟨⟨some 54, .move (.tmp 0), none⟩, .pure, 0, 0⟩,
  ⟨⟨some 55, .nilCheck (.tmp 54), none⟩, .pure, 0, 0⟩,
  ⟨⟨some 56, .off 1 (.tmp 55), none⟩, .pure, 0, 0⟩,
  ⟨⟨some 57, .load false 1 (.tmp 56), none⟩, .read, 0, 0⟩,
  ⟨⟨some 58, .move (.tmp 8), none⟩, .pure, 0, 0⟩,
  ⟨⟨some 59, .slice 2 (.tmp 57) (some (.tmp 58)) none none, none⟩, .pure, 0, 0⟩,
  ⟨⟨some 60, .copy 2 (.tmp 53) (.tmp 59), none⟩, .heavy, 0, 1⟩])
 (.seq (.draw [⟨⟨some 61, .move (.tmp 0), none⟩, .pure, 0, 0⟩,
  ⟨⟨some 62, .nilCheck (.tmp 61), none⟩, .pure, 0, 0⟩,
  ⟨⟨some 63, .off 1 (.tmp 62), none⟩, .pure, 0, 0⟩,
  ⟨⟨some 64, .load false 1 (.tmp 63), none⟩, .read, 0, 0⟩,
  ⟨⟨some 65, .move (.tmp 8), none⟩, .pure, 0, 0⟩,
  ⟨⟨some 66, .load true 2 (.tmp 7), none⟩, .read, 0, 0⟩,
  ⟨⟨some 67, .idx 2 (.tmp 64) (.tmp 65), none⟩, .pure, 0, 0⟩,
  ⟨⟨none, .store 2 (.tmp 67) (.tmp 66), none⟩, .heavy, 0, 1⟩])
 (.seq (.region [⟨some 6, .move (.const (.int .i64 0)), none⟩])
 (.ret))))))))))
theorem light8 : Light Try.prog 8 3 68 L8 [.tmp 6] :=
  ⟨Try.f8, _, Try.func8, rfl, rfl, by kernel_rfl, by kernel_rfl, by decide⟩

/-! ### function 9: (*outrider/graph.Graph).Len -/
def L9 : LCode :=
 .seq (.region [⟨some 2, .move (.const (.int .i64 0)), none⟩])
 (.seq (.region [⟨some 3, .move (.tmp 0), none⟩,
  ⟨some 4, .nilCheck (.tmp 3), none⟩,
  ⟨some 5, .off 1 (.tmp 4), none⟩,
  ⟨some 6, .load false 1 (.tmp 5), none⟩,
  ⟨some 7, .len (.tmp 6), none⟩,
  ⟨some 2, .move (.tmp 7), none⟩])
 (.ret))
theorem light9 : Light Try.prog 9 1 8 L9 [.tmp 2] :=
  ⟨Try.f9, _, Try.func9, rfl, rfl, by kernel_rfl, by kernel_rfl, by decide⟩

/-! ### function 10: (*outrider/graph.Graph).Remove -/
def L10_1 : LCode :=
 .seq (.region [⟨some 15, .bin .lss (.tmp 14) (.tmp 13), none⟩])
 (.seq (.cond (.tmp 15) (.skip)
 (.exit 0))
 (.seq (.block 1 (.seq (.region [⟨some 16, .idx 2 (.tmp 12) (.tmp 14), none⟩,
  ⟨some 17, .load true 2 (.tmp 16), none⟩,
  ⟨some 7, .new 46 2 [.int .i64 0, .int .i64 0], none⟩,
  ⟨none, .store 2 (.tmp 7) (.tmp 17), none⟩])
 (.seq (.region [⟨some 18, .off 0 (.tmp 7), none⟩,
  ⟨some 19, .load false 1 (.tmp 18), none⟩,
  ⟨some 20, .move (.tmp 1), none⟩,
  ⟨some 21, .bin .neq (.tmp 19) (.tmp 20), none⟩,
  ⟨some 22, .move (.tmp 21), none⟩,
  ⟨some 23, .off 1 (.tmp 7), (some (22, true))⟩,
  ⟨some 24, .load false 1 (.tmp 23), (some (22, true))⟩,
  ⟨some 25, .move (.tmp 1), (some (22, true))⟩,
  ⟨some 26, .bin .neq (.tmp 24) (.tmp 25), (some (22, true))⟩,
  ⟨some 27, .pick (.tmp 22) (.tmp 26) (.const (.bool false)), none⟩])
 (.cond (.tmp 27) (.region [⟨some 28, .move (.tmp 5), none⟩,
  ⟨some 29, .load true 2 (.tmp 7), none⟩,
  ⟨some 30, .buildSlice 46 2 1 [.int .i64 0, .int .i64 0] [(0, 2, .tmp 29)], none⟩,
  ⟨some 31, .append 46 2 16 (.tmp 28) (.tmp 30), none⟩,
  ⟨some 5, .move (.tmp 31), none⟩])
 (.skip)))))
 (.region [⟨some 32, .bin .add (.tmp 14) (.const (.int .i64 1)), none⟩,
  ⟨some 14, .move (.tmp 32), none⟩])))
def L10 : LCode :=
 .seq (.region [⟨some 4, .move (.const (.int .i64 0)), none⟩])
 (.seq (.region [⟨some 5, .move (.const (.slice none 0 0)), none⟩])
 (.seq (.seq (.region [⟨some 9, .move (.tmp 0), none⟩,
  ⟨some 10, .nilCheck (.tmp 9), none⟩,
  ⟨some 11, .off 1 (.tmp 10), none⟩,
  ⟨some 12, .load false 1 (.tmp 11), none⟩,
  ⟨some 13, .len (.tmp 12), none⟩,
  ⟨some 14, .move (.const (.int .i64 0)), none⟩])
 (.block 0 (.loop L10_1)))
 (.seq (.region [⟨some 33, .move (.tmp 0), none⟩,
  ⟨some 34, .nilCheck (.tmp 33), none⟩,
  ⟨some 35, .off 1 (.tmp 34), none⟩,
  ⟨some 36, .load false 1 (.tmp 35), none⟩,
  ⟨some 37, .len (.tmp 36), none⟩,
  ⟨some 38, .move (.tmp 5), none⟩,
  ⟨some 39, .len (.tmp 38), none⟩,
  ⟨some 40, .bin .sub (.tmp 37) (.tmp 39), none⟩,
  ⟨some 8, .move (.tmp 40), none⟩])
 (.seq (.region [⟨some 41, .move (.tmp 0), none⟩,
  ⟨some 42, .move (.tmp 5), none⟩,
  ⟨some 43, .nilCheck (.tmp 41), none⟩,
  ⟨some 44, .off 1 (.tmp 43), none⟩,
  ⟨none, .store 1 (.tmp 44) (.tmp 42), none⟩])
 (.seq (.region [⟨some 45, .move (.tmp 8), none⟩,
  ⟨some 4, .move (.tmp 45), none⟩])
 (.ret))))))
theorem light10 : Light Try.prog 10 2 46 L10 [.tmp 4] :=
  ⟨Try.f10, _, Try.func10, rfl, rfl, by kernel_rfl, by kernel_rfl, by decide⟩

/-! ### function 11: (*outrider/graph.Graph).Fall -/
def L11_1 : LCode :=
 .seq (.region [⟨some 44, .bin .lss (.tmp 43) (.tmp 42), none⟩])
 (.seq (.cond (.tmp 44) (.skip)
 (.exit 2))
 (.seq (.block 3 (.seq (.region [⟨some 45, .idx 1 (.tmp 41) (.tmp 43), none⟩,
  ⟨some 46, .load false 1 (.tmp 45), none⟩,
  ⟨some 9, .move (.tmp 46), none⟩])
 (.region [⟨some 47, .move (.tmp 5), none⟩,
  ⟨some 48, .iface 60 (.tmp 47), none⟩,
  ⟨some 49, .move (.tmp 9), none⟩,
  ⟨some 50, .iface 3 (.tmp 49), none⟩,
  ⟨some 51, .call 26 [.tmp 48, .tmp 50], none⟩])))
 (.region [⟨some 52, .bin .add (.tmp 43) (.const (.int .i64 1)), none⟩,
  ⟨some 43, .move (.tmp 52), none⟩])))
def L11_2 : LCode :=
 .seq (.seq (.region [⟨some 13, .move (.tmp 5), none⟩,
  ⟨some 14, .nilCheck (.tmp 13), none⟩,
  ⟨some 15, .load false 1 (.tmp 14), none⟩,
  ⟨some 16, .call 24 [.tmp 15], none⟩,
  ⟨some 17, .bin .gtr (.tmp 16) (.const (.int .i64 0)), none⟩])
 (.cond (.tmp 17) (.skip)
 (.exit 0)))
 (.block 1 (.seq (.region [⟨some 18, .move (.tmp 5), none⟩,
  ⟨some 19, .iface 60 (.tmp 18), none⟩,
  ⟨some 20, .call 25 [.tmp 19], none⟩,
  ⟨some 21, .assert 3 (.int .i64 0) false (.tmp 20), none⟩,
  ⟨some 7, .move (.tmp 21), none⟩])
 (.seq (.seq (.region [⟨some 22, .move (.tmp 6), none⟩,
  ⟨some 23, .len (.tmp 22), none⟩,
  ⟨some 24, .bin .gtr (.tmp 23) (.const (.int .i64 0)), none⟩,
  ⟨some 25, .move (.tmp 24), none⟩,
  ⟨some 26, .move (.tmp 6), (some (25, true))⟩,
  ⟨some 27, .move (.tmp 6), (some (25, true))⟩,
  ⟨some 28, .len (.tmp 27), (some (25, true))⟩,
  ⟨some 29, .bin .sub (.tmp 28) (.const (.int .i64 1)), (some (25, true))⟩,
  ⟨some 30, .idx 1 (.tmp 26) (.tmp 29), (some (25, true))⟩,
  ⟨some 31, .load false 1 (.tmp 30), (some (25, true))⟩,
  ⟨some 32, .move (.tmp 7), (some (25, true))⟩,
  ⟨some 33, .bin .eql (.tmp 31) (.tmp 32), (some (25, true))⟩,
  ⟨some 34, .pick (.tmp 25) (.tmp 33) (.const (.bool false)), none⟩])
 (.cond (.tmp 34) (.exit 1)
 (.skip)))
 (.seq (.region [⟨some 35, .move (.tmp 6), none⟩,
  ⟨some 36, .move (.tmp 7), none⟩,
  ⟨some 37, .buildSlice 3 1 1 [.int .i64 0] [(0, 1, .tmp 36)], none⟩,
  ⟨some 38, .append 3 1 8 (.tmp 35) (.tmp 37), none⟩,
  ⟨some 6, .move (.tmp 38), none⟩])
 (.seq (.region [⟨some 39, .move (.tmp 0), none⟩,
  ⟨some 40, .move (.tmp 7), none⟩,
  ⟨some 41, .call 16 [.tmp 39, .tmp 40], none⟩,
  ⟨some 42, .len (.tmp 41), none⟩,
  ⟨some 43, .move (.const (.int .i64 0)), none⟩])
 (.block 2 (.loop L11_1)))))))
def L11 : LCode :=
 .seq (.region [⟨some 4, .move (.const (.slice none 0 0)), none⟩])
 (.seq (.region [⟨some 10, .move (.tmp 1), none⟩,
  ⟨some 11, .buildSlice 3 1 1 [.int .i64 0] [(0, 1, .tmp 10)], none⟩,
  ⟨some 12, .box 61 1 (.tmp 11), none⟩,
  ⟨some 5, .move (.tmp 12), none⟩])
 (.seq (.region [⟨some 6, .move (.const (.slice none 0 0)), none⟩])
 (.seq (.block 0 (.loop L11_2))
 (.seq (.region [⟨some 53, .move (.tmp 6), none⟩,
  ⟨some 4, .move (.tmp 53), none⟩])
 (.ret)))))
theorem light11 : Light Try.prog 11 2 54 L11 [.tmp 4] :=
  ⟨Try.f11, _, Try.func11, rfl, rfl, by kernel_rfl, by kernel_rfl, by decide⟩

/-! ### function 12: outrider/outriderref23.New -/
def L12 : LCode :=
 .seq (.region [⟨some 2, .new 36 2 [.int .i64 0, .slice none 0 0], none⟩,
  ⟨some 3, .move (.const (.int .i64 0)), none⟩])
 (.seq (.seq (.region [⟨some 4, .move (.tmp 0), none⟩,
  ⟨some 5, .bin .lss (.tmp 4) (.const (.int .i64 1)), none⟩,
  ⟨some 6, .move (.tmp 5), none⟩,
  ⟨some 7, .move (.tmp 0), (some (6, false))⟩,
  ⟨some 8, .bin .gtr (.tmp 7) (.const (.int .i64 512)), (some (6, false))⟩,
  ⟨some 9, .pick (.tmp 6) (.const (.bool true)) (.tmp 8), none⟩])
 (.cond (.tmp 9) (.seq (.region [⟨some 10, .build [.int .i64 0, .slice none 0 0] [], none⟩,
  ⟨none, .store 2 (.tmp 2) (.tmp 10), none⟩,
  ⟨some 3, .move (.const (.int .i64 161)), none⟩])
 (.ret))
 (.skip)))
 (.seq (.region [⟨some 11, .move (.tmp 0), none⟩,
  ⟨some 12, .build [.int .i64 0, .slice none 0 0] [(0, 1, .tmp 11)], none⟩,
  ⟨none, .store 2 (.tmp 2) (.tmp 12), none⟩,
  ⟨some 3, .move (.const (.int .i64 0)), none⟩])
 (.ret)))
theorem light12 : Light Try.prog 12 1 13 L12 [.cell 2 true 2, .tmp 3] :=
  ⟨Try.f12, _, Try.func12, rfl, rfl, by kernel_rfl, by kernel_rfl, by decide⟩

/-! ### function 13: outrider/outriderlaw23.one -/
def L13 : LCode :=
 .seq (.region [⟨some 4, .box 36 2 (.tmp 1), none⟩,
  ⟨some 5, .box 42 3 (.tmp 2), none⟩,
  ⟨some 6, .new 36 2 [.int .i64 0, .slice none 0 0], none⟩,
  ⟨some 7, .move (.const (.bool false)), none⟩])
 (.seq (.seq (.region [⟨some 12, .off 0 (.tmp 5), none⟩,
  ⟨some 13, .load false 1 (.tmp 12), none⟩,
  ⟨some 14, .bin .rem (.tmp 13) (.const (.int .i64 4)), none⟩,
  ⟨some 15, .bin .add (.tmp 14) (.const (.int .i64 4)), none⟩,
  ⟨some 16, .bin .rem (.tmp 15) (.const (.int .i64 4)), none⟩,
  ⟨some 17, .bin .eql (.tmp 16) (.const (.int .i64 3)), none⟩])
 (.cond (.tmp 17) (.seq (.region [⟨some 19, .load true 2 (.tmp 4), none⟩,
  ⟨some 20, .off 2 (.tmp 5), none⟩,
  ⟨some 21, .load false 1 (.tmp 20), none⟩,
  ⟨some 22, .call 27 [.tmp 19, .tmp 21], none⟩,
  ⟨some 18, .move (.tmp 22), none⟩,
  ⟨some 23, .extract (.tmp 18) 0, none⟩,
  ⟨some 24, .extract (.tmp 18) 1, none⟩,
  ⟨some 8, .new 36 2 [.int .i64 0, .slice none 0 0], none⟩,
  ⟨none, .store 2 (.tmp 8) (.tmp 23), none⟩,
  ⟨some 9, .move (.tmp 24), none⟩])
 (.seq (.draw [⟨⟨some 25, .load true 2 (.tmp 8), none⟩, .read, 0, 1⟩,
  ⟨⟨some 26, .move (.tmp 0), none⟩, .pure, 0, 0⟩,
  ⟨⟨some 27, .off 2 (.tmp 5), none⟩, .pure, 0, 0⟩,
  ⟨⟨some 28, .load false 1 (.tmp 27), none⟩, .read, 0, 0⟩,
  ⟨⟨some 29, .call 10 [.tmp 26, .tmp 28], none⟩, .heavy, 0, 1⟩,
  ⟨⟨some 30, .move (.tmp 9), none⟩, .pure, 0, 2⟩,
  ⟨⟨some 31, .bin .eql (.tmp 29) (.tmp 30), none⟩, .pure, 1, 2⟩,
  ⟨⟨none, .store 2 (.tmp 6) (.tmp 25), none⟩, .heavy, 1, 2⟩,
  ⟨⟨some 7, .move (.tmp 31), none⟩, .pure, 2, 2⟩])
 (.ret)))
 (.skip)))
 (.seq (.region [⟨some 33, .load true 2 (.tmp 4), none⟩,
  ⟨some 34, .off 1 (.tmp 5), none⟩,
  ⟨some 35, .load false 1 (.tmp 34), none⟩,
  ⟨some 36, .off 2 (.tmp 5), none⟩,
  ⟨some 37, .load false 1 (.tmp 36), none⟩,
  ⟨some 38, .call 28 [.tmp 33, .tmp 35, .tmp 37], none⟩,
  ⟨some 32, .move (.tmp 38), none⟩,
  ⟨some 39, .extract (.tmp 32) 0, none⟩,
  ⟨some 40, .extract (.tmp 32) 1, none⟩,
  ⟨some 10, .new 36 2 [.int .i64 0, .slice none 0 0], none⟩,
  ⟨none, .store 2 (.tmp 10) (.tmp 39), none⟩,
  ⟨some 11, .move (.tmp 40), none⟩])
 (.seq (.draw [⟨⟨some 41, .load true 2 (.tmp 10), none⟩, .read, 0, 1⟩,
  ⟨⟨some 42, .move (.tmp 0), none⟩, .pure, 0, 0⟩,
  ⟨⟨some 43, .off 1 (.tmp 5), none⟩, .pure, 0, 0⟩,
  ⟨⟨some 44, .load false 1 (.tmp 43), none⟩, .read, 0, 0⟩,
  ⟨⟨some 45, .off 2 (.tmp 5), none⟩, .pure, 0, 0⟩,
  ⟨⟨some 46, .load false 1 (.tmp 45), none⟩, .read, 0, 0⟩,
  ⟨⟨some 47, .call 8 [.tmp 42, .tmp 44, .tmp 46], none⟩, .heavy, 0, 1⟩,
  ⟨⟨some 48, .move (.tmp 11), none⟩, .pure, 0, 2⟩,
  ⟨⟨some 49, .bin .eql (.tmp 47) (.tmp 48), none⟩, .pure, 1, 2⟩,
  ⟨⟨none, .store 2 (.tmp 6) (.tmp 41), none⟩, .heavy, 1, 2⟩,
  ⟨⟨some 7, .move (.tmp 49), none⟩, .pure, 2, 2⟩])
 (.ret))))
theorem light13 : Light Try.prog 13 3 50 L13 [.cell 6 true 2, .tmp 7] :=
  ⟨Try.f13, _, Try.func13, rfl, rfl, by kernel_rfl, by kernel_rfl, by decide⟩

/-! ### function 14: (*outrider/graph.Graph).Edges -/
def L14 : LCode :=
 .seq (.region [⟨some 2, .move (.const (.slice none 0 0)), none⟩])
 (.seq (.region [⟨some 3, .move (.tmp 0), none⟩,
  ⟨some 4, .nilCheck (.tmp 3), none⟩,
  ⟨some 5, .off 1 (.tmp 4), none⟩,
  ⟨some 6, .load false 1 (.tmp 5), none⟩,
  ⟨some 7, .append 46 2 16 (.const (.slice none 0 0)) (.tmp 6), none⟩,
  ⟨some 2, .move (.tmp 7), none⟩])
 (.ret))
theorem light14 : Light Try.prog 14 1 8 L14 [.tmp 2] :=
  ⟨Try.f14, _, Try.func14, rfl, rfl, by kernel_rfl, by kernel_rfl, by decide⟩

/-! ### function 15: outrider/outriderlaw23.has -/
def L15_1 : LCode :=
 .seq (.seq (.region [⟨some 6, .move (.tmp 5), none⟩,
  ⟨some 7, .move (.tmp 0), none⟩,
  ⟨some 8, .len (.tmp 7), none⟩,
  ⟨some 9, .bin .lss (.tmp 6) (.tmp 8), none⟩])
 (.cond (.tmp 9) (.skip)
 (.exit 0)))
 (.seq (.block 1 (.seq (.region [⟨some 12, .move (.tmp 0), none⟩,
  ⟨some 13, .move (.tmp 5), none⟩,
  ⟨some 14, .idx 1 (.tmp 12) (.tmp 13), none⟩,
  ⟨some 15, .load false 1 (.tmp 14), none⟩,
  ⟨some 16, .move (.tmp 1), none⟩,
  ⟨some 17, .bin .eql (.tmp 15) (.tmp 16), none⟩])
 (.cond (.tmp 17) (.seq (.region [⟨some 4, .move (.const (.bool true)), none⟩])
 (.ret))
 (.skip))))
 (.region [⟨some 10, .move (.tmp 5), none⟩,
  ⟨some 11, .bin .add (.tmp 10) (.const (.int .i64 1)), none⟩,
  ⟨some 5, .move (.tmp 11), none⟩]))
def L15 : LCode :=
 .seq (.region [⟨some 4, .move (.const (.bool false)), none⟩])
 (.seq (.seq (.region [⟨some 5, .move (.const (.int .i64 0)), none⟩])
 (.block 0 (.loop L15_1)))
 (.seq (.region [⟨some 4, .move (.const (.bool false)), none⟩])
 (.ret)))
theorem light15 : Light Try.prog 15 2 18 L15 [.tmp 4] :=
  ⟨Try.f15, _, Try.func15, rfl, rfl, by kernel_rfl, by kernel_rfl, by decide⟩

/-! ### function 16: (*outrider/graph.Graph).Readers -/
def L16_1 : LCode :=
 .seq (.seq (.region [⟨some 15, .move (.tmp 5), none⟩,
  ⟨some 16, .move (.tmp 0), none⟩,
  ⟨some 17, .nilCheck (.tmp 16), none⟩,
  ⟨some 18, .off 1 (.tmp 17), none⟩,
  ⟨some 19, .load false 1 (.tmp 18), none⟩,
  ⟨some 20, .len (.tmp 19), none⟩,
  ⟨some 21, .bin .lss (.tmp 15) (.tmp 20), none⟩,
  ⟨some 22, .move (.tmp 21), none⟩,
  ⟨some 23, .move (.tmp 0), (some (22, true))⟩,
  ⟨some 24, .nilCheck (.tmp 23), (some (22, true))⟩,
  ⟨some 25, .off 1 (.tmp 24), (some (22, true))⟩,
  ⟨some 26, .load false 1 (.tmp 25), (some (22, true))⟩,
  ⟨some 27, .move (.tmp 5), (some (22, true))⟩,
  ⟨some 28, .idx 2 (.tmp 26) (.tmp 27), (some (22, true))⟩,
  ⟨some 29, .off 1 (.tmp 28), (some (22, true))⟩,
  ⟨some 30, .load false 1 (.tmp 29), (some (22, true))⟩,
  ⟨some 31, .move (.tmp 1), (some (22, true))⟩,
  ⟨some 32, .bin .eql (.tmp 30) (.tmp 31), (some (22, true))⟩,
  ⟨some 33, .pick (.tmp 22) (.tmp 32) (.const (.bool false)), none⟩])
 (.cond (.tmp 33) (.skip)
 (.exit 0)))
 (.seq (.block 1 (.region [⟨some 36, .move (.tmp 7), none⟩,
  ⟨some 37, .move (.tmp 0), none⟩,
  ⟨some 38, .nilCheck (.tmp 37), none⟩,
  ⟨some 39, .off 1 (.tmp 38), none⟩,
  ⟨some 40, .load false 1 (.tmp 39), none⟩,
  ⟨some 41, .move (.tmp 5), none⟩,
  ⟨some 42, .idx 2 (.tmp 40) (.tmp 41), none⟩,
  ⟨some 43, .off 0 (.tmp 42), none⟩,
  ⟨some 44, .load false 1 (.tmp 43), none⟩,
  ⟨some 45, .buildSlice 3 1 1 [.int .i64 0] [(0, 1, .tmp 44)], none⟩,
  ⟨some 46, .append 3 1 8 (.tmp 36) (.tmp 45), none⟩,
  ⟨some 7, .move (.tmp 46), none⟩]))
 (.region [⟨some 34, .move (.tmp 5), none⟩,
  ⟨some 35, .bin .add (.tmp 34) (.const (.int .i64 1)), none⟩,
  ⟨some 5, .move (.tmp 35), none⟩]))
def L16 : LCode :=
 .seq (.region [⟨some 4, .move (.const (.slice none 0 0)), none⟩])
 (.seq (.region [⟨some 9, .move (.tmp 0), none⟩,
  ⟨some 10, .move (.tmp 1), none⟩,
  ⟨some 11, .build [.int .i64 0, .int .i64 0] [(0, 1, .const (.int .i64 (-9223372036854775808))), (1, 1, .tmp 10)], none⟩,
  ⟨some 12, .call 23 [.tmp 9, .tmp 11], none⟩,
  ⟨some 8, .move (.tmp 12), none⟩,
  ⟨some 13, .extract (.tmp 8) 0, none⟩,
  ⟨some 14, .extract (.tmp 8) 1, none⟩,
  ⟨some 5, .move (.tmp 13), none⟩,
  ⟨some 6, .move (.tmp 14), none⟩])
 (.seq (.region [⟨some 7, .move (.const (.slice none 0 0)), none⟩])
 (.seq (.block 0 (.loop L16_1))
 (.seq (.region [⟨some 47, .move (.tmp 7), none⟩,
  ⟨some 4, .move (.tmp 47), none⟩])
 (.ret)))))
theorem light16 : Light Try.prog 16 2 48 L16 [.tmp 4] :=
  ⟨Try.f16, _, Try.func16, rfl, rfl, by kernel_rfl, by kernel_rfl, by decide⟩

/-! ### function 17: (*outrider/graph.Graph).Has -/
def L17 : LCode :=
 .seq (.region [⟨some 6, .move (.const (.bool false)), none⟩])
 (.seq (.region [⟨some 10, .move (.tmp 0), none⟩,
  ⟨some 11, .move (.tmp 1), none⟩,
  ⟨some 12, .move (.tmp 2), none⟩,
  ⟨some 13, .build [.int .i64 0, .int .i64 0] [(0, 1, .tmp 11), (1, 1, .tmp 12)], none⟩,
  ⟨some 14, .call 23 [.tmp 10, .tmp 13], none⟩,
  ⟨some 9, .move (.tmp 14), none⟩,
  ⟨some 15, .extract (.tmp 9) 0, none⟩,
  ⟨some 16, .extract (.tmp 9) 1, none⟩,
  ⟨some 7, .move (.tmp 15), none⟩,
  ⟨some 8, .move (.tmp 16), none⟩])
 (.seq (.region [⟨some 17, .move (.tmp 8), none⟩,
  ⟨some 6, .move (.tmp 17), none⟩])
 (.ret)))
theorem light17 : Light Try.prog 17 3 18 L17 [.tmp 6] :=
  ⟨Try.f17, _, Try.func17, rfl, rfl, by kernel_rfl, by kernel_rfl, by decide⟩

/-! ### function 18: outrider/outriderref23.Has -/
def L18_1 : LCode :=
 .seq (.seq (.region [⟨some 8, .move (.tmp 7), none⟩,
  ⟨some 9, .off 1 (.tmp 3), none⟩,
  ⟨some 10, .load false 1 (.tmp 9), none⟩,
  ⟨some 11, .len (.tmp 10), none⟩,
  ⟨some 12, .bin .lss (.tmp 8) (.tmp 11), none⟩])
 (.cond (.tmp 12) (.skip)
 (.exit 0)))
 (.seq (.block 1 (.seq (.region [⟨some 15, .off 1 (.tmp 3), none⟩,
  ⟨some 16, .load false 1 (.tmp 15), none⟩,
  ⟨some 17, .move (.tmp 7), none⟩,
  ⟨some 18, .idx 2 (.tmp 16) (.tmp 17), none⟩,
  ⟨some 19, .off 0 (.tmp 18), none⟩,
  ⟨some 20, .load false 1 (.tmp 19), none⟩,
  ⟨some 21, .move (.tmp 1), none⟩,
  ⟨some 22, .bin .eql (.tmp 20) (.tmp 21), none⟩,
  ⟨some 23, .move (.tmp 22), none⟩,
  ⟨some 24, .off 1 (.tmp 3), (some (23, true))⟩,
  ⟨some 25, .load false 1 (.tmp 24), (some (23, true))⟩,
  ⟨some 26, .move (.tmp 7), (some (23, true))⟩,
  ⟨some 27, .idx 2 (.tmp 25) (.tmp 26), (some (23, true))⟩,
  ⟨some 28, .off 1 (.tmp 27), (some (23, true))⟩,
  ⟨some 29, .load false 1 (.tmp 28), (some (23, true))⟩,
  ⟨some 30, .move (.tmp 2), (some (23, true))⟩,
  ⟨some 31, .bin .eql (.tmp 29) (.tmp 30), (some (23, true))⟩,
  ⟨some 32, .pick (.tmp 23) (.tmp 31) (.const (.bool false)), none⟩])
 (.cond (.tmp 32) (.seq (.region [⟨some 6, .move (.const (.bool true)), none⟩])
 (.ret))
 (.skip))))
 (.region [⟨some 13, .move (.tmp 7), none⟩,
  ⟨some 14, .bin .add (.tmp 13) (.const (.int .i64 1)), none⟩,
  ⟨some 7, .move (.tmp 14), none⟩]))
def L18 : LCode :=
 .seq (.region [⟨some 3, .box 36 2 (.tmp 0), none⟩,
  ⟨some 6, .move (.const (.bool false)), none⟩])
 (.seq (.seq (.region [⟨some 7, .move (.const (.int .i64 0)), none⟩])
 (.block 0 (.loop L18_1)))
 (.seq (.region [⟨some 6, .move (.const (.bool false)), none⟩])
 (.ret)))
theorem light18 : Light Try.prog 18 3 33 L18 [.tmp 6] :=
  ⟨Try.f18, _, Try.func18, rfl, rfl, by kernel_rfl, by kernel_rfl, by decide⟩

/-! ### function 19: outrider/outriderlaw23.row -/
def L19_1 : LCode :=
 .seq (.seq (.region [⟨some 11, .move (.tmp 5), none⟩,
  ⟨some 12, .move (.tmp 0), none⟩,
  ⟨some 13, .len (.tmp 12), none⟩,
  ⟨some 14, .bin .lss (.tmp 11) (.tmp 13), none⟩])
 (.cond (.tmp 14) (.skip)
 (.exit 0)))
 (.seq (.block 1 (.seq (.draw [⟨⟨some 17, .move (.tmp 0), none⟩, .pure, 0, 0⟩,
  ⟨⟨some 18, .move (.tmp 5), none⟩, .pure, 0, 0⟩,
  ⟨⟨some 19, .idx 1 (.tmp 17) (.tmp 18), none⟩, .pure, 0, 0⟩,
  ⟨⟨some 20, .load false 1 (.tmp 19), none⟩, .read, 0, 0⟩,
  ⟨⟨some 21, .move (.tmp 1), none⟩, .pure, 0, 0⟩,
  ⟨⟨some 22, .move (.tmp 5), none⟩, .pure, 0, 0⟩,
  ⟨⟨some 23, .idx 1 (.tmp 21) (.tmp 22), none⟩, .pure, 0, 0⟩,
  ⟨⟨some 24, .load false 1 (.tmp 23), none⟩, .read, 0, 0⟩,
  ⟨⟨some 25, .bin .neq (.tmp 20) (.tmp 24), none⟩, .pure, 0, 0⟩])
 (.cond (.tmp 25) (.seq (.region [⟨some 4, .move (.const (.bool false)), none⟩])
 (.ret))
 (.skip))))
 (.region [⟨some 15, .move (.tmp 5), none⟩,
  ⟨some 16, .bin .add (.tmp 15) (.const (.int .i64 1)), none⟩,
  ⟨some 5, .move (.tmp 16), none⟩]))
def L19 : LCode :=
 .seq (.region [⟨some 4, .move (.const (.bool false)), none⟩])
 (.seq (.seq (.region [⟨some 6, .move (.tmp 0), none⟩,
  ⟨some 7, .len (.tmp 6), none⟩,
  ⟨some 8, .move (.tmp 1), none⟩,
  ⟨some 9, .len (.tmp 8), none⟩,
  ⟨some 10, .bin .neq (.tmp 7) (.tmp 9), none⟩])
 (.cond (.tmp 10) (.seq (.region [⟨some 4, .move (.const (.bool false)), none⟩])
 (.ret))
 (.skip)))
 (.seq (.seq (.region [⟨some 5, .move (.const (.int .i64 0)), none⟩])
 (.block 0 (.loop L19_1)))
 (.seq (.region [⟨some 4, .move (.const (.bool true)), none⟩])
 (.ret))))
theorem light19 : Light Try.prog 19 2 26 L19 [.tmp 4] :=
  ⟨Try.f19, _, Try.func19, rfl, rfl, by kernel_rfl, by kernel_rfl, by decide⟩

/-! ### function 20: outrider/outriderref23.Readers -/
def L20_1 : LCode :=
 .seq (.seq (.region [⟨some 7, .move (.tmp 6), none⟩,
  ⟨some 8, .off 1 (.tmp 2), none⟩,
  ⟨some 9, .load false 1 (.tmp 8), none⟩,
  ⟨some 10, .len (.tmp 9), none⟩,
  ⟨some 11, .bin .lss (.tmp 7) (.tmp 10), none⟩])
 (.cond (.tmp 11) (.skip)
 (.exit 0)))
 (.seq (.block 1 (.seq (.region [⟨some 14, .off 1 (.tmp 2), none⟩,
  ⟨some 15, .load false 1 (.tmp 14), none⟩,
  ⟨some 16, .move (.tmp 6), none⟩,
  ⟨some 17, .idx 2 (.tmp 15) (.tmp 16), none⟩,
  ⟨some 18, .off 1 (.tmp 17), none⟩,
  ⟨some 19, .load false 1 (.tmp 18), none⟩,
  ⟨some 20, .move (.tmp 1), none⟩,
  ⟨some 21, .bin .eql (.tmp 19) (.tmp 20), none⟩])
 (.cond (.tmp 21) (.region [⟨some 22, .move (.tmp 5), none⟩,
  ⟨some 23, .off 1 (.tmp 2), none⟩,
  ⟨some 24, .load false 1 (.tmp 23), none⟩,
  ⟨some 25, .move (.tmp 6), none⟩,
  ⟨some 26, .idx 2 (.tmp 24) (.tmp 25), none⟩,
  ⟨some 27, .off 0 (.tmp 26), none⟩,
  ⟨some 28, .load false 1 (.tmp 27), none⟩,
  ⟨some 29, .buildSlice 3 1 1 [.int .i64 0] [(0, 1, .tmp 28)], none⟩,
  ⟨some 30, .append 3 1 8 (.tmp 22) (.tmp 29), none⟩,
  ⟨some 5, .move (.tmp 30), none⟩])
 (.skip))))
 (.region [⟨some 12, .move (.tmp 6), none⟩,
  ⟨some 13, .bin .add (.tmp 12) (.const (.int .i64 1)), none⟩,
  ⟨some 6, .move (.tmp 13), none⟩]))
def L20 : LCode :=
 .seq (.region [⟨some 2, .box 36 2 (.tmp 0), none⟩,
  ⟨some 4, .move (.const (.slice none 0 0)), none⟩])
 (.seq (.region [⟨some 5, .move (.const (.slice none 0 0)), none⟩])
 (.seq (.seq (.region [⟨some 6, .move (.const (.int .i64 0)), none⟩])
 (.block 0 (.loop L20_1)))
 (.seq (.region [⟨some 31, .move (.tmp 5), none⟩,
  ⟨some 32, .call 29 [.tmp 31], none⟩,
  ⟨some 4, .move (.tmp 32), none⟩])
 (.ret))))
theorem light20 : Light Try.prog 20 2 33 L20 [.tmp 4] :=
  ⟨Try.f20, _, Try.func20, rfl, rfl, by kernel_rfl, by kernel_rfl, by decide⟩

/-! ### function 21: outrider/outriderref23.Fall -/
def L21_1 : LCode :=
 .seq (.seq (.region [⟨some 11, .move (.tmp 7), none⟩,
  ⟨some 12, .off 1 (.tmp 2), none⟩,
  ⟨some 13, .load false 1 (.tmp 12), none⟩,
  ⟨some 14, .len (.tmp 13), none⟩,
  ⟨some 15, .bin .lss (.tmp 11) (.tmp 14), none⟩])
 (.cond (.tmp 15) (.skip)
 (.exit 2)))
 (.seq (.block 3 (.seq (.region [⟨some 18, .move (.tmp 5), none⟩,
  ⟨some 19, .off 1 (.tmp 2), none⟩,
  ⟨some 20, .load false 1 (.tmp 19), none⟩,
  ⟨some 21, .move (.tmp 7), none⟩,
  ⟨some 22, .idx 2 (.tmp 20) (.tmp 21), none⟩,
  ⟨some 23, .off 1 (.tmp 22), none⟩,
  ⟨some 24, .load false 1 (.tmp 23), none⟩,
  ⟨some 25, .call 30 [.tmp 18, .tmp 24], none⟩,
  ⟨some 26, .move (.tmp 25), none⟩,
  ⟨some 27, .move (.tmp 5), (some (26, true))⟩,
  ⟨some 28, .off 1 (.tmp 2), (some (26, true))⟩,
  ⟨some 29, .load false 1 (.tmp 28), (some (26, true))⟩,
  ⟨some 30, .move (.tmp 7), (some (26, true))⟩,
  ⟨some 31, .idx 2 (.tmp 29) (.tmp 30), (some (26, true))⟩,
  ⟨some 32, .off 0 (.tmp 31), (some (26, true))⟩,
  ⟨some 33, .load false 1 (.tmp 32), (some (26, true))⟩,
  ⟨some 34, .call 30 [.tmp 27, .tmp 33], (some (26, true))⟩,
  ⟨some 35, .un .not (.tmp 34), (some (26, true))⟩,
  ⟨some 36, .pick (.tmp 26) (.tmp 35) (.const (.bool false)), none⟩])
 (.cond (.tmp 36) (.seq (.region [⟨some 37, .move (.tmp 5), none⟩,
  ⟨some 38, .off 1 (.tmp 2), none⟩,
  ⟨some 39, .load false 1 (.tmp 38), none⟩,
  ⟨some 40, .move (.tmp 7), none⟩,
  ⟨some 41, .idx 2 (.tmp 39) (.tmp 40), none⟩,
  ⟨some 42, .off 0 (.tmp 41), none⟩,
  ⟨some 43, .load false 1 (.tmp 42), none⟩,
  ⟨some 44, .buildSlice 3 1 1 [.int .i64 0] [(0, 1, .tmp 43)], none⟩,
  ⟨some 45, .append 3 1 8 (.tmp 37) (.tmp 44), none⟩,
  ⟨some 5, .move (.tmp 45), none⟩])
 (.region [⟨some 6, .move (.const (.bool true)), none⟩]))
 (.skip))))
 (.region [⟨some 16, .move (.tmp 7), none⟩,
  ⟨some 17, .bin .add (.tmp 16) (.const (.int .i64 1)), none⟩,
  ⟨some 7, .move (.tmp 17), none⟩]))
def L21_2 : LCode :=
 .seq (.seq (.region [⟨some 10, .move (.tmp 6), none⟩])
 (.cond (.tmp 10) (.skip)
 (.exit 0)))
 (.block 1 (.seq (.region [⟨some 6, .move (.const (.bool false)), none⟩])
 (.seq (.region [⟨some 7, .move (.const (.int .i64 0)), none⟩])
 (.block 2 (.loop L21_1)))))
def L21 : LCode :=
 .seq (.region [⟨some 2, .box 36 2 (.tmp 0), none⟩,
  ⟨some 4, .move (.const (.slice none 0 0)), none⟩])
 (.seq (.region [⟨some 8, .move (.tmp 1), none⟩,
  ⟨some 9, .buildSlice 3 1 1 [.int .i64 0] [(0, 1, .tmp 8)], none⟩,
  ⟨some 5, .move (.tmp 9), none⟩])
 (.seq (.seq (.region [⟨some 6, .move (.const (.bool true)), none⟩])
 (.block 0 (.loop L21_2)))
 (.seq (.region [⟨some 46, .move (.tmp 5), none⟩,
  ⟨some 47, .call 29 [.tmp 46], none⟩,
  ⟨some 4, .move (.tmp 47), none⟩])
 (.ret))))
theorem light21 : Light Try.prog 21 2 48 L21 [.tmp 4] :=
  ⟨Try.f21, _, Try.func21, rfl, rfl, by kernel_rfl, by kernel_rfl, by decide⟩

/-! ### function 22: outrider/outriderref23.Edges -/
def L22_1 : LCode :=
 .seq (.seq (.region [⟨some 9, .move (.tmp 4), none⟩,
  ⟨some 10, .off 1 (.tmp 1), none⟩,
  ⟨some 11, .load false 1 (.tmp 10), none⟩,
  ⟨some 12, .len (.tmp 11), none⟩,
  ⟨some 13, .bin .lss (.tmp 9) (.tmp 12), none⟩])
 (.cond (.tmp 13) (.skip)
 (.exit 0)))
 (.seq (.block 1 (.region [⟨some 16, .move (.tmp 3), none⟩,
  ⟨some 17, .off 1 (.tmp 1), none⟩,
  ⟨some 18, .load false 1 (.tmp 17), none⟩,
  ⟨some 19, .move (.tmp 4), none⟩,
  ⟨some 20, .idx 2 (.tmp 18) (.tmp 19), none⟩,
  ⟨some 21, .off 1 (.tmp 20), none⟩,
  ⟨some 22, .load false 1 (.tmp 21), none⟩,
  ⟨some 23, .buildSlice 3 1 1 [.int .i64 0] [(0, 1, .tmp 22)], none⟩,
  ⟨some 24, .append 3 1 8 (.tmp 16) (.tmp 23), none⟩,
  ⟨some 3, .move (.tmp 24), none⟩]))
 (.region [⟨some 14, .move (.tmp 4), none⟩,
  ⟨some 15, .bin .add (.tmp 14) (.const (.int .i64 1)), none⟩,
  ⟨some 4, .move (.tmp 15), none⟩]))
def L22_2 : LCode :=
 .seq (.seq (.region [⟨some 39, .move (.tmp 8), none⟩,
  ⟨some 40, .move (.tmp 7), none⟩,
  ⟨some 41, .len (.tmp 40), none⟩,
  ⟨some 42, .bin .lss (.tmp 39) (.tmp 41), none⟩])
 (.cond (.tmp 42) (.skip)
 (.exit 4)))
 (.seq (.block 5 (.draw [⟨⟨some 45, .move (.tmp 5), none⟩, .pure, 0, 1⟩,
  ⟨⟨some 46, .move (.tmp 7), none⟩, .pure, 0, 0⟩,
  ⟨⟨some 47, .move (.tmp 8), none⟩, .pure, 0, 0⟩,
  ⟨⟨some 48, .idx 1 (.tmp 46) (.tmp 47), none⟩, .pure, 0, 0⟩,
  ⟨⟨some 49, .load false 1 (.tmp 48), none⟩, .read, 0, 0⟩,
  ⟨⟨some 50, .move (.tmp 3), none⟩, .pure, 0, 0⟩,
  ⟨⟨some 51, .move (.tmp 6), none⟩, .pure, 0, 0⟩,
  ⟨⟨some 52, .idx 1 (.tmp 50) (.tmp 51), none⟩, .pure, 0, 0⟩,
  ⟨⟨some 53, .load false 1 (.tmp 52), none⟩, .read, 0, 0⟩,
  ⟨⟨some 54, .build [.int .i64 0, .int .i64 0] [(0, 1, .tmp 49), (1, 1, .tmp 53)], none⟩, .pure, 0, 0⟩,
  ⟨⟨some 55, .buildSlice 54 2 1 [.int .i64 0, .int .i64 0] [(0, 2, .tmp 54)], none⟩, .heavy, 0, 1⟩,
  ⟨⟨some 56, .append 54 2 16 (.tmp 45) (.tmp 55), none⟩, .heavy, 1, 2⟩,
  ⟨⟨some 5, .move (.tmp 56), none⟩, .pure, 2, 2⟩]))
 (.region [⟨some 43, .move (.tmp 8), none⟩,
  ⟨some 44, .bin .add (.tmp 43) (.const (.int .i64 1)), none⟩,
  ⟨some 8, .move (.tmp 44), none⟩]))
def L22_3 : LCode :=
 .seq (.seq (.region [⟨some 27, .move (.tmp 6), none⟩,
  ⟨some 28, .move (.tmp 3), none⟩,
  ⟨some 29, .len (.tmp 28), none⟩,
  ⟨some 30, .bin .lss (.tmp 27) (.tmp 29), none⟩])
 (.cond (.tmp 30) (.skip)
 (.exit 2)))
 (.seq (.block 3 (.seq (.draw [⟨⟨some 33, .load true 2 (.tmp 1), none⟩, .read, 0, 0⟩,
  ⟨⟨some 34, .move (.tmp 3), none⟩, .pure, 0, 0⟩,
  ⟨⟨some 35, .move (.tmp 6), none⟩, .pure, 0, 0⟩,
  ⟨⟨some 36, .idx 1 (.tmp 34) (.tmp 35), none⟩, .pure, 0, 0⟩,
  ⟨⟨some 37, .load false 1 (.tmp 36), none⟩, .read, 0, 0⟩,
  ⟨⟨some 38, .call 20 [.tmp 33, .tmp 37], none⟩, .heavy, 0, 1⟩,
  ⟨⟨some 7, .move (.tmp 38), none⟩, .pure, 1, 1⟩])
 (.seq (.region [⟨some 8, .move (.const (.int .i64 0)), none⟩])
 (.block 4 (.loop L22_2)))))
 (.region [⟨some 31, .move (.tmp 6), none⟩,
  ⟨some 32, .bin .add (.tmp 31) (.const (.int .i64 1)), none⟩,
  ⟨some 6, .move (.tmp 32), none⟩]))
def L22 : LCode :=
 .seq (.region [⟨some 1, .box 36 2 (.tmp 0), none⟩,
  ⟨some 2, .move (.const (.slice none 0 0)), none⟩])
 (.seq (.region [⟨some 3, .move (.const (.slice none 0 0)), none⟩])
 (.seq (.seq (.region [⟨some 4, .move (.const (.int .i64 0)), none⟩])
 (.block 0 (.loop L22_1)))
 (.seq (.region [⟨some 25, .move (.tmp 3), none⟩,
  ⟨some 26, .call 29 [.tmp 25], none⟩,
  ⟨some 3, .move (.tmp 26), none⟩])
 (.seq (.region [⟨some 5, .move (.const (.slice none 0 0)), none⟩])
 (.seq (.seq (.region [⟨some 6, .move (.const (.int .i64 0)), none⟩])
 (.block 2 (.loop L22_3)))
 (.seq (.region [⟨some 57, .move (.tmp 5), none⟩,
  ⟨some 2, .move (.tmp 57), none⟩])
 (.ret)))))))
theorem light22 : Light Try.prog 22 1 58 L22 [.tmp 2] :=
  ⟨Try.f22, _, Try.func22, rfl, rfl, by kernel_rfl, by kernel_rfl, by decide⟩

/-! ### function 23: (*outrider/graph.Graph).place -/
def L23 : LCode :=
 .seq (.region [⟨some 2, .box 22 1 (.tmp 0), none⟩,
  ⟨some 3, .box 46 2 (.tmp 1), none⟩,
  ⟨some 4, .move (.const (.int .i64 0)), none⟩,
  ⟨some 5, .move (.const (.bool false)), none⟩])
 (.seq (.region [⟨some 7, .load false 1 (.tmp 2), none⟩,
  ⟨some 8, .nilCheck (.tmp 7), none⟩,
  ⟨some 9, .off 1 (.tmp 8), none⟩,
  ⟨some 10, .load false 1 (.tmp 9), none⟩,
  ⟨some 11, .len (.tmp 10), none⟩,
  ⟨some 12, .func (.func 32) [] [.tmp 2, .tmp 3], none⟩,
  ⟨some 13, .call 31 [.tmp 11, .tmp 12], none⟩,
  ⟨some 6, .move (.tmp 13), none⟩])
 (.seq (.draw [⟨⟨some 14, .move (.tmp 6), none⟩, .pure, 0, 0⟩,
  ⟨⟨some 15, .move (.tmp 6), none⟩, .pure, 0, 0⟩,
  ⟨⟨some 16, .load false 1 (.tmp 2), none⟩, .read, 0, 0⟩,
  ⟨⟨some 17, .nilCheck (.tmp 16), none⟩, .pure, 0, 0⟩,
  ⟨⟨some 18, .off 1 (.tmp 17), none⟩, .pure, 0, 0⟩,
  ⟨⟨some 19, .load false 1 (.tmp 18), none⟩, .read, 0, 0⟩,
  ⟨⟨some 20, .len (.tmp 19), none⟩, .pure, 0, 0⟩,
  ⟨⟨some 21, .bin .lss (.tmp 15) (.tmp 20), none⟩, .pure, 0, 0⟩,
  ⟨⟨some 22, .move (.tmp 21), none⟩, .pure, 0, 0⟩,
  ⟨⟨some 23, .load false 1 (.tmp 2), (some (22, true))⟩, .read, 0, 0⟩,
  ⟨⟨some 24, .nilCheck (.tmp 23), (some (22, true))⟩, .pure, 0, 0⟩,
  ⟨⟨some 25, .off 1 (.tmp 24), (some (22, true))⟩, .pure, 0, 0⟩,
  ⟨⟨some 26, .load false 1 (.tmp 25), (some (22, true))⟩, .read, 0, 0⟩,
  ⟨⟨some 27, .move (.tmp 6), (some (22, true))⟩, .pure, 0, 0⟩,
  ⟨⟨some 28, .idx 2 (.tmp 26) (.tmp 27), (some (22, true))⟩, .pure, 0, 0⟩,
  ⟨⟨some 29, .load true 2 (.tmp 28), (some (22, true))⟩, .read, 0, 0⟩,
  ⟨⟨some 30, .load true 2 (.tmp 3), (some (22, true))⟩, .read, 0, 0⟩,
  ⟨⟨some 31, .eqR false 46 (.tmp 29) (.tmp 30), (some (22, true))⟩, .pure, 0, 0⟩,
  ⟨⟨some 32, .pick (.tmp 22) (.tmp 31) (.const (.bool false)), none⟩, .pure, 0, 0⟩,
  ⟨⟨some 4, .move (.tmp 14), none⟩, .pure, 0, 0⟩,
  ⟨⟨some 5, .move (.tmp 32), none⟩, .pure, 0, 0⟩])
 (.ret)))
theorem light23 : Light Try.prog 23 2 33 L23 [.tmp 4, .tmp 5] :=
  ⟨Try.f23, _, Try.func23, rfl, rfl, by kernel_rfl, by kernel_rfl, by decide⟩

/-! ### function 24: (outrider/graph.ages).Len -/
def L24 : LCode :=
 .seq (.region [⟨some 2, .move (.const (.int .i64 0)), none⟩])
 (.seq (.region [⟨some 3, .move (.tmp 0), none⟩,
  ⟨some 4, .len (.tmp 3), none⟩,
  ⟨some 2, .move (.tmp 4), none⟩])
 (.ret))
theorem light24 : Light Try.prog 24 1 5 L24 [.tmp 2] :=
  ⟨Try.f24, _, Try.func24, rfl, rfl, by kernel_rfl, by kernel_rfl, by decide⟩

/-! ### function 25: container/heap.Pop -/
def L25 : LCode :=
 .seq (.region [⟨some 2, .move (.const (.nilIface)), none⟩])
 (.seq (.region [⟨some 4, .move (.tmp 0), none⟩,
  ⟨some 5, .invoke (.tmp 4) "Len" [], none⟩,
  ⟨some 6, .bin .sub (.tmp 5) (.const (.int .i64 1)), none⟩,
  ⟨some 3, .move (.tmp 6), none⟩])
 (.seq (.region [⟨some 7, .move (.tmp 0), none⟩,
  ⟨some 8, .move (.tmp 3), none⟩,
  ⟨some 9, .invoke (.tmp 7) "Swap" [.const (.int .i64 0), .tmp 8], none⟩])
 (.seq (.region [⟨some 10, .move (.tmp 0), none⟩,
  ⟨some 11, .move (.tmp 3), none⟩,
  ⟨some 12, .call 34 [.tmp 10, .const (.int .i64 0), .tmp 11], none⟩])
 (.seq (.region [⟨some 13, .move (.tmp 0), none⟩,
  ⟨some 14, .invoke (.tmp 13) "Pop" [], none⟩,
  ⟨some 2, .move (.tmp 14), none⟩])
 (.ret)))))
theorem light25 : Light Try.prog 25 1 15 L25 [.tmp 2] :=
  ⟨Try.f25, _, Try.func25, rfl, rfl, by kernel_rfl, by kernel_rfl, by decide⟩

/-! ### function 26: container/heap.Push -/
def L26 : LCode :=
 .seq (.region [⟨some 4, .move (.tmp 0), none⟩,
  ⟨some 5, .move (.tmp 1), none⟩,
  ⟨some 6, .invoke (.tmp 4) "Push" [.tmp 5], none⟩])
 (.region [⟨some 7, .move (.tmp 0), none⟩,
  ⟨some 8, .move (.tmp 0), none⟩,
  ⟨some 9, .invoke (.tmp 8) "Len" [], none⟩,
  ⟨some 10, .bin .sub (.tmp 9) (.const (.int .i64 1)), none⟩,
  ⟨some 11, .call 35 [.tmp 7, .tmp 10], none⟩])
theorem light26 : Light Try.prog 26 2 12 L26 [] :=
  ⟨Try.f26, _, Try.func26, rfl, rfl, by kernel_rfl, by kernel_rfl, by decide⟩

/-! ### function 27: outrider/outriderref23.Remove -/
def L27_1 : LCode :=
 .seq (.seq (.region [⟨some 9, .move (.tmp 7), none⟩,
  ⟨some 10, .off 1 (.tmp 2), none⟩,
  ⟨some 11, .load false 1 (.tmp 10), none⟩,
  ⟨some 12, .len (.tmp 11), none⟩,
  ⟨some 13, .bin .lss (.tmp 9) (.tmp 12), none⟩])
 (.cond (.tmp 13) (.skip)
 (.exit 0)))
 (.seq (.block 1 (.seq (.region [⟨some 16, .off 1 (.tmp 2), none⟩,
  ⟨some 17, .load false 1 (.tmp 16), none⟩,
  ⟨some 18, .move (.tmp 7), none⟩,
  ⟨some 19, .idx 2 (.tmp 17) (.tmp 18), none⟩,
  ⟨some 20, .off 0 (.tmp 19), none⟩,
  ⟨some 21, .load false 1 (.tmp 20), none⟩,
  ⟨some 22, .move (.tmp 1), none⟩,
  ⟨some 23, .bin .neq (.tmp 21) (.tmp 22), none⟩,
  ⟨some 24, .move (.tmp 23), none⟩,
  ⟨some 25, .off 1 (.tmp 2), (some (24, true))⟩,
  ⟨some 26, .load false 1 (.tmp 25), (some (24, true))⟩,
  ⟨some 27, .move (.tmp 7), (some (24, true))⟩,
  ⟨some 28, .idx 2 (.tmp 26) (.tmp 27), (some (24, true))⟩,
  ⟨some 29, .off 1 (.tmp 28), (some (24, true))⟩,
  ⟨some 30, .load false 1 (.tmp 29), (some (24, true))⟩,
  ⟨some 31, .move (.tmp 1), (some (24, true))⟩,
  ⟨some 32, .bin .neq (.tmp 30) (.tmp 31), (some (24, true))⟩,
  ⟨some 33, .pick (.tmp 24) (.tmp 32) (.const (.bool false)), none⟩])
 (.cond (.tmp 33) (.region [⟨some 34, .move (.tmp 6), none⟩,
  ⟨some 35, .off 1 (.tmp 2), none⟩,
  ⟨some 36, .load false 1 (.tmp 35), none⟩,
  ⟨some 37, .move (.tmp 7), none⟩,
  ⟨some 38, .idx 2 (.tmp 36) (.tmp 37), none⟩,
  ⟨some 39, .load true 2 (.tmp 38), none⟩,
  ⟨some 40, .buildSlice 54 2 1 [.int .i64 0, .int .i64 0] [(0, 2, .tmp 39)], none⟩,
  ⟨some 41, .append 54 2 16 (.tmp 34) (.tmp 40), none⟩,
  ⟨some 6, .move (.tmp 41), none⟩])
 (.skip))))
 (.region [⟨some 14, .move (.tmp 7), none⟩,
  ⟨some 15, .bin .add (.tmp 14) (.const (.int .i64 1)), none⟩,
  ⟨some 7, .move (.tmp 15), none⟩]))
def L27 : LCode :=
 .seq (.region [⟨some 2, .box 36 2 (.tmp 0), none⟩,
  ⟨some 4, .new 36 2 [.int .i64 0, .slice none 0 0], none⟩,
  ⟨some 5, .move (.const (.int .i64 0)), none⟩])
 (.seq (.region [⟨some 6, .move (.const (.slice none 0 0)), none⟩])
 (.seq (.seq (.region [⟨some 7, .move (.const (.int .i64 0)), none⟩])
 (.block 0 (.loop L27_1)))
 (.seq (.region [⟨some 42, .off 1 (.tmp 2), none⟩,
  ⟨some 43, .load false 1 (.tmp 42), none⟩,
  ⟨some 44, .len (.tmp 43), none⟩,
  ⟨some 45, .move (.tmp 6), none⟩,
  ⟨some 46, .len (.tmp 45), none⟩,
  ⟨some 47, .bin .sub (.tmp 44) (.tmp 46), none⟩,
  ⟨some 8, .move (.tmp 47), none⟩])
 (.seq (.region [⟨some 48, .move (.tmp 6), none⟩,
  ⟨some 49, .off 1 (.tmp 2), none⟩,
  ⟨none, .store 1 (.tmp 49) (.tmp 48), none⟩])
 (.seq (.region [⟨some 50, .load true 2 (.tmp 2), none⟩,
  ⟨some 51, .move (.tmp 8), none⟩,
  ⟨none, .store 2 (.tmp 4) (.tmp 50), none⟩,
  ⟨some 5, .move (.tmp 51), none⟩])
 (.ret))))))
theorem light27 : Light Try.prog 27 2 52 L27 [.cell 4 true 2, .tmp 5] :=
  ⟨Try.f27, _, Try.func27, rfl, rfl, by kernel_rfl, by kernel_rfl, by decide⟩

/-! ### function 28: outrider/outriderref23.Add -/
def L28 : LCode :=
 .seq (.region [⟨some 3, .box 36 2 (.tmp 0), none⟩,
  ⟨some 6, .new 36 2 [.int .i64 0, .slice none 0 0], none⟩,
  ⟨some 7, .move (.const (.int .i64 0)), none⟩])
 (.seq (.seq (.region [⟨some 8, .move (.tmp 2), none⟩,
  ⟨some 9, .bin .lss (.tmp 8) (.const (.int .i64 0)), none⟩,
  ⟨some 10, .move (.tmp 9), none⟩,
  ⟨some 11, .move (.tmp 2), (some (10, false))⟩,
  ⟨some 12, .move (.tmp 1), (some (10, false))⟩,
  ⟨some 13, .bin .geq (.tmp 11) (.tmp 12), (some (10, false))⟩,
  ⟨some 14, .pick (.tmp 10) (.const (.bool true)) (.tmp 13), none⟩])
 (.cond (.tmp 14) (.seq (.region [⟨some 15, .load true 2 (.tmp 3), none⟩,
  ⟨none, .store 2 (.tmp 6) (.tmp 15), none⟩,
  ⟨some 7, .move (.const (.int .i64 230)), none⟩])
 (.ret))
 (.skip)))
 (.seq (.seq (.region [⟨some 16, .load true 2 (.tmp 3), none⟩,
  ⟨some 17, .move (.tmp 1), none⟩,
  ⟨some 18, .move (.tmp 2), none⟩,
  ⟨some 19, .call 18 [.tmp 16, .tmp 17, .tmp 18], none⟩])
 (.cond (.tmp 19) (.seq (.region [⟨some 20, .load true 2 (.tmp 3), none⟩,
  ⟨none, .store 2 (.tmp 6) (.tmp 20), none⟩,
  ⟨some 7, .move (.const (.int .i64 0)), none⟩])
 (.ret))
 (.skip)))
 (.seq (.seq (.region [⟨some 21, .off 1 (.tmp 3), none⟩,
  ⟨some 22, .load false 1 (.tmp 21), none⟩,
  ⟨some 23, .len (.tmp 22), none⟩,
  ⟨some 24, .off 0 (.tmp 3), none⟩,
  ⟨some 25, .load false 1 (.tmp 24), none⟩,
  ⟨some 26, .bin .eql (.tmp 23) (.tmp 25), none⟩])
 (.cond (.tmp 26) (.seq (.region [⟨some 27, .load true 2 (.tmp 3), none⟩,
  ⟨none, .store 2 (.tmp 6) (.tmp 27), none⟩,
  ⟨some 7, .move (.const (.int .i64 200)), none⟩])
 (.ret))
 (.skip)))
 (.seq (.region [⟨some 28, .buildSlice 54 2 0 [.int .i64 0, .int .i64 0] [], none⟩,
  ⟨some 29, .off 1 (.tmp 3), none⟩,
  ⟨some 30, .load false 1 (.tmp 29), none⟩,
  ⟨some 31, .append 54 2 16 (.tmp 28) (.tmp 30), none⟩,
  ⟨some 32, .move (.tmp 1), none⟩,
  ⟨some 33, .move (.tmp 2), none⟩,
  ⟨some 34, .build [.int .i64 0, .int .i64 0] [(0, 1, .tmp 32), (1, 1, .tmp 33)], none⟩,
  ⟨some 35, .buildSlice 54 2 1 [.int .i64 0, .int .i64 0] [(0, 2, .tmp 34)], none⟩,
  ⟨some 36, .append 54 2 16 (.tmp 31) (.tmp 35), none⟩,
  ⟨some 37, .off 1 (.tmp 3), none⟩,
  ⟨none, .store 1 (.tmp 37) (.tmp 36), none⟩])
 (.seq (.region [⟨some 38, .load true 2 (.tmp 3), none⟩,
  ⟨none, .store 2 (.tmp 6) (.tmp 38), none⟩,
  ⟨some 7, .move (.const (.int .i64 0)), none⟩])
 (.ret))))))
theorem light28 : Light Try.prog 28 3 39 L28 [.cell 6 true 2, .tmp 7] :=
  ⟨Try.f28, _, Try.func28, rfl, rfl, by kernel_rfl, by kernel_rfl, by decide⟩

/-! ### function 29: outrider/outriderref23.Sorted -/
def L29_1 : LCode :=
 .seq (.seq (.draw [⟨⟨some 28, .move (.tmp 5), none⟩, .pure, 0, 0⟩,
  ⟨⟨some 29, .bin .gtr (.tmp 28) (.const (.int .i64 0)), none⟩, .pure, 0, 0⟩,
  ⟨⟨some 30, .move (.tmp 29), none⟩, .pure, 0, 0⟩,
  ⟨⟨some 31, .move (.tmp 3), (some (30, true))⟩, .pure, 0, 0⟩,
  ⟨⟨some 32, .move (.tmp 5), (some (30, true))⟩, .pure, 0, 0⟩,
  ⟨⟨some 33, .idx 1 (.tmp 31) (.tmp 32), (some (30, true))⟩, .pure, 0, 0⟩,
  ⟨⟨some 34, .load false 1 (.tmp 33), (some (30, true))⟩, .read, 0, 0⟩,
  ⟨⟨some 35, .move (.tmp 3), (some (30, true))⟩, .pure, 0, 0⟩,
  ⟨⟨some 36, .move (.tmp 5), (some (30, true))⟩, .pure, 0, 0⟩,
  ⟨⟨some 37, .bin .sub (.tmp 36) (.const (.int .i64 1)), (some (30, true))⟩, .pure, 0, 0⟩,
  ⟨⟨some 38, .idx 1 (.tmp 35) (.tmp 37), (some (30, true))⟩, .pure, 0, 0⟩,
  ⟨⟨some 39, .load false 1 (.tmp 38), (some (30, true))⟩, .read, 0, 0⟩,
  ⟨⟨some 40, .bin .lss (.tmp 34) (.tmp 39), (some (30, true))⟩, .pure, 0, 0⟩,
  ⟨⟨some 41, .pick (.tmp 30) (.tmp 40) (.const (.bool false)), none⟩, .pure, 0, 0⟩])
 (.cond (.tmp 41) (.skip)
 (.exit 2)))
 (.seq (.block 3 (.draw [⟨⟨some 44, .move (.tmp 3), none⟩, .pure, 0, 0⟩,
  ⟨⟨some 45, .move (.tmp 5), none⟩, .pure, 0, 0⟩,
  ⟨⟨some 46, .move (.tmp 3), none⟩, .pure, 0, 1⟩,
  ⟨⟨some 47, .move (.tmp 5), none⟩, .pure, 0, 1⟩,
  ⟨⟨some 48, .bin .sub (.tmp 47) (.const (.int .i64 1)), none⟩, .pure, 0, 1⟩,
  ⟨⟨some 49, .move (.tmp 3), none⟩, .pure, 0, 0⟩,
  ⟨⟨some 50, .move (.tmp 5), none⟩, .pure, 0, 0⟩,
  ⟨⟨some 51, .bin .sub (.tmp 50) (.const (.int .i64 1)), none⟩, .pure, 0, 0⟩,
  ⟨⟨some 52, .idx 1 (.tmp 49) (.tmp 51), none⟩, .pure, 0, 0⟩,
  ⟨⟨some 53, .load false 1 (.tmp 52), none⟩, .read, 0, 0⟩,
  ⟨⟨some 54, .move (.tmp 3), none⟩, .pure, 0, 0⟩,
  ⟨⟨some 55, .move (.tmp 5), none⟩, .pure, 0, 0⟩,
  ⟨⟨some 56, .idx 1 (.tmp 54) (.tmp 55), none⟩, .pure, 0, 0⟩,
  ⟨⟨some 57, .load false 1 (.tmp 56), none⟩, .read, 0, 0⟩,
  ⟨⟨some 58, .idx 1 (.tmp 44) (.tmp 45), none⟩, .pure, 0, 0⟩,
  ⟨⟨none, .store 1 (.tmp 58) (.tmp 53), none⟩, .heavy, 0, 1⟩,
  ⟨⟨some 59, .idx 1 (.tmp 46) (.tmp 48), none⟩, .pure, 1, 1⟩,
  ⟨⟨none, .store 1 (.tmp 59) (.tmp 57), none⟩, .heavy, 1, 2⟩]))
 (.region [⟨some 42, .move (.tmp 5), none⟩,
  ⟨some 43, .bin .sub (.tmp 42) (.const (.int .i64 1)), none⟩,
  ⟨some 5, .move (.tmp 43), none⟩]))
def L29_2 : LCode :=
 .seq (.seq (.region [⟨some 6, .move (.tmp 4), none⟩,
  ⟨some 7, .move (.tmp 0), none⟩,
  ⟨some 8, .len (.tmp 7), none⟩,
  ⟨some 9, .bin .lss (.tmp 6) (.tmp 8), none⟩])
 (.cond (.tmp 9) (.skip)
 (.exit 0)))
 (.seq (.block 1 (.seq (.seq (.region [⟨some 12, .move (.tmp 3), none⟩,
  ⟨some 13, .move (.tmp 0), none⟩,
  ⟨some 14, .move (.tmp 4), none⟩,
  ⟨some 15, .idx 1 (.tmp 13) (.tmp 14), none⟩,
  ⟨some 16, .load false 1 (.tmp 15), none⟩,
  ⟨some 17, .call 30 [.tmp 12, .tmp 16], none⟩])
 (.cond (.tmp 17) (.exit 1)
 (.skip)))
 (.seq (.region [⟨some 18, .move (.tmp 3), none⟩,
  ⟨some 19, .move (.tmp 0), none⟩,
  ⟨some 20, .move (.tmp 4), none⟩,
  ⟨some 21, .idx 1 (.tmp 19) (.tmp 20), none⟩,
  ⟨some 22, .load false 1 (.tmp 21), none⟩,
  ⟨some 23, .buildSlice 3 1 1 [.int .i64 0] [(0, 1, .tmp 22)], none⟩,
  ⟨some 24, .append 3 1 8 (.tmp 18) (.tmp 23), none⟩,
  ⟨some 3, .move (.tmp 24), none⟩])
 (.seq (.region [⟨some 25, .move (.tmp 3), none⟩,
  ⟨some 26, .len (.tmp 25), none⟩,
  ⟨some 27, .bin .sub (.tmp 26) (.const (.int .i64 1)), none⟩,
  ⟨some 5, .move (.tmp 27), none⟩])
 (.block 2 (.loop L29_1))))))
 (.region [⟨some 10, .move (.tmp 4), none⟩,
  ⟨some 11, .bin .add (.tmp 10) (.const (.int .i64 1)), none⟩,
  ⟨some 4, .move (.tmp 11), none⟩]))
def L29 : LCode :=
 .seq (.region [⟨some 2, .move (.const (.slice none 0 0)), none⟩])
 (.seq (.region [⟨some 3, .move (.const (.slice none 0 0)), none⟩])
 (.seq (.seq (.region [⟨some 4, .move (.const (.int .i64 0)), none⟩])
 (.block 0 (.loop L29_2)))
 (.seq (.region [⟨some 60, .move (.tmp 3), none⟩,
  ⟨some 2, .move (.tmp 60), none⟩])
 (.ret))))
theorem light29 : Light Try.prog 29 1 61 L29 [.tmp 2] :=
  ⟨Try.f29, _, Try.func29, rfl, rfl, by kernel_rfl, by kernel_rfl, by decide⟩

/-! ### function 30: outrider/outriderref23.in -/
def L30_1 : LCode :=
 .seq (.seq (.region [⟨some 6, .move (.tmp 5), none⟩,
  ⟨some 7, .move (.tmp 0), none⟩,
  ⟨some 8, .len (.tmp 7), none⟩,
  ⟨some 9, .bin .lss (.tmp 6) (.tmp 8), none⟩])
 (.cond (.tmp 9) (.skip)
 (.exit 0)))
 (.seq (.block 1 (.seq (.region [⟨some 12, .move (.tmp 0), none⟩,
  ⟨some 13, .move (.tmp 5), none⟩,
  ⟨some 14, .idx 1 (.tmp 12) (.tmp 13), none⟩,
  ⟨some 15, .load false 1 (.tmp 14), none⟩,
  ⟨some 16, .move (.tmp 1), none⟩,
  ⟨some 17, .bin .eql (.tmp 15) (.tmp 16), none⟩])
 (.cond (.tmp 17) (.seq (.region [⟨some 4, .move (.const (.bool true)), none⟩])
 (.ret))
 (.skip))))
 (.region [⟨some 10, .move (.tmp 5), none⟩,
  ⟨some 11, .bin .add (.tmp 10) (.const (.int .i64 1)), none⟩,
  ⟨some 5, .move (.tmp 11), none⟩]))
def L30 : LCode :=
 .seq (.region [⟨some 4, .move (.const (.bool false)), none⟩])
 (.seq (.seq (.region [⟨some 5, .move (.const (.int .i64 0)), none⟩])
 (.block 0 (.loop L30_1)))
 (.seq (.region [⟨some 4, .move (.const (.bool false)), none⟩])
 (.ret)))
theorem light30 : Light Try.prog 30 2 18 L30 [.tmp 4] :=
  ⟨Try.f30, _, Try.func30, rfl, rfl, by kernel_rfl, by kernel_rfl, by decide⟩

/-! ### function 31: sort.Search -/
def L31_1 : LCode :=
 .seq (.seq (.region [⟨some 9, .move (.tmp 5), none⟩,
  ⟨some 10, .move (.tmp 6), none⟩,
  ⟨some 11, .bin .lss (.tmp 9) (.tmp 10), none⟩])
 (.cond (.tmp 11) (.skip)
 (.exit 0)))
 (.block 1 (.seq (.region [⟨some 12, .move (.tmp 5), none⟩,
  ⟨some 13, .move (.tmp 6), none⟩,
  ⟨some 14, .bin .add (.tmp 12) (.tmp 13), none⟩,
  ⟨some 15, .conv .u64 (.tmp 14), none⟩,
  ⟨some 16, .bin .shr (.tmp 15) (.const (.int .u64 1)), none⟩,
  ⟨some 17, .conv .i64 (.tmp 16), none⟩,
  ⟨some 7, .move (.tmp 17), none⟩])
 (.seq (.region [⟨some 18, .move (.tmp 1), none⟩,
  ⟨some 19, .move (.tmp 7), none⟩,
  ⟨some 20, .callv (.tmp 18) [.tmp 19], none⟩,
  ⟨some 21, .un .not (.tmp 20), none⟩])
 (.cond (.tmp 21) (.region [⟨some 22, .move (.tmp 7), none⟩,
  ⟨some 23, .bin .add (.tmp 22) (.const (.int .i64 1)), none⟩,
  ⟨some 5, .move (.tmp 23), none⟩])
 (.region [⟨some 24, .move (.tmp 7), none⟩,
  ⟨some 6, .move (.tmp 24), none⟩])))))
def L31 : LCode :=
 .seq (.region [⟨some 4, .move (.const (.int .i64 0)), none⟩])
 (.seq (.region [⟨some 8, .move (.tmp 0), none⟩,
  ⟨some 5, .move (.const (.int .i64 0)), none⟩,
  ⟨some 6, .move (.tmp 8), none⟩])
 (.seq (.block 0 (.loop L31_1))
 (.seq (.region [⟨some 25, .move (.tmp 5), none⟩,
  ⟨some 4, .move (.tmp 25), none⟩])
 (.ret))))
theorem light31 : Light Try.prog 31 2 26 L31 [.tmp 4] :=
  ⟨Try.f31, _, Try.func31, rfl, rfl, by kernel_rfl, by kernel_rfl, by decide⟩

/-! ### function 32: (*outrider/graph.Graph).place$1 -/
def L32 : LCode :=
 .seq (.region [⟨some 4, .move (.const (.bool false)), none⟩])
 (.seq (.draw [⟨⟨some 5, .load false 1 (.tmp 1), none⟩, .read, 0, 0⟩,
  ⟨⟨some 6, .nilCheck (.tmp 5), none⟩, .pure, 0, 0⟩,
  ⟨⟨some 7, .off 1 (.tmp 6), none⟩, .pure, 0, 0⟩,
  ⟨⟨some 8, .load false 1 (.tmp 7), none⟩, .read, 0, 0⟩,
  ⟨⟨some 9, .move (.tmp 0), none⟩, .pure, 0, 0⟩,
  ⟨⟨some 10, .idx 2 (.tmp 8) (.tmp 9), none⟩, .pure, 0, 0⟩,
  ⟨⟨some 11, .load true 2 (.tmp 10), none⟩, .read, 0, 0⟩,
  ⟨⟨some 12, .load true 2 (.tmp 2), none⟩, .read, 0, 0⟩,
  ⟨⟨some 13, .call 33 [.tmp 11, .tmp 12], none⟩, .heavy, 0, 1⟩,
  ⟨⟨some 14, .un .not (.tmp 13), none⟩, .pure, 1, 1⟩,
  ⟨⟨some 4, .move (.tmp 14), none⟩, .pure, 1, 1⟩])
 (.ret))
theorem light32 : Light Try.prog 32 3 15 L32 [.tmp 4] :=
  ⟨Try.f32, _, Try.func32, rfl, rfl, by kernel_rfl, by kernel_rfl, by decide⟩

/-! ### function 33: (outrider/graph.Edge).before -/
def L33 : LCode :=
 .seq (.region [⟨some 2, .box 46 2 (.tmp 0), none⟩,
  ⟨some 3, .box 46 2 (.tmp 1), none⟩,
  ⟨some 4, .move (.const (.bool false)), none⟩])
 (.seq (.region [⟨some 5, .off 1 (.tmp 2), none⟩,
  ⟨some 6, .load false 1 (.tmp 5), none⟩,
  ⟨some 7, .off 1 (.tmp 3), none⟩,
  ⟨some 8, .load false 1 (.tmp 7), none⟩,
  ⟨some 9, .bin .lss (.tmp 6) (.tmp 8), none⟩,
  ⟨some 10, .move (.tmp 9), none⟩,
  ⟨some 11, .off 1 (.tmp 2), (some (10, false))⟩,
  ⟨some 12, .load false 1 (.tmp 11), (some (10, false))⟩,
  ⟨some 13, .off 1 (.tmp 3), (some (10, false))⟩,
  ⟨some 14, .load false 1 (.tmp 13), (some (10, false))⟩,
  ⟨some 15, .bin .eql (.tmp 12) (.tmp 14), (some (10, false))⟩,
  ⟨some 16, .move (.tmp 15), (some (10, false))⟩,
  ⟨some 17, .off 0 (.tmp 2), (some (16, true))⟩,
  ⟨some 18, .load false 1 (.tmp 17), (some (16, true))⟩,
  ⟨some 19, .off 0 (.tmp 3), (some (16, true))⟩,
  ⟨some 20, .load false 1 (.tmp 19), (some (16, true))⟩,
  ⟨some 21, .bin .lss (.tmp 18) (.tmp 20), (some (16, true))⟩,
  ⟨some 22, .pick (.tmp 16) (.tmp 21) (.const (.bool false)), (some (10, false))⟩,
  ⟨some 23, .pick (.tmp 10) (.const (.bool true)) (.tmp 22), none⟩,
  ⟨some 4, .move (.tmp 23), none⟩])
 (.ret))
theorem light33 : Light Try.prog 33 2 24 L33 [.tmp 4] :=
  ⟨Try.f33, _, Try.func33, rfl, rfl, by kernel_rfl, by kernel_rfl, by decide⟩

/-! ### function 34: container/heap.down -/
def L34_1 : LCode :=
 .block 1 (.seq (.region [⟨some 12, .move (.tmp 7), none⟩,
  ⟨some 13, .bin .mul (.const (.int .i64 2)) (.tmp 12), none⟩,
  ⟨some 14, .bin .add (.tmp 13) (.const (.int .i64 1)), none⟩,
  ⟨some 8, .move (.tmp 14), none⟩])
 (.seq (.seq (.region [⟨some 15, .move (.tmp 8), none⟩,
  ⟨some 16, .move (.tmp 2), none⟩,
  ⟨some 17, .bin .geq (.tmp 15) (.tmp 16), none⟩,
  ⟨some 18, .move (.tmp 17), none⟩,
  ⟨some 19, .move (.tmp 8), (some (18, false))⟩,
  ⟨some 20, .bin .lss (.tmp 19) (.const (.int .i64 0)), (some (18, false))⟩,
  ⟨some 21, .pick (.tmp 18) (.const (.bool true)) (.tmp 20), none⟩])
 (.cond (.tmp 21) (.exit 0)
 (.skip)))
 (.seq (.region [⟨some 22, .move (.tmp 8), none⟩,
  ⟨some 9, .move (.tmp 22), none⟩])
 (.seq (.seq (.region [⟨some 23, .move (.tmp 8), none⟩,
  ⟨some 24, .bin .add (.tmp 23) (.const (.int .i64 1)), none⟩,
  ⟨some 10, .move (.tmp 24), none⟩])
 (.seq (.region [⟨some 25, .move (.tmp 10), none⟩,
  ⟨some 26, .move (.tmp 2), none⟩,
  ⟨some 27, .bin .lss (.tmp 25) (.tmp 26), none⟩,
  ⟨some 28, .move (.tmp 27), none⟩,
  ⟨some 29, .move (.tmp 0), (some (28, true))⟩,
  ⟨some 30, .move (.tmp 10), (some (28, true))⟩,
  ⟨some 31, .move (.tmp 8), (some (28, true))⟩,
  ⟨some 32, .invoke (.tmp 29) "Less" [.tmp 30, .tmp 31], (some (28, true))⟩,
  ⟨some 33, .pick (.tmp 28) (.tmp 32) (.const (.bool false)), none⟩])
 (.cond (.tmp 33) (.region [⟨some 34, .move (.tmp 10), none⟩,
  ⟨some 9, .move (.tmp 34), none⟩])
 (.skip))))
 (.seq (.seq (.region [⟨some 35, .move (.tmp 0), none⟩,
  ⟨some 36, .move (.tmp 9), none⟩,
  ⟨some 37, .move (.tmp 7), none⟩,
  ⟨some 38, .invoke (.tmp 35) "Less" [.tmp 36, .tmp 37], none⟩,
  ⟨some 39, .un .not (.tmp 38), none⟩])
 (.cond (.tmp 39) (.exit 0)
 (.skip)))
 (.seq (.region [⟨some 40, .move (.tmp 0), none⟩,
  ⟨some 41, .move (.tmp 7), none⟩,
  ⟨some 42, .move (.tmp 9), none⟩,
  ⟨some 43, .invoke (.tmp 40) "Swap" [.tmp 41, .tmp 42], none⟩])
 (.region [⟨some 44, .move (.tmp 9), none⟩,
  ⟨some 7, .move (.tmp 44), none⟩])))))))
def L34 : LCode :=
 .seq (.region [⟨some 6, .move (.const (.bool false)), none⟩])
 (.seq (.region [⟨some 11, .move (.tmp 1), none⟩,
  ⟨some 7, .move (.tmp 11), none⟩])
 (.seq (.block 0 (.loop L34_1))
 (.seq (.region [⟨some 45, .move (.tmp 7), none⟩,
  ⟨some 46, .move (.tmp 1), none⟩,
  ⟨some 47, .bin .gtr (.tmp 45) (.tmp 46), none⟩,
  ⟨some 6, .move (.tmp 47), none⟩])
 (.ret))))
theorem light34 : Light Try.prog 34 3 48 L34 [.tmp 6] :=
  ⟨Try.f34, _, Try.func34, rfl, rfl, by kernel_rfl, by kernel_rfl, by decide⟩

/-! ### function 35: container/heap.up -/
def L35_1 : LCode :=
 .block 1 (.seq (.region [⟨some 5, .move (.tmp 1), none⟩,
  ⟨some 6, .bin .sub (.tmp 5) (.const (.int .i64 1)), none⟩,
  ⟨some 7, .bin .quo (.tmp 6) (.const (.int .i64 2)), none⟩,
  ⟨some 4, .move (.tmp 7), none⟩])
 (.seq (.seq (.region [⟨some 8, .move (.tmp 4), none⟩,
  ⟨some 9, .move (.tmp 1), none⟩,
  ⟨some 10, .bin .eql (.tmp 8) (.tmp 9), none⟩,
  ⟨some 11, .move (.tmp 10), none⟩,
  ⟨some 12, .move (.tmp 0), (some (11, false))⟩,
  ⟨some 13, .move (.tmp 1), (some (11, false))⟩,
  ⟨some 14, .move (.tmp 4), (some (11, false))⟩,
  ⟨some 15, .invoke (.tmp 12) "Less" [.tmp 13, .tmp 14], (some (11, false))⟩,
  ⟨some 16, .un .not (.tmp 15), (some (11, false))⟩,
  ⟨some 17, .pick (.tmp 11) (.const (.bool true)) (.tmp 16), none⟩])
 (.cond (.tmp 17) (.exit 0)
 (.skip)))
 (.seq (.region [⟨some 18, .move (.tmp 0), none⟩,
  ⟨some 19, .move (.tmp 4), none⟩,
  ⟨some 20, .move (.tmp 1), none⟩,
  ⟨some 21, .invoke (.tmp 18) "Swap" [.tmp 19, .tmp 20], none⟩])
 (.region [⟨some 22, .move (.tmp 4), none⟩,
  ⟨some 1, .move (.tmp 22), none⟩]))))
def L35 : LCode :=
 .block 0 (.loop L35_1)
theorem light35 : Light Try.prog 35 2 23 L35 [] :=
  ⟨Try.f35, _, Try.func35, rfl, rfl, by kernel_rfl, by kernel_rfl, by decide⟩

/-! ### function 53: (outrider/graph.ages).Less -/
def L53 : LCode :=
 .seq (.region [⟨some 6, .move (.const (.bool false)), none⟩])
 (.seq (.draw [⟨⟨some 7, .move (.tmp 0), none⟩, .pure, 0, 0⟩,
  ⟨⟨some 8, .move (.tmp 1), none⟩, .pure, 0, 0⟩,
  ⟨⟨some 9, .idx 1 (.tmp 7) (.tmp 8), none⟩, .pure, 0, 0⟩,
  ⟨⟨some 10, .load false 1 (.tmp 9), none⟩, .read, 0, 0⟩,
  ⟨⟨some 11, .move (.tmp 0), none⟩, .pure, 0, 0⟩,
  ⟨⟨some 12, .move (.tmp 2), none⟩, .pure, 0, 0⟩,
  ⟨⟨some 13, .idx 1 (.tmp 11) (.tmp 12), none⟩, .pure, 0, 0⟩,
  ⟨⟨some 14, .load false 1 (.tmp 13), none⟩, .read, 0, 0⟩,
  ⟨⟨some 15, .bin .lss (.tmp 10) (.tmp 14), none⟩, .pure, 0, 0⟩,
  ⟨⟨some 6, .move (.tmp 15), none⟩, .pure, 0, 0⟩])
 (.ret))
theorem light53 : Light Try.prog 53 3 16 L53 [.tmp 6] :=
  ⟨Try.f53, _, Try.func53, rfl, rfl, by kernel_rfl, by kernel_rfl, by decide⟩

/-! ### function 54: (*outrider/graph.ages).Pop -/
def L54 : LCode :=
 .seq (.region [⟨some 2, .move (.const (.nilIface)), none⟩])
 (.seq (.region [⟨some 5, .move (.tmp 0), none⟩,
  ⟨some 6, .nilCheck (.tmp 5), none⟩,
  ⟨some 7, .load false 1 (.tmp 6), none⟩,
  ⟨some 3, .move (.tmp 7), none⟩])
 (.seq (.region [⟨some 8, .move (.tmp 3), none⟩,
  ⟨some 9, .move (.tmp 3), none⟩,
  ⟨some 10, .len (.tmp 9), none⟩,
  ⟨some 11, .bin .sub (.tmp 10) (.const (.int .i64 1)), none⟩,
  ⟨some 12, .idx 1 (.tmp 8) (.tmp 11), none⟩,
  ⟨some 13, .load false 1 (.tmp 12), none⟩,
  ⟨some 4, .move (.tmp 13), none⟩])
 (.seq (.region [⟨some 14, .move (.tmp 0), none⟩,
  ⟨some 15, .move (.tmp 3), none⟩,
  ⟨some 16, .move (.tmp 3), none⟩,
  ⟨some 17, .len (.tmp 16), none⟩,
  ⟨some 18, .bin .sub (.tmp 17) (.const (.int .i64 1)), none⟩,
  ⟨some 19, .slice 1 (.tmp 15) none (some (.tmp 18)) none, none⟩,
  ⟨some 20, .nilCheck (.tmp 14), none⟩,
  ⟨none, .store 1 (.tmp 20) (.tmp 19), none⟩])
 (.seq (.region [⟨some 21, .move (.tmp 4), none⟩,
  ⟨some 22, .iface 3 (.tmp 21), none⟩,
  ⟨some 2, .move (.tmp 22), none⟩])
 (.ret)))))
theorem light54 : Light Try.prog 54 1 23 L54 [.tmp 2] :=
  ⟨Try.f54, _, Try.func54, rfl, rfl, by kernel_rfl, by kernel_rfl, by decide⟩

/-! ### function 55: (*outrider/graph.ages).Push -/
def L55 : LCode :=
 .draw [⟨⟨some 4, .move (.tmp 0), none⟩, .pure, 0, 2⟩,
  ⟨⟨some 5, .move (.tmp 0), none⟩, .pure, 0, 1⟩,
  ⟨⟨some 6, .nilCheck (.tmp 5), none⟩, .pure, 0, 1⟩,
  ⟨⟨some 7, .load false 1 (.tmp 6), none⟩, .read, 0, 1⟩,
  ⟨⟨some 8, .move (.tmp 1), none⟩, .pure, 0, 0⟩,
  ⟨⟨some 9, .assert 3 (.int .i64 0) false (.tmp 8), none⟩, .pure, 0, 0⟩,
  ⟨⟨some 10, .buildSlice 3 1 1 [.int .i64 0] [(0, 1, .tmp 9)], none⟩, .heavy, 0, 1⟩,
  ⟨⟨some 11, .append 3 1 8 (.tmp 7) (.tmp 10), none⟩, .heavy, 1, 2⟩,
  ⟨⟨some 12, .nilCheck (.tmp 4), none⟩, .pure, 2, 2⟩,
  ⟨⟨none, .store 1 (.tmp 12) (.tmp 11), none⟩, .heavy, 2, 3⟩]
theorem light55 : Light Try.prog 55 2 13 L55 [] :=
  ⟨Try.f55, _, Try.func55, rfl, rfl, by kernel_rfl, by kernel_rfl, by decide⟩

/-! ### function 56: (outrider/graph.ages).Swap -/
def L56 : LCode :=
 .draw [⟨⟨some 6, .move (.tmp 0), none⟩, .pure, 0, 0⟩,
  ⟨⟨some 7, .move (.tmp 1), none⟩, .pure, 0, 0⟩,
  ⟨⟨some 8, .move (.tmp 0), none⟩, .pure, 0, 1⟩,
  ⟨⟨some 9, .move (.tmp 2), none⟩, .pure, 0, 1⟩,
  ⟨⟨some 10, .move (.tmp 0), none⟩, .pure, 0, 0⟩,
  ⟨⟨some 11, .move (.tmp 2), none⟩, .pure, 0, 0⟩,
  ⟨⟨some 12, .idx 1 (.tmp 10) (.tmp 11), none⟩, .pure, 0, 0⟩,
  ⟨⟨some 13, .load false 1 (.tmp 12), none⟩, .read, 0, 0⟩,
  ⟨⟨some 14, .move (.tmp 0), none⟩, .pure, 0, 0⟩,
  ⟨⟨some 15, .move (.tmp 1), none⟩, .pure, 0, 0⟩,
  ⟨⟨some 16, .idx 1 (.tmp 14) (.tmp 15), none⟩, .pure, 0, 0⟩,
  ⟨⟨some 17, .load false 1 (.tmp 16), none⟩, .read, 0, 0⟩,
  ⟨⟨some 18, .idx 1 (.tmp 6) (.tmp 7), none⟩, .pure, 0, 0⟩,
  ⟨⟨none, .store 1 (.tmp 18) (.tmp 13), none⟩, .heavy, 0, 1⟩,
  ⟨⟨some 19, .idx 1 (.tmp 8) (.tmp 9), none⟩, .pure, 1, 1⟩,
  ⟨⟨none, .store 1 (.tmp 19) (.tmp 17), none⟩, .heavy, 1, 2⟩]
theorem light56 : Light Try.prog 56 3 20 L56 [] :=
  ⟨Try.f56, _, Try.func56, rfl, rfl, by kernel_rfl, by kernel_rfl, by decide⟩

end Go.Proofs.Ytadegahkgpedgaa
