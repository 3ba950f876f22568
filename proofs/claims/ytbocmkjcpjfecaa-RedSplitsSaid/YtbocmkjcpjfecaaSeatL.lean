/-
  The light code of functions of this seat: printed by a program of this session (wip/tools/lightgen.py); each is held against the program by the kernel.
-/
import Derived.Test.YtbocmkjcpjfecaaOtT
import Derived.KernelRfl
import Derived.Test.YtbocmkjcpjfecaaProg
set_option maxRecDepth 100000
namespace Go.Proofs.Ytbocmkjcpjfecaa
open Go.Ot

/-! ### function 3: outrider/outriderlaw14.RedJoins -/
def L3 : LCode :=
 .seq (.region [⟨some 6, .move (.const (.bool false)), none⟩])
 (.seq (.region [⟨some 7, .move (.tmp 0), none⟩,
  ⟨some 8, .call 7 [.tmp 7], none⟩,
  ⟨some 9, .move (.tmp 0), none⟩,
  ⟨some 10, .call 8 [.tmp 9], none⟩,
  ⟨some 11, .eqB false (.tmp 8) (.tmp 10), none⟩,
  ⟨some 12, .move (.tmp 11), none⟩,
  ⟨some 13, .move (.tmp 0), (some (12, true))⟩,
  ⟨some 14, .call 9 [.tmp 13], (some (12, true))⟩,
  ⟨some 15, .move (.tmp 0), (some (12, true))⟩,
  ⟨some 16, .call 10 [.tmp 15], (some (12, true))⟩,
  ⟨some 17, .bin .eql (.tmp 14) (.tmp 16), (some (12, true))⟩,
  ⟨some 18, .pick (.tmp 12) (.tmp 17) (.const (.bool false)), none⟩,
  ⟨some 19, .move (.tmp 18), none⟩,
  ⟨some 20, .move (.tmp 0), (some (19, true))⟩,
  ⟨some 21, .move (.tmp 1), (some (19, true))⟩,
  ⟨some 22, .move (.tmp 2), (some (19, true))⟩,
  ⟨some 23, .call 11 [.tmp 20, .tmp 21, .tmp 22], (some (19, true))⟩,
  ⟨some 24, .move (.tmp 0), (some (19, true))⟩,
  ⟨some 25, .move (.tmp 1), (some (19, true))⟩,
  ⟨some 26, .move (.tmp 2), (some (19, true))⟩,
  ⟨some 27, .call 12 [.tmp 24, .tmp 25, .tmp 26], (some (19, true))⟩,
  ⟨some 28, .bin .eql (.tmp 23) (.tmp 27), (some (19, true))⟩,
  ⟨some 29, .pick (.tmp 19) (.tmp 28) (.const (.bool false)), none⟩,
  ⟨some 30, .move (.tmp 29), none⟩,
  ⟨some 31, .call 13 [], (some (30, true))⟩,
  ⟨some 32, .pick (.tmp 30) (.tmp 31) (.const (.bool false)), none⟩,
  ⟨some 6, .move (.tmp 32), none⟩])
 (.ret))
theorem light3 : Light Try.prog 3 3 33 L3 [.tmp 6] :=
  ⟨Try.f3, _, Try.func3, rfl, rfl, by kernel_rfl, by kernel_rfl, by decide⟩

/-! ### function 4: outrider/outriderlaw14.RedLaws -/
def L4 : LCode :=
 .seq (.region [⟨some 1, .box 29 4 (.tmp 0), none⟩,
  ⟨some 2, .move (.const (.bool false)), none⟩])
 (.seq (.draw [⟨⟨some 7, .off 0 (.tmp 1), none⟩, .pure, 0, 0⟩,
  ⟨⟨some 8, .load false 1 (.tmp 7), none⟩, .read, 0, 0⟩,
  ⟨⟨some 9, .off 1 (.tmp 1), none⟩, .pure, 0, 0⟩,
  ⟨⟨some 10, .load false 1 (.tmp 9), none⟩, .read, 0, 0⟩,
  ⟨⟨some 11, .off 2 (.tmp 1), none⟩, .pure, 0, 0⟩,
  ⟨⟨some 12, .load false 1 (.tmp 11), none⟩, .read, 0, 0⟩,
  ⟨⟨some 13, .off 3 (.tmp 1), none⟩, .pure, 0, 0⟩,
  ⟨⟨some 14, .load false 1 (.tmp 13), none⟩, .read, 0, 0⟩,
  ⟨⟨some 3, .move (.tmp 8), none⟩, .pure, 0, 0⟩,
  ⟨⟨some 4, .move (.tmp 10), none⟩, .pure, 0, 0⟩,
  ⟨⟨some 5, .move (.tmp 12), none⟩, .pure, 0, 0⟩,
  ⟨⟨some 6, .move (.tmp 14), none⟩, .pure, 0, 0⟩])
 (.seq (.seq (.region [⟨some 15, .move (.tmp 3), none⟩,
  ⟨some 16, .call 7 [.tmp 15], none⟩,
  ⟨some 17, .un .not (.tmp 16), none⟩])
 (.cond (.tmp 17) (.seq (.region [⟨some 18, .move (.tmp 3), none⟩,
  ⟨some 19, .move (.tmp 4), none⟩,
  ⟨some 20, .move (.tmp 5), none⟩,
  ⟨some 21, .call 11 [.tmp 18, .tmp 19, .tmp 20], none⟩,
  ⟨some 22, .bin .eql (.tmp 21) (.const (.int .i64 0)), none⟩,
  ⟨some 23, .move (.tmp 22), none⟩,
  ⟨some 24, .call 13 [], (some (23, true))⟩,
  ⟨some 25, .pick (.tmp 23) (.tmp 24) (.const (.bool false)), none⟩,
  ⟨some 2, .move (.tmp 25), none⟩])
 (.ret))
 (.skip)))
 (.seq (.region [⟨some 26, .move (.tmp 3), none⟩,
  ⟨some 27, .move (.tmp 4), none⟩,
  ⟨some 28, .move (.tmp 5), none⟩,
  ⟨some 29, .call 11 [.tmp 26, .tmp 27, .tmp 28], none⟩,
  ⟨some 30, .move (.tmp 3), none⟩,
  ⟨some 31, .move (.tmp 5), none⟩,
  ⟨some 32, .move (.tmp 4), none⟩,
  ⟨some 33, .call 11 [.tmp 30, .tmp 31, .tmp 32], none⟩,
  ⟨some 34, .bin .eql (.tmp 29) (.tmp 33), none⟩,
  ⟨some 35, .move (.tmp 34), none⟩,
  ⟨some 36, .move (.tmp 3), (some (35, true))⟩,
  ⟨some 37, .move (.tmp 3), (some (35, true))⟩,
  ⟨some 38, .move (.tmp 4), (some (35, true))⟩,
  ⟨some 39, .move (.tmp 5), (some (35, true))⟩,
  ⟨some 40, .call 11 [.tmp 37, .tmp 38, .tmp 39], (some (35, true))⟩,
  ⟨some 41, .move (.tmp 6), (some (35, true))⟩,
  ⟨some 42, .call 11 [.tmp 36, .tmp 40, .tmp 41], (some (35, true))⟩,
  ⟨some 43, .move (.tmp 3), (some (35, true))⟩,
  ⟨some 44, .move (.tmp 4), (some (35, true))⟩,
  ⟨some 45, .move (.tmp 3), (some (35, true))⟩,
  ⟨some 46, .move (.tmp 5), (some (35, true))⟩,
  ⟨some 47, .move (.tmp 6), (some (35, true))⟩,
  ⟨some 48, .call 11 [.tmp 45, .tmp 46, .tmp 47], (some (35, true))⟩,
  ⟨some 49, .call 11 [.tmp 43, .tmp 44, .tmp 48], (some (35, true))⟩,
  ⟨some 50, .bin .eql (.tmp 42) (.tmp 49), (some (35, true))⟩,
  ⟨some 51, .pick (.tmp 35) (.tmp 50) (.const (.bool false)), none⟩,
  ⟨some 52, .move (.tmp 51), none⟩,
  ⟨some 53, .move (.tmp 3), (some (52, true))⟩,
  ⟨some 54, .move (.tmp 4), (some (52, true))⟩,
  ⟨some 55, .move (.tmp 3), (some (52, true))⟩,
  ⟨some 56, .call 9 [.tmp 55], (some (52, true))⟩,
  ⟨some 57, .call 11 [.tmp 53, .tmp 54, .tmp 56], (some (52, true))⟩,
  ⟨some 58, .move (.tmp 4), (some (52, true))⟩,
  ⟨some 59, .bin .eql (.tmp 57) (.tmp 58), (some (52, true))⟩,
  ⟨some 60, .pick (.tmp 52) (.tmp 59) (.const (.bool false)), none⟩,
  ⟨some 61, .move (.tmp 60), none⟩,
  ⟨some 62, .move (.tmp 3), (some (61, true))⟩,
  ⟨some 63, .move (.tmp 3), (some (61, true))⟩,
  ⟨some 64, .call 9 [.tmp 63], (some (61, true))⟩,
  ⟨some 65, .move (.tmp 4), (some (61, true))⟩,
  ⟨some 66, .call 11 [.tmp 62, .tmp 64, .tmp 65], (some (61, true))⟩,
  ⟨some 67, .move (.tmp 4), (some (61, true))⟩,
  ⟨some 68, .bin .eql (.tmp 66) (.tmp 67), (some (61, true))⟩,
  ⟨some 69, .pick (.tmp 61) (.tmp 68) (.const (.bool false)), none⟩,
  ⟨some 70, .move (.tmp 69), none⟩,
  ⟨some 71, .call 13 [], (some (70, true))⟩,
  ⟨some 72, .pick (.tmp 70) (.tmp 71) (.const (.bool false)), none⟩,
  ⟨some 2, .move (.tmp 72), none⟩])
 (.ret))))
theorem light4 : Light Try.prog 4 1 73 L4 [.tmp 2] :=
  ⟨Try.f4, _, Try.func4, rfl, rfl, by kernel_rfl, by kernel_rfl, by decide⟩

/-! ### function 5: outrider/outriderlaw14.RedFolds -/
def L5 : LCode :=
 .seq (.region [⟨some 6, .move (.const (.bool false)), none⟩])
 (.seq (.seq (.region [⟨some 9, .move (.tmp 1), none⟩,
  ⟨some 10, .len (.tmp 9), none⟩,
  ⟨some 11, .bin .gtr (.tmp 10) (.const (.int .i64 500)), none⟩])
 (.cond (.tmp 11) (.seq (.region [⟨some 6, .move (.const (.bool true)), none⟩])
 (.ret))
 (.skip)))
 (.seq (.region [⟨some 12, .move (.tmp 0), none⟩,
  ⟨some 13, .move (.tmp 1), none⟩,
  ⟨some 14, .call 14 [.tmp 12, .tmp 13], none⟩,
  ⟨some 7, .move (.tmp 14), none⟩])
 (.seq (.seq (.region [⟨some 15, .move (.tmp 7), none⟩,
  ⟨some 16, .move (.tmp 0), none⟩,
  ⟨some 17, .move (.tmp 1), none⟩,
  ⟨some 18, .call 15 [.tmp 16, .tmp 17], none⟩,
  ⟨some 19, .bin .neq (.tmp 15) (.tmp 18), none⟩])
 (.cond (.tmp 19) (.seq (.region [⟨some 6, .move (.const (.bool false)), none⟩])
 (.ret))
 (.skip)))
 (.seq (.region [⟨some 20, .move (.tmp 2), none⟩,
  ⟨some 21, .move (.tmp 1), none⟩,
  ⟨some 22, .len (.tmp 21), none⟩,
  ⟨some 23, .bin .add (.tmp 22) (.const (.int .i64 1)), none⟩,
  ⟨some 24, .bin .rem (.tmp 20) (.tmp 23), none⟩,
  ⟨some 25, .move (.tmp 1), none⟩,
  ⟨some 26, .len (.tmp 25), none⟩,
  ⟨some 27, .bin .add (.tmp 24) (.tmp 26), none⟩,
  ⟨some 28, .bin .add (.tmp 27) (.const (.int .i64 1)), none⟩,
  ⟨some 29, .move (.tmp 1), none⟩,
  ⟨some 30, .len (.tmp 29), none⟩,
  ⟨some 31, .bin .add (.tmp 30) (.const (.int .i64 1)), none⟩,
  ⟨some 32, .bin .rem (.tmp 28) (.tmp 31), none⟩,
  ⟨some 2, .move (.tmp 32), none⟩])
 (.seq (.region [⟨some 8, .move (.const (.slice none 0 0)), none⟩])
 (.seq (.region [⟨some 33, .move (.tmp 8), none⟩,
  ⟨some 34, .move (.tmp 1), none⟩,
  ⟨some 35, .move (.tmp 2), none⟩,
  ⟨some 36, .slice 1 (.tmp 34) (some (.tmp 35)) none none, none⟩,
  ⟨some 37, .append 2 1 8 (.tmp 33) (.tmp 36), none⟩,
  ⟨some 8, .move (.tmp 37), none⟩])
 (.seq (.region [⟨some 38, .move (.tmp 8), none⟩,
  ⟨some 39, .move (.tmp 1), none⟩,
  ⟨some 40, .move (.tmp 2), none⟩,
  ⟨some 41, .slice 1 (.tmp 39) none (some (.tmp 40)) none, none⟩,
  ⟨some 42, .append 2 1 8 (.tmp 38) (.tmp 41), none⟩,
  ⟨some 8, .move (.tmp 42), none⟩])
 (.seq (.region [⟨some 43, .move (.tmp 0), none⟩,
  ⟨some 44, .move (.tmp 8), none⟩,
  ⟨some 45, .call 14 [.tmp 43, .tmp 44], none⟩,
  ⟨some 46, .move (.tmp 7), none⟩,
  ⟨some 47, .bin .eql (.tmp 45) (.tmp 46), none⟩,
  ⟨some 48, .move (.tmp 47), none⟩,
  ⟨some 49, .call 13 [], (some (48, true))⟩,
  ⟨some 50, .pick (.tmp 48) (.tmp 49) (.const (.bool false)), none⟩,
  ⟨some 6, .move (.tmp 50), none⟩])
 (.ret)))))))))
theorem light5 : Light Try.prog 5 3 51 L5 [.tmp 6] :=
  ⟨Try.f5, _, Try.func5, rfl, rfl, by kernel_rfl, by kernel_rfl, by decide⟩

/-! ### function 6: outrider/outriderlaw14.RedSplits -/
def L6_1 : LCode :=
 .seq (.seq (.region [⟨some 64, .move (.tmp 14), none⟩,
  ⟨some 65, .move (.tmp 0), none⟩,
  ⟨some 66, .len (.tmp 65), none⟩,
  ⟨some 67, .bin .lss (.tmp 64) (.tmp 66), none⟩])
 (.cond (.tmp 67) (.skip)
 (.exit 0)))
 (.seq (.block 1 (.region [⟨some 70, .move (.tmp 13), none⟩,
  ⟨some 71, .move (.tmp 0), none⟩,
  ⟨some 72, .move (.tmp 14), none⟩,
  ⟨some 73, .idx 2 (.tmp 71) (.tmp 72), none⟩,
  ⟨some 74, .off 1 (.tmp 73), none⟩,
  ⟨some 75, .load false 1 (.tmp 74), none⟩,
  ⟨some 76, .buildSlice 2 1 1 [.int .i64 0] [(0, 1, .tmp 75)], none⟩,
  ⟨some 77, .append 2 1 8 (.tmp 70) (.tmp 76), none⟩,
  ⟨some 13, .move (.tmp 77), none⟩]))
 (.region [⟨some 68, .move (.tmp 14), none⟩,
  ⟨some 69, .bin .add (.tmp 68) (.const (.int .i64 1)), none⟩,
  ⟨some 14, .move (.tmp 69), none⟩]))
def L6_2 : LCode :=
 .seq (.seq (.region [⟨some 78, .move (.tmp 15), none⟩,
  ⟨some 79, .move (.tmp 1), none⟩,
  ⟨some 80, .len (.tmp 79), none⟩,
  ⟨some 81, .bin .lss (.tmp 78) (.tmp 80), none⟩])
 (.cond (.tmp 81) (.skip)
 (.exit 2)))
 (.seq (.block 3 (.seq (.draw [⟨⟨some 84, .move (.tmp 11), none⟩, .pure, 0, 0⟩,
  ⟨⟨some 85, .move (.tmp 1), none⟩, .pure, 0, 0⟩,
  ⟨⟨some 86, .move (.tmp 15), none⟩, .pure, 0, 0⟩,
  ⟨⟨some 87, .idx 2 (.tmp 85) (.tmp 86), none⟩, .pure, 0, 0⟩,
  ⟨⟨some 88, .off 0 (.tmp 87), none⟩, .pure, 0, 0⟩,
  ⟨⟨some 89, .load false 1 (.tmp 88), none⟩, .read, 0, 0⟩,
  ⟨⟨some 90, .move (.tmp 1), none⟩, .pure, 0, 0⟩,
  ⟨⟨some 91, .move (.tmp 15), none⟩, .pure, 0, 0⟩,
  ⟨⟨some 92, .idx 2 (.tmp 90) (.tmp 91), none⟩, .pure, 0, 0⟩,
  ⟨⟨some 93, .off 1 (.tmp 92), none⟩, .pure, 0, 0⟩,
  ⟨⟨some 94, .load false 1 (.tmp 93), none⟩, .read, 0, 0⟩,
  ⟨⟨some 95, .call 17 [.tmp 84, .tmp 89, .tmp 94], none⟩, .heavy, 0, 1⟩])
 (.seq (.region [⟨some 96, .move (.tmp 15), none⟩,
  ⟨some 97, .move (.tmp 2), none⟩,
  ⟨some 98, .len (.tmp 97), none⟩,
  ⟨some 99, .bin .lss (.tmp 96) (.tmp 98), none⟩,
  ⟨some 100, .move (.tmp 99), none⟩,
  ⟨some 101, .move (.tmp 2), (some (100, true))⟩,
  ⟨some 102, .move (.tmp 15), (some (100, true))⟩,
  ⟨some 103, .idx 1 (.tmp 101) (.tmp 102), (some (100, true))⟩,
  ⟨some 104, .load false 1 (.tmp 103), (some (100, true))⟩,
  ⟨some 105, .pick (.tmp 100) (.tmp 104) (.const (.bool false)), none⟩])
 (.cond (.tmp 105) (.draw [⟨⟨some 106, .move (.tmp 9), none⟩, .pure, 0, 0⟩,
  ⟨⟨some 107, .move (.tmp 1), none⟩, .pure, 0, 0⟩,
  ⟨⟨some 108, .move (.tmp 15), none⟩, .pure, 0, 0⟩,
  ⟨⟨some 109, .idx 2 (.tmp 107) (.tmp 108), none⟩, .pure, 0, 0⟩,
  ⟨⟨some 110, .off 0 (.tmp 109), none⟩, .pure, 0, 0⟩,
  ⟨⟨some 111, .load false 1 (.tmp 110), none⟩, .read, 0, 0⟩,
  ⟨⟨some 112, .move (.tmp 1), none⟩, .pure, 0, 0⟩,
  ⟨⟨some 113, .move (.tmp 15), none⟩, .pure, 0, 0⟩,
  ⟨⟨some 114, .idx 2 (.tmp 112) (.tmp 113), none⟩, .pure, 0, 0⟩,
  ⟨⟨some 115, .off 1 (.tmp 114), none⟩, .pure, 0, 0⟩,
  ⟨⟨some 116, .load false 1 (.tmp 115), none⟩, .read, 0, 0⟩,
  ⟨⟨some 117, .call 17 [.tmp 106, .tmp 111, .tmp 116], none⟩, .heavy, 0, 1⟩])
 (.draw [⟨⟨some 118, .move (.tmp 7), none⟩, .pure, 0, 0⟩,
  ⟨⟨some 119, .move (.tmp 1), none⟩, .pure, 0, 0⟩,
  ⟨⟨some 120, .move (.tmp 15), none⟩, .pure, 0, 0⟩,
  ⟨⟨some 121, .idx 2 (.tmp 119) (.tmp 120), none⟩, .pure, 0, 0⟩,
  ⟨⟨some 122, .off 0 (.tmp 121), none⟩, .pure, 0, 0⟩,
  ⟨⟨some 123, .load false 1 (.tmp 122), none⟩, .read, 0, 0⟩,
  ⟨⟨some 124, .move (.tmp 1), none⟩, .pure, 0, 0⟩,
  ⟨⟨some 125, .move (.tmp 15), none⟩, .pure, 0, 0⟩,
  ⟨⟨some 126, .idx 2 (.tmp 124) (.tmp 125), none⟩, .pure, 0, 0⟩,
  ⟨⟨some 127, .off 1 (.tmp 126), none⟩, .pure, 0, 0⟩,
  ⟨⟨some 128, .load false 1 (.tmp 127), none⟩, .read, 0, 0⟩,
  ⟨⟨some 129, .call 17 [.tmp 118, .tmp 123, .tmp 128], none⟩, .heavy, 0, 1⟩])))))
 (.region [⟨some 82, .move (.tmp 15), none⟩,
  ⟨some 83, .bin .add (.tmp 82) (.const (.int .i64 1)), none⟩,
  ⟨some 15, .move (.tmp 83), none⟩]))
def L6 : LCode :=
 .seq (.region [⟨some 6, .move (.const (.bool false)), none⟩])
 (.seq (.seq (.region [⟨some 22, .move (.tmp 1), none⟩,
  ⟨some 23, .len (.tmp 22), none⟩,
  ⟨some 24, .bin .gtr (.tmp 23) (.const (.int .i64 200)), none⟩,
  ⟨some 25, .move (.tmp 24), none⟩,
  ⟨some 26, .move (.tmp 0), (some (25, false))⟩,
  ⟨some 27, .len (.tmp 26), (some (25, false))⟩,
  ⟨some 28, .bin .gtr (.tmp 27) (.const (.int .i64 100)), (some (25, false))⟩,
  ⟨some 29, .pick (.tmp 25) (.const (.bool true)) (.tmp 28), none⟩])
 (.cond (.tmp 29) (.seq (.region [⟨some 6, .move (.const (.bool true)), none⟩])
 (.ret))
 (.skip)))
 (.seq (.region [⟨some 31, .move (.tmp 0), none⟩,
  ⟨some 32, .call 16 [.tmp 31], none⟩,
  ⟨some 30, .move (.tmp 32), none⟩,
  ⟨some 33, .extract (.tmp 30) 0, none⟩,
  ⟨some 34, .extract (.tmp 30) 1, none⟩,
  ⟨some 7, .move (.tmp 33), none⟩,
  ⟨some 8, .move (.tmp 34), none⟩])
 (.seq (.region [⟨some 36, .move (.tmp 0), none⟩,
  ⟨some 37, .call 16 [.tmp 36], none⟩,
  ⟨some 35, .move (.tmp 37), none⟩,
  ⟨some 38, .extract (.tmp 35) 0, none⟩,
  ⟨some 39, .extract (.tmp 35) 1, none⟩,
  ⟨some 9, .move (.tmp 38), none⟩,
  ⟨some 10, .move (.tmp 39), none⟩])
 (.seq (.region [⟨some 41, .move (.tmp 0), none⟩,
  ⟨some 42, .call 16 [.tmp 41], none⟩,
  ⟨some 40, .move (.tmp 42), none⟩,
  ⟨some 43, .extract (.tmp 40) 0, none⟩,
  ⟨some 44, .extract (.tmp 40) 1, none⟩,
  ⟨some 11, .move (.tmp 43), none⟩,
  ⟨some 12, .move (.tmp 44), none⟩])
 (.seq (.seq (.region [⟨some 45, .move (.tmp 8), none⟩,
  ⟨some 46, .bin .neq (.tmp 45) (.const (.int .i64 0)), none⟩,
  ⟨some 47, .move (.tmp 46), none⟩,
  ⟨some 48, .move (.tmp 7), (some (47, false))⟩,
  ⟨some 49, .isNil false (.pointer 58) (.tmp 48), (some (47, false))⟩,
  ⟨some 50, .pick (.tmp 47) (.const (.bool true)) (.tmp 49), none⟩,
  ⟨some 51, .move (.tmp 50), none⟩,
  ⟨some 52, .move (.tmp 9), (some (51, false))⟩,
  ⟨some 53, .isNil false (.pointer 58) (.tmp 52), (some (51, false))⟩,
  ⟨some 54, .pick (.tmp 51) (.const (.bool true)) (.tmp 53), none⟩,
  ⟨some 55, .move (.tmp 54), none⟩,
  ⟨some 56, .move (.tmp 11), (some (55, false))⟩,
  ⟨some 57, .isNil false (.pointer 58) (.tmp 56), (some (55, false))⟩,
  ⟨some 58, .pick (.tmp 55) (.const (.bool true)) (.tmp 57), none⟩])
 (.cond (.tmp 58) (.seq (.region [⟨some 59, .move (.tmp 8), none⟩,
  ⟨some 60, .bin .neq (.tmp 59) (.const (.int .i64 0)), none⟩,
  ⟨some 61, .move (.tmp 60), none⟩,
  ⟨some 62, .call 13 [], (some (61, true))⟩,
  ⟨some 63, .pick (.tmp 61) (.tmp 62) (.const (.bool false)), none⟩,
  ⟨some 6, .move (.tmp 63), none⟩])
 (.ret))
 (.skip)))
 (.seq (.region [⟨some 13, .move (.const (.slice none 0 0)), none⟩])
 (.seq (.seq (.region [⟨some 14, .move (.const (.int .i64 0)), none⟩])
 (.block 0 (.loop L6_1)))
 (.seq (.seq (.region [⟨some 15, .move (.const (.int .i64 0)), none⟩])
 (.block 2 (.loop L6_2)))
 (.seq (.region [⟨some 131, .move (.tmp 11), none⟩,
  ⟨some 132, .move (.tmp 13), none⟩,
  ⟨some 133, .call 18 [.tmp 131, .tmp 132], none⟩,
  ⟨some 130, .move (.tmp 133), none⟩,
  ⟨some 134, .extract (.tmp 130) 0, none⟩,
  ⟨some 135, .extract (.tmp 130) 1, none⟩,
  ⟨some 16, .move (.tmp 134), none⟩,
  ⟨some 17, .move (.tmp 135), none⟩])
 (.seq (.region [⟨some 137, .move (.tmp 9), none⟩,
  ⟨some 138, .move (.tmp 13), none⟩,
  ⟨some 139, .call 18 [.tmp 137, .tmp 138], none⟩,
  ⟨some 136, .move (.tmp 139), none⟩,
  ⟨some 140, .extract (.tmp 136) 0, none⟩,
  ⟨some 141, .extract (.tmp 136) 1, none⟩,
  ⟨some 18, .move (.tmp 140), none⟩,
  ⟨some 19, .move (.tmp 141), none⟩])
 (.seq (.seq (.region [⟨some 142, .move (.tmp 17), none⟩,
  ⟨some 143, .un .not (.tmp 142), none⟩,
  ⟨some 144, .move (.tmp 143), none⟩,
  ⟨some 145, .move (.tmp 19), (some (144, false))⟩,
  ⟨some 146, .un .not (.tmp 145), (some (144, false))⟩,
  ⟨some 147, .pick (.tmp 144) (.const (.bool true)) (.tmp 146), none⟩])
 (.cond (.tmp 147) (.seq (.region [⟨some 6, .move (.const (.bool false)), none⟩])
 (.ret))
 (.skip)))
 (.seq (.region [⟨some 149, .move (.tmp 7), none⟩,
  ⟨some 150, .move (.tmp 18), none⟩,
  ⟨some 151, .call 18 [.tmp 149, .tmp 150], none⟩,
  ⟨some 148, .move (.tmp 151), none⟩,
  ⟨some 152, .extract (.tmp 148) 0, none⟩,
  ⟨some 153, .extract (.tmp 148) 1, none⟩,
  ⟨some 20, .move (.tmp 152), none⟩,
  ⟨some 21, .move (.tmp 153), none⟩])
 (.seq (.region [⟨some 154, .move (.tmp 21), none⟩,
  ⟨some 155, .move (.tmp 154), none⟩,
  ⟨some 156, .move (.tmp 16), (some (155, true))⟩,
  ⟨some 157, .move (.tmp 20), (some (155, true))⟩,
  ⟨some 158, .call 19 [.tmp 156, .tmp 157], (some (155, true))⟩,
  ⟨some 159, .pick (.tmp 155) (.tmp 158) (.const (.bool false)), none⟩,
  ⟨some 160, .move (.tmp 159), none⟩,
  ⟨some 161, .move (.tmp 7), (some (160, true))⟩,
  ⟨some 162, .call 20 [.tmp 161], (some (160, true))⟩,
  ⟨some 163, .move (.tmp 9), (some (160, true))⟩,
  ⟨some 164, .call 20 [.tmp 163], (some (160, true))⟩,
  ⟨some 165, .bin .add (.tmp 162) (.tmp 164), (some (160, true))⟩,
  ⟨some 166, .move (.tmp 11), (some (160, true))⟩,
  ⟨some 167, .call 20 [.tmp 166], (some (160, true))⟩,
  ⟨some 168, .bin .eql (.tmp 165) (.tmp 167), (some (160, true))⟩,
  ⟨some 169, .pick (.tmp 160) (.tmp 168) (.const (.bool false)), none⟩,
  ⟨some 170, .move (.tmp 169), none⟩,
  ⟨some 171, .call 13 [], (some (170, true))⟩,
  ⟨some 172, .pick (.tmp 170) (.tmp 171) (.const (.bool false)), none⟩,
  ⟨some 6, .move (.tmp 172), none⟩])
 (.ret))))))))))))))
theorem light6 : Light Try.prog 6 3 173 L6 [.tmp 6] :=
  ⟨Try.f6, _, Try.func6, rfl, rfl, by kernel_rfl, by kernel_rfl, by decide⟩

/-! ### function 7: outrider/red.Right -/
def L7 : LCode :=
 .seq (.region [⟨some 2, .move (.const (.bool false)), none⟩])
 (.seq (.region [⟨some 3, .move (.tmp 0), none⟩,
  ⟨some 4, .bin .geq (.tmp 3) (.const (.int .i64 1)), none⟩,
  ⟨some 5, .move (.tmp 4), none⟩,
  ⟨some 6, .move (.tmp 0), (some (5, true))⟩,
  ⟨some 7, .bin .leq (.tmp 6) (.const (.int .i64 7)), (some (5, true))⟩,
  ⟨some 8, .pick (.tmp 5) (.tmp 7) (.const (.bool false)), none⟩,
  ⟨some 2, .move (.tmp 8), none⟩])
 (.ret))
theorem light7 : Light Try.prog 7 1 9 L7 [.tmp 2] :=
  ⟨Try.f7, _, Try.func7, rfl, rfl, by kernel_rfl, by kernel_rfl, by decide⟩

/-! ### function 8: outrider/outriderref14.Right -/
def L8 : LCode :=
 .seq (.region [⟨some 2, .move (.const (.bool false)), none⟩])
 (.seq (.region [⟨some 3, .move (.tmp 0), none⟩,
  ⟨some 4, .bin .geq (.tmp 3) (.const (.int .i64 1)), none⟩,
  ⟨some 5, .move (.tmp 4), none⟩,
  ⟨some 6, .move (.tmp 0), (some (5, true))⟩,
  ⟨some 7, .bin .leq (.tmp 6) (.const (.int .i64 7)), (some (5, true))⟩,
  ⟨some 8, .pick (.tmp 5) (.tmp 7) (.const (.bool false)), none⟩,
  ⟨some 2, .move (.tmp 8), none⟩])
 (.ret))
theorem light8 : Light Try.prog 8 1 9 L8 [.tmp 2] :=
  ⟨Try.f8, _, Try.func8, rfl, rfl, by kernel_rfl, by kernel_rfl, by decide⟩

/-! ### function 9: outrider/red.Zero -/
def L9 : LCode :=
 .seq (.region [⟨some 2, .move (.const (.int .i64 0)), none⟩])
 (.seq (.seq (.region [⟨some 3, .move (.tmp 0), none⟩])
 (.block 0 (.seq (.region [⟨some 5, .bin .eql (.tmp 3) (.const (.int .i64 2)), none⟩,
  ⟨some 4, .move (.tmp 5), none⟩])
 (.cond (.tmp 4) (.seq (.region [⟨some 2, .move (.const (.int .i64 1)), none⟩])
 (.ret))
 (.seq (.region [⟨some 7, .bin .eql (.tmp 3) (.const (.int .i64 3)), none⟩,
  ⟨some 6, .move (.tmp 7), none⟩])
 (.cond (.tmp 6) (.seq (.region [⟨some 2, .move (.const (.int .i64 9223372036854775807)), none⟩])
 (.ret))
 (.seq (.region [⟨some 9, .bin .eql (.tmp 3) (.const (.int .i64 4)), none⟩,
  ⟨some 8, .move (.tmp 9), none⟩])
 (.cond (.tmp 8) (.seq (.region [⟨some 2, .move (.const (.int .i64 (-9223372036854775808))), none⟩])
 (.ret))
 (.seq (.region [⟨some 11, .bin .eql (.tmp 3) (.const (.int .i64 5)), none⟩,
  ⟨some 10, .move (.tmp 11), none⟩])
 (.cond (.tmp 10) (.seq (.region [⟨some 2, .move (.const (.int .i64 (-1))), none⟩])
 (.ret))
 (.skip)))))))))))
 (.seq (.region [⟨some 2, .move (.const (.int .i64 0)), none⟩])
 (.ret)))
theorem light9 : Light Try.prog 9 1 12 L9 [.tmp 2] :=
  ⟨Try.f9, _, Try.func9, rfl, rfl, by kernel_rfl, by kernel_rfl, by decide⟩

/-! ### function 10: outrider/outriderref14.Zero -/
def L10 : LCode :=
 .seq (.region [⟨some 2, .move (.const (.int .i64 0)), none⟩])
 (.seq (.region [⟨some 4, .buildSlice 2 1 7 [.int .i64 0] [(0, 1, .const (.int .i64 0)), (1, 1, .const (.int .i64 1)), (2, 1, .const (.int .i64 9223372036854775807)), (3, 1, .const (.int .i64 (-9223372036854775808))), (4, 1, .const (.int .i64 (-1))), (5, 1, .const (.int .i64 0)), (6, 1, .const (.int .i64 0))], none⟩,
  ⟨some 3, .move (.tmp 4), none⟩])
 (.seq (.seq (.region [⟨some 5, .move (.tmp 0), none⟩,
  ⟨some 6, .call 8 [.tmp 5], none⟩,
  ⟨some 7, .un .not (.tmp 6), none⟩])
 (.cond (.tmp 7) (.seq (.region [⟨some 2, .move (.const (.int .i64 0)), none⟩])
 (.ret))
 (.skip)))
 (.seq (.region [⟨some 8, .move (.tmp 3), none⟩,
  ⟨some 9, .move (.tmp 0), none⟩,
  ⟨some 10, .bin .sub (.tmp 9) (.const (.int .i64 1)), none⟩,
  ⟨some 11, .idx 1 (.tmp 8) (.tmp 10), none⟩,
  ⟨some 12, .load false 1 (.tmp 11), none⟩,
  ⟨some 2, .move (.tmp 12), none⟩])
 (.ret))))
theorem light10 : Light Try.prog 10 1 13 L10 [.tmp 2] :=
  ⟨Try.f10, _, Try.func10, rfl, rfl, by kernel_rfl, by kernel_rfl, by decide⟩

/-! ### function 11: outrider/red.Join -/
def L11 : LCode :=
 .seq (.region [⟨some 6, .move (.const (.int .i64 0)), none⟩])
 (.seq (.seq (.region [⟨some 7, .move (.tmp 0), none⟩])
 (.block 0 (.seq (.region [⟨some 9, .bin .eql (.tmp 7) (.const (.int .i64 1)), none⟩,
  ⟨some 8, .move (.tmp 9), none⟩])
 (.cond (.tmp 8) (.seq (.region [⟨some 10, .move (.tmp 1), none⟩,
  ⟨some 11, .move (.tmp 2), none⟩,
  ⟨some 12, .bin .add (.tmp 10) (.tmp 11), none⟩,
  ⟨some 6, .move (.tmp 12), none⟩])
 (.ret))
 (.seq (.region [⟨some 14, .bin .eql (.tmp 7) (.const (.int .i64 2)), none⟩,
  ⟨some 13, .move (.tmp 14), none⟩])
 (.cond (.tmp 13) (.seq (.region [⟨some 15, .move (.tmp 1), none⟩,
  ⟨some 16, .move (.tmp 2), none⟩,
  ⟨some 17, .bin .mul (.tmp 15) (.tmp 16), none⟩,
  ⟨some 6, .move (.tmp 17), none⟩])
 (.ret))
 (.seq (.region [⟨some 19, .bin .eql (.tmp 7) (.const (.int .i64 3)), none⟩,
  ⟨some 18, .move (.tmp 19), none⟩])
 (.cond (.tmp 18) (.seq (.region [⟨some 20, .move (.tmp 1), none⟩,
  ⟨some 21, .move (.tmp 2), none⟩,
  ⟨some 22, .minmax false (.tmp 20) [.tmp 21], none⟩,
  ⟨some 6, .move (.tmp 22), none⟩])
 (.ret))
 (.seq (.region [⟨some 24, .bin .eql (.tmp 7) (.const (.int .i64 4)), none⟩,
  ⟨some 23, .move (.tmp 24), none⟩])
 (.cond (.tmp 23) (.seq (.region [⟨some 25, .move (.tmp 1), none⟩,
  ⟨some 26, .move (.tmp 2), none⟩,
  ⟨some 27, .minmax true (.tmp 25) [.tmp 26], none⟩,
  ⟨some 6, .move (.tmp 27), none⟩])
 (.ret))
 (.seq (.region [⟨some 29, .bin .eql (.tmp 7) (.const (.int .i64 5)), none⟩,
  ⟨some 28, .move (.tmp 29), none⟩])
 (.cond (.tmp 28) (.seq (.region [⟨some 30, .move (.tmp 1), none⟩,
  ⟨some 31, .move (.tmp 2), none⟩,
  ⟨some 32, .bin .and (.tmp 30) (.tmp 31), none⟩,
  ⟨some 6, .move (.tmp 32), none⟩])
 (.ret))
 (.seq (.region [⟨some 34, .bin .eql (.tmp 7) (.const (.int .i64 6)), none⟩,
  ⟨some 33, .move (.tmp 34), none⟩])
 (.cond (.tmp 33) (.seq (.region [⟨some 35, .move (.tmp 1), none⟩,
  ⟨some 36, .move (.tmp 2), none⟩,
  ⟨some 37, .bin .or (.tmp 35) (.tmp 36), none⟩,
  ⟨some 6, .move (.tmp 37), none⟩])
 (.ret))
 (.seq (.region [⟨some 39, .bin .eql (.tmp 7) (.const (.int .i64 7)), none⟩,
  ⟨some 38, .move (.tmp 39), none⟩])
 (.cond (.tmp 38) (.seq (.region [⟨some 40, .move (.tmp 1), none⟩,
  ⟨some 41, .move (.tmp 2), none⟩,
  ⟨some 42, .bin .xor (.tmp 40) (.tmp 41), none⟩,
  ⟨some 6, .move (.tmp 42), none⟩])
 (.ret))
 (.skip)))))))))))))))))
 (.seq (.region [⟨some 6, .move (.const (.int .i64 0)), none⟩])
 (.ret)))
theorem light11 : Light Try.prog 11 3 43 L11 [.tmp 6] :=
  ⟨Try.f11, _, Try.func11, rfl, rfl, by kernel_rfl, by kernel_rfl, by decide⟩

/-! ### function 12: outrider/outriderref14.Join -/
def L12 : LCode :=
 .seq (.region [⟨some 6, .move (.const (.int .i64 0)), none⟩])
 (.seq (.seq (.region [⟨some 9, .move (.tmp 0), none⟩,
  ⟨some 10, .call 8 [.tmp 9], none⟩,
  ⟨some 11, .un .not (.tmp 10), none⟩])
 (.cond (.tmp 11) (.seq (.region [⟨some 6, .move (.const (.int .i64 0)), none⟩])
 (.ret))
 (.skip)))
 (.seq (.region [⟨some 13, .move (.tmp 0), none⟩,
  ⟨some 14, .call 22 [.tmp 13], none⟩,
  ⟨some 15, .move (.tmp 1), none⟩,
  ⟨some 16, .move (.tmp 2), none⟩,
  ⟨some 17, .call 21 [.tmp 14, .tmp 15, .tmp 16], none⟩,
  ⟨some 12, .move (.tmp 17), none⟩,
  ⟨some 18, .extract (.tmp 12) 0, none⟩,
  ⟨some 19, .extract (.tmp 12) 1, none⟩,
  ⟨some 7, .move (.tmp 18), none⟩,
  ⟨some 8, .move (.tmp 19), none⟩])
 (.seq (.region [⟨some 20, .move (.tmp 7), none⟩,
  ⟨some 6, .move (.tmp 20), none⟩])
 (.ret))))
theorem light12 : Light Try.prog 12 3 21 L12 [.tmp 6] :=
  ⟨Try.f12, _, Try.func12, rfl, rfl, by kernel_rfl, by kernel_rfl, by decide⟩

/-! ### function 13: outrider/outriderlaw14.alive -/
def L13 : LCode :=
 .seq (.region [⟨some 0, .move (.const (.bool false)), none⟩])
 (.seq (.region [⟨some 6, .build [.int .i64 0, .int .i64 0] [(0, 1, .const (.int .i64 1))], none⟩,
  ⟨some 7, .build [.int .i64 0, .int .i64 0] [(0, 1, .const (.int .i64 4))], none⟩,
  ⟨some 8, .buildSlice 43 2 2 [.int .i64 0, .int .i64 0] [(0, 2, .tmp 6), (2, 2, .tmp 7)], none⟩,
  ⟨some 9, .call 16 [.tmp 8], none⟩,
  ⟨some 5, .move (.tmp 9), none⟩,
  ⟨some 10, .extract (.tmp 5) 0, none⟩,
  ⟨some 11, .extract (.tmp 5) 1, none⟩,
  ⟨some 1, .move (.tmp 10), none⟩,
  ⟨some 2, .move (.tmp 11), none⟩])
 (.seq (.seq (.region [⟨some 12, .move (.tmp 2), none⟩,
  ⟨some 13, .bin .neq (.tmp 12) (.const (.int .i64 0)), none⟩,
  ⟨some 14, .move (.tmp 13), none⟩,
  ⟨some 15, .move (.tmp 1), (some (14, false))⟩,
  ⟨some 16, .isNil false (.pointer 58) (.tmp 15), (some (14, false))⟩,
  ⟨some 17, .pick (.tmp 14) (.const (.bool true)) (.tmp 16), none⟩,
  ⟨some 18, .move (.tmp 17), none⟩,
  ⟨some 19, .move (.tmp 1), (some (18, false))⟩,
  ⟨some 20, .call 17 [.tmp 19, .const (.int .i64 0), .const (.int .i64 5)], (some (18, false))⟩,
  ⟨some 21, .un .not (.tmp 20), (some (18, false))⟩,
  ⟨some 22, .pick (.tmp 18) (.const (.bool true)) (.tmp 21), none⟩,
  ⟨some 23, .move (.tmp 22), none⟩,
  ⟨some 24, .move (.tmp 1), (some (23, false))⟩,
  ⟨some 25, .call 17 [.tmp 24, .const (.int .i64 0), .const (.int .i64 2)], (some (23, false))⟩,
  ⟨some 26, .un .not (.tmp 25), (some (23, false))⟩,
  ⟨some 27, .pick (.tmp 23) (.const (.bool true)) (.tmp 26), none⟩,
  ⟨some 28, .move (.tmp 27), none⟩,
  ⟨some 29, .move (.tmp 1), (some (28, false))⟩,
  ⟨some 30, .call 17 [.tmp 29, .const (.int .i64 1), .const (.int .i64 4)], (some (28, false))⟩,
  ⟨some 31, .un .not (.tmp 30), (some (28, false))⟩,
  ⟨some 32, .pick (.tmp 28) (.const (.bool true)) (.tmp 31), none⟩,
  ⟨some 33, .move (.tmp 32), none⟩,
  ⟨some 34, .move (.tmp 1), (some (33, false))⟩,
  ⟨some 35, .call 17 [.tmp 34, .const (.int .i64 2), .const (.int .i64 1)], (some (33, false))⟩,
  ⟨some 36, .pick (.tmp 33) (.const (.bool true)) (.tmp 35), none⟩])
 (.cond (.tmp 36) (.seq (.region [⟨some 0, .move (.const (.bool false)), none⟩])
 (.ret))
 (.skip)))
 (.seq (.region [⟨some 38, .move (.tmp 1), none⟩,
  ⟨some 39, .buildSlice 2 1 2 [.int .i64 0] [(0, 1, .const (.int .i64 10)), (1, 1, .const (.int .i64 3))], none⟩,
  ⟨some 40, .call 18 [.tmp 38, .tmp 39], none⟩,
  ⟨some 37, .move (.tmp 40), none⟩,
  ⟨some 41, .extract (.tmp 37) 0, none⟩,
  ⟨some 42, .extract (.tmp 37) 1, none⟩,
  ⟨some 3, .move (.tmp 41), none⟩,
  ⟨some 4, .move (.tmp 42), none⟩])
 (.seq (.region [⟨some 43, .move (.tmp 4), none⟩,
  ⟨some 44, .move (.tmp 43), none⟩,
  ⟨some 45, .move (.tmp 3), (some (44, true))⟩,
  ⟨some 46, .len (.tmp 45), (some (44, true))⟩,
  ⟨some 47, .bin .eql (.tmp 46) (.const (.int .i64 2)), (some (44, true))⟩,
  ⟨some 48, .pick (.tmp 44) (.tmp 47) (.const (.bool false)), none⟩,
  ⟨some 49, .move (.tmp 48), none⟩,
  ⟨some 50, .move (.tmp 3), (some (49, true))⟩,
  ⟨some 51, .idx 1 (.tmp 50) (.const (.int .i64 0)), (some (49, true))⟩,
  ⟨some 52, .load false 1 (.tmp 51), (some (49, true))⟩,
  ⟨some 53, .bin .eql (.tmp 52) (.const (.int .i64 17)), (some (49, true))⟩,
  ⟨some 54, .pick (.tmp 49) (.tmp 53) (.const (.bool false)), none⟩,
  ⟨some 55, .move (.tmp 54), none⟩,
  ⟨some 56, .move (.tmp 3), (some (55, true))⟩,
  ⟨some 57, .idx 1 (.tmp 56) (.const (.int .i64 1)), (some (55, true))⟩,
  ⟨some 58, .load false 1 (.tmp 57), (some (55, true))⟩,
  ⟨some 59, .bin .eql (.tmp 58) (.const (.int .i64 4)), (some (55, true))⟩,
  ⟨some 60, .pick (.tmp 55) (.tmp 59) (.const (.bool false)), none⟩,
  ⟨some 61, .move (.tmp 60), none⟩,
  ⟨some 62, .move (.tmp 1), (some (61, true))⟩,
  ⟨some 63, .call 20 [.tmp 62], (some (61, true))⟩,
  ⟨some 64, .bin .eql (.tmp 63) (.const (.int .i64 3)), (some (61, true))⟩,
  ⟨some 65, .pick (.tmp 61) (.tmp 64) (.const (.bool false)), none⟩,
  ⟨some 66, .move (.tmp 65), none⟩,
  ⟨some 67, .buildSlice 2 1 3 [.int .i64 0] [(0, 1, .const (.int .i64 3)), (1, 1, .const (.int .i64 (-1))), (2, 1, .const (.int .i64 7))], (some (66, true))⟩,
  ⟨some 68, .call 14 [.const (.int .i64 3), .tmp 67], (some (66, true))⟩,
  ⟨some 69, .bin .eql (.tmp 68) (.const (.int .i64 (-1))), (some (66, true))⟩,
  ⟨some 70, .pick (.tmp 66) (.tmp 69) (.const (.bool false)), none⟩,
  ⟨some 0, .move (.tmp 70), none⟩])
 (.ret)))))
theorem light13 : Light Try.prog 13 0 71 L13 [.tmp 0] :=
  ⟨Try.f13, _, Try.func13, rfl, rfl, by kernel_rfl, by kernel_rfl, by decide⟩

/-! ### function 14: outrider/red.Fold -/
def L14_1 : LCode :=
 .seq (.region [⟨some 13, .bin .lss (.tmp 12) (.tmp 11), none⟩])
 (.seq (.cond (.tmp 13) (.skip)
 (.exit 0))
 (.seq (.block 1 (.seq (.region [⟨some 14, .idx 1 (.tmp 10) (.tmp 12), none⟩,
  ⟨some 15, .load false 1 (.tmp 14), none⟩,
  ⟨some 7, .move (.tmp 15), none⟩])
 (.region [⟨some 16, .move (.tmp 0), none⟩,
  ⟨some 17, .move (.tmp 5), none⟩,
  ⟨some 18, .move (.tmp 7), none⟩,
  ⟨some 19, .call 11 [.tmp 16, .tmp 17, .tmp 18], none⟩,
  ⟨some 5, .move (.tmp 19), none⟩])))
 (.region [⟨some 20, .bin .add (.tmp 12) (.const (.int .i64 1)), none⟩,
  ⟨some 12, .move (.tmp 20), none⟩])))
def L14 : LCode :=
 .seq (.region [⟨some 4, .move (.const (.int .i64 0)), none⟩])
 (.seq (.region [⟨some 8, .move (.tmp 0), none⟩,
  ⟨some 9, .call 9 [.tmp 8], none⟩,
  ⟨some 5, .move (.tmp 9), none⟩])
 (.seq (.seq (.region [⟨some 10, .move (.tmp 1), none⟩,
  ⟨some 11, .len (.tmp 10), none⟩,
  ⟨some 12, .move (.const (.int .i64 0)), none⟩])
 (.block 0 (.loop L14_1)))
 (.seq (.region [⟨some 21, .move (.tmp 5), none⟩,
  ⟨some 4, .move (.tmp 21), none⟩])
 (.ret))))
theorem light14 : Light Try.prog 14 2 22 L14 [.tmp 4] :=
  ⟨Try.f14, _, Try.func14, rfl, rfl, by kernel_rfl, by kernel_rfl, by decide⟩

/-! ### function 15: outrider/outriderref14.Fold -/
def L15_1 : LCode :=
 .seq (.seq (.region [⟨some 9, .move (.tmp 6), none⟩,
  ⟨some 10, .move (.tmp 1), none⟩,
  ⟨some 11, .len (.tmp 10), none⟩,
  ⟨some 12, .bin .lss (.tmp 9) (.tmp 11), none⟩])
 (.cond (.tmp 12) (.skip)
 (.exit 0)))
 (.seq (.block 1 (.region [⟨some 15, .move (.tmp 0), none⟩,
  ⟨some 16, .move (.tmp 5), none⟩,
  ⟨some 17, .move (.tmp 1), none⟩,
  ⟨some 18, .move (.tmp 6), none⟩,
  ⟨some 19, .idx 1 (.tmp 17) (.tmp 18), none⟩,
  ⟨some 20, .load false 1 (.tmp 19), none⟩,
  ⟨some 21, .call 12 [.tmp 15, .tmp 16, .tmp 20], none⟩,
  ⟨some 5, .move (.tmp 21), none⟩]))
 (.region [⟨some 13, .move (.tmp 6), none⟩,
  ⟨some 14, .bin .add (.tmp 13) (.const (.int .i64 1)), none⟩,
  ⟨some 6, .move (.tmp 14), none⟩]))
def L15 : LCode :=
 .seq (.region [⟨some 4, .move (.const (.int .i64 0)), none⟩])
 (.seq (.region [⟨some 7, .move (.tmp 0), none⟩,
  ⟨some 8, .call 10 [.tmp 7], none⟩,
  ⟨some 5, .move (.tmp 8), none⟩])
 (.seq (.seq (.region [⟨some 6, .move (.const (.int .i64 0)), none⟩])
 (.block 0 (.loop L15_1)))
 (.seq (.region [⟨some 22, .move (.tmp 5), none⟩,
  ⟨some 4, .move (.tmp 22), none⟩])
 (.ret))))
theorem light15 : Light Try.prog 15 2 23 L15 [.tmp 4] :=
  ⟨Try.f15, _, Try.func15, rfl, rfl, by kernel_rfl, by kernel_rfl, by decide⟩

/-! ### function 16: outrider/red.New -/
def L16_1 : LCode :=
 .seq (.region [⟨some 15, .bin .lss (.tmp 14) (.tmp 13), none⟩])
 (.seq (.cond (.tmp 15) (.skip)
 (.exit 0))
 (.seq (.block 1 (.seq (.region [⟨some 16, .idx 2 (.tmp 12) (.tmp 14), none⟩,
  ⟨some 17, .load true 2 (.tmp 16), none⟩,
  ⟨some 6, .new 43 2 [.int .i64 0, .int .i64 0], none⟩,
  ⟨none, .store 2 (.tmp 6) (.tmp 17), none⟩])
 (.seq (.seq (.region [⟨some 18, .off 0 (.tmp 6), none⟩,
  ⟨some 19, .load false 1 (.tmp 18), none⟩,
  ⟨some 20, .call 7 [.tmp 19], none⟩,
  ⟨some 21, .un .not (.tmp 20), none⟩])
 (.cond (.tmp 21) (.seq (.region [⟨some 2, .move (.const (.pointer none)), none⟩,
  ⟨some 3, .move (.const (.int .i64 140)), none⟩])
 (.ret))
 (.skip)))
 (.seq (.draw [⟨⟨some 22, .move (.tmp 4), none⟩, .pure, 0, 2⟩,
  ⟨⟨some 23, .move (.tmp 4), none⟩, .pure, 0, 1⟩,
  ⟨⟨some 24, .nilCheck (.tmp 23), none⟩, .pure, 0, 1⟩,
  ⟨⟨some 25, .off 0 (.tmp 24), none⟩, .pure, 0, 1⟩,
  ⟨⟨some 26, .load false 1 (.tmp 25), none⟩, .read, 0, 1⟩,
  ⟨⟨some 27, .off 0 (.tmp 6), none⟩, .pure, 0, 0⟩,
  ⟨⟨some 28, .load false 1 (.tmp 27), none⟩, .read, 0, 0⟩,
  ⟨⟨some 29, .buildSlice 22 1 1 [.int .i64 0] [(0, 1, .tmp 28)], none⟩, .heavy, 0, 1⟩,
  ⟨⟨some 30, .append 22 1 8 (.tmp 26) (.tmp 29), none⟩, .heavy, 1, 2⟩,
  ⟨⟨some 31, .nilCheck (.tmp 22), none⟩, .pure, 2, 2⟩,
  ⟨⟨some 32, .off 0 (.tmp 31), none⟩, .pure, 2, 2⟩,
  ⟨⟨none, .store 1 (.tmp 32) (.tmp 30), none⟩, .heavy, 2, 3⟩])
 (.draw [⟨⟨some 33, .move (.tmp 4), none⟩, .pure, 0, 3⟩,
  ⟨⟨some 34, .move (.tmp 4), none⟩, .pure, 0, 2⟩,
  ⟨⟨some 35, .nilCheck (.tmp 34), none⟩, .pure, 0, 2⟩,
  ⟨⟨some 36, .off 1 (.tmp 35), none⟩, .pure, 0, 2⟩,
  ⟨⟨some 37, .load false 1 (.tmp 36), none⟩, .read, 0, 2⟩,
  ⟨⟨some 38, .off 0 (.tmp 6), none⟩, .pure, 0, 0⟩,
  ⟨⟨some 39, .load false 1 (.tmp 38), none⟩, .read, 0, 0⟩,
  ⟨⟨some 40, .call 9 [.tmp 39], none⟩, .heavy, 0, 1⟩,
  ⟨⟨some 41, .buildSlice 2 1 1 [.int .i64 0] [(0, 1, .tmp 40)], none⟩, .heavy, 1, 2⟩,
  ⟨⟨some 42, .append 2 1 8 (.tmp 37) (.tmp 41), none⟩, .heavy, 2, 3⟩,
  ⟨⟨some 43, .nilCheck (.tmp 33), none⟩, .pure, 3, 3⟩,
  ⟨⟨some 44, .off 1 (.tmp 43), none⟩, .pure, 3, 3⟩,
  ⟨⟨none, .store 1 (.tmp 44) (.tmp 42), none⟩, .heavy, 3, 4⟩])))))
 (.region [⟨some 45, .bin .add (.tmp 14) (.const (.int .i64 1)), none⟩,
  ⟨some 14, .move (.tmp 45), none⟩])))
def L16 : LCode :=
 .seq (.region [⟨some 2, .move (.const (.pointer none)), none⟩,
  ⟨some 3, .move (.const (.int .i64 0)), none⟩])
 (.seq (.seq (.region [⟨some 7, .move (.tmp 0), none⟩,
  ⟨some 8, .len (.tmp 7), none⟩,
  ⟨some 9, .bin .gtr (.tmp 8) (.const (.int .i64 4)), none⟩])
 (.cond (.tmp 9) (.seq (.region [⟨some 2, .move (.const (.pointer none)), none⟩,
  ⟨some 3, .move (.const (.int .i64 171)), none⟩])
 (.ret))
 (.skip)))
 (.seq (.region [⟨some 10, .build [.slice none 0 0, .slice none 0 0, .int .i64 0] [], none⟩,
  ⟨some 11, .box 58 3 (.tmp 10), none⟩,
  ⟨some 4, .move (.tmp 11), none⟩])
 (.seq (.seq (.region [⟨some 12, .move (.tmp 0), none⟩,
  ⟨some 13, .len (.tmp 12), none⟩,
  ⟨some 14, .move (.const (.int .i64 0)), none⟩])
 (.block 0 (.loop L16_1)))
 (.seq (.region [⟨some 46, .move (.tmp 4), none⟩,
  ⟨some 2, .move (.tmp 46), none⟩,
  ⟨some 3, .move (.const (.int .i64 0)), none⟩])
 (.ret)))))
theorem light16 : Light Try.prog 16 1 47 L16 [.tmp 2, .tmp 3] :=
  ⟨Try.f16, _, Try.func16, rfl, rfl, by kernel_rfl, by kernel_rfl, by decide⟩

/-! ### function 17: (*outrider/red.Heap).Add -/
def L17 : LCode :=
 .seq (.region [⟨some 6, .move (.const (.bool false)), none⟩])
 (.seq (.seq (.region [⟨some 7, .move (.tmp 1), none⟩,
  ⟨some 8, .bin .lss (.tmp 7) (.const (.int .i64 0)), none⟩,
  ⟨some 9, .move (.tmp 8), none⟩,
  ⟨some 10, .move (.tmp 1), (some (9, false))⟩,
  ⟨some 11, .move (.tmp 0), (some (9, false))⟩,
  ⟨some 12, .nilCheck (.tmp 11), (some (9, false))⟩,
  ⟨some 13, .off 0 (.tmp 12), (some (9, false))⟩,
  ⟨some 14, .load false 1 (.tmp 13), (some (9, false))⟩,
  ⟨some 15, .len (.tmp 14), (some (9, false))⟩,
  ⟨some 16, .bin .geq (.tmp 10) (.tmp 15), (some (9, false))⟩,
  ⟨some 17, .pick (.tmp 9) (.const (.bool true)) (.tmp 16), none⟩])
 (.cond (.tmp 17) (.seq (.region [⟨some 6, .move (.const (.bool false)), none⟩])
 (.ret))
 (.skip)))
 (.seq (.draw [⟨⟨some 18, .move (.tmp 0), none⟩, .pure, 0, 1⟩,
  ⟨⟨some 19, .nilCheck (.tmp 18), none⟩, .pure, 0, 1⟩,
  ⟨⟨some 20, .off 1 (.tmp 19), none⟩, .pure, 0, 1⟩,
  ⟨⟨some 21, .load false 1 (.tmp 20), none⟩, .read, 0, 1⟩,
  ⟨⟨some 22, .move (.tmp 1), none⟩, .pure, 0, 1⟩,
  ⟨⟨some 23, .move (.tmp 0), none⟩, .pure, 0, 0⟩,
  ⟨⟨some 24, .nilCheck (.tmp 23), none⟩, .pure, 0, 0⟩,
  ⟨⟨some 25, .off 0 (.tmp 24), none⟩, .pure, 0, 0⟩,
  ⟨⟨some 26, .load false 1 (.tmp 25), none⟩, .read, 0, 0⟩,
  ⟨⟨some 27, .move (.tmp 1), none⟩, .pure, 0, 0⟩,
  ⟨⟨some 28, .idx 1 (.tmp 26) (.tmp 27), none⟩, .pure, 0, 0⟩,
  ⟨⟨some 29, .load false 1 (.tmp 28), none⟩, .read, 0, 0⟩,
  ⟨⟨some 30, .move (.tmp 0), none⟩, .pure, 0, 0⟩,
  ⟨⟨some 31, .nilCheck (.tmp 30), none⟩, .pure, 0, 0⟩,
  ⟨⟨some 32, .off 1 (.tmp 31), none⟩, .pure, 0, 0⟩,
  ⟨⟨some 33, .load false 1 (.tmp 32), none⟩, .read, 0, 0⟩,
  ⟨⟨some 34, .move (.tmp 1), none⟩, .pure, 0, 0⟩,
  ⟨⟨some 35, .idx 1 (.tmp 33) (.tmp 34), none⟩, .pure, 0, 0⟩,
  ⟨⟨some 36, .load false 1 (.tmp 35), none⟩, .read, 0, 0⟩,
  ⟨⟨some 37, .move (.tmp 2), none⟩, .pure, 0, 0⟩,
  ⟨⟨some 38, .call 11 [.tmp 29, .tmp 36, .tmp 37], none⟩, .heavy, 0, 1⟩,
  ⟨⟨some 39, .idx 1 (.tmp 21) (.tmp 22), none⟩, .pure, 1, 1⟩,
  ⟨⟨none, .store 1 (.tmp 39) (.tmp 38), none⟩, .heavy, 1, 2⟩])
 (.seq (.region [⟨some 40, .move (.tmp 0), none⟩,
  ⟨some 41, .nilCheck (.tmp 40), none⟩,
  ⟨some 42, .off 2 (.tmp 41), none⟩,
  ⟨some 43, .load false 1 (.tmp 42), none⟩,
  ⟨some 44, .bin .add (.tmp 43) (.const (.int .i64 1)), none⟩,
  ⟨some 45, .nilCheck (.tmp 40), none⟩,
  ⟨some 46, .off 2 (.tmp 45), none⟩,
  ⟨none, .store 1 (.tmp 46) (.tmp 44), none⟩])
 (.seq (.region [⟨some 6, .move (.const (.bool true)), none⟩])
 (.ret)))))
theorem light17 : Light Try.prog 17 3 47 L17 [.tmp 6] :=
  ⟨Try.f17, _, Try.func17, rfl, rfl, by kernel_rfl, by kernel_rfl, by decide⟩

/-! ### function 18: (*outrider/red.Heap).Onto -/
def L18_1 : LCode :=
 .seq (.region [⟨some 23, .bin .lss (.tmp 22) (.tmp 21), none⟩])
 (.seq (.cond (.tmp 23) (.skip)
 (.exit 0))
 (.seq (.block 1 (.seq (.region [⟨some 24, .move (.tmp 22), none⟩,
  ⟨some 25, .idx 1 (.tmp 20) (.tmp 22), none⟩,
  ⟨some 26, .load false 1 (.tmp 25), none⟩,
  ⟨some 7, .move (.tmp 24), none⟩,
  ⟨some 8, .move (.tmp 26), none⟩])
 (.draw [⟨⟨some 27, .move (.tmp 6), none⟩, .pure, 0, 2⟩,
  ⟨⟨some 28, .move (.tmp 8), none⟩, .pure, 0, 0⟩,
  ⟨⟨some 29, .move (.tmp 1), none⟩, .pure, 0, 0⟩,
  ⟨⟨some 30, .move (.tmp 7), none⟩, .pure, 0, 0⟩,
  ⟨⟨some 31, .idx 1 (.tmp 29) (.tmp 30), none⟩, .pure, 0, 0⟩,
  ⟨⟨some 32, .load false 1 (.tmp 31), none⟩, .read, 0, 0⟩,
  ⟨⟨some 33, .move (.tmp 0), none⟩, .pure, 0, 0⟩,
  ⟨⟨some 34, .nilCheck (.tmp 33), none⟩, .pure, 0, 0⟩,
  ⟨⟨some 35, .off 1 (.tmp 34), none⟩, .pure, 0, 0⟩,
  ⟨⟨some 36, .load false 1 (.tmp 35), none⟩, .read, 0, 0⟩,
  ⟨⟨some 37, .move (.tmp 7), none⟩, .pure, 0, 0⟩,
  ⟨⟨some 38, .idx 1 (.tmp 36) (.tmp 37), none⟩, .pure, 0, 0⟩,
  ⟨⟨some 39, .load false 1 (.tmp 38), none⟩, .read, 0, 0⟩,
  ⟨⟨some 40, .call 11 [.tmp 28, .tmp 32, .tmp 39], none⟩, .heavy, 0, 1⟩,
  ⟨⟨some 41, .buildSlice 2 1 1 [.int .i64 0] [(0, 1, .tmp 40)], none⟩, .heavy, 1, 2⟩,
  ⟨⟨some 42, .append 2 1 8 (.tmp 27) (.tmp 41), none⟩, .heavy, 2, 3⟩,
  ⟨⟨some 6, .move (.tmp 42), none⟩, .pure, 3, 3⟩])))
 (.region [⟨some 43, .bin .add (.tmp 22) (.const (.int .i64 1)), none⟩,
  ⟨some 22, .move (.tmp 43), none⟩])))
def L18 : LCode :=
 .seq (.region [⟨some 4, .move (.const (.slice none 0 0)), none⟩,
  ⟨some 5, .move (.const (.bool false)), none⟩])
 (.seq (.seq (.region [⟨some 9, .move (.tmp 1), none⟩,
  ⟨some 10, .len (.tmp 9), none⟩,
  ⟨some 11, .move (.tmp 0), none⟩,
  ⟨some 12, .nilCheck (.tmp 11), none⟩,
  ⟨some 13, .off 1 (.tmp 12), none⟩,
  ⟨some 14, .load false 1 (.tmp 13), none⟩,
  ⟨some 15, .len (.tmp 14), none⟩,
  ⟨some 16, .bin .neq (.tmp 10) (.tmp 15), none⟩])
 (.cond (.tmp 16) (.seq (.region [⟨some 4, .move (.const (.slice none 0 0)), none⟩,
  ⟨some 5, .move (.const (.bool false)), none⟩])
 (.ret))
 (.skip)))
 (.seq (.region [⟨some 6, .move (.const (.slice none 0 0)), none⟩])
 (.seq (.seq (.region [⟨some 17, .move (.tmp 0), none⟩,
  ⟨some 18, .nilCheck (.tmp 17), none⟩,
  ⟨some 19, .off 0 (.tmp 18), none⟩,
  ⟨some 20, .load false 1 (.tmp 19), none⟩,
  ⟨some 21, .len (.tmp 20), none⟩,
  ⟨some 22, .move (.const (.int .i64 0)), none⟩])
 (.block 0 (.loop L18_1)))
 (.seq (.region [⟨some 44, .move (.tmp 6), none⟩,
  ⟨some 4, .move (.tmp 44), none⟩,
  ⟨some 5, .move (.const (.bool true)), none⟩])
 (.ret)))))
theorem light18 : Light Try.prog 18 2 45 L18 [.tmp 4, .tmp 5] :=
  ⟨Try.f18, _, Try.func18, rfl, rfl, by kernel_rfl, by kernel_rfl, by decide⟩

/-! ### function 19: outrider/outriderref07.Row -/
def L19_1 : LCode :=
 .seq (.seq (.region [⟨some 11, .move (.tmp 5), none⟩,
  ⟨some 12, .move (.tmp 0), none⟩,
  ⟨some 13, .len (.tmp 12), none⟩,
  ⟨some 14, .bin .lss (.tmp 11) (.tmp 13), none⟩])
 (.cond (.tmp 14) (.skip)
 (.exit 0)))
 (.seq (.block 1 (.seq (.draw [⟨⟨some 17, .move (.tmp 0), none⟩, .pure, 0, 0⟩,
  ⟨⟨some 18, .move (.tmp 5), none⟩, .pure, 0, 0⟩,
  ⟨⟨some 19, .idx 1 (.tmp 17) (.tmp 18), none⟩, .pure, 0, 0⟩,
  ⟨⟨some 20, .load false 1 (.tmp 19), none⟩, .read, 0, 0⟩,
  ⟨⟨some 21, .move (.tmp 1), none⟩, .pure, 0, 0⟩,
  ⟨⟨some 22, .move (.tmp 5), none⟩, .pure, 0, 0⟩,
  ⟨⟨some 23, .idx 1 (.tmp 21) (.tmp 22), none⟩, .pure, 0, 0⟩,
  ⟨⟨some 24, .load false 1 (.tmp 23), none⟩, .read, 0, 0⟩,
  ⟨⟨some 25, .bin .neq (.tmp 20) (.tmp 24), none⟩, .pure, 0, 0⟩])
 (.cond (.tmp 25) (.seq (.region [⟨some 4, .move (.const (.bool false)), none⟩])
 (.ret))
 (.skip))))
 (.region [⟨some 15, .move (.tmp 5), none⟩,
  ⟨some 16, .bin .add (.tmp 15) (.const (.int .i64 1)), none⟩,
  ⟨some 5, .move (.tmp 16), none⟩]))
def L19 : LCode :=
 .seq (.region [⟨some 4, .move (.const (.bool false)), none⟩])
 (.seq (.seq (.region [⟨some 6, .move (.tmp 0), none⟩,
  ⟨some 7, .len (.tmp 6), none⟩,
  ⟨some 8, .move (.tmp 1), none⟩,
  ⟨some 9, .len (.tmp 8), none⟩,
  ⟨some 10, .bin .neq (.tmp 7) (.tmp 9), none⟩])
 (.cond (.tmp 10) (.seq (.region [⟨some 4, .move (.const (.bool false)), none⟩])
 (.ret))
 (.skip)))
 (.seq (.seq (.region [⟨some 5, .move (.const (.int .i64 0)), none⟩])
 (.block 0 (.loop L19_1)))
 (.seq (.region [⟨some 4, .move (.const (.bool true)), none⟩])
 (.ret))))
theorem light19 : Light Try.prog 19 2 26 L19 [.tmp 4] :=
  ⟨Try.f19, _, Try.func19, rfl, rfl, by kernel_rfl, by kernel_rfl, by decide⟩

/-! ### function 20: (*outrider/red.Heap).Len -/
def L20 : LCode :=
 .seq (.region [⟨some 2, .move (.const (.int .i64 0)), none⟩])
 (.seq (.region [⟨some 3, .move (.tmp 0), none⟩,
  ⟨some 4, .nilCheck (.tmp 3), none⟩,
  ⟨some 5, .off 2 (.tmp 4), none⟩,
  ⟨some 6, .load false 1 (.tmp 5), none⟩,
  ⟨some 2, .move (.tmp 6), none⟩])
 (.ret))
theorem light20 : Light Try.prog 20 1 7 L20 [.tmp 2] :=
  ⟨Try.f20, _, Try.func20, rfl, rfl, by kernel_rfl, by kernel_rfl, by decide⟩

/-! ### function 21: outrider/outriderref01.Two -/
def L21 : LCode :=
 .seq (.region [⟨some 6, .move (.const (.int .i64 0)), none⟩,
  ⟨some 7, .move (.const (.bool false)), none⟩])
 (.seq (.seq (.region [⟨some 10, .move (.tmp 0), none⟩])
 (.block 0 (.seq (.region [⟨some 12, .bin .eql (.tmp 10) (.const (.int .i64 1)), none⟩,
  ⟨some 11, .move (.tmp 12), none⟩])
 (.cond (.tmp 11) (.seq (.region [⟨some 13, .move (.tmp 1), none⟩,
  ⟨some 14, .move (.tmp 2), none⟩,
  ⟨some 15, .call 23 [.tmp 13, .tmp 14], none⟩,
  ⟨some 6, .move (.tmp 15), none⟩,
  ⟨some 7, .move (.const (.bool true)), none⟩])
 (.ret))
 (.seq (.region [⟨some 17, .bin .eql (.tmp 10) (.const (.int .i64 2)), none⟩,
  ⟨some 16, .move (.tmp 17), none⟩])
 (.cond (.tmp 16) (.seq (.region [⟨some 18, .move (.tmp 1), none⟩,
  ⟨some 19, .move (.tmp 2), none⟩,
  ⟨some 20, .call 24 [.tmp 19], none⟩,
  ⟨some 21, .call 23 [.tmp 18, .tmp 20], none⟩,
  ⟨some 6, .move (.tmp 21), none⟩,
  ⟨some 7, .move (.const (.bool true)), none⟩])
 (.ret))
 (.seq (.region [⟨some 23, .bin .eql (.tmp 10) (.const (.int .i64 3)), none⟩,
  ⟨some 22, .move (.tmp 23), none⟩])
 (.cond (.tmp 22) (.seq (.region [⟨some 24, .move (.tmp 1), none⟩,
  ⟨some 25, .move (.tmp 2), none⟩,
  ⟨some 26, .call 25 [.tmp 24, .tmp 25], none⟩,
  ⟨some 6, .move (.tmp 26), none⟩,
  ⟨some 7, .move (.const (.bool true)), none⟩])
 (.ret))
 (.seq (.seq (.region [⟨some 28, .bin .eql (.tmp 10) (.const (.int .i64 4)), none⟩,
  ⟨some 27, .move (.tmp 28), none⟩])
 (.cond (.tmp 27) (.skip)
 (.region [⟨some 29, .bin .eql (.tmp 10) (.const (.int .i64 5)), none⟩,
  ⟨some 27, .move (.tmp 29), none⟩])))
 (.cond (.tmp 27) (.seq (.seq (.region [⟨some 30, .move (.tmp 2), none⟩,
  ⟨some 31, .bin .eql (.tmp 30) (.const (.int .i64 0)), none⟩])
 (.cond (.tmp 31) (.seq (.region [⟨some 6, .move (.const (.int .i64 0)), none⟩,
  ⟨some 7, .move (.const (.bool false)), none⟩])
 (.ret))
 (.skip)))
 (.seq (.region [⟨some 33, .move (.tmp 1), none⟩,
  ⟨some 34, .call 27 [.tmp 33], none⟩,
  ⟨some 35, .move (.tmp 2), none⟩,
  ⟨some 36, .call 27 [.tmp 35], none⟩,
  ⟨some 37, .call 26 [.tmp 34, .tmp 36], none⟩,
  ⟨some 32, .move (.tmp 37), none⟩,
  ⟨some 38, .extract (.tmp 32) 0, none⟩,
  ⟨some 39, .extract (.tmp 32) 1, none⟩,
  ⟨some 8, .move (.tmp 38), none⟩,
  ⟨some 9, .move (.tmp 39), none⟩])
 (.seq (.seq (.region [⟨some 40, .move (.tmp 0), none⟩,
  ⟨some 41, .bin .eql (.tmp 40) (.const (.int .i64 4)), none⟩])
 (.cond (.tmp 41) (.seq (.region [⟨some 42, .move (.tmp 8), none⟩,
  ⟨some 43, .move (.tmp 1), none⟩,
  ⟨some 44, .bin .lss (.tmp 43) (.const (.int .i64 0)), none⟩,
  ⟨some 45, .move (.tmp 2), none⟩,
  ⟨some 46, .bin .lss (.tmp 45) (.const (.int .i64 0)), none⟩,
  ⟨some 47, .eqB true (.tmp 44) (.tmp 46), none⟩,
  ⟨some 48, .call 28 [.tmp 42, .tmp 47], none⟩,
  ⟨some 6, .move (.tmp 48), none⟩,
  ⟨some 7, .move (.const (.bool true)), none⟩])
 (.ret))
 (.skip)))
 (.seq (.region [⟨some 49, .move (.tmp 9), none⟩,
  ⟨some 50, .move (.tmp 1), none⟩,
  ⟨some 51, .bin .lss (.tmp 50) (.const (.int .i64 0)), none⟩,
  ⟨some 52, .call 28 [.tmp 49, .tmp 51], none⟩,
  ⟨some 6, .move (.tmp 52), none⟩,
  ⟨some 7, .move (.const (.bool true)), none⟩])
 (.ret)))))
 (.seq (.seq (.region [⟨some 54, .bin .eql (.tmp 10) (.const (.int .i64 6)), none⟩,
  ⟨some 53, .move (.tmp 54), none⟩])
 (.cond (.tmp 53) (.skip)
 (.seq (.region [⟨some 55, .bin .eql (.tmp 10) (.const (.int .i64 7)), none⟩,
  ⟨some 53, .move (.tmp 55), none⟩])
 (.cond (.tmp 53) (.skip)
 (.region [⟨some 56, .bin .eql (.tmp 10) (.const (.int .i64 8)), none⟩,
  ⟨some 53, .move (.tmp 56), none⟩])))))
 (.cond (.tmp 53) (.seq (.region [⟨some 57, .move (.tmp 0), none⟩,
  ⟨some 58, .move (.tmp 1), none⟩,
  ⟨some 59, .move (.tmp 2), none⟩,
  ⟨some 60, .call 29 [.tmp 57, .tmp 58, .tmp 59], none⟩,
  ⟨some 6, .move (.tmp 60), none⟩,
  ⟨some 7, .move (.const (.bool true)), none⟩])
 (.ret))
 (.seq (.seq (.region [⟨some 62, .bin .eql (.tmp 10) (.const (.int .i64 9)), none⟩,
  ⟨some 61, .move (.tmp 62), none⟩])
 (.cond (.tmp 61) (.skip)
 (.region [⟨some 63, .bin .eql (.tmp 10) (.const (.int .i64 10)), none⟩,
  ⟨some 61, .move (.tmp 63), none⟩])))
 (.cond (.tmp 61) (.seq (.region [⟨some 64, .move (.tmp 0), none⟩,
  ⟨some 65, .move (.tmp 1), none⟩,
  ⟨some 66, .move (.tmp 2), none⟩,
  ⟨some 67, .call 30 [.tmp 64, .tmp 65, .tmp 66], none⟩,
  ⟨some 6, .move (.tmp 67), none⟩,
  ⟨some 7, .move (.const (.bool true)), none⟩])
 (.ret))
 (.seq (.region [⟨some 69, .bin .eql (.tmp 10) (.const (.int .i64 11)), none⟩,
  ⟨some 68, .move (.tmp 69), none⟩])
 (.cond (.tmp 68) (.seq (.region [⟨some 70, .move (.tmp 1), none⟩,
  ⟨some 71, .move (.tmp 2), none⟩,
  ⟨some 72, .call 32 [.tmp 70, .tmp 71], none⟩,
  ⟨some 73, .un .not (.tmp 72), none⟩,
  ⟨some 74, .move (.tmp 73), none⟩,
  ⟨some 75, .move (.tmp 2), (some (74, true))⟩,
  ⟨some 76, .move (.tmp 1), (some (74, true))⟩,
  ⟨some 77, .call 32 [.tmp 75, .tmp 76], (some (74, true))⟩,
  ⟨some 78, .un .not (.tmp 77), (some (74, true))⟩,
  ⟨some 79, .pick (.tmp 74) (.tmp 78) (.const (.bool false)), none⟩,
  ⟨some 80, .call 31 [.tmp 79], none⟩,
  ⟨some 6, .move (.tmp 80), none⟩,
  ⟨some 7, .move (.const (.bool true)), none⟩])
 (.ret))
 (.seq (.region [⟨some 82, .bin .eql (.tmp 10) (.const (.int .i64 12)), none⟩,
  ⟨some 81, .move (.tmp 82), none⟩])
 (.cond (.tmp 81) (.seq (.region [⟨some 83, .move (.tmp 1), none⟩,
  ⟨some 84, .move (.tmp 2), none⟩,
  ⟨some 85, .call 32 [.tmp 83, .tmp 84], none⟩,
  ⟨some 86, .move (.tmp 85), none⟩,
  ⟨some 87, .move (.tmp 2), (some (86, false))⟩,
  ⟨some 88, .move (.tmp 1), (some (86, false))⟩,
  ⟨some 89, .call 32 [.tmp 87, .tmp 88], (some (86, false))⟩,
  ⟨some 90, .pick (.tmp 86) (.const (.bool true)) (.tmp 89), none⟩,
  ⟨some 91, .call 31 [.tmp 90], none⟩,
  ⟨some 6, .move (.tmp 91), none⟩,
  ⟨some 7, .move (.const (.bool true)), none⟩])
 (.ret))
 (.seq (.region [⟨some 93, .bin .eql (.tmp 10) (.const (.int .i64 13)), none⟩,
  ⟨some 92, .move (.tmp 93), none⟩])
 (.cond (.tmp 92) (.seq (.region [⟨some 94, .move (.tmp 1), none⟩,
  ⟨some 95, .move (.tmp 2), none⟩,
  ⟨some 96, .call 32 [.tmp 94, .tmp 95], none⟩,
  ⟨some 97, .call 31 [.tmp 96], none⟩,
  ⟨some 6, .move (.tmp 97), none⟩,
  ⟨some 7, .move (.const (.bool true)), none⟩])
 (.ret))
 (.seq (.region [⟨some 99, .bin .eql (.tmp 10) (.const (.int .i64 14)), none⟩,
  ⟨some 98, .move (.tmp 99), none⟩])
 (.cond (.tmp 98) (.seq (.region [⟨some 100, .move (.tmp 2), none⟩,
  ⟨some 101, .move (.tmp 1), none⟩,
  ⟨some 102, .call 32 [.tmp 100, .tmp 101], none⟩,
  ⟨some 103, .un .not (.tmp 102), none⟩,
  ⟨some 104, .call 31 [.tmp 103], none⟩,
  ⟨some 6, .move (.tmp 104), none⟩,
  ⟨some 7, .move (.const (.bool true)), none⟩])
 (.ret))
 (.seq (.region [⟨some 106, .bin .eql (.tmp 10) (.const (.int .i64 15)), none⟩,
  ⟨some 105, .move (.tmp 106), none⟩])
 (.cond (.tmp 105) (.seq (.region [⟨some 107, .move (.tmp 2), none⟩,
  ⟨some 108, .move (.tmp 1), none⟩,
  ⟨some 109, .call 32 [.tmp 107, .tmp 108], none⟩,
  ⟨some 110, .call 31 [.tmp 109], none⟩,
  ⟨some 6, .move (.tmp 110), none⟩,
  ⟨some 7, .move (.const (.bool true)), none⟩])
 (.ret))
 (.seq (.region [⟨some 112, .bin .eql (.tmp 10) (.const (.int .i64 16)), none⟩,
  ⟨some 111, .move (.tmp 112), none⟩])
 (.cond (.tmp 111) (.seq (.region [⟨some 113, .move (.tmp 1), none⟩,
  ⟨some 114, .move (.tmp 2), none⟩,
  ⟨some 115, .call 32 [.tmp 113, .tmp 114], none⟩,
  ⟨some 116, .un .not (.tmp 115), none⟩,
  ⟨some 117, .call 31 [.tmp 116], none⟩,
  ⟨some 6, .move (.tmp 117), none⟩,
  ⟨some 7, .move (.const (.bool true)), none⟩])
 (.ret))
 (.seq (.region [⟨some 119, .bin .eql (.tmp 10) (.const (.int .i64 17)), none⟩,
  ⟨some 118, .move (.tmp 119), none⟩])
 (.cond (.tmp 118) (.seq (.seq (.region [⟨some 120, .move (.tmp 2), none⟩,
  ⟨some 121, .move (.tmp 1), none⟩,
  ⟨some 122, .call 32 [.tmp 120, .tmp 121], none⟩])
 (.cond (.tmp 122) (.seq (.region [⟨some 123, .move (.tmp 2), none⟩,
  ⟨some 6, .move (.tmp 123), none⟩,
  ⟨some 7, .move (.const (.bool true)), none⟩])
 (.ret))
 (.skip)))
 (.seq (.region [⟨some 124, .move (.tmp 1), none⟩,
  ⟨some 6, .move (.tmp 124), none⟩,
  ⟨some 7, .move (.const (.bool true)), none⟩])
 (.ret)))
 (.seq (.region [⟨some 126, .bin .eql (.tmp 10) (.const (.int .i64 18)), none⟩,
  ⟨some 125, .move (.tmp 126), none⟩])
 (.cond (.tmp 125) (.seq (.seq (.region [⟨some 127, .move (.tmp 1), none⟩,
  ⟨some 128, .move (.tmp 2), none⟩,
  ⟨some 129, .call 32 [.tmp 127, .tmp 128], none⟩])
 (.cond (.tmp 129) (.seq (.region [⟨some 130, .move (.tmp 2), none⟩,
  ⟨some 6, .move (.tmp 130), none⟩,
  ⟨some 7, .move (.const (.bool true)), none⟩])
 (.ret))
 (.skip)))
 (.seq (.region [⟨some 131, .move (.tmp 1), none⟩,
  ⟨some 6, .move (.tmp 131), none⟩,
  ⟨some 7, .move (.const (.bool true)), none⟩])
 (.ret)))
 (.skip)))))))))))))))))))))))))))))))
 (.seq (.region [⟨some 6, .move (.const (.int .i64 0)), none⟩,
  ⟨some 7, .move (.const (.bool false)), none⟩])
 (.ret)))
theorem light21 : Light Try.prog 21 3 132 L21 [.tmp 6, .tmp 7] :=
  ⟨Try.f21, _, Try.func21, rfl, rfl, by kernel_rfl, by kernel_rfl, by decide⟩

/-! ### function 22: outrider/outriderref14.two -/
def L22 : LCode :=
 .seq (.region [⟨some 2, .move (.const (.int .i64 0)), none⟩])
 (.seq (.region [⟨some 4, .buildSlice 54 1 7 [.int .i64 0] [(0, 1, .const (.int .i64 1)), (1, 1, .const (.int .i64 3)), (2, 1, .const (.int .i64 17)), (3, 1, .const (.int .i64 18)), (4, 1, .const (.int .i64 6)), (5, 1, .const (.int .i64 7)), (6, 1, .const (.int .i64 8))], none⟩,
  ⟨some 3, .move (.tmp 4), none⟩])
 (.seq (.region [⟨some 5, .move (.tmp 3), none⟩,
  ⟨some 6, .move (.tmp 0), none⟩,
  ⟨some 7, .bin .sub (.tmp 6) (.const (.int .i64 1)), none⟩,
  ⟨some 8, .idx 1 (.tmp 5) (.tmp 7), none⟩,
  ⟨some 9, .load false 1 (.tmp 8), none⟩,
  ⟨some 2, .move (.tmp 9), none⟩])
 (.ret)))
theorem light22 : Light Try.prog 22 1 10 L22 [.tmp 2] :=
  ⟨Try.f22, _, Try.func22, rfl, rfl, by kernel_rfl, by kernel_rfl, by decide⟩

/-! ### function 23: outrider/outriderref01.add -/
def L23 : LCode :=
 .seq (.region [⟨some 4, .move (.const (.int .i64 0)), none⟩])
 (.seq (.region [⟨some 11, .move (.tmp 0), none⟩,
  ⟨some 12, .call 33 [.tmp 11], none⟩,
  ⟨some 10, .move (.tmp 12), none⟩,
  ⟨some 13, .extract (.tmp 10) 0, none⟩,
  ⟨some 14, .extract (.tmp 10) 1, none⟩,
  ⟨some 5, .move (.tmp 13), none⟩,
  ⟨some 6, .move (.tmp 14), none⟩])
 (.seq (.region [⟨some 16, .move (.tmp 1), none⟩,
  ⟨some 17, .call 33 [.tmp 16], none⟩,
  ⟨some 15, .move (.tmp 17), none⟩,
  ⟨some 18, .extract (.tmp 15) 0, none⟩,
  ⟨some 19, .extract (.tmp 15) 1, none⟩,
  ⟨some 7, .move (.tmp 18), none⟩,
  ⟨some 8, .move (.tmp 19), none⟩])
 (.seq (.region [⟨some 20, .move (.tmp 5), none⟩,
  ⟨some 21, .move (.tmp 7), none⟩,
  ⟨some 22, .bin .add (.tmp 20) (.tmp 21), none⟩,
  ⟨some 9, .move (.tmp 22), none⟩])
 (.seq (.region [⟨some 23, .move (.tmp 9), none⟩,
  ⟨some 24, .move (.tmp 6), none⟩,
  ⟨some 25, .move (.tmp 8), none⟩,
  ⟨some 26, .bin .add (.tmp 24) (.tmp 25), none⟩,
  ⟨some 27, .move (.tmp 9), none⟩,
  ⟨some 28, .bin .shr (.tmp 27) (.const (.int .u64 32)), none⟩,
  ⟨some 29, .bin .add (.tmp 26) (.tmp 28), none⟩,
  ⟨some 30, .call 34 [.tmp 23, .tmp 29], none⟩,
  ⟨some 4, .move (.tmp 30), none⟩])
 (.ret)))))
theorem light23 : Light Try.prog 23 2 31 L23 [.tmp 4] :=
  ⟨Try.f23, _, Try.func23, rfl, rfl, by kernel_rfl, by kernel_rfl, by decide⟩

/-! ### function 24: outrider/outriderref01.neg -/
def L24 : LCode :=
 .seq (.region [⟨some 2, .move (.const (.int .i64 0)), none⟩])
 (.seq (.region [⟨some 3, .move (.tmp 0), none⟩,
  ⟨some 4, .call 35 [.tmp 3], none⟩,
  ⟨some 5, .call 23 [.tmp 4, .const (.int .i64 1)], none⟩,
  ⟨some 2, .move (.tmp 5), none⟩])
 (.ret))
theorem light24 : Light Try.prog 24 1 6 L24 [.tmp 2] :=
  ⟨Try.f24, _, Try.func24, rfl, rfl, by kernel_rfl, by kernel_rfl, by decide⟩

/-! ### function 25: outrider/outriderref01.mul -/
def L25_1 : LCode :=
 .seq (.seq (.region [⟨some 7, .move (.tmp 6), none⟩,
  ⟨some 8, .bin .lss (.tmp 7) (.const (.int .i64 64)), none⟩])
 (.cond (.tmp 8) (.skip)
 (.exit 0)))
 (.seq (.block 1 (.seq (.seq (.region [⟨some 11, .move (.tmp 1), none⟩,
  ⟨some 12, .move (.tmp 6), none⟩,
  ⟨some 13, .call 36 [.tmp 11, .tmp 12], none⟩])
 (.cond (.tmp 13) (.region [⟨some 14, .move (.tmp 5), none⟩,
  ⟨some 15, .move (.tmp 0), none⟩,
  ⟨some 16, .call 23 [.tmp 14, .tmp 15], none⟩,
  ⟨some 5, .move (.tmp 16), none⟩])
 (.skip)))
 (.region [⟨some 17, .move (.tmp 0), none⟩,
  ⟨some 18, .move (.tmp 0), none⟩,
  ⟨some 19, .call 23 [.tmp 17, .tmp 18], none⟩,
  ⟨some 0, .move (.tmp 19), none⟩])))
 (.region [⟨some 9, .move (.tmp 6), none⟩,
  ⟨some 10, .bin .add (.tmp 9) (.const (.int .i64 1)), none⟩,
  ⟨some 6, .move (.tmp 10), none⟩]))
def L25 : LCode :=
 .seq (.region [⟨some 4, .move (.const (.int .i64 0)), none⟩])
 (.seq (.region [⟨some 5, .move (.const (.int .i64 0)), none⟩])
 (.seq (.seq (.region [⟨some 6, .move (.const (.int .i64 0)), none⟩])
 (.block 0 (.loop L25_1)))
 (.seq (.region [⟨some 20, .move (.tmp 5), none⟩,
  ⟨some 4, .move (.tmp 20), none⟩])
 (.ret))))
theorem light25 : Light Try.prog 25 2 21 L25 [.tmp 4] :=
  ⟨Try.f25, _, Try.func25, rfl, rfl, by kernel_rfl, by kernel_rfl, by decide⟩

/-! ### function 26: outrider/outriderref01.Long -/
def L26_1 : LCode :=
 .seq (.seq (.region [⟨some 10, .move (.tmp 8), none⟩,
  ⟨some 11, .bin .geq (.tmp 10) (.const (.int .i64 0)), none⟩])
 (.cond (.tmp 11) (.skip)
 (.exit 0)))
 (.seq (.block 1 (.seq (.region [⟨some 14, .move (.tmp 7), none⟩,
  ⟨some 15, .bin .shr (.tmp 14) (.const (.int .u64 63)), none⟩,
  ⟨some 16, .bin .eql (.tmp 15) (.const (.int .u64 1)), none⟩,
  ⟨some 9, .move (.tmp 16), none⟩])
 (.seq (.region [⟨some 17, .move (.tmp 7), none⟩,
  ⟨some 18, .bin .shl (.tmp 17) (.const (.int .u64 1)), none⟩,
  ⟨some 19, .move (.tmp 0), none⟩,
  ⟨some 20, .move (.tmp 8), none⟩,
  ⟨some 21, .conv .u64 (.tmp 20), none⟩,
  ⟨some 22, .bin .shr (.tmp 19) (.tmp 21), none⟩,
  ⟨some 23, .bin .and (.tmp 22) (.const (.int .u64 1)), none⟩,
  ⟨some 24, .bin .or (.tmp 18) (.tmp 23), none⟩,
  ⟨some 7, .move (.tmp 24), none⟩])
 (.seq (.region [⟨some 25, .move (.tmp 6), none⟩,
  ⟨some 26, .bin .shl (.tmp 25) (.const (.int .u64 1)), none⟩,
  ⟨some 6, .move (.tmp 26), none⟩])
 (.seq (.region [⟨some 27, .move (.tmp 9), none⟩,
  ⟨some 28, .move (.tmp 27), none⟩,
  ⟨some 29, .move (.tmp 7), (some (28, false))⟩,
  ⟨some 30, .move (.tmp 1), (some (28, false))⟩,
  ⟨some 31, .bin .geq (.tmp 29) (.tmp 30), (some (28, false))⟩,
  ⟨some 32, .pick (.tmp 28) (.const (.bool true)) (.tmp 31), none⟩])
 (.cond (.tmp 32) (.seq (.region [⟨some 33, .move (.tmp 7), none⟩,
  ⟨some 34, .move (.tmp 1), none⟩,
  ⟨some 35, .bin .sub (.tmp 33) (.tmp 34), none⟩,
  ⟨some 7, .move (.tmp 35), none⟩])
 (.region [⟨some 36, .move (.tmp 6), none⟩,
  ⟨some 37, .bin .or (.tmp 36) (.const (.int .u64 1)), none⟩,
  ⟨some 6, .move (.tmp 37), none⟩]))
 (.skip)))))))
 (.region [⟨some 12, .move (.tmp 8), none⟩,
  ⟨some 13, .bin .sub (.tmp 12) (.const (.int .i64 1)), none⟩,
  ⟨some 8, .move (.tmp 13), none⟩]))
def L26 : LCode :=
 .seq (.region [⟨some 4, .move (.const (.int .u64 0)), none⟩,
  ⟨some 5, .move (.const (.int .u64 0)), none⟩])
 (.seq (.region [⟨some 6, .move (.const (.int .u64 0)), none⟩,
  ⟨some 7, .move (.const (.int .u64 0)), none⟩])
 (.seq (.seq (.region [⟨some 8, .move (.const (.int .i64 63)), none⟩])
 (.block 0 (.loop L26_1)))
 (.seq (.region [⟨some 38, .move (.tmp 6), none⟩,
  ⟨some 39, .move (.tmp 7), none⟩,
  ⟨some 4, .move (.tmp 38), none⟩,
  ⟨some 5, .move (.tmp 39), none⟩])
 (.ret))))
theorem light26 : Light Try.prog 26 2 40 L26 [.tmp 4, .tmp 5] :=
  ⟨Try.f26, _, Try.func26, rfl, rfl, by kernel_rfl, by kernel_rfl, by decide⟩

/-! ### function 27: outrider/outriderref01.size -/
def L27 : LCode :=
 .seq (.region [⟨some 2, .move (.const (.int .u64 0)), none⟩])
 (.seq (.seq (.region [⟨some 3, .move (.tmp 0), none⟩,
  ⟨some 4, .bin .lss (.tmp 3) (.const (.int .i64 0)), none⟩])
 (.cond (.tmp 4) (.seq (.region [⟨some 5, .move (.tmp 0), none⟩,
  ⟨some 6, .call 24 [.tmp 5], none⟩,
  ⟨some 7, .conv .u64 (.tmp 6), none⟩,
  ⟨some 2, .move (.tmp 7), none⟩])
 (.ret))
 (.skip)))
 (.seq (.region [⟨some 8, .move (.tmp 0), none⟩,
  ⟨some 9, .conv .u64 (.tmp 8), none⟩,
  ⟨some 2, .move (.tmp 9), none⟩])
 (.ret)))
theorem light27 : Light Try.prog 27 1 10 L27 [.tmp 2] :=
  ⟨Try.f27, _, Try.func27, rfl, rfl, by kernel_rfl, by kernel_rfl, by decide⟩

/-! ### function 28: outrider/outriderref01.signed -/
def L28 : LCode :=
 .seq (.region [⟨some 4, .move (.const (.int .i64 0)), none⟩])
 (.seq (.seq (.region [⟨some 5, .move (.tmp 1), none⟩])
 (.cond (.tmp 5) (.seq (.region [⟨some 6, .move (.tmp 0), none⟩,
  ⟨some 7, .conv .i64 (.tmp 6), none⟩,
  ⟨some 8, .call 24 [.tmp 7], none⟩,
  ⟨some 4, .move (.tmp 8), none⟩])
 (.ret))
 (.skip)))
 (.seq (.region [⟨some 9, .move (.tmp 0), none⟩,
  ⟨some 10, .conv .i64 (.tmp 9), none⟩,
  ⟨some 4, .move (.tmp 10), none⟩])
 (.ret)))
theorem light28 : Light Try.prog 28 2 11 L28 [.tmp 4] :=
  ⟨Try.f28, _, Try.func28, rfl, rfl, by kernel_rfl, by kernel_rfl, by decide⟩

/-! ### function 29: outrider/outriderref01.logic -/
def L29_1 : LCode :=
 .seq (.seq (.region [⟨some 12, .move (.tmp 8), none⟩,
  ⟨some 13, .bin .lss (.tmp 12) (.const (.int .i64 64)), none⟩])
 (.cond (.tmp 13) (.skip)
 (.exit 0)))
 (.seq (.block 1 (.seq (.region [⟨some 16, .move (.tmp 1), none⟩,
  ⟨some 17, .move (.tmp 8), none⟩,
  ⟨some 18, .call 36 [.tmp 16, .tmp 17], none⟩,
  ⟨some 19, .move (.tmp 2), none⟩,
  ⟨some 20, .move (.tmp 8), none⟩,
  ⟨some 21, .call 36 [.tmp 19, .tmp 20], none⟩,
  ⟨some 9, .move (.tmp 18), none⟩,
  ⟨some 10, .move (.tmp 21), none⟩])
 (.seq (.region [⟨some 22, .move (.tmp 9), none⟩,
  ⟨some 23, .move (.tmp 22), none⟩,
  ⟨some 24, .move (.tmp 10), (some (23, true))⟩,
  ⟨some 25, .pick (.tmp 23) (.tmp 24) (.const (.bool false)), none⟩,
  ⟨some 11, .move (.tmp 25), none⟩])
 (.seq (.seq (.region [⟨some 26, .move (.tmp 0), none⟩,
  ⟨some 27, .bin .eql (.tmp 26) (.const (.int .i64 7)), none⟩])
 (.cond (.tmp 27) (.region [⟨some 28, .move (.tmp 9), none⟩,
  ⟨some 29, .move (.tmp 28), none⟩,
  ⟨some 30, .move (.tmp 10), (some (29, false))⟩,
  ⟨some 31, .pick (.tmp 29) (.const (.bool true)) (.tmp 30), none⟩,
  ⟨some 11, .move (.tmp 31), none⟩])
 (.skip)))
 (.seq (.seq (.region [⟨some 32, .move (.tmp 0), none⟩,
  ⟨some 33, .bin .eql (.tmp 32) (.const (.int .i64 8)), none⟩])
 (.cond (.tmp 33) (.region [⟨some 34, .move (.tmp 9), none⟩,
  ⟨some 35, .move (.tmp 10), none⟩,
  ⟨some 36, .eqB true (.tmp 34) (.tmp 35), none⟩,
  ⟨some 11, .move (.tmp 36), none⟩])
 (.skip)))
 (.seq (.region [⟨some 37, .move (.tmp 11), none⟩])
 (.cond (.tmp 37) (.region [⟨some 38, .move (.tmp 7), none⟩,
  ⟨some 39, .move (.tmp 8), none⟩,
  ⟨some 40, .conv .u64 (.tmp 39), none⟩,
  ⟨some 41, .bin .shl (.const (.int .u64 1)) (.tmp 40), none⟩,
  ⟨some 42, .bin .or (.tmp 38) (.tmp 41), none⟩,
  ⟨some 7, .move (.tmp 42), none⟩])
 (.skip))))))))
 (.region [⟨some 14, .move (.tmp 8), none⟩,
  ⟨some 15, .bin .add (.tmp 14) (.const (.int .i64 1)), none⟩,
  ⟨some 8, .move (.tmp 15), none⟩]))
def L29 : LCode :=
 .seq (.region [⟨some 6, .move (.const (.int .i64 0)), none⟩])
 (.seq (.region [⟨some 7, .move (.const (.int .u64 0)), none⟩])
 (.seq (.seq (.region [⟨some 8, .move (.const (.int .i64 0)), none⟩])
 (.block 0 (.loop L29_1)))
 (.seq (.region [⟨some 43, .move (.tmp 7), none⟩,
  ⟨some 44, .conv .i64 (.tmp 43), none⟩,
  ⟨some 6, .move (.tmp 44), none⟩])
 (.ret))))
theorem light29 : Light Try.prog 29 3 45 L29 [.tmp 6] :=
  ⟨Try.f29, _, Try.func29, rfl, rfl, by kernel_rfl, by kernel_rfl, by decide⟩

/-! ### function 30: outrider/outriderref01.moved -/
def L30_1 : LCode :=
 .seq (.seq (.region [⟨some 12, .move (.tmp 7), none⟩,
  ⟨some 13, .bin .gtr (.tmp 12) (.const (.int .u64 0)), none⟩])
 (.cond (.tmp 13) (.skip)
 (.exit 0)))
 (.seq (.block 1 (.seq (.seq (.region [⟨some 16, .move (.tmp 0), none⟩,
  ⟨some 17, .bin .eql (.tmp 16) (.const (.int .i64 9)), none⟩])
 (.cond (.tmp 17) (.seq (.region [⟨some 18, .move (.tmp 1), none⟩,
  ⟨some 19, .move (.tmp 1), none⟩,
  ⟨some 20, .call 23 [.tmp 18, .tmp 19], none⟩,
  ⟨some 1, .move (.tmp 20), none⟩])
 (.exit 1))
 (.skip)))
 (.seq (.region [⟨some 21, .move (.tmp 1), none⟩,
  ⟨some 22, .conv .u64 (.tmp 21), none⟩,
  ⟨some 23, .bin .shr (.tmp 22) (.const (.int .u64 1)), none⟩,
  ⟨some 8, .move (.tmp 23), none⟩])
 (.seq (.seq (.region [⟨some 24, .move (.tmp 1), none⟩,
  ⟨some 25, .bin .lss (.tmp 24) (.const (.int .i64 0)), none⟩])
 (.cond (.tmp 25) (.region [⟨some 26, .move (.tmp 8), none⟩,
  ⟨some 27, .bin .or (.tmp 26) (.const (.int .u64 9223372036854775808)), none⟩,
  ⟨some 8, .move (.tmp 27), none⟩])
 (.skip)))
 (.region [⟨some 28, .move (.tmp 8), none⟩,
  ⟨some 29, .conv .i64 (.tmp 28), none⟩,
  ⟨some 1, .move (.tmp 29), none⟩])))))
 (.region [⟨some 14, .move (.tmp 7), none⟩,
  ⟨some 15, .bin .sub (.tmp 14) (.const (.int .u64 1)), none⟩,
  ⟨some 7, .move (.tmp 15), none⟩]))
def L30 : LCode :=
 .seq (.region [⟨some 6, .move (.const (.int .i64 0)), none⟩])
 (.seq (.seq (.region [⟨some 9, .move (.tmp 2), none⟩,
  ⟨some 10, .conv .u64 (.tmp 9), none⟩,
  ⟨some 11, .bin .rem (.tmp 10) (.const (.int .u64 64)), none⟩,
  ⟨some 7, .move (.tmp 11), none⟩])
 (.block 0 (.loop L30_1)))
 (.seq (.region [⟨some 30, .move (.tmp 1), none⟩,
  ⟨some 6, .move (.tmp 30), none⟩])
 (.ret)))
theorem light30 : Light Try.prog 30 3 31 L30 [.tmp 6] :=
  ⟨Try.f30, _, Try.func30, rfl, rfl, by kernel_rfl, by kernel_rfl, by decide⟩

/-! ### function 31: outrider/outriderref01.truth -/
def L31 : LCode :=
 .seq (.region [⟨some 2, .move (.const (.int .i64 0)), none⟩])
 (.seq (.seq (.region [⟨some 3, .move (.tmp 0), none⟩])
 (.cond (.tmp 3) (.seq (.region [⟨some 2, .move (.const (.int .i64 1)), none⟩])
 (.ret))
 (.skip)))
 (.seq (.region [⟨some 2, .move (.const (.int .i64 0)), none⟩])
 (.ret)))
theorem light31 : Light Try.prog 31 1 4 L31 [.tmp 2] :=
  ⟨Try.f31, _, Try.func31, rfl, rfl, by kernel_rfl, by kernel_rfl, by decide⟩

/-! ### function 32: outrider/outriderref01.below -/
def L32_1 : LCode :=
 .seq (.seq (.region [⟨some 13, .move (.tmp 5), none⟩,
  ⟨some 14, .bin .geq (.tmp 13) (.const (.int .i64 0)), none⟩])
 (.cond (.tmp 14) (.skip)
 (.exit 0)))
 (.seq (.block 1 (.seq (.region [⟨some 17, .move (.tmp 0), none⟩,
  ⟨some 18, .move (.tmp 5), none⟩,
  ⟨some 19, .call 36 [.tmp 17, .tmp 18], none⟩,
  ⟨some 20, .move (.tmp 1), none⟩,
  ⟨some 21, .move (.tmp 5), none⟩,
  ⟨some 22, .call 36 [.tmp 20, .tmp 21], none⟩,
  ⟨some 23, .eqB true (.tmp 19) (.tmp 22), none⟩])
 (.cond (.tmp 23) (.seq (.region [⟨some 24, .move (.tmp 1), none⟩,
  ⟨some 25, .move (.tmp 5), none⟩,
  ⟨some 26, .call 36 [.tmp 24, .tmp 25], none⟩,
  ⟨some 4, .move (.tmp 26), none⟩])
 (.ret))
 (.skip))))
 (.region [⟨some 15, .move (.tmp 5), none⟩,
  ⟨some 16, .bin .sub (.tmp 15) (.const (.int .i64 1)), none⟩,
  ⟨some 5, .move (.tmp 16), none⟩]))
def L32 : LCode :=
 .seq (.region [⟨some 4, .move (.const (.bool false)), none⟩])
 (.seq (.seq (.region [⟨some 6, .move (.tmp 0), none⟩,
  ⟨some 7, .bin .lss (.tmp 6) (.const (.int .i64 0)), none⟩,
  ⟨some 8, .move (.tmp 1), none⟩,
  ⟨some 9, .bin .lss (.tmp 8) (.const (.int .i64 0)), none⟩,
  ⟨some 10, .eqB true (.tmp 7) (.tmp 9), none⟩])
 (.cond (.tmp 10) (.seq (.region [⟨some 11, .move (.tmp 0), none⟩,
  ⟨some 12, .bin .lss (.tmp 11) (.const (.int .i64 0)), none⟩,
  ⟨some 4, .move (.tmp 12), none⟩])
 (.ret))
 (.skip)))
 (.seq (.seq (.region [⟨some 5, .move (.const (.int .i64 63)), none⟩])
 (.block 0 (.loop L32_1)))
 (.seq (.region [⟨some 4, .move (.const (.bool false)), none⟩])
 (.ret))))
theorem light32 : Light Try.prog 32 2 27 L32 [.tmp 4] :=
  ⟨Try.f32, _, Try.func32, rfl, rfl, by kernel_rfl, by kernel_rfl, by decide⟩

/-! ### function 33: outrider/outriderref01.half -/
def L33 : LCode :=
 .seq (.region [⟨some 2, .move (.const (.int .u64 0)), none⟩,
  ⟨some 3, .move (.const (.int .u64 0)), none⟩])
 (.seq (.region [⟨some 4, .move (.tmp 0), none⟩,
  ⟨some 5, .conv .u64 (.tmp 4), none⟩,
  ⟨some 6, .bin .and (.tmp 5) (.const (.int .u64 4294967295)), none⟩,
  ⟨some 7, .move (.tmp 0), none⟩,
  ⟨some 8, .conv .u64 (.tmp 7), none⟩,
  ⟨some 9, .bin .shr (.tmp 8) (.const (.int .u64 32)), none⟩,
  ⟨some 2, .move (.tmp 6), none⟩,
  ⟨some 3, .move (.tmp 9), none⟩])
 (.ret))
theorem light33 : Light Try.prog 33 1 10 L33 [.tmp 2, .tmp 3] :=
  ⟨Try.f33, _, Try.func33, rfl, rfl, by kernel_rfl, by kernel_rfl, by decide⟩

/-! ### function 34: outrider/outriderref01.whole -/
def L34 : LCode :=
 .seq (.region [⟨some 4, .move (.const (.int .i64 0)), none⟩])
 (.seq (.region [⟨some 5, .move (.tmp 1), none⟩,
  ⟨some 6, .bin .shl (.tmp 5) (.const (.int .u64 32)), none⟩,
  ⟨some 7, .move (.tmp 0), none⟩,
  ⟨some 8, .bin .and (.tmp 7) (.const (.int .u64 4294967295)), none⟩,
  ⟨some 9, .bin .or (.tmp 6) (.tmp 8), none⟩,
  ⟨some 10, .conv .i64 (.tmp 9), none⟩,
  ⟨some 4, .move (.tmp 10), none⟩])
 (.ret))
theorem light34 : Light Try.prog 34 2 11 L34 [.tmp 4] :=
  ⟨Try.f34, _, Try.func34, rfl, rfl, by kernel_rfl, by kernel_rfl, by decide⟩

/-! ### function 35: outrider/outriderref01.com -/
def L35 : LCode :=
 .seq (.region [⟨some 2, .move (.const (.int .i64 0)), none⟩])
 (.seq (.region [⟨some 6, .move (.tmp 0), none⟩,
  ⟨some 7, .call 33 [.tmp 6], none⟩,
  ⟨some 5, .move (.tmp 7), none⟩,
  ⟨some 8, .extract (.tmp 5) 0, none⟩,
  ⟨some 9, .extract (.tmp 5) 1, none⟩,
  ⟨some 3, .move (.tmp 8), none⟩,
  ⟨some 4, .move (.tmp 9), none⟩])
 (.seq (.region [⟨some 10, .move (.tmp 3), none⟩,
  ⟨some 11, .bin .sub (.const (.int .u64 4294967295)) (.tmp 10), none⟩,
  ⟨some 12, .move (.tmp 4), none⟩,
  ⟨some 13, .bin .sub (.const (.int .u64 4294967295)) (.tmp 12), none⟩,
  ⟨some 14, .call 34 [.tmp 11, .tmp 13], none⟩,
  ⟨some 2, .move (.tmp 14), none⟩])
 (.ret)))
theorem light35 : Light Try.prog 35 1 15 L35 [.tmp 2] :=
  ⟨Try.f35, _, Try.func35, rfl, rfl, by kernel_rfl, by kernel_rfl, by decide⟩

/-! ### function 36: outrider/outriderref01.bit -/
def L36 : LCode :=
 .seq (.region [⟨some 4, .move (.const (.bool false)), none⟩])
 (.seq (.region [⟨some 5, .move (.tmp 0), none⟩,
  ⟨some 6, .conv .u64 (.tmp 5), none⟩,
  ⟨some 7, .move (.tmp 1), none⟩,
  ⟨some 8, .conv .u64 (.tmp 7), none⟩,
  ⟨some 9, .bin .shr (.tmp 6) (.tmp 8), none⟩,
  ⟨some 10, .bin .and (.tmp 9) (.const (.int .u64 1)), none⟩,
  ⟨some 11, .bin .eql (.tmp 10) (.const (.int .u64 1)), none⟩,
  ⟨some 4, .move (.tmp 11), none⟩])
 (.ret))
theorem light36 : Light Try.prog 36 2 12 L36 [.tmp 4] :=
  ⟨Try.f36, _, Try.func36, rfl, rfl, by kernel_rfl, by kernel_rfl, by decide⟩

end Go.Proofs.Ytbocmkjcpjfecaa
