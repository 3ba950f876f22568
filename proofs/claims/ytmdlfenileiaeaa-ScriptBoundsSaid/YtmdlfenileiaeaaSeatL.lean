/-
  The light code of functions of this seat: printed by a program of this session (wip/tools/lightgen.py); each is held against the program by the kernel.
-/
import Derived.Test.YtmdlfenileiaeaaOtZr
import Derived.KernelRfl
import Derived.Test.YtmdlfenileiaeaaProg
set_option maxRecDepth 100000
namespace Go.Proofs.Ytmdlfenileiaeaa
open Go.Ot

/-! ### function 3: outrider/outriderlaw25.ScriptReads -/
def L3 : LCode :=
 .seq (.region [⟨some 2, .move (.const (.bool false)), none⟩])
 (.seq (.region [⟨some 10, .move (.tmp 0), none⟩,
  ⟨some 11, .call 8 [.tmp 10], none⟩,
  ⟨some 9, .move (.tmp 11), none⟩,
  ⟨some 12, .extract (.tmp 9) 0, none⟩,
  ⟨some 13, .extract (.tmp 9) 1, none⟩,
  ⟨some 14, .extract (.tmp 9) 2, none⟩,
  ⟨some 3, .move (.tmp 12), none⟩,
  ⟨some 4, .move (.tmp 13), none⟩,
  ⟨some 5, .move (.tmp 14), none⟩])
 (.seq (.region [⟨some 16, .move (.tmp 0), none⟩,
  ⟨some 17, .call 9 [.tmp 16], none⟩,
  ⟨some 15, .move (.tmp 17), none⟩,
  ⟨some 18, .extract (.tmp 15) 0, none⟩,
  ⟨some 19, .extract (.tmp 15) 1, none⟩,
  ⟨some 20, .extract (.tmp 15) 2, none⟩,
  ⟨some 6, .move (.tmp 18), none⟩,
  ⟨some 7, .move (.tmp 19), none⟩,
  ⟨some 8, .move (.tmp 20), none⟩])
 (.seq (.region [⟨some 21, .move (.tmp 4), none⟩,
  ⟨some 22, .move (.tmp 7), none⟩,
  ⟨some 23, .bin .eql (.tmp 21) (.tmp 22), none⟩,
  ⟨some 24, .move (.tmp 23), none⟩,
  ⟨some 25, .move (.tmp 5), (some (24, true))⟩,
  ⟨some 26, .move (.tmp 8), (some (24, true))⟩,
  ⟨some 27, .bin .eql (.tmp 25) (.tmp 26), (some (24, true))⟩,
  ⟨some 28, .pick (.tmp 24) (.tmp 27) (.const (.bool false)), none⟩,
  ⟨some 29, .move (.tmp 28), none⟩,
  ⟨some 30, .move (.tmp 3), (some (29, true))⟩,
  ⟨some 31, .move (.tmp 6), (some (29, true))⟩,
  ⟨some 32, .call 10 [.tmp 30, .tmp 31], (some (29, true))⟩,
  ⟨some 33, .pick (.tmp 29) (.tmp 32) (.const (.bool false)), none⟩,
  ⟨some 34, .move (.tmp 33), none⟩,
  ⟨some 35, .call 11 [], (some (34, true))⟩,
  ⟨some 36, .pick (.tmp 34) (.tmp 35) (.const (.bool false)), none⟩,
  ⟨some 2, .move (.tmp 36), none⟩])
 (.ret))))
theorem light3 : Light Try.prog 3 1 37 L3 [.tmp 2] :=
  ⟨Try.f3, _, Try.func3, rfl, rfl, by kernel_rfl, by kernel_rfl, by decide⟩

/-! ### function 4: outrider/outriderlaw25.ScriptRounds -/
def L4 : LCode :=
 .seq (.region [⟨some 6, .move (.const (.bool false)), none⟩])
 (.seq (.seq (.region [⟨some 16, .move (.tmp 0), none⟩,
  ⟨some 17, .len (.tmp 16), none⟩,
  ⟨some 18, .bin .gtr (.tmp 17) (.const (.int .i64 500)), none⟩,
  ⟨some 19, .move (.tmp 18), none⟩,
  ⟨some 20, .move (.tmp 1), (some (19, false))⟩,
  ⟨some 21, .len (.tmp 20), (some (19, false))⟩,
  ⟨some 22, .bin .gtr (.tmp 21) (.const (.int .i64 500)), (some (19, false))⟩,
  ⟨some 23, .pick (.tmp 19) (.const (.bool true)) (.tmp 22), none⟩])
 (.cond (.tmp 23) (.seq (.region [⟨some 6, .move (.const (.bool true)), none⟩])
 (.ret))
 (.skip)))
 (.seq (.region [⟨some 7, .move (.const (.slice none 0 0)), none⟩])
 (.seq (.region [⟨some 24, .move (.tmp 7), none⟩,
  ⟨some 25, .move (.tmp 0), none⟩,
  ⟨some 26, .append 36 2 16 (.tmp 24) (.tmp 25), none⟩,
  ⟨some 7, .move (.tmp 26), none⟩])
 (.seq (.region [⟨some 27, .move (.tmp 7), none⟩,
  ⟨some 28, .move (.tmp 1), none⟩,
  ⟨some 29, .append 36 2 16 (.tmp 27) (.tmp 28), none⟩,
  ⟨some 7, .move (.tmp 29), none⟩])
 (.seq (.region [⟨some 31, .move (.tmp 0), none⟩,
  ⟨some 32, .move (.tmp 2), none⟩,
  ⟨some 33, .call 12 [.tmp 31, .tmp 32], none⟩,
  ⟨some 30, .move (.tmp 33), none⟩,
  ⟨some 34, .extract (.tmp 30) 0, none⟩,
  ⟨some 35, .extract (.tmp 30) 1, none⟩,
  ⟨some 8, .move (.tmp 34), none⟩,
  ⟨some 9, .move (.tmp 35), none⟩])
 (.seq (.region [⟨some 37, .move (.tmp 1), none⟩,
  ⟨some 38, .move (.tmp 2), none⟩,
  ⟨some 39, .call 12 [.tmp 37, .tmp 38], none⟩,
  ⟨some 36, .move (.tmp 39), none⟩,
  ⟨some 40, .extract (.tmp 36) 0, none⟩,
  ⟨some 41, .extract (.tmp 36) 1, none⟩,
  ⟨some 10, .move (.tmp 40), none⟩,
  ⟨some 11, .move (.tmp 41), none⟩])
 (.seq (.region [⟨some 43, .move (.tmp 7), none⟩,
  ⟨some 44, .move (.tmp 2), none⟩,
  ⟨some 45, .call 12 [.tmp 43, .tmp 44], none⟩,
  ⟨some 42, .move (.tmp 45), none⟩,
  ⟨some 46, .extract (.tmp 42) 0, none⟩,
  ⟨some 47, .extract (.tmp 42) 1, none⟩,
  ⟨some 12, .move (.tmp 46), none⟩,
  ⟨some 13, .move (.tmp 47), none⟩])
 (.seq (.region [⟨some 49, .move (.tmp 0), none⟩,
  ⟨some 50, .move (.tmp 2), none⟩,
  ⟨some 51, .call 13 [.tmp 49, .tmp 50], none⟩,
  ⟨some 48, .move (.tmp 51), none⟩,
  ⟨some 52, .extract (.tmp 48) 0, none⟩,
  ⟨some 53, .extract (.tmp 48) 1, none⟩,
  ⟨some 14, .move (.tmp 52), none⟩,
  ⟨some 15, .move (.tmp 53), none⟩])
 (.seq (.region [⟨some 54, .move (.tmp 8), none⟩,
  ⟨some 55, .move (.tmp 14), none⟩,
  ⟨some 56, .bin .eql (.tmp 54) (.tmp 55), none⟩,
  ⟨some 57, .move (.tmp 56), none⟩,
  ⟨some 58, .move (.tmp 9), (some (57, true))⟩,
  ⟨some 59, .move (.tmp 15), (some (57, true))⟩,
  ⟨some 60, .bin .eql (.tmp 58) (.tmp 59), (some (57, true))⟩,
  ⟨some 61, .pick (.tmp 57) (.tmp 60) (.const (.bool false)), none⟩,
  ⟨some 62, .move (.tmp 61), none⟩,
  ⟨some 63, .move (.tmp 12), (some (62, true))⟩,
  ⟨some 64, .move (.tmp 8), (some (62, true))⟩,
  ⟨some 65, .move (.tmp 10), (some (62, true))⟩,
  ⟨some 66, .bin .add (.tmp 64) (.tmp 65), (some (62, true))⟩,
  ⟨some 67, .bin .geq (.tmp 63) (.tmp 66), (some (62, true))⟩,
  ⟨some 68, .pick (.tmp 62) (.tmp 67) (.const (.bool false)), none⟩,
  ⟨some 69, .move (.tmp 68), none⟩,
  ⟨some 70, .move (.tmp 12), (some (69, true))⟩,
  ⟨some 71, .move (.tmp 8), (some (69, true))⟩,
  ⟨some 72, .move (.tmp 10), (some (69, true))⟩,
  ⟨some 73, .bin .add (.tmp 71) (.tmp 72), (some (69, true))⟩,
  ⟨some 74, .bin .add (.tmp 73) (.const (.int .i64 1)), (some (69, true))⟩,
  ⟨some 75, .bin .leq (.tmp 70) (.tmp 74), (some (69, true))⟩,
  ⟨some 76, .pick (.tmp 69) (.tmp 75) (.const (.bool false)), none⟩,
  ⟨some 77, .move (.tmp 76), none⟩,
  ⟨some 78, .move (.tmp 13), (some (77, true))⟩,
  ⟨some 79, .move (.tmp 9), (some (77, true))⟩,
  ⟨some 80, .move (.tmp 11), (some (77, true))⟩,
  ⟨some 81, .bin .add (.tmp 79) (.tmp 80), (some (77, true))⟩,
  ⟨some 82, .bin .eql (.tmp 78) (.tmp 81), (some (77, true))⟩,
  ⟨some 83, .pick (.tmp 77) (.tmp 82) (.const (.bool false)), none⟩,
  ⟨some 84, .move (.tmp 83), none⟩,
  ⟨some 85, .call 11 [], (some (84, true))⟩,
  ⟨some 86, .pick (.tmp 84) (.tmp 85) (.const (.bool false)), none⟩,
  ⟨some 6, .move (.tmp 86), none⟩])
 (.ret))))))))))
theorem light4 : Light Try.prog 4 3 87 L4 [.tmp 6] :=
  ⟨Try.f4, _, Try.func4, rfl, rfl, by kernel_rfl, by kernel_rfl, by decide⟩

/-! ### function 5: outrider/outriderlaw25.ScriptFair -/
def L5_1 : LCode :=
 .seq (.seq (.region [⟨some 57, .move (.tmp 9), none⟩,
  ⟨some 58, .move (.tmp 5), none⟩,
  ⟨some 59, .len (.tmp 58), none⟩,
  ⟨some 60, .bin .lss (.tmp 57) (.tmp 59), none⟩])
 (.cond (.tmp 60) (.skip)
 (.exit 0)))
 (.seq (.block 1 (.seq (.draw [⟨⟨some 63, .move (.tmp 5), none⟩, .pure, 0, 0⟩,
  ⟨⟨some 64, .move (.tmp 9), none⟩, .pure, 0, 0⟩,
  ⟨⟨some 65, .idx 2 (.tmp 63) (.tmp 64), none⟩, .pure, 0, 0⟩,
  ⟨⟨some 66, .off 0 (.tmp 65), none⟩, .pure, 0, 0⟩,
  ⟨⟨some 67, .load false 1 (.tmp 66), none⟩, .read, 0, 0⟩,
  ⟨⟨some 68, .move (.tmp 9), none⟩, .pure, 0, 0⟩,
  ⟨⟨some 69, .move (.tmp 0), none⟩, .pure, 0, 0⟩,
  ⟨⟨some 70, .bin .rem (.tmp 68) (.tmp 69), none⟩, .pure, 0, 0⟩,
  ⟨⟨some 71, .bin .neq (.tmp 67) (.tmp 70), none⟩, .pure, 0, 0⟩,
  ⟨⟨some 72, .move (.tmp 71), none⟩, .pure, 0, 0⟩,
  ⟨⟨some 73, .move (.tmp 5), (some (72, false))⟩, .pure, 0, 0⟩,
  ⟨⟨some 74, .move (.tmp 9), (some (72, false))⟩, .pure, 0, 0⟩,
  ⟨⟨some 75, .idx 2 (.tmp 73) (.tmp 74), (some (72, false))⟩, .pure, 0, 0⟩,
  ⟨⟨some 76, .off 1 (.tmp 75), (some (72, false))⟩, .pure, 0, 0⟩,
  ⟨⟨some 77, .load false 1 (.tmp 76), (some (72, false))⟩, .read, 0, 0⟩,
  ⟨⟨some 78, .pick (.tmp 72) (.const (.bool true)) (.tmp 77), none⟩, .pure, 0, 0⟩])
 (.cond (.tmp 78) (.seq (.region [⟨some 4, .move (.const (.bool false)), none⟩])
 (.ret))
 (.skip))))
 (.region [⟨some 61, .move (.tmp 9), none⟩,
  ⟨some 62, .bin .add (.tmp 61) (.const (.int .i64 1)), none⟩,
  ⟨some 9, .move (.tmp 62), none⟩]))
def L5 : LCode :=
 .seq (.region [⟨some 4, .move (.const (.bool false)), none⟩])
 (.seq (.region [⟨some 10, .move (.tmp 0), none⟩,
  ⟨some 11, .move (.tmp 1), none⟩,
  ⟨some 12, .call 14 [.tmp 10, .tmp 11], none⟩,
  ⟨some 5, .move (.tmp 12), none⟩])
 (.seq (.seq (.region [⟨some 13, .move (.tmp 0), none⟩,
  ⟨some 14, .bin .lss (.tmp 13) (.const (.int .i64 1)), none⟩,
  ⟨some 15, .move (.tmp 14), none⟩,
  ⟨some 16, .move (.tmp 0), (some (15, false))⟩,
  ⟨some 17, .bin .gtr (.tmp 16) (.const (.int .i64 8)), (some (15, false))⟩,
  ⟨some 18, .pick (.tmp 15) (.const (.bool true)) (.tmp 17), none⟩,
  ⟨some 19, .move (.tmp 18), none⟩,
  ⟨some 20, .move (.tmp 1), (some (19, false))⟩,
  ⟨some 21, .bin .lss (.tmp 20) (.const (.int .i64 1)), (some (19, false))⟩,
  ⟨some 22, .pick (.tmp 19) (.const (.bool true)) (.tmp 21), none⟩])
 (.cond (.tmp 22) (.seq (.region [⟨some 23, .move (.tmp 5), none⟩,
  ⟨some 24, .len (.tmp 23), none⟩,
  ⟨some 25, .bin .eql (.tmp 24) (.const (.int .i64 0)), none⟩,
  ⟨some 26, .move (.tmp 25), none⟩,
  ⟨some 27, .call 11 [], (some (26, true))⟩,
  ⟨some 28, .pick (.tmp 26) (.tmp 27) (.const (.bool false)), none⟩,
  ⟨some 4, .move (.tmp 28), none⟩])
 (.ret))
 (.skip)))
 (.seq (.region [⟨some 29, .move (.tmp 1), none⟩,
  ⟨some 6, .move (.tmp 29), none⟩])
 (.seq (.seq (.region [⟨some 30, .move (.tmp 6), none⟩,
  ⟨some 31, .move (.tmp 0), none⟩,
  ⟨some 32, .bin .quo (.const (.int .i64 40000)) (.tmp 31), none⟩,
  ⟨some 33, .bin .gtr (.tmp 30) (.tmp 32), none⟩])
 (.cond (.tmp 33) (.region [⟨some 34, .move (.tmp 0), none⟩,
  ⟨some 35, .bin .quo (.const (.int .i64 40000)) (.tmp 34), none⟩,
  ⟨some 6, .move (.tmp 35), none⟩])
 (.skip)))
 (.seq (.region [⟨some 37, .move (.tmp 5), none⟩,
  ⟨some 38, .move (.tmp 0), none⟩,
  ⟨some 39, .call 12 [.tmp 37, .tmp 38], none⟩,
  ⟨some 36, .move (.tmp 39), none⟩,
  ⟨some 40, .extract (.tmp 36) 0, none⟩,
  ⟨some 41, .extract (.tmp 36) 1, none⟩,
  ⟨some 7, .move (.tmp 40), none⟩,
  ⟨some 8, .move (.tmp 41), none⟩])
 (.seq (.seq (.region [⟨some 42, .move (.tmp 5), none⟩,
  ⟨some 43, .len (.tmp 42), none⟩,
  ⟨some 44, .move (.tmp 6), none⟩,
  ⟨some 45, .move (.tmp 0), none⟩,
  ⟨some 46, .bin .mul (.tmp 44) (.tmp 45), none⟩,
  ⟨some 47, .bin .neq (.tmp 43) (.tmp 46), none⟩,
  ⟨some 48, .move (.tmp 47), none⟩,
  ⟨some 49, .move (.tmp 7), (some (48, false))⟩,
  ⟨some 50, .move (.tmp 6), (some (48, false))⟩,
  ⟨some 51, .bin .neq (.tmp 49) (.tmp 50), (some (48, false))⟩,
  ⟨some 52, .pick (.tmp 48) (.const (.bool true)) (.tmp 51), none⟩,
  ⟨some 53, .move (.tmp 52), none⟩,
  ⟨some 54, .move (.tmp 8), (some (53, false))⟩,
  ⟨some 55, .bin .neq (.tmp 54) (.const (.int .i64 0)), (some (53, false))⟩,
  ⟨some 56, .pick (.tmp 53) (.const (.bool true)) (.tmp 55), none⟩])
 (.cond (.tmp 56) (.seq (.region [⟨some 4, .move (.const (.bool false)), none⟩])
 (.ret))
 (.skip)))
 (.seq (.seq (.region [⟨some 9, .move (.const (.int .i64 0)), none⟩])
 (.block 0 (.loop L5_1)))
 (.seq (.region [⟨some 79, .call 11 [], none⟩,
  ⟨some 4, .move (.tmp 79), none⟩])
 (.ret)))))))))
theorem light5 : Light Try.prog 5 2 80 L5 [.tmp 4] :=
  ⟨Try.f5, _, Try.func5, rfl, rfl, by kernel_rfl, by kernel_rfl, by decide⟩

/-! ### function 6: outrider/outriderlaw25.ScriptWrites -/
def L6 : LCode :=
 .seq (.region [⟨some 2, .move (.const (.bool false)), none⟩])
 (.seq (.seq (.region [⟨some 10, .move (.tmp 0), none⟩,
  ⟨some 11, .len (.tmp 10), none⟩,
  ⟨some 12, .bin .gtr (.tmp 11) (.const (.int .i64 50000)), none⟩])
 (.cond (.tmp 12) (.seq (.region [⟨some 2, .move (.const (.bool true)), none⟩])
 (.ret))
 (.skip)))
 (.seq (.region [⟨some 14, .move (.tmp 0), none⟩,
  ⟨some 15, .call 15 [.tmp 14], none⟩,
  ⟨some 13, .move (.tmp 15), none⟩,
  ⟨some 16, .extract (.tmp 13) 0, none⟩,
  ⟨some 17, .extract (.tmp 13) 1, none⟩,
  ⟨some 3, .move (.tmp 16), none⟩,
  ⟨some 4, .move (.tmp 17), none⟩])
 (.seq (.region [⟨some 19, .move (.tmp 0), none⟩,
  ⟨some 20, .call 16 [.tmp 19], none⟩,
  ⟨some 18, .move (.tmp 20), none⟩,
  ⟨some 21, .extract (.tmp 18) 0, none⟩,
  ⟨some 22, .extract (.tmp 18) 1, none⟩,
  ⟨some 5, .move (.tmp 21), none⟩,
  ⟨some 6, .move (.tmp 22), none⟩])
 (.seq (.seq (.region [⟨some 23, .move (.tmp 3), none⟩,
  ⟨some 24, .move (.tmp 5), none⟩,
  ⟨some 25, .bin .neq (.tmp 23) (.tmp 24), none⟩,
  ⟨some 26, .move (.tmp 25), none⟩,
  ⟨some 27, .move (.tmp 4), (some (26, false))⟩,
  ⟨some 28, .move (.tmp 6), (some (26, false))⟩,
  ⟨some 29, .bin .neq (.tmp 27) (.tmp 28), (some (26, false))⟩,
  ⟨some 30, .pick (.tmp 26) (.const (.bool true)) (.tmp 29), none⟩])
 (.cond (.tmp 30) (.seq (.region [⟨some 2, .move (.const (.bool false)), none⟩])
 (.ret))
 (.skip)))
 (.seq (.region [⟨some 32, .move (.tmp 3), none⟩,
  ⟨some 33, .call 8 [.tmp 32], none⟩,
  ⟨some 31, .move (.tmp 33), none⟩,
  ⟨some 34, .extract (.tmp 31) 0, none⟩,
  ⟨some 35, .extract (.tmp 31) 1, none⟩,
  ⟨some 36, .extract (.tmp 31) 2, none⟩,
  ⟨some 7, .move (.tmp 34), none⟩,
  ⟨some 8, .move (.tmp 35), none⟩,
  ⟨some 9, .move (.tmp 36), none⟩])
 (.seq (.region [⟨some 37, .move (.tmp 4), none⟩,
  ⟨some 38, .bin .neq (.tmp 37) (.const (.int .i64 0)), none⟩,
  ⟨some 39, .move (.tmp 38), none⟩,
  ⟨some 40, .move (.tmp 9), (some (39, false))⟩,
  ⟨some 41, .bin .eql (.tmp 40) (.const (.int .i64 0)), (some (39, false))⟩,
  ⟨some 42, .move (.tmp 41), (some (39, false))⟩,
  ⟨some 43, .move (.tmp 0), (some (42, true))⟩,
  ⟨some 44, .move (.tmp 7), (some (42, true))⟩,
  ⟨some 45, .call 10 [.tmp 43, .tmp 44], (some (42, true))⟩,
  ⟨some 46, .pick (.tmp 42) (.tmp 45) (.const (.bool false)), (some (39, false))⟩,
  ⟨some 47, .pick (.tmp 39) (.const (.bool true)) (.tmp 46), none⟩,
  ⟨some 48, .move (.tmp 47), none⟩,
  ⟨some 49, .call 11 [], (some (48, true))⟩,
  ⟨some 50, .pick (.tmp 48) (.tmp 49) (.const (.bool false)), none⟩,
  ⟨some 2, .move (.tmp 50), none⟩])
 (.ret)))))))
theorem light6 : Light Try.prog 6 1 51 L6 [.tmp 2] :=
  ⟨Try.f6, _, Try.func6, rfl, rfl, by kernel_rfl, by kernel_rfl, by decide⟩

/-! ### function 8: outrider/script.Parse -/
def L8p : List LCode :=
 [.region [⟨some 2, .new 22 1 [.slice none 0 0], none⟩,
  ⟨some 3, .new 3 1 [.int .i64 0], none⟩,
  ⟨some 4, .new 23 1 [.int .i64 0], none⟩],
 .seq (.region [⟨some 6, .move (.tmp 0), none⟩,
  ⟨some 7, .lenS (.tmp 6), none⟩,
  ⟨some 8, .bin .gtr (.tmp 7) (.const (.int .i64 8192)), none⟩])
 (.cond (.tmp 8) (.seq (.region [⟨none, .store 1 (.tmp 2) (.const (.slice none 0 0)), none⟩,
  ⟨none, .store 1 (.tmp 3) (.const (.int .i64 0)), none⟩,
  ⟨none, .store 1 (.tmp 4) (.const (.int .i64 30)), none⟩])
 (.ret))
 (.skip))]
def L8r : LCode :=
 .seq (.region [⟨some 10, .move (.tmp 0), none⟩,
  ⟨some 11, .build [.string ByteArray.empty, .int .i64 0, .int .i64 0] [(0, 1, .tmp 10)], none⟩,
  ⟨some 12, .box 67 3 (.tmp 11), none⟩,
  ⟨some 5, .move (.tmp 12), none⟩])
 (.seq (.region [⟨some 13, .move (.tmp 5), none⟩,
  ⟨some 14, .call 23 [.tmp 13], none⟩,
  ⟨none, .store 1 (.tmp 2) (.tmp 14), none⟩])
 (.seq (.seq (.region [⟨some 15, .move (.tmp 5), none⟩,
  ⟨some 16, .nilCheck (.tmp 15), none⟩,
  ⟨some 17, .off 1 (.tmp 16), none⟩,
  ⟨some 18, .load false 1 (.tmp 17), none⟩,
  ⟨some 19, .move (.tmp 0), none⟩,
  ⟨some 20, .lenS (.tmp 19), none⟩,
  ⟨some 21, .bin .lss (.tmp 18) (.tmp 20), none⟩])
 (.cond (.tmp 21) (.region [⟨some 22, .move (.tmp 5), none⟩,
  ⟨some 23, .call 24 [.tmp 22, .const (.int .i64 250)], none⟩])
 (.skip)))
 (.seq (.region [⟨some 24, .load false 1 (.tmp 2), none⟩,
  ⟨none, .store 1 (.tmp 2) (.tmp 24), none⟩,
  ⟨none, .store 1 (.tmp 3) (.const (.int .i64 0)), none⟩,
  ⟨none, .store 1 (.tmp 4) (.const (.int .i64 0)), none⟩])
 (.ret))))
theorem defer8 : DeferS Try.prog 8 1 25 L8p 9 22 [.tmp 2, .tmp 3, .tmp 4] L8r [.cell 2 false 1, .cell 3 false 1, .cell 4 false 1] :=
  ⟨Try.f8, [_, _], _, _, _, _, _, Try.func8, rfl, rfl, by kernel_rfl, by decide, .cons (by kernel_rfl) (.cons (by kernel_rfl) .nil), by kernel_rfl, by kernel_rfl, rfl, rfl, rfl, by decide, Try.f22, Try.func22, by kernel_rfl, by kernel_rfl⟩

/-! ### function 9: outrider/outriderref25.Parse -/
def L9 : LCode :=
 .seq (.region [⟨some 2, .move (.const (.slice none 0 0)), none⟩,
  ⟨some 3, .move (.const (.int .i64 0)), none⟩,
  ⟨some 4, .move (.const (.int .i64 0)), none⟩])
 (.seq (.seq (.region [⟨some 7, .move (.tmp 0), none⟩,
  ⟨some 8, .lenS (.tmp 7), none⟩,
  ⟨some 9, .bin .gtr (.tmp 8) (.const (.int .i64 8192)), none⟩])
 (.cond (.tmp 9) (.seq (.region [⟨some 2, .move (.const (.slice none 0 0)), none⟩,
  ⟨some 3, .move (.const (.int .i64 0)), none⟩,
  ⟨some 4, .move (.const (.int .i64 30)), none⟩])
 (.ret))
 (.skip)))
 (.seq (.region [⟨some 11, .move (.tmp 0), none⟩,
  ⟨some 12, .build [.string ByteArray.empty, .int .i64 0, .int .i64 0, .int .i64 0] [(0, 1, .tmp 11)], none⟩,
  ⟨some 13, .call 25 [.tmp 12, .const (.int .i64 0)], none⟩,
  ⟨some 10, .move (.tmp 13), none⟩,
  ⟨some 14, .extract (.tmp 10) 0, none⟩,
  ⟨some 15, .extract (.tmp 10) 1, none⟩,
  ⟨some 5, .new 71 4 [.string ByteArray.empty, .int .i64 0, .int .i64 0, .int .i64 0], none⟩,
  ⟨none, .store 4 (.tmp 5) (.tmp 14), none⟩,
  ⟨some 6, .move (.tmp 15), none⟩])
 (.seq (.seq (.region [⟨some 16, .off 2 (.tmp 5), none⟩,
  ⟨some 17, .load false 1 (.tmp 16), none⟩,
  ⟨some 18, .bin .eql (.tmp 17) (.const (.int .i64 0)), none⟩,
  ⟨some 19, .move (.tmp 18), none⟩,
  ⟨some 20, .off 1 (.tmp 5), (some (19, true))⟩,
  ⟨some 21, .load false 1 (.tmp 20), (some (19, true))⟩,
  ⟨some 22, .move (.tmp 0), (some (19, true))⟩,
  ⟨some 23, .lenS (.tmp 22), (some (19, true))⟩,
  ⟨some 24, .bin .lss (.tmp 21) (.tmp 23), (some (19, true))⟩,
  ⟨some 25, .pick (.tmp 19) (.tmp 24) (.const (.bool false)), none⟩])
 (.cond (.tmp 25) (.region [⟨some 26, .load true 4 (.tmp 5), none⟩,
  ⟨some 27, .off 1 (.tmp 5), none⟩,
  ⟨some 28, .load false 1 (.tmp 27), none⟩,
  ⟨some 29, .call 26 [.tmp 26, .const (.int .i64 250), .tmp 28], none⟩,
  ⟨none, .store 4 (.tmp 5) (.tmp 29), none⟩])
 (.skip)))
 (.seq (.seq (.region [⟨some 30, .off 2 (.tmp 5), none⟩,
  ⟨some 31, .load false 1 (.tmp 30), none⟩,
  ⟨some 32, .bin .neq (.tmp 31) (.const (.int .i64 0)), none⟩])
 (.cond (.tmp 32) (.seq (.draw [⟨⟨some 33, .off 3 (.tmp 5), none⟩, .pure, 0, 0⟩,
  ⟨⟨some 34, .load false 1 (.tmp 33), none⟩, .read, 0, 0⟩,
  ⟨⟨some 35, .off 2 (.tmp 5), none⟩, .pure, 0, 0⟩,
  ⟨⟨some 36, .load false 1 (.tmp 35), none⟩, .read, 0, 0⟩,
  ⟨⟨some 2, .move (.const (.slice none 0 0)), none⟩, .pure, 0, 0⟩,
  ⟨⟨some 3, .move (.tmp 34), none⟩, .pure, 0, 0⟩,
  ⟨⟨some 4, .move (.tmp 36), none⟩, .pure, 0, 0⟩])
 (.ret))
 (.skip)))
 (.seq (.region [⟨some 37, .move (.tmp 6), none⟩,
  ⟨some 2, .move (.tmp 37), none⟩,
  ⟨some 3, .move (.const (.int .i64 0)), none⟩,
  ⟨some 4, .move (.const (.int .i64 0)), none⟩])
 (.ret))))))
theorem light9 : Light Try.prog 9 1 38 L9 [.tmp 2, .tmp 3, .tmp 4] :=
  ⟨Try.f9, _, Try.func9, rfl, rfl, by kernel_rfl, by kernel_rfl, by decide⟩

/-! ### function 10: outrider/outriderref25.Same -/
def L10_1 : LCode :=
 .seq (.seq (.region [⟨some 11, .move (.tmp 5), none⟩,
  ⟨some 12, .move (.tmp 0), none⟩,
  ⟨some 13, .len (.tmp 12), none⟩,
  ⟨some 14, .bin .lss (.tmp 11) (.tmp 13), none⟩])
 (.cond (.tmp 14) (.skip)
 (.exit 0)))
 (.seq (.block 1 (.seq (.draw [⟨⟨some 17, .move (.tmp 0), none⟩, .pure, 0, 0⟩,
  ⟨⟨some 18, .move (.tmp 5), none⟩, .pure, 0, 0⟩,
  ⟨⟨some 19, .idx 2 (.tmp 17) (.tmp 18), none⟩, .pure, 0, 0⟩,
  ⟨⟨some 20, .load true 2 (.tmp 19), none⟩, .read, 0, 0⟩,
  ⟨⟨some 21, .move (.tmp 1), none⟩, .pure, 0, 0⟩,
  ⟨⟨some 22, .move (.tmp 5), none⟩, .pure, 0, 0⟩,
  ⟨⟨some 23, .idx 2 (.tmp 21) (.tmp 22), none⟩, .pure, 0, 0⟩,
  ⟨⟨some 24, .load true 2 (.tmp 23), none⟩, .read, 0, 0⟩,
  ⟨⟨some 25, .eqR true 36 (.tmp 20) (.tmp 24), none⟩, .pure, 0, 0⟩])
 (.cond (.tmp 25) (.seq (.region [⟨some 4, .move (.const (.bool false)), none⟩])
 (.ret))
 (.skip))))
 (.region [⟨some 15, .move (.tmp 5), none⟩,
  ⟨some 16, .bin .add (.tmp 15) (.const (.int .i64 1)), none⟩,
  ⟨some 5, .move (.tmp 16), none⟩]))
def L10 : LCode :=
 .seq (.region [⟨some 4, .move (.const (.bool false)), none⟩])
 (.seq (.seq (.region [⟨some 6, .move (.tmp 0), none⟩,
  ⟨some 7, .len (.tmp 6), none⟩,
  ⟨some 8, .move (.tmp 1), none⟩,
  ⟨some 9, .len (.tmp 8), none⟩,
  ⟨some 10, .bin .neq (.tmp 7) (.tmp 9), none⟩])
 (.cond (.tmp 10) (.seq (.region [⟨some 4, .move (.const (.bool false)), none⟩])
 (.ret))
 (.skip)))
 (.seq (.seq (.region [⟨some 5, .move (.const (.int .i64 0)), none⟩])
 (.block 0 (.loop L10_1)))
 (.seq (.region [⟨some 4, .move (.const (.bool true)), none⟩])
 (.ret))))
theorem light10 : Light Try.prog 10 2 26 L10 [.tmp 4] :=
  ⟨Try.f10, _, Try.func10, rfl, rfl, by kernel_rfl, by kernel_rfl, by decide⟩

/-! ### function 11: outrider/outriderlaw25.alive -/
def L11 : LCode :=
 .seq (.region [⟨some 0, .move (.const (.bool false)), none⟩])
 (.seq (.region [⟨some 10, .call 8 [.const (.string ⟨#[48, 32, 49, 42, 50, 32, 33, 48]⟩)], none⟩,
  ⟨some 9, .move (.tmp 10), none⟩,
  ⟨some 11, .extract (.tmp 9) 0, none⟩,
  ⟨some 12, .extract (.tmp 9) 1, none⟩,
  ⟨some 13, .extract (.tmp 9) 2, none⟩,
  ⟨some 1, .move (.tmp 11), none⟩,
  ⟨some 2, .move (.tmp 12), none⟩,
  ⟨some 3, .move (.tmp 13), none⟩])
 (.seq (.region [⟨some 15, .call 8 [.const (.string ⟨#[40, 49]⟩)], none⟩,
  ⟨some 14, .move (.tmp 15), none⟩,
  ⟨some 16, .extract (.tmp 14) 0, none⟩,
  ⟨some 17, .extract (.tmp 14) 1, none⟩,
  ⟨some 18, .extract (.tmp 14) 2, none⟩,
  ⟨some 4, .move (.tmp 16), none⟩,
  ⟨some 5, .move (.tmp 17), none⟩,
  ⟨some 6, .move (.tmp 18), none⟩])
 (.seq (.region [⟨some 20, .move (.tmp 1), none⟩,
  ⟨some 21, .call 12 [.tmp 20, .const (.int .i64 2)], none⟩,
  ⟨some 19, .move (.tmp 21), none⟩,
  ⟨some 22, .extract (.tmp 19) 0, none⟩,
  ⟨some 23, .extract (.tmp 19) 1, none⟩,
  ⟨some 7, .move (.tmp 22), none⟩,
  ⟨some 8, .move (.tmp 23), none⟩])
 (.seq (.region [⟨some 24, .move (.tmp 3), none⟩,
  ⟨some 25, .bin .eql (.tmp 24) (.const (.int .i64 0)), none⟩,
  ⟨some 26, .move (.tmp 25), none⟩,
  ⟨some 27, .move (.tmp 2), (some (26, true))⟩,
  ⟨some 28, .bin .eql (.tmp 27) (.const (.int .i64 0)), (some (26, true))⟩,
  ⟨some 29, .pick (.tmp 26) (.tmp 28) (.const (.bool false)), none⟩,
  ⟨some 30, .move (.tmp 29), none⟩,
  ⟨some 31, .move (.tmp 1), (some (30, true))⟩,
  ⟨some 32, .len (.tmp 31), (some (30, true))⟩,
  ⟨some 33, .bin .eql (.tmp 32) (.const (.int .i64 4)), (some (30, true))⟩,
  ⟨some 34, .pick (.tmp 30) (.tmp 33) (.const (.bool false)), none⟩,
  ⟨some 35, .move (.tmp 34), none⟩,
  ⟨some 36, .move (.tmp 1), (some (35, true))⟩,
  ⟨some 37, .idx 2 (.tmp 36) (.const (.int .i64 3)), (some (35, true))⟩,
  ⟨some 38, .load true 2 (.tmp 37), (some (35, true))⟩,
  ⟨some 39, .build [.int .i64 0, .bool false] [(1, 1, .const (.bool true))], (some (35, true))⟩,
  ⟨some 40, .eqR false 36 (.tmp 38) (.tmp 39), (some (35, true))⟩,
  ⟨some 41, .pick (.tmp 35) (.tmp 40) (.const (.bool false)), none⟩,
  ⟨some 42, .move (.tmp 41), none⟩,
  ⟨some 43, .move (.tmp 6), (some (42, true))⟩,
  ⟨some 44, .bin .eql (.tmp 43) (.const (.int .i64 250)), (some (42, true))⟩,
  ⟨some 45, .pick (.tmp 42) (.tmp 44) (.const (.bool false)), none⟩,
  ⟨some 46, .move (.tmp 45), none⟩,
  ⟨some 47, .move (.tmp 5), (some (46, true))⟩,
  ⟨some 48, .bin .eql (.tmp 47) (.const (.int .i64 2)), (some (46, true))⟩,
  ⟨some 49, .pick (.tmp 46) (.tmp 48) (.const (.bool false)), none⟩,
  ⟨some 50, .move (.tmp 49), none⟩,
  ⟨some 51, .move (.tmp 7), (some (50, true))⟩,
  ⟨some 52, .bin .eql (.tmp 51) (.const (.int .i64 1)), (some (50, true))⟩,
  ⟨some 53, .pick (.tmp 50) (.tmp 52) (.const (.bool false)), none⟩,
  ⟨some 54, .move (.tmp 53), none⟩,
  ⟨some 55, .move (.tmp 8), (some (54, true))⟩,
  ⟨some 56, .bin .eql (.tmp 55) (.const (.int .i64 1)), (some (54, true))⟩,
  ⟨some 57, .pick (.tmp 54) (.tmp 56) (.const (.bool false)), none⟩,
  ⟨some 58, .move (.tmp 57), none⟩,
  ⟨some 59, .call 14 [.const (.int .i64 2), .const (.int .i64 3)], (some (58, true))⟩,
  ⟨some 60, .len (.tmp 59), (some (58, true))⟩,
  ⟨some 61, .bin .eql (.tmp 60) (.const (.int .i64 6)), (some (58, true))⟩,
  ⟨some 62, .pick (.tmp 58) (.tmp 61) (.const (.bool false)), none⟩,
  ⟨some 0, .move (.tmp 62), none⟩])
 (.ret)))))
theorem light11 : Light Try.prog 11 0 63 L11 [.tmp 0] :=
  ⟨Try.f11, _, Try.func11, rfl, rfl, by kernel_rfl, by kernel_rfl, by decide⟩

/-! ### function 12: outrider/script.Rounds -/
def L12_1 : LCode :=
 .seq (.region [⟨some 15, .bin .lss (.tmp 14) (.tmp 13), none⟩])
 (.seq (.cond (.tmp 15) (.skip)
 (.exit 0))
 (.seq (.block 1 (.seq (.region [⟨some 16, .idx 2 (.tmp 12) (.tmp 14), none⟩,
  ⟨some 17, .load true 2 (.tmp 16), none⟩,
  ⟨some 11, .new 36 2 [.int .i64 0, .bool false], none⟩,
  ⟨none, .store 2 (.tmp 11) (.tmp 17), none⟩])
 (.seq (.seq (.region [⟨some 18, .off 1 (.tmp 11), none⟩,
  ⟨some 19, .load false 1 (.tmp 18), none⟩])
 (.cond (.tmp 19) (.seq (.region [⟨some 20, .move (.tmp 7), none⟩,
  ⟨some 21, .bin .add (.tmp 20) (.const (.int .i64 1)), none⟩,
  ⟨some 7, .move (.tmp 21), none⟩])
 (.exit 1))
 (.skip)))
 (.seq (.seq (.region [⟨some 22, .move (.tmp 1), none⟩,
  ⟨some 23, .bin .lss (.tmp 22) (.const (.int .i64 1)), none⟩,
  ⟨some 24, .move (.tmp 23), none⟩,
  ⟨some 25, .move (.tmp 1), (some (24, false))⟩,
  ⟨some 26, .bin .gtr (.tmp 25) (.const (.int .i64 8)), (some (24, false))⟩,
  ⟨some 27, .pick (.tmp 24) (.const (.bool true)) (.tmp 26), none⟩,
  ⟨some 28, .move (.tmp 27), none⟩,
  ⟨some 29, .off 0 (.tmp 11), (some (28, false))⟩,
  ⟨some 30, .load false 1 (.tmp 29), (some (28, false))⟩,
  ⟨some 31, .bin .lss (.tmp 30) (.const (.int .i64 0)), (some (28, false))⟩,
  ⟨some 32, .pick (.tmp 28) (.const (.bool true)) (.tmp 31), none⟩,
  ⟨some 33, .move (.tmp 32), none⟩,
  ⟨some 34, .off 0 (.tmp 11), (some (33, false))⟩,
  ⟨some 35, .load false 1 (.tmp 34), (some (33, false))⟩,
  ⟨some 36, .move (.tmp 1), (some (33, false))⟩,
  ⟨some 37, .bin .geq (.tmp 35) (.tmp 36), (some (33, false))⟩,
  ⟨some 38, .pick (.tmp 33) (.const (.bool true)) (.tmp 37), none⟩,
  ⟨some 39, .move (.tmp 38), none⟩,
  ⟨some 40, .off 0 (.tmp 11), (some (39, false))⟩,
  ⟨some 41, .load false 1 (.tmp 40), (some (39, false))⟩,
  ⟨some 42, .idxArr 8 1 (.tmp 9) (.tmp 41), (some (39, false))⟩,
  ⟨some 43, .load false 1 (.tmp 42), (some (39, false))⟩,
  ⟨some 44, .pick (.tmp 39) (.const (.bool true)) (.tmp 43), none⟩])
 (.cond (.tmp 44) (.exit 1)
 (.skip)))
 (.seq (.region [⟨some 45, .off 0 (.tmp 11), none⟩,
  ⟨some 46, .load false 1 (.tmp 45), none⟩,
  ⟨some 47, .idxArr 8 1 (.tmp 9) (.tmp 46), none⟩,
  ⟨none, .store 1 (.tmp 47) (.const (.bool true)), none⟩])
 (.seq (.region [⟨some 48, .move (.tmp 8), none⟩,
  ⟨some 49, .bin .add (.tmp 48) (.const (.int .i64 1)), none⟩,
  ⟨some 8, .move (.tmp 49), none⟩])
 (.seq (.region [⟨some 50, .move (.tmp 8), none⟩,
  ⟨some 51, .move (.tmp 1), none⟩,
  ⟨some 52, .bin .eql (.tmp 50) (.tmp 51), none⟩])
 (.cond (.tmp 52) (.seq (.region [⟨some 53, .move (.tmp 6), none⟩,
  ⟨some 54, .bin .add (.tmp 53) (.const (.int .i64 1)), none⟩,
  ⟨some 6, .move (.tmp 54), none⟩])
 (.seq (.region [⟨some 8, .move (.const (.int .i64 0)), none⟩])
 (.region [⟨some 55, .sliceArr 8 1 (.tmp 9) none none none, none⟩,
  ⟨none, .clear 1 [.bool false] (.tmp 55), none⟩])))
 (.skip)))))))))
 (.region [⟨some 56, .bin .add (.tmp 14) (.const (.int .i64 1)), none⟩,
  ⟨some 14, .move (.tmp 56), none⟩])))
def L12 : LCode :=
 .seq (.region [⟨some 4, .move (.const (.int .i64 0)), none⟩,
  ⟨some 5, .move (.const (.int .i64 0)), none⟩])
 (.seq (.region [⟨some 6, .move (.const (.int .i64 0)), none⟩,
  ⟨some 7, .move (.const (.int .i64 0)), none⟩,
  ⟨some 8, .move (.const (.int .i64 0)), none⟩])
 (.seq (.region [⟨some 9, .new 75 8 [.bool false, .bool false, .bool false, .bool false, .bool false, .bool false, .bool false, .bool false], none⟩])
 (.seq (.seq (.region [⟨some 12, .move (.tmp 0), none⟩,
  ⟨some 13, .len (.tmp 12), none⟩,
  ⟨some 14, .move (.const (.int .i64 0)), none⟩])
 (.block 0 (.loop L12_1)))
 (.seq (.region [⟨some 57, .move (.tmp 6), none⟩,
  ⟨some 58, .move (.tmp 7), none⟩,
  ⟨some 4, .move (.tmp 57), none⟩,
  ⟨some 5, .move (.tmp 58), none⟩])
 (.ret)))))
theorem light12 : Light Try.prog 12 2 59 L12 [.tmp 4, .tmp 5] :=
  ⟨Try.f12, _, Try.func12, rfl, rfl, by kernel_rfl, by kernel_rfl, by decide⟩

/-! ### function 13: outrider/outriderref25.Rounds -/
def L13_1 : LCode :=
 .seq (.seq (.region [⟨some 43, .move (.tmp 11), none⟩,
  ⟨some 44, .move (.tmp 1), none⟩,
  ⟨some 45, .bin .lss (.tmp 43) (.tmp 44), none⟩])
 (.cond (.tmp 45) (.skip)
 (.exit 2)))
 (.seq (.block 3 (.region [⟨some 48, .move (.tmp 10), none⟩,
  ⟨some 49, .move (.tmp 48), none⟩,
  ⟨some 50, .move (.tmp 0), (some (49, true))⟩,
  ⟨some 51, .move (.tmp 8), (some (49, true))⟩,
  ⟨some 52, .move (.tmp 9), (some (49, true))⟩,
  ⟨some 53, .bin .add (.tmp 52) (.const (.int .i64 1)), (some (49, true))⟩,
  ⟨some 54, .slice 2 (.tmp 50) (some (.tmp 51)) (some (.tmp 53)) none, (some (49, true))⟩,
  ⟨some 55, .move (.tmp 11), (some (49, true))⟩,
  ⟨some 56, .call 27 [.tmp 54, .tmp 55], (some (49, true))⟩,
  ⟨some 57, .pick (.tmp 49) (.tmp 56) (.const (.bool false)), none⟩,
  ⟨some 10, .move (.tmp 57), none⟩]))
 (.region [⟨some 46, .move (.tmp 11), none⟩,
  ⟨some 47, .bin .add (.tmp 46) (.const (.int .i64 1)), none⟩,
  ⟨some 11, .move (.tmp 47), none⟩]))
def L13_2 : LCode :=
 .seq (.seq (.region [⟨some 12, .move (.tmp 9), none⟩,
  ⟨some 13, .move (.tmp 0), none⟩,
  ⟨some 14, .len (.tmp 13), none⟩,
  ⟨some 15, .bin .lss (.tmp 12) (.tmp 14), none⟩])
 (.cond (.tmp 15) (.skip)
 (.exit 0)))
 (.seq (.block 1 (.seq (.seq (.region [⟨some 18, .move (.tmp 0), none⟩,
  ⟨some 19, .move (.tmp 9), none⟩,
  ⟨some 20, .idx 2 (.tmp 18) (.tmp 19), none⟩,
  ⟨some 21, .off 1 (.tmp 20), none⟩,
  ⟨some 22, .load false 1 (.tmp 21), none⟩])
 (.cond (.tmp 22) (.seq (.region [⟨some 23, .move (.tmp 6), none⟩,
  ⟨some 24, .bin .add (.tmp 23) (.const (.int .i64 1)), none⟩,
  ⟨some 6, .move (.tmp 24), none⟩])
 (.exit 1))
 (.skip)))
 (.seq (.seq (.draw [⟨⟨some 25, .move (.tmp 1), none⟩, .pure, 0, 0⟩,
  ⟨⟨some 26, .bin .lss (.tmp 25) (.const (.int .i64 1)), none⟩, .pure, 0, 0⟩,
  ⟨⟨some 27, .move (.tmp 26), none⟩, .pure, 0, 0⟩,
  ⟨⟨some 28, .move (.tmp 1), (some (27, false))⟩, .pure, 0, 0⟩,
  ⟨⟨some 29, .bin .gtr (.tmp 28) (.const (.int .i64 8)), (some (27, false))⟩, .pure, 0, 0⟩,
  ⟨⟨some 30, .pick (.tmp 27) (.const (.bool true)) (.tmp 29), none⟩, .pure, 0, 0⟩,
  ⟨⟨some 31, .move (.tmp 30), none⟩, .pure, 0, 0⟩,
  ⟨⟨some 32, .move (.tmp 0), (some (31, false))⟩, .pure, 0, 0⟩,
  ⟨⟨some 33, .move (.tmp 8), (some (31, false))⟩, .pure, 0, 0⟩,
  ⟨⟨some 34, .move (.tmp 9), (some (31, false))⟩, .pure, 0, 0⟩,
  ⟨⟨some 35, .slice 2 (.tmp 32) (some (.tmp 33)) (some (.tmp 34)) none, (some (31, false))⟩, .pure, 0, 0⟩,
  ⟨⟨some 36, .move (.tmp 0), (some (31, false))⟩, .pure, 0, 0⟩,
  ⟨⟨some 37, .move (.tmp 9), (some (31, false))⟩, .pure, 0, 0⟩,
  ⟨⟨some 38, .idx 2 (.tmp 36) (.tmp 37), (some (31, false))⟩, .pure, 0, 0⟩,
  ⟨⟨some 39, .off 0 (.tmp 38), (some (31, false))⟩, .pure, 0, 0⟩,
  ⟨⟨some 40, .load false 1 (.tmp 39), (some (31, false))⟩, .read, 0, 0⟩,
  ⟨⟨some 41, .call 27 [.tmp 35, .tmp 40], (some (31, false))⟩, .heavy, 0, 1⟩,
  ⟨⟨some 42, .pick (.tmp 31) (.const (.bool true)) (.tmp 41), none⟩, .pure, 1, 1⟩])
 (.cond (.tmp 42) (.exit 1)
 (.skip)))
 (.seq (.region [⟨some 10, .move (.const (.bool true)), none⟩])
 (.seq (.seq (.region [⟨some 11, .move (.const (.int .i64 0)), none⟩])
 (.block 2 (.loop L13_1)))
 (.seq (.region [⟨some 58, .move (.tmp 10), none⟩])
 (.cond (.tmp 58) (.seq (.region [⟨some 59, .move (.tmp 7), none⟩,
  ⟨some 60, .bin .add (.tmp 59) (.const (.int .i64 1)), none⟩,
  ⟨some 7, .move (.tmp 60), none⟩])
 (.region [⟨some 61, .move (.tmp 9), none⟩,
  ⟨some 62, .bin .add (.tmp 61) (.const (.int .i64 1)), none⟩,
  ⟨some 8, .move (.tmp 62), none⟩]))
 (.skip))))))))
 (.region [⟨some 16, .move (.tmp 9), none⟩,
  ⟨some 17, .bin .add (.tmp 16) (.const (.int .i64 1)), none⟩,
  ⟨some 9, .move (.tmp 17), none⟩]))
def L13 : LCode :=
 .seq (.region [⟨some 4, .move (.const (.int .i64 0)), none⟩,
  ⟨some 5, .move (.const (.int .i64 0)), none⟩])
 (.seq (.region [⟨some 6, .move (.const (.int .i64 0)), none⟩,
  ⟨some 7, .move (.const (.int .i64 0)), none⟩,
  ⟨some 8, .move (.const (.int .i64 0)), none⟩])
 (.seq (.seq (.region [⟨some 9, .move (.const (.int .i64 0)), none⟩])
 (.block 0 (.loop L13_2)))
 (.seq (.region [⟨some 63, .move (.tmp 7), none⟩,
  ⟨some 64, .move (.tmp 6), none⟩,
  ⟨some 4, .move (.tmp 63), none⟩,
  ⟨some 5, .move (.tmp 64), none⟩])
 (.ret))))
theorem light13 : Light Try.prog 13 2 65 L13 [.tmp 4, .tmp 5] :=
  ⟨Try.f13, _, Try.func13, rfl, rfl, by kernel_rfl, by kernel_rfl, by decide⟩

/-! ### function 14: outrider/script.Fair -/
def L14_1 : LCode :=
 .seq (.region [⟨some 25, .bin .lss (.tmp 24) (.tmp 23), none⟩])
 (.seq (.cond (.tmp 25) (.skip)
 (.exit 2))
 (.seq (.block 3 (.seq (.region [⟨some 26, .move (.tmp 24), none⟩,
  ⟨some 6, .move (.tmp 26), none⟩])
 (.region [⟨some 27, .move (.tmp 5), none⟩,
  ⟨some 28, .move (.tmp 6), none⟩,
  ⟨some 29, .build [.int .i64 0, .bool false] [(0, 1, .tmp 28)], none⟩,
  ⟨some 30, .buildSlice 36 2 1 [.int .i64 0, .bool false] [(0, 2, .tmp 29)], none⟩,
  ⟨some 31, .append 36 2 16 (.tmp 27) (.tmp 30), none⟩,
  ⟨some 5, .move (.tmp 31), none⟩])))
 (.region [⟨some 32, .bin .add (.tmp 24) (.const (.int .i64 1)), none⟩,
  ⟨some 24, .move (.tmp 32), none⟩])))
def L14_2 : LCode :=
 .seq (.region [⟨some 22, .bin .lss (.tmp 21) (.tmp 20), none⟩])
 (.seq (.cond (.tmp 22) (.skip)
 (.exit 0))
 (.seq (.block 1 (.seq (.region [⟨some 23, .move (.tmp 0), none⟩,
  ⟨some 24, .move (.const (.int .i64 0)), none⟩])
 (.block 2 (.loop L14_1))))
 (.region [⟨some 33, .bin .add (.tmp 21) (.const (.int .i64 1)), none⟩,
  ⟨some 21, .move (.tmp 33), none⟩])))
def L14 : LCode :=
 .seq (.region [⟨some 4, .move (.const (.slice none 0 0)), none⟩])
 (.seq (.region [⟨some 5, .move (.const (.slice none 0 0)), none⟩])
 (.seq (.seq (.region [⟨some 7, .move (.tmp 0), none⟩,
  ⟨some 8, .bin .lss (.tmp 7) (.const (.int .i64 1)), none⟩,
  ⟨some 9, .move (.tmp 8), none⟩,
  ⟨some 10, .move (.tmp 0), (some (9, false))⟩,
  ⟨some 11, .bin .gtr (.tmp 10) (.const (.int .i64 8)), (some (9, false))⟩,
  ⟨some 12, .pick (.tmp 9) (.const (.bool true)) (.tmp 11), none⟩,
  ⟨some 13, .move (.tmp 12), none⟩,
  ⟨some 14, .move (.tmp 1), (some (13, false))⟩,
  ⟨some 15, .bin .lss (.tmp 14) (.const (.int .i64 1)), (some (13, false))⟩,
  ⟨some 16, .pick (.tmp 13) (.const (.bool true)) (.tmp 15), none⟩])
 (.cond (.tmp 16) (.seq (.region [⟨some 4, .move (.const (.slice none 0 0)), none⟩])
 (.ret))
 (.skip)))
 (.seq (.seq (.region [⟨some 17, .move (.tmp 1), none⟩,
  ⟨some 18, .move (.tmp 0), none⟩,
  ⟨some 19, .bin .quo (.const (.int .i64 40000)) (.tmp 18), none⟩,
  ⟨some 20, .minmax false (.tmp 17) [.tmp 19], none⟩,
  ⟨some 21, .move (.const (.int .i64 0)), none⟩])
 (.block 0 (.loop L14_2)))
 (.seq (.region [⟨some 34, .move (.tmp 5), none⟩,
  ⟨some 4, .move (.tmp 34), none⟩])
 (.ret)))))
theorem light14 : Light Try.prog 14 2 35 L14 [.tmp 4] :=
  ⟨Try.f14, _, Try.func14, rfl, rfl, by kernel_rfl, by kernel_rfl, by decide⟩

/-! ### function 15: outrider/script.Text -/
def L15_1 : LCode :=
 .seq (.seq (.draw [⟨⟨some 15, .move (.tmp 6), none⟩, .pure, 0, 0⟩,
  ⟨⟨some 16, .move (.tmp 0), none⟩, .pure, 0, 0⟩,
  ⟨⟨some 17, .len (.tmp 16), none⟩, .pure, 0, 0⟩,
  ⟨⟨some 18, .bin .lss (.tmp 15) (.tmp 17), none⟩, .pure, 0, 0⟩,
  ⟨⟨some 19, .move (.tmp 18), none⟩, .pure, 0, 0⟩,
  ⟨⟨some 20, .move (.tmp 0), (some (19, true))⟩, .pure, 0, 0⟩,
  ⟨⟨some 21, .move (.tmp 6), (some (19, true))⟩, .pure, 0, 0⟩,
  ⟨⟨some 22, .idx 2 (.tmp 20) (.tmp 21), (some (19, true))⟩, .pure, 0, 0⟩,
  ⟨⟨some 23, .load true 2 (.tmp 22), (some (19, true))⟩, .read, 0, 0⟩,
  ⟨⟨some 24, .move (.tmp 0), (some (19, true))⟩, .pure, 0, 0⟩,
  ⟨⟨some 25, .move (.tmp 5), (some (19, true))⟩, .pure, 0, 0⟩,
  ⟨⟨some 26, .idx 2 (.tmp 24) (.tmp 25), (some (19, true))⟩, .pure, 0, 0⟩,
  ⟨⟨some 27, .load true 2 (.tmp 26), (some (19, true))⟩, .read, 0, 0⟩,
  ⟨⟨some 28, .eqR false 36 (.tmp 23) (.tmp 27), (some (19, true))⟩, .pure, 0, 0⟩,
  ⟨⟨some 29, .pick (.tmp 19) (.tmp 28) (.const (.bool false)), none⟩, .pure, 0, 0⟩])
 (.cond (.tmp 29) (.skip)
 (.exit 2)))
 (.block 3 (.region [⟨some 30, .move (.tmp 6), none⟩,
  ⟨some 31, .bin .add (.tmp 30) (.const (.int .i64 1)), none⟩,
  ⟨some 6, .move (.tmp 31), none⟩]))
def L15_2 : LCode :=
 .seq (.seq (.region [⟨some 10, .move (.tmp 5), none⟩,
  ⟨some 11, .move (.tmp 0), none⟩,
  ⟨some 12, .len (.tmp 11), none⟩,
  ⟨some 13, .bin .lss (.tmp 10) (.tmp 12), none⟩])
 (.cond (.tmp 13) (.skip)
 (.exit 0)))
 (.block 1 (.seq (.region [⟨some 14, .move (.tmp 5), none⟩,
  ⟨some 6, .move (.tmp 14), none⟩])
 (.seq (.block 2 (.loop L15_1))
 (.seq (.seq (.region [⟨some 32, .move (.tmp 0), none⟩,
  ⟨some 33, .move (.tmp 5), none⟩,
  ⟨some 34, .idx 2 (.tmp 32) (.tmp 33), none⟩,
  ⟨some 35, .off 0 (.tmp 34), none⟩,
  ⟨some 36, .load false 1 (.tmp 35), none⟩,
  ⟨some 37, .bin .lss (.tmp 36) (.const (.int .i64 0)), none⟩,
  ⟨some 38, .move (.tmp 37), none⟩,
  ⟨some 39, .move (.tmp 0), (some (38, false))⟩,
  ⟨some 40, .move (.tmp 5), (some (38, false))⟩,
  ⟨some 41, .idx 2 (.tmp 39) (.tmp 40), (some (38, false))⟩,
  ⟨some 42, .off 0 (.tmp 41), (some (38, false))⟩,
  ⟨some 43, .load false 1 (.tmp 42), (some (38, false))⟩,
  ⟨some 44, .bin .geq (.tmp 43) (.const (.int .i64 2147483648)), (some (38, false))⟩,
  ⟨some 45, .pick (.tmp 38) (.const (.bool true)) (.tmp 44), none⟩])
 (.cond (.tmp 45) (.seq (.region [⟨some 2, .move (.const (.string ByteArray.empty)), none⟩,
  ⟨some 3, .move (.const (.int .i64 250)), none⟩])
 (.ret))
 (.skip)))
 (.seq (.seq (.region [⟨some 46, .move (.tmp 5), none⟩,
  ⟨some 47, .bin .gtr (.tmp 46) (.const (.int .i64 0)), none⟩])
 (.cond (.tmp 47) (.region [⟨some 48, .move (.tmp 4), none⟩,
  ⟨some 49, .buildSlice 5 1 1 [.int .u8 0] [(0, 1, .const (.int .u8 32))], none⟩,
  ⟨some 50, .append 5 1 1 (.tmp 48) (.tmp 49), none⟩,
  ⟨some 4, .move (.tmp 50), none⟩])
 (.skip)))
 (.seq (.seq (.region [⟨some 51, .move (.tmp 0), none⟩,
  ⟨some 52, .move (.tmp 5), none⟩,
  ⟨some 53, .idx 2 (.tmp 51) (.tmp 52), none⟩,
  ⟨some 54, .off 1 (.tmp 53), none⟩,
  ⟨some 55, .load false 1 (.tmp 54), none⟩])
 (.cond (.tmp 55) (.region [⟨some 56, .move (.tmp 4), none⟩,
  ⟨some 57, .buildSlice 5 1 1 [.int .u8 0] [(0, 1, .const (.int .u8 33))], none⟩,
  ⟨some 58, .append 5 1 1 (.tmp 56) (.tmp 57), none⟩,
  ⟨some 4, .move (.tmp 58), none⟩])
 (.skip)))
 (.seq (.region [⟨some 59, .move (.tmp 4), none⟩,
  ⟨some 60, .move (.tmp 0), none⟩,
  ⟨some 61, .move (.tmp 5), none⟩,
  ⟨some 62, .idx 2 (.tmp 60) (.tmp 61), none⟩,
  ⟨some 63, .off 0 (.tmp 62), none⟩,
  ⟨some 64, .load false 1 (.tmp 63), none⟩,
  ⟨some 65, .call 28 [.tmp 64], none⟩,
  ⟨some 66, .append 5 1 1 (.tmp 59) (.tmp 65), none⟩,
  ⟨some 4, .move (.tmp 66), none⟩])
 (.seq (.seq (.region [⟨some 67, .move (.tmp 6), none⟩,
  ⟨some 68, .move (.tmp 5), none⟩,
  ⟨some 69, .bin .add (.tmp 68) (.const (.int .i64 1)), none⟩,
  ⟨some 70, .bin .gtr (.tmp 67) (.tmp 69), none⟩])
 (.cond (.tmp 70) (.seq (.region [⟨some 71, .move (.tmp 4), none⟩,
  ⟨some 72, .buildSlice 5 1 1 [.int .u8 0] [(0, 1, .const (.int .u8 42))], none⟩,
  ⟨some 73, .append 5 1 1 (.tmp 71) (.tmp 72), none⟩,
  ⟨some 4, .move (.tmp 73), none⟩])
 (.region [⟨some 74, .move (.tmp 4), none⟩,
  ⟨some 75, .move (.tmp 6), none⟩,
  ⟨some 76, .move (.tmp 5), none⟩,
  ⟨some 77, .bin .sub (.tmp 75) (.tmp 76), none⟩,
  ⟨some 78, .call 28 [.tmp 77], none⟩,
  ⟨some 79, .append 5 1 1 (.tmp 74) (.tmp 78), none⟩,
  ⟨some 4, .move (.tmp 79), none⟩]))
 (.skip)))
 (.region [⟨some 80, .move (.tmp 6), none⟩,
  ⟨some 5, .move (.tmp 80), none⟩])))))))))
def L15 : LCode :=
 .seq (.region [⟨some 2, .move (.const (.string ByteArray.empty)), none⟩,
  ⟨some 3, .move (.const (.int .i64 0)), none⟩])
 (.seq (.seq (.region [⟨some 7, .move (.tmp 0), none⟩,
  ⟨some 8, .len (.tmp 7), none⟩,
  ⟨some 9, .bin .gtr (.tmp 8) (.const (.int .i64 40000)), none⟩])
 (.cond (.tmp 9) (.seq (.region [⟨some 2, .move (.const (.string ByteArray.empty)), none⟩,
  ⟨some 3, .move (.const (.int .i64 251)), none⟩])
 (.ret))
 (.skip)))
 (.seq (.region [⟨some 4, .move (.const (.slice none 0 0)), none⟩])
 (.seq (.seq (.region [⟨some 5, .move (.const (.int .i64 0)), none⟩])
 (.block 0 (.loop L15_2)))
 (.seq (.seq (.region [⟨some 81, .move (.tmp 4), none⟩,
  ⟨some 82, .len (.tmp 81), none⟩,
  ⟨some 83, .bin .gtr (.tmp 82) (.const (.int .i64 8192)), none⟩])
 (.cond (.tmp 83) (.seq (.region [⟨some 2, .move (.const (.string ByteArray.empty)), none⟩,
  ⟨some 3, .move (.const (.int .i64 30)), none⟩])
 (.ret))
 (.skip)))
 (.seq (.region [⟨some 84, .move (.tmp 4), none⟩,
  ⟨some 85, .toStr (.tmp 84), none⟩,
  ⟨some 2, .move (.tmp 85), none⟩,
  ⟨some 3, .move (.const (.int .i64 0)), none⟩])
 (.ret))))))
theorem light15 : Light Try.prog 15 1 86 L15 [.tmp 2, .tmp 3] :=
  ⟨Try.f15, _, Try.func15, rfl, rfl, by kernel_rfl, by kernel_rfl, by decide⟩

/-! ### function 16: outrider/outriderref25.Text -/
def L16_1 : LCode :=
 .seq (.seq (.region [⟨some 10, .move (.tmp 6), none⟩,
  ⟨some 11, .move (.tmp 0), none⟩,
  ⟨some 12, .len (.tmp 11), none⟩,
  ⟨some 13, .bin .lss (.tmp 10) (.tmp 12), none⟩])
 (.cond (.tmp 13) (.skip)
 (.exit 0)))
 (.seq (.block 1 (.seq (.seq (.region [⟨some 16, .move (.tmp 0), none⟩,
  ⟨some 17, .move (.tmp 6), none⟩,
  ⟨some 18, .idx 2 (.tmp 16) (.tmp 17), none⟩,
  ⟨some 19, .off 0 (.tmp 18), none⟩,
  ⟨some 20, .load false 1 (.tmp 19), none⟩,
  ⟨some 21, .bin .lss (.tmp 20) (.const (.int .i64 0)), none⟩,
  ⟨some 22, .move (.tmp 21), none⟩,
  ⟨some 23, .move (.tmp 0), (some (22, false))⟩,
  ⟨some 24, .move (.tmp 6), (some (22, false))⟩,
  ⟨some 25, .idx 2 (.tmp 23) (.tmp 24), (some (22, false))⟩,
  ⟨some 26, .off 0 (.tmp 25), (some (22, false))⟩,
  ⟨some 27, .load false 1 (.tmp 26), (some (22, false))⟩,
  ⟨some 28, .bin .gtr (.tmp 27) (.const (.int .i64 2147483647)), (some (22, false))⟩,
  ⟨some 29, .pick (.tmp 22) (.const (.bool true)) (.tmp 28), none⟩])
 (.cond (.tmp 29) (.seq (.region [⟨some 2, .move (.const (.string ByteArray.empty)), none⟩,
  ⟨some 3, .move (.const (.int .i64 250)), none⟩])
 (.ret))
 (.skip)))
 (.seq (.region [⟨some 30, .move (.tmp 5), none⟩,
  ⟨some 31, .bin .add (.tmp 30) (.const (.int .i64 1)), none⟩,
  ⟨some 5, .move (.tmp 31), none⟩])
 (.seq (.seq (.draw [⟨⟨some 32, .move (.tmp 6), none⟩, .pure, 0, 0⟩,
  ⟨⟨some 33, .bin .add (.tmp 32) (.const (.int .i64 1)), none⟩, .pure, 0, 0⟩,
  ⟨⟨some 34, .move (.tmp 0), none⟩, .pure, 0, 0⟩,
  ⟨⟨some 35, .len (.tmp 34), none⟩, .pure, 0, 0⟩,
  ⟨⟨some 36, .bin .lss (.tmp 33) (.tmp 35), none⟩, .pure, 0, 0⟩,
  ⟨⟨some 37, .move (.tmp 36), none⟩, .pure, 0, 0⟩,
  ⟨⟨some 38, .move (.tmp 0), (some (37, true))⟩, .pure, 0, 0⟩,
  ⟨⟨some 39, .move (.tmp 6), (some (37, true))⟩, .pure, 0, 0⟩,
  ⟨⟨some 40, .bin .add (.tmp 39) (.const (.int .i64 1)), (some (37, true))⟩, .pure, 0, 0⟩,
  ⟨⟨some 41, .idx 2 (.tmp 38) (.tmp 40), (some (37, true))⟩, .pure, 0, 0⟩,
  ⟨⟨some 42, .load true 2 (.tmp 41), (some (37, true))⟩, .read, 0, 0⟩,
  ⟨⟨some 43, .move (.tmp 0), (some (37, true))⟩, .pure, 0, 0⟩,
  ⟨⟨some 44, .move (.tmp 6), (some (37, true))⟩, .pure, 0, 0⟩,
  ⟨⟨some 45, .idx 2 (.tmp 43) (.tmp 44), (some (37, true))⟩, .pure, 0, 0⟩,
  ⟨⟨some 46, .load true 2 (.tmp 45), (some (37, true))⟩, .read, 0, 0⟩,
  ⟨⟨some 47, .eqR false 36 (.tmp 42) (.tmp 46), (some (37, true))⟩, .pure, 0, 0⟩,
  ⟨⟨some 48, .pick (.tmp 37) (.tmp 47) (.const (.bool false)), none⟩, .pure, 0, 0⟩])
 (.cond (.tmp 48) (.exit 1)
 (.skip)))
 (.seq (.seq (.region [⟨some 49, .move (.tmp 4), none⟩,
  ⟨some 50, .len (.tmp 49), none⟩,
  ⟨some 51, .bin .gtr (.tmp 50) (.const (.int .i64 0)), none⟩])
 (.cond (.tmp 51) (.region [⟨some 52, .move (.tmp 4), none⟩,
  ⟨some 53, .buildSlice 5 1 1 [.int .u8 0] [(0, 1, .const (.int .u8 32))], none⟩,
  ⟨some 54, .append 5 1 1 (.tmp 52) (.tmp 53), none⟩,
  ⟨some 4, .move (.tmp 54), none⟩])
 (.skip)))
 (.seq (.seq (.region [⟨some 55, .move (.tmp 0), none⟩,
  ⟨some 56, .move (.tmp 6), none⟩,
  ⟨some 57, .idx 2 (.tmp 55) (.tmp 56), none⟩,
  ⟨some 58, .off 1 (.tmp 57), none⟩,
  ⟨some 59, .load false 1 (.tmp 58), none⟩])
 (.cond (.tmp 59) (.region [⟨some 60, .move (.tmp 4), none⟩,
  ⟨some 61, .buildSlice 5 1 1 [.int .u8 0] [(0, 1, .const (.int .u8 33))], none⟩,
  ⟨some 62, .append 5 1 1 (.tmp 60) (.tmp 61), none⟩,
  ⟨some 4, .move (.tmp 62), none⟩])
 (.skip)))
 (.seq (.region [⟨some 63, .move (.tmp 4), none⟩,
  ⟨some 64, .move (.tmp 0), none⟩,
  ⟨some 65, .move (.tmp 6), none⟩,
  ⟨some 66, .idx 2 (.tmp 64) (.tmp 65), none⟩,
  ⟨some 67, .off 0 (.tmp 66), none⟩,
  ⟨some 68, .load false 1 (.tmp 67), none⟩,
  ⟨some 69, .call 29 [.tmp 68], none⟩,
  ⟨some 70, .append 5 1 1 (.tmp 63) (.tmp 69), none⟩,
  ⟨some 4, .move (.tmp 70), none⟩])
 (.seq (.seq (.region [⟨some 71, .move (.tmp 5), none⟩,
  ⟨some 72, .bin .gtr (.tmp 71) (.const (.int .i64 1)), none⟩])
 (.cond (.tmp 72) (.seq (.region [⟨some 73, .move (.tmp 4), none⟩,
  ⟨some 74, .buildSlice 5 1 1 [.int .u8 0] [(0, 1, .const (.int .u8 42))], none⟩,
  ⟨some 75, .append 5 1 1 (.tmp 73) (.tmp 74), none⟩,
  ⟨some 4, .move (.tmp 75), none⟩])
 (.region [⟨some 76, .move (.tmp 4), none⟩,
  ⟨some 77, .move (.tmp 5), none⟩,
  ⟨some 78, .call 29 [.tmp 77], none⟩,
  ⟨some 79, .append 5 1 1 (.tmp 76) (.tmp 78), none⟩,
  ⟨some 4, .move (.tmp 79), none⟩]))
 (.skip)))
 (.region [⟨some 5, .move (.const (.int .i64 0)), none⟩])))))))))
 (.region [⟨some 14, .move (.tmp 6), none⟩,
  ⟨some 15, .bin .add (.tmp 14) (.const (.int .i64 1)), none⟩,
  ⟨some 6, .move (.tmp 15), none⟩]))
def L16 : LCode :=
 .seq (.region [⟨some 2, .move (.const (.string ByteArray.empty)), none⟩,
  ⟨some 3, .move (.const (.int .i64 0)), none⟩])
 (.seq (.seq (.region [⟨some 7, .move (.tmp 0), none⟩,
  ⟨some 8, .len (.tmp 7), none⟩,
  ⟨some 9, .bin .gtr (.tmp 8) (.const (.int .i64 40000)), none⟩])
 (.cond (.tmp 9) (.seq (.region [⟨some 2, .move (.const (.string ByteArray.empty)), none⟩,
  ⟨some 3, .move (.const (.int .i64 251)), none⟩])
 (.ret))
 (.skip)))
 (.seq (.region [⟨some 4, .move (.const (.slice none 0 0)), none⟩])
 (.seq (.region [⟨some 5, .move (.const (.int .i64 0)), none⟩])
 (.seq (.seq (.region [⟨some 6, .move (.const (.int .i64 0)), none⟩])
 (.block 0 (.loop L16_1)))
 (.seq (.seq (.region [⟨some 80, .move (.tmp 4), none⟩,
  ⟨some 81, .len (.tmp 80), none⟩,
  ⟨some 82, .bin .gtr (.tmp 81) (.const (.int .i64 8192)), none⟩])
 (.cond (.tmp 82) (.seq (.region [⟨some 2, .move (.const (.string ByteArray.empty)), none⟩,
  ⟨some 3, .move (.const (.int .i64 30)), none⟩])
 (.ret))
 (.skip)))
 (.seq (.region [⟨some 83, .move (.tmp 4), none⟩,
  ⟨some 84, .toStr (.tmp 83), none⟩,
  ⟨some 2, .move (.tmp 84), none⟩,
  ⟨some 3, .move (.const (.int .i64 0)), none⟩])
 (.ret)))))))
theorem light16 : Light Try.prog 16 1 85 L16 [.tmp 2, .tmp 3] :=
  ⟨Try.f16, _, Try.func16, rfl, rfl, by kernel_rfl, by kernel_rfl, by decide⟩

/-! ### function 22: outrider/script.Parse$1 -/
def L22r : LCode :=
 .seq (.region [⟨some 7, .move (.tmp 3), none⟩,
  ⟨some 8, .isNil true (.interface #[]) (.tmp 7), none⟩])
 (.cond (.tmp 8) (.seq (.region [⟨some 10, .move (.tmp 3), none⟩,
  ⟨some 11, .assert 63 (.agg #[.int .i64 0, .int .i64 0]) true (.tmp 10), none⟩,
  ⟨some 9, .move (.tmp 11), none⟩,
  ⟨some 12, .extract (.tmp 9) 0, none⟩,
  ⟨some 13, .extract (.tmp 9) 1, none⟩,
  ⟨some 4, .new 63 2 [.int .i64 0, .int .i64 0], none⟩,
  ⟨none, .store 2 (.tmp 4) (.tmp 12), none⟩,
  ⟨some 5, .move (.tmp 13), none⟩])
 (.draw [⟨⟨some 14, .off 1 (.tmp 4), none⟩, .pure, 0, 1⟩,
  ⟨⟨some 15, .load false 1 (.tmp 14), none⟩, .read, 0, 1⟩,
  ⟨⟨some 16, .off 0 (.tmp 4), none⟩, .pure, 0, 2⟩,
  ⟨⟨some 17, .load false 1 (.tmp 16), none⟩, .read, 0, 2⟩,
  ⟨⟨none, .store 1 (.tmp 0) (.const (.slice none 0 0)), none⟩, .heavy, 0, 1⟩,
  ⟨⟨none, .store 1 (.tmp 1) (.tmp 15), none⟩, .heavy, 1, 2⟩,
  ⟨⟨none, .store 1 (.tmp 2) (.tmp 17), none⟩, .heavy, 2, 3⟩]))
 (.skip))
theorem rec22 : RecS Try.prog 22 3 18 6 3 L22r :=
  ⟨Try.f22, _, _, _, _, _, Try.func22, rfl, rfl, rfl, rfl, rfl, rfl, rfl, rfl, rfl, rfl, rfl, by decide, by decide, by kernel_rfl⟩

/-! ### function 23: (*outrider/script.reader).items -/
def L23_1 : LCode :=
 .block 1 (.seq (.region [⟨some 6, .move (.tmp 0), none⟩,
  ⟨some 7, .call 39 [.tmp 6], none⟩,
  ⟨some 4, .move (.tmp 7), none⟩])
 (.seq (.region [⟨some 5, .move (.const (.slice none 0 0)), none⟩])
 (.seq (.block 2 (.seq (.region [⟨some 10, .move (.tmp 4), none⟩,
  ⟨some 11, .bin .eql (.tmp 10) (.const (.int .u8 40)), none⟩,
  ⟨some 9, .move (.tmp 11), none⟩])
 (.cond (.tmp 9) (.region [⟨some 12, .move (.tmp 0), none⟩,
  ⟨some 13, .call 40 [.tmp 12], none⟩,
  ⟨some 5, .move (.tmp 13), none⟩])
 (.seq (.region [⟨some 15, .move (.tmp 4), none⟩,
  ⟨some 16, .bin .eql (.tmp 15) (.const (.int .u8 33)), none⟩,
  ⟨some 14, .move (.tmp 16), none⟩])
 (.cond (.tmp 14) (.seq (.region [⟨some 17, .move (.tmp 0), none⟩,
  ⟨some 18, .nilCheck (.tmp 17), none⟩,
  ⟨some 19, .off 1 (.tmp 18), none⟩,
  ⟨some 20, .load false 1 (.tmp 19), none⟩,
  ⟨some 21, .bin .add (.tmp 20) (.const (.int .i64 1)), none⟩,
  ⟨some 22, .nilCheck (.tmp 17), none⟩,
  ⟨some 23, .off 1 (.tmp 22), none⟩,
  ⟨none, .store 1 (.tmp 23) (.tmp 21), none⟩])
 (.region [⟨some 24, .move (.tmp 0), none⟩,
  ⟨some 25, .call 41 [.tmp 24], none⟩,
  ⟨some 26, .build [.int .i64 0, .bool false] [(0, 1, .tmp 25), (1, 1, .const (.bool true))], none⟩,
  ⟨some 27, .buildSlice 36 2 1 [.int .i64 0, .bool false] [(0, 2, .tmp 26)], none⟩,
  ⟨some 5, .move (.tmp 27), none⟩]))
 (.seq (.region [⟨some 29, .move (.tmp 4), none⟩,
  ⟨some 30, .bin .geq (.tmp 29) (.const (.int .u8 48)), none⟩,
  ⟨some 31, .move (.tmp 30), none⟩,
  ⟨some 32, .move (.tmp 4), (some (31, true))⟩,
  ⟨some 33, .bin .leq (.tmp 32) (.const (.int .u8 57)), (some (31, true))⟩,
  ⟨some 34, .pick (.tmp 31) (.tmp 33) (.const (.bool false)), none⟩,
  ⟨some 28, .move (.tmp 34), none⟩])
 (.cond (.tmp 28) (.region [⟨some 35, .move (.tmp 0), none⟩,
  ⟨some 36, .call 41 [.tmp 35], none⟩,
  ⟨some 37, .build [.int .i64 0, .bool false] [(0, 1, .tmp 36)], none⟩,
  ⟨some 38, .buildSlice 36 2 1 [.int .i64 0, .bool false] [(0, 2, .tmp 37)], none⟩,
  ⟨some 5, .move (.tmp 38), none⟩])
 (.seq (.region [⟨some 8, .move (.tmp 3), none⟩,
  ⟨some 2, .move (.tmp 8), none⟩])
 (.ret)))))))))
 (.region [⟨some 39, .move (.tmp 0), none⟩,
  ⟨some 40, .move (.tmp 3), none⟩,
  ⟨some 41, .move (.tmp 5), none⟩,
  ⟨some 42, .call 42 [.tmp 39, .tmp 40, .tmp 41], none⟩,
  ⟨some 3, .move (.tmp 42), none⟩]))))
def L23 : LCode :=
 .seq (.region [⟨some 2, .move (.const (.slice none 0 0)), none⟩])
 (.seq (.region [⟨some 3, .move (.const (.slice none 0 0)), none⟩])
 (.block 0 (.loop L23_1)))
theorem light23 : Light Try.prog 23 1 43 L23 [.tmp 2] :=
  ⟨Try.f23, _, Try.func23, rfl, rfl, by kernel_rfl, by kernel_rfl, by decide⟩

/-! ### function 24: (*outrider/script.reader).give -/
def L24 : LCode :=
 .region [⟨some 4, .move (.tmp 1), none⟩,
  ⟨some 5, .move (.tmp 0), none⟩,
  ⟨some 6, .nilCheck (.tmp 5), none⟩,
  ⟨some 7, .off 1 (.tmp 6), none⟩,
  ⟨some 8, .load false 1 (.tmp 7), none⟩,
  ⟨some 9, .build [.int .i64 0, .int .i64 0] [(0, 1, .tmp 4), (1, 1, .tmp 8)], none⟩,
  ⟨some 10, .iface 63 (.tmp 9), none⟩,
  ⟨none, .panic (.tmp 10), none⟩]
theorem light24 : Light Try.prog 24 2 11 L24 [] :=
  ⟨Try.f24, _, Try.func24, rfl, rfl, by kernel_rfl, by kernel_rfl, by decide⟩

/-! ### function 25: outrider/outriderref25.items -/
def L25_1 : LCode :=
 .seq (.seq (.region [⟨some 9, .off 2 (.tmp 2), none⟩,
  ⟨some 10, .load false 1 (.tmp 9), none⟩,
  ⟨some 11, .bin .eql (.tmp 10) (.const (.int .i64 0)), none⟩])
 (.cond (.tmp 11) (.skip)
 (.exit 0)))
 (.block 1 (.seq (.region [⟨some 12, .load true 4 (.tmp 2), none⟩,
  ⟨some 13, .call 43 [.tmp 12], none⟩,
  ⟨none, .store 4 (.tmp 2) (.tmp 13), none⟩])
 (.seq (.region [⟨some 7, .move (.const (.slice none 0 0)), none⟩])
 (.seq (.region [⟨some 8, .move (.const (.int .i64 0)), none⟩])
 (.seq (.block 2 (.seq (.region [⟨some 17, .load true 4 (.tmp 2), none⟩,
  ⟨some 18, .call 44 [.tmp 17, .const (.int .u8 33)], none⟩,
  ⟨some 16, .move (.tmp 18), none⟩])
 (.cond (.tmp 16) (.seq (.region [⟨some 19, .off 1 (.tmp 2), none⟩,
  ⟨some 20, .load false 1 (.tmp 19), none⟩,
  ⟨some 21, .bin .add (.tmp 20) (.const (.int .i64 1)), none⟩,
  ⟨some 22, .off 1 (.tmp 2), none⟩,
  ⟨none, .store 1 (.tmp 22) (.tmp 21), none⟩])
 (.seq (.region [⟨some 24, .load true 4 (.tmp 2), none⟩,
  ⟨some 25, .call 45 [.tmp 24], none⟩,
  ⟨some 23, .move (.tmp 25), none⟩,
  ⟨some 26, .extract (.tmp 23) 0, none⟩,
  ⟨some 27, .extract (.tmp 23) 1, none⟩,
  ⟨none, .store 4 (.tmp 2) (.tmp 26), none⟩,
  ⟨some 8, .move (.tmp 27), none⟩])
 (.region [⟨some 28, .move (.tmp 8), none⟩,
  ⟨some 29, .build [.int .i64 0, .bool false] [(0, 1, .tmp 28), (1, 1, .const (.bool true))], none⟩,
  ⟨some 30, .buildSlice 36 2 1 [.int .i64 0, .bool false] [(0, 2, .tmp 29)], none⟩,
  ⟨some 7, .move (.tmp 30), none⟩])))
 (.seq (.region [⟨some 32, .load true 4 (.tmp 2), none⟩,
  ⟨some 33, .call 44 [.tmp 32, .const (.int .u8 40)], none⟩,
  ⟨some 31, .move (.tmp 33), none⟩])
 (.cond (.tmp 31) (.seq (.seq (.region [⟨some 34, .move (.tmp 1), none⟩,
  ⟨some 35, .bin .eql (.tmp 34) (.const (.int .i64 8)), none⟩])
 (.cond (.tmp 35) (.seq (.region [⟨some 36, .load true 4 (.tmp 2), none⟩,
  ⟨some 37, .off 1 (.tmp 2), none⟩,
  ⟨some 38, .load false 1 (.tmp 37), none⟩,
  ⟨some 39, .call 26 [.tmp 36, .const (.int .i64 250), .tmp 38], none⟩,
  ⟨none, .store 4 (.tmp 4) (.tmp 39), none⟩,
  ⟨some 5, .move (.const (.slice none 0 0)), none⟩])
 (.ret))
 (.skip)))
 (.seq (.region [⟨some 40, .off 1 (.tmp 2), none⟩,
  ⟨some 41, .load false 1 (.tmp 40), none⟩,
  ⟨some 42, .bin .add (.tmp 41) (.const (.int .i64 1)), none⟩,
  ⟨some 43, .off 1 (.tmp 2), none⟩,
  ⟨none, .store 1 (.tmp 43) (.tmp 42), none⟩])
 (.seq (.region [⟨some 45, .load true 4 (.tmp 2), none⟩,
  ⟨some 46, .move (.tmp 1), none⟩,
  ⟨some 47, .bin .add (.tmp 46) (.const (.int .i64 1)), none⟩,
  ⟨some 48, .call 25 [.tmp 45, .tmp 47], none⟩,
  ⟨some 44, .move (.tmp 48), none⟩,
  ⟨some 49, .extract (.tmp 44) 0, none⟩,
  ⟨some 50, .extract (.tmp 44) 1, none⟩,
  ⟨none, .store 4 (.tmp 2) (.tmp 49), none⟩,
  ⟨some 7, .move (.tmp 50), none⟩])
 (.seq (.seq (.region [⟨some 51, .off 2 (.tmp 2), none⟩,
  ⟨some 52, .load false 1 (.tmp 51), none⟩,
  ⟨some 53, .bin .eql (.tmp 52) (.const (.int .i64 0)), none⟩,
  ⟨some 54, .move (.tmp 53), none⟩,
  ⟨some 55, .load true 4 (.tmp 2), (some (54, true))⟩,
  ⟨some 56, .call 44 [.tmp 55, .const (.int .u8 41)], (some (54, true))⟩,
  ⟨some 57, .un .not (.tmp 56), (some (54, true))⟩,
  ⟨some 58, .pick (.tmp 54) (.tmp 57) (.const (.bool false)), none⟩])
 (.cond (.tmp 58) (.region [⟨some 59, .load true 4 (.tmp 2), none⟩,
  ⟨some 60, .off 1 (.tmp 2), none⟩,
  ⟨some 61, .load false 1 (.tmp 60), none⟩,
  ⟨some 62, .call 26 [.tmp 59, .const (.int .i64 250), .tmp 61], none⟩,
  ⟨none, .store 4 (.tmp 2) (.tmp 62), none⟩])
 (.skip)))
 (.region [⟨some 63, .off 1 (.tmp 2), none⟩,
  ⟨some 64, .load false 1 (.tmp 63), none⟩,
  ⟨some 65, .bin .add (.tmp 64) (.const (.int .i64 1)), none⟩,
  ⟨some 66, .off 1 (.tmp 2), none⟩,
  ⟨none, .store 1 (.tmp 66) (.tmp 65), none⟩])))))
 (.seq (.region [⟨some 68, .off 1 (.tmp 2), none⟩,
  ⟨some 69, .load false 1 (.tmp 68), none⟩,
  ⟨some 70, .off 0 (.tmp 2), none⟩,
  ⟨some 71, .load false 1 (.tmp 70), none⟩,
  ⟨some 72, .lenS (.tmp 71), none⟩,
  ⟨some 73, .bin .lss (.tmp 69) (.tmp 72), none⟩,
  ⟨some 74, .move (.tmp 73), none⟩,
  ⟨some 75, .off 0 (.tmp 2), (some (74, true))⟩,
  ⟨some 76, .load false 1 (.tmp 75), (some (74, true))⟩,
  ⟨some 77, .off 1 (.tmp 2), (some (74, true))⟩,
  ⟨some 78, .load false 1 (.tmp 77), (some (74, true))⟩,
  ⟨some 79, .idxStr (.tmp 76) (.tmp 78), (some (74, true))⟩,
  ⟨some 80, .bin .geq (.tmp 79) (.const (.int .u8 48)), (some (74, true))⟩,
  ⟨some 81, .pick (.tmp 74) (.tmp 80) (.const (.bool false)), none⟩,
  ⟨some 82, .move (.tmp 81), none⟩,
  ⟨some 83, .off 0 (.tmp 2), (some (82, true))⟩,
  ⟨some 84, .load false 1 (.tmp 83), (some (82, true))⟩,
  ⟨some 85, .off 1 (.tmp 2), (some (82, true))⟩,
  ⟨some 86, .load false 1 (.tmp 85), (some (82, true))⟩,
  ⟨some 87, .idxStr (.tmp 84) (.tmp 86), (some (82, true))⟩,
  ⟨some 88, .bin .leq (.tmp 87) (.const (.int .u8 57)), (some (82, true))⟩,
  ⟨some 89, .pick (.tmp 82) (.tmp 88) (.const (.bool false)), none⟩,
  ⟨some 67, .move (.tmp 89), none⟩])
 (.cond (.tmp 67) (.seq (.region [⟨some 91, .load true 4 (.tmp 2), none⟩,
  ⟨some 92, .call 45 [.tmp 91], none⟩,
  ⟨some 90, .move (.tmp 92), none⟩,
  ⟨some 93, .extract (.tmp 90) 0, none⟩,
  ⟨some 94, .extract (.tmp 90) 1, none⟩,
  ⟨none, .store 4 (.tmp 2) (.tmp 93), none⟩,
  ⟨some 8, .move (.tmp 94), none⟩])
 (.region [⟨some 95, .move (.tmp 8), none⟩,
  ⟨some 96, .build [.int .i64 0, .bool false] [(0, 1, .tmp 95)], none⟩,
  ⟨some 97, .buildSlice 36 2 1 [.int .i64 0, .bool false] [(0, 2, .tmp 96)], none⟩,
  ⟨some 7, .move (.tmp 97), none⟩]))
 (.seq (.region [⟨some 14, .load true 4 (.tmp 2), none⟩,
  ⟨some 15, .move (.tmp 6), none⟩,
  ⟨none, .store 4 (.tmp 4) (.tmp 14), none⟩,
  ⟨some 5, .move (.tmp 15), none⟩])
 (.ret)))))))))
 (.seq (.seq (.region [⟨some 98, .off 2 (.tmp 2), none⟩,
  ⟨some 99, .load false 1 (.tmp 98), none⟩,
  ⟨some 100, .bin .neq (.tmp 99) (.const (.int .i64 0)), none⟩])
 (.cond (.tmp 100) (.seq (.region [⟨some 101, .load true 4 (.tmp 2), none⟩,
  ⟨none, .store 4 (.tmp 4) (.tmp 101), none⟩,
  ⟨some 5, .move (.const (.slice none 0 0)), none⟩])
 (.ret))
 (.skip)))
 (.region [⟨some 103, .load true 4 (.tmp 2), none⟩,
  ⟨some 104, .move (.tmp 6), none⟩,
  ⟨some 105, .move (.tmp 7), none⟩,
  ⟨some 106, .call 46 [.tmp 103, .tmp 104, .tmp 105], none⟩,
  ⟨some 102, .move (.tmp 106), none⟩,
  ⟨some 107, .extract (.tmp 102) 0, none⟩,
  ⟨some 108, .extract (.tmp 102) 1, none⟩,
  ⟨none, .store 4 (.tmp 2) (.tmp 107), none⟩,
  ⟨some 6, .move (.tmp 108), none⟩])))))))
def L25 : LCode :=
 .seq (.region [⟨some 2, .box 71 4 (.tmp 0), none⟩,
  ⟨some 4, .new 71 4 [.string ByteArray.empty, .int .i64 0, .int .i64 0, .int .i64 0], none⟩,
  ⟨some 5, .move (.const (.slice none 0 0)), none⟩])
 (.seq (.region [⟨some 6, .move (.const (.slice none 0 0)), none⟩])
 (.seq (.block 0 (.loop L25_1))
 (.seq (.region [⟨some 109, .load true 4 (.tmp 2), none⟩,
  ⟨some 110, .move (.tmp 6), none⟩,
  ⟨none, .store 4 (.tmp 4) (.tmp 109), none⟩,
  ⟨some 5, .move (.tmp 110), none⟩])
 (.ret))))
theorem light25 : Light Try.prog 25 2 111 L25 [.cell 4 true 4, .tmp 5] :=
  ⟨Try.f25, _, Try.func25, rfl, rfl, by kernel_rfl, by kernel_rfl, by decide⟩

/-! ### function 26: outrider/outriderref25.fail -/
def L26 : LCode :=
 .seq (.region [⟨some 3, .box 71 4 (.tmp 0), none⟩,
  ⟨some 6, .new 71 4 [.string ByteArray.empty, .int .i64 0, .int .i64 0, .int .i64 0], none⟩])
 (.seq (.seq (.region [⟨some 7, .off 2 (.tmp 3), none⟩,
  ⟨some 8, .load false 1 (.tmp 7), none⟩,
  ⟨some 9, .bin .eql (.tmp 8) (.const (.int .i64 0)), none⟩])
 (.cond (.tmp 9) (.region [⟨some 10, .move (.tmp 1), none⟩,
  ⟨some 11, .move (.tmp 2), none⟩,
  ⟨some 12, .off 2 (.tmp 3), none⟩,
  ⟨none, .store 1 (.tmp 12) (.tmp 10), none⟩,
  ⟨some 13, .off 3 (.tmp 3), none⟩,
  ⟨none, .store 1 (.tmp 13) (.tmp 11), none⟩])
 (.skip)))
 (.seq (.region [⟨some 14, .load true 4 (.tmp 3), none⟩,
  ⟨none, .store 4 (.tmp 6) (.tmp 14), none⟩])
 (.ret)))
theorem light26 : Light Try.prog 26 3 15 L26 [.cell 6 true 4] :=
  ⟨Try.f26, _, Try.func26, rfl, rfl, by kernel_rfl, by kernel_rfl, by decide⟩

/-! ### function 27: outrider/outriderref25.picked -/
def L27_1 : LCode :=
 .seq (.seq (.region [⟨some 6, .move (.tmp 5), none⟩,
  ⟨some 7, .move (.tmp 0), none⟩,
  ⟨some 8, .len (.tmp 7), none⟩,
  ⟨some 9, .bin .lss (.tmp 6) (.tmp 8), none⟩])
 (.cond (.tmp 9) (.skip)
 (.exit 0)))
 (.seq (.block 1 (.seq (.region [⟨some 12, .move (.tmp 0), none⟩,
  ⟨some 13, .move (.tmp 5), none⟩,
  ⟨some 14, .idx 2 (.tmp 12) (.tmp 13), none⟩,
  ⟨some 15, .off 0 (.tmp 14), none⟩,
  ⟨some 16, .load false 1 (.tmp 15), none⟩,
  ⟨some 17, .move (.tmp 1), none⟩,
  ⟨some 18, .bin .eql (.tmp 16) (.tmp 17), none⟩,
  ⟨some 19, .move (.tmp 18), none⟩,
  ⟨some 20, .move (.tmp 0), (some (19, true))⟩,
  ⟨some 21, .move (.tmp 5), (some (19, true))⟩,
  ⟨some 22, .idx 2 (.tmp 20) (.tmp 21), (some (19, true))⟩,
  ⟨some 23, .off 1 (.tmp 22), (some (19, true))⟩,
  ⟨some 24, .load false 1 (.tmp 23), (some (19, true))⟩,
  ⟨some 25, .un .not (.tmp 24), (some (19, true))⟩,
  ⟨some 26, .pick (.tmp 19) (.tmp 25) (.const (.bool false)), none⟩])
 (.cond (.tmp 26) (.seq (.region [⟨some 4, .move (.const (.bool true)), none⟩])
 (.ret))
 (.skip))))
 (.region [⟨some 10, .move (.tmp 5), none⟩,
  ⟨some 11, .bin .add (.tmp 10) (.const (.int .i64 1)), none⟩,
  ⟨some 5, .move (.tmp 11), none⟩]))
def L27 : LCode :=
 .seq (.region [⟨some 4, .move (.const (.bool false)), none⟩])
 (.seq (.seq (.region [⟨some 5, .move (.const (.int .i64 0)), none⟩])
 (.block 0 (.loop L27_1)))
 (.seq (.region [⟨some 4, .move (.const (.bool false)), none⟩])
 (.ret)))
theorem light27 : Light Try.prog 27 2 27 L27 [.tmp 4] :=
  ⟨Try.f27, _, Try.func27, rfl, rfl, by kernel_rfl, by kernel_rfl, by decide⟩

/-! ### function 28: outrider/num.Text -/
def L28_1 : LCode :=
 .block 1 (.seq (.region [⟨some 8, .move (.tmp 4), none⟩,
  ⟨some 9, .bin .sub (.tmp 8) (.const (.int .i64 1)), none⟩,
  ⟨some 4, .move (.tmp 9), none⟩])
 (.seq (.region [⟨some 10, .move (.tmp 4), none⟩,
  ⟨some 11, .move (.tmp 5), none⟩,
  ⟨some 12, .bin .rem (.tmp 11) (.const (.int .u64 10)), none⟩,
  ⟨some 13, .bin .add (.const (.int .u64 48)) (.tmp 12), none⟩,
  ⟨some 14, .conv .u8 (.tmp 13), none⟩,
  ⟨some 15, .idxArr 20 1 (.tmp 3) (.tmp 10), none⟩,
  ⟨none, .store 1 (.tmp 15) (.tmp 14), none⟩])
 (.seq (.region [⟨some 16, .move (.tmp 5), none⟩,
  ⟨some 17, .bin .quo (.tmp 16) (.const (.int .u64 10)), none⟩,
  ⟨some 5, .move (.tmp 17), none⟩])
 (.seq (.region [⟨some 18, .move (.tmp 5), none⟩,
  ⟨some 19, .bin .eql (.tmp 18) (.const (.int .u64 0)), none⟩])
 (.cond (.tmp 19) (.exit 0)
 (.skip))))))
def L28 : LCode :=
 .seq (.region [⟨some 2, .move (.const (.string ByteArray.empty)), none⟩])
 (.seq (.region [⟨some 3, .new 98 20 [.int .u8 0, .int .u8 0, .int .u8 0, .int .u8 0, .int .u8 0, .int .u8 0, .int .u8 0, .int .u8 0, .int .u8 0, .int .u8 0, .int .u8 0, .int .u8 0, .int .u8 0, .int .u8 0, .int .u8 0, .int .u8 0, .int .u8 0, .int .u8 0, .int .u8 0, .int .u8 0], none⟩])
 (.seq (.region [⟨some 4, .move (.const (.int .i64 20)), none⟩])
 (.seq (.region [⟨some 6, .move (.tmp 0), none⟩,
  ⟨some 7, .call 47 [.tmp 6], none⟩,
  ⟨some 5, .move (.tmp 7), none⟩])
 (.seq (.block 0 (.loop L28_1))
 (.seq (.seq (.region [⟨some 20, .move (.tmp 0), none⟩,
  ⟨some 21, .bin .lss (.tmp 20) (.const (.int .i64 0)), none⟩])
 (.cond (.tmp 21) (.seq (.region [⟨some 22, .move (.tmp 4), none⟩,
  ⟨some 23, .bin .sub (.tmp 22) (.const (.int .i64 1)), none⟩,
  ⟨some 4, .move (.tmp 23), none⟩])
 (.region [⟨some 24, .move (.tmp 4), none⟩,
  ⟨some 25, .idxArr 20 1 (.tmp 3) (.tmp 24), none⟩,
  ⟨none, .store 1 (.tmp 25) (.const (.int .u8 45)), none⟩]))
 (.skip)))
 (.seq (.region [⟨some 26, .move (.tmp 4), none⟩,
  ⟨some 27, .sliceArr 20 1 (.tmp 3) (some (.tmp 26)) none none, none⟩,
  ⟨some 28, .toStr (.tmp 27), none⟩,
  ⟨some 2, .move (.tmp 28), none⟩])
 (.ret)))))))
theorem light28 : Light Try.prog 28 1 29 L28 [.tmp 2] :=
  ⟨Try.f28, _, Try.func28, rfl, rfl, by kernel_rfl, by kernel_rfl, by decide⟩

/-! ### function 29: outrider/outriderref01.Text -/
def L29_1 : LCode :=
 .seq (.seq (.region [⟨some 9, .move (.tmp 3), none⟩,
  ⟨some 10, .bin .gtr (.tmp 9) (.const (.int .u64 0)), none⟩,
  ⟨some 11, .move (.tmp 10), none⟩,
  ⟨some 12, .move (.tmp 4), (some (11, false))⟩,
  ⟨some 13, .bin .eql (.tmp 12) (.const (.string ByteArray.empty)), (some (11, false))⟩,
  ⟨some 14, .pick (.tmp 11) (.const (.bool true)) (.tmp 13), none⟩])
 (.cond (.tmp 14) (.skip)
 (.exit 0)))
 (.block 1 (.seq (.region [⟨some 16, .move (.tmp 3), none⟩,
  ⟨some 17, .call 49 [.tmp 16, .const (.int .u64 10)], none⟩,
  ⟨some 15, .move (.tmp 17), none⟩,
  ⟨some 18, .extract (.tmp 15) 0, none⟩,
  ⟨some 19, .extract (.tmp 15) 1, none⟩,
  ⟨some 5, .move (.tmp 18), none⟩,
  ⟨some 6, .move (.tmp 19), none⟩])
 (.seq (.region [⟨some 20, .move (.tmp 6), none⟩,
  ⟨some 21, .bin .add (.const (.int .u64 48)) (.tmp 20), none⟩,
  ⟨some 22, .conv .u8 (.tmp 21), none⟩,
  ⟨some 23, .buildSlice 5 1 1 [.int .u8 0] [(0, 1, .tmp 22)], none⟩,
  ⟨some 24, .toStr (.tmp 23), none⟩,
  ⟨some 25, .move (.tmp 4), none⟩,
  ⟨some 26, .bin .add (.tmp 24) (.tmp 25), none⟩,
  ⟨some 4, .move (.tmp 26), none⟩])
 (.region [⟨some 27, .move (.tmp 5), none⟩,
  ⟨some 3, .move (.tmp 27), none⟩]))))
def L29 : LCode :=
 .seq (.region [⟨some 2, .move (.const (.string ByteArray.empty)), none⟩])
 (.seq (.region [⟨some 7, .move (.tmp 0), none⟩,
  ⟨some 8, .call 48 [.tmp 7], none⟩,
  ⟨some 3, .move (.tmp 8), none⟩])
 (.seq (.region [⟨some 4, .move (.const (.string ByteArray.empty)), none⟩])
 (.seq (.block 0 (.loop L29_1))
 (.seq (.seq (.region [⟨some 28, .move (.tmp 0), none⟩,
  ⟨some 29, .bin .lss (.tmp 28) (.const (.int .i64 0)), none⟩])
 (.cond (.tmp 29) (.seq (.region [⟨some 30, .move (.tmp 4), none⟩,
  ⟨some 31, .bin .add (.const (.string ⟨#[45]⟩)) (.tmp 30), none⟩,
  ⟨some 2, .move (.tmp 31), none⟩])
 (.ret))
 (.skip)))
 (.seq (.region [⟨some 32, .move (.tmp 4), none⟩,
  ⟨some 2, .move (.tmp 32), none⟩])
 (.ret))))))
theorem light29 : Light Try.prog 29 1 33 L29 [.tmp 2] :=
  ⟨Try.f29, _, Try.func29, rfl, rfl, by kernel_rfl, by kernel_rfl, by decide⟩

/-! ### function 32: outrider/num.Times -/
def L32 : LCode :=
 .seq (.region [⟨some 4, .move (.const (.int .i64 0)), none⟩])
 (.seq (.region [⟨some 5, .move (.tmp 0), none⟩,
  ⟨some 6, .minmax true (.tmp 5) [.const (.int .i64 0)], none⟩,
  ⟨some 7, .move (.tmp 1), none⟩,
  ⟨some 8, .minmax true (.tmp 7) [.const (.int .i64 0)], none⟩,
  ⟨some 0, .move (.tmp 6), none⟩,
  ⟨some 1, .move (.tmp 8), none⟩])
 (.seq (.seq (.region [⟨some 9, .move (.tmp 0), none⟩,
  ⟨some 10, .bin .neq (.tmp 9) (.const (.int .i64 0)), none⟩,
  ⟨some 11, .move (.tmp 10), none⟩,
  ⟨some 12, .move (.tmp 1), (some (11, true))⟩,
  ⟨some 13, .move (.tmp 0), (some (11, true))⟩,
  ⟨some 14, .bin .quo (.const (.int .i64 9223372036854775807)) (.tmp 13), (some (11, true))⟩,
  ⟨some 15, .bin .gtr (.tmp 12) (.tmp 14), (some (11, true))⟩,
  ⟨some 16, .pick (.tmp 11) (.tmp 15) (.const (.bool false)), none⟩])
 (.cond (.tmp 16) (.seq (.region [⟨some 4, .move (.const (.int .i64 9223372036854775807)), none⟩])
 (.ret))
 (.skip)))
 (.seq (.region [⟨some 17, .move (.tmp 0), none⟩,
  ⟨some 18, .move (.tmp 1), none⟩,
  ⟨some 19, .bin .mul (.tmp 17) (.tmp 18), none⟩,
  ⟨some 4, .move (.tmp 19), none⟩])
 (.ret))))
theorem light32 : Light Try.prog 32 2 20 L32 [.tmp 4] :=
  ⟨Try.f32, _, Try.func32, rfl, rfl, by kernel_rfl, by kernel_rfl, by decide⟩

/-! ### function 33: outrider/num.Plus -/
def L33 : LCode :=
 .seq (.region [⟨some 4, .move (.const (.int .i64 0)), none⟩])
 (.seq (.region [⟨some 5, .move (.tmp 0), none⟩,
  ⟨some 6, .minmax true (.tmp 5) [.const (.int .i64 0)], none⟩,
  ⟨some 7, .move (.tmp 1), none⟩,
  ⟨some 8, .minmax true (.tmp 7) [.const (.int .i64 0)], none⟩,
  ⟨some 0, .move (.tmp 6), none⟩,
  ⟨some 1, .move (.tmp 8), none⟩])
 (.seq (.seq (.region [⟨some 9, .move (.tmp 0), none⟩,
  ⟨some 10, .move (.tmp 1), none⟩,
  ⟨some 11, .bin .sub (.const (.int .i64 9223372036854775807)) (.tmp 10), none⟩,
  ⟨some 12, .bin .gtr (.tmp 9) (.tmp 11), none⟩])
 (.cond (.tmp 12) (.seq (.region [⟨some 4, .move (.const (.int .i64 9223372036854775807)), none⟩])
 (.ret))
 (.skip)))
 (.seq (.region [⟨some 13, .move (.tmp 0), none⟩,
  ⟨some 14, .move (.tmp 1), none⟩,
  ⟨some 15, .bin .add (.tmp 13) (.tmp 14), none⟩,
  ⟨some 4, .move (.tmp 15), none⟩])
 (.ret))))
theorem light33 : Light Try.prog 33 2 16 L33 [.tmp 4] :=
  ⟨Try.f33, _, Try.func33, rfl, rfl, by kernel_rfl, by kernel_rfl, by decide⟩

/-! ### function 39: (*outrider/script.reader).now -/
def L39_1 : LCode :=
 .seq (.seq (.draw [⟨⟨some 3, .move (.tmp 0), none⟩, .pure, 0, 0⟩,
  ⟨⟨some 4, .nilCheck (.tmp 3), none⟩, .pure, 0, 0⟩,
  ⟨⟨some 5, .off 1 (.tmp 4), none⟩, .pure, 0, 0⟩,
  ⟨⟨some 6, .load false 1 (.tmp 5), none⟩, .read, 0, 0⟩,
  ⟨⟨some 7, .move (.tmp 0), none⟩, .pure, 0, 0⟩,
  ⟨⟨some 8, .nilCheck (.tmp 7), none⟩, .pure, 0, 0⟩,
  ⟨⟨some 9, .off 0 (.tmp 8), none⟩, .pure, 0, 0⟩,
  ⟨⟨some 10, .load false 1 (.tmp 9), none⟩, .read, 0, 0⟩,
  ⟨⟨some 11, .lenS (.tmp 10), none⟩, .pure, 0, 0⟩,
  ⟨⟨some 12, .bin .lss (.tmp 6) (.tmp 11), none⟩, .pure, 0, 0⟩,
  ⟨⟨some 13, .move (.tmp 12), none⟩, .pure, 0, 0⟩,
  ⟨⟨some 14, .move (.tmp 0), (some (13, true))⟩, .pure, 0, 0⟩,
  ⟨⟨some 15, .nilCheck (.tmp 14), (some (13, true))⟩, .pure, 0, 0⟩,
  ⟨⟨some 16, .off 0 (.tmp 15), (some (13, true))⟩, .pure, 0, 0⟩,
  ⟨⟨some 17, .load false 1 (.tmp 16), (some (13, true))⟩, .read, 0, 0⟩,
  ⟨⟨some 18, .move (.tmp 0), (some (13, true))⟩, .pure, 0, 0⟩,
  ⟨⟨some 19, .nilCheck (.tmp 18), (some (13, true))⟩, .pure, 0, 0⟩,
  ⟨⟨some 20, .off 1 (.tmp 19), (some (13, true))⟩, .pure, 0, 0⟩,
  ⟨⟨some 21, .load false 1 (.tmp 20), (some (13, true))⟩, .read, 0, 0⟩,
  ⟨⟨some 22, .idxStr (.tmp 17) (.tmp 21), (some (13, true))⟩, .pure, 0, 0⟩,
  ⟨⟨some 23, .bin .eql (.tmp 22) (.const (.int .u8 32)), (some (13, true))⟩, .pure, 0, 0⟩,
  ⟨⟨some 24, .move (.tmp 23), (some (13, true))⟩, .pure, 0, 0⟩,
  ⟨⟨some 25, .move (.tmp 0), (some (24, false))⟩, .pure, 0, 0⟩,
  ⟨⟨some 26, .nilCheck (.tmp 25), (some (24, false))⟩, .pure, 0, 0⟩,
  ⟨⟨some 27, .off 0 (.tmp 26), (some (24, false))⟩, .pure, 0, 0⟩,
  ⟨⟨some 28, .load false 1 (.tmp 27), (some (24, false))⟩, .read, 0, 0⟩,
  ⟨⟨some 29, .move (.tmp 0), (some (24, false))⟩, .pure, 0, 0⟩,
  ⟨⟨some 30, .nilCheck (.tmp 29), (some (24, false))⟩, .pure, 0, 0⟩,
  ⟨⟨some 31, .off 1 (.tmp 30), (some (24, false))⟩, .pure, 0, 0⟩,
  ⟨⟨some 32, .load false 1 (.tmp 31), (some (24, false))⟩, .read, 0, 0⟩,
  ⟨⟨some 33, .idxStr (.tmp 28) (.tmp 32), (some (24, false))⟩, .pure, 0, 0⟩,
  ⟨⟨some 34, .bin .eql (.tmp 33) (.const (.int .u8 10)), (some (24, false))⟩, .pure, 0, 0⟩,
  ⟨⟨some 35, .pick (.tmp 24) (.const (.bool true)) (.tmp 34), (some (13, true))⟩, .pure, 0, 0⟩,
  ⟨⟨some 36, .pick (.tmp 13) (.tmp 35) (.const (.bool false)), none⟩, .pure, 0, 0⟩])
 (.cond (.tmp 36) (.skip)
 (.exit 0)))
 (.block 1 (.region [⟨some 37, .move (.tmp 0), none⟩,
  ⟨some 38, .nilCheck (.tmp 37), none⟩,
  ⟨some 39, .off 1 (.tmp 38), none⟩,
  ⟨some 40, .load false 1 (.tmp 39), none⟩,
  ⟨some 41, .bin .add (.tmp 40) (.const (.int .i64 1)), none⟩,
  ⟨some 42, .nilCheck (.tmp 37), none⟩,
  ⟨some 43, .off 1 (.tmp 42), none⟩,
  ⟨none, .store 1 (.tmp 43) (.tmp 41), none⟩]))
def L39 : LCode :=
 .seq (.region [⟨some 2, .move (.const (.int .u8 0)), none⟩])
 (.seq (.block 0 (.loop L39_1))
 (.seq (.seq (.draw [⟨⟨some 44, .move (.tmp 0), none⟩, .pure, 0, 0⟩,
  ⟨⟨some 45, .nilCheck (.tmp 44), none⟩, .pure, 0, 0⟩,
  ⟨⟨some 46, .off 1 (.tmp 45), none⟩, .pure, 0, 0⟩,
  ⟨⟨some 47, .load false 1 (.tmp 46), none⟩, .read, 0, 0⟩,
  ⟨⟨some 48, .move (.tmp 0), none⟩, .pure, 0, 0⟩,
  ⟨⟨some 49, .nilCheck (.tmp 48), none⟩, .pure, 0, 0⟩,
  ⟨⟨some 50, .off 0 (.tmp 49), none⟩, .pure, 0, 0⟩,
  ⟨⟨some 51, .load false 1 (.tmp 50), none⟩, .read, 0, 0⟩,
  ⟨⟨some 52, .lenS (.tmp 51), none⟩, .pure, 0, 0⟩,
  ⟨⟨some 53, .bin .eql (.tmp 47) (.tmp 52), none⟩, .pure, 0, 0⟩])
 (.cond (.tmp 53) (.seq (.region [⟨some 2, .move (.const (.int .u8 0)), none⟩])
 (.ret))
 (.skip)))
 (.seq (.draw [⟨⟨some 54, .move (.tmp 0), none⟩, .pure, 0, 0⟩,
  ⟨⟨some 55, .nilCheck (.tmp 54), none⟩, .pure, 0, 0⟩,
  ⟨⟨some 56, .off 0 (.tmp 55), none⟩, .pure, 0, 0⟩,
  ⟨⟨some 57, .load false 1 (.tmp 56), none⟩, .read, 0, 0⟩,
  ⟨⟨some 58, .move (.tmp 0), none⟩, .pure, 0, 0⟩,
  ⟨⟨some 59, .nilCheck (.tmp 58), none⟩, .pure, 0, 0⟩,
  ⟨⟨some 60, .off 1 (.tmp 59), none⟩, .pure, 0, 0⟩,
  ⟨⟨some 61, .load false 1 (.tmp 60), none⟩, .read, 0, 0⟩,
  ⟨⟨some 62, .idxStr (.tmp 57) (.tmp 61), none⟩, .pure, 0, 0⟩,
  ⟨⟨some 2, .move (.tmp 62), none⟩, .pure, 0, 0⟩])
 (.ret))))
theorem light39 : Light Try.prog 39 1 63 L39 [.tmp 2] :=
  ⟨Try.f39, _, Try.func39, rfl, rfl, by kernel_rfl, by kernel_rfl, by decide⟩

/-! ### function 40: (*outrider/script.reader).bracket -/
def L40 : LCode :=
 .seq (.region [⟨some 2, .move (.const (.slice none 0 0)), none⟩])
 (.seq (.region [⟨some 4, .move (.tmp 0), none⟩,
  ⟨some 5, .nilCheck (.tmp 4), none⟩,
  ⟨some 6, .off 2 (.tmp 5), none⟩,
  ⟨some 7, .load false 1 (.tmp 6), none⟩,
  ⟨some 8, .bin .add (.tmp 7) (.const (.int .i64 1)), none⟩,
  ⟨some 9, .nilCheck (.tmp 4), none⟩,
  ⟨some 10, .off 2 (.tmp 9), none⟩,
  ⟨none, .store 1 (.tmp 10) (.tmp 8), none⟩])
 (.seq (.seq (.region [⟨some 11, .move (.tmp 0), none⟩,
  ⟨some 12, .nilCheck (.tmp 11), none⟩,
  ⟨some 13, .off 2 (.tmp 12), none⟩,
  ⟨some 14, .load false 1 (.tmp 13), none⟩,
  ⟨some 15, .bin .gtr (.tmp 14) (.const (.int .i64 8)), none⟩])
 (.cond (.tmp 15) (.region [⟨some 16, .move (.tmp 0), none⟩,
  ⟨some 17, .call 24 [.tmp 16, .const (.int .i64 250)], none⟩])
 (.skip)))
 (.seq (.region [⟨some 18, .move (.tmp 0), none⟩,
  ⟨some 19, .nilCheck (.tmp 18), none⟩,
  ⟨some 20, .off 1 (.tmp 19), none⟩,
  ⟨some 21, .load false 1 (.tmp 20), none⟩,
  ⟨some 22, .bin .add (.tmp 21) (.const (.int .i64 1)), none⟩,
  ⟨some 23, .nilCheck (.tmp 18), none⟩,
  ⟨some 24, .off 1 (.tmp 23), none⟩,
  ⟨none, .store 1 (.tmp 24) (.tmp 22), none⟩])
 (.seq (.region [⟨some 25, .move (.tmp 0), none⟩,
  ⟨some 26, .call 23 [.tmp 25], none⟩,
  ⟨some 3, .move (.tmp 26), none⟩])
 (.seq (.seq (.region [⟨some 27, .move (.tmp 0), none⟩,
  ⟨some 28, .call 39 [.tmp 27], none⟩,
  ⟨some 29, .bin .neq (.tmp 28) (.const (.int .u8 41)), none⟩])
 (.cond (.tmp 29) (.region [⟨some 30, .move (.tmp 0), none⟩,
  ⟨some 31, .call 24 [.tmp 30, .const (.int .i64 250)], none⟩])
 (.skip)))
 (.seq (.region [⟨some 32, .move (.tmp 0), none⟩,
  ⟨some 33, .nilCheck (.tmp 32), none⟩,
  ⟨some 34, .off 1 (.tmp 33), none⟩,
  ⟨some 35, .load false 1 (.tmp 34), none⟩,
  ⟨some 36, .bin .add (.tmp 35) (.const (.int .i64 1)), none⟩,
  ⟨some 37, .nilCheck (.tmp 32), none⟩,
  ⟨some 38, .off 1 (.tmp 37), none⟩,
  ⟨none, .store 1 (.tmp 38) (.tmp 36), none⟩])
 (.seq (.region [⟨some 39, .move (.tmp 0), none⟩,
  ⟨some 40, .nilCheck (.tmp 39), none⟩,
  ⟨some 41, .off 2 (.tmp 40), none⟩,
  ⟨some 42, .load false 1 (.tmp 41), none⟩,
  ⟨some 43, .bin .sub (.tmp 42) (.const (.int .i64 1)), none⟩,
  ⟨some 44, .nilCheck (.tmp 39), none⟩,
  ⟨some 45, .off 2 (.tmp 44), none⟩,
  ⟨none, .store 1 (.tmp 45) (.tmp 43), none⟩])
 (.seq (.region [⟨some 46, .move (.tmp 3), none⟩,
  ⟨some 2, .move (.tmp 46), none⟩])
 (.ret)))))))))
theorem light40 : Light Try.prog 40 1 47 L40 [.tmp 2] :=
  ⟨Try.f40, _, Try.func40, rfl, rfl, by kernel_rfl, by kernel_rfl, by decide⟩

/-! ### function 41: (*outrider/script.reader).number -/
def L41_1 : LCode :=
 .seq (.seq (.draw [⟨⟨some 10, .move (.tmp 0), none⟩, .pure, 0, 0⟩,
  ⟨⟨some 11, .nilCheck (.tmp 10), none⟩, .pure, 0, 0⟩,
  ⟨⟨some 12, .off 1 (.tmp 11), none⟩, .pure, 0, 0⟩,
  ⟨⟨some 13, .load false 1 (.tmp 12), none⟩, .read, 0, 0⟩,
  ⟨⟨some 14, .move (.tmp 0), none⟩, .pure, 0, 0⟩,
  ⟨⟨some 15, .nilCheck (.tmp 14), none⟩, .pure, 0, 0⟩,
  ⟨⟨some 16, .off 0 (.tmp 15), none⟩, .pure, 0, 0⟩,
  ⟨⟨some 17, .load false 1 (.tmp 16), none⟩, .read, 0, 0⟩,
  ⟨⟨some 18, .lenS (.tmp 17), none⟩, .pure, 0, 0⟩,
  ⟨⟨some 19, .bin .lss (.tmp 13) (.tmp 18), none⟩, .pure, 0, 0⟩,
  ⟨⟨some 20, .move (.tmp 19), none⟩, .pure, 0, 0⟩,
  ⟨⟨some 21, .move (.tmp 0), (some (20, true))⟩, .pure, 0, 0⟩,
  ⟨⟨some 22, .nilCheck (.tmp 21), (some (20, true))⟩, .pure, 0, 0⟩,
  ⟨⟨some 23, .off 0 (.tmp 22), (some (20, true))⟩, .pure, 0, 0⟩,
  ⟨⟨some 24, .load false 1 (.tmp 23), (some (20, true))⟩, .read, 0, 0⟩,
  ⟨⟨some 25, .move (.tmp 0), (some (20, true))⟩, .pure, 0, 0⟩,
  ⟨⟨some 26, .nilCheck (.tmp 25), (some (20, true))⟩, .pure, 0, 0⟩,
  ⟨⟨some 27, .off 1 (.tmp 26), (some (20, true))⟩, .pure, 0, 0⟩,
  ⟨⟨some 28, .load false 1 (.tmp 27), (some (20, true))⟩, .read, 0, 0⟩,
  ⟨⟨some 29, .idxStr (.tmp 24) (.tmp 28), (some (20, true))⟩, .pure, 0, 0⟩,
  ⟨⟨some 30, .bin .geq (.tmp 29) (.const (.int .u8 48)), (some (20, true))⟩, .pure, 0, 0⟩,
  ⟨⟨some 31, .pick (.tmp 20) (.tmp 30) (.const (.bool false)), none⟩, .pure, 0, 0⟩,
  ⟨⟨some 32, .move (.tmp 31), none⟩, .pure, 0, 0⟩,
  ⟨⟨some 33, .move (.tmp 0), (some (32, true))⟩, .pure, 0, 0⟩,
  ⟨⟨some 34, .nilCheck (.tmp 33), (some (32, true))⟩, .pure, 0, 0⟩,
  ⟨⟨some 35, .off 0 (.tmp 34), (some (32, true))⟩, .pure, 0, 0⟩,
  ⟨⟨some 36, .load false 1 (.tmp 35), (some (32, true))⟩, .read, 0, 0⟩,
  ⟨⟨some 37, .move (.tmp 0), (some (32, true))⟩, .pure, 0, 0⟩,
  ⟨⟨some 38, .nilCheck (.tmp 37), (some (32, true))⟩, .pure, 0, 0⟩,
  ⟨⟨some 39, .off 1 (.tmp 38), (some (32, true))⟩, .pure, 0, 0⟩,
  ⟨⟨some 40, .load false 1 (.tmp 39), (some (32, true))⟩, .read, 0, 0⟩,
  ⟨⟨some 41, .idxStr (.tmp 36) (.tmp 40), (some (32, true))⟩, .pure, 0, 0⟩,
  ⟨⟨some 42, .bin .leq (.tmp 41) (.const (.int .u8 57)), (some (32, true))⟩, .pure, 0, 0⟩,
  ⟨⟨some 43, .pick (.tmp 32) (.tmp 42) (.const (.bool false)), none⟩, .pure, 0, 0⟩])
 (.cond (.tmp 43) (.skip)
 (.exit 0)))
 (.block 1 (.region [⟨some 44, .move (.tmp 0), none⟩,
  ⟨some 45, .nilCheck (.tmp 44), none⟩,
  ⟨some 46, .off 1 (.tmp 45), none⟩,
  ⟨some 47, .load false 1 (.tmp 46), none⟩,
  ⟨some 48, .bin .add (.tmp 47) (.const (.int .i64 1)), none⟩,
  ⟨some 49, .nilCheck (.tmp 44), none⟩,
  ⟨some 50, .off 1 (.tmp 49), none⟩,
  ⟨none, .store 1 (.tmp 50) (.tmp 48), none⟩]))
def L41 : LCode :=
 .seq (.region [⟨some 2, .move (.const (.int .i64 0)), none⟩])
 (.seq (.region [⟨some 6, .move (.tmp 0), none⟩,
  ⟨some 7, .nilCheck (.tmp 6), none⟩,
  ⟨some 8, .off 1 (.tmp 7), none⟩,
  ⟨some 9, .load false 1 (.tmp 8), none⟩,
  ⟨some 3, .move (.tmp 9), none⟩])
 (.seq (.block 0 (.loop L41_1))
 (.seq (.draw [⟨⟨some 52, .move (.tmp 0), none⟩, .pure, 0, 0⟩,
  ⟨⟨some 53, .nilCheck (.tmp 52), none⟩, .pure, 0, 0⟩,
  ⟨⟨some 54, .off 0 (.tmp 53), none⟩, .pure, 0, 0⟩,
  ⟨⟨some 55, .load false 1 (.tmp 54), none⟩, .read, 0, 0⟩,
  ⟨⟨some 56, .move (.tmp 3), none⟩, .pure, 0, 0⟩,
  ⟨⟨some 57, .move (.tmp 0), none⟩, .pure, 0, 0⟩,
  ⟨⟨some 58, .nilCheck (.tmp 57), none⟩, .pure, 0, 0⟩,
  ⟨⟨some 59, .off 1 (.tmp 58), none⟩, .pure, 0, 0⟩,
  ⟨⟨some 60, .load false 1 (.tmp 59), none⟩, .read, 0, 0⟩,
  ⟨⟨some 61, .sliceStr (.tmp 55) (some (.tmp 56)) (some (.tmp 60)), none⟩, .pure, 0, 0⟩,
  ⟨⟨some 62, .call 59 [.tmp 61], none⟩, .heavy, 0, 1⟩,
  ⟨⟨some 51, .move (.tmp 62), none⟩, .pure, 1, 1⟩,
  ⟨⟨some 63, .extract (.tmp 51) 0, none⟩, .pure, 1, 1⟩,
  ⟨⟨some 64, .extract (.tmp 51) 1, none⟩, .pure, 1, 1⟩,
  ⟨⟨some 4, .move (.tmp 63), none⟩, .pure, 1, 1⟩,
  ⟨⟨some 5, .move (.tmp 64), none⟩, .pure, 1, 1⟩])
 (.seq (.seq (.region [⟨some 65, .move (.tmp 5), none⟩,
  ⟨some 66, .bin .neq (.tmp 65) (.const (.int .i64 0)), none⟩,
  ⟨some 67, .move (.tmp 66), none⟩,
  ⟨some 68, .move (.tmp 4), (some (67, false))⟩,
  ⟨some 69, .bin .geq (.tmp 68) (.const (.int .i64 2147483648)), (some (67, false))⟩,
  ⟨some 70, .pick (.tmp 67) (.const (.bool true)) (.tmp 69), none⟩])
 (.cond (.tmp 70) (.seq (.region [⟨some 71, .move (.tmp 0), none⟩,
  ⟨some 72, .move (.tmp 3), none⟩,
  ⟨some 73, .nilCheck (.tmp 71), none⟩,
  ⟨some 74, .off 1 (.tmp 73), none⟩,
  ⟨none, .store 1 (.tmp 74) (.tmp 72), none⟩])
 (.region [⟨some 75, .move (.tmp 0), none⟩,
  ⟨some 76, .call 24 [.tmp 75, .const (.int .i64 250)], none⟩]))
 (.skip)))
 (.seq (.region [⟨some 77, .move (.tmp 4), none⟩,
  ⟨some 2, .move (.tmp 77), none⟩])
 (.ret))))))
theorem light41 : Light Try.prog 41 1 78 L41 [.tmp 2] :=
  ⟨Try.f41, _, Try.func41, rfl, rfl, by kernel_rfl, by kernel_rfl, by decide⟩

/-! ### function 42: (*outrider/script.reader).repeat -/
def L42_1 : LCode :=
 .seq (.region [⟨some 60, .bin .lss (.tmp 59) (.tmp 58), none⟩])
 (.seq (.cond (.tmp 60) (.skip)
 (.exit 0))
 (.seq (.block 1 (.seq (.seq (.region [⟨some 61, .move (.tmp 2), none⟩,
  ⟨some 62, .len (.tmp 61), none⟩,
  ⟨some 63, .bin .eql (.tmp 62) (.const (.int .i64 0)), none⟩])
 (.cond (.tmp 63) (.exit 0)
 (.skip)))
 (.region [⟨some 64, .move (.tmp 1), none⟩,
  ⟨some 65, .move (.tmp 2), none⟩,
  ⟨some 66, .append 36 2 16 (.tmp 64) (.tmp 65), none⟩,
  ⟨some 1, .move (.tmp 66), none⟩])))
 (.region [⟨some 67, .bin .add (.tmp 59) (.const (.int .i64 1)), none⟩,
  ⟨some 59, .move (.tmp 67), none⟩])))
def L42 : LCode :=
 .seq (.region [⟨some 6, .move (.const (.slice none 0 0)), none⟩])
 (.seq (.draw [⟨⟨some 9, .move (.tmp 0), none⟩, .pure, 0, 0⟩,
  ⟨⟨some 10, .nilCheck (.tmp 9), none⟩, .pure, 0, 0⟩,
  ⟨⟨some 11, .off 1 (.tmp 10), none⟩, .pure, 0, 0⟩,
  ⟨⟨some 12, .load false 1 (.tmp 11), none⟩, .read, 0, 0⟩,
  ⟨⟨some 7, .move (.const (.int .i64 1)), none⟩, .pure, 0, 0⟩,
  ⟨⟨some 8, .move (.tmp 12), none⟩, .pure, 0, 0⟩])
 (.seq (.seq (.draw [⟨⟨some 13, .move (.tmp 0), none⟩, .pure, 0, 0⟩,
  ⟨⟨some 14, .nilCheck (.tmp 13), none⟩, .pure, 0, 0⟩,
  ⟨⟨some 15, .off 1 (.tmp 14), none⟩, .pure, 0, 0⟩,
  ⟨⟨some 16, .load false 1 (.tmp 15), none⟩, .read, 0, 0⟩,
  ⟨⟨some 17, .move (.tmp 0), none⟩, .pure, 0, 0⟩,
  ⟨⟨some 18, .nilCheck (.tmp 17), none⟩, .pure, 0, 0⟩,
  ⟨⟨some 19, .off 0 (.tmp 18), none⟩, .pure, 0, 0⟩,
  ⟨⟨some 20, .load false 1 (.tmp 19), none⟩, .read, 0, 0⟩,
  ⟨⟨some 21, .lenS (.tmp 20), none⟩, .pure, 0, 0⟩,
  ⟨⟨some 22, .bin .lss (.tmp 16) (.tmp 21), none⟩, .pure, 0, 0⟩,
  ⟨⟨some 23, .move (.tmp 22), none⟩, .pure, 0, 0⟩,
  ⟨⟨some 24, .move (.tmp 0), (some (23, true))⟩, .pure, 0, 0⟩,
  ⟨⟨some 25, .nilCheck (.tmp 24), (some (23, true))⟩, .pure, 0, 0⟩,
  ⟨⟨some 26, .off 0 (.tmp 25), (some (23, true))⟩, .pure, 0, 0⟩,
  ⟨⟨some 27, .load false 1 (.tmp 26), (some (23, true))⟩, .read, 0, 0⟩,
  ⟨⟨some 28, .move (.tmp 0), (some (23, true))⟩, .pure, 0, 0⟩,
  ⟨⟨some 29, .nilCheck (.tmp 28), (some (23, true))⟩, .pure, 0, 0⟩,
  ⟨⟨some 30, .off 1 (.tmp 29), (some (23, true))⟩, .pure, 0, 0⟩,
  ⟨⟨some 31, .load false 1 (.tmp 30), (some (23, true))⟩, .read, 0, 0⟩,
  ⟨⟨some 32, .idxStr (.tmp 27) (.tmp 31), (some (23, true))⟩, .pure, 0, 0⟩,
  ⟨⟨some 33, .bin .eql (.tmp 32) (.const (.int .u8 42)), (some (23, true))⟩, .pure, 0, 0⟩,
  ⟨⟨some 34, .pick (.tmp 23) (.tmp 33) (.const (.bool false)), none⟩, .pure, 0, 0⟩])
 (.cond (.tmp 34) (.seq (.region [⟨some 35, .move (.tmp 0), none⟩,
  ⟨some 36, .nilCheck (.tmp 35), none⟩,
  ⟨some 37, .off 1 (.tmp 36), none⟩,
  ⟨some 38, .load false 1 (.tmp 37), none⟩,
  ⟨some 39, .bin .add (.tmp 38) (.const (.int .i64 1)), none⟩,
  ⟨some 40, .nilCheck (.tmp 35), none⟩,
  ⟨some 41, .off 1 (.tmp 40), none⟩,
  ⟨none, .store 1 (.tmp 41) (.tmp 39), none⟩])
 (.region [⟨some 42, .move (.tmp 0), none⟩,
  ⟨some 43, .call 41 [.tmp 42], none⟩,
  ⟨some 7, .move (.tmp 43), none⟩]))
 (.skip)))
 (.seq (.seq (.region [⟨some 44, .move (.tmp 7), none⟩,
  ⟨some 45, .move (.tmp 2), none⟩,
  ⟨some 46, .len (.tmp 45), none⟩,
  ⟨some 47, .call 32 [.tmp 44, .tmp 46], none⟩,
  ⟨some 48, .move (.tmp 1), none⟩,
  ⟨some 49, .len (.tmp 48), none⟩,
  ⟨some 50, .bin .sub (.const (.int .i64 40000)) (.tmp 49), none⟩,
  ⟨some 51, .bin .gtr (.tmp 47) (.tmp 50), none⟩])
 (.cond (.tmp 51) (.seq (.region [⟨some 52, .move (.tmp 0), none⟩,
  ⟨some 53, .move (.tmp 8), none⟩,
  ⟨some 54, .nilCheck (.tmp 52), none⟩,
  ⟨some 55, .off 1 (.tmp 54), none⟩,
  ⟨none, .store 1 (.tmp 55) (.tmp 53), none⟩])
 (.region [⟨some 56, .move (.tmp 0), none⟩,
  ⟨some 57, .call 24 [.tmp 56, .const (.int .i64 251)], none⟩]))
 (.skip)))
 (.seq (.seq (.region [⟨some 58, .move (.tmp 7), none⟩,
  ⟨some 59, .move (.const (.int .i64 0)), none⟩])
 (.block 0 (.loop L42_1)))
 (.seq (.region [⟨some 68, .move (.tmp 1), none⟩,
  ⟨some 6, .move (.tmp 68), none⟩])
 (.ret))))))
theorem light42 : Light Try.prog 42 3 69 L42 [.tmp 6] :=
  ⟨Try.f42, _, Try.func42, rfl, rfl, by kernel_rfl, by kernel_rfl, by decide⟩

/-! ### function 43: outrider/outriderref25.blanks -/
def L43_1 : LCode :=
 .seq (.seq (.region [⟨some 3, .off 1 (.tmp 1), none⟩,
  ⟨some 4, .load false 1 (.tmp 3), none⟩,
  ⟨some 5, .off 0 (.tmp 1), none⟩,
  ⟨some 6, .load false 1 (.tmp 5), none⟩,
  ⟨some 7, .lenS (.tmp 6), none⟩,
  ⟨some 8, .bin .lss (.tmp 4) (.tmp 7), none⟩,
  ⟨some 9, .move (.tmp 8), none⟩,
  ⟨some 10, .off 0 (.tmp 1), (some (9, true))⟩,
  ⟨some 11, .load false 1 (.tmp 10), (some (9, true))⟩,
  ⟨some 12, .off 1 (.tmp 1), (some (9, true))⟩,
  ⟨some 13, .load false 1 (.tmp 12), (some (9, true))⟩,
  ⟨some 14, .idxStr (.tmp 11) (.tmp 13), (some (9, true))⟩,
  ⟨some 15, .bin .eql (.tmp 14) (.const (.int .u8 32)), (some (9, true))⟩,
  ⟨some 16, .move (.tmp 15), (some (9, true))⟩,
  ⟨some 17, .off 0 (.tmp 1), (some (16, false))⟩,
  ⟨some 18, .load false 1 (.tmp 17), (some (16, false))⟩,
  ⟨some 19, .off 1 (.tmp 1), (some (16, false))⟩,
  ⟨some 20, .load false 1 (.tmp 19), (some (16, false))⟩,
  ⟨some 21, .idxStr (.tmp 18) (.tmp 20), (some (16, false))⟩,
  ⟨some 22, .bin .eql (.tmp 21) (.const (.int .u8 10)), (some (16, false))⟩,
  ⟨some 23, .pick (.tmp 16) (.const (.bool true)) (.tmp 22), (some (9, true))⟩,
  ⟨some 24, .pick (.tmp 9) (.tmp 23) (.const (.bool false)), none⟩])
 (.cond (.tmp 24) (.skip)
 (.exit 0)))
 (.block 1 (.region [⟨some 25, .off 1 (.tmp 1), none⟩,
  ⟨some 26, .load false 1 (.tmp 25), none⟩,
  ⟨some 27, .bin .add (.tmp 26) (.const (.int .i64 1)), none⟩,
  ⟨some 28, .off 1 (.tmp 1), none⟩,
  ⟨none, .store 1 (.tmp 28) (.tmp 27), none⟩]))
def L43 : LCode :=
 .seq (.region [⟨some 1, .box 71 4 (.tmp 0), none⟩,
  ⟨some 2, .new 71 4 [.string ByteArray.empty, .int .i64 0, .int .i64 0, .int .i64 0], none⟩])
 (.seq (.block 0 (.loop L43_1))
 (.seq (.region [⟨some 29, .load true 4 (.tmp 1), none⟩,
  ⟨none, .store 4 (.tmp 2) (.tmp 29), none⟩])
 (.ret)))
theorem light43 : Light Try.prog 43 1 30 L43 [.cell 2 true 4] :=
  ⟨Try.f43, _, Try.func43, rfl, rfl, by kernel_rfl, by kernel_rfl, by decide⟩

/-! ### function 44: outrider/outriderref25.is -/
def L44 : LCode :=
 .seq (.region [⟨some 2, .box 71 4 (.tmp 0), none⟩,
  ⟨some 4, .move (.const (.bool false)), none⟩])
 (.seq (.region [⟨some 5, .off 1 (.tmp 2), none⟩,
  ⟨some 6, .load false 1 (.tmp 5), none⟩,
  ⟨some 7, .off 0 (.tmp 2), none⟩,
  ⟨some 8, .load false 1 (.tmp 7), none⟩,
  ⟨some 9, .lenS (.tmp 8), none⟩,
  ⟨some 10, .bin .lss (.tmp 6) (.tmp 9), none⟩,
  ⟨some 11, .move (.tmp 10), none⟩,
  ⟨some 12, .off 0 (.tmp 2), (some (11, true))⟩,
  ⟨some 13, .load false 1 (.tmp 12), (some (11, true))⟩,
  ⟨some 14, .off 1 (.tmp 2), (some (11, true))⟩,
  ⟨some 15, .load false 1 (.tmp 14), (some (11, true))⟩,
  ⟨some 16, .idxStr (.tmp 13) (.tmp 15), (some (11, true))⟩,
  ⟨some 17, .move (.tmp 1), (some (11, true))⟩,
  ⟨some 18, .bin .eql (.tmp 16) (.tmp 17), (some (11, true))⟩,
  ⟨some 19, .pick (.tmp 11) (.tmp 18) (.const (.bool false)), none⟩,
  ⟨some 4, .move (.tmp 19), none⟩])
 (.ret))
theorem light44 : Light Try.prog 44 2 20 L44 [.tmp 4] :=
  ⟨Try.f44, _, Try.func44, rfl, rfl, by kernel_rfl, by kernel_rfl, by decide⟩

/-! ### function 45: outrider/outriderref25.number -/
def L45_1 : LCode :=
 .seq (.seq (.region [⟨some 9, .off 1 (.tmp 1), none⟩,
  ⟨some 10, .load false 1 (.tmp 9), none⟩,
  ⟨some 11, .off 0 (.tmp 1), none⟩,
  ⟨some 12, .load false 1 (.tmp 11), none⟩,
  ⟨some 13, .lenS (.tmp 12), none⟩,
  ⟨some 14, .bin .lss (.tmp 10) (.tmp 13), none⟩,
  ⟨some 15, .move (.tmp 14), none⟩,
  ⟨some 16, .off 0 (.tmp 1), (some (15, true))⟩,
  ⟨some 17, .load false 1 (.tmp 16), (some (15, true))⟩,
  ⟨some 18, .off 1 (.tmp 1), (some (15, true))⟩,
  ⟨some 19, .load false 1 (.tmp 18), (some (15, true))⟩,
  ⟨some 20, .idxStr (.tmp 17) (.tmp 19), (some (15, true))⟩,
  ⟨some 21, .bin .geq (.tmp 20) (.const (.int .u8 48)), (some (15, true))⟩,
  ⟨some 22, .pick (.tmp 15) (.tmp 21) (.const (.bool false)), none⟩,
  ⟨some 23, .move (.tmp 22), none⟩,
  ⟨some 24, .off 0 (.tmp 1), (some (23, true))⟩,
  ⟨some 25, .load false 1 (.tmp 24), (some (23, true))⟩,
  ⟨some 26, .off 1 (.tmp 1), (some (23, true))⟩,
  ⟨some 27, .load false 1 (.tmp 26), (some (23, true))⟩,
  ⟨some 28, .idxStr (.tmp 25) (.tmp 27), (some (23, true))⟩,
  ⟨some 29, .bin .leq (.tmp 28) (.const (.int .u8 57)), (some (23, true))⟩,
  ⟨some 30, .pick (.tmp 23) (.tmp 29) (.const (.bool false)), none⟩])
 (.cond (.tmp 30) (.skip)
 (.exit 0)))
 (.block 1 (.region [⟨some 31, .off 1 (.tmp 1), none⟩,
  ⟨some 32, .load false 1 (.tmp 31), none⟩,
  ⟨some 33, .bin .add (.tmp 32) (.const (.int .i64 1)), none⟩,
  ⟨some 34, .off 1 (.tmp 1), none⟩,
  ⟨none, .store 1 (.tmp 34) (.tmp 33), none⟩]))
def L45 : LCode :=
 .seq (.region [⟨some 1, .box 71 4 (.tmp 0), none⟩,
  ⟨some 2, .new 71 4 [.string ByteArray.empty, .int .i64 0, .int .i64 0, .int .i64 0], none⟩,
  ⟨some 3, .move (.const (.int .i64 0)), none⟩])
 (.seq (.region [⟨some 7, .off 1 (.tmp 1), none⟩,
  ⟨some 8, .load false 1 (.tmp 7), none⟩,
  ⟨some 4, .move (.tmp 8), none⟩])
 (.seq (.block 0 (.loop L45_1))
 (.seq (.region [⟨some 36, .off 0 (.tmp 1), none⟩,
  ⟨some 37, .load false 1 (.tmp 36), none⟩,
  ⟨some 38, .move (.tmp 4), none⟩,
  ⟨some 39, .off 1 (.tmp 1), none⟩,
  ⟨some 40, .load false 1 (.tmp 39), none⟩,
  ⟨some 41, .sliceStr (.tmp 37) (some (.tmp 38)) (some (.tmp 40)), none⟩,
  ⟨some 42, .call 60 [.tmp 41], none⟩,
  ⟨some 35, .move (.tmp 42), none⟩,
  ⟨some 43, .extract (.tmp 35) 0, none⟩,
  ⟨some 44, .extract (.tmp 35) 1, none⟩,
  ⟨some 5, .move (.tmp 43), none⟩,
  ⟨some 6, .move (.tmp 44), none⟩])
 (.seq (.seq (.region [⟨some 45, .move (.tmp 6), none⟩,
  ⟨some 46, .bin .neq (.tmp 45) (.const (.int .i64 0)), none⟩,
  ⟨some 47, .move (.tmp 46), none⟩,
  ⟨some 48, .move (.tmp 5), (some (47, false))⟩,
  ⟨some 49, .bin .gtr (.tmp 48) (.const (.int .i64 2147483647)), (some (47, false))⟩,
  ⟨some 50, .pick (.tmp 47) (.const (.bool true)) (.tmp 49), none⟩])
 (.cond (.tmp 50) (.seq (.region [⟨some 51, .load true 4 (.tmp 1), none⟩,
  ⟨some 52, .move (.tmp 4), none⟩,
  ⟨some 53, .call 26 [.tmp 51, .const (.int .i64 250), .tmp 52], none⟩,
  ⟨none, .store 4 (.tmp 2) (.tmp 53), none⟩,
  ⟨some 3, .move (.const (.int .i64 0)), none⟩])
 (.ret))
 (.skip)))
 (.seq (.region [⟨some 54, .load true 4 (.tmp 1), none⟩,
  ⟨some 55, .move (.tmp 5), none⟩,
  ⟨none, .store 4 (.tmp 2) (.tmp 54), none⟩,
  ⟨some 3, .move (.tmp 55), none⟩])
 (.ret))))))
theorem light45 : Light Try.prog 45 1 56 L45 [.cell 2 true 4, .tmp 3] :=
  ⟨Try.f45, _, Try.func45, rfl, rfl, by kernel_rfl, by kernel_rfl, by decide⟩

/-! ### function 46: outrider/outriderref25.repeat -/
def L46_1 : LCode :=
 .seq (.seq (.region [⟨some 28, .move (.tmp 10), none⟩,
  ⟨some 29, .move (.tmp 9), none⟩,
  ⟨some 30, .bin .lss (.tmp 28) (.tmp 29), none⟩,
  ⟨some 31, .move (.tmp 30), none⟩,
  ⟨some 32, .move (.tmp 2), (some (31, true))⟩,
  ⟨some 33, .len (.tmp 32), (some (31, true))⟩,
  ⟨some 34, .bin .gtr (.tmp 33) (.const (.int .i64 0)), (some (31, true))⟩,
  ⟨some 35, .pick (.tmp 31) (.tmp 34) (.const (.bool false)), none⟩])
 (.cond (.tmp 35) (.skip)
 (.exit 0)))
 (.seq (.block 1 (.seq (.seq (.region [⟨some 38, .move (.tmp 1), none⟩,
  ⟨some 39, .len (.tmp 38), none⟩,
  ⟨some 40, .move (.tmp 2), none⟩,
  ⟨some 41, .len (.tmp 40), none⟩,
  ⟨some 42, .bin .add (.tmp 39) (.tmp 41), none⟩,
  ⟨some 43, .bin .gtr (.tmp 42) (.const (.int .i64 40000)), none⟩])
 (.cond (.tmp 43) (.seq (.region [⟨some 44, .load true 4 (.tmp 3), none⟩,
  ⟨some 45, .move (.tmp 8), none⟩,
  ⟨some 46, .call 26 [.tmp 44, .const (.int .i64 251), .tmp 45], none⟩,
  ⟨none, .store 4 (.tmp 6) (.tmp 46), none⟩,
  ⟨some 7, .move (.const (.slice none 0 0)), none⟩])
 (.ret))
 (.skip)))
 (.region [⟨some 47, .move (.tmp 1), none⟩,
  ⟨some 48, .move (.tmp 2), none⟩,
  ⟨some 49, .append 36 2 16 (.tmp 47) (.tmp 48), none⟩,
  ⟨some 1, .move (.tmp 49), none⟩])))
 (.region [⟨some 36, .move (.tmp 10), none⟩,
  ⟨some 37, .bin .add (.tmp 36) (.const (.int .i64 1)), none⟩,
  ⟨some 10, .move (.tmp 37), none⟩]))
def L46 : LCode :=
 .seq (.region [⟨some 3, .box 71 4 (.tmp 0), none⟩,
  ⟨some 6, .new 71 4 [.string ByteArray.empty, .int .i64 0, .int .i64 0, .int .i64 0], none⟩,
  ⟨some 7, .move (.const (.slice none 0 0)), none⟩])
 (.seq (.region [⟨some 11, .off 1 (.tmp 3), none⟩,
  ⟨some 12, .load false 1 (.tmp 11), none⟩,
  ⟨some 8, .move (.tmp 12), none⟩,
  ⟨some 9, .move (.const (.int .i64 1)), none⟩])
 (.seq (.seq (.region [⟨some 13, .load true 4 (.tmp 3), none⟩,
  ⟨some 14, .call 44 [.tmp 13, .const (.int .u8 42)], none⟩])
 (.cond (.tmp 14) (.seq (.region [⟨some 15, .off 1 (.tmp 3), none⟩,
  ⟨some 16, .load false 1 (.tmp 15), none⟩,
  ⟨some 17, .bin .add (.tmp 16) (.const (.int .i64 1)), none⟩,
  ⟨some 18, .off 1 (.tmp 3), none⟩,
  ⟨none, .store 1 (.tmp 18) (.tmp 17), none⟩])
 (.region [⟨some 20, .load true 4 (.tmp 3), none⟩,
  ⟨some 21, .call 45 [.tmp 20], none⟩,
  ⟨some 19, .move (.tmp 21), none⟩,
  ⟨some 22, .extract (.tmp 19) 0, none⟩,
  ⟨some 23, .extract (.tmp 19) 1, none⟩,
  ⟨none, .store 4 (.tmp 3) (.tmp 22), none⟩,
  ⟨some 9, .move (.tmp 23), none⟩]))
 (.skip)))
 (.seq (.seq (.region [⟨some 24, .off 2 (.tmp 3), none⟩,
  ⟨some 25, .load false 1 (.tmp 24), none⟩,
  ⟨some 26, .bin .neq (.tmp 25) (.const (.int .i64 0)), none⟩])
 (.cond (.tmp 26) (.seq (.region [⟨some 27, .load true 4 (.tmp 3), none⟩,
  ⟨none, .store 4 (.tmp 6) (.tmp 27), none⟩,
  ⟨some 7, .move (.const (.slice none 0 0)), none⟩])
 (.ret))
 (.skip)))
 (.seq (.seq (.region [⟨some 10, .move (.const (.int .i64 0)), none⟩])
 (.block 0 (.loop L46_1)))
 (.seq (.region [⟨some 50, .load true 4 (.tmp 3), none⟩,
  ⟨some 51, .move (.tmp 1), none⟩,
  ⟨none, .store 4 (.tmp 6) (.tmp 50), none⟩,
  ⟨some 7, .move (.tmp 51), none⟩])
 (.ret))))))
theorem light46 : Light Try.prog 46 3 52 L46 [.cell 6 true 4, .tmp 7] :=
  ⟨Try.f46, _, Try.func46, rfl, rfl, by kernel_rfl, by kernel_rfl, by decide⟩

/-! ### function 47: outrider/num.size -/
def L47 : LCode :=
 .seq (.region [⟨some 2, .move (.const (.int .u64 0)), none⟩])
 (.seq (.seq (.region [⟨some 3, .move (.tmp 0), none⟩,
  ⟨some 4, .bin .lss (.tmp 3) (.const (.int .i64 0)), none⟩])
 (.cond (.tmp 4) (.seq (.region [⟨some 5, .move (.tmp 0), none⟩,
  ⟨some 6, .conv .u64 (.tmp 5), none⟩,
  ⟨some 7, .un .neg (.tmp 6), none⟩,
  ⟨some 2, .move (.tmp 7), none⟩])
 (.ret))
 (.skip)))
 (.seq (.region [⟨some 8, .move (.tmp 0), none⟩,
  ⟨some 9, .conv .u64 (.tmp 8), none⟩,
  ⟨some 2, .move (.tmp 9), none⟩])
 (.ret)))
theorem light47 : Light Try.prog 47 1 10 L47 [.tmp 2] :=
  ⟨Try.f47, _, Try.func47, rfl, rfl, by kernel_rfl, by kernel_rfl, by decide⟩

/-! ### function 48: outrider/outriderref01.size -/
def L48 : LCode :=
 .seq (.region [⟨some 2, .move (.const (.int .u64 0)), none⟩])
 (.seq (.seq (.region [⟨some 3, .move (.tmp 0), none⟩,
  ⟨some 4, .bin .lss (.tmp 3) (.const (.int .i64 0)), none⟩])
 (.cond (.tmp 4) (.seq (.region [⟨some 5, .move (.tmp 0), none⟩,
  ⟨some 6, .call 61 [.tmp 5], none⟩,
  ⟨some 7, .conv .u64 (.tmp 6), none⟩,
  ⟨some 2, .move (.tmp 7), none⟩])
 (.ret))
 (.skip)))
 (.seq (.region [⟨some 8, .move (.tmp 0), none⟩,
  ⟨some 9, .conv .u64 (.tmp 8), none⟩,
  ⟨some 2, .move (.tmp 9), none⟩])
 (.ret)))
theorem light48 : Light Try.prog 48 1 10 L48 [.tmp 2] :=
  ⟨Try.f48, _, Try.func48, rfl, rfl, by kernel_rfl, by kernel_rfl, by decide⟩

/-! ### function 49: outrider/outriderref01.Long -/
def L49_1 : LCode :=
 .seq (.seq (.region [⟨some 10, .move (.tmp 8), none⟩,
  ⟨some 11, .bin .geq (.tmp 10) (.const (.int .i64 0)), none⟩])
 (.cond (.tmp 11) (.skip)
 (.exit 0)))
 (.seq (.block 1 (.seq (.region [⟨some 14, .move (.tmp 7), none⟩,
  ⟨some 15, .bin .shr (.tmp 14) (.const (.int .u64 63)), none⟩,
  ⟨some 16, .bin .eql (.tmp 15) (.const (.int .u64 1)), none⟩,
  ⟨some 9, .move (.tmp 16), none⟩])
 (.seq (.region [⟨some 17, .move (.tmp 7), none⟩,
  ⟨some 18, .bin .shl (.tmp 17) (.const (.int .u64 1)), none⟩,
  ⟨some 19, .move (.tmp 0), none⟩,
  ⟨some 20, .move (.tmp 8), none⟩,
  ⟨some 21, .conv .u64 (.tmp 20), none⟩,
  ⟨some 22, .bin .shr (.tmp 19) (.tmp 21), none⟩,
  ⟨some 23, .bin .and (.tmp 22) (.const (.int .u64 1)), none⟩,
  ⟨some 24, .bin .or (.tmp 18) (.tmp 23), none⟩,
  ⟨some 7, .move (.tmp 24), none⟩])
 (.seq (.region [⟨some 25, .move (.tmp 6), none⟩,
  ⟨some 26, .bin .shl (.tmp 25) (.const (.int .u64 1)), none⟩,
  ⟨some 6, .move (.tmp 26), none⟩])
 (.seq (.region [⟨some 27, .move (.tmp 9), none⟩,
  ⟨some 28, .move (.tmp 27), none⟩,
  ⟨some 29, .move (.tmp 7), (some (28, false))⟩,
  ⟨some 30, .move (.tmp 1), (some (28, false))⟩,
  ⟨some 31, .bin .geq (.tmp 29) (.tmp 30), (some (28, false))⟩,
  ⟨some 32, .pick (.tmp 28) (.const (.bool true)) (.tmp 31), none⟩])
 (.cond (.tmp 32) (.seq (.region [⟨some 33, .move (.tmp 7), none⟩,
  ⟨some 34, .move (.tmp 1), none⟩,
  ⟨some 35, .bin .sub (.tmp 33) (.tmp 34), none⟩,
  ⟨some 7, .move (.tmp 35), none⟩])
 (.region [⟨some 36, .move (.tmp 6), none⟩,
  ⟨some 37, .bin .or (.tmp 36) (.const (.int .u64 1)), none⟩,
  ⟨some 6, .move (.tmp 37), none⟩]))
 (.skip)))))))
 (.region [⟨some 12, .move (.tmp 8), none⟩,
  ⟨some 13, .bin .sub (.tmp 12) (.const (.int .i64 1)), none⟩,
  ⟨some 8, .move (.tmp 13), none⟩]))
def L49 : LCode :=
 .seq (.region [⟨some 4, .move (.const (.int .u64 0)), none⟩,
  ⟨some 5, .move (.const (.int .u64 0)), none⟩])
 (.seq (.region [⟨some 6, .move (.const (.int .u64 0)), none⟩,
  ⟨some 7, .move (.const (.int .u64 0)), none⟩])
 (.seq (.seq (.region [⟨some 8, .move (.const (.int .i64 63)), none⟩])
 (.block 0 (.loop L49_1)))
 (.seq (.region [⟨some 38, .move (.tmp 6), none⟩,
  ⟨some 39, .move (.tmp 7), none⟩,
  ⟨some 4, .move (.tmp 38), none⟩,
  ⟨some 5, .move (.tmp 39), none⟩])
 (.ret))))
theorem light49 : Light Try.prog 49 2 40 L49 [.tmp 4, .tmp 5] :=
  ⟨Try.f49, _, Try.func49, rfl, rfl, by kernel_rfl, by kernel_rfl, by decide⟩

/-! ### function 59: outrider/num.Parse -/
def L59_1 : LCode :=
 .seq (.region [⟨some 37, .bin .lss (.tmp 36) (.tmp 35), none⟩])
 (.seq (.cond (.tmp 37) (.skip)
 (.exit 0))
 (.seq (.block 1 (.seq (.region [⟨some 38, .move (.tmp 36), none⟩,
  ⟨some 6, .move (.tmp 38), none⟩])
 (.seq (.region [⟨some 39, .move (.tmp 4), none⟩,
  ⟨some 40, .move (.tmp 6), none⟩,
  ⟨some 41, .idxStr (.tmp 39) (.tmp 40), none⟩,
  ⟨some 42, .bin .lss (.tmp 41) (.const (.int .u8 48)), none⟩,
  ⟨some 43, .move (.tmp 42), none⟩,
  ⟨some 44, .move (.tmp 4), (some (43, false))⟩,
  ⟨some 45, .move (.tmp 6), (some (43, false))⟩,
  ⟨some 46, .idxStr (.tmp 44) (.tmp 45), (some (43, false))⟩,
  ⟨some 47, .bin .gtr (.tmp 46) (.const (.int .u8 57)), (some (43, false))⟩,
  ⟨some 48, .pick (.tmp 43) (.const (.bool true)) (.tmp 47), none⟩])
 (.cond (.tmp 48) (.seq (.region [⟨some 2, .move (.const (.int .i64 0)), none⟩,
  ⟨some 3, .move (.const (.int .i64 10)), none⟩])
 (.ret))
 (.skip)))))
 (.region [⟨some 49, .bin .add (.tmp 36) (.const (.int .i64 1)), none⟩,
  ⟨some 36, .move (.tmp 49), none⟩])))
def L59 : LCode :=
 .seq (.region [⟨some 2, .move (.const (.int .i64 0)), none⟩,
  ⟨some 3, .move (.const (.int .i64 0)), none⟩])
 (.seq (.region [⟨some 9, .move (.tmp 0), none⟩,
  ⟨some 4, .move (.tmp 9), none⟩,
  ⟨some 5, .move (.const (.bool false)), none⟩])
 (.seq (.seq (.region [⟨some 10, .move (.tmp 4), none⟩,
  ⟨some 11, .bin .neq (.tmp 10) (.const (.string ByteArray.empty)), none⟩,
  ⟨some 12, .move (.tmp 11), none⟩,
  ⟨some 13, .move (.tmp 4), (some (12, true))⟩,
  ⟨some 14, .idxStr (.tmp 13) (.const (.int .i64 0)), (some (12, true))⟩,
  ⟨some 15, .bin .eql (.tmp 14) (.const (.int .u8 45)), (some (12, true))⟩,
  ⟨some 16, .pick (.tmp 12) (.tmp 15) (.const (.bool false)), none⟩])
 (.cond (.tmp 16) (.region [⟨some 17, .move (.tmp 4), none⟩,
  ⟨some 18, .sliceStr (.tmp 17) (some (.const (.int .i64 1))) none, none⟩,
  ⟨some 4, .move (.tmp 18), none⟩,
  ⟨some 5, .move (.const (.bool true)), none⟩])
 (.skip)))
 (.seq (.seq (.region [⟨some 19, .move (.tmp 4), none⟩,
  ⟨some 20, .bin .eql (.tmp 19) (.const (.string ByteArray.empty)), none⟩,
  ⟨some 21, .move (.tmp 20), none⟩,
  ⟨some 22, .move (.tmp 4), (some (21, false))⟩,
  ⟨some 23, .idxStr (.tmp 22) (.const (.int .i64 0)), (some (21, false))⟩,
  ⟨some 24, .bin .eql (.tmp 23) (.const (.int .u8 48)), (some (21, false))⟩,
  ⟨some 25, .move (.tmp 24), (some (21, false))⟩,
  ⟨some 26, .move (.tmp 4), (some (25, true))⟩,
  ⟨some 27, .lenS (.tmp 26), (some (25, true))⟩,
  ⟨some 28, .bin .gtr (.tmp 27) (.const (.int .i64 1)), (some (25, true))⟩,
  ⟨some 29, .move (.tmp 28), (some (25, true))⟩,
  ⟨some 30, .move (.tmp 5), (some (29, false))⟩,
  ⟨some 31, .pick (.tmp 29) (.const (.bool true)) (.tmp 30), (some (25, true))⟩,
  ⟨some 32, .pick (.tmp 25) (.tmp 31) (.const (.bool false)), (some (21, false))⟩,
  ⟨some 33, .pick (.tmp 21) (.const (.bool true)) (.tmp 32), none⟩])
 (.cond (.tmp 33) (.seq (.region [⟨some 2, .move (.const (.int .i64 0)), none⟩,
  ⟨some 3, .move (.const (.int .i64 10)), none⟩])
 (.ret))
 (.skip)))
 (.seq (.seq (.region [⟨some 34, .move (.tmp 4), none⟩,
  ⟨some 35, .lenS (.tmp 34), none⟩,
  ⟨some 36, .move (.const (.int .i64 0)), none⟩])
 (.block 0 (.loop L59_1)))
 (.seq (.region [⟨some 51, .move (.tmp 4), none⟩,
  ⟨some 52, .call 70 [.tmp 51], none⟩,
  ⟨some 50, .move (.tmp 52), none⟩,
  ⟨some 53, .extract (.tmp 50) 0, none⟩,
  ⟨some 54, .extract (.tmp 50) 1, none⟩,
  ⟨some 7, .move (.tmp 53), none⟩,
  ⟨some 8, .move (.tmp 54), none⟩])
 (.seq (.block 2 (.seq (.seq (.region [⟨some 56, .move (.tmp 8), none⟩,
  ⟨some 57, .un .not (.tmp 56), none⟩,
  ⟨some 55, .move (.tmp 57), none⟩])
 (.cond (.tmp 55) (.skip)
 (.seq (.region [⟨some 58, .move (.tmp 5), none⟩,
  ⟨some 59, .move (.tmp 58), none⟩,
  ⟨some 60, .move (.tmp 7), (some (59, true))⟩,
  ⟨some 61, .bin .gtr (.tmp 60) (.const (.int .u64 9223372036854775808)), (some (59, true))⟩,
  ⟨some 62, .pick (.tmp 59) (.tmp 61) (.const (.bool false)), none⟩,
  ⟨some 55, .move (.tmp 62), none⟩])
 (.cond (.tmp 55) (.skip)
 (.region [⟨some 63, .move (.tmp 5), none⟩,
  ⟨some 64, .un .not (.tmp 63), none⟩,
  ⟨some 65, .move (.tmp 64), none⟩,
  ⟨some 66, .move (.tmp 7), (some (65, true))⟩,
  ⟨some 67, .bin .gtr (.tmp 66) (.const (.int .u64 9223372036854775807)), (some (65, true))⟩,
  ⟨some 68, .pick (.tmp 65) (.tmp 67) (.const (.bool false)), none⟩,
  ⟨some 55, .move (.tmp 68), none⟩])))))
 (.cond (.tmp 55) (.seq (.region [⟨some 2, .move (.const (.int .i64 0)), none⟩,
  ⟨some 3, .move (.const (.int .i64 11)), none⟩])
 (.ret))
 (.seq (.region [⟨some 70, .move (.tmp 5), none⟩,
  ⟨some 69, .move (.tmp 70), none⟩])
 (.cond (.tmp 69) (.seq (.region [⟨some 71, .move (.tmp 7), none⟩,
  ⟨some 72, .un .neg (.tmp 71), none⟩,
  ⟨some 73, .conv .i64 (.tmp 72), none⟩,
  ⟨some 2, .move (.tmp 73), none⟩,
  ⟨some 3, .move (.const (.int .i64 0)), none⟩])
 (.ret))
 (.skip))))))
 (.seq (.region [⟨some 74, .move (.tmp 7), none⟩,
  ⟨some 75, .conv .i64 (.tmp 74), none⟩,
  ⟨some 2, .move (.tmp 75), none⟩,
  ⟨some 3, .move (.const (.int .i64 0)), none⟩])
 (.ret))))))))
theorem light59 : Light Try.prog 59 1 76 L59 [.tmp 2, .tmp 3] :=
  ⟨Try.f59, _, Try.func59, rfl, rfl, by kernel_rfl, by kernel_rfl, by decide⟩

/-! ### function 60: outrider/outriderref01.Parse -/
def L60_1 : LCode :=
 .seq (.seq (.region [⟨some 32, .move (.tmp 5), none⟩,
  ⟨some 33, .move (.tmp 4), none⟩,
  ⟨some 34, .lenS (.tmp 33), none⟩,
  ⟨some 35, .bin .lss (.tmp 32) (.tmp 34), none⟩])
 (.cond (.tmp 35) (.skip)
 (.exit 0)))
 (.seq (.block 1 (.seq (.region [⟨some 38, .move (.tmp 4), none⟩,
  ⟨some 39, .move (.tmp 5), none⟩,
  ⟨some 40, .idxStr (.tmp 38) (.tmp 39), none⟩,
  ⟨some 41, .bin .lss (.tmp 40) (.const (.int .u8 48)), none⟩,
  ⟨some 42, .move (.tmp 41), none⟩,
  ⟨some 43, .move (.tmp 4), (some (42, false))⟩,
  ⟨some 44, .move (.tmp 5), (some (42, false))⟩,
  ⟨some 45, .idxStr (.tmp 43) (.tmp 44), (some (42, false))⟩,
  ⟨some 46, .bin .gtr (.tmp 45) (.const (.int .u8 57)), (some (42, false))⟩,
  ⟨some 47, .pick (.tmp 42) (.const (.bool true)) (.tmp 46), none⟩])
 (.cond (.tmp 47) (.seq (.region [⟨some 2, .move (.const (.int .i64 0)), none⟩,
  ⟨some 3, .move (.const (.int .i64 10)), none⟩])
 (.ret))
 (.skip))))
 (.region [⟨some 36, .move (.tmp 5), none⟩,
  ⟨some 37, .bin .add (.tmp 36) (.const (.int .i64 1)), none⟩,
  ⟨some 5, .move (.tmp 37), none⟩]))
def L60_2 : LCode :=
 .seq (.seq (.region [⟨some 68, .move (.tmp 8), none⟩,
  ⟨some 69, .move (.tmp 4), none⟩,
  ⟨some 70, .lenS (.tmp 69), none⟩,
  ⟨some 71, .bin .lss (.tmp 68) (.tmp 70), none⟩])
 (.cond (.tmp 71) (.skip)
 (.exit 2)))
 (.seq (.block 3 (.draw [⟨⟨some 74, .move (.tmp 7), none⟩, .pure, 0, 0⟩,
  ⟨⟨some 75, .call 72 [.tmp 74, .const (.int .i64 10)], none⟩, .heavy, 0, 1⟩,
  ⟨⟨some 76, .move (.tmp 4), none⟩, .pure, 0, 1⟩,
  ⟨⟨some 77, .move (.tmp 8), none⟩, .pure, 0, 1⟩,
  ⟨⟨some 78, .idxStr (.tmp 76) (.tmp 77), none⟩, .pure, 0, 1⟩,
  ⟨⟨some 79, .bin .sub (.tmp 78) (.const (.int .u8 48)), none⟩, .pure, 0, 1⟩,
  ⟨⟨some 80, .conv .i64 (.tmp 79), none⟩, .pure, 0, 1⟩,
  ⟨⟨some 81, .call 71 [.tmp 75, .tmp 80], none⟩, .heavy, 1, 2⟩,
  ⟨⟨some 7, .move (.tmp 81), none⟩, .pure, 2, 2⟩]))
 (.region [⟨some 72, .move (.tmp 8), none⟩,
  ⟨some 73, .bin .add (.tmp 72) (.const (.int .i64 1)), none⟩,
  ⟨some 8, .move (.tmp 73), none⟩]))
def L60 : LCode :=
 .seq (.region [⟨some 2, .move (.const (.int .i64 0)), none⟩,
  ⟨some 3, .move (.const (.int .i64 0)), none⟩])
 (.seq (.region [⟨some 9, .move (.tmp 0), none⟩,
  ⟨some 4, .move (.tmp 9), none⟩])
 (.seq (.seq (.region [⟨some 10, .move (.tmp 4), none⟩,
  ⟨some 11, .lenS (.tmp 10), none⟩,
  ⟨some 12, .bin .gtr (.tmp 11) (.const (.int .i64 0)), none⟩,
  ⟨some 13, .move (.tmp 12), none⟩,
  ⟨some 14, .move (.tmp 4), (some (13, true))⟩,
  ⟨some 15, .idxStr (.tmp 14) (.const (.int .i64 0)), (some (13, true))⟩,
  ⟨some 16, .bin .eql (.tmp 15) (.const (.int .u8 45)), (some (13, true))⟩,
  ⟨some 17, .pick (.tmp 13) (.tmp 16) (.const (.bool false)), none⟩])
 (.cond (.tmp 17) (.region [⟨some 18, .move (.tmp 4), none⟩,
  ⟨some 19, .sliceStr (.tmp 18) (some (.const (.int .i64 1))) none, none⟩,
  ⟨some 4, .move (.tmp 19), none⟩])
 (.skip)))
 (.seq (.seq (.region [⟨some 20, .move (.tmp 4), none⟩,
  ⟨some 21, .lenS (.tmp 20), none⟩,
  ⟨some 22, .bin .eql (.tmp 21) (.const (.int .i64 0)), none⟩,
  ⟨some 23, .move (.tmp 22), none⟩,
  ⟨some 24, .move (.tmp 4), (some (23, false))⟩,
  ⟨some 25, .idxStr (.tmp 24) (.const (.int .i64 0)), (some (23, false))⟩,
  ⟨some 26, .bin .eql (.tmp 25) (.const (.int .u8 48)), (some (23, false))⟩,
  ⟨some 27, .move (.tmp 26), (some (23, false))⟩,
  ⟨some 28, .move (.tmp 0), (some (27, true))⟩,
  ⟨some 29, .bin .neq (.tmp 28) (.const (.string ⟨#[48]⟩)), (some (27, true))⟩,
  ⟨some 30, .pick (.tmp 27) (.tmp 29) (.const (.bool false)), (some (23, false))⟩,
  ⟨some 31, .pick (.tmp 23) (.const (.bool true)) (.tmp 30), none⟩])
 (.cond (.tmp 31) (.seq (.region [⟨some 2, .move (.const (.int .i64 0)), none⟩,
  ⟨some 3, .move (.const (.int .i64 10)), none⟩])
 (.ret))
 (.skip)))
 (.seq (.seq (.region [⟨some 5, .move (.const (.int .i64 0)), none⟩])
 (.block 0 (.loop L60_1)))
 (.seq (.region [⟨some 6, .move (.const (.string ⟨#[57, 50, 50, 51, 51, 55, 50, 48, 51, 54, 56, 53, 52, 55, 55, 53, 56, 48, 55]⟩)), none⟩])
 (.seq (.seq (.region [⟨some 48, .move (.tmp 4), none⟩,
  ⟨some 49, .move (.tmp 0), none⟩,
  ⟨some 50, .bin .neq (.tmp 48) (.tmp 49), none⟩])
 (.cond (.tmp 50) (.region [⟨some 6, .move (.const (.string ⟨#[57, 50, 50, 51, 51, 55, 50, 48, 51, 54, 56, 53, 52, 55, 55, 53, 56, 48, 56]⟩)), none⟩])
 (.skip)))
 (.seq (.seq (.region [⟨some 51, .move (.tmp 4), none⟩,
  ⟨some 52, .lenS (.tmp 51), none⟩,
  ⟨some 53, .move (.tmp 6), none⟩,
  ⟨some 54, .lenS (.tmp 53), none⟩,
  ⟨some 55, .bin .gtr (.tmp 52) (.tmp 54), none⟩,
  ⟨some 56, .move (.tmp 55), none⟩,
  ⟨some 57, .move (.tmp 4), (some (56, false))⟩,
  ⟨some 58, .lenS (.tmp 57), (some (56, false))⟩,
  ⟨some 59, .move (.tmp 6), (some (56, false))⟩,
  ⟨some 60, .lenS (.tmp 59), (some (56, false))⟩,
  ⟨some 61, .bin .eql (.tmp 58) (.tmp 60), (some (56, false))⟩,
  ⟨some 62, .move (.tmp 61), (some (56, false))⟩,
  ⟨some 63, .move (.tmp 4), (some (62, true))⟩,
  ⟨some 64, .move (.tmp 6), (some (62, true))⟩,
  ⟨some 65, .bin .gtr (.tmp 63) (.tmp 64), (some (62, true))⟩,
  ⟨some 66, .pick (.tmp 62) (.tmp 65) (.const (.bool false)), (some (56, false))⟩,
  ⟨some 67, .pick (.tmp 56) (.const (.bool true)) (.tmp 66), none⟩])
 (.cond (.tmp 67) (.seq (.region [⟨some 2, .move (.const (.int .i64 0)), none⟩,
  ⟨some 3, .move (.const (.int .i64 11)), none⟩])
 (.ret))
 (.skip)))
 (.seq (.region [⟨some 7, .move (.const (.int .i64 0)), none⟩])
 (.seq (.seq (.region [⟨some 8, .move (.const (.int .i64 0)), none⟩])
 (.block 2 (.loop L60_2)))
 (.seq (.seq (.region [⟨some 82, .move (.tmp 4), none⟩,
  ⟨some 83, .move (.tmp 0), none⟩,
  ⟨some 84, .bin .neq (.tmp 82) (.tmp 83), none⟩])
 (.cond (.tmp 84) (.region [⟨some 85, .move (.tmp 7), none⟩,
  ⟨some 86, .call 61 [.tmp 85], none⟩,
  ⟨some 7, .move (.tmp 86), none⟩])
 (.skip)))
 (.seq (.region [⟨some 87, .move (.tmp 7), none⟩,
  ⟨some 2, .move (.tmp 87), none⟩,
  ⟨some 3, .move (.const (.int .i64 0)), none⟩])
 (.ret))))))))))))
theorem light60 : Light Try.prog 60 1 88 L60 [.tmp 2, .tmp 3] :=
  ⟨Try.f60, _, Try.func60, rfl, rfl, by kernel_rfl, by kernel_rfl, by decide⟩

/-! ### function 61: outrider/outriderref01.neg -/
def L61 : LCode :=
 .seq (.region [⟨some 2, .move (.const (.int .i64 0)), none⟩])
 (.seq (.region [⟨some 3, .move (.tmp 0), none⟩,
  ⟨some 4, .call 73 [.tmp 3], none⟩,
  ⟨some 5, .call 71 [.tmp 4, .const (.int .i64 1)], none⟩,
  ⟨some 2, .move (.tmp 5), none⟩])
 (.ret))
theorem light61 : Light Try.prog 61 1 6 L61 [.tmp 2] :=
  ⟨Try.f61, _, Try.func61, rfl, rfl, by kernel_rfl, by kernel_rfl, by decide⟩

/-! ### function 70: outrider/num.sum -/
def L70_1 : LCode :=
 .seq (.region [⟨some 10, .bin .lss (.tmp 9) (.tmp 8), none⟩])
 (.seq (.cond (.tmp 10) (.skip)
 (.exit 0))
 (.seq (.block 1 (.seq (.region [⟨some 11, .move (.tmp 9), none⟩,
  ⟨some 5, .move (.tmp 11), none⟩])
 (.seq (.region [⟨some 12, .move (.tmp 0), none⟩,
  ⟨some 13, .move (.tmp 5), none⟩,
  ⟨some 14, .idxStr (.tmp 12) (.tmp 13), none⟩,
  ⟨some 15, .bin .sub (.tmp 14) (.const (.int .u8 48)), none⟩,
  ⟨some 16, .conv .u64 (.tmp 15), none⟩,
  ⟨some 6, .move (.tmp 16), none⟩])
 (.seq (.seq (.region [⟨some 17, .move (.tmp 4), none⟩,
  ⟨some 18, .move (.tmp 6), none⟩,
  ⟨some 19, .bin .sub (.const (.int .u64 18446744073709551615)) (.tmp 18), none⟩,
  ⟨some 20, .bin .quo (.tmp 19) (.const (.int .u64 10)), none⟩,
  ⟨some 21, .bin .gtr (.tmp 17) (.tmp 20), none⟩])
 (.cond (.tmp 21) (.seq (.region [⟨some 2, .move (.const (.int .u64 0)), none⟩,
  ⟨some 3, .move (.const (.bool false)), none⟩])
 (.ret))
 (.skip)))
 (.region [⟨some 22, .move (.tmp 4), none⟩,
  ⟨some 23, .bin .mul (.tmp 22) (.const (.int .u64 10)), none⟩,
  ⟨some 24, .move (.tmp 6), none⟩,
  ⟨some 25, .bin .add (.tmp 23) (.tmp 24), none⟩,
  ⟨some 4, .move (.tmp 25), none⟩])))))
 (.region [⟨some 26, .bin .add (.tmp 9) (.const (.int .i64 1)), none⟩,
  ⟨some 9, .move (.tmp 26), none⟩])))
def L70 : LCode :=
 .seq (.region [⟨some 2, .move (.const (.int .u64 0)), none⟩,
  ⟨some 3, .move (.const (.bool false)), none⟩])
 (.seq (.region [⟨some 4, .move (.const (.int .u64 0)), none⟩])
 (.seq (.seq (.region [⟨some 7, .move (.tmp 0), none⟩,
  ⟨some 8, .lenS (.tmp 7), none⟩,
  ⟨some 9, .move (.const (.int .i64 0)), none⟩])
 (.block 0 (.loop L70_1)))
 (.seq (.region [⟨some 27, .move (.tmp 4), none⟩,
  ⟨some 2, .move (.tmp 27), none⟩,
  ⟨some 3, .move (.const (.bool true)), none⟩])
 (.ret))))
theorem light70 : Light Try.prog 70 1 28 L70 [.tmp 2, .tmp 3] :=
  ⟨Try.f70, _, Try.func70, rfl, rfl, by kernel_rfl, by kernel_rfl, by decide⟩

/-! ### function 71: outrider/outriderref01.add -/
def L71 : LCode :=
 .seq (.region [⟨some 4, .move (.const (.int .i64 0)), none⟩])
 (.seq (.region [⟨some 11, .move (.tmp 0), none⟩,
  ⟨some 12, .call 79 [.tmp 11], none⟩,
  ⟨some 10, .move (.tmp 12), none⟩,
  ⟨some 13, .extract (.tmp 10) 0, none⟩,
  ⟨some 14, .extract (.tmp 10) 1, none⟩,
  ⟨some 5, .move (.tmp 13), none⟩,
  ⟨some 6, .move (.tmp 14), none⟩])
 (.seq (.region [⟨some 16, .move (.tmp 1), none⟩,
  ⟨some 17, .call 79 [.tmp 16], none⟩,
  ⟨some 15, .move (.tmp 17), none⟩,
  ⟨some 18, .extract (.tmp 15) 0, none⟩,
  ⟨some 19, .extract (.tmp 15) 1, none⟩,
  ⟨some 7, .move (.tmp 18), none⟩,
  ⟨some 8, .move (.tmp 19), none⟩])
 (.seq (.region [⟨some 20, .move (.tmp 5), none⟩,
  ⟨some 21, .move (.tmp 7), none⟩,
  ⟨some 22, .bin .add (.tmp 20) (.tmp 21), none⟩,
  ⟨some 9, .move (.tmp 22), none⟩])
 (.seq (.region [⟨some 23, .move (.tmp 9), none⟩,
  ⟨some 24, .move (.tmp 6), none⟩,
  ⟨some 25, .move (.tmp 8), none⟩,
  ⟨some 26, .bin .add (.tmp 24) (.tmp 25), none⟩,
  ⟨some 27, .move (.tmp 9), none⟩,
  ⟨some 28, .bin .shr (.tmp 27) (.const (.int .u64 32)), none⟩,
  ⟨some 29, .bin .add (.tmp 26) (.tmp 28), none⟩,
  ⟨some 30, .call 80 [.tmp 23, .tmp 29], none⟩,
  ⟨some 4, .move (.tmp 30), none⟩])
 (.ret)))))
theorem light71 : Light Try.prog 71 2 31 L71 [.tmp 4] :=
  ⟨Try.f71, _, Try.func71, rfl, rfl, by kernel_rfl, by kernel_rfl, by decide⟩

/-! ### function 72: outrider/outriderref01.mul -/
def L72_1 : LCode :=
 .seq (.seq (.region [⟨some 7, .move (.tmp 6), none⟩,
  ⟨some 8, .bin .lss (.tmp 7) (.const (.int .i64 64)), none⟩])
 (.cond (.tmp 8) (.skip)
 (.exit 0)))
 (.seq (.block 1 (.seq (.seq (.region [⟨some 11, .move (.tmp 1), none⟩,
  ⟨some 12, .move (.tmp 6), none⟩,
  ⟨some 13, .call 81 [.tmp 11, .tmp 12], none⟩])
 (.cond (.tmp 13) (.region [⟨some 14, .move (.tmp 5), none⟩,
  ⟨some 15, .move (.tmp 0), none⟩,
  ⟨some 16, .call 71 [.tmp 14, .tmp 15], none⟩,
  ⟨some 5, .move (.tmp 16), none⟩])
 (.skip)))
 (.region [⟨some 17, .move (.tmp 0), none⟩,
  ⟨some 18, .move (.tmp 0), none⟩,
  ⟨some 19, .call 71 [.tmp 17, .tmp 18], none⟩,
  ⟨some 0, .move (.tmp 19), none⟩])))
 (.region [⟨some 9, .move (.tmp 6), none⟩,
  ⟨some 10, .bin .add (.tmp 9) (.const (.int .i64 1)), none⟩,
  ⟨some 6, .move (.tmp 10), none⟩]))
def L72 : LCode :=
 .seq (.region [⟨some 4, .move (.const (.int .i64 0)), none⟩])
 (.seq (.region [⟨some 5, .move (.const (.int .i64 0)), none⟩])
 (.seq (.seq (.region [⟨some 6, .move (.const (.int .i64 0)), none⟩])
 (.block 0 (.loop L72_1)))
 (.seq (.region [⟨some 20, .move (.tmp 5), none⟩,
  ⟨some 4, .move (.tmp 20), none⟩])
 (.ret))))
theorem light72 : Light Try.prog 72 2 21 L72 [.tmp 4] :=
  ⟨Try.f72, _, Try.func72, rfl, rfl, by kernel_rfl, by kernel_rfl, by decide⟩

/-! ### function 73: outrider/outriderref01.com -/
def L73 : LCode :=
 .seq (.region [⟨some 2, .move (.const (.int .i64 0)), none⟩])
 (.seq (.region [⟨some 6, .move (.tmp 0), none⟩,
  ⟨some 7, .call 79 [.tmp 6], none⟩,
  ⟨some 5, .move (.tmp 7), none⟩,
  ⟨some 8, .extract (.tmp 5) 0, none⟩,
  ⟨some 9, .extract (.tmp 5) 1, none⟩,
  ⟨some 3, .move (.tmp 8), none⟩,
  ⟨some 4, .move (.tmp 9), none⟩])
 (.seq (.region [⟨some 10, .move (.tmp 3), none⟩,
  ⟨some 11, .bin .sub (.const (.int .u64 4294967295)) (.tmp 10), none⟩,
  ⟨some 12, .move (.tmp 4), none⟩,
  ⟨some 13, .bin .sub (.const (.int .u64 4294967295)) (.tmp 12), none⟩,
  ⟨some 14, .call 80 [.tmp 11, .tmp 13], none⟩,
  ⟨some 2, .move (.tmp 14), none⟩])
 (.ret)))
theorem light73 : Light Try.prog 73 1 15 L73 [.tmp 2] :=
  ⟨Try.f73, _, Try.func73, rfl, rfl, by kernel_rfl, by kernel_rfl, by decide⟩

/-! ### function 79: outrider/outriderref01.half -/
def L79 : LCode :=
 .seq (.region [⟨some 2, .move (.const (.int .u64 0)), none⟩,
  ⟨some 3, .move (.const (.int .u64 0)), none⟩])
 (.seq (.region [⟨some 4, .move (.tmp 0), none⟩,
  ⟨some 5, .conv .u64 (.tmp 4), none⟩,
  ⟨some 6, .bin .and (.tmp 5) (.const (.int .u64 4294967295)), none⟩,
  ⟨some 7, .move (.tmp 0), none⟩,
  ⟨some 8, .conv .u64 (.tmp 7), none⟩,
  ⟨some 9, .bin .shr (.tmp 8) (.const (.int .u64 32)), none⟩,
  ⟨some 2, .move (.tmp 6), none⟩,
  ⟨some 3, .move (.tmp 9), none⟩])
 (.ret))
theorem light79 : Light Try.prog 79 1 10 L79 [.tmp 2, .tmp 3] :=
  ⟨Try.f79, _, Try.func79, rfl, rfl, by kernel_rfl, by kernel_rfl, by decide⟩

/-! ### function 80: outrider/outriderref01.whole -/
def L80 : LCode :=
 .seq (.region [⟨some 4, .move (.const (.int .i64 0)), none⟩])
 (.seq (.region [⟨some 5, .move (.tmp 1), none⟩,
  ⟨some 6, .bin .shl (.tmp 5) (.const (.int .u64 32)), none⟩,
  ⟨some 7, .move (.tmp 0), none⟩,
  ⟨some 8, .bin .and (.tmp 7) (.const (.int .u64 4294967295)), none⟩,
  ⟨some 9, .bin .or (.tmp 6) (.tmp 8), none⟩,
  ⟨some 10, .conv .i64 (.tmp 9), none⟩,
  ⟨some 4, .move (.tmp 10), none⟩])
 (.ret))
theorem light80 : Light Try.prog 80 2 11 L80 [.tmp 4] :=
  ⟨Try.f80, _, Try.func80, rfl, rfl, by kernel_rfl, by kernel_rfl, by decide⟩

/-! ### function 81: outrider/outriderref01.bit -/
def L81 : LCode :=
 .seq (.region [⟨some 4, .move (.const (.bool false)), none⟩])
 (.seq (.region [⟨some 5, .move (.tmp 0), none⟩,
  ⟨some 6, .conv .u64 (.tmp 5), none⟩,
  ⟨some 7, .move (.tmp 1), none⟩,
  ⟨some 8, .conv .u64 (.tmp 7), none⟩,
  ⟨some 9, .bin .shr (.tmp 6) (.tmp 8), none⟩,
  ⟨some 10, .bin .and (.tmp 9) (.const (.int .u64 1)), none⟩,
  ⟨some 11, .bin .eql (.tmp 10) (.const (.int .u64 1)), none⟩,
  ⟨some 4, .move (.tmp 11), none⟩])
 (.ret))
theorem light81 : Light Try.prog 81 2 12 L81 [.tmp 4] :=
  ⟨Try.f81, _, Try.func81, rfl, rfl, by kernel_rfl, by kernel_rfl, by decide⟩

end Go.Proofs.Ytmdlfenileiaeaa
