/-
  The light code of functions of this seat: printed by a program of this session (wip/tools/lightgen.py); each is held against the program by the kernel.
-/
import Derived.Test.YtmdlfenileiaeaaOtT
import Derived.KernelRfl
import Derived.Test.YtmdlfenileiaeaaProg
set_option maxRecDepth 100000
namespace Go.Proofs.Ytmdlfenileiaeaa
open Go.Ot

/-! ### function 7: outrider/outriderlaw25.ScriptBounds -/
def L7 : LCode :=
 .seq (.region [⟨some 2, .box 55 23 (.tmp 0), none⟩,
  ⟨some 4, .move (.const (.bool false)), none⟩])
 (.seq (.seq (.region [⟨some 15, .load true 23 (.tmp 2), none⟩,
  ⟨some 16, .call 17 [.tmp 15, .const (.int .i64 1073741824)], none⟩])
 (.cond (.tmp 16) (.seq (.region [⟨some 4, .move (.const (.bool true)), none⟩])
 (.ret))
 (.skip)))
 (.seq (.region [⟨some 18, .off 0 (.tmp 2), none⟩,
  ⟨some 19, .load true 11 (.tmp 18), none⟩,
  ⟨some 20, .off 11 (.tmp 2), none⟩,
  ⟨some 21, .load true 11 (.tmp 20), none⟩,
  ⟨some 22, .call 18 [.tmp 19, .tmp 21], none⟩,
  ⟨some 17, .move (.tmp 22), none⟩,
  ⟨some 23, .extract (.tmp 17) 0, none⟩,
  ⟨some 24, .extract (.tmp 17) 1, none⟩,
  ⟨some 5, .move (.tmp 23), none⟩,
  ⟨some 6, .move (.tmp 24), none⟩])
 (.seq (.region [⟨some 26, .off 0 (.tmp 2), none⟩,
  ⟨some 27, .load true 11 (.tmp 26), none⟩,
  ⟨some 28, .off 11 (.tmp 2), none⟩,
  ⟨some 29, .load true 11 (.tmp 28), none⟩,
  ⟨some 30, .call 19 [.tmp 27, .tmp 29], none⟩,
  ⟨some 25, .move (.tmp 30), none⟩,
  ⟨some 31, .extract (.tmp 25) 0, none⟩,
  ⟨some 32, .extract (.tmp 25) 1, none⟩,
  ⟨some 7, .move (.tmp 31), none⟩,
  ⟨some 8, .move (.tmp 32), none⟩])
 (.seq (.seq (.region [⟨some 33, .move (.tmp 5), none⟩,
  ⟨some 34, .move (.tmp 7), none⟩,
  ⟨some 35, .bin .neq (.tmp 33) (.tmp 34), none⟩,
  ⟨some 36, .move (.tmp 35), none⟩,
  ⟨some 37, .move (.tmp 6), (some (36, false))⟩,
  ⟨some 38, .move (.tmp 8), (some (36, false))⟩,
  ⟨some 39, .bin .neq (.tmp 37) (.tmp 38), (some (36, false))⟩,
  ⟨some 40, .pick (.tmp 36) (.const (.bool true)) (.tmp 39), none⟩])
 (.cond (.tmp 40) (.seq (.region [⟨some 4, .move (.const (.bool false)), none⟩])
 (.ret))
 (.skip)))
 (.seq (.region [⟨some 42, .off 0 (.tmp 2), none⟩,
  ⟨some 43, .load true 11 (.tmp 42), none⟩,
  ⟨some 44, .off 11 (.tmp 2), none⟩,
  ⟨some 45, .load true 11 (.tmp 44), none⟩,
  ⟨some 46, .move (.tmp 1), none⟩,
  ⟨some 47, .call 20 [.tmp 43, .tmp 45, .tmp 46], none⟩,
  ⟨some 41, .move (.tmp 47), none⟩,
  ⟨some 48, .extract (.tmp 41) 0, none⟩,
  ⟨some 49, .extract (.tmp 41) 1, none⟩,
  ⟨some 9, .move (.tmp 48), none⟩,
  ⟨some 10, .move (.tmp 49), none⟩])
 (.seq (.seq (.region [⟨some 50, .move (.tmp 1), none⟩,
  ⟨some 51, .bin .gtr (.tmp 50) (.const (.int .i64 1048576)), none⟩])
 (.cond (.tmp 51) (.seq (.region [⟨some 53, .off 0 (.tmp 2), none⟩,
  ⟨some 54, .load true 11 (.tmp 53), none⟩,
  ⟨some 55, .off 11 (.tmp 2), none⟩,
  ⟨some 56, .load true 11 (.tmp 55), none⟩,
  ⟨some 57, .call 21 [.tmp 54, .tmp 56, .const (.int .i64 1048576)], none⟩,
  ⟨some 52, .move (.tmp 57), none⟩,
  ⟨some 58, .extract (.tmp 52) 0, none⟩,
  ⟨some 59, .extract (.tmp 52) 1, none⟩,
  ⟨some 11, .move (.tmp 58), none⟩,
  ⟨some 12, .move (.tmp 59), none⟩])
 (.seq (.region [⟨some 60, .move (.tmp 10), none⟩,
  ⟨some 61, .move (.tmp 12), none⟩,
  ⟨some 62, .bin .eql (.tmp 60) (.tmp 61), none⟩,
  ⟨some 63, .move (.tmp 62), none⟩,
  ⟨some 64, .move (.tmp 12), (some (63, true))⟩,
  ⟨some 65, .bin .neq (.tmp 64) (.const (.int .i64 0)), (some (63, true))⟩,
  ⟨some 66, .move (.tmp 65), (some (63, true))⟩,
  ⟨some 67, .move (.tmp 9), (some (66, true))⟩,
  ⟨some 68, .bin .eql (.tmp 67) (.const (.int .i64 0)), (some (66, true))⟩,
  ⟨some 69, .pick (.tmp 66) (.tmp 68) (.const (.bool false)), (some (63, true))⟩,
  ⟨some 70, .move (.tmp 69), (some (63, true))⟩,
  ⟨some 71, .move (.tmp 12), (some (70, false))⟩,
  ⟨some 72, .bin .eql (.tmp 71) (.const (.int .i64 0)), (some (70, false))⟩,
  ⟨some 73, .move (.tmp 72), (some (70, false))⟩,
  ⟨some 74, .move (.tmp 9), (some (73, true))⟩,
  ⟨some 75, .move (.tmp 11), (some (73, true))⟩,
  ⟨some 76, .bin .gtr (.tmp 74) (.tmp 75), (some (73, true))⟩,
  ⟨some 77, .pick (.tmp 73) (.tmp 76) (.const (.bool false)), (some (70, false))⟩,
  ⟨some 78, .pick (.tmp 70) (.const (.bool true)) (.tmp 77), (some (63, true))⟩,
  ⟨some 79, .move (.tmp 78), (some (63, true))⟩,
  ⟨some 80, .move (.tmp 1), (some (79, false))⟩,
  ⟨some 81, .bin .lss (.tmp 80) (.const (.int .i64 1099511627776)), (some (79, false))⟩,
  ⟨some 82, .pick (.tmp 79) (.const (.bool true)) (.tmp 81), (some (63, true))⟩,
  ⟨some 83, .pick (.tmp 63) (.tmp 82) (.const (.bool false)), none⟩,
  ⟨some 84, .move (.tmp 83), none⟩,
  ⟨some 85, .move (.tmp 1), (some (84, true))⟩,
  ⟨some 86, .bin .lss (.tmp 85) (.const (.int .i64 4611686018427387904)), (some (84, true))⟩,
  ⟨some 87, .move (.tmp 86), (some (84, true))⟩,
  ⟨some 88, .move (.tmp 12), (some (87, false))⟩,
  ⟨some 89, .bin .neq (.tmp 88) (.const (.int .i64 0)), (some (87, false))⟩,
  ⟨some 90, .pick (.tmp 87) (.const (.bool true)) (.tmp 89), (some (84, true))⟩,
  ⟨some 91, .move (.tmp 90), (some (84, true))⟩,
  ⟨some 92, .move (.tmp 9), (some (91, false))⟩,
  ⟨some 93, .bin .eql (.tmp 92) (.const (.int .i64 9223372036854775807)), (some (91, false))⟩,
  ⟨some 94, .pick (.tmp 91) (.const (.bool true)) (.tmp 93), (some (84, true))⟩,
  ⟨some 95, .pick (.tmp 84) (.tmp 94) (.const (.bool false)), none⟩,
  ⟨some 96, .move (.tmp 95), none⟩,
  ⟨some 97, .call 11 [], (some (96, true))⟩,
  ⟨some 98, .pick (.tmp 96) (.tmp 97) (.const (.bool false)), none⟩,
  ⟨some 4, .move (.tmp 98), none⟩])
 (.ret)))
 (.skip)))
 (.seq (.region [⟨some 100, .off 0 (.tmp 2), none⟩,
  ⟨some 101, .load true 11 (.tmp 100), none⟩,
  ⟨some 102, .off 11 (.tmp 2), none⟩,
  ⟨some 103, .load true 11 (.tmp 102), none⟩,
  ⟨some 104, .move (.tmp 1), none⟩,
  ⟨some 105, .call 21 [.tmp 101, .tmp 103, .tmp 104], none⟩,
  ⟨some 99, .move (.tmp 105), none⟩,
  ⟨some 106, .extract (.tmp 99) 0, none⟩,
  ⟨some 107, .extract (.tmp 99) 1, none⟩,
  ⟨some 13, .move (.tmp 106), none⟩,
  ⟨some 14, .move (.tmp 107), none⟩])
 (.seq (.region [⟨some 108, .move (.tmp 9), none⟩,
  ⟨some 109, .move (.tmp 13), none⟩,
  ⟨some 110, .bin .eql (.tmp 108) (.tmp 109), none⟩,
  ⟨some 111, .move (.tmp 110), none⟩,
  ⟨some 112, .move (.tmp 10), (some (111, true))⟩,
  ⟨some 113, .move (.tmp 14), (some (111, true))⟩,
  ⟨some 114, .bin .eql (.tmp 112) (.tmp 113), (some (111, true))⟩,
  ⟨some 115, .pick (.tmp 111) (.tmp 114) (.const (.bool false)), none⟩,
  ⟨some 116, .move (.tmp 115), none⟩,
  ⟨some 117, .call 11 [], (some (116, true))⟩,
  ⟨some 118, .pick (.tmp 116) (.tmp 117) (.const (.bool false)), none⟩,
  ⟨some 4, .move (.tmp 118), none⟩])
 (.ret)))))))))
theorem light7 : Light Try.prog 7 2 119 L7 [.tmp 4] :=
  ⟨Try.f7, _, Try.func7, rfl, rfl, by kernel_rfl, by kernel_rfl, by decide⟩

/-! ### function 17: outrider/outriderlaw24.Great -/
def L17 : LCode :=
 .seq (.region [⟨some 2, .box 55 23 (.tmp 0), none⟩,
  ⟨some 4, .move (.const (.bool false)), none⟩])
 (.seq (.region [⟨some 5, .off 0 (.tmp 2), none⟩,
  ⟨some 6, .load true 11 (.tmp 5), none⟩,
  ⟨some 7, .call 30 [.tmp 6], none⟩,
  ⟨some 8, .move (.tmp 7), none⟩,
  ⟨some 9, .off 22 (.tmp 2), (some (8, false))⟩,
  ⟨some 10, .load false 1 (.tmp 9), (some (8, false))⟩,
  ⟨some 11, .len (.tmp 10), (some (8, false))⟩,
  ⟨some 12, .move (.tmp 1), (some (8, false))⟩,
  ⟨some 13, .bin .gtr (.tmp 11) (.tmp 12), (some (8, false))⟩,
  ⟨some 14, .pick (.tmp 8) (.const (.bool true)) (.tmp 13), none⟩,
  ⟨some 4, .move (.tmp 14), none⟩])
 (.ret))
theorem light17 : Light Try.prog 17 2 15 L17 [.tmp 4] :=
  ⟨Try.f17, _, Try.func17, rfl, rfl, by kernel_rfl, by kernel_rfl, by decide⟩

/-! ### function 18: outrider/script.Quick -/
def L18 : LCode :=
 .seq (.region [⟨some 2, .box 50 11 (.tmp 0), none⟩,
  ⟨some 3, .box 53 11 (.tmp 1), none⟩,
  ⟨some 4, .move (.const (.int .i64 0)), none⟩,
  ⟨some 5, .move (.const (.int .i64 0)), none⟩])
 (.seq (.seq (.region [⟨some 12, .load true 11 (.tmp 2), none⟩,
  ⟨some 13, .load true 11 (.tmp 3), none⟩,
  ⟨some 14, .call 20 [.tmp 12, .tmp 13, .const (.int .i64 0)], none⟩,
  ⟨some 11, .move (.tmp 14), none⟩,
  ⟨some 15, .extract (.tmp 11) 0, none⟩,
  ⟨some 16, .extract (.tmp 11) 1, none⟩,
  ⟨some 6, .move (.tmp 15), none⟩,
  ⟨some 7, .move (.tmp 16), none⟩])
 (.seq (.region [⟨some 17, .move (.tmp 7), none⟩,
  ⟨some 18, .bin .neq (.tmp 17) (.const (.int .i64 0)), none⟩])
 (.cond (.tmp 18) (.seq (.region [⟨some 19, .move (.tmp 7), none⟩,
  ⟨some 4, .move (.const (.int .i64 0)), none⟩,
  ⟨some 5, .move (.tmp 19), none⟩])
 (.ret))
 (.skip))))
 (.seq (.region [⟨some 21, .off 4 (.tmp 2), none⟩,
  ⟨some 22, .load true 6 (.tmp 21), none⟩,
  ⟨some 23, .call 31 [.tmp 22], none⟩,
  ⟨some 20, .move (.tmp 23), none⟩,
  ⟨some 24, .extract (.tmp 20) 0, none⟩,
  ⟨some 25, .extract (.tmp 20) 1, none⟩,
  ⟨some 8, .move (.tmp 24), none⟩,
  ⟨some 9, .move (.tmp 25), none⟩])
 (.seq (.region [⟨some 26, .off 0 (.tmp 3), none⟩,
  ⟨some 27, .load false 1 (.tmp 26), none⟩,
  ⟨some 28, .off 1 (.tmp 3), none⟩,
  ⟨some 29, .load false 1 (.tmp 28), none⟩,
  ⟨some 30, .minmax false (.tmp 27) [.tmp 29], none⟩,
  ⟨some 10, .move (.tmp 30), none⟩])
 (.seq (.draw [⟨⟨some 31, .move (.tmp 8), none⟩, .pure, 0, 1⟩,
  ⟨⟨some 32, .move (.tmp 10), none⟩, .pure, 0, 1⟩,
  ⟨⟨some 33, .bin .add (.tmp 31) (.tmp 32), none⟩, .pure, 0, 1⟩,
  ⟨⟨some 34, .bin .sub (.tmp 33) (.const (.int .i64 1)), none⟩, .pure, 0, 1⟩,
  ⟨⟨some 35, .move (.tmp 10), none⟩, .pure, 0, 1⟩,
  ⟨⟨some 36, .bin .quo (.tmp 34) (.tmp 35), none⟩, .pure, 0, 1⟩,
  ⟨⟨some 37, .off 3 (.tmp 2), none⟩, .pure, 0, 0⟩,
  ⟨⟨some 38, .load false 1 (.tmp 37), none⟩, .read, 0, 0⟩,
  ⟨⟨some 39, .move (.tmp 10), none⟩, .pure, 0, 0⟩,
  ⟨⟨some 40, .bin .mul (.const (.int .i64 2)) (.tmp 39), none⟩, .pure, 0, 0⟩,
  ⟨⟨some 41, .bin .add (.tmp 40) (.const (.int .i64 3)), none⟩, .pure, 0, 0⟩,
  ⟨⟨some 42, .call 33 [.tmp 38, .tmp 41], none⟩, .heavy, 0, 1⟩,
  ⟨⟨some 43, .call 32 [.tmp 36, .tmp 42], none⟩, .heavy, 1, 2⟩,
  ⟨⟨some 4, .move (.tmp 43), none⟩, .pure, 2, 2⟩,
  ⟨⟨some 5, .move (.const (.int .i64 0)), none⟩, .pure, 2, 2⟩])
 (.ret)))))
theorem light18 : Light Try.prog 18 2 44 L18 [.tmp 4, .tmp 5] :=
  ⟨Try.f18, _, Try.func18, rfl, rfl, by kernel_rfl, by kernel_rfl, by decide⟩

/-! ### function 19: outrider/outriderref25.Quick -/
def L19_1 : LCode :=
 .seq (.seq (.region [⟨some 35, .move (.tmp 11), none⟩,
  ⟨some 36, .move (.tmp 10), none⟩,
  ⟨some 37, .bin .mul (.tmp 35) (.tmp 36), none⟩,
  ⟨some 38, .move (.tmp 8), none⟩,
  ⟨some 39, .len (.tmp 38), none⟩,
  ⟨some 40, .bin .lss (.tmp 37) (.tmp 39), none⟩])
 (.cond (.tmp 40) (.skip)
 (.exit 0)))
 (.block 1 (.region [⟨some 41, .move (.tmp 11), none⟩,
  ⟨some 42, .bin .add (.tmp 41) (.const (.int .i64 1)), none⟩,
  ⟨some 11, .move (.tmp 42), none⟩]))
def L19 : LCode :=
 .seq (.region [⟨some 2, .box 50 11 (.tmp 0), none⟩,
  ⟨some 3, .box 53 11 (.tmp 1), none⟩,
  ⟨some 4, .move (.const (.int .i64 0)), none⟩,
  ⟨some 5, .move (.const (.int .i64 0)), none⟩])
 (.seq (.region [⟨some 13, .load true 11 (.tmp 2), none⟩,
  ⟨some 14, .load true 11 (.tmp 3), none⟩,
  ⟨some 15, .call 21 [.tmp 13, .tmp 14, .const (.int .i64 0)], none⟩,
  ⟨some 12, .move (.tmp 15), none⟩,
  ⟨some 16, .extract (.tmp 12) 0, none⟩,
  ⟨some 17, .extract (.tmp 12) 1, none⟩,
  ⟨some 6, .move (.tmp 16), none⟩,
  ⟨some 7, .move (.tmp 17), none⟩])
 (.seq (.seq (.region [⟨some 18, .move (.tmp 7), none⟩,
  ⟨some 19, .bin .neq (.tmp 18) (.const (.int .i64 0)), none⟩])
 (.cond (.tmp 19) (.seq (.region [⟨some 20, .move (.tmp 7), none⟩,
  ⟨some 4, .move (.const (.int .i64 0)), none⟩,
  ⟨some 5, .move (.tmp 20), none⟩])
 (.ret))
 (.skip)))
 (.seq (.region [⟨some 22, .off 4 (.tmp 2), none⟩,
  ⟨some 23, .load true 6 (.tmp 22), none⟩,
  ⟨some 24, .call 34 [.tmp 23], none⟩,
  ⟨some 21, .move (.tmp 24), none⟩,
  ⟨some 25, .extract (.tmp 21) 0, none⟩,
  ⟨some 26, .extract (.tmp 21) 1, none⟩,
  ⟨some 8, .move (.tmp 25), none⟩,
  ⟨some 9, .move (.tmp 26), none⟩])
 (.seq (.region [⟨some 27, .off 0 (.tmp 3), none⟩,
  ⟨some 28, .load false 1 (.tmp 27), none⟩,
  ⟨some 10, .move (.tmp 28), none⟩])
 (.seq (.seq (.region [⟨some 29, .off 1 (.tmp 3), none⟩,
  ⟨some 30, .load false 1 (.tmp 29), none⟩,
  ⟨some 31, .move (.tmp 10), none⟩,
  ⟨some 32, .bin .lss (.tmp 30) (.tmp 31), none⟩])
 (.cond (.tmp 32) (.region [⟨some 33, .off 1 (.tmp 3), none⟩,
  ⟨some 34, .load false 1 (.tmp 33), none⟩,
  ⟨some 10, .move (.tmp 34), none⟩])
 (.skip)))
 (.seq (.region [⟨some 11, .move (.const (.int .i64 0)), none⟩])
 (.seq (.block 0 (.loop L19_1))
 (.seq (.region [⟨some 43, .move (.tmp 11), none⟩,
  ⟨some 44, .off 3 (.tmp 2), none⟩,
  ⟨some 45, .load false 1 (.tmp 44), none⟩,
  ⟨some 46, .move (.tmp 10), none⟩,
  ⟨some 47, .bin .mul (.const (.int .i64 2)) (.tmp 46), none⟩,
  ⟨some 48, .bin .add (.tmp 45) (.tmp 47), none⟩,
  ⟨some 49, .bin .add (.tmp 48) (.const (.int .i64 3)), none⟩,
  ⟨some 50, .bin .mul (.tmp 43) (.tmp 49), none⟩,
  ⟨some 4, .move (.tmp 50), none⟩,
  ⟨some 5, .move (.const (.int .i64 0)), none⟩])
 (.ret)))))))))
theorem light19 : Light Try.prog 19 2 51 L19 [.tmp 4, .tmp 5] :=
  ⟨Try.f19, _, Try.func19, rfl, rfl, by kernel_rfl, by kernel_rfl, by decide⟩

/-! ### function 20: outrider/script.Bound -/
def L20 : LCode :=
 .seq (.region [⟨some 3, .box 50 11 (.tmp 0), none⟩,
  ⟨some 4, .box 53 11 (.tmp 1), none⟩,
  ⟨some 6, .move (.const (.int .i64 0)), none⟩,
  ⟨some 7, .move (.const (.int .i64 0)), none⟩])
 (.seq (.seq (.region [⟨some 13, .load true 11 (.tmp 3), none⟩,
  ⟨some 14, .call 35 [.tmp 13], none⟩,
  ⟨some 8, .move (.tmp 14), none⟩])
 (.seq (.region [⟨some 15, .move (.tmp 8), none⟩,
  ⟨some 16, .bin .neq (.tmp 15) (.const (.int .i64 0)), none⟩])
 (.cond (.tmp 16) (.seq (.region [⟨some 17, .move (.tmp 8), none⟩,
  ⟨some 6, .move (.const (.int .i64 0)), none⟩,
  ⟨some 7, .move (.tmp 17), none⟩])
 (.ret))
 (.skip))))
 (.seq (.seq (.region [⟨some 18, .load true 11 (.tmp 4), none⟩,
  ⟨some 19, .call 36 [.tmp 18], none⟩,
  ⟨some 9, .move (.tmp 19), none⟩])
 (.seq (.region [⟨some 20, .move (.tmp 9), none⟩,
  ⟨some 21, .bin .neq (.tmp 20) (.const (.int .i64 0)), none⟩])
 (.cond (.tmp 21) (.seq (.region [⟨some 22, .move (.tmp 9), none⟩,
  ⟨some 6, .move (.const (.int .i64 0)), none⟩,
  ⟨some 7, .move (.tmp 22), none⟩])
 (.ret))
 (.skip))))
 (.seq (.region [⟨some 24, .off 4 (.tmp 3), none⟩,
  ⟨some 25, .load true 6 (.tmp 24), none⟩,
  ⟨some 26, .call 31 [.tmp 25], none⟩,
  ⟨some 23, .move (.tmp 26), none⟩,
  ⟨some 27, .extract (.tmp 23) 0, none⟩,
  ⟨some 28, .extract (.tmp 23) 1, none⟩,
  ⟨some 10, .move (.tmp 27), none⟩,
  ⟨some 11, .move (.tmp 28), none⟩])
 (.seq (.region [⟨some 29, .off 3 (.tmp 3), none⟩,
  ⟨some 30, .load false 1 (.tmp 29), none⟩,
  ⟨some 31, .call 33 [.tmp 30, .const (.int .i64 3)], none⟩,
  ⟨some 12, .move (.tmp 31), none⟩])
 (.seq (.region [⟨some 32, .move (.tmp 10), none⟩,
  ⟨some 33, .off 9 (.tmp 4), none⟩,
  ⟨some 34, .load false 1 (.tmp 33), none⟩,
  ⟨some 35, .bin .add (.tmp 34) (.const (.int .i64 3)), none⟩,
  ⟨some 36, .call 32 [.tmp 32, .tmp 35], none⟩,
  ⟨some 37, .move (.tmp 12), none⟩,
  ⟨some 38, .call 32 [.tmp 36, .tmp 37], none⟩,
  ⟨some 39, .move (.tmp 2), none⟩,
  ⟨some 40, .move (.tmp 12), none⟩,
  ⟨some 41, .call 32 [.tmp 39, .tmp 40], none⟩,
  ⟨some 42, .call 33 [.tmp 38, .tmp 41], none⟩,
  ⟨some 6, .move (.tmp 42), none⟩,
  ⟨some 7, .move (.const (.int .i64 0)), none⟩])
 (.ret))))))
theorem light20 : Light Try.prog 20 3 43 L20 [.tmp 6, .tmp 7] :=
  ⟨Try.f20, _, Try.func20, rfl, rfl, by kernel_rfl, by kernel_rfl, by decide⟩

/-! ### function 21: outrider/outriderref25.Bound -/
def L21 : LCode :=
 .seq (.region [⟨some 3, .box 50 11 (.tmp 0), none⟩,
  ⟨some 4, .box 53 11 (.tmp 1), none⟩,
  ⟨some 6, .move (.const (.int .i64 0)), none⟩,
  ⟨some 7, .move (.const (.int .i64 0)), none⟩])
 (.seq (.region [⟨some 11, .load true 11 (.tmp 3), none⟩,
  ⟨some 12, .call 37 [.tmp 11], none⟩,
  ⟨some 8, .move (.tmp 12), none⟩])
 (.seq (.seq (.region [⟨some 13, .move (.tmp 8), none⟩,
  ⟨some 14, .bin .eql (.tmp 13) (.const (.int .i64 0)), none⟩])
 (.cond (.tmp 14) (.region [⟨some 15, .load true 11 (.tmp 4), none⟩,
  ⟨some 16, .call 38 [.tmp 15], none⟩,
  ⟨some 8, .move (.tmp 16), none⟩])
 (.skip)))
 (.seq (.seq (.region [⟨some 17, .move (.tmp 8), none⟩,
  ⟨some 18, .bin .neq (.tmp 17) (.const (.int .i64 0)), none⟩])
 (.cond (.tmp 18) (.seq (.region [⟨some 19, .move (.tmp 8), none⟩,
  ⟨some 6, .move (.const (.int .i64 0)), none⟩,
  ⟨some 7, .move (.tmp 19), none⟩])
 (.ret))
 (.skip)))
 (.seq (.seq (.region [⟨some 20, .move (.tmp 2), none⟩,
  ⟨some 21, .bin .lss (.tmp 20) (.const (.int .i64 0)), none⟩])
 (.cond (.tmp 21) (.region [⟨some 2, .move (.const (.int .i64 0)), none⟩])
 (.skip)))
 (.seq (.region [⟨some 23, .off 4 (.tmp 3), none⟩,
  ⟨some 24, .load true 6 (.tmp 23), none⟩,
  ⟨some 25, .call 34 [.tmp 24], none⟩,
  ⟨some 22, .move (.tmp 25), none⟩,
  ⟨some 26, .extract (.tmp 22) 0, none⟩,
  ⟨some 27, .extract (.tmp 22) 1, none⟩,
  ⟨some 9, .move (.tmp 26), none⟩,
  ⟨some 10, .move (.tmp 27), none⟩])
 (.seq (.region [⟨some 28, .move (.tmp 9), none⟩,
  ⟨some 29, .len (.tmp 28), none⟩,
  ⟨some 30, .off 9 (.tmp 4), none⟩,
  ⟨some 31, .load false 1 (.tmp 30), none⟩,
  ⟨some 32, .bin .add (.tmp 31) (.const (.int .i64 3)), none⟩,
  ⟨some 33, .bin .mul (.tmp 29) (.tmp 32), none⟩,
  ⟨some 34, .move (.tmp 2), none⟩,
  ⟨some 35, .bin .add (.tmp 33) (.tmp 34), none⟩,
  ⟨some 36, .off 3 (.tmp 3), none⟩,
  ⟨some 37, .load false 1 (.tmp 36), none⟩,
  ⟨some 38, .bin .add (.tmp 37) (.const (.int .i64 3)), none⟩,
  ⟨some 39, .bin .mul (.tmp 35) (.tmp 38), none⟩,
  ⟨some 6, .move (.tmp 39), none⟩,
  ⟨some 7, .move (.const (.int .i64 0)), none⟩])
 (.ret)))))))
theorem light21 : Light Try.prog 21 3 40 L21 [.tmp 6, .tmp 7] :=
  ⟨Try.f21, _, Try.func21, rfl, rfl, by kernel_rfl, by kernel_rfl, by decide⟩

/-! ### function 30: outrider/outriderlaw17.Great -/
def L30_1 : LCode :=
 .seq (.seq (.region [⟨some 20, .move (.tmp 3), none⟩,
  ⟨some 21, .off 10 (.tmp 1), none⟩,
  ⟨some 22, .load false 1 (.tmp 21), none⟩,
  ⟨some 23, .len (.tmp 22), none⟩,
  ⟨some 24, .bin .lss (.tmp 20) (.tmp 23), none⟩])
 (.cond (.tmp 24) (.skip)
 (.exit 0)))
 (.seq (.block 1 (.seq (.region [⟨some 27, .off 10 (.tmp 1), none⟩,
  ⟨some 28, .load false 1 (.tmp 27), none⟩,
  ⟨some 29, .move (.tmp 3), none⟩,
  ⟨some 30, .idx 1 (.tmp 28) (.tmp 29), none⟩,
  ⟨some 31, .load false 1 (.tmp 30), none⟩,
  ⟨some 32, .len (.tmp 31), none⟩,
  ⟨some 33, .bin .gtr (.tmp 32) (.const (.int .i64 700)), none⟩])
 (.cond (.tmp 33) (.seq (.region [⟨some 2, .move (.const (.bool true)), none⟩])
 (.ret))
 (.skip))))
 (.region [⟨some 25, .move (.tmp 3), none⟩,
  ⟨some 26, .bin .add (.tmp 25) (.const (.int .i64 1)), none⟩,
  ⟨some 3, .move (.tmp 26), none⟩]))
def L30 : LCode :=
 .seq (.region [⟨some 1, .box 50 11 (.tmp 0), none⟩,
  ⟨some 2, .move (.const (.bool false)), none⟩])
 (.seq (.seq (.region [⟨some 4, .off 1 (.tmp 1), none⟩,
  ⟨some 5, .load false 1 (.tmp 4), none⟩,
  ⟨some 6, .len (.tmp 5), none⟩,
  ⟨some 7, .bin .gtr (.tmp 6) (.const (.int .i64 200)), none⟩,
  ⟨some 8, .move (.tmp 7), none⟩,
  ⟨some 9, .off 2 (.tmp 1), (some (8, false))⟩,
  ⟨some 10, .load false 1 (.tmp 9), (some (8, false))⟩,
  ⟨some 11, .len (.tmp 10), (some (8, false))⟩,
  ⟨some 12, .bin .gtr (.tmp 11) (.const (.int .i64 50)), (some (8, false))⟩,
  ⟨some 13, .pick (.tmp 8) (.const (.bool true)) (.tmp 12), none⟩,
  ⟨some 14, .move (.tmp 13), none⟩,
  ⟨some 15, .off 10 (.tmp 1), (some (14, false))⟩,
  ⟨some 16, .load false 1 (.tmp 15), (some (14, false))⟩,
  ⟨some 17, .len (.tmp 16), (some (14, false))⟩,
  ⟨some 18, .bin .gtr (.tmp 17) (.const (.int .i64 50)), (some (14, false))⟩,
  ⟨some 19, .pick (.tmp 14) (.const (.bool true)) (.tmp 18), none⟩])
 (.cond (.tmp 19) (.seq (.region [⟨some 2, .move (.const (.bool true)), none⟩])
 (.ret))
 (.skip)))
 (.seq (.seq (.region [⟨some 3, .move (.const (.int .i64 0)), none⟩])
 (.block 0 (.loop L30_1)))
 (.seq (.region [⟨some 2, .move (.const (.bool false)), none⟩])
 (.ret))))
theorem light30 : Light Try.prog 30 1 34 L30 [.tmp 2] :=
  ⟨Try.f30, _, Try.func30, rfl, rfl, by kernel_rfl, by kernel_rfl, by decide⟩

/-! ### function 31: outrider/plan.Count -/
def L31 : LCode :=
 .seq (.region [⟨some 1, .box 47 6 (.tmp 0), none⟩,
  ⟨some 2, .move (.const (.int .i64 0)), none⟩,
  ⟨some 3, .move (.const (.int .i64 0)), none⟩])
 (.seq (.seq (.region [⟨some 4, .off 0 (.tmp 1), none⟩,
  ⟨some 5, .load false 1 (.tmp 4), none⟩])
 (.block 0 (.seq (.region [⟨some 7, .bin .eql (.tmp 5) (.const (.int .i64 1)), none⟩,
  ⟨some 6, .move (.tmp 7), none⟩])
 (.cond (.tmp 6) (.seq (.seq (.region [⟨some 8, .off 4 (.tmp 1), none⟩,
  ⟨some 9, .load false 1 (.tmp 8), none⟩,
  ⟨some 10, .bin .neq (.tmp 9) (.const (.int .i64 0)), none⟩,
  ⟨some 11, .move (.tmp 10), none⟩,
  ⟨some 12, .off 5 (.tmp 1), (some (11, false))⟩,
  ⟨some 13, .load false 1 (.tmp 12), (some (11, false))⟩,
  ⟨some 14, .bin .neq (.tmp 13) (.const (.int .i64 0)), (some (11, false))⟩,
  ⟨some 15, .pick (.tmp 11) (.const (.bool true)) (.tmp 14), none⟩])
 (.cond (.tmp 15) (.seq (.region [⟨some 2, .move (.const (.int .i64 0)), none⟩,
  ⟨some 3, .move (.const (.int .i64 152)), none⟩])
 (.ret))
 (.skip)))
 (.seq (.region [⟨some 16, .load true 6 (.tmp 1), none⟩,
  ⟨some 17, .call 50 [.tmp 16], none⟩,
  ⟨some 18, .extract (.tmp 17) 0, none⟩,
  ⟨some 19, .extract (.tmp 17) 1, none⟩,
  ⟨some 2, .move (.tmp 18), none⟩,
  ⟨some 3, .move (.tmp 19), none⟩])
 (.ret)))
 (.seq (.region [⟨some 21, .bin .eql (.tmp 5) (.const (.int .i64 2)), none⟩,
  ⟨some 20, .move (.tmp 21), none⟩])
 (.cond (.tmp 20) (.seq (.seq (.region [⟨some 22, .off 1 (.tmp 1), none⟩,
  ⟨some 23, .load false 1 (.tmp 22), none⟩,
  ⟨some 24, .bin .neq (.tmp 23) (.const (.int .i64 0)), none⟩,
  ⟨some 25, .move (.tmp 24), none⟩,
  ⟨some 26, .off 2 (.tmp 1), (some (25, false))⟩,
  ⟨some 27, .load false 1 (.tmp 26), (some (25, false))⟩,
  ⟨some 28, .bin .neq (.tmp 27) (.const (.int .i64 0)), (some (25, false))⟩,
  ⟨some 29, .pick (.tmp 25) (.const (.bool true)) (.tmp 28), none⟩,
  ⟨some 30, .move (.tmp 29), none⟩,
  ⟨some 31, .off 3 (.tmp 1), (some (30, false))⟩,
  ⟨some 32, .load false 1 (.tmp 31), (some (30, false))⟩,
  ⟨some 33, .bin .neq (.tmp 32) (.const (.int .i64 0)), (some (30, false))⟩,
  ⟨some 34, .pick (.tmp 30) (.const (.bool true)) (.tmp 33), none⟩])
 (.cond (.tmp 34) (.seq (.region [⟨some 2, .move (.const (.int .i64 0)), none⟩,
  ⟨some 3, .move (.const (.int .i64 152)), none⟩])
 (.ret))
 (.skip)))
 (.seq (.seq (.region [⟨some 35, .off 4 (.tmp 1), none⟩,
  ⟨some 36, .load false 1 (.tmp 35), none⟩,
  ⟨some 37, .bin .lss (.tmp 36) (.const (.int .i64 0)), none⟩,
  ⟨some 38, .move (.tmp 37), none⟩,
  ⟨some 39, .off 5 (.tmp 1), (some (38, false))⟩,
  ⟨some 40, .load false 1 (.tmp 39), (some (38, false))⟩,
  ⟨some 41, .bin .lss (.tmp 40) (.const (.int .i64 1)), (some (38, false))⟩,
  ⟨some 42, .pick (.tmp 38) (.const (.bool true)) (.tmp 41), none⟩,
  ⟨some 43, .move (.tmp 42), none⟩,
  ⟨some 44, .off 5 (.tmp 1), (some (43, false))⟩,
  ⟨some 45, .load false 1 (.tmp 44), (some (43, false))⟩,
  ⟨some 46, .bin .gtr (.tmp 45) (.const (.int .i64 6)), (some (43, false))⟩,
  ⟨some 47, .pick (.tmp 43) (.const (.bool true)) (.tmp 46), none⟩])
 (.cond (.tmp 47) (.seq (.region [⟨some 2, .move (.const (.int .i64 0)), none⟩,
  ⟨some 3, .move (.const (.int .i64 152)), none⟩])
 (.ret))
 (.skip)))
 (.seq (.seq (.draw [⟨⟨some 48, .off 4 (.tmp 1), none⟩, .pure, 0, 0⟩,
  ⟨⟨some 49, .load false 1 (.tmp 48), none⟩, .read, 0, 0⟩,
  ⟨⟨some 50, .off 5 (.tmp 1), none⟩, .pure, 0, 0⟩,
  ⟨⟨some 51, .load false 1 (.tmp 50), none⟩, .read, 0, 0⟩,
  ⟨⟨some 52, .bin .quo (.const (.int .i64 200)) (.tmp 51), none⟩, .pure, 0, 0⟩,
  ⟨⟨some 53, .bin .gtr (.tmp 49) (.tmp 52), none⟩, .pure, 0, 0⟩])
 (.cond (.tmp 53) (.seq (.region [⟨some 2, .move (.const (.int .i64 0)), none⟩,
  ⟨some 3, .move (.const (.int .i64 151)), none⟩])
 (.ret))
 (.skip)))
 (.seq (.region [⟨some 54, .off 4 (.tmp 1), none⟩,
  ⟨some 55, .load false 1 (.tmp 54), none⟩,
  ⟨some 56, .off 5 (.tmp 1), none⟩,
  ⟨some 57, .load false 1 (.tmp 56), none⟩,
  ⟨some 58, .bin .mul (.tmp 55) (.tmp 57), none⟩,
  ⟨some 2, .move (.tmp 58), none⟩,
  ⟨some 3, .move (.const (.int .i64 0)), none⟩])
 (.ret)))))
 (.skip)))))))
 (.seq (.region [⟨some 2, .move (.const (.int .i64 0)), none⟩,
  ⟨some 3, .move (.const (.int .i64 152)), none⟩])
 (.ret)))
theorem light31 : Light Try.prog 31 1 59 L31 [.tmp 2, .tmp 3] :=
  ⟨Try.f31, _, Try.func31, rfl, rfl, by kernel_rfl, by kernel_rfl, by decide⟩

/-! ### function 34: outrider/outriderref15.Tasks -/
def L34_1 : LCode :=
 .seq (.seq (.region [⟨some 27, .off 3 (.tmp 1), none⟩,
  ⟨some 28, .load false 1 (.tmp 27), none⟩,
  ⟨some 29, .bin .gtr (.tmp 28) (.const (.int .i64 0)), none⟩,
  ⟨some 30, .move (.tmp 29), none⟩,
  ⟨some 31, .move (.tmp 5), (some (30, true))⟩,
  ⟨some 32, .off 2 (.tmp 1), (some (30, true))⟩,
  ⟨some 33, .load false 1 (.tmp 32), (some (30, true))⟩,
  ⟨some 34, .bin .lss (.tmp 31) (.tmp 33), (some (30, true))⟩,
  ⟨some 35, .pick (.tmp 30) (.tmp 34) (.const (.bool false)), none⟩,
  ⟨some 36, .move (.tmp 35), none⟩,
  ⟨some 37, .off 3 (.tmp 1), (some (36, false))⟩,
  ⟨some 38, .load false 1 (.tmp 37), (some (36, false))⟩,
  ⟨some 39, .bin .lss (.tmp 38) (.const (.int .i64 0)), (some (36, false))⟩,
  ⟨some 40, .move (.tmp 39), (some (36, false))⟩,
  ⟨some 41, .move (.tmp 5), (some (40, true))⟩,
  ⟨some 42, .off 2 (.tmp 1), (some (40, true))⟩,
  ⟨some 43, .load false 1 (.tmp 42), (some (40, true))⟩,
  ⟨some 44, .bin .gtr (.tmp 41) (.tmp 43), (some (40, true))⟩,
  ⟨some 45, .pick (.tmp 40) (.tmp 44) (.const (.bool false)), (some (36, false))⟩,
  ⟨some 46, .pick (.tmp 36) (.const (.bool true)) (.tmp 45), none⟩])
 (.cond (.tmp 46) (.skip)
 (.exit 0)))
 (.block 1 (.seq (.region [⟨some 47, .move (.tmp 4), none⟩,
  ⟨some 48, .move (.tmp 5), none⟩,
  ⟨some 49, .build [.int .i64 0, .int .i64 0] [(0, 1, .tmp 48), (1, 1, .const (.int .i64 0))], none⟩,
  ⟨some 50, .buildSlice 104 2 1 [.int .i64 0, .int .i64 0] [(0, 2, .tmp 49)], none⟩,
  ⟨some 51, .append 104 2 16 (.tmp 47) (.tmp 50), none⟩,
  ⟨some 4, .move (.tmp 51), none⟩])
 (.seq (.seq (.region [⟨some 52, .move (.tmp 4), none⟩,
  ⟨some 53, .len (.tmp 52), none⟩,
  ⟨some 54, .bin .gtr (.tmp 53) (.const (.int .i64 200)), none⟩])
 (.cond (.tmp 54) (.seq (.region [⟨some 2, .move (.const (.slice none 0 0)), none⟩,
  ⟨some 3, .move (.const (.int .i64 151)), none⟩])
 (.ret))
 (.skip)))
 (.seq (.region [⟨some 55, .move (.tmp 5), none⟩,
  ⟨some 56, .off 3 (.tmp 1), none⟩,
  ⟨some 57, .load false 1 (.tmp 56), none⟩,
  ⟨some 58, .bin .add (.tmp 55) (.tmp 57), none⟩,
  ⟨some 6, .move (.tmp 58), none⟩])
 (.seq (.seq (.region [⟨some 59, .off 3 (.tmp 1), none⟩,
  ⟨some 60, .load false 1 (.tmp 59), none⟩,
  ⟨some 61, .bin .gtr (.tmp 60) (.const (.int .i64 0)), none⟩,
  ⟨some 62, .move (.tmp 61), none⟩,
  ⟨some 63, .move (.tmp 6), (some (62, true))⟩,
  ⟨some 64, .move (.tmp 5), (some (62, true))⟩,
  ⟨some 65, .bin .lss (.tmp 63) (.tmp 64), (some (62, true))⟩,
  ⟨some 66, .pick (.tmp 62) (.tmp 65) (.const (.bool false)), none⟩,
  ⟨some 67, .move (.tmp 66), none⟩,
  ⟨some 68, .off 3 (.tmp 1), (some (67, false))⟩,
  ⟨some 69, .load false 1 (.tmp 68), (some (67, false))⟩,
  ⟨some 70, .bin .lss (.tmp 69) (.const (.int .i64 0)), (some (67, false))⟩,
  ⟨some 71, .move (.tmp 70), (some (67, false))⟩,
  ⟨some 72, .move (.tmp 6), (some (71, true))⟩,
  ⟨some 73, .move (.tmp 5), (some (71, true))⟩,
  ⟨some 74, .bin .gtr (.tmp 72) (.tmp 73), (some (71, true))⟩,
  ⟨some 75, .pick (.tmp 71) (.tmp 74) (.const (.bool false)), (some (67, false))⟩,
  ⟨some 76, .pick (.tmp 67) (.const (.bool true)) (.tmp 75), none⟩])
 (.cond (.tmp 76) (.exit 0)
 (.skip)))
 (.region [⟨some 77, .move (.tmp 6), none⟩,
  ⟨some 5, .move (.tmp 77), none⟩]))))))
def L34_2 : LCode :=
 .seq (.seq (.region [⟨some 118, .move (.tmp 8), none⟩,
  ⟨some 119, .off 5 (.tmp 1), none⟩,
  ⟨some 120, .load false 1 (.tmp 119), none⟩,
  ⟨some 121, .bin .lss (.tmp 118) (.tmp 120), none⟩])
 (.cond (.tmp 121) (.skip)
 (.exit 4)))
 (.seq (.block 5 (.region [⟨some 124, .move (.tmp 4), none⟩,
  ⟨some 125, .move (.tmp 7), none⟩,
  ⟨some 126, .move (.tmp 8), none⟩,
  ⟨some 127, .build [.int .i64 0, .int .i64 0] [(0, 1, .tmp 125), (1, 1, .tmp 126)], none⟩,
  ⟨some 128, .buildSlice 104 2 1 [.int .i64 0, .int .i64 0] [(0, 2, .tmp 127)], none⟩,
  ⟨some 129, .append 104 2 16 (.tmp 124) (.tmp 128), none⟩,
  ⟨some 4, .move (.tmp 129), none⟩]))
 (.region [⟨some 122, .move (.tmp 8), none⟩,
  ⟨some 123, .bin .add (.tmp 122) (.const (.int .i64 1)), none⟩,
  ⟨some 8, .move (.tmp 123), none⟩]))
def L34_3 : LCode :=
 .seq (.seq (.region [⟨some 112, .move (.tmp 7), none⟩,
  ⟨some 113, .off 4 (.tmp 1), none⟩,
  ⟨some 114, .load false 1 (.tmp 113), none⟩,
  ⟨some 115, .bin .lss (.tmp 112) (.tmp 114), none⟩])
 (.cond (.tmp 115) (.skip)
 (.exit 2)))
 (.seq (.block 3 (.seq (.seq (.region [⟨some 8, .move (.const (.int .i64 0)), none⟩])
 (.block 4 (.loop L34_2)))
 (.seq (.region [⟨some 130, .move (.tmp 4), none⟩,
  ⟨some 131, .len (.tmp 130), none⟩,
  ⟨some 132, .bin .gtr (.tmp 131) (.const (.int .i64 200)), none⟩])
 (.cond (.tmp 132) (.seq (.region [⟨some 2, .move (.const (.slice none 0 0)), none⟩,
  ⟨some 3, .move (.const (.int .i64 151)), none⟩])
 (.ret))
 (.skip)))))
 (.region [⟨some 116, .move (.tmp 7), none⟩,
  ⟨some 117, .bin .add (.tmp 116) (.const (.int .i64 1)), none⟩,
  ⟨some 7, .move (.tmp 117), none⟩]))
def L34 : LCode :=
 .seq (.region [⟨some 1, .box 47 6 (.tmp 0), none⟩,
  ⟨some 2, .move (.const (.slice none 0 0)), none⟩,
  ⟨some 3, .move (.const (.int .i64 0)), none⟩])
 (.seq (.region [⟨some 4, .move (.const (.slice none 0 0)), none⟩])
 (.seq (.seq (.region [⟨some 9, .off 0 (.tmp 1), none⟩,
  ⟨some 10, .load false 1 (.tmp 9), none⟩,
  ⟨some 11, .bin .eql (.tmp 10) (.const (.int .i64 1)), none⟩,
  ⟨some 12, .move (.tmp 11), none⟩,
  ⟨some 13, .off 4 (.tmp 1), (some (12, true))⟩,
  ⟨some 14, .load false 1 (.tmp 13), (some (12, true))⟩,
  ⟨some 15, .bin .eql (.tmp 14) (.const (.int .i64 0)), (some (12, true))⟩,
  ⟨some 16, .pick (.tmp 12) (.tmp 15) (.const (.bool false)), none⟩,
  ⟨some 17, .move (.tmp 16), none⟩,
  ⟨some 18, .off 5 (.tmp 1), (some (17, true))⟩,
  ⟨some 19, .load false 1 (.tmp 18), (some (17, true))⟩,
  ⟨some 20, .bin .eql (.tmp 19) (.const (.int .i64 0)), (some (17, true))⟩,
  ⟨some 21, .pick (.tmp 17) (.tmp 20) (.const (.bool false)), none⟩])
 (.cond (.tmp 21) (.seq (.seq (.region [⟨some 22, .off 3 (.tmp 1), none⟩,
  ⟨some 23, .load false 1 (.tmp 22), none⟩,
  ⟨some 24, .bin .eql (.tmp 23) (.const (.int .i64 0)), none⟩])
 (.cond (.tmp 24) (.seq (.region [⟨some 2, .move (.const (.slice none 0 0)), none⟩,
  ⟨some 3, .move (.const (.int .i64 150)), none⟩])
 (.ret))
 (.skip)))
 (.seq (.region [⟨some 25, .off 1 (.tmp 1), none⟩,
  ⟨some 26, .load false 1 (.tmp 25), none⟩,
  ⟨some 5, .move (.tmp 26), none⟩])
 (.seq (.block 0 (.loop L34_1))
 (.seq (.region [⟨some 78, .move (.tmp 4), none⟩,
  ⟨some 2, .move (.tmp 78), none⟩,
  ⟨some 3, .move (.const (.int .i64 0)), none⟩])
 (.ret)))))
 (.skip)))
 (.seq (.seq (.region [⟨some 79, .off 0 (.tmp 1), none⟩,
  ⟨some 80, .load false 1 (.tmp 79), none⟩,
  ⟨some 81, .bin .eql (.tmp 80) (.const (.int .i64 2)), none⟩,
  ⟨some 82, .move (.tmp 81), none⟩,
  ⟨some 83, .off 1 (.tmp 1), (some (82, true))⟩,
  ⟨some 84, .load false 1 (.tmp 83), (some (82, true))⟩,
  ⟨some 85, .bin .eql (.tmp 84) (.const (.int .i64 0)), (some (82, true))⟩,
  ⟨some 86, .pick (.tmp 82) (.tmp 85) (.const (.bool false)), none⟩,
  ⟨some 87, .move (.tmp 86), none⟩,
  ⟨some 88, .off 2 (.tmp 1), (some (87, true))⟩,
  ⟨some 89, .load false 1 (.tmp 88), (some (87, true))⟩,
  ⟨some 90, .bin .eql (.tmp 89) (.const (.int .i64 0)), (some (87, true))⟩,
  ⟨some 91, .pick (.tmp 87) (.tmp 90) (.const (.bool false)), none⟩,
  ⟨some 92, .move (.tmp 91), none⟩,
  ⟨some 93, .off 3 (.tmp 1), (some (92, true))⟩,
  ⟨some 94, .load false 1 (.tmp 93), (some (92, true))⟩,
  ⟨some 95, .bin .eql (.tmp 94) (.const (.int .i64 0)), (some (92, true))⟩,
  ⟨some 96, .pick (.tmp 92) (.tmp 95) (.const (.bool false)), none⟩,
  ⟨some 97, .move (.tmp 96), none⟩,
  ⟨some 98, .off 4 (.tmp 1), (some (97, true))⟩,
  ⟨some 99, .load false 1 (.tmp 98), (some (97, true))⟩,
  ⟨some 100, .bin .geq (.tmp 99) (.const (.int .i64 0)), (some (97, true))⟩,
  ⟨some 101, .pick (.tmp 97) (.tmp 100) (.const (.bool false)), none⟩,
  ⟨some 102, .move (.tmp 101), none⟩,
  ⟨some 103, .off 5 (.tmp 1), (some (102, true))⟩,
  ⟨some 104, .load false 1 (.tmp 103), (some (102, true))⟩,
  ⟨some 105, .bin .geq (.tmp 104) (.const (.int .i64 1)), (some (102, true))⟩,
  ⟨some 106, .pick (.tmp 102) (.tmp 105) (.const (.bool false)), none⟩,
  ⟨some 107, .move (.tmp 106), none⟩,
  ⟨some 108, .off 5 (.tmp 1), (some (107, true))⟩,
  ⟨some 109, .load false 1 (.tmp 108), (some (107, true))⟩,
  ⟨some 110, .bin .leq (.tmp 109) (.const (.int .i64 6)), (some (107, true))⟩,
  ⟨some 111, .pick (.tmp 107) (.tmp 110) (.const (.bool false)), none⟩])
 (.cond (.tmp 111) (.seq (.seq (.region [⟨some 7, .move (.const (.int .i64 0)), none⟩])
 (.block 2 (.loop L34_3)))
 (.seq (.region [⟨some 133, .move (.tmp 4), none⟩,
  ⟨some 2, .move (.tmp 133), none⟩,
  ⟨some 3, .move (.const (.int .i64 0)), none⟩])
 (.ret)))
 (.skip)))
 (.seq (.region [⟨some 2, .move (.const (.slice none 0 0)), none⟩,
  ⟨some 3, .move (.const (.int .i64 152)), none⟩])
 (.ret)))))
theorem light34 : Light Try.prog 34 1 134 L34 [.tmp 2, .tmp 3] :=
  ⟨Try.f34, _, Try.func34, rfl, rfl, by kernel_rfl, by kernel_rfl, by decide⟩

/-! ### function 35: outrider/job.Valid -/
def L35_1 : LCode :=
 .seq (.region [⟨some 61, .bin .lss (.tmp 60) (.tmp 59), none⟩])
 (.seq (.cond (.tmp 61) (.skip)
 (.exit 0))
 (.seq (.block 1 (.seq (.region [⟨some 62, .idx 1 (.tmp 58) (.tmp 60), none⟩,
  ⟨some 63, .load false 1 (.tmp 62), none⟩,
  ⟨some 10, .move (.tmp 63), none⟩])
 (.seq (.region [⟨some 65, .move (.tmp 10), none⟩,
  ⟨some 66, .off 2 (.tmp 1), none⟩,
  ⟨some 67, .load false 1 (.tmp 66), none⟩,
  ⟨some 68, .len (.tmp 67), none⟩,
  ⟨some 69, .call 54 [.tmp 65, .tmp 68], none⟩,
  ⟨some 64, .move (.tmp 69), none⟩,
  ⟨some 70, .extract (.tmp 64) 0, none⟩,
  ⟨some 71, .extract (.tmp 64) 1, none⟩,
  ⟨some 11, .move (.tmp 70), none⟩,
  ⟨some 12, .move (.tmp 71), none⟩])
 (.seq (.region [⟨some 72, .move (.tmp 12), none⟩,
  ⟨some 73, .bin .neq (.tmp 72) (.const (.int .i64 0)), none⟩])
 (.cond (.tmp 73) (.seq (.region [⟨some 74, .move (.tmp 12), none⟩,
  ⟨some 2, .move (.tmp 74), none⟩])
 (.ret))
 (.skip))))))
 (.region [⟨some 75, .bin .add (.tmp 60) (.const (.int .i64 1)), none⟩,
  ⟨some 60, .move (.tmp 75), none⟩])))
def L35 : LCode :=
 .seq (.region [⟨some 1, .box 50 11 (.tmp 0), none⟩,
  ⟨some 2, .move (.const (.int .i64 0)), none⟩])
 (.seq (.seq (.region [⟨some 14, .off 0 (.tmp 1), none⟩,
  ⟨some 15, .load false 1 (.tmp 14), none⟩,
  ⟨some 16, .off 1 (.tmp 1), none⟩,
  ⟨some 17, .load false 1 (.tmp 16), none⟩,
  ⟨some 18, .call 51 [.tmp 15, .tmp 17], none⟩,
  ⟨some 13, .move (.tmp 18), none⟩,
  ⟨some 19, .extract (.tmp 13) 0, none⟩,
  ⟨some 20, .extract (.tmp 13) 1, none⟩,
  ⟨some 3, .move (.tmp 19), none⟩,
  ⟨some 4, .move (.tmp 20), none⟩])
 (.seq (.region [⟨some 21, .move (.tmp 4), none⟩,
  ⟨some 22, .bin .neq (.tmp 21) (.const (.int .i64 0)), none⟩])
 (.cond (.tmp 22) (.seq (.region [⟨some 23, .move (.tmp 4), none⟩,
  ⟨some 2, .move (.tmp 23), none⟩])
 (.ret))
 (.skip))))
 (.seq (.seq (.region [⟨some 25, .off 2 (.tmp 1), none⟩,
  ⟨some 26, .load false 1 (.tmp 25), none⟩,
  ⟨some 27, .call 52 [.tmp 26], none⟩,
  ⟨some 24, .move (.tmp 27), none⟩,
  ⟨some 28, .extract (.tmp 24) 0, none⟩,
  ⟨some 29, .extract (.tmp 24) 1, none⟩,
  ⟨some 5, .move (.tmp 28), none⟩,
  ⟨some 6, .move (.tmp 29), none⟩])
 (.seq (.region [⟨some 30, .move (.tmp 6), none⟩,
  ⟨some 31, .bin .neq (.tmp 30) (.const (.int .i64 0)), none⟩])
 (.cond (.tmp 31) (.seq (.region [⟨some 32, .move (.tmp 6), none⟩,
  ⟨some 2, .move (.tmp 32), none⟩])
 (.ret))
 (.skip))))
 (.seq (.seq (.region [⟨some 33, .off 3 (.tmp 1), none⟩,
  ⟨some 34, .load false 1 (.tmp 33), none⟩,
  ⟨some 35, .bin .lss (.tmp 34) (.const (.int .i64 1)), none⟩,
  ⟨some 36, .move (.tmp 35), none⟩,
  ⟨some 37, .off 3 (.tmp 1), (some (36, false))⟩,
  ⟨some 38, .load false 1 (.tmp 37), (some (36, false))⟩,
  ⟨some 39, .bin .gtr (.tmp 38) (.const (.int .i64 4000)), (some (36, false))⟩,
  ⟨some 40, .pick (.tmp 36) (.const (.bool true)) (.tmp 39), none⟩])
 (.cond (.tmp 40) (.seq (.region [⟨some 2, .move (.const (.int .i64 110)), none⟩])
 (.ret))
 (.skip)))
 (.seq (.seq (.region [⟨some 42, .off 4 (.tmp 1), none⟩,
  ⟨some 43, .load true 6 (.tmp 42), none⟩,
  ⟨some 44, .call 31 [.tmp 43], none⟩,
  ⟨some 41, .move (.tmp 44), none⟩,
  ⟨some 45, .extract (.tmp 41) 0, none⟩,
  ⟨some 46, .extract (.tmp 41) 1, none⟩,
  ⟨some 7, .move (.tmp 45), none⟩,
  ⟨some 8, .move (.tmp 46), none⟩])
 (.seq (.region [⟨some 47, .move (.tmp 8), none⟩,
  ⟨some 48, .bin .neq (.tmp 47) (.const (.int .i64 0)), none⟩])
 (.cond (.tmp 48) (.seq (.region [⟨some 49, .move (.tmp 8), none⟩,
  ⟨some 2, .move (.tmp 49), none⟩])
 (.ret))
 (.skip))))
 (.seq (.seq (.draw [⟨⟨some 50, .off 10 (.tmp 1), none⟩, .pure, 0, 1⟩,
  ⟨⟨some 51, .load false 1 (.tmp 50), none⟩, .read, 0, 1⟩,
  ⟨⟨some 52, .len (.tmp 51), none⟩, .pure, 0, 1⟩,
  ⟨⟨some 53, .off 4 (.tmp 1), none⟩, .pure, 0, 0⟩,
  ⟨⟨some 54, .load true 6 (.tmp 53), none⟩, .read, 0, 0⟩,
  ⟨⟨some 55, .call 53 [.tmp 54], none⟩, .heavy, 0, 1⟩,
  ⟨⟨some 56, .bin .neq (.tmp 52) (.tmp 55), none⟩, .pure, 1, 1⟩])
 (.cond (.tmp 56) (.seq (.region [⟨some 2, .move (.const (.int .i64 170)), none⟩])
 (.ret))
 (.skip)))
 (.seq (.seq (.region [⟨some 57, .off 10 (.tmp 1), none⟩,
  ⟨some 58, .load false 1 (.tmp 57), none⟩,
  ⟨some 59, .len (.tmp 58), none⟩,
  ⟨some 60, .move (.const (.int .i64 0)), none⟩])
 (.block 0 (.loop L35_1)))
 (.seq (.region [⟨some 2, .move (.const (.int .i64 0)), none⟩])
 (.ret))))))))
theorem light35 : Light Try.prog 35 1 76 L35 [.tmp 2] :=
  ⟨Try.f35, _, Try.func35, rfl, rfl, by kernel_rfl, by kernel_rfl, by decide⟩

/-! ### function 36: outrider/job.Right -/
def L36_1 : LCode :=
 .seq (.region [⟨some 50, .bin .lss (.tmp 49) (.tmp 48), none⟩])
 (.seq (.cond (.tmp 50) (.skip)
 (.exit 0))
 (.seq (.block 1 (.seq (.region [⟨some 51, .idx 2 (.tmp 47) (.tmp 49), none⟩,
  ⟨some 52, .load true 2 (.tmp 51), none⟩,
  ⟨some 4, .new 113 2 [.int .i64 0, .int .i64 0], none⟩,
  ⟨none, .store 2 (.tmp 4) (.tmp 52), none⟩])
 (.seq (.region [⟨some 53, .idxArr 2 1 (.tmp 4) (.const (.int .i64 0)), none⟩,
  ⟨some 54, .load false 1 (.tmp 53), none⟩,
  ⟨some 55, .bin .lss (.tmp 54) (.const (.int .i64 1)), none⟩,
  ⟨some 56, .move (.tmp 55), none⟩,
  ⟨some 57, .idxArr 2 1 (.tmp 4) (.const (.int .i64 0)), (some (56, false))⟩,
  ⟨some 58, .load false 1 (.tmp 57), (some (56, false))⟩,
  ⟨some 59, .idxArr 2 1 (.tmp 4) (.const (.int .i64 1)), (some (56, false))⟩,
  ⟨some 60, .load false 1 (.tmp 59), (some (56, false))⟩,
  ⟨some 61, .bin .gtr (.tmp 58) (.tmp 60), (some (56, false))⟩,
  ⟨some 62, .pick (.tmp 56) (.const (.bool true)) (.tmp 61), none⟩])
 (.cond (.tmp 62) (.seq (.region [⟨some 2, .move (.const (.int .i64 172)), none⟩])
 (.ret))
 (.skip)))))
 (.region [⟨some 63, .bin .add (.tmp 49) (.const (.int .i64 1)), none⟩,
  ⟨some 49, .move (.tmp 63), none⟩])))
def L36 : LCode :=
 .seq (.region [⟨some 1, .box 53 11 (.tmp 0), none⟩,
  ⟨some 2, .move (.const (.int .i64 0)), none⟩])
 (.seq (.seq (.region [⟨some 5, .off 0 (.tmp 1), none⟩,
  ⟨some 6, .load false 1 (.tmp 5), none⟩,
  ⟨some 7, .bin .lss (.tmp 6) (.const (.int .i64 1)), none⟩,
  ⟨some 8, .move (.tmp 7), none⟩,
  ⟨some 9, .off 0 (.tmp 1), (some (8, false))⟩,
  ⟨some 10, .load false 1 (.tmp 9), (some (8, false))⟩,
  ⟨some 11, .bin .gtr (.tmp 10) (.const (.int .i64 8)), (some (8, false))⟩,
  ⟨some 12, .pick (.tmp 8) (.const (.bool true)) (.tmp 11), none⟩])
 (.cond (.tmp 12) (.seq (.region [⟨some 2, .move (.const (.int .i64 162)), none⟩])
 (.ret))
 (.skip)))
 (.seq (.seq (.region [⟨some 13, .off 2 (.tmp 1), none⟩,
  ⟨some 14, .load false 1 (.tmp 13), none⟩,
  ⟨some 15, .bin .lss (.tmp 14) (.const (.int .i64 1)), none⟩,
  ⟨some 16, .move (.tmp 15), none⟩,
  ⟨some 17, .off 2 (.tmp 1), (some (16, false))⟩,
  ⟨some 18, .load false 1 (.tmp 17), (some (16, false))⟩,
  ⟨some 19, .bin .gtr (.tmp 18) (.const (.int .i64 3)), (some (16, false))⟩,
  ⟨some 20, .pick (.tmp 16) (.const (.bool true)) (.tmp 19), none⟩])
 (.cond (.tmp 20) (.seq (.region [⟨some 2, .move (.const (.int .i64 160)), none⟩])
 (.ret))
 (.skip)))
 (.seq (.seq (.region [⟨some 21, .off 3 (.tmp 1), none⟩,
  ⟨some 22, .load false 1 (.tmp 21), none⟩,
  ⟨some 23, .bin .lss (.tmp 22) (.const (.int .i64 1)), none⟩,
  ⟨some 24, .move (.tmp 23), none⟩,
  ⟨some 25, .off 3 (.tmp 1), (some (24, false))⟩,
  ⟨some 26, .load false 1 (.tmp 25), (some (24, false))⟩,
  ⟨some 27, .bin .gtr (.tmp 26) (.const (.int .i64 200)), (some (24, false))⟩,
  ⟨some 28, .pick (.tmp 24) (.const (.bool true)) (.tmp 27), none⟩])
 (.cond (.tmp 28) (.seq (.region [⟨some 2, .move (.const (.int .i64 161)), none⟩])
 (.ret))
 (.skip)))
 (.seq (.seq (.region [⟨some 29, .off 1 (.tmp 1), none⟩,
  ⟨some 30, .load false 1 (.tmp 29), none⟩,
  ⟨some 31, .build [.int .i64 0, .int .i64 0] [(0, 1, .tmp 30), (1, 1, .const (.int .i64 32))], none⟩,
  ⟨some 32, .off 4 (.tmp 1), none⟩,
  ⟨some 33, .load false 1 (.tmp 32), none⟩,
  ⟨some 34, .build [.int .i64 0, .int .i64 0] [(0, 1, .tmp 33), (1, 1, .const (.int .i64 64))], none⟩,
  ⟨some 35, .off 5 (.tmp 1), none⟩,
  ⟨some 36, .load false 1 (.tmp 35), none⟩,
  ⟨some 37, .build [.int .i64 0, .int .i64 0] [(0, 1, .tmp 36), (1, 1, .const (.int .i64 64))], none⟩,
  ⟨some 38, .off 6 (.tmp 1), none⟩,
  ⟨some 39, .load false 1 (.tmp 38), none⟩,
  ⟨some 40, .build [.int .i64 0, .int .i64 0] [(0, 1, .tmp 39), (1, 1, .const (.int .i64 64))], none⟩,
  ⟨some 41, .off 7 (.tmp 1), none⟩,
  ⟨some 42, .load false 1 (.tmp 41), none⟩,
  ⟨some 43, .build [.int .i64 0, .int .i64 0] [(0, 1, .tmp 42), (1, 1, .const (.int .i64 512))], none⟩,
  ⟨some 44, .off 8 (.tmp 1), none⟩,
  ⟨some 45, .load false 1 (.tmp 44), none⟩,
  ⟨some 46, .build [.int .i64 0, .int .i64 0] [(0, 1, .tmp 45), (1, 1, .const (.int .i64 512))], none⟩,
  ⟨some 47, .buildSlice 113 2 6 [.int .i64 0, .int .i64 0] [(0, 2, .tmp 31), (2, 2, .tmp 34), (4, 2, .tmp 37), (6, 2, .tmp 40), (8, 2, .tmp 43), (10, 2, .tmp 46)], none⟩,
  ⟨some 48, .len (.tmp 47), none⟩,
  ⟨some 49, .move (.const (.int .i64 0)), none⟩])
 (.block 0 (.loop L36_1)))
 (.seq (.seq (.region [⟨some 64, .off 9 (.tmp 1), none⟩,
  ⟨some 65, .load false 1 (.tmp 64), none⟩,
  ⟨some 66, .bin .lss (.tmp 65) (.const (.int .i64 0)), none⟩,
  ⟨some 67, .move (.tmp 66), none⟩,
  ⟨some 68, .off 9 (.tmp 1), (some (67, false))⟩,
  ⟨some 69, .load false 1 (.tmp 68), (some (67, false))⟩,
  ⟨some 70, .bin .gtr (.tmp 69) (.const (.int .i64 9)), (some (67, false))⟩,
  ⟨some 71, .pick (.tmp 67) (.const (.bool true)) (.tmp 70), none⟩])
 (.cond (.tmp 71) (.seq (.region [⟨some 2, .move (.const (.int .i64 172)), none⟩])
 (.ret))
 (.skip)))
 (.seq (.region [⟨some 2, .move (.const (.int .i64 0)), none⟩])
 (.ret)))))))
theorem light36 : Light Try.prog 36 1 72 L36 [.tmp 2] :=
  ⟨Try.f36, _, Try.func36, rfl, rfl, by kernel_rfl, by kernel_rfl, by decide⟩

/-! ### function 37: outrider/outriderref17.Valid -/
def L37_1 : LCode :=
 .seq (.seq (.region [⟨some 53, .move (.tmp 6), none⟩,
  ⟨some 54, .move (.tmp 5), none⟩,
  ⟨some 55, .bin .lss (.tmp 53) (.tmp 54), none⟩])
 (.cond (.tmp 55) (.skip)
 (.exit 0)))
 (.seq (.block 1 (.seq (.draw [⟨⟨some 59, .off 10 (.tmp 1), none⟩, .pure, 0, 0⟩,
  ⟨⟨some 60, .load false 1 (.tmp 59), none⟩, .read, 0, 0⟩,
  ⟨⟨some 61, .move (.tmp 6), none⟩, .pure, 0, 0⟩,
  ⟨⟨some 62, .idx 1 (.tmp 60) (.tmp 61), none⟩, .pure, 0, 0⟩,
  ⟨⟨some 63, .load false 1 (.tmp 62), none⟩, .read, 0, 0⟩,
  ⟨⟨some 64, .off 2 (.tmp 1), none⟩, .pure, 0, 0⟩,
  ⟨⟨some 65, .load false 1 (.tmp 64), none⟩, .read, 0, 0⟩,
  ⟨⟨some 66, .len (.tmp 65), none⟩, .pure, 0, 0⟩,
  ⟨⟨some 67, .call 57 [.tmp 63, .tmp 66], none⟩, .heavy, 0, 1⟩,
  ⟨⟨some 58, .move (.tmp 67), none⟩, .pure, 1, 1⟩,
  ⟨⟨some 68, .extract (.tmp 58) 0, none⟩, .pure, 1, 1⟩,
  ⟨⟨some 69, .extract (.tmp 58) 1, none⟩, .pure, 1, 1⟩,
  ⟨⟨some 4, .move (.tmp 69), none⟩, .pure, 1, 1⟩])
 (.seq (.region [⟨some 70, .move (.tmp 4), none⟩,
  ⟨some 71, .bin .neq (.tmp 70) (.const (.int .i64 0)), none⟩])
 (.cond (.tmp 71) (.seq (.region [⟨some 72, .move (.tmp 4), none⟩,
  ⟨some 2, .move (.tmp 72), none⟩])
 (.ret))
 (.skip)))))
 (.region [⟨some 56, .move (.tmp 6), none⟩,
  ⟨some 57, .bin .add (.tmp 56) (.const (.int .i64 1)), none⟩,
  ⟨some 6, .move (.tmp 57), none⟩]))
def L37 : LCode :=
 .seq (.region [⟨some 1, .box 50 11 (.tmp 0), none⟩,
  ⟨some 2, .move (.const (.int .i64 0)), none⟩])
 (.seq (.region [⟨some 8, .off 0 (.tmp 1), none⟩,
  ⟨some 9, .load false 1 (.tmp 8), none⟩,
  ⟨some 10, .off 1 (.tmp 1), none⟩,
  ⟨some 11, .load false 1 (.tmp 10), none⟩,
  ⟨some 12, .call 55 [.tmp 9, .tmp 11], none⟩,
  ⟨some 7, .move (.tmp 12), none⟩,
  ⟨some 13, .extract (.tmp 7) 0, none⟩,
  ⟨some 14, .extract (.tmp 7) 1, none⟩,
  ⟨some 3, .move (.tmp 13), none⟩,
  ⟨some 4, .move (.tmp 14), none⟩])
 (.seq (.seq (.region [⟨some 15, .move (.tmp 4), none⟩,
  ⟨some 16, .bin .neq (.tmp 15) (.const (.int .i64 0)), none⟩])
 (.cond (.tmp 16) (.seq (.region [⟨some 17, .move (.tmp 4), none⟩,
  ⟨some 2, .move (.tmp 17), none⟩])
 (.ret))
 (.skip)))
 (.seq (.region [⟨some 18, .off 2 (.tmp 1), none⟩,
  ⟨some 19, .load false 1 (.tmp 18), none⟩,
  ⟨some 20, .call 56 [.tmp 19], none⟩,
  ⟨some 4, .move (.tmp 20), none⟩])
 (.seq (.seq (.region [⟨some 21, .move (.tmp 4), none⟩,
  ⟨some 22, .bin .neq (.tmp 21) (.const (.int .i64 0)), none⟩])
 (.cond (.tmp 22) (.seq (.region [⟨some 23, .move (.tmp 4), none⟩,
  ⟨some 2, .move (.tmp 23), none⟩])
 (.ret))
 (.skip)))
 (.seq (.seq (.region [⟨some 24, .off 3 (.tmp 1), none⟩,
  ⟨some 25, .load false 1 (.tmp 24), none⟩,
  ⟨some 26, .bin .lss (.tmp 25) (.const (.int .i64 1)), none⟩,
  ⟨some 27, .move (.tmp 26), none⟩,
  ⟨some 28, .off 3 (.tmp 1), (some (27, false))⟩,
  ⟨some 29, .load false 1 (.tmp 28), (some (27, false))⟩,
  ⟨some 30, .bin .gtr (.tmp 29) (.const (.int .i64 4000)), (some (27, false))⟩,
  ⟨some 31, .pick (.tmp 27) (.const (.bool true)) (.tmp 30), none⟩])
 (.cond (.tmp 31) (.seq (.region [⟨some 2, .move (.const (.int .i64 110)), none⟩])
 (.ret))
 (.skip)))
 (.seq (.region [⟨some 33, .off 4 (.tmp 1), none⟩,
  ⟨some 34, .load true 6 (.tmp 33), none⟩,
  ⟨some 35, .call 34 [.tmp 34], none⟩,
  ⟨some 32, .move (.tmp 35), none⟩,
  ⟨some 36, .extract (.tmp 32) 0, none⟩,
  ⟨some 37, .extract (.tmp 32) 1, none⟩,
  ⟨some 4, .move (.tmp 37), none⟩])
 (.seq (.seq (.region [⟨some 38, .move (.tmp 4), none⟩,
  ⟨some 39, .bin .neq (.tmp 38) (.const (.int .i64 0)), none⟩])
 (.cond (.tmp 39) (.seq (.region [⟨some 40, .move (.tmp 4), none⟩,
  ⟨some 2, .move (.tmp 40), none⟩])
 (.ret))
 (.skip)))
 (.seq (.region [⟨some 5, .move (.const (.int .i64 1)), none⟩])
 (.seq (.seq (.region [⟨some 41, .off 4 (.tmp 1), none⟩,
  ⟨some 42, .off 0 (.tmp 41), none⟩,
  ⟨some 43, .load false 1 (.tmp 42), none⟩,
  ⟨some 44, .bin .eql (.tmp 43) (.const (.int .i64 2)), none⟩])
 (.cond (.tmp 44) (.region [⟨some 45, .off 4 (.tmp 1), none⟩,
  ⟨some 46, .off 5 (.tmp 45), none⟩,
  ⟨some 47, .load false 1 (.tmp 46), none⟩,
  ⟨some 5, .move (.tmp 47), none⟩])
 (.skip)))
 (.seq (.seq (.region [⟨some 48, .off 10 (.tmp 1), none⟩,
  ⟨some 49, .load false 1 (.tmp 48), none⟩,
  ⟨some 50, .len (.tmp 49), none⟩,
  ⟨some 51, .move (.tmp 5), none⟩,
  ⟨some 52, .bin .neq (.tmp 50) (.tmp 51), none⟩])
 (.cond (.tmp 52) (.seq (.region [⟨some 2, .move (.const (.int .i64 170)), none⟩])
 (.ret))
 (.skip)))
 (.seq (.seq (.region [⟨some 6, .move (.const (.int .i64 0)), none⟩])
 (.block 0 (.loop L37_1)))
 (.seq (.region [⟨some 2, .move (.const (.int .i64 0)), none⟩])
 (.ret)))))))))))))
theorem light37 : Light Try.prog 37 1 73 L37 [.tmp 2] :=
  ⟨Try.f37, _, Try.func37, rfl, rfl, by kernel_rfl, by kernel_rfl, by decide⟩

/-! ### function 38: outrider/outriderref17.Right -/
def L38 : LCode :=
 .seq (.region [⟨some 1, .box 53 11 (.tmp 0), none⟩,
  ⟨some 2, .move (.const (.int .i64 0)), none⟩])
 (.seq (.seq (.region [⟨some 3, .off 0 (.tmp 1), none⟩,
  ⟨some 4, .load false 1 (.tmp 3), none⟩,
  ⟨some 5, .call 58 [.tmp 4, .const (.int .i64 1), .const (.int .i64 8)], none⟩])
 (.cond (.tmp 5) (.seq (.region [⟨some 2, .move (.const (.int .i64 162)), none⟩])
 (.ret))
 (.skip)))
 (.seq (.seq (.region [⟨some 6, .off 2 (.tmp 1), none⟩,
  ⟨some 7, .load false 1 (.tmp 6), none⟩,
  ⟨some 8, .call 58 [.tmp 7, .const (.int .i64 1), .const (.int .i64 3)], none⟩])
 (.cond (.tmp 8) (.seq (.region [⟨some 2, .move (.const (.int .i64 160)), none⟩])
 (.ret))
 (.skip)))
 (.seq (.seq (.region [⟨some 9, .off 3 (.tmp 1), none⟩,
  ⟨some 10, .load false 1 (.tmp 9), none⟩,
  ⟨some 11, .call 58 [.tmp 10, .const (.int .i64 1), .const (.int .i64 200)], none⟩])
 (.cond (.tmp 11) (.seq (.region [⟨some 2, .move (.const (.int .i64 161)), none⟩])
 (.ret))
 (.skip)))
 (.seq (.seq (.region [⟨some 12, .off 1 (.tmp 1), none⟩,
  ⟨some 13, .load false 1 (.tmp 12), none⟩,
  ⟨some 14, .call 58 [.tmp 13, .const (.int .i64 1), .const (.int .i64 32)], none⟩,
  ⟨some 15, .move (.tmp 14), none⟩,
  ⟨some 16, .off 4 (.tmp 1), (some (15, false))⟩,
  ⟨some 17, .load false 1 (.tmp 16), (some (15, false))⟩,
  ⟨some 18, .call 58 [.tmp 17, .const (.int .i64 1), .const (.int .i64 64)], (some (15, false))⟩,
  ⟨some 19, .pick (.tmp 15) (.const (.bool true)) (.tmp 18), none⟩,
  ⟨some 20, .move (.tmp 19), none⟩,
  ⟨some 21, .off 5 (.tmp 1), (some (20, false))⟩,
  ⟨some 22, .load false 1 (.tmp 21), (some (20, false))⟩,
  ⟨some 23, .call 58 [.tmp 22, .const (.int .i64 1), .const (.int .i64 64)], (some (20, false))⟩,
  ⟨some 24, .pick (.tmp 20) (.const (.bool true)) (.tmp 23), none⟩,
  ⟨some 25, .move (.tmp 24), none⟩,
  ⟨some 26, .off 6 (.tmp 1), (some (25, false))⟩,
  ⟨some 27, .load false 1 (.tmp 26), (some (25, false))⟩,
  ⟨some 28, .call 58 [.tmp 27, .const (.int .i64 1), .const (.int .i64 64)], (some (25, false))⟩,
  ⟨some 29, .pick (.tmp 25) (.const (.bool true)) (.tmp 28), none⟩,
  ⟨some 30, .move (.tmp 29), none⟩,
  ⟨some 31, .off 7 (.tmp 1), (some (30, false))⟩,
  ⟨some 32, .load false 1 (.tmp 31), (some (30, false))⟩,
  ⟨some 33, .call 58 [.tmp 32, .const (.int .i64 1), .const (.int .i64 512)], (some (30, false))⟩,
  ⟨some 34, .pick (.tmp 30) (.const (.bool true)) (.tmp 33), none⟩,
  ⟨some 35, .move (.tmp 34), none⟩,
  ⟨some 36, .off 8 (.tmp 1), (some (35, false))⟩,
  ⟨some 37, .load false 1 (.tmp 36), (some (35, false))⟩,
  ⟨some 38, .call 58 [.tmp 37, .const (.int .i64 1), .const (.int .i64 512)], (some (35, false))⟩,
  ⟨some 39, .pick (.tmp 35) (.const (.bool true)) (.tmp 38), none⟩,
  ⟨some 40, .move (.tmp 39), none⟩,
  ⟨some 41, .off 9 (.tmp 1), (some (40, false))⟩,
  ⟨some 42, .load false 1 (.tmp 41), (some (40, false))⟩,
  ⟨some 43, .call 58 [.tmp 42, .const (.int .i64 0), .const (.int .i64 9)], (some (40, false))⟩,
  ⟨some 44, .pick (.tmp 40) (.const (.bool true)) (.tmp 43), none⟩])
 (.cond (.tmp 44) (.seq (.region [⟨some 2, .move (.const (.int .i64 172)), none⟩])
 (.ret))
 (.skip)))
 (.seq (.region [⟨some 2, .move (.const (.int .i64 0)), none⟩])
 (.ret))))))
theorem light38 : Light Try.prog 38 1 45 L38 [.tmp 2] :=
  ⟨Try.f38, _, Try.func38, rfl, rfl, by kernel_rfl, by kernel_rfl, by decide⟩

/-! ### function 50: outrider/plan.loop -/
def L50 : LCode :=
 .seq (.region [⟨some 1, .box 47 6 (.tmp 0), none⟩,
  ⟨some 2, .move (.const (.int .i64 0)), none⟩,
  ⟨some 3, .move (.const (.int .i64 0)), none⟩])
 (.seq (.seq (.region [⟨some 8, .off 3 (.tmp 1), none⟩,
  ⟨some 9, .load false 1 (.tmp 8), none⟩,
  ⟨some 10, .bin .eql (.tmp 9) (.const (.int .i64 0)), none⟩])
 (.cond (.tmp 10) (.seq (.region [⟨some 2, .move (.const (.int .i64 0)), none⟩,
  ⟨some 3, .move (.const (.int .i64 150)), none⟩])
 (.ret))
 (.skip)))
 (.seq (.draw [⟨⟨some 11, .off 2 (.tmp 1), none⟩, .pure, 0, 0⟩,
  ⟨⟨some 12, .load false 1 (.tmp 11), none⟩, .read, 0, 0⟩,
  ⟨⟨some 13, .conv .u64 (.tmp 12), none⟩, .pure, 0, 0⟩,
  ⟨⟨some 14, .off 1 (.tmp 1), none⟩, .pure, 0, 0⟩,
  ⟨⟨some 15, .load false 1 (.tmp 14), none⟩, .read, 0, 0⟩,
  ⟨⟨some 16, .conv .u64 (.tmp 15), none⟩, .pure, 0, 0⟩,
  ⟨⟨some 17, .bin .sub (.tmp 13) (.tmp 16), none⟩, .pure, 0, 0⟩,
  ⟨⟨some 18, .off 3 (.tmp 1), none⟩, .pure, 0, 0⟩,
  ⟨⟨some 19, .load false 1 (.tmp 18), none⟩, .read, 0, 0⟩,
  ⟨⟨some 20, .conv .u64 (.tmp 19), none⟩, .pure, 0, 0⟩,
  ⟨⟨some 4, .move (.tmp 17), none⟩, .pure, 0, 0⟩,
  ⟨⟨some 5, .move (.tmp 20), none⟩, .pure, 0, 0⟩])
 (.seq (.region [⟨some 21, .off 1 (.tmp 1), none⟩,
  ⟨some 22, .load false 1 (.tmp 21), none⟩,
  ⟨some 23, .off 2 (.tmp 1), none⟩,
  ⟨some 24, .load false 1 (.tmp 23), none⟩,
  ⟨some 25, .bin .geq (.tmp 22) (.tmp 24), none⟩,
  ⟨some 6, .move (.tmp 25), none⟩])
 (.seq (.seq (.region [⟨some 26, .off 3 (.tmp 1), none⟩,
  ⟨some 27, .load false 1 (.tmp 26), none⟩,
  ⟨some 28, .bin .lss (.tmp 27) (.const (.int .i64 0)), none⟩])
 (.cond (.tmp 28) (.draw [⟨⟨some 29, .move (.tmp 4), none⟩, .pure, 0, 0⟩,
  ⟨⟨some 30, .un .neg (.tmp 29), none⟩, .pure, 0, 0⟩,
  ⟨⟨some 31, .move (.tmp 5), none⟩, .pure, 0, 0⟩,
  ⟨⟨some 32, .un .neg (.tmp 31), none⟩, .pure, 0, 0⟩,
  ⟨⟨some 33, .off 1 (.tmp 1), none⟩, .pure, 0, 0⟩,
  ⟨⟨some 34, .load false 1 (.tmp 33), none⟩, .read, 0, 0⟩,
  ⟨⟨some 35, .off 2 (.tmp 1), none⟩, .pure, 0, 0⟩,
  ⟨⟨some 36, .load false 1 (.tmp 35), none⟩, .read, 0, 0⟩,
  ⟨⟨some 37, .bin .leq (.tmp 34) (.tmp 36), none⟩, .pure, 0, 0⟩,
  ⟨⟨some 4, .move (.tmp 30), none⟩, .pure, 0, 0⟩,
  ⟨⟨some 5, .move (.tmp 32), none⟩, .pure, 0, 0⟩,
  ⟨⟨some 6, .move (.tmp 37), none⟩, .pure, 0, 0⟩])
 (.skip)))
 (.seq (.seq (.region [⟨some 38, .move (.tmp 6), none⟩])
 (.cond (.tmp 38) (.seq (.region [⟨some 2, .move (.const (.int .i64 0)), none⟩,
  ⟨some 3, .move (.const (.int .i64 0)), none⟩])
 (.ret))
 (.skip)))
 (.seq (.region [⟨some 39, .move (.tmp 4), none⟩,
  ⟨some 40, .bin .sub (.tmp 39) (.const (.int .u64 1)), none⟩,
  ⟨some 41, .move (.tmp 5), none⟩,
  ⟨some 42, .bin .quo (.tmp 40) (.tmp 41), none⟩,
  ⟨some 43, .bin .add (.tmp 42) (.const (.int .u64 1)), none⟩,
  ⟨some 7, .move (.tmp 43), none⟩])
 (.seq (.seq (.region [⟨some 44, .move (.tmp 7), none⟩,
  ⟨some 45, .bin .gtr (.tmp 44) (.const (.int .u64 200)), none⟩])
 (.cond (.tmp 45) (.seq (.region [⟨some 2, .move (.const (.int .i64 0)), none⟩,
  ⟨some 3, .move (.const (.int .i64 151)), none⟩])
 (.ret))
 (.skip)))
 (.seq (.region [⟨some 46, .move (.tmp 7), none⟩,
  ⟨some 47, .conv .i64 (.tmp 46), none⟩,
  ⟨some 2, .move (.tmp 47), none⟩,
  ⟨some 3, .move (.const (.int .i64 0)), none⟩])
 (.ret)))))))))
theorem light50 : Light Try.prog 50 1 48 L50 [.tmp 2, .tmp 3] :=
  ⟨Try.f50, _, Try.func50, rfl, rfl, by kernel_rfl, by kernel_rfl, by decide⟩

/-! ### function 51: outrider/mem.Of -/
def L51_1 : LCode :=
 .seq (.region [⟨some 21, .bin .lss (.tmp 20) (.tmp 19), none⟩])
 (.seq (.cond (.tmp 21) (.skip)
 (.exit 0))
 (.seq (.block 1 (.seq (.region [⟨some 22, .idx 2 (.tmp 18) (.tmp 20), none⟩,
  ⟨some 23, .load true 2 (.tmp 22), none⟩,
  ⟨some 9, .new 128 2 [.int .i64 0, .int .i64 0], none⟩,
  ⟨none, .store 2 (.tmp 9) (.tmp 23), none⟩])
 (.seq (.seq (.region [⟨some 24, .off 0 (.tmp 9), none⟩,
  ⟨some 25, .load false 1 (.tmp 24), none⟩,
  ⟨some 26, .bin .lss (.tmp 25) (.const (.int .i64 0)), none⟩,
  ⟨some 27, .move (.tmp 26), none⟩,
  ⟨some 28, .off 0 (.tmp 9), (some (27, false))⟩,
  ⟨some 29, .load false 1 (.tmp 28), (some (27, false))⟩,
  ⟨some 30, .move (.tmp 0), (some (27, false))⟩,
  ⟨some 31, .bin .geq (.tmp 29) (.tmp 30), (some (27, false))⟩,
  ⟨some 32, .pick (.tmp 27) (.const (.bool true)) (.tmp 31), none⟩])
 (.cond (.tmp 32) (.seq (.region [⟨some 4, .move (.const (.slice none 0 0)), none⟩,
  ⟨some 5, .move (.const (.int .i64 131)), none⟩])
 (.ret))
 (.skip)))
 (.seq (.seq (.region [⟨some 33, .off 0 (.tmp 9), none⟩,
  ⟨some 34, .load false 1 (.tmp 33), none⟩,
  ⟨some 35, .idxArr 64 1 (.tmp 7) (.tmp 34), none⟩,
  ⟨some 36, .load false 1 (.tmp 35), none⟩])
 (.cond (.tmp 36) (.seq (.region [⟨some 4, .move (.const (.slice none 0 0)), none⟩,
  ⟨some 5, .move (.const (.int .i64 61)), none⟩])
 (.ret))
 (.skip)))
 (.seq (.region [⟨some 37, .off 0 (.tmp 9), none⟩,
  ⟨some 38, .load false 1 (.tmp 37), none⟩,
  ⟨some 39, .idxArr 64 1 (.tmp 7) (.tmp 38), none⟩,
  ⟨none, .store 1 (.tmp 39) (.const (.bool true)), none⟩])
 (.region [⟨some 40, .move (.tmp 6), none⟩,
  ⟨some 41, .off 0 (.tmp 9), none⟩,
  ⟨some 42, .load false 1 (.tmp 41), none⟩,
  ⟨some 43, .off 1 (.tmp 9), none⟩,
  ⟨some 44, .load false 1 (.tmp 43), none⟩,
  ⟨some 45, .idx 1 (.tmp 40) (.tmp 42), none⟩,
  ⟨none, .store 1 (.tmp 45) (.tmp 44), none⟩]))))))
 (.region [⟨some 46, .bin .add (.tmp 20) (.const (.int .i64 1)), none⟩,
  ⟨some 20, .move (.tmp 46), none⟩])))
def L51 : LCode :=
 .seq (.region [⟨some 4, .move (.const (.slice none 0 0)), none⟩,
  ⟨some 5, .move (.const (.int .i64 0)), none⟩])
 (.seq (.seq (.region [⟨some 10, .move (.tmp 0), none⟩,
  ⟨some 11, .bin .lss (.tmp 10) (.const (.int .i64 1)), none⟩,
  ⟨some 12, .move (.tmp 11), none⟩,
  ⟨some 13, .move (.tmp 0), (some (12, false))⟩,
  ⟨some 14, .bin .gtr (.tmp 13) (.const (.int .i64 64)), (some (12, false))⟩,
  ⟨some 15, .pick (.tmp 12) (.const (.bool true)) (.tmp 14), none⟩])
 (.cond (.tmp 15) (.seq (.region [⟨some 4, .move (.const (.slice none 0 0)), none⟩,
  ⟨some 5, .move (.const (.int .i64 130)), none⟩])
 (.ret))
 (.skip)))
 (.seq (.region [⟨some 16, .move (.tmp 0), none⟩,
  ⟨some 17, .make 2 1 8 [.int .i64 0] (.tmp 16) (.tmp 16), none⟩,
  ⟨some 6, .move (.tmp 17), none⟩])
 (.seq (.region [⟨some 7, .new 126 64 [.bool false, .bool false, .bool false, .bool false, .bool false, .bool false, .bool false, .bool false, .bool false, .bool false, .bool false, .bool false, .bool false, .bool false, .bool false, .bool false, .bool false, .bool false, .bool false, .bool false, .bool false, .bool false, .bool false, .bool false, .bool false, .bool false, .bool false, .bool false, .bool false, .bool false, .bool false, .bool false, .bool false, .bool false, .bool false, .bool false, .bool false, .bool false, .bool false, .bool false, .bool false, .bool false, .bool false, .bool false, .bool false, .bool false, .bool false, .bool false, .bool false, .bool false, .bool false, .bool false, .bool false, .bool false, .bool false, .bool false, .bool false, .bool false, .bool false, .bool false, .bool false, .bool false, .bool false, .bool false], none⟩])
 (.seq (.seq (.region [⟨some 18, .move (.tmp 1), none⟩,
  ⟨some 19, .len (.tmp 18), none⟩,
  ⟨some 20, .move (.const (.int .i64 0)), none⟩])
 (.block 0 (.loop L51_1)))
 (.seq (.region [⟨some 47, .move (.tmp 6), none⟩,
  ⟨some 4, .move (.tmp 47), none⟩,
  ⟨some 5, .move (.const (.int .i64 0)), none⟩])
 (.ret))))))
theorem light51 : Light Try.prog 51 2 48 L51 [.tmp 4, .tmp 5] :=
  ⟨Try.f51, _, Try.func51, rfl, rfl, by kernel_rfl, by kernel_rfl, by decide⟩

/-! ### function 52: outrider/red.New -/
def L52_1 : LCode :=
 .seq (.region [⟨some 15, .bin .lss (.tmp 14) (.tmp 13), none⟩])
 (.seq (.cond (.tmp 15) (.skip)
 (.exit 0))
 (.seq (.block 1 (.seq (.region [⟨some 16, .idx 2 (.tmp 12) (.tmp 14), none⟩,
  ⟨some 17, .load true 2 (.tmp 16), none⟩,
  ⟨some 6, .new 134 2 [.int .i64 0, .int .i64 0], none⟩,
  ⟨none, .store 2 (.tmp 6) (.tmp 17), none⟩])
 (.seq (.seq (.region [⟨some 18, .off 0 (.tmp 6), none⟩,
  ⟨some 19, .load false 1 (.tmp 18), none⟩,
  ⟨some 20, .call 62 [.tmp 19], none⟩,
  ⟨some 21, .un .not (.tmp 20), none⟩])
 (.cond (.tmp 21) (.seq (.region [⟨some 2, .move (.const (.pointer none)), none⟩,
  ⟨some 3, .move (.const (.int .i64 140)), none⟩])
 (.ret))
 (.skip)))
 (.seq (.draw [⟨⟨some 22, .move (.tmp 4), none⟩, .pure, 0, 2⟩,
  ⟨⟨some 23, .move (.tmp 4), none⟩, .pure, 0, 1⟩,
  ⟨⟨some 24, .nilCheck (.tmp 23), none⟩, .pure, 0, 1⟩,
  ⟨⟨some 25, .off 0 (.tmp 24), none⟩, .pure, 0, 1⟩,
  ⟨⟨some 26, .load false 1 (.tmp 25), none⟩, .read, 0, 1⟩,
  ⟨⟨some 27, .off 0 (.tmp 6), none⟩, .pure, 0, 0⟩,
  ⟨⟨some 28, .load false 1 (.tmp 27), none⟩, .read, 0, 0⟩,
  ⟨⟨some 29, .buildSlice 132 1 1 [.int .i64 0] [(0, 1, .tmp 28)], none⟩, .heavy, 0, 1⟩,
  ⟨⟨some 30, .append 132 1 8 (.tmp 26) (.tmp 29), none⟩, .heavy, 1, 2⟩,
  ⟨⟨some 31, .nilCheck (.tmp 22), none⟩, .pure, 2, 2⟩,
  ⟨⟨some 32, .off 0 (.tmp 31), none⟩, .pure, 2, 2⟩,
  ⟨⟨none, .store 1 (.tmp 32) (.tmp 30), none⟩, .heavy, 2, 3⟩])
 (.draw [⟨⟨some 33, .move (.tmp 4), none⟩, .pure, 0, 3⟩,
  ⟨⟨some 34, .move (.tmp 4), none⟩, .pure, 0, 2⟩,
  ⟨⟨some 35, .nilCheck (.tmp 34), none⟩, .pure, 0, 2⟩,
  ⟨⟨some 36, .off 1 (.tmp 35), none⟩, .pure, 0, 2⟩,
  ⟨⟨some 37, .load false 1 (.tmp 36), none⟩, .read, 0, 2⟩,
  ⟨⟨some 38, .off 0 (.tmp 6), none⟩, .pure, 0, 0⟩,
  ⟨⟨some 39, .load false 1 (.tmp 38), none⟩, .read, 0, 0⟩,
  ⟨⟨some 40, .call 63 [.tmp 39], none⟩, .heavy, 0, 1⟩,
  ⟨⟨some 41, .buildSlice 2 1 1 [.int .i64 0] [(0, 1, .tmp 40)], none⟩, .heavy, 1, 2⟩,
  ⟨⟨some 42, .append 2 1 8 (.tmp 37) (.tmp 41), none⟩, .heavy, 2, 3⟩,
  ⟨⟨some 43, .nilCheck (.tmp 33), none⟩, .pure, 3, 3⟩,
  ⟨⟨some 44, .off 1 (.tmp 43), none⟩, .pure, 3, 3⟩,
  ⟨⟨none, .store 1 (.tmp 44) (.tmp 42), none⟩, .heavy, 3, 4⟩])))))
 (.region [⟨some 45, .bin .add (.tmp 14) (.const (.int .i64 1)), none⟩,
  ⟨some 14, .move (.tmp 45), none⟩])))
def L52 : LCode :=
 .seq (.region [⟨some 2, .move (.const (.pointer none)), none⟩,
  ⟨some 3, .move (.const (.int .i64 0)), none⟩])
 (.seq (.seq (.region [⟨some 7, .move (.tmp 0), none⟩,
  ⟨some 8, .len (.tmp 7), none⟩,
  ⟨some 9, .bin .gtr (.tmp 8) (.const (.int .i64 4)), none⟩])
 (.cond (.tmp 9) (.seq (.region [⟨some 2, .move (.const (.pointer none)), none⟩,
  ⟨some 3, .move (.const (.int .i64 171)), none⟩])
 (.ret))
 (.skip)))
 (.seq (.region [⟨some 10, .build [.slice none 0 0, .slice none 0 0, .int .i64 0] [], none⟩,
  ⟨some 11, .box 131 3 (.tmp 10), none⟩,
  ⟨some 4, .move (.tmp 11), none⟩])
 (.seq (.seq (.region [⟨some 12, .move (.tmp 0), none⟩,
  ⟨some 13, .len (.tmp 12), none⟩,
  ⟨some 14, .move (.const (.int .i64 0)), none⟩])
 (.block 0 (.loop L52_1)))
 (.seq (.region [⟨some 46, .move (.tmp 4), none⟩,
  ⟨some 2, .move (.tmp 46), none⟩,
  ⟨some 3, .move (.const (.int .i64 0)), none⟩])
 (.ret)))))
theorem light52 : Light Try.prog 52 1 47 L52 [.tmp 2, .tmp 3] :=
  ⟨Try.f52, _, Try.func52, rfl, rfl, by kernel_rfl, by kernel_rfl, by decide⟩

/-! ### function 53: outrider/plan.Stages -/
def L53 : LCode :=
 .seq (.region [⟨some 1, .box 47 6 (.tmp 0), none⟩,
  ⟨some 2, .move (.const (.int .i64 0)), none⟩])
 (.seq (.seq (.region [⟨some 3, .off 0 (.tmp 1), none⟩,
  ⟨some 4, .load false 1 (.tmp 3), none⟩,
  ⟨some 5, .bin .eql (.tmp 4) (.const (.int .i64 2)), none⟩])
 (.cond (.tmp 5) (.seq (.region [⟨some 6, .off 5 (.tmp 1), none⟩,
  ⟨some 7, .load false 1 (.tmp 6), none⟩,
  ⟨some 2, .move (.tmp 7), none⟩])
 (.ret))
 (.skip)))
 (.seq (.region [⟨some 2, .move (.const (.int .i64 1)), none⟩])
 (.ret)))
theorem light53 : Light Try.prog 53 1 8 L53 [.tmp 2] :=
  ⟨Try.f53, _, Try.func53, rfl, rfl, by kernel_rfl, by kernel_rfl, by decide⟩

/-! ### function 54: outrider/ins.Check -/
def L54_1 : LCode :=
 .seq (.region [⟨some 21, .bin .lss (.tmp 20) (.tmp 19), none⟩])
 (.seq (.cond (.tmp 21) (.skip)
 (.exit 0))
 (.seq (.block 1 (.seq (.region [⟨some 22, .move (.tmp 20), none⟩,
  ⟨some 23, .idx 6 (.tmp 18) (.tmp 20), none⟩,
  ⟨some 24, .load true 6 (.tmp 23), none⟩,
  ⟨some 7, .new 140 6 [.int .i64 0, .int .i64 0, .int .i64 0, .int .i64 0, .int .i64 0, .int .i64 0], none⟩,
  ⟨some 6, .move (.tmp 22), none⟩,
  ⟨none, .store 6 (.tmp 7) (.tmp 24), none⟩])
 (.seq (.region [⟨some 25, .load true 6 (.tmp 7), none⟩,
  ⟨some 26, .move (.tmp 1), none⟩,
  ⟨some 27, .move (.tmp 0), none⟩,
  ⟨some 28, .len (.tmp 27), none⟩,
  ⟨some 29, .call 64 [.tmp 25, .tmp 26, .tmp 28], none⟩,
  ⟨some 8, .move (.tmp 29), none⟩])
 (.seq (.region [⟨some 30, .move (.tmp 8), none⟩,
  ⟨some 31, .bin .neq (.tmp 30) (.const (.int .i64 0)), none⟩])
 (.cond (.tmp 31) (.seq (.region [⟨some 32, .move (.tmp 6), none⟩,
  ⟨some 33, .move (.tmp 8), none⟩,
  ⟨some 4, .move (.tmp 32), none⟩,
  ⟨some 5, .move (.tmp 33), none⟩])
 (.ret))
 (.skip))))))
 (.region [⟨some 34, .bin .add (.tmp 20) (.const (.int .i64 1)), none⟩,
  ⟨some 20, .move (.tmp 34), none⟩])))
def L54 : LCode :=
 .seq (.region [⟨some 4, .move (.const (.int .i64 0)), none⟩,
  ⟨some 5, .move (.const (.int .i64 0)), none⟩])
 (.seq (.seq (.region [⟨some 10, .move (.tmp 0), none⟩,
  ⟨some 11, .len (.tmp 10), none⟩,
  ⟨some 12, .bin .eql (.tmp 11) (.const (.int .i64 0)), none⟩,
  ⟨some 13, .move (.tmp 12), none⟩,
  ⟨some 14, .move (.tmp 0), (some (13, false))⟩,
  ⟨some 15, .len (.tmp 14), (some (13, false))⟩,
  ⟨some 16, .bin .gtr (.tmp 15) (.const (.int .i64 600)), (some (13, false))⟩,
  ⟨some 17, .pick (.tmp 13) (.const (.bool true)) (.tmp 16), none⟩])
 (.cond (.tmp 17) (.seq (.region [⟨some 4, .move (.const (.int .i64 0)), none⟩,
  ⟨some 5, .move (.const (.int .i64 80)), none⟩])
 (.ret))
 (.skip)))
 (.seq (.seq (.region [⟨some 18, .move (.tmp 0), none⟩,
  ⟨some 19, .len (.tmp 18), none⟩,
  ⟨some 20, .move (.const (.int .i64 0)), none⟩])
 (.block 0 (.loop L54_1)))
 (.seq (.region [⟨some 35, .move (.tmp 0), none⟩,
  ⟨some 36, .len (.tmp 35), none⟩,
  ⟨some 37, .bin .sub (.tmp 36) (.const (.int .i64 1)), none⟩,
  ⟨some 9, .move (.tmp 37), none⟩])
 (.seq (.seq (.region [⟨some 38, .move (.tmp 0), none⟩,
  ⟨some 39, .move (.tmp 9), none⟩,
  ⟨some 40, .idx 6 (.tmp 38) (.tmp 39), none⟩,
  ⟨some 41, .load true 6 (.tmp 40), none⟩,
  ⟨some 42, .call 65 [.tmp 41], none⟩])
 (.cond (.tmp 42) (.seq (.region [⟨some 43, .move (.tmp 9), none⟩,
  ⟨some 4, .move (.tmp 43), none⟩,
  ⟨some 5, .move (.const (.int .i64 85)), none⟩])
 (.ret))
 (.skip)))
 (.seq (.region [⟨some 4, .move (.const (.int .i64 0)), none⟩,
  ⟨some 5, .move (.const (.int .i64 0)), none⟩])
 (.ret))))))
theorem light54 : Light Try.prog 54 2 44 L54 [.tmp 4, .tmp 5] :=
  ⟨Try.f54, _, Try.func54, rfl, rfl, by kernel_rfl, by kernel_rfl, by decide⟩

/-! ### function 55: outrider/outriderref13.Of -/
def L55_1 : LCode :=
 .seq (.seq (.region [⟨some 19, .move (.tmp 6), none⟩,
  ⟨some 20, .move (.tmp 1), none⟩,
  ⟨some 21, .len (.tmp 20), none⟩,
  ⟨some 22, .bin .lss (.tmp 19) (.tmp 21), none⟩])
 (.cond (.tmp 22) (.skip)
 (.exit 0)))
 (.seq (.block 1 (.seq (.seq (.region [⟨some 25, .move (.tmp 1), none⟩,
  ⟨some 26, .move (.tmp 6), none⟩,
  ⟨some 27, .idx 2 (.tmp 25) (.tmp 26), none⟩,
  ⟨some 28, .off 0 (.tmp 27), none⟩,
  ⟨some 29, .load false 1 (.tmp 28), none⟩,
  ⟨some 30, .bin .lss (.tmp 29) (.const (.int .i64 0)), none⟩,
  ⟨some 31, .move (.tmp 30), none⟩,
  ⟨some 32, .move (.tmp 1), (some (31, false))⟩,
  ⟨some 33, .move (.tmp 6), (some (31, false))⟩,
  ⟨some 34, .idx 2 (.tmp 32) (.tmp 33), (some (31, false))⟩,
  ⟨some 35, .off 0 (.tmp 34), (some (31, false))⟩,
  ⟨some 36, .load false 1 (.tmp 35), (some (31, false))⟩,
  ⟨some 37, .move (.tmp 0), (some (31, false))⟩,
  ⟨some 38, .bin .geq (.tmp 36) (.tmp 37), (some (31, false))⟩,
  ⟨some 39, .pick (.tmp 31) (.const (.bool true)) (.tmp 38), none⟩])
 (.cond (.tmp 39) (.seq (.region [⟨some 4, .move (.const (.slice none 0 0)), none⟩,
  ⟨some 5, .move (.const (.int .i64 131)), none⟩])
 (.ret))
 (.skip)))
 (.seq (.draw [⟨⟨some 41, .move (.tmp 1), none⟩, .pure, 0, 0⟩,
  ⟨⟨some 42, .move (.tmp 6), none⟩, .pure, 0, 0⟩,
  ⟨⟨some 43, .slice 2 (.tmp 41) none (some (.tmp 42)) none, none⟩, .pure, 0, 0⟩,
  ⟨⟨some 44, .move (.tmp 1), none⟩, .pure, 0, 0⟩,
  ⟨⟨some 45, .move (.tmp 6), none⟩, .pure, 0, 0⟩,
  ⟨⟨some 46, .idx 2 (.tmp 44) (.tmp 45), none⟩, .pure, 0, 0⟩,
  ⟨⟨some 47, .off 0 (.tmp 46), none⟩, .pure, 0, 0⟩,
  ⟨⟨some 48, .load false 1 (.tmp 47), none⟩, .read, 0, 0⟩,
  ⟨⟨some 49, .call 66 [.tmp 43, .tmp 48], none⟩, .heavy, 0, 1⟩,
  ⟨⟨some 40, .move (.tmp 49), none⟩, .pure, 1, 1⟩,
  ⟨⟨some 50, .extract (.tmp 40) 0, none⟩, .pure, 1, 1⟩,
  ⟨⟨some 51, .extract (.tmp 40) 1, none⟩, .pure, 1, 1⟩,
  ⟨⟨some 7, .move (.tmp 50), none⟩, .pure, 1, 1⟩,
  ⟨⟨some 8, .move (.tmp 51), none⟩, .pure, 1, 1⟩])
 (.seq (.region [⟨some 52, .move (.tmp 8), none⟩])
 (.cond (.tmp 52) (.seq (.region [⟨some 4, .move (.const (.slice none 0 0)), none⟩,
  ⟨some 5, .move (.const (.int .i64 61)), none⟩])
 (.ret))
 (.skip))))))
 (.region [⟨some 23, .move (.tmp 6), none⟩,
  ⟨some 24, .bin .add (.tmp 23) (.const (.int .i64 1)), none⟩,
  ⟨some 6, .move (.tmp 24), none⟩]))
def L55_2 : LCode :=
 .seq (.seq (.region [⟨some 53, .move (.tmp 10), none⟩,
  ⟨some 54, .move (.tmp 0), none⟩,
  ⟨some 55, .bin .lss (.tmp 53) (.tmp 54), none⟩])
 (.cond (.tmp 55) (.skip)
 (.exit 2)))
 (.seq (.block 3 (.seq (.region [⟨some 59, .move (.tmp 1), none⟩,
  ⟨some 60, .move (.tmp 10), none⟩,
  ⟨some 61, .call 66 [.tmp 59, .tmp 60], none⟩,
  ⟨some 58, .move (.tmp 61), none⟩,
  ⟨some 62, .extract (.tmp 58) 0, none⟩,
  ⟨some 63, .extract (.tmp 58) 1, none⟩,
  ⟨some 11, .move (.tmp 62), none⟩,
  ⟨some 12, .move (.tmp 63), none⟩])
 (.region [⟨some 64, .move (.tmp 9), none⟩,
  ⟨some 65, .move (.tmp 11), none⟩,
  ⟨some 66, .buildSlice 2 1 1 [.int .i64 0] [(0, 1, .tmp 65)], none⟩,
  ⟨some 67, .append 2 1 8 (.tmp 64) (.tmp 66), none⟩,
  ⟨some 9, .move (.tmp 67), none⟩])))
 (.region [⟨some 56, .move (.tmp 10), none⟩,
  ⟨some 57, .bin .add (.tmp 56) (.const (.int .i64 1)), none⟩,
  ⟨some 10, .move (.tmp 57), none⟩]))
def L55 : LCode :=
 .seq (.region [⟨some 4, .move (.const (.slice none 0 0)), none⟩,
  ⟨some 5, .move (.const (.int .i64 0)), none⟩])
 (.seq (.seq (.region [⟨some 13, .move (.tmp 0), none⟩,
  ⟨some 14, .bin .lss (.tmp 13) (.const (.int .i64 1)), none⟩,
  ⟨some 15, .move (.tmp 14), none⟩,
  ⟨some 16, .move (.tmp 0), (some (15, false))⟩,
  ⟨some 17, .bin .gtr (.tmp 16) (.const (.int .i64 64)), (some (15, false))⟩,
  ⟨some 18, .pick (.tmp 15) (.const (.bool true)) (.tmp 17), none⟩])
 (.cond (.tmp 18) (.seq (.region [⟨some 4, .move (.const (.slice none 0 0)), none⟩,
  ⟨some 5, .move (.const (.int .i64 130)), none⟩])
 (.ret))
 (.skip)))
 (.seq (.seq (.region [⟨some 6, .move (.const (.int .i64 0)), none⟩])
 (.block 0 (.loop L55_1)))
 (.seq (.region [⟨some 9, .move (.const (.slice none 0 0)), none⟩])
 (.seq (.seq (.region [⟨some 10, .move (.const (.int .i64 0)), none⟩])
 (.block 2 (.loop L55_2)))
 (.seq (.region [⟨some 68, .move (.tmp 9), none⟩,
  ⟨some 4, .move (.tmp 68), none⟩,
  ⟨some 5, .move (.const (.int .i64 0)), none⟩])
 (.ret))))))
theorem light55 : Light Try.prog 55 2 69 L55 [.tmp 4, .tmp 5] :=
  ⟨Try.f55, _, Try.func55, rfl, rfl, by kernel_rfl, by kernel_rfl, by decide⟩

/-! ### function 56: outrider/outriderref14.Check -/
def L56_1 : LCode :=
 .seq (.seq (.region [⟨some 7, .move (.tmp 3), none⟩,
  ⟨some 8, .move (.tmp 0), none⟩,
  ⟨some 9, .len (.tmp 8), none⟩,
  ⟨some 10, .bin .lss (.tmp 7) (.tmp 9), none⟩])
 (.cond (.tmp 10) (.skip)
 (.exit 0)))
 (.seq (.block 1 (.seq (.region [⟨some 13, .move (.tmp 0), none⟩,
  ⟨some 14, .move (.tmp 3), none⟩,
  ⟨some 15, .idx 2 (.tmp 13) (.tmp 14), none⟩,
  ⟨some 16, .off 0 (.tmp 15), none⟩,
  ⟨some 17, .load false 1 (.tmp 16), none⟩,
  ⟨some 18, .call 67 [.tmp 17], none⟩,
  ⟨some 19, .un .not (.tmp 18), none⟩])
 (.cond (.tmp 19) (.seq (.region [⟨some 2, .move (.const (.int .i64 140)), none⟩])
 (.ret))
 (.skip))))
 (.region [⟨some 11, .move (.tmp 3), none⟩,
  ⟨some 12, .bin .add (.tmp 11) (.const (.int .i64 1)), none⟩,
  ⟨some 3, .move (.tmp 12), none⟩]))
def L56 : LCode :=
 .seq (.region [⟨some 2, .move (.const (.int .i64 0)), none⟩])
 (.seq (.seq (.region [⟨some 4, .move (.tmp 0), none⟩,
  ⟨some 5, .len (.tmp 4), none⟩,
  ⟨some 6, .bin .gtr (.tmp 5) (.const (.int .i64 4)), none⟩])
 (.cond (.tmp 6) (.seq (.region [⟨some 2, .move (.const (.int .i64 171)), none⟩])
 (.ret))
 (.skip)))
 (.seq (.seq (.region [⟨some 3, .move (.const (.int .i64 0)), none⟩])
 (.block 0 (.loop L56_1)))
 (.seq (.region [⟨some 2, .move (.const (.int .i64 0)), none⟩])
 (.ret))))
theorem light56 : Light Try.prog 56 1 20 L56 [.tmp 2] :=
  ⟨Try.f56, _, Try.func56, rfl, rfl, by kernel_rfl, by kernel_rfl, by decide⟩

/-! ### function 57: outrider/outriderref08.Check -/
def L57_1 : LCode :=
 .seq (.seq (.region [⟨some 16, .move (.tmp 6), none⟩,
  ⟨some 17, .move (.tmp 0), none⟩,
  ⟨some 18, .len (.tmp 17), none⟩,
  ⟨some 19, .bin .lss (.tmp 16) (.tmp 18), none⟩])
 (.cond (.tmp 19) (.skip)
 (.exit 0)))
 (.seq (.block 1 (.seq (.region [⟨some 22, .move (.tmp 0), none⟩,
  ⟨some 23, .move (.tmp 6), none⟩,
  ⟨some 24, .idx 6 (.tmp 22) (.tmp 23), none⟩,
  ⟨some 25, .load true 6 (.tmp 24), none⟩,
  ⟨some 26, .move (.tmp 1), none⟩,
  ⟨some 27, .move (.tmp 0), none⟩,
  ⟨some 28, .len (.tmp 27), none⟩,
  ⟨some 29, .call 68 [.tmp 25, .tmp 26, .tmp 28], none⟩,
  ⟨some 7, .move (.tmp 29), none⟩])
 (.seq (.region [⟨some 30, .move (.tmp 7), none⟩,
  ⟨some 31, .bin .neq (.tmp 30) (.const (.int .i64 0)), none⟩])
 (.cond (.tmp 31) (.seq (.region [⟨some 32, .move (.tmp 6), none⟩,
  ⟨some 33, .move (.tmp 7), none⟩,
  ⟨some 4, .move (.tmp 32), none⟩,
  ⟨some 5, .move (.tmp 33), none⟩])
 (.ret))
 (.skip)))))
 (.region [⟨some 20, .move (.tmp 6), none⟩,
  ⟨some 21, .bin .add (.tmp 20) (.const (.int .i64 1)), none⟩,
  ⟨some 6, .move (.tmp 21), none⟩]))
def L57 : LCode :=
 .seq (.region [⟨some 4, .move (.const (.int .i64 0)), none⟩,
  ⟨some 5, .move (.const (.int .i64 0)), none⟩])
 (.seq (.seq (.region [⟨some 8, .move (.tmp 0), none⟩,
  ⟨some 9, .len (.tmp 8), none⟩,
  ⟨some 10, .bin .eql (.tmp 9) (.const (.int .i64 0)), none⟩,
  ⟨some 11, .move (.tmp 10), none⟩,
  ⟨some 12, .move (.tmp 0), (some (11, false))⟩,
  ⟨some 13, .len (.tmp 12), (some (11, false))⟩,
  ⟨some 14, .bin .gtr (.tmp 13) (.const (.int .i64 600)), (some (11, false))⟩,
  ⟨some 15, .pick (.tmp 11) (.const (.bool true)) (.tmp 14), none⟩])
 (.cond (.tmp 15) (.seq (.region [⟨some 4, .move (.const (.int .i64 0)), none⟩,
  ⟨some 5, .move (.const (.int .i64 80)), none⟩])
 (.ret))
 (.skip)))
 (.seq (.seq (.region [⟨some 6, .move (.const (.int .i64 0)), none⟩])
 (.block 0 (.loop L57_1)))
 (.seq (.seq (.region [⟨some 34, .move (.tmp 0), none⟩,
  ⟨some 35, .move (.tmp 0), none⟩,
  ⟨some 36, .len (.tmp 35), none⟩,
  ⟨some 37, .bin .sub (.tmp 36) (.const (.int .i64 1)), none⟩,
  ⟨some 38, .idx 6 (.tmp 34) (.tmp 37), none⟩,
  ⟨some 39, .load true 6 (.tmp 38), none⟩,
  ⟨some 40, .call 69 [.tmp 39], none⟩])
 (.cond (.tmp 40) (.seq (.region [⟨some 41, .move (.tmp 0), none⟩,
  ⟨some 42, .len (.tmp 41), none⟩,
  ⟨some 43, .bin .sub (.tmp 42) (.const (.int .i64 1)), none⟩,
  ⟨some 4, .move (.tmp 43), none⟩,
  ⟨some 5, .move (.const (.int .i64 85)), none⟩])
 (.ret))
 (.skip)))
 (.seq (.region [⟨some 4, .move (.const (.int .i64 0)), none⟩,
  ⟨some 5, .move (.const (.int .i64 0)), none⟩])
 (.ret)))))
theorem light57 : Light Try.prog 57 2 44 L57 [.tmp 4, .tmp 5] :=
  ⟨Try.f57, _, Try.func57, rfl, rfl, by kernel_rfl, by kernel_rfl, by decide⟩

/-! ### function 58: outrider/outriderref17.out -/
def L58 : LCode :=
 .seq (.region [⟨some 6, .move (.const (.bool false)), none⟩])
 (.seq (.region [⟨some 7, .move (.tmp 0), none⟩,
  ⟨some 8, .move (.tmp 1), none⟩,
  ⟨some 9, .bin .lss (.tmp 7) (.tmp 8), none⟩,
  ⟨some 10, .move (.tmp 9), none⟩,
  ⟨some 11, .move (.tmp 0), (some (10, false))⟩,
  ⟨some 12, .move (.tmp 2), (some (10, false))⟩,
  ⟨some 13, .bin .gtr (.tmp 11) (.tmp 12), (some (10, false))⟩,
  ⟨some 14, .pick (.tmp 10) (.const (.bool true)) (.tmp 13), none⟩,
  ⟨some 6, .move (.tmp 14), none⟩])
 (.ret))
theorem light58 : Light Try.prog 58 3 15 L58 [.tmp 6] :=
  ⟨Try.f58, _, Try.func58, rfl, rfl, by kernel_rfl, by kernel_rfl, by decide⟩

/-! ### function 62: outrider/red.Right -/
def L62 : LCode :=
 .seq (.region [⟨some 2, .move (.const (.bool false)), none⟩])
 (.seq (.region [⟨some 3, .move (.tmp 0), none⟩,
  ⟨some 4, .bin .geq (.tmp 3) (.const (.int .i64 1)), none⟩,
  ⟨some 5, .move (.tmp 4), none⟩,
  ⟨some 6, .move (.tmp 0), (some (5, true))⟩,
  ⟨some 7, .bin .leq (.tmp 6) (.const (.int .i64 7)), (some (5, true))⟩,
  ⟨some 8, .pick (.tmp 5) (.tmp 7) (.const (.bool false)), none⟩,
  ⟨some 2, .move (.tmp 8), none⟩])
 (.ret))
theorem light62 : Light Try.prog 62 1 9 L62 [.tmp 2] :=
  ⟨Try.f62, _, Try.func62, rfl, rfl, by kernel_rfl, by kernel_rfl, by decide⟩

/-! ### function 63: outrider/red.Zero -/
def L63 : LCode :=
 .seq (.region [⟨some 2, .move (.const (.int .i64 0)), none⟩])
 (.seq (.seq (.region [⟨some 3, .move (.tmp 0), none⟩])
 (.block 0 (.seq (.region [⟨some 5, .bin .eql (.tmp 3) (.const (.int .i64 2)), none⟩,
  ⟨some 4, .move (.tmp 5), none⟩])
 (.cond (.tmp 4) (.seq (.region [⟨some 2, .move (.const (.int .i64 1)), none⟩])
 (.ret))
 (.seq (.region [⟨some 7, .bin .eql (.tmp 3) (.const (.int .i64 3)), none⟩,
  ⟨some 6, .move (.tmp 7), none⟩])
 (.cond (.tmp 6) (.seq (.region [⟨some 2, .move (.const (.int .i64 9223372036854775807)), none⟩])
 (.ret))
 (.seq (.region [⟨some 9, .bin .eql (.tmp 3) (.const (.int .i64 4)), none⟩,
  ⟨some 8, .move (.tmp 9), none⟩])
 (.cond (.tmp 8) (.seq (.region [⟨some 2, .move (.const (.int .i64 (-9223372036854775808))), none⟩])
 (.ret))
 (.seq (.region [⟨some 11, .bin .eql (.tmp 3) (.const (.int .i64 5)), none⟩,
  ⟨some 10, .move (.tmp 11), none⟩])
 (.cond (.tmp 10) (.seq (.region [⟨some 2, .move (.const (.int .i64 (-1))), none⟩])
 (.ret))
 (.skip)))))))))))
 (.seq (.region [⟨some 2, .move (.const (.int .i64 0)), none⟩])
 (.ret)))
theorem light63 : Light Try.prog 63 1 12 L63 [.tmp 2] :=
  ⟨Try.f63, _, Try.func63, rfl, rfl, by kernel_rfl, by kernel_rfl, by decide⟩

/-! ### function 64: outrider/ins.One -/
def L64 : LCode :=
 .seq (.region [⟨some 3, .box 140 6 (.tmp 0), none⟩,
  ⟨some 6, .move (.const (.int .i64 0)), none⟩])
 (.seq (.region [⟨some 10, .off 0 (.tmp 3), none⟩,
  ⟨some 11, .load false 1 (.tmp 10), none⟩,
  ⟨some 12, .call 74 [.tmp 11], none⟩,
  ⟨some 9, .move (.tmp 12), none⟩,
  ⟨some 13, .extract (.tmp 9) 0, none⟩,
  ⟨some 14, .extract (.tmp 9) 1, none⟩,
  ⟨some 7, .new 150 8 [.bool false, .bool false, .bool false, .bool false, .bool false, .bool false, .bool false, .bool false], none⟩,
  ⟨none, .store 8 (.tmp 7) (.tmp 13), none⟩,
  ⟨some 8, .move (.tmp 14), none⟩])
 (.seq (.block 0 (.seq (.region [⟨some 16, .move (.tmp 8), none⟩,
  ⟨some 17, .un .not (.tmp 16), none⟩,
  ⟨some 15, .move (.tmp 17), none⟩])
 (.cond (.tmp 15) (.seq (.region [⟨some 6, .move (.const (.int .i64 81)), none⟩])
 (.ret))
 (.seq (.seq (.region [⟨some 19, .off 7 (.tmp 7), none⟩,
  ⟨some 20, .load false 1 (.tmp 19), none⟩,
  ⟨some 21, .move (.tmp 20), none⟩,
  ⟨some 22, .off 1 (.tmp 3), (some (21, true))⟩,
  ⟨some 23, .load false 1 (.tmp 22), (some (21, true))⟩,
  ⟨some 24, .bin .lss (.tmp 23) (.const (.int .i64 1)), (some (21, true))⟩,
  ⟨some 25, .move (.tmp 24), (some (21, true))⟩,
  ⟨some 26, .off 1 (.tmp 3), (some (25, false))⟩,
  ⟨some 27, .load false 1 (.tmp 26), (some (25, false))⟩,
  ⟨some 28, .bin .gtr (.tmp 27) (.const (.int .i64 18)), (some (25, false))⟩,
  ⟨some 29, .pick (.tmp 25) (.const (.bool true)) (.tmp 28), (some (21, true))⟩,
  ⟨some 30, .pick (.tmp 21) (.tmp 29) (.const (.bool false)), none⟩,
  ⟨some 18, .move (.tmp 30), none⟩])
 (.cond (.tmp 18) (.skip)
 (.region [⟨some 31, .off 6 (.tmp 7), none⟩,
  ⟨some 32, .load false 1 (.tmp 31), none⟩,
  ⟨some 33, .move (.tmp 32), none⟩,
  ⟨some 34, .off 1 (.tmp 3), (some (33, true))⟩,
  ⟨some 35, .load false 1 (.tmp 34), (some (33, true))⟩,
  ⟨some 36, .bin .lss (.tmp 35) (.const (.int .i64 19)), (some (33, true))⟩,
  ⟨some 37, .move (.tmp 36), (some (33, true))⟩,
  ⟨some 38, .off 1 (.tmp 3), (some (37, false))⟩,
  ⟨some 39, .load false 1 (.tmp 38), (some (37, false))⟩,
  ⟨some 40, .bin .gtr (.tmp 39) (.const (.int .i64 21)), (some (37, false))⟩,
  ⟨some 41, .pick (.tmp 37) (.const (.bool true)) (.tmp 40), (some (33, true))⟩,
  ⟨some 42, .pick (.tmp 33) (.tmp 41) (.const (.bool false)), none⟩,
  ⟨some 18, .move (.tmp 42), none⟩])))
 (.cond (.tmp 18) (.seq (.region [⟨some 6, .move (.const (.int .i64 81)), none⟩])
 (.ret))
 (.seq (.seq (.region [⟨some 44, .off 0 (.tmp 7), none⟩,
  ⟨some 45, .load false 1 (.tmp 44), none⟩,
  ⟨some 46, .move (.tmp 45), none⟩,
  ⟨some 47, .off 2 (.tmp 3), (some (46, true))⟩,
  ⟨some 48, .load false 1 (.tmp 47), (some (46, true))⟩,
  ⟨some 49, .call 75 [.const (.bool true), .tmp 48], (some (46, true))⟩,
  ⟨some 50, .un .not (.tmp 49), (some (46, true))⟩,
  ⟨some 51, .pick (.tmp 46) (.tmp 50) (.const (.bool false)), none⟩,
  ⟨some 43, .move (.tmp 51), none⟩])
 (.cond (.tmp 43) (.skip)
 (.seq (.region [⟨some 52, .off 1 (.tmp 7), none⟩,
  ⟨some 53, .load false 1 (.tmp 52), none⟩,
  ⟨some 54, .move (.tmp 53), none⟩,
  ⟨some 55, .off 3 (.tmp 3), (some (54, true))⟩,
  ⟨some 56, .load false 1 (.tmp 55), (some (54, true))⟩,
  ⟨some 57, .call 75 [.const (.bool true), .tmp 56], (some (54, true))⟩,
  ⟨some 58, .un .not (.tmp 57), (some (54, true))⟩,
  ⟨some 59, .pick (.tmp 54) (.tmp 58) (.const (.bool false)), none⟩,
  ⟨some 43, .move (.tmp 59), none⟩])
 (.cond (.tmp 43) (.skip)
 (.region [⟨some 60, .off 2 (.tmp 7), none⟩,
  ⟨some 61, .load false 1 (.tmp 60), none⟩,
  ⟨some 62, .move (.tmp 61), none⟩,
  ⟨some 63, .off 4 (.tmp 3), (some (62, true))⟩,
  ⟨some 64, .load false 1 (.tmp 63), (some (62, true))⟩,
  ⟨some 65, .call 75 [.const (.bool true), .tmp 64], (some (62, true))⟩,
  ⟨some 66, .un .not (.tmp 65), (some (62, true))⟩,
  ⟨some 67, .pick (.tmp 62) (.tmp 66) (.const (.bool false)), none⟩,
  ⟨some 43, .move (.tmp 67), none⟩])))))
 (.cond (.tmp 43) (.seq (.region [⟨some 6, .move (.const (.int .i64 82)), none⟩])
 (.ret))
 (.seq (.seq (.region [⟨some 69, .off 0 (.tmp 7), none⟩,
  ⟨some 70, .load false 1 (.tmp 69), none⟩,
  ⟨some 71, .un .not (.tmp 70), none⟩,
  ⟨some 72, .move (.tmp 71), none⟩,
  ⟨some 73, .off 2 (.tmp 3), (some (72, true))⟩,
  ⟨some 74, .load false 1 (.tmp 73), (some (72, true))⟩,
  ⟨some 75, .bin .neq (.tmp 74) (.const (.int .i64 0)), (some (72, true))⟩,
  ⟨some 76, .pick (.tmp 72) (.tmp 75) (.const (.bool false)), none⟩,
  ⟨some 68, .move (.tmp 76), none⟩])
 (.cond (.tmp 68) (.skip)
 (.seq (.region [⟨some 77, .off 1 (.tmp 7), none⟩,
  ⟨some 78, .load false 1 (.tmp 77), none⟩,
  ⟨some 79, .un .not (.tmp 78), none⟩,
  ⟨some 80, .move (.tmp 79), none⟩,
  ⟨some 81, .off 3 (.tmp 3), (some (80, true))⟩,
  ⟨some 82, .load false 1 (.tmp 81), (some (80, true))⟩,
  ⟨some 83, .bin .neq (.tmp 82) (.const (.int .i64 0)), (some (80, true))⟩,
  ⟨some 84, .pick (.tmp 80) (.tmp 83) (.const (.bool false)), none⟩,
  ⟨some 68, .move (.tmp 84), none⟩])
 (.cond (.tmp 68) (.skip)
 (.seq (.region [⟨some 85, .off 2 (.tmp 7), none⟩,
  ⟨some 86, .load false 1 (.tmp 85), none⟩,
  ⟨some 87, .un .not (.tmp 86), none⟩,
  ⟨some 88, .move (.tmp 87), none⟩,
  ⟨some 89, .off 3 (.tmp 7), (some (88, true))⟩,
  ⟨some 90, .load false 1 (.tmp 89), (some (88, true))⟩,
  ⟨some 91, .un .not (.tmp 90), (some (88, true))⟩,
  ⟨some 92, .pick (.tmp 88) (.tmp 91) (.const (.bool false)), none⟩,
  ⟨some 93, .move (.tmp 92), none⟩,
  ⟨some 94, .off 4 (.tmp 3), (some (93, true))⟩,
  ⟨some 95, .load false 1 (.tmp 94), (some (93, true))⟩,
  ⟨some 96, .bin .neq (.tmp 95) (.const (.int .i64 0)), (some (93, true))⟩,
  ⟨some 97, .pick (.tmp 93) (.tmp 96) (.const (.bool false)), none⟩,
  ⟨some 68, .move (.tmp 97), none⟩])
 (.cond (.tmp 68) (.skip)
 (.seq (.region [⟨some 98, .off 4 (.tmp 7), none⟩,
  ⟨some 99, .load false 1 (.tmp 98), none⟩,
  ⟨some 100, .un .not (.tmp 99), none⟩,
  ⟨some 101, .move (.tmp 100), none⟩,
  ⟨some 102, .off 5 (.tmp 3), (some (101, true))⟩,
  ⟨some 103, .load false 1 (.tmp 102), (some (101, true))⟩,
  ⟨some 104, .bin .neq (.tmp 103) (.const (.int .i64 0)), (some (101, true))⟩,
  ⟨some 105, .pick (.tmp 101) (.tmp 104) (.const (.bool false)), none⟩,
  ⟨some 68, .move (.tmp 105), none⟩])
 (.cond (.tmp 68) (.skip)
 (.region [⟨some 106, .off 6 (.tmp 7), none⟩,
  ⟨some 107, .load false 1 (.tmp 106), none⟩,
  ⟨some 108, .un .not (.tmp 107), none⟩,
  ⟨some 109, .move (.tmp 108), none⟩,
  ⟨some 110, .off 7 (.tmp 7), (some (109, true))⟩,
  ⟨some 111, .load false 1 (.tmp 110), (some (109, true))⟩,
  ⟨some 112, .un .not (.tmp 111), (some (109, true))⟩,
  ⟨some 113, .pick (.tmp 109) (.tmp 112) (.const (.bool false)), none⟩,
  ⟨some 114, .move (.tmp 113), none⟩,
  ⟨some 115, .off 1 (.tmp 3), (some (114, true))⟩,
  ⟨some 116, .load false 1 (.tmp 115), (some (114, true))⟩,
  ⟨some 117, .bin .neq (.tmp 116) (.const (.int .i64 0)), (some (114, true))⟩,
  ⟨some 118, .pick (.tmp 114) (.tmp 117) (.const (.bool false)), none⟩,
  ⟨some 68, .move (.tmp 118), none⟩])))))))))
 (.cond (.tmp 68) (.seq (.region [⟨some 6, .move (.const (.int .i64 83)), none⟩])
 (.ret))
 (.seq (.region [⟨some 120, .off 3 (.tmp 7), none⟩,
  ⟨some 121, .load false 1 (.tmp 120), none⟩,
  ⟨some 122, .move (.tmp 121), none⟩,
  ⟨some 123, .off 4 (.tmp 3), (some (122, true))⟩,
  ⟨some 124, .load false 1 (.tmp 123), (some (122, true))⟩,
  ⟨some 125, .bin .lss (.tmp 124) (.const (.int .i64 0)), (some (122, true))⟩,
  ⟨some 126, .move (.tmp 125), (some (122, true))⟩,
  ⟨some 127, .off 4 (.tmp 3), (some (126, false))⟩,
  ⟨some 128, .load false 1 (.tmp 127), (some (126, false))⟩,
  ⟨some 129, .move (.tmp 1), (some (126, false))⟩,
  ⟨some 130, .minmax false (.tmp 129) [.const (.int .i64 4)], (some (126, false))⟩,
  ⟨some 131, .bin .geq (.tmp 128) (.tmp 130), (some (126, false))⟩,
  ⟨some 132, .pick (.tmp 126) (.const (.bool true)) (.tmp 131), (some (122, true))⟩,
  ⟨some 133, .pick (.tmp 122) (.tmp 132) (.const (.bool false)), none⟩,
  ⟨some 119, .move (.tmp 133), none⟩])
 (.cond (.tmp 119) (.seq (.region [⟨some 6, .move (.const (.int .i64 63)), none⟩])
 (.ret))
 (.seq (.region [⟨some 135, .off 5 (.tmp 7), none⟩,
  ⟨some 136, .load false 1 (.tmp 135), none⟩,
  ⟨some 137, .move (.tmp 136), none⟩,
  ⟨some 138, .off 5 (.tmp 3), (some (137, true))⟩,
  ⟨some 139, .load false 1 (.tmp 138), (some (137, true))⟩,
  ⟨some 140, .bin .lss (.tmp 139) (.const (.int .i64 0)), (some (137, true))⟩,
  ⟨some 141, .move (.tmp 140), (some (137, true))⟩,
  ⟨some 142, .off 5 (.tmp 3), (some (141, false))⟩,
  ⟨some 143, .load false 1 (.tmp 142), (some (141, false))⟩,
  ⟨some 144, .move (.tmp 2), (some (141, false))⟩,
  ⟨some 145, .bin .geq (.tmp 143) (.tmp 144), (some (141, false))⟩,
  ⟨some 146, .pick (.tmp 141) (.const (.bool true)) (.tmp 145), (some (137, true))⟩,
  ⟨some 147, .pick (.tmp 137) (.tmp 146) (.const (.bool false)), none⟩,
  ⟨some 134, .move (.tmp 147), none⟩])
 (.cond (.tmp 134) (.seq (.region [⟨some 6, .move (.const (.int .i64 84)), none⟩])
 (.ret))
 (.skip))))))))))))))
 (.seq (.region [⟨some 6, .move (.const (.int .i64 0)), none⟩])
 (.ret))))
theorem light64 : Light Try.prog 64 3 148 L64 [.tmp 6] :=
  ⟨Try.f64, _, Try.func64, rfl, rfl, by kernel_rfl, by kernel_rfl, by decide⟩

/-! ### function 65: outrider/ins.Falls -/
def L65 : LCode :=
 .seq (.region [⟨some 1, .box 140 6 (.tmp 0), none⟩,
  ⟨some 2, .move (.const (.bool false)), none⟩])
 (.seq (.region [⟨some 3, .off 0 (.tmp 1), none⟩,
  ⟨some 4, .load false 1 (.tmp 3), none⟩,
  ⟨some 5, .bin .neq (.tmp 4) (.const (.int .i64 1)), none⟩,
  ⟨some 6, .move (.tmp 5), none⟩,
  ⟨some 7, .off 0 (.tmp 1), (some (6, true))⟩,
  ⟨some 8, .load false 1 (.tmp 7), (some (6, true))⟩,
  ⟨some 9, .bin .neq (.tmp 8) (.const (.int .i64 10)), (some (6, true))⟩,
  ⟨some 10, .pick (.tmp 6) (.tmp 9) (.const (.bool false)), none⟩,
  ⟨some 11, .move (.tmp 10), none⟩,
  ⟨some 12, .off 0 (.tmp 1), (some (11, true))⟩,
  ⟨some 13, .load false 1 (.tmp 12), (some (11, true))⟩,
  ⟨some 14, .bin .neq (.tmp 13) (.const (.int .i64 13)), (some (11, true))⟩,
  ⟨some 15, .pick (.tmp 11) (.tmp 14) (.const (.bool false)), none⟩,
  ⟨some 2, .move (.tmp 15), none⟩])
 (.ret))
theorem light65 : Light Try.prog 65 1 16 L65 [.tmp 2] :=
  ⟨Try.f65, _, Try.func65, rfl, rfl, by kernel_rfl, by kernel_rfl, by decide⟩

/-! ### function 66: outrider/outriderref13.last -/
def L66_1 : LCode :=
 .seq (.seq (.region [⟨some 10, .move (.tmp 6), none⟩,
  ⟨some 11, .bin .geq (.tmp 10) (.const (.int .i64 0)), none⟩])
 (.cond (.tmp 11) (.skip)
 (.exit 0)))
 (.seq (.block 1 (.seq (.region [⟨some 14, .move (.tmp 0), none⟩,
  ⟨some 15, .move (.tmp 6), none⟩,
  ⟨some 16, .idx 2 (.tmp 14) (.tmp 15), none⟩,
  ⟨some 17, .off 0 (.tmp 16), none⟩,
  ⟨some 18, .load false 1 (.tmp 17), none⟩,
  ⟨some 19, .move (.tmp 1), none⟩,
  ⟨some 20, .bin .eql (.tmp 18) (.tmp 19), none⟩])
 (.cond (.tmp 20) (.seq (.region [⟨some 21, .move (.tmp 0), none⟩,
  ⟨some 22, .move (.tmp 6), none⟩,
  ⟨some 23, .idx 2 (.tmp 21) (.tmp 22), none⟩,
  ⟨some 24, .off 1 (.tmp 23), none⟩,
  ⟨some 25, .load false 1 (.tmp 24), none⟩,
  ⟨some 4, .move (.tmp 25), none⟩,
  ⟨some 5, .move (.const (.bool true)), none⟩])
 (.ret))
 (.skip))))
 (.region [⟨some 12, .move (.tmp 6), none⟩,
  ⟨some 13, .bin .sub (.tmp 12) (.const (.int .i64 1)), none⟩,
  ⟨some 6, .move (.tmp 13), none⟩]))
def L66 : LCode :=
 .seq (.region [⟨some 4, .move (.const (.int .i64 0)), none⟩,
  ⟨some 5, .move (.const (.bool false)), none⟩])
 (.seq (.seq (.region [⟨some 7, .move (.tmp 0), none⟩,
  ⟨some 8, .len (.tmp 7), none⟩,
  ⟨some 9, .bin .sub (.tmp 8) (.const (.int .i64 1)), none⟩,
  ⟨some 6, .move (.tmp 9), none⟩])
 (.block 0 (.loop L66_1)))
 (.seq (.region [⟨some 4, .move (.const (.int .i64 0)), none⟩,
  ⟨some 5, .move (.const (.bool false)), none⟩])
 (.ret)))
theorem light66 : Light Try.prog 66 2 26 L66 [.tmp 4, .tmp 5] :=
  ⟨Try.f66, _, Try.func66, rfl, rfl, by kernel_rfl, by kernel_rfl, by decide⟩

/-! ### function 67: outrider/outriderref14.Right -/
def L67 : LCode :=
 .seq (.region [⟨some 2, .move (.const (.bool false)), none⟩])
 (.seq (.region [⟨some 3, .move (.tmp 0), none⟩,
  ⟨some 4, .bin .geq (.tmp 3) (.const (.int .i64 1)), none⟩,
  ⟨some 5, .move (.tmp 4), none⟩,
  ⟨some 6, .move (.tmp 0), (some (5, true))⟩,
  ⟨some 7, .bin .leq (.tmp 6) (.const (.int .i64 7)), (some (5, true))⟩,
  ⟨some 8, .pick (.tmp 5) (.tmp 7) (.const (.bool false)), none⟩,
  ⟨some 2, .move (.tmp 8), none⟩])
 (.ret))
theorem light67 : Light Try.prog 67 1 9 L67 [.tmp 2] :=
  ⟨Try.f67, _, Try.func67, rfl, rfl, by kernel_rfl, by kernel_rfl, by decide⟩

/-! ### function 68: outrider/outriderref08.One -/
def L68 : LCode :=
 .seq (.region [⟨some 3, .box 140 6 (.tmp 0), none⟩,
  ⟨some 6, .move (.const (.int .i64 0)), none⟩])
 (.seq (.region [⟨some 8, .off 0 (.tmp 3), none⟩,
  ⟨some 9, .load false 1 (.tmp 8), none⟩,
  ⟨some 10, .call 76 [.tmp 9], none⟩,
  ⟨some 7, .move (.tmp 10), none⟩])
 (.seq (.seq (.region [⟨some 11, .move (.tmp 7), none⟩,
  ⟨some 12, .bin .eql (.tmp 11) (.const (.string ⟨#[63]⟩)), none⟩,
  ⟨some 13, .move (.tmp 12), none⟩,
  ⟨some 14, .move (.tmp 7), (some (13, false))⟩,
  ⟨some 15, .call 77 [.tmp 14, .const (.int .u8 111)], (some (13, false))⟩,
  ⟨some 16, .move (.tmp 15), (some (13, false))⟩,
  ⟨some 17, .off 1 (.tmp 3), (some (16, true))⟩,
  ⟨some 18, .load false 1 (.tmp 17), (some (16, true))⟩,
  ⟨some 19, .bin .lss (.tmp 18) (.const (.int .i64 1)), (some (16, true))⟩,
  ⟨some 20, .move (.tmp 19), (some (16, true))⟩,
  ⟨some 21, .off 1 (.tmp 3), (some (20, false))⟩,
  ⟨some 22, .load false 1 (.tmp 21), (some (20, false))⟩,
  ⟨some 23, .bin .gtr (.tmp 22) (.const (.int .i64 18)), (some (20, false))⟩,
  ⟨some 24, .pick (.tmp 20) (.const (.bool true)) (.tmp 23), (some (16, true))⟩,
  ⟨some 25, .pick (.tmp 16) (.tmp 24) (.const (.bool false)), (some (13, false))⟩,
  ⟨some 26, .pick (.tmp 13) (.const (.bool true)) (.tmp 25), none⟩,
  ⟨some 27, .move (.tmp 26), none⟩,
  ⟨some 28, .move (.tmp 7), (some (27, false))⟩,
  ⟨some 29, .call 77 [.tmp 28, .const (.int .u8 112)], (some (27, false))⟩,
  ⟨some 30, .move (.tmp 29), (some (27, false))⟩,
  ⟨some 31, .off 1 (.tmp 3), (some (30, true))⟩,
  ⟨some 32, .load false 1 (.tmp 31), (some (30, true))⟩,
  ⟨some 33, .bin .lss (.tmp 32) (.const (.int .i64 19)), (some (30, true))⟩,
  ⟨some 34, .move (.tmp 33), (some (30, true))⟩,
  ⟨some 35, .off 1 (.tmp 3), (some (34, false))⟩,
  ⟨some 36, .load false 1 (.tmp 35), (some (34, false))⟩,
  ⟨some 37, .bin .gtr (.tmp 36) (.const (.int .i64 21)), (some (34, false))⟩,
  ⟨some 38, .pick (.tmp 34) (.const (.bool true)) (.tmp 37), (some (30, true))⟩,
  ⟨some 39, .pick (.tmp 30) (.tmp 38) (.const (.bool false)), (some (27, false))⟩,
  ⟨some 40, .pick (.tmp 27) (.const (.bool true)) (.tmp 39), none⟩])
 (.cond (.tmp 40) (.seq (.region [⟨some 6, .move (.const (.int .i64 81)), none⟩])
 (.ret))
 (.skip)))
 (.seq (.seq (.region [⟨some 41, .move (.tmp 7), none⟩,
  ⟨some 42, .call 77 [.tmp 41, .const (.int .u8 97)], none⟩,
  ⟨some 43, .move (.tmp 42), none⟩,
  ⟨some 44, .off 2 (.tmp 3), (some (43, true))⟩,
  ⟨some 45, .load false 1 (.tmp 44), (some (43, true))⟩,
  ⟨some 46, .call 78 [.tmp 45], (some (43, true))⟩,
  ⟨some 47, .pick (.tmp 43) (.tmp 46) (.const (.bool false)), none⟩,
  ⟨some 48, .move (.tmp 47), none⟩,
  ⟨some 49, .move (.tmp 7), (some (48, false))⟩,
  ⟨some 50, .call 77 [.tmp 49, .const (.int .u8 98)], (some (48, false))⟩,
  ⟨some 51, .move (.tmp 50), (some (48, false))⟩,
  ⟨some 52, .off 3 (.tmp 3), (some (51, true))⟩,
  ⟨some 53, .load false 1 (.tmp 52), (some (51, true))⟩,
  ⟨some 54, .call 78 [.tmp 53], (some (51, true))⟩,
  ⟨some 55, .pick (.tmp 51) (.tmp 54) (.const (.bool false)), (some (48, false))⟩,
  ⟨some 56, .pick (.tmp 48) (.const (.bool true)) (.tmp 55), none⟩,
  ⟨some 57, .move (.tmp 56), none⟩,
  ⟨some 58, .move (.tmp 7), (some (57, false))⟩,
  ⟨some 59, .call 77 [.tmp 58, .const (.int .u8 99)], (some (57, false))⟩,
  ⟨some 60, .move (.tmp 59), (some (57, false))⟩,
  ⟨some 61, .off 4 (.tmp 3), (some (60, true))⟩,
  ⟨some 62, .load false 1 (.tmp 61), (some (60, true))⟩,
  ⟨some 63, .call 78 [.tmp 62], (some (60, true))⟩,
  ⟨some 64, .pick (.tmp 60) (.tmp 63) (.const (.bool false)), (some (57, false))⟩,
  ⟨some 65, .pick (.tmp 57) (.const (.bool true)) (.tmp 64), none⟩])
 (.cond (.tmp 65) (.seq (.region [⟨some 6, .move (.const (.int .i64 82)), none⟩])
 (.ret))
 (.skip)))
 (.seq (.seq (.region [⟨some 66, .move (.tmp 7), none⟩,
  ⟨some 67, .call 77 [.tmp 66, .const (.int .u8 97)], none⟩,
  ⟨some 68, .un .not (.tmp 67), none⟩,
  ⟨some 69, .move (.tmp 68), none⟩,
  ⟨some 70, .off 2 (.tmp 3), (some (69, true))⟩,
  ⟨some 71, .load false 1 (.tmp 70), (some (69, true))⟩,
  ⟨some 72, .bin .neq (.tmp 71) (.const (.int .i64 0)), (some (69, true))⟩,
  ⟨some 73, .pick (.tmp 69) (.tmp 72) (.const (.bool false)), none⟩,
  ⟨some 74, .move (.tmp 73), none⟩,
  ⟨some 75, .move (.tmp 7), (some (74, false))⟩,
  ⟨some 76, .call 77 [.tmp 75, .const (.int .u8 98)], (some (74, false))⟩,
  ⟨some 77, .un .not (.tmp 76), (some (74, false))⟩,
  ⟨some 78, .move (.tmp 77), (some (74, false))⟩,
  ⟨some 79, .off 3 (.tmp 3), (some (78, true))⟩,
  ⟨some 80, .load false 1 (.tmp 79), (some (78, true))⟩,
  ⟨some 81, .bin .neq (.tmp 80) (.const (.int .i64 0)), (some (78, true))⟩,
  ⟨some 82, .pick (.tmp 78) (.tmp 81) (.const (.bool false)), (some (74, false))⟩,
  ⟨some 83, .pick (.tmp 74) (.const (.bool true)) (.tmp 82), none⟩,
  ⟨some 84, .move (.tmp 83), none⟩,
  ⟨some 85, .move (.tmp 7), (some (84, false))⟩,
  ⟨some 86, .call 77 [.tmp 85, .const (.int .u8 99)], (some (84, false))⟩,
  ⟨some 87, .un .not (.tmp 86), (some (84, false))⟩,
  ⟨some 88, .move (.tmp 87), (some (84, false))⟩,
  ⟨some 89, .move (.tmp 7), (some (88, true))⟩,
  ⟨some 90, .call 77 [.tmp 89, .const (.int .u8 114)], (some (88, true))⟩,
  ⟨some 91, .un .not (.tmp 90), (some (88, true))⟩,
  ⟨some 92, .pick (.tmp 88) (.tmp 91) (.const (.bool false)), (some (84, false))⟩,
  ⟨some 93, .move (.tmp 92), (some (84, false))⟩,
  ⟨some 94, .off 4 (.tmp 3), (some (93, true))⟩,
  ⟨some 95, .load false 1 (.tmp 94), (some (93, true))⟩,
  ⟨some 96, .bin .neq (.tmp 95) (.const (.int .i64 0)), (some (93, true))⟩,
  ⟨some 97, .pick (.tmp 93) (.tmp 96) (.const (.bool false)), (some (84, false))⟩,
  ⟨some 98, .pick (.tmp 84) (.const (.bool true)) (.tmp 97), none⟩,
  ⟨some 99, .move (.tmp 98), none⟩,
  ⟨some 100, .move (.tmp 7), (some (99, false))⟩,
  ⟨some 101, .call 77 [.tmp 100, .const (.int .u8 107)], (some (99, false))⟩,
  ⟨some 102, .un .not (.tmp 101), (some (99, false))⟩,
  ⟨some 103, .move (.tmp 102), (some (99, false))⟩,
  ⟨some 104, .move (.tmp 7), (some (103, true))⟩,
  ⟨some 105, .call 77 [.tmp 104, .const (.int .u8 116)], (some (103, true))⟩,
  ⟨some 106, .un .not (.tmp 105), (some (103, true))⟩,
  ⟨some 107, .pick (.tmp 103) (.tmp 106) (.const (.bool false)), (some (99, false))⟩,
  ⟨some 108, .move (.tmp 107), (some (99, false))⟩,
  ⟨some 109, .off 5 (.tmp 3), (some (108, true))⟩,
  ⟨some 110, .load false 1 (.tmp 109), (some (108, true))⟩,
  ⟨some 111, .bin .neq (.tmp 110) (.const (.int .i64 0)), (some (108, true))⟩,
  ⟨some 112, .pick (.tmp 108) (.tmp 111) (.const (.bool false)), (some (99, false))⟩,
  ⟨some 113, .pick (.tmp 99) (.const (.bool true)) (.tmp 112), none⟩,
  ⟨some 114, .move (.tmp 113), none⟩,
  ⟨some 115, .move (.tmp 7), (some (114, false))⟩,
  ⟨some 116, .call 77 [.tmp 115, .const (.int .u8 111)], (some (114, false))⟩,
  ⟨some 117, .un .not (.tmp 116), (some (114, false))⟩,
  ⟨some 118, .move (.tmp 117), (some (114, false))⟩,
  ⟨some 119, .move (.tmp 7), (some (118, true))⟩,
  ⟨some 120, .call 77 [.tmp 119, .const (.int .u8 112)], (some (118, true))⟩,
  ⟨some 121, .un .not (.tmp 120), (some (118, true))⟩,
  ⟨some 122, .pick (.tmp 118) (.tmp 121) (.const (.bool false)), (some (114, false))⟩,
  ⟨some 123, .move (.tmp 122), (some (114, false))⟩,
  ⟨some 124, .off 1 (.tmp 3), (some (123, true))⟩,
  ⟨some 125, .load false 1 (.tmp 124), (some (123, true))⟩,
  ⟨some 126, .bin .neq (.tmp 125) (.const (.int .i64 0)), (some (123, true))⟩,
  ⟨some 127, .pick (.tmp 123) (.tmp 126) (.const (.bool false)), (some (114, false))⟩,
  ⟨some 128, .pick (.tmp 114) (.const (.bool true)) (.tmp 127), none⟩])
 (.cond (.tmp 128) (.seq (.region [⟨some 6, .move (.const (.int .i64 83)), none⟩])
 (.ret))
 (.skip)))
 (.seq (.seq (.region [⟨some 129, .move (.tmp 7), none⟩,
  ⟨some 130, .call 77 [.tmp 129, .const (.int .u8 114)], none⟩,
  ⟨some 131, .move (.tmp 130), none⟩,
  ⟨some 132, .off 4 (.tmp 3), (some (131, true))⟩,
  ⟨some 133, .load false 1 (.tmp 132), (some (131, true))⟩,
  ⟨some 134, .bin .lss (.tmp 133) (.const (.int .i64 0)), (some (131, true))⟩,
  ⟨some 135, .move (.tmp 134), (some (131, true))⟩,
  ⟨some 136, .off 4 (.tmp 3), (some (135, false))⟩,
  ⟨some 137, .load false 1 (.tmp 136), (some (135, false))⟩,
  ⟨some 138, .move (.tmp 1), (some (135, false))⟩,
  ⟨some 139, .bin .geq (.tmp 137) (.tmp 138), (some (135, false))⟩,
  ⟨some 140, .pick (.tmp 135) (.const (.bool true)) (.tmp 139), (some (131, true))⟩,
  ⟨some 141, .move (.tmp 140), (some (131, true))⟩,
  ⟨some 142, .off 4 (.tmp 3), (some (141, false))⟩,
  ⟨some 143, .load false 1 (.tmp 142), (some (141, false))⟩,
  ⟨some 144, .bin .geq (.tmp 143) (.const (.int .i64 4)), (some (141, false))⟩,
  ⟨some 145, .pick (.tmp 141) (.const (.bool true)) (.tmp 144), (some (131, true))⟩,
  ⟨some 146, .pick (.tmp 131) (.tmp 145) (.const (.bool false)), none⟩])
 (.cond (.tmp 146) (.seq (.region [⟨some 6, .move (.const (.int .i64 63)), none⟩])
 (.ret))
 (.skip)))
 (.seq (.seq (.region [⟨some 147, .move (.tmp 7), none⟩,
  ⟨some 148, .call 77 [.tmp 147, .const (.int .u8 116)], none⟩,
  ⟨some 149, .move (.tmp 148), none⟩,
  ⟨some 150, .off 5 (.tmp 3), (some (149, true))⟩,
  ⟨some 151, .load false 1 (.tmp 150), (some (149, true))⟩,
  ⟨some 152, .bin .lss (.tmp 151) (.const (.int .i64 0)), (some (149, true))⟩,
  ⟨some 153, .move (.tmp 152), (some (149, true))⟩,
  ⟨some 154, .off 5 (.tmp 3), (some (153, false))⟩,
  ⟨some 155, .load false 1 (.tmp 154), (some (153, false))⟩,
  ⟨some 156, .move (.tmp 2), (some (153, false))⟩,
  ⟨some 157, .bin .geq (.tmp 155) (.tmp 156), (some (153, false))⟩,
  ⟨some 158, .pick (.tmp 153) (.const (.bool true)) (.tmp 157), (some (149, true))⟩,
  ⟨some 159, .pick (.tmp 149) (.tmp 158) (.const (.bool false)), none⟩])
 (.cond (.tmp 159) (.seq (.region [⟨some 6, .move (.const (.int .i64 84)), none⟩])
 (.ret))
 (.skip)))
 (.seq (.region [⟨some 6, .move (.const (.int .i64 0)), none⟩])
 (.ret))))))))
theorem light68 : Light Try.prog 68 3 160 L68 [.tmp 6] :=
  ⟨Try.f68, _, Try.func68, rfl, rfl, by kernel_rfl, by kernel_rfl, by decide⟩

/-! ### function 69: outrider/outriderref08.Falls -/
def L69 : LCode :=
 .seq (.region [⟨some 1, .box 140 6 (.tmp 0), none⟩,
  ⟨some 2, .move (.const (.bool false)), none⟩])
 (.seq (.region [⟨some 3, .off 0 (.tmp 1), none⟩,
  ⟨some 4, .load false 1 (.tmp 3), none⟩,
  ⟨some 5, .bin .neq (.tmp 4) (.const (.int .i64 1)), none⟩,
  ⟨some 6, .move (.tmp 5), none⟩,
  ⟨some 7, .off 0 (.tmp 1), (some (6, true))⟩,
  ⟨some 8, .load false 1 (.tmp 7), (some (6, true))⟩,
  ⟨some 9, .bin .neq (.tmp 8) (.const (.int .i64 10)), (some (6, true))⟩,
  ⟨some 10, .pick (.tmp 6) (.tmp 9) (.const (.bool false)), none⟩,
  ⟨some 11, .move (.tmp 10), none⟩,
  ⟨some 12, .off 0 (.tmp 1), (some (11, true))⟩,
  ⟨some 13, .load false 1 (.tmp 12), (some (11, true))⟩,
  ⟨some 14, .bin .neq (.tmp 13) (.const (.int .i64 13)), (some (11, true))⟩,
  ⟨some 15, .pick (.tmp 11) (.tmp 14) (.const (.bool false)), none⟩,
  ⟨some 2, .move (.tmp 15), none⟩])
 (.ret))
theorem light69 : Light Try.prog 69 1 16 L69 [.tmp 2] :=
  ⟨Try.f69, _, Try.func69, rfl, rfl, by kernel_rfl, by kernel_rfl, by decide⟩

/-! ### function 74: outrider/ins.shapeOf -/
def L74 : LCode :=
 .seq (.region [⟨some 2, .new 150 8 [.bool false, .bool false, .bool false, .bool false, .bool false, .bool false, .bool false, .bool false], none⟩,
  ⟨some 3, .move (.const (.bool false)), none⟩])
 (.seq (.seq (.region [⟨some 4, .move (.tmp 0), none⟩])
 (.block 0 (.seq (.region [⟨some 6, .bin .eql (.tmp 4) (.const (.int .i64 1)), none⟩,
  ⟨some 5, .move (.tmp 6), none⟩])
 (.cond (.tmp 5) (.seq (.region [⟨some 7, .build [.bool false, .bool false, .bool false, .bool false, .bool false, .bool false, .bool false, .bool false] [], none⟩,
  ⟨none, .store 8 (.tmp 2) (.tmp 7), none⟩,
  ⟨some 3, .move (.const (.bool true)), none⟩])
 (.ret))
 (.seq (.region [⟨some 9, .bin .eql (.tmp 4) (.const (.int .i64 2)), none⟩,
  ⟨some 8, .move (.tmp 9), none⟩])
 (.cond (.tmp 8) (.seq (.region [⟨some 10, .build [.bool false, .bool false, .bool false, .bool false, .bool false, .bool false, .bool false, .bool false] [(0, 1, .const (.bool true)), (4, 1, .const (.bool true))], none⟩,
  ⟨none, .store 8 (.tmp 2) (.tmp 10), none⟩,
  ⟨some 3, .move (.const (.bool true)), none⟩])
 (.ret))
 (.seq (.region [⟨some 12, .bin .eql (.tmp 4) (.const (.int .i64 3)), none⟩,
  ⟨some 11, .move (.tmp 12), none⟩])
 (.cond (.tmp 11) (.seq (.region [⟨some 13, .build [.bool false, .bool false, .bool false, .bool false, .bool false, .bool false, .bool false, .bool false] [(0, 1, .const (.bool true)), (1, 1, .const (.bool true))], none⟩,
  ⟨none, .store 8 (.tmp 2) (.tmp 13), none⟩,
  ⟨some 3, .move (.const (.bool true)), none⟩])
 (.ret))
 (.seq (.region [⟨some 15, .bin .eql (.tmp 4) (.const (.int .i64 4)), none⟩,
  ⟨some 14, .move (.tmp 15), none⟩])
 (.cond (.tmp 14) (.seq (.region [⟨some 16, .build [.bool false, .bool false, .bool false, .bool false, .bool false, .bool false, .bool false, .bool false] [(0, 1, .const (.bool true)), (1, 1, .const (.bool true)), (6, 1, .const (.bool true))], none⟩,
  ⟨none, .store 8 (.tmp 2) (.tmp 16), none⟩,
  ⟨some 3, .move (.const (.bool true)), none⟩])
 (.ret))
 (.seq (.region [⟨some 18, .bin .eql (.tmp 4) (.const (.int .i64 5)), none⟩,
  ⟨some 17, .move (.tmp 18), none⟩])
 (.cond (.tmp 17) (.seq (.region [⟨some 19, .build [.bool false, .bool false, .bool false, .bool false, .bool false, .bool false, .bool false, .bool false] [(0, 1, .const (.bool true)), (1, 1, .const (.bool true)), (2, 1, .const (.bool true)), (7, 1, .const (.bool true))], none⟩,
  ⟨none, .store 8 (.tmp 2) (.tmp 19), none⟩,
  ⟨some 3, .move (.const (.bool true)), none⟩])
 (.ret))
 (.seq (.seq (.region [⟨some 21, .bin .eql (.tmp 4) (.const (.int .i64 6)), none⟩,
  ⟨some 20, .move (.tmp 21), none⟩])
 (.cond (.tmp 20) (.skip)
 (.region [⟨some 22, .bin .eql (.tmp 4) (.const (.int .i64 7)), none⟩,
  ⟨some 20, .move (.tmp 22), none⟩])))
 (.cond (.tmp 20) (.seq (.region [⟨some 23, .build [.bool false, .bool false, .bool false, .bool false, .bool false, .bool false, .bool false, .bool false] [(0, 1, .const (.bool true)), (1, 1, .const (.bool true)), (4, 1, .const (.bool true))], none⟩,
  ⟨none, .store 8 (.tmp 2) (.tmp 23), none⟩,
  ⟨some 3, .move (.const (.bool true)), none⟩])
 (.ret))
 (.seq (.region [⟨some 25, .bin .eql (.tmp 4) (.const (.int .i64 8)), none⟩,
  ⟨some 24, .move (.tmp 25), none⟩])
 (.cond (.tmp 24) (.seq (.region [⟨some 26, .build [.bool false, .bool false, .bool false, .bool false, .bool false, .bool false, .bool false, .bool false] [(0, 1, .const (.bool true)), (3, 1, .const (.bool true))], none⟩,
  ⟨none, .store 8 (.tmp 2) (.tmp 26), none⟩,
  ⟨some 3, .move (.const (.bool true)), none⟩])
 (.ret))
 (.seq (.seq (.region [⟨some 28, .bin .eql (.tmp 4) (.const (.int .i64 9)), none⟩,
  ⟨some 27, .move (.tmp 28), none⟩])
 (.cond (.tmp 27) (.skip)
 (.region [⟨some 29, .bin .eql (.tmp 4) (.const (.int .i64 13)), none⟩,
  ⟨some 27, .move (.tmp 29), none⟩])))
 (.cond (.tmp 27) (.seq (.region [⟨some 30, .build [.bool false, .bool false, .bool false, .bool false, .bool false, .bool false, .bool false, .bool false] [(0, 1, .const (.bool true))], none⟩,
  ⟨none, .store 8 (.tmp 2) (.tmp 30), none⟩,
  ⟨some 3, .move (.const (.bool true)), none⟩])
 (.ret))
 (.seq (.region [⟨some 32, .bin .eql (.tmp 4) (.const (.int .i64 10)), none⟩,
  ⟨some 31, .move (.tmp 32), none⟩])
 (.cond (.tmp 31) (.seq (.region [⟨some 33, .build [.bool false, .bool false, .bool false, .bool false, .bool false, .bool false, .bool false, .bool false] [(4, 1, .const (.bool true)), (5, 1, .const (.bool true))], none⟩,
  ⟨none, .store 8 (.tmp 2) (.tmp 33), none⟩,
  ⟨some 3, .move (.const (.bool true)), none⟩])
 (.ret))
 (.seq (.seq (.region [⟨some 35, .bin .eql (.tmp 4) (.const (.int .i64 11)), none⟩,
  ⟨some 34, .move (.tmp 35), none⟩])
 (.cond (.tmp 34) (.skip)
 (.region [⟨some 36, .bin .eql (.tmp 4) (.const (.int .i64 12)), none⟩,
  ⟨some 34, .move (.tmp 36), none⟩])))
 (.cond (.tmp 34) (.seq (.region [⟨some 37, .build [.bool false, .bool false, .bool false, .bool false, .bool false, .bool false, .bool false, .bool false] [(0, 1, .const (.bool true)), (4, 1, .const (.bool true)), (5, 1, .const (.bool true))], none⟩,
  ⟨none, .store 8 (.tmp 2) (.tmp 37), none⟩,
  ⟨some 3, .move (.const (.bool true)), none⟩])
 (.ret))
 (.skip)))))))))))))))))))))))
 (.seq (.region [⟨some 38, .build [.bool false, .bool false, .bool false, .bool false, .bool false, .bool false, .bool false, .bool false] [], none⟩,
  ⟨none, .store 8 (.tmp 2) (.tmp 38), none⟩,
  ⟨some 3, .move (.const (.bool false)), none⟩])
 (.ret)))
theorem light74 : Light Try.prog 74 1 39 L74 [.cell 2 true 8, .tmp 3] :=
  ⟨Try.f74, _, Try.func74, rfl, rfl, by kernel_rfl, by kernel_rfl, by decide⟩

/-! ### function 75: outrider/ins.reg -/
def L75 : LCode :=
 .seq (.region [⟨some 4, .move (.const (.bool false)), none⟩])
 (.seq (.region [⟨some 5, .move (.tmp 0), none⟩,
  ⟨some 6, .move (.tmp 5), none⟩,
  ⟨some 7, .move (.tmp 1), (some (6, true))⟩,
  ⟨some 8, .bin .geq (.tmp 7) (.const (.int .i64 0)), (some (6, true))⟩,
  ⟨some 9, .pick (.tmp 6) (.tmp 8) (.const (.bool false)), none⟩,
  ⟨some 10, .move (.tmp 9), none⟩,
  ⟨some 11, .move (.tmp 1), (some (10, true))⟩,
  ⟨some 12, .bin .lss (.tmp 11) (.const (.int .i64 16)), (some (10, true))⟩,
  ⟨some 13, .pick (.tmp 10) (.tmp 12) (.const (.bool false)), none⟩,
  ⟨some 14, .move (.tmp 13), none⟩,
  ⟨some 15, .move (.tmp 0), (some (14, false))⟩,
  ⟨some 16, .un .not (.tmp 15), (some (14, false))⟩,
  ⟨some 17, .move (.tmp 16), (some (14, false))⟩,
  ⟨some 18, .move (.tmp 1), (some (17, true))⟩,
  ⟨some 19, .bin .eql (.tmp 18) (.const (.int .i64 0)), (some (17, true))⟩,
  ⟨some 20, .pick (.tmp 17) (.tmp 19) (.const (.bool false)), (some (14, false))⟩,
  ⟨some 21, .pick (.tmp 14) (.const (.bool true)) (.tmp 20), none⟩,
  ⟨some 4, .move (.tmp 21), none⟩])
 (.ret))
theorem light75 : Light Try.prog 75 2 22 L75 [.tmp 4] :=
  ⟨Try.f75, _, Try.func75, rfl, rfl, by kernel_rfl, by kernel_rfl, by decide⟩

/-! ### function 76: outrider/outriderref08.Parts -/
def L76 : LCode :=
 .seq (.region [⟨some 2, .move (.const (.string ByteArray.empty)), none⟩])
 (.seq (.region [⟨some 4, .buildSlice 9 1 13 [.string ByteArray.empty] [(0, 1, .const (.string ByteArray.empty)), (1, 1, .const (.string ⟨#[97, 107]⟩)), (2, 1, .const (.string ⟨#[97, 98]⟩)), (3, 1, .const (.string ⟨#[112, 97, 98]⟩)), (4, 1, .const (.string ⟨#[111, 97, 98, 99]⟩)), (5, 1, .const (.string ⟨#[97, 98, 107]⟩)), (6, 1, .const (.string ⟨#[97, 98, 107]⟩)), (7, 1, .const (.string ⟨#[97, 114]⟩)), (8, 1, .const (.string ⟨#[97]⟩)), (9, 1, .const (.string ⟨#[116]⟩)), (10, 1, .const (.string ⟨#[97, 116]⟩)), (11, 1, .const (.string ⟨#[97, 116]⟩)), (12, 1, .const (.string ⟨#[97]⟩))], none⟩,
  ⟨some 3, .move (.tmp 4), none⟩])
 (.seq (.seq (.region [⟨some 5, .move (.tmp 0), none⟩,
  ⟨some 6, .bin .lss (.tmp 5) (.const (.int .i64 1)), none⟩,
  ⟨some 7, .move (.tmp 6), none⟩,
  ⟨some 8, .move (.tmp 0), (some (7, false))⟩,
  ⟨some 9, .bin .gtr (.tmp 8) (.const (.int .i64 13)), (some (7, false))⟩,
  ⟨some 10, .pick (.tmp 7) (.const (.bool true)) (.tmp 9), none⟩])
 (.cond (.tmp 10) (.seq (.region [⟨some 2, .move (.const (.string ⟨#[63]⟩)), none⟩])
 (.ret))
 (.skip)))
 (.seq (.region [⟨some 11, .move (.tmp 3), none⟩,
  ⟨some 12, .move (.tmp 0), none⟩,
  ⟨some 13, .bin .sub (.tmp 12) (.const (.int .i64 1)), none⟩,
  ⟨some 14, .idx 1 (.tmp 11) (.tmp 13), none⟩,
  ⟨some 15, .load false 1 (.tmp 14), none⟩,
  ⟨some 2, .move (.tmp 15), none⟩])
 (.ret))))
theorem light76 : Light Try.prog 76 1 16 L76 [.tmp 2] :=
  ⟨Try.f76, _, Try.func76, rfl, rfl, by kernel_rfl, by kernel_rfl, by decide⟩

/-! ### function 77: outrider/outriderref08.Has -/
def L77_1 : LCode :=
 .seq (.seq (.region [⟨some 6, .move (.tmp 5), none⟩,
  ⟨some 7, .move (.tmp 0), none⟩,
  ⟨some 8, .lenS (.tmp 7), none⟩,
  ⟨some 9, .bin .lss (.tmp 6) (.tmp 8), none⟩])
 (.cond (.tmp 9) (.skip)
 (.exit 0)))
 (.seq (.block 1 (.seq (.region [⟨some 12, .move (.tmp 0), none⟩,
  ⟨some 13, .move (.tmp 5), none⟩,
  ⟨some 14, .idxStr (.tmp 12) (.tmp 13), none⟩,
  ⟨some 15, .move (.tmp 1), none⟩,
  ⟨some 16, .bin .eql (.tmp 14) (.tmp 15), none⟩])
 (.cond (.tmp 16) (.seq (.region [⟨some 4, .move (.const (.bool true)), none⟩])
 (.ret))
 (.skip))))
 (.region [⟨some 10, .move (.tmp 5), none⟩,
  ⟨some 11, .bin .add (.tmp 10) (.const (.int .i64 1)), none⟩,
  ⟨some 5, .move (.tmp 11), none⟩]))
def L77 : LCode :=
 .seq (.region [⟨some 4, .move (.const (.bool false)), none⟩])
 (.seq (.seq (.region [⟨some 5, .move (.const (.int .i64 0)), none⟩])
 (.block 0 (.loop L77_1)))
 (.seq (.region [⟨some 4, .move (.const (.bool false)), none⟩])
 (.ret)))
theorem light77 : Light Try.prog 77 2 17 L77 [.tmp 4] :=
  ⟨Try.f77, _, Try.func77, rfl, rfl, by kernel_rfl, by kernel_rfl, by decide⟩

/-! ### function 78: outrider/outriderref08.bad -/
def L78 : LCode :=
 .seq (.region [⟨some 2, .move (.const (.bool false)), none⟩])
 (.seq (.region [⟨some 3, .move (.tmp 0), none⟩,
  ⟨some 4, .bin .lss (.tmp 3) (.const (.int .i64 0)), none⟩,
  ⟨some 5, .move (.tmp 4), none⟩,
  ⟨some 6, .move (.tmp 0), (some (5, false))⟩,
  ⟨some 7, .bin .gtr (.tmp 6) (.const (.int .i64 15)), (some (5, false))⟩,
  ⟨some 8, .pick (.tmp 5) (.const (.bool true)) (.tmp 7), none⟩,
  ⟨some 2, .move (.tmp 8), none⟩])
 (.ret))
theorem light78 : Light Try.prog 78 1 9 L78 [.tmp 2] :=
  ⟨Try.f78, _, Try.func78, rfl, rfl, by kernel_rfl, by kernel_rfl, by decide⟩

end Go.Proofs.Ytmdlfenileiaeaa
