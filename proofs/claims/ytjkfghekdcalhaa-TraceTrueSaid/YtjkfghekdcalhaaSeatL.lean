/-
  The light code of functions of this seat: printed by a program of this session (wip/tools/lightgen.py); each is held against the program by the kernel.
-/
import Derived.Test.YtjkfghekdcalhaaOtT
import Derived.KernelRfl
import Derived.Test.YtjkfghekdcalhaaProg
set_option maxRecDepth 100000
namespace Go.Proofs.Ytjkfghekdcalhaa
open Go.Ot

/-! ### function 3: outrider/outriderlaw27.TraceCuts -/
def L3 : LCode :=
 .seq (.region [⟨some 3, .box 29 11 (.tmp 0), none⟩,
  ⟨some 6, .move (.const (.bool false)), none⟩])
 (.seq (.seq (.region [⟨some 13, .load true 11 (.tmp 3), none⟩,
  ⟨some 14, .call 6 [.tmp 13], none⟩,
  ⟨some 15, .move (.tmp 14), none⟩,
  ⟨some 16, .move (.tmp 1), (some (15, false))⟩,
  ⟨some 17, .len (.tmp 16), (some (15, false))⟩,
  ⟨some 18, .bin .gtr (.tmp 17) (.const (.int .i64 300)), (some (15, false))⟩,
  ⟨some 19, .pick (.tmp 15) (.const (.bool true)) (.tmp 18), none⟩])
 (.cond (.tmp 19) (.seq (.region [⟨some 6, .move (.const (.bool true)), none⟩])
 (.ret))
 (.skip)))
 (.seq (.region [⟨some 20, .move (.tmp 2), none⟩,
  ⟨some 21, .move (.tmp 1), none⟩,
  ⟨some 22, .len (.tmp 21), none⟩,
  ⟨some 23, .bin .add (.tmp 22) (.const (.int .i64 1)), none⟩,
  ⟨some 24, .bin .rem (.tmp 20) (.tmp 23), none⟩,
  ⟨some 25, .move (.tmp 1), none⟩,
  ⟨some 26, .len (.tmp 25), none⟩,
  ⟨some 27, .bin .add (.tmp 24) (.tmp 26), none⟩,
  ⟨some 28, .bin .add (.tmp 27) (.const (.int .i64 1)), none⟩,
  ⟨some 29, .move (.tmp 1), none⟩,
  ⟨some 30, .len (.tmp 29), none⟩,
  ⟨some 31, .bin .add (.tmp 30) (.const (.int .i64 1)), none⟩,
  ⟨some 32, .bin .rem (.tmp 28) (.tmp 31), none⟩,
  ⟨some 2, .move (.tmp 32), none⟩])
 (.seq (.region [⟨some 34, .load true 11 (.tmp 3), none⟩,
  ⟨some 35, .move (.tmp 1), none⟩,
  ⟨some 36, .call 7 [.tmp 34, .tmp 35], none⟩,
  ⟨some 33, .move (.tmp 36), none⟩,
  ⟨some 37, .extract (.tmp 33) 0, none⟩,
  ⟨some 38, .extract (.tmp 33) 1, none⟩,
  ⟨some 39, .extract (.tmp 33) 2, none⟩,
  ⟨some 7, .new 37 7 [.slice none 0 0, .slice none 0 0, .slice none 0 0, .int .i64 0, .int .i64 0, .int .i64 0, .int .i64 0], none⟩,
  ⟨none, .store 7 (.tmp 7) (.tmp 37), none⟩,
  ⟨some 8, .move (.tmp 38), none⟩,
  ⟨some 9, .move (.tmp 39), none⟩])
 (.seq (.alts [[⟨⟨some 41, .load true 11 (.tmp 3), none⟩, .read, 0, 0⟩,
  ⟨⟨some 42, .move (.tmp 1), none⟩, .pure, 0, 0⟩,
  ⟨⟨some 43, .move (.tmp 2), none⟩, .pure, 0, 0⟩,
  ⟨⟨some 44, .move (.tmp 2), none⟩, .pure, 0, 0⟩,
  ⟨⟨some 45, .slice 6 (.tmp 42) none (some (.tmp 43)) (some (.tmp 44)), none⟩, .pure, 0, 0⟩,
  ⟨⟨some 46, .call 7 [.tmp 41, .tmp 45], none⟩, .heavy, 0, 1⟩,
  ⟨⟨some 40, .move (.tmp 46), none⟩, .pure, 1, 2⟩,
  ⟨⟨some 47, .extract (.tmp 40) 0, none⟩, .pure, 1, 2⟩,
  ⟨⟨some 48, .extract (.tmp 40) 1, none⟩, .pure, 1, 3⟩,
  ⟨⟨some 49, .extract (.tmp 40) 2, none⟩, .pure, 1, 3⟩,
  ⟨⟨some 10, .new 37 7 [.slice none 0 0, .slice none 0 0, .slice none 0 0, .int .i64 0, .int .i64 0, .int .i64 0, .int .i64 0], none⟩, .heavy, 1, 2⟩,
  ⟨⟨none, .store 7 (.tmp 10) (.tmp 47), none⟩, .heavy, 2, 3⟩,
  ⟨⟨some 11, .move (.tmp 48), none⟩, .pure, 3, 3⟩,
  ⟨⟨some 12, .move (.tmp 49), none⟩, .pure, 3, 3⟩],
 [⟨⟨some 41, .load true 11 (.tmp 3), none⟩, .read, 0, 1⟩,
  ⟨⟨some 42, .move (.tmp 1), none⟩, .pure, 0, 1⟩,
  ⟨⟨some 43, .move (.tmp 2), none⟩, .pure, 0, 1⟩,
  ⟨⟨some 44, .move (.tmp 2), none⟩, .pure, 0, 1⟩,
  ⟨⟨some 45, .slice 6 (.tmp 42) none (some (.tmp 43)) (some (.tmp 44)), none⟩, .pure, 0, 1⟩,
  ⟨⟨some 10, .new 37 7 [.slice none 0 0, .slice none 0 0, .slice none 0 0, .int .i64 0, .int .i64 0, .int .i64 0, .int .i64 0], none⟩, .heavy, 0, 1⟩,
  ⟨⟨some 46, .call 7 [.tmp 41, .tmp 45], none⟩, .heavy, 1, 2⟩,
  ⟨⟨some 40, .move (.tmp 46), none⟩, .pure, 2, 2⟩,
  ⟨⟨some 47, .extract (.tmp 40) 0, none⟩, .pure, 2, 2⟩,
  ⟨⟨some 48, .extract (.tmp 40) 1, none⟩, .pure, 2, 3⟩,
  ⟨⟨some 49, .extract (.tmp 40) 2, none⟩, .pure, 2, 3⟩,
  ⟨⟨none, .store 7 (.tmp 10) (.tmp 47), none⟩, .heavy, 2, 3⟩,
  ⟨⟨some 11, .move (.tmp 48), none⟩, .pure, 3, 3⟩,
  ⟨⟨some 12, .move (.tmp 49), none⟩, .pure, 3, 3⟩]])
 (.seq (.seq (.region [⟨some 50, .move (.tmp 9), none⟩,
  ⟨some 51, .bin .eql (.tmp 50) (.const (.int .i64 0)), none⟩])
 (.cond (.tmp 51) (.seq (.region [⟨some 52, .move (.tmp 12), none⟩,
  ⟨some 53, .bin .eql (.tmp 52) (.const (.int .i64 0)), none⟩,
  ⟨some 54, .move (.tmp 53), none⟩,
  ⟨some 55, .off 6 (.tmp 10), (some (54, true))⟩,
  ⟨some 56, .load false 1 (.tmp 55), (some (54, true))⟩,
  ⟨some 57, .bin .geq (.tmp 56) (.const (.int .i64 0)), (some (54, true))⟩,
  ⟨some 58, .pick (.tmp 54) (.tmp 57) (.const (.bool false)), none⟩,
  ⟨some 59, .move (.tmp 58), none⟩,
  ⟨some 60, .call 8 [], (some (59, true))⟩,
  ⟨some 61, .pick (.tmp 59) (.tmp 60) (.const (.bool false)), none⟩,
  ⟨some 6, .move (.tmp 61), none⟩])
 (.ret))
 (.skip)))
 (.seq (.seq (.region [⟨some 62, .move (.tmp 9), none⟩,
  ⟨some 63, .bin .neq (.tmp 62) (.const (.int .i64 270)), none⟩])
 (.cond (.tmp 63) (.seq (.region [⟨some 64, .move (.tmp 12), none⟩,
  ⟨some 65, .move (.tmp 9), none⟩,
  ⟨some 66, .bin .eql (.tmp 64) (.tmp 65), none⟩,
  ⟨some 67, .move (.tmp 66), none⟩,
  ⟨some 68, .call 8 [], (some (67, true))⟩,
  ⟨some 69, .pick (.tmp 67) (.tmp 68) (.const (.bool false)), none⟩,
  ⟨some 6, .move (.tmp 69), none⟩])
 (.ret))
 (.skip)))
 (.seq (.seq (.region [⟨some 70, .move (.tmp 2), none⟩,
  ⟨some 71, .move (.tmp 8), none⟩,
  ⟨some 72, .bin .gtr (.tmp 70) (.tmp 71), none⟩])
 (.cond (.tmp 72) (.seq (.region [⟨some 73, .move (.tmp 12), none⟩,
  ⟨some 74, .bin .eql (.tmp 73) (.const (.int .i64 270)), none⟩,
  ⟨some 75, .move (.tmp 74), none⟩,
  ⟨some 76, .move (.tmp 11), (some (75, true))⟩,
  ⟨some 77, .move (.tmp 8), (some (75, true))⟩,
  ⟨some 78, .bin .eql (.tmp 76) (.tmp 77), (some (75, true))⟩,
  ⟨some 79, .pick (.tmp 75) (.tmp 78) (.const (.bool false)), none⟩,
  ⟨some 80, .move (.tmp 79), none⟩,
  ⟨some 81, .call 8 [], (some (80, true))⟩,
  ⟨some 82, .pick (.tmp 80) (.tmp 81) (.const (.bool false)), none⟩,
  ⟨some 6, .move (.tmp 82), none⟩])
 (.ret))
 (.skip)))
 (.seq (.region [⟨some 83, .move (.tmp 12), none⟩,
  ⟨some 84, .bin .eql (.tmp 83) (.const (.int .i64 0)), none⟩,
  ⟨some 85, .move (.tmp 84), none⟩,
  ⟨some 86, .move (.tmp 11), (some (85, true))⟩,
  ⟨some 87, .bin .eql (.tmp 86) (.const (.int .i64 0)), (some (85, true))⟩,
  ⟨some 88, .pick (.tmp 85) (.tmp 87) (.const (.bool false)), none⟩,
  ⟨some 89, .move (.tmp 88), none⟩,
  ⟨some 90, .call 8 [], (some (89, true))⟩,
  ⟨some 91, .pick (.tmp 89) (.tmp 90) (.const (.bool false)), none⟩,
  ⟨some 6, .move (.tmp 91), none⟩])
 (.ret)))))))))
theorem lightX3 : LightX Try.prog 3 3 92 L3 [.tmp 6] :=
  ⟨Try.f3, _, Try.func3, rfl, rfl, by kernel_rfl, by kernel_rfl, by decide⟩

/-! ### function 4: outrider/outriderlaw27.TraceTrue -/
def L4 : LCode :=
 .seq (.region [⟨some 2, .box 29 11 (.tmp 0), none⟩,
  ⟨some 4, .move (.const (.bool false)), none⟩])
 (.seq (.seq (.region [⟨some 10, .load true 11 (.tmp 2), none⟩,
  ⟨some 11, .call 6 [.tmp 10], none⟩,
  ⟨some 12, .move (.tmp 11), none⟩,
  ⟨some 13, .move (.tmp 1), (some (12, false))⟩,
  ⟨some 14, .len (.tmp 13), (some (12, false))⟩,
  ⟨some 15, .bin .gtr (.tmp 14) (.const (.int .i64 300)), (some (12, false))⟩,
  ⟨some 16, .pick (.tmp 12) (.const (.bool true)) (.tmp 15), none⟩])
 (.cond (.tmp 16) (.seq (.region [⟨some 4, .move (.const (.bool true)), none⟩])
 (.ret))
 (.skip)))
 (.seq (.region [⟨some 18, .load true 11 (.tmp 2), none⟩,
  ⟨some 19, .move (.tmp 1), none⟩,
  ⟨some 20, .call 9 [.tmp 18, .tmp 19], none⟩,
  ⟨some 17, .move (.tmp 20), none⟩,
  ⟨some 21, .extract (.tmp 17) 0, none⟩,
  ⟨some 22, .extract (.tmp 17) 1, none⟩,
  ⟨some 23, .extract (.tmp 17) 2, none⟩,
  ⟨some 5, .new 37 7 [.slice none 0 0, .slice none 0 0, .slice none 0 0, .int .i64 0, .int .i64 0, .int .i64 0, .int .i64 0], none⟩,
  ⟨none, .store 7 (.tmp 5) (.tmp 21), none⟩,
  ⟨some 6, .move (.tmp 22), none⟩,
  ⟨some 7, .move (.tmp 23), none⟩])
 (.seq (.seq (.region [⟨some 24, .move (.tmp 7), none⟩,
  ⟨some 25, .bin .neq (.tmp 24) (.const (.int .i64 0)), none⟩])
 (.cond (.tmp 25) (.seq (.region [⟨some 26, .move (.tmp 7), none⟩,
  ⟨some 27, .bin .neq (.tmp 26) (.const (.int .i64 270)), none⟩,
  ⟨some 28, .move (.tmp 27), none⟩,
  ⟨some 29, .move (.tmp 6), (some (28, false))⟩,
  ⟨some 30, .bin .geq (.tmp 29) (.const (.int .i64 0)), (some (28, false))⟩,
  ⟨some 31, .move (.tmp 30), (some (28, false))⟩,
  ⟨some 32, .move (.tmp 6), (some (31, true))⟩,
  ⟨some 33, .move (.tmp 1), (some (31, true))⟩,
  ⟨some 34, .len (.tmp 33), (some (31, true))⟩,
  ⟨some 35, .bin .lss (.tmp 32) (.tmp 34), (some (31, true))⟩,
  ⟨some 36, .pick (.tmp 31) (.tmp 35) (.const (.bool false)), (some (28, false))⟩,
  ⟨some 37, .pick (.tmp 28) (.const (.bool true)) (.tmp 36), none⟩,
  ⟨some 38, .move (.tmp 37), none⟩,
  ⟨some 39, .load true 7 (.tmp 5), (some (38, true))⟩,
  ⟨some 40, .build [.slice none 0 0, .slice none 0 0, .slice none 0 0, .int .i64 0, .int .i64 0, .int .i64 0, .int .i64 0] [], (some (38, true))⟩,
  ⟨some 41, .call 10 [.tmp 39, .tmp 40], (some (38, true))⟩,
  ⟨some 42, .pick (.tmp 38) (.tmp 41) (.const (.bool false)), none⟩,
  ⟨some 43, .move (.tmp 42), none⟩,
  ⟨some 44, .call 8 [], (some (43, true))⟩,
  ⟨some 45, .pick (.tmp 43) (.tmp 44) (.const (.bool false)), none⟩,
  ⟨some 4, .move (.tmp 45), none⟩])
 (.ret))
 (.skip)))
 (.seq (.region [⟨some 47, .load true 11 (.tmp 2), none⟩,
  ⟨some 48, .off 6 (.tmp 5), none⟩,
  ⟨some 49, .load false 1 (.tmp 48), none⟩,
  ⟨some 50, .call 11 [.tmp 47, .tmp 49], none⟩,
  ⟨some 46, .move (.tmp 50), none⟩,
  ⟨some 51, .extract (.tmp 46) 0, none⟩,
  ⟨some 52, .extract (.tmp 46) 1, none⟩,
  ⟨some 8, .new 37 7 [.slice none 0 0, .slice none 0 0, .slice none 0 0, .int .i64 0, .int .i64 0, .int .i64 0, .int .i64 0], none⟩,
  ⟨none, .store 7 (.tmp 8) (.tmp 51), none⟩,
  ⟨some 9, .move (.tmp 52), none⟩])
 (.seq (.seq (.region [⟨some 53, .off 3 (.tmp 5), none⟩,
  ⟨some 54, .off 1 (.tmp 53), none⟩,
  ⟨some 55, .load false 1 (.tmp 54), none⟩,
  ⟨some 56, .bin .neq (.tmp 55) (.const (.int .i64 0)), none⟩])
 (.cond (.tmp 56) (.region [⟨some 58, .load true 11 (.tmp 2), none⟩,
  ⟨some 59, .call 12 [.tmp 58], none⟩,
  ⟨some 57, .move (.tmp 59), none⟩,
  ⟨some 60, .extract (.tmp 57) 0, none⟩,
  ⟨some 61, .extract (.tmp 57) 1, none⟩,
  ⟨none, .store 7 (.tmp 8) (.tmp 60), none⟩,
  ⟨some 9, .move (.tmp 61), none⟩])
 (.skip)))
 (.seq (.region [⟨some 62, .move (.tmp 9), none⟩,
  ⟨some 63, .bin .eql (.tmp 62) (.const (.int .i64 0)), none⟩,
  ⟨some 64, .move (.tmp 63), none⟩,
  ⟨some 65, .load true 7 (.tmp 5), (some (64, true))⟩,
  ⟨some 66, .load true 7 (.tmp 8), (some (64, true))⟩,
  ⟨some 67, .call 13 [.tmp 65, .tmp 66], (some (64, true))⟩,
  ⟨some 68, .pick (.tmp 64) (.tmp 67) (.const (.bool false)), none⟩,
  ⟨some 69, .move (.tmp 68), none⟩,
  ⟨some 70, .call 8 [], (some (69, true))⟩,
  ⟨some 71, .pick (.tmp 69) (.tmp 70) (.const (.bool false)), none⟩,
  ⟨some 4, .move (.tmp 71), none⟩])
 (.ret)))))))
theorem light4 : Light Try.prog 4 2 72 L4 [.tmp 4] :=
  ⟨Try.f4, _, Try.func4, rfl, rfl, by kernel_rfl, by kernel_rfl, by decide⟩

/-! ### function 5: outrider/outriderlaw27.TraceShows -/
def L5 : LCode :=
 .seq (.region [⟨some 2, .move (.const (.bool false)), none⟩])
 (.seq (.region [⟨some 3, .move (.tmp 0), none⟩,
  ⟨some 4, .len (.tmp 3), none⟩,
  ⟨some 5, .bin .gtr (.tmp 4) (.const (.int .i64 300)), none⟩,
  ⟨some 6, .move (.tmp 5), none⟩,
  ⟨some 7, .move (.tmp 0), (some (6, false))⟩,
  ⟨some 8, .call 14 [.tmp 7], (some (6, false))⟩,
  ⟨some 9, .move (.tmp 0), (some (6, false))⟩,
  ⟨some 10, .call 15 [.tmp 9], (some (6, false))⟩,
  ⟨some 11, .bin .eql (.tmp 8) (.tmp 10), (some (6, false))⟩,
  ⟨some 12, .move (.tmp 11), (some (6, false))⟩,
  ⟨some 13, .call 8 [], (some (12, true))⟩,
  ⟨some 14, .pick (.tmp 12) (.tmp 13) (.const (.bool false)), (some (6, false))⟩,
  ⟨some 15, .pick (.tmp 6) (.const (.bool true)) (.tmp 14), none⟩,
  ⟨some 2, .move (.tmp 15), none⟩])
 (.ret))
theorem light5 : Light Try.prog 5 1 16 L5 [.tmp 2] :=
  ⟨Try.f5, _, Try.func5, rfl, rfl, by kernel_rfl, by kernel_rfl, by decide⟩

/-! ### function 6: outrider/outriderlaw17.Great -/
def L6_1 : LCode :=
 .seq (.seq (.region [⟨some 20, .move (.tmp 3), none⟩,
  ⟨some 21, .off 10 (.tmp 1), none⟩,
  ⟨some 22, .load false 1 (.tmp 21), none⟩,
  ⟨some 23, .len (.tmp 22), none⟩,
  ⟨some 24, .bin .lss (.tmp 20) (.tmp 23), none⟩])
 (.cond (.tmp 24) (.skip)
 (.exit 0)))
 (.seq (.block 1 (.seq (.region [⟨some 27, .off 10 (.tmp 1), none⟩,
  ⟨some 28, .load false 1 (.tmp 27), none⟩,
  ⟨some 29, .move (.tmp 3), none⟩,
  ⟨some 30, .idx 1 (.tmp 28) (.tmp 29), none⟩,
  ⟨some 31, .load false 1 (.tmp 30), none⟩,
  ⟨some 32, .len (.tmp 31), none⟩,
  ⟨some 33, .bin .gtr (.tmp 32) (.const (.int .i64 700)), none⟩])
 (.cond (.tmp 33) (.seq (.region [⟨some 2, .move (.const (.bool true)), none⟩])
 (.ret))
 (.skip))))
 (.region [⟨some 25, .move (.tmp 3), none⟩,
  ⟨some 26, .bin .add (.tmp 25) (.const (.int .i64 1)), none⟩,
  ⟨some 3, .move (.tmp 26), none⟩]))
def L6 : LCode :=
 .seq (.region [⟨some 1, .box 29 11 (.tmp 0), none⟩,
  ⟨some 2, .move (.const (.bool false)), none⟩])
 (.seq (.seq (.region [⟨some 4, .off 1 (.tmp 1), none⟩,
  ⟨some 5, .load false 1 (.tmp 4), none⟩,
  ⟨some 6, .len (.tmp 5), none⟩,
  ⟨some 7, .bin .gtr (.tmp 6) (.const (.int .i64 200)), none⟩,
  ⟨some 8, .move (.tmp 7), none⟩,
  ⟨some 9, .off 2 (.tmp 1), (some (8, false))⟩,
  ⟨some 10, .load false 1 (.tmp 9), (some (8, false))⟩,
  ⟨some 11, .len (.tmp 10), (some (8, false))⟩,
  ⟨some 12, .bin .gtr (.tmp 11) (.const (.int .i64 50)), (some (8, false))⟩,
  ⟨some 13, .pick (.tmp 8) (.const (.bool true)) (.tmp 12), none⟩,
  ⟨some 14, .move (.tmp 13), none⟩,
  ⟨some 15, .off 10 (.tmp 1), (some (14, false))⟩,
  ⟨some 16, .load false 1 (.tmp 15), (some (14, false))⟩,
  ⟨some 17, .len (.tmp 16), (some (14, false))⟩,
  ⟨some 18, .bin .gtr (.tmp 17) (.const (.int .i64 50)), (some (14, false))⟩,
  ⟨some 19, .pick (.tmp 14) (.const (.bool true)) (.tmp 18), none⟩])
 (.cond (.tmp 19) (.seq (.region [⟨some 2, .move (.const (.bool true)), none⟩])
 (.ret))
 (.skip)))
 (.seq (.seq (.region [⟨some 3, .move (.const (.int .i64 0)), none⟩])
 (.block 0 (.loop L6_1)))
 (.seq (.region [⟨some 2, .move (.const (.bool false)), none⟩])
 (.ret))))
theorem light6 : Light Try.prog 6 1 34 L6 [.tmp 2] :=
  ⟨Try.f6, _, Try.func6, rfl, rfl, by kernel_rfl, by kernel_rfl, by decide⟩

/-! ### function 7: outrider/trace.Check -/
def L7 : LCode :=
 .seq (.region [⟨some 2, .box 29 11 (.tmp 0), none⟩,
  ⟨some 4, .new 37 7 [.slice none 0 0, .slice none 0 0, .slice none 0 0, .int .i64 0, .int .i64 0, .int .i64 0, .int .i64 0], none⟩,
  ⟨some 5, .move (.const (.int .i64 0)), none⟩,
  ⟨some 6, .move (.const (.int .i64 0)), none⟩])
 (.seq (.region [⟨some 7, .load true 11 (.tmp 2), none⟩,
  ⟨some 8, .move (.tmp 1), none⟩,
  ⟨some 9, .call 16 [.tmp 7, .tmp 8, .const (.bool false)], none⟩,
  ⟨some 10, .extract (.tmp 9) 0, none⟩,
  ⟨some 11, .extract (.tmp 9) 1, none⟩,
  ⟨some 12, .extract (.tmp 9) 2, none⟩,
  ⟨none, .store 7 (.tmp 4) (.tmp 10), none⟩,
  ⟨some 5, .move (.tmp 11), none⟩,
  ⟨some 6, .move (.tmp 12), none⟩])
 (.ret))
theorem light7 : Light Try.prog 7 2 13 L7 [.cell 4 true 7, .tmp 5, .tmp 6] :=
  ⟨Try.f7, _, Try.func7, rfl, rfl, by kernel_rfl, by kernel_rfl, by decide⟩

/-! ### function 8: outrider/outriderlaw27.alive -/
def L8 : LCode :=
 .seq (.region [⟨some 0, .move (.const (.bool false)), none⟩])
 (.seq (.region [⟨some 9, .build [.int .i64 0, .int .i64 0, .int .i64 0, .int .i64 0, .int .i64 0, .int .i64 0] [(0, 1, .const (.int .i64 1)), (2, 1, .const (.int .i64 1)), (3, 1, .const (.int .i64 1))], none⟩,
  ⟨some 10, .build [.int .i64 0, .int .i64 0, .int .i64 0, .int .i64 0, .int .i64 0, .int .i64 0] [(0, 1, .const (.int .i64 1))], none⟩,
  ⟨some 11, .buildSlice 55 6 1 [.int .i64 0, .int .i64 0, .int .i64 0, .int .i64 0, .int .i64 0, .int .i64 0] [(0, 6, .tmp 10)], none⟩,
  ⟨some 12, .buildSlice 50 1 1 [.slice none 0 0] [(0, 1, .tmp 11)], none⟩,
  ⟨some 13, .build [.int .i64 0, .slice none 0 0, .slice none 0 0, .int .i64 0, .int .i64 0, .int .i64 0, .int .i64 0, .int .i64 0, .int .i64 0, .int .i64 0, .slice none 0 0] [(0, 1, .const (.int .i64 1)), (3, 1, .const (.int .i64 1)), (4, 6, .tmp 9), (10, 1, .tmp 12)], none⟩,
  ⟨some 1, .new 29 11 [.int .i64 0, .slice none 0 0, .slice none 0 0, .int .i64 0, .int .i64 0, .int .i64 0, .int .i64 0, .int .i64 0, .int .i64 0, .int .i64 0, .slice none 0 0], none⟩,
  ⟨none, .store 11 (.tmp 1) (.tmp 13), none⟩])
 (.seq (.region [⟨some 14, .build [.int .i64 0, .int .i64 0, .int .i64 0, .int .i64 0, .int .i64 0, .int .i64 0] [(0, 1, .const (.int .i64 1))], none⟩,
  ⟨some 15, .build [.int .i64 0, .int .i64 0, .int .i64 0, .int .i64 0, .int .i64 0, .int .i64 0] [(0, 1, .const (.int .i64 3)), (4, 1, .const (.int .i64 5))], none⟩,
  ⟨some 16, .build [.int .i64 0, .int .i64 0, .int .i64 0, .int .i64 0, .int .i64 0, .int .i64 0] [(0, 1, .const (.int .i64 7))], none⟩,
  ⟨some 17, .buildSlice 58 6 3 [.int .i64 0, .int .i64 0, .int .i64 0, .int .i64 0, .int .i64 0, .int .i64 0] [(0, 6, .tmp 14), (6, 6, .tmp 15), (12, 6, .tmp 16)], none⟩,
  ⟨some 2, .move (.tmp 17), none⟩])
 (.seq (.region [⟨some 19, .load true 11 (.tmp 1), none⟩,
  ⟨some 20, .move (.tmp 2), none⟩,
  ⟨some 21, .call 7 [.tmp 19, .tmp 20], none⟩,
  ⟨some 18, .move (.tmp 21), none⟩,
  ⟨some 22, .extract (.tmp 18) 0, none⟩,
  ⟨some 23, .extract (.tmp 18) 1, none⟩,
  ⟨some 24, .extract (.tmp 18) 2, none⟩,
  ⟨some 3, .new 37 7 [.slice none 0 0, .slice none 0 0, .slice none 0 0, .int .i64 0, .int .i64 0, .int .i64 0, .int .i64 0], none⟩,
  ⟨none, .store 7 (.tmp 3) (.tmp 22), none⟩,
  ⟨some 4, .move (.tmp 23), none⟩,
  ⟨some 5, .move (.tmp 24), none⟩])
 (.seq (.region [⟨some 26, .load true 11 (.tmp 1), none⟩,
  ⟨some 27, .move (.tmp 2), none⟩,
  ⟨some 28, .call 9 [.tmp 26, .tmp 27], none⟩,
  ⟨some 25, .move (.tmp 28), none⟩,
  ⟨some 29, .extract (.tmp 25) 0, none⟩,
  ⟨some 30, .extract (.tmp 25) 1, none⟩,
  ⟨some 31, .extract (.tmp 25) 2, none⟩,
  ⟨some 6, .new 37 7 [.slice none 0 0, .slice none 0 0, .slice none 0 0, .int .i64 0, .int .i64 0, .int .i64 0, .int .i64 0], none⟩,
  ⟨none, .store 7 (.tmp 6) (.tmp 29), none⟩,
  ⟨some 7, .move (.tmp 30), none⟩,
  ⟨some 8, .move (.tmp 31), none⟩])
 (.seq (.region [⟨some 32, .move (.tmp 5), none⟩,
  ⟨some 33, .bin .eql (.tmp 32) (.const (.int .i64 0)), none⟩,
  ⟨some 34, .move (.tmp 33), none⟩,
  ⟨some 35, .off 6 (.tmp 3), (some (34, true))⟩,
  ⟨some 36, .load false 1 (.tmp 35), (some (34, true))⟩,
  ⟨some 37, .bin .eql (.tmp 36) (.const (.int .i64 1)), (some (34, true))⟩,
  ⟨some 38, .pick (.tmp 34) (.tmp 37) (.const (.bool false)), none⟩,
  ⟨some 39, .move (.tmp 38), none⟩,
  ⟨some 40, .off 0 (.tmp 3), (some (39, true))⟩,
  ⟨some 41, .load false 1 (.tmp 40), (some (39, true))⟩,
  ⟨some 42, .len (.tmp 41), (some (39, true))⟩,
  ⟨some 43, .bin .eql (.tmp 42) (.const (.int .i64 1)), (some (39, true))⟩,
  ⟨some 44, .pick (.tmp 39) (.tmp 43) (.const (.bool false)), none⟩,
  ⟨some 45, .move (.tmp 44), none⟩,
  ⟨some 46, .off 0 (.tmp 3), (some (45, true))⟩,
  ⟨some 47, .load false 1 (.tmp 46), (some (45, true))⟩,
  ⟨some 48, .idx 1 (.tmp 47) (.const (.int .i64 0)), (some (45, true))⟩,
  ⟨some 49, .load false 1 (.tmp 48), (some (45, true))⟩,
  ⟨some 50, .bin .eql (.tmp 49) (.const (.int .i64 5)), (some (45, true))⟩,
  ⟨some 51, .pick (.tmp 45) (.tmp 50) (.const (.bool false)), none⟩,
  ⟨some 52, .move (.tmp 51), none⟩,
  ⟨some 53, .move (.tmp 8), (some (52, true))⟩,
  ⟨some 54, .bin .eql (.tmp 53) (.const (.int .i64 270)), (some (52, true))⟩,
  ⟨some 55, .pick (.tmp 52) (.tmp 54) (.const (.bool false)), none⟩,
  ⟨some 56, .move (.tmp 55), none⟩,
  ⟨some 57, .move (.tmp 7), (some (56, true))⟩,
  ⟨some 58, .bin .eql (.tmp 57) (.const (.int .i64 2)), (some (56, true))⟩,
  ⟨some 59, .pick (.tmp 56) (.tmp 58) (.const (.bool false)), none⟩,
  ⟨some 60, .move (.tmp 59), none⟩,
  ⟨some 61, .move (.tmp 2), (some (60, true))⟩,
  ⟨some 62, .call 17 [.tmp 61], (some (60, true))⟩,
  ⟨some 63, .fld false 1 1 (.tmp 62), (some (60, true))⟩,
  ⟨some 64, .bin .eql (.tmp 63) (.const (.int .i64 1)), (some (60, true))⟩,
  ⟨some 65, .pick (.tmp 60) (.tmp 64) (.const (.bool false)), none⟩,
  ⟨some 0, .move (.tmp 65), none⟩])
 (.ret))))))
theorem light8 : Light Try.prog 8 0 66 L8 [.tmp 0] :=
  ⟨Try.f8, _, Try.func8, rfl, rfl, by kernel_rfl, by kernel_rfl, by decide⟩

/-! ### function 9: outrider/trace.Judge -/
def L9 : LCode :=
 .seq (.region [⟨some 2, .box 29 11 (.tmp 0), none⟩,
  ⟨some 4, .new 37 7 [.slice none 0 0, .slice none 0 0, .slice none 0 0, .int .i64 0, .int .i64 0, .int .i64 0, .int .i64 0], none⟩,
  ⟨some 5, .move (.const (.int .i64 0)), none⟩,
  ⟨some 6, .move (.const (.int .i64 0)), none⟩])
 (.seq (.region [⟨some 7, .load true 11 (.tmp 2), none⟩,
  ⟨some 8, .move (.tmp 1), none⟩,
  ⟨some 9, .call 16 [.tmp 7, .tmp 8, .const (.bool true)], none⟩,
  ⟨some 10, .extract (.tmp 9) 0, none⟩,
  ⟨some 11, .extract (.tmp 9) 1, none⟩,
  ⟨some 12, .extract (.tmp 9) 2, none⟩,
  ⟨none, .store 7 (.tmp 4) (.tmp 10), none⟩,
  ⟨some 5, .move (.tmp 11), none⟩,
  ⟨some 6, .move (.tmp 12), none⟩])
 (.ret))
theorem light9 : Light Try.prog 9 2 13 L9 [.cell 4 true 7, .tmp 5, .tmp 6] :=
  ⟨Try.f9, _, Try.func9, rfl, rfl, by kernel_rfl, by kernel_rfl, by decide⟩

/-! ### function 10: outrider/outriderref18.Same -/
def L10 : LCode :=
 .seq (.region [⟨some 2, .box 37 7 (.tmp 0), none⟩,
  ⟨some 3, .box 37 7 (.tmp 1), none⟩,
  ⟨some 4, .move (.const (.bool false)), none⟩])
 (.seq (.region [⟨some 5, .off 0 (.tmp 2), none⟩,
  ⟨some 6, .load false 1 (.tmp 5), none⟩,
  ⟨some 7, .off 0 (.tmp 3), none⟩,
  ⟨some 8, .load false 1 (.tmp 7), none⟩,
  ⟨some 9, .call 18 [.tmp 6, .tmp 8], none⟩,
  ⟨some 10, .move (.tmp 9), none⟩,
  ⟨some 11, .off 1 (.tmp 2), (some (10, true))⟩,
  ⟨some 12, .load false 1 (.tmp 11), (some (10, true))⟩,
  ⟨some 13, .off 1 (.tmp 3), (some (10, true))⟩,
  ⟨some 14, .load false 1 (.tmp 13), (some (10, true))⟩,
  ⟨some 15, .call 18 [.tmp 12, .tmp 14], (some (10, true))⟩,
  ⟨some 16, .pick (.tmp 10) (.tmp 15) (.const (.bool false)), none⟩,
  ⟨some 17, .move (.tmp 16), none⟩,
  ⟨some 18, .off 2 (.tmp 2), (some (17, true))⟩,
  ⟨some 19, .load false 1 (.tmp 18), (some (17, true))⟩,
  ⟨some 20, .off 2 (.tmp 3), (some (17, true))⟩,
  ⟨some 21, .load false 1 (.tmp 20), (some (17, true))⟩,
  ⟨some 22, .call 18 [.tmp 19, .tmp 21], (some (17, true))⟩,
  ⟨some 23, .pick (.tmp 17) (.tmp 22) (.const (.bool false)), none⟩,
  ⟨some 24, .move (.tmp 23), none⟩,
  ⟨some 25, .off 3 (.tmp 2), (some (24, true))⟩,
  ⟨some 26, .load true 3 (.tmp 25), (some (24, true))⟩,
  ⟨some 27, .off 3 (.tmp 3), (some (24, true))⟩,
  ⟨some 28, .load true 3 (.tmp 27), (some (24, true))⟩,
  ⟨some 29, .eqR false 35 (.tmp 26) (.tmp 28), (some (24, true))⟩,
  ⟨some 30, .pick (.tmp 24) (.tmp 29) (.const (.bool false)), none⟩,
  ⟨some 31, .move (.tmp 30), none⟩,
  ⟨some 32, .off 6 (.tmp 2), (some (31, true))⟩,
  ⟨some 33, .load false 1 (.tmp 32), (some (31, true))⟩,
  ⟨some 34, .off 6 (.tmp 3), (some (31, true))⟩,
  ⟨some 35, .load false 1 (.tmp 34), (some (31, true))⟩,
  ⟨some 36, .bin .eql (.tmp 33) (.tmp 35), (some (31, true))⟩,
  ⟨some 37, .pick (.tmp 31) (.tmp 36) (.const (.bool false)), none⟩,
  ⟨some 4, .move (.tmp 37), none⟩])
 (.ret))
theorem light10 : Light Try.prog 10 2 38 L10 [.tmp 4] :=
  ⟨Try.f10, _, Try.func10, rfl, rfl, by kernel_rfl, by kernel_rfl, by decide⟩

/-! ### function 11: outrider/fold.Upto -/
def L11_1 : LCode :=
 .seq (.region [⟨some 38, .bin .lss (.tmp 37) (.tmp 36), none⟩])
 (.seq (.cond (.tmp 38) (.skip)
 (.exit 0))
 (.seq (.block 1 (.seq (.region [⟨some 39, .move (.tmp 37), none⟩,
  ⟨some 10, .move (.tmp 39), none⟩])
 (.seq (.region [⟨some 41, .load true 11 (.tmp 2), none⟩,
  ⟨some 42, .move (.tmp 10), none⟩,
  ⟨some 43, .off 0 (.tmp 6), none⟩,
  ⟨some 44, .load false 1 (.tmp 43), none⟩,
  ⟨some 45, .call 21 [.tmp 41, .tmp 42, .tmp 44], none⟩,
  ⟨some 40, .move (.tmp 45), none⟩,
  ⟨some 46, .extract (.tmp 40) 0, none⟩,
  ⟨some 47, .extract (.tmp 40) 1, none⟩,
  ⟨some 11, .new 67 6 [.slice none 0 0, .slice none 0 0, .slice none 0 0, .int .i64 0, .int .i64 0, .int .i64 0], none⟩,
  ⟨none, .store 6 (.tmp 11) (.tmp 46), none⟩,
  ⟨some 12, .move (.tmp 47), none⟩])
 (.seq (.region [⟨some 48, .load true 11 (.tmp 2), none⟩,
  ⟨some 49, .load true 7 (.tmp 6), none⟩,
  ⟨some 50, .move (.tmp 10), none⟩,
  ⟨some 51, .load true 6 (.tmp 11), none⟩,
  ⟨some 52, .call 22 [.tmp 48, .tmp 49, .tmp 50, .tmp 51], none⟩,
  ⟨none, .store 7 (.tmp 6) (.tmp 52), none⟩])
 (.seq (.region [⟨some 53, .off 3 (.tmp 6), none⟩,
  ⟨some 54, .off 1 (.tmp 53), none⟩,
  ⟨some 55, .load false 1 (.tmp 54), none⟩,
  ⟨some 56, .bin .neq (.tmp 55) (.const (.int .i64 0)), none⟩])
 (.cond (.tmp 56) (.seq (.region [⟨some 57, .load true 7 (.tmp 6), none⟩,
  ⟨none, .store 7 (.tmp 4) (.tmp 57), none⟩,
  ⟨some 5, .move (.const (.int .i64 0)), none⟩])
 (.ret))
 (.skip)))))))
 (.region [⟨some 58, .bin .add (.tmp 37) (.const (.int .i64 1)), none⟩,
  ⟨some 37, .move (.tmp 58), none⟩])))
def L11 : LCode :=
 .seq (.region [⟨some 2, .box 29 11 (.tmp 0), none⟩,
  ⟨some 4, .new 37 7 [.slice none 0 0, .slice none 0 0, .slice none 0 0, .int .i64 0, .int .i64 0, .int .i64 0, .int .i64 0], none⟩,
  ⟨some 5, .move (.const (.int .i64 0)), none⟩])
 (.seq (.region [⟨some 14, .load true 11 (.tmp 2), none⟩,
  ⟨some 15, .call 19 [.tmp 14], none⟩,
  ⟨some 13, .move (.tmp 15), none⟩,
  ⟨some 16, .extract (.tmp 13) 0, none⟩,
  ⟨some 17, .extract (.tmp 13) 1, none⟩,
  ⟨some 6, .new 37 7 [.slice none 0 0, .slice none 0 0, .slice none 0 0, .int .i64 0, .int .i64 0, .int .i64 0, .int .i64 0], none⟩,
  ⟨none, .store 7 (.tmp 6) (.tmp 16), none⟩,
  ⟨some 7, .move (.tmp 17), none⟩])
 (.seq (.seq (.region [⟨some 18, .move (.tmp 7), none⟩,
  ⟨some 19, .bin .neq (.tmp 18) (.const (.int .i64 0)), none⟩])
 (.cond (.tmp 19) (.seq (.region [⟨some 20, .load true 7 (.tmp 6), none⟩,
  ⟨some 21, .move (.tmp 7), none⟩,
  ⟨none, .store 7 (.tmp 4) (.tmp 20), none⟩,
  ⟨some 5, .move (.tmp 21), none⟩])
 (.ret))
 (.skip)))
 (.seq (.region [⟨some 23, .off 4 (.tmp 2), none⟩,
  ⟨some 24, .load true 6 (.tmp 23), none⟩,
  ⟨some 25, .call 20 [.tmp 24], none⟩,
  ⟨some 22, .move (.tmp 25), none⟩,
  ⟨some 26, .extract (.tmp 22) 0, none⟩,
  ⟨some 27, .extract (.tmp 22) 1, none⟩,
  ⟨some 8, .move (.tmp 26), none⟩,
  ⟨some 9, .move (.tmp 27), none⟩])
 (.seq (.seq (.region [⟨some 28, .move (.tmp 1), none⟩,
  ⟨some 29, .bin .lss (.tmp 28) (.const (.int .i64 0)), none⟩,
  ⟨some 30, .move (.tmp 29), none⟩,
  ⟨some 31, .move (.tmp 1), (some (30, false))⟩,
  ⟨some 32, .move (.tmp 8), (some (30, false))⟩,
  ⟨some 33, .bin .gtr (.tmp 31) (.tmp 32), (some (30, false))⟩,
  ⟨some 34, .pick (.tmp 30) (.const (.bool true)) (.tmp 33), none⟩])
 (.cond (.tmp 34) (.seq (.region [⟨some 35, .build [.slice none 0 0, .slice none 0 0, .slice none 0 0, .int .i64 0, .int .i64 0, .int .i64 0, .int .i64 0] [], none⟩,
  ⟨none, .store 7 (.tmp 4) (.tmp 35), none⟩,
  ⟨some 5, .move (.const (.int .i64 210)), none⟩])
 (.ret))
 (.skip)))
 (.seq (.seq (.region [⟨some 36, .move (.tmp 1), none⟩,
  ⟨some 37, .move (.const (.int .i64 0)), none⟩])
 (.block 0 (.loop L11_1)))
 (.seq (.region [⟨some 59, .load true 7 (.tmp 6), none⟩,
  ⟨none, .store 7 (.tmp 4) (.tmp 59), none⟩,
  ⟨some 5, .move (.const (.int .i64 0)), none⟩])
 (.ret)))))))
theorem light11 : Light Try.prog 11 2 60 L11 [.cell 4 true 7, .tmp 5] :=
  ⟨Try.f11, _, Try.func11, rfl, rfl, by kernel_rfl, by kernel_rfl, by decide⟩

/-! ### function 12: outrider/fold.Run -/
def L12 : LCode :=
 .seq (.region [⟨some 1, .box 29 11 (.tmp 0), none⟩,
  ⟨some 2, .new 37 7 [.slice none 0 0, .slice none 0 0, .slice none 0 0, .int .i64 0, .int .i64 0, .int .i64 0, .int .i64 0], none⟩,
  ⟨some 3, .move (.const (.int .i64 0)), none⟩])
 (.seq (.seq (.region [⟨some 7, .load true 11 (.tmp 1), none⟩,
  ⟨some 8, .call 23 [.tmp 7], none⟩,
  ⟨some 4, .move (.tmp 8), none⟩])
 (.seq (.region [⟨some 9, .move (.tmp 4), none⟩,
  ⟨some 10, .bin .neq (.tmp 9) (.const (.int .i64 0)), none⟩])
 (.cond (.tmp 10) (.seq (.region [⟨some 11, .build [.slice none 0 0, .slice none 0 0, .slice none 0 0, .int .i64 0, .int .i64 0, .int .i64 0, .int .i64 0] [], none⟩,
  ⟨some 12, .move (.tmp 4), none⟩,
  ⟨none, .store 7 (.tmp 2) (.tmp 11), none⟩,
  ⟨some 3, .move (.tmp 12), none⟩])
 (.ret))
 (.skip))))
 (.seq (.region [⟨some 14, .off 4 (.tmp 1), none⟩,
  ⟨some 15, .load true 6 (.tmp 14), none⟩,
  ⟨some 16, .call 20 [.tmp 15], none⟩,
  ⟨some 13, .move (.tmp 16), none⟩,
  ⟨some 17, .extract (.tmp 13) 0, none⟩,
  ⟨some 18, .extract (.tmp 13) 1, none⟩,
  ⟨some 5, .move (.tmp 17), none⟩,
  ⟨some 6, .move (.tmp 18), none⟩])
 (.seq (.region [⟨some 19, .load true 11 (.tmp 1), none⟩,
  ⟨some 20, .move (.tmp 5), none⟩,
  ⟨some 21, .call 11 [.tmp 19, .tmp 20], none⟩,
  ⟨some 22, .extract (.tmp 21) 0, none⟩,
  ⟨some 23, .extract (.tmp 21) 1, none⟩,
  ⟨none, .store 7 (.tmp 2) (.tmp 22), none⟩,
  ⟨some 3, .move (.tmp 23), none⟩])
 (.ret))))
theorem light12 : Light Try.prog 12 1 24 L12 [.cell 2 true 7, .tmp 3] :=
  ⟨Try.f12, _, Try.func12, rfl, rfl, by kernel_rfl, by kernel_rfl, by decide⟩

/-! ### function 13: outrider/fold.Same -/
def L13 : LCode :=
 .seq (.region [⟨some 2, .box 37 7 (.tmp 0), none⟩,
  ⟨some 3, .box 37 7 (.tmp 1), none⟩,
  ⟨some 4, .move (.const (.bool false)), none⟩])
 (.seq (.region [⟨some 5, .off 3 (.tmp 2), none⟩,
  ⟨some 6, .load true 3 (.tmp 5), none⟩,
  ⟨some 7, .off 3 (.tmp 3), none⟩,
  ⟨some 8, .load true 3 (.tmp 7), none⟩,
  ⟨some 9, .eqR false 35 (.tmp 6) (.tmp 8), none⟩,
  ⟨some 10, .move (.tmp 9), none⟩,
  ⟨some 11, .off 6 (.tmp 2), (some (10, true))⟩,
  ⟨some 12, .load false 1 (.tmp 11), (some (10, true))⟩,
  ⟨some 13, .off 6 (.tmp 3), (some (10, true))⟩,
  ⟨some 14, .load false 1 (.tmp 13), (some (10, true))⟩,
  ⟨some 15, .bin .eql (.tmp 12) (.tmp 14), (some (10, true))⟩,
  ⟨some 16, .pick (.tmp 10) (.tmp 15) (.const (.bool false)), none⟩,
  ⟨some 17, .move (.tmp 16), none⟩,
  ⟨some 18, .off 0 (.tmp 2), (some (17, true))⟩,
  ⟨some 19, .load false 1 (.tmp 18), (some (17, true))⟩,
  ⟨some 20, .off 0 (.tmp 3), (some (17, true))⟩,
  ⟨some 21, .load false 1 (.tmp 20), (some (17, true))⟩,
  ⟨some 22, .call 24 [.tmp 19, .tmp 21], (some (17, true))⟩,
  ⟨some 23, .pick (.tmp 17) (.tmp 22) (.const (.bool false)), none⟩,
  ⟨some 24, .move (.tmp 23), none⟩,
  ⟨some 25, .off 1 (.tmp 2), (some (24, true))⟩,
  ⟨some 26, .load false 1 (.tmp 25), (some (24, true))⟩,
  ⟨some 27, .off 1 (.tmp 3), (some (24, true))⟩,
  ⟨some 28, .load false 1 (.tmp 27), (some (24, true))⟩,
  ⟨some 29, .call 24 [.tmp 26, .tmp 28], (some (24, true))⟩,
  ⟨some 30, .pick (.tmp 24) (.tmp 29) (.const (.bool false)), none⟩,
  ⟨some 31, .move (.tmp 30), none⟩,
  ⟨some 32, .off 2 (.tmp 2), (some (31, true))⟩,
  ⟨some 33, .load false 1 (.tmp 32), (some (31, true))⟩,
  ⟨some 34, .off 2 (.tmp 3), (some (31, true))⟩,
  ⟨some 35, .load false 1 (.tmp 34), (some (31, true))⟩,
  ⟨some 36, .call 24 [.tmp 33, .tmp 35], (some (31, true))⟩,
  ⟨some 37, .pick (.tmp 31) (.tmp 36) (.const (.bool false)), none⟩,
  ⟨some 4, .move (.tmp 37), none⟩])
 (.ret))
theorem light13 : Light Try.prog 13 2 38 L13 [.tmp 4] :=
  ⟨Try.f13, _, Try.func13, rfl, rfl, by kernel_rfl, by kernel_rfl, by decide⟩

/-! ### function 14: outrider/trace.Text -/
def L14_1 : LCode :=
 .seq (.region [⟨some 27, .bin .lss (.tmp 26) (.tmp 25), none⟩])
 (.seq (.cond (.tmp 27) (.skip)
 (.exit 2))
 (.seq (.block 3 (.seq (.region [⟨some 28, .idx 1 (.tmp 24) (.tmp 26), none⟩,
  ⟨some 29, .load false 1 (.tmp 28), none⟩,
  ⟨some 9, .move (.tmp 29), none⟩])
 (.seq (.region [⟨some 30, .move (.tmp 3), none⟩,
  ⟨some 31, .buildSlice 5 1 1 [.int .u8 0] [(0, 1, .const (.int .u8 32))], none⟩,
  ⟨some 32, .append 5 1 1 (.tmp 30) (.tmp 31), none⟩,
  ⟨some 3, .move (.tmp 32), none⟩])
 (.region [⟨some 33, .move (.tmp 3), none⟩,
  ⟨some 34, .move (.tmp 9), none⟩,
  ⟨some 35, .call 26 [.tmp 34], none⟩,
  ⟨some 36, .append 5 1 1 (.tmp 33) (.tmp 35), none⟩,
  ⟨some 3, .move (.tmp 36), none⟩]))))
 (.region [⟨some 37, .bin .add (.tmp 26) (.const (.int .i64 1)), none⟩,
  ⟨some 26, .move (.tmp 37), none⟩])))
def L14_2 : LCode :=
 .seq (.region [⟨some 13, .bin .lss (.tmp 12) (.tmp 11), none⟩])
 (.seq (.cond (.tmp 13) (.skip)
 (.exit 0))
 (.seq (.block 1 (.seq (.region [⟨some 14, .idx 6 (.tmp 10) (.tmp 12), none⟩,
  ⟨some 15, .load true 6 (.tmp 14), none⟩,
  ⟨some 5, .new 58 6 [.int .i64 0, .int .i64 0, .int .i64 0, .int .i64 0, .int .i64 0, .int .i64 0], none⟩,
  ⟨none, .store 6 (.tmp 5) (.tmp 15), none⟩])
 (.seq (.region [⟨some 17, .load true 6 (.tmp 5), none⟩,
  ⟨some 18, .call 25 [.tmp 17], none⟩,
  ⟨some 16, .move (.tmp 18), none⟩,
  ⟨some 19, .extract (.tmp 16) 0, none⟩,
  ⟨some 20, .extract (.tmp 16) 1, none⟩,
  ⟨some 6, .move (.tmp 19), none⟩,
  ⟨some 7, .move (.tmp 20), none⟩])
 (.seq (.region [⟨some 21, .move (.tmp 3), none⟩,
  ⟨some 22, .move (.tmp 6), none⟩,
  ⟨some 23, .append 5 1 1 (.tmp 21) (.tmp 22), none⟩,
  ⟨some 3, .move (.tmp 23), none⟩])
 (.seq (.seq (.region [⟨some 24, .move (.tmp 7), none⟩,
  ⟨some 25, .len (.tmp 24), none⟩,
  ⟨some 26, .move (.const (.int .i64 0)), none⟩])
 (.block 2 (.loop L14_1)))
 (.region [⟨some 38, .move (.tmp 3), none⟩,
  ⟨some 39, .buildSlice 5 1 1 [.int .u8 0] [(0, 1, .const (.int .u8 10))], none⟩,
  ⟨some 40, .append 5 1 1 (.tmp 38) (.tmp 39), none⟩,
  ⟨some 3, .move (.tmp 40), none⟩]))))))
 (.region [⟨some 41, .bin .add (.tmp 12) (.const (.int .i64 1)), none⟩,
  ⟨some 12, .move (.tmp 41), none⟩])))
def L14 : LCode :=
 .seq (.region [⟨some 2, .move (.const (.string ByteArray.empty)), none⟩])
 (.seq (.region [⟨some 3, .move (.const (.slice none 0 0)), none⟩])
 (.seq (.seq (.region [⟨some 10, .move (.tmp 0), none⟩,
  ⟨some 11, .len (.tmp 10), none⟩,
  ⟨some 12, .move (.const (.int .i64 0)), none⟩])
 (.block 0 (.loop L14_2)))
 (.seq (.region [⟨some 42, .move (.tmp 3), none⟩,
  ⟨some 43, .toStr (.tmp 42), none⟩,
  ⟨some 2, .move (.tmp 43), none⟩])
 (.ret))))
theorem light14 : Light Try.prog 14 1 44 L14 [.tmp 2] :=
  ⟨Try.f14, _, Try.func14, rfl, rfl, by kernel_rfl, by kernel_rfl, by decide⟩

/-! ### function 15: outrider/outriderref27.Text -/
def L15_1 : LCode :=
 .seq (.seq (.region [⟨some 80, .move (.tmp 9), none⟩,
  ⟨some 81, .move (.tmp 8), none⟩,
  ⟨some 82, .len (.tmp 81), none⟩,
  ⟨some 83, .bin .lss (.tmp 80) (.tmp 82), none⟩])
 (.cond (.tmp 83) (.skip)
 (.exit 3)))
 (.seq (.block 4 (.region [⟨some 86, .move (.tmp 4), none⟩,
  ⟨some 87, .move (.tmp 8), none⟩,
  ⟨some 88, .move (.tmp 9), none⟩,
  ⟨some 89, .idx 1 (.tmp 87) (.tmp 88), none⟩,
  ⟨some 90, .load false 1 (.tmp 89), none⟩,
  ⟨some 91, .call 27 [.tmp 90], none⟩,
  ⟨some 92, .bin .add (.const (.string ⟨#[32]⟩)) (.tmp 91), none⟩,
  ⟨some 93, .bin .add (.tmp 86) (.tmp 92), none⟩,
  ⟨some 4, .move (.tmp 93), none⟩]))
 (.region [⟨some 84, .move (.tmp 9), none⟩,
  ⟨some 85, .bin .add (.tmp 84) (.const (.int .i64 1)), none⟩,
  ⟨some 9, .move (.tmp 85), none⟩]))
def L15_2 : LCode :=
 .seq (.seq (.region [⟨some 11, .move (.tmp 5), none⟩,
  ⟨some 12, .move (.tmp 0), none⟩,
  ⟨some 13, .len (.tmp 12), none⟩,
  ⟨some 14, .bin .lss (.tmp 11) (.tmp 13), none⟩])
 (.cond (.tmp 14) (.skip)
 (.exit 0)))
 (.seq (.block 1 (.seq (.region [⟨some 17, .move (.tmp 0), none⟩,
  ⟨some 18, .move (.tmp 5), none⟩,
  ⟨some 19, .idx 6 (.tmp 17) (.tmp 18), none⟩,
  ⟨some 20, .load true 6 (.tmp 19), none⟩,
  ⟨some 6, .new 58 6 [.int .i64 0, .int .i64 0, .int .i64 0, .int .i64 0, .int .i64 0, .int .i64 0], none⟩,
  ⟨none, .store 6 (.tmp 6) (.tmp 20), none⟩])
 (.seq (.region [⟨some 7, .move (.const (.int .i64 0)), none⟩])
 (.seq (.seq (.region [⟨some 21, .off 0 (.tmp 6), none⟩,
  ⟨some 22, .load false 1 (.tmp 21), none⟩,
  ⟨some 23, .bin .geq (.tmp 22) (.const (.int .i64 1)), none⟩,
  ⟨some 24, .move (.tmp 23), none⟩,
  ⟨some 25, .off 0 (.tmp 6), (some (24, true))⟩,
  ⟨some 26, .load false 1 (.tmp 25), (some (24, true))⟩,
  ⟨some 27, .bin .leq (.tmp 26) (.const (.int .i64 8)), (some (24, true))⟩,
  ⟨some 28, .pick (.tmp 24) (.tmp 27) (.const (.bool false)), none⟩])
 (.cond (.tmp 28) (.region [⟨some 29, .off 0 (.tmp 6), none⟩,
  ⟨some 30, .load false 1 (.tmp 29), none⟩,
  ⟨some 7, .move (.tmp 30), none⟩])
 (.skip)))
 (.seq (.region [⟨some 31, .move (.tmp 4), none⟩,
  ⟨some 32, .move (.tmp 3), none⟩,
  ⟨some 33, .move (.tmp 7), none⟩,
  ⟨some 34, .idx 1 (.tmp 32) (.tmp 33), none⟩,
  ⟨some 35, .load false 1 (.tmp 34), none⟩,
  ⟨some 36, .bin .add (.tmp 31) (.tmp 35), none⟩,
  ⟨some 4, .move (.tmp 36), none⟩])
 (.seq (.region [⟨some 8, .move (.const (.slice none 0 0)), none⟩])
 (.seq (.seq (.region [⟨some 37, .move (.tmp 7), none⟩])
 (.block 2 (.seq (.region [⟨some 39, .bin .eql (.tmp 37) (.const (.int .i64 1)), none⟩,
  ⟨some 38, .move (.tmp 39), none⟩])
 (.cond (.tmp 38) (.region [⟨some 40, .off 1 (.tmp 6), none⟩,
  ⟨some 41, .load false 1 (.tmp 40), none⟩,
  ⟨some 42, .off 2 (.tmp 6), none⟩,
  ⟨some 43, .load false 1 (.tmp 42), none⟩,
  ⟨some 44, .buildSlice 2 1 2 [.int .i64 0] [(0, 1, .tmp 41), (1, 1, .tmp 43)], none⟩,
  ⟨some 8, .move (.tmp 44), none⟩])
 (.seq (.region [⟨some 46, .bin .eql (.tmp 37) (.const (.int .i64 2)), none⟩,
  ⟨some 45, .move (.tmp 46), none⟩])
 (.cond (.tmp 45) (.region [⟨some 47, .off 2 (.tmp 6), none⟩,
  ⟨some 48, .load false 1 (.tmp 47), none⟩,
  ⟨some 49, .off 3 (.tmp 6), none⟩,
  ⟨some 50, .load false 1 (.tmp 49), none⟩,
  ⟨some 51, .off 4 (.tmp 6), none⟩,
  ⟨some 52, .load false 1 (.tmp 51), none⟩,
  ⟨some 53, .off 5 (.tmp 6), none⟩,
  ⟨some 54, .load false 1 (.tmp 53), none⟩,
  ⟨some 55, .buildSlice 2 1 4 [.int .i64 0] [(0, 1, .tmp 48), (1, 1, .tmp 50), (2, 1, .tmp 52), (3, 1, .tmp 54)], none⟩,
  ⟨some 8, .move (.tmp 55), none⟩])
 (.seq (.seq (.region [⟨some 57, .bin .eql (.tmp 37) (.const (.int .i64 3)), none⟩,
  ⟨some 56, .move (.tmp 57), none⟩])
 (.cond (.tmp 56) (.skip)
 (.seq (.region [⟨some 58, .bin .eql (.tmp 37) (.const (.int .i64 5)), none⟩,
  ⟨some 56, .move (.tmp 58), none⟩])
 (.cond (.tmp 56) (.skip)
 (.region [⟨some 59, .bin .eql (.tmp 37) (.const (.int .i64 8)), none⟩,
  ⟨some 56, .move (.tmp 59), none⟩])))))
 (.cond (.tmp 56) (.region [⟨some 60, .off 2 (.tmp 6), none⟩,
  ⟨some 61, .load false 1 (.tmp 60), none⟩,
  ⟨some 62, .off 3 (.tmp 6), none⟩,
  ⟨some 63, .load false 1 (.tmp 62), none⟩,
  ⟨some 64, .off 4 (.tmp 6), none⟩,
  ⟨some 65, .load false 1 (.tmp 64), none⟩,
  ⟨some 66, .buildSlice 2 1 3 [.int .i64 0] [(0, 1, .tmp 61), (1, 1, .tmp 63), (2, 1, .tmp 65)], none⟩,
  ⟨some 8, .move (.tmp 66), none⟩])
 (.seq (.region [⟨some 68, .bin .eql (.tmp 37) (.const (.int .i64 4)), none⟩,
  ⟨some 67, .move (.tmp 68), none⟩])
 (.cond (.tmp 67) (.region [⟨some 69, .off 2 (.tmp 6), none⟩,
  ⟨some 70, .load false 1 (.tmp 69), none⟩,
  ⟨some 71, .off 4 (.tmp 6), none⟩,
  ⟨some 72, .load false 1 (.tmp 71), none⟩,
  ⟨some 73, .buildSlice 2 1 2 [.int .i64 0] [(0, 1, .tmp 70), (1, 1, .tmp 72)], none⟩,
  ⟨some 8, .move (.tmp 73), none⟩])
 (.seq (.seq (.region [⟨some 75, .bin .eql (.tmp 37) (.const (.int .i64 6)), none⟩,
  ⟨some 74, .move (.tmp 75), none⟩])
 (.cond (.tmp 74) (.skip)
 (.region [⟨some 76, .bin .eql (.tmp 37) (.const (.int .i64 7)), none⟩,
  ⟨some 74, .move (.tmp 76), none⟩])))
 (.cond (.tmp 74) (.region [⟨some 77, .off 2 (.tmp 6), none⟩,
  ⟨some 78, .load false 1 (.tmp 77), none⟩,
  ⟨some 79, .buildSlice 2 1 1 [.int .i64 0] [(0, 1, .tmp 78)], none⟩,
  ⟨some 8, .move (.tmp 79), none⟩])
 (.skip)))))))))))))
 (.seq (.seq (.region [⟨some 9, .move (.const (.int .i64 0)), none⟩])
 (.block 3 (.loop L15_1)))
 (.region [⟨some 94, .move (.tmp 4), none⟩,
  ⟨some 95, .bin .add (.tmp 94) (.const (.string ⟨#[10]⟩)), none⟩,
  ⟨some 4, .move (.tmp 95), none⟩])))))))))
 (.region [⟨some 15, .move (.tmp 5), none⟩,
  ⟨some 16, .bin .add (.tmp 15) (.const (.int .i64 1)), none⟩,
  ⟨some 5, .move (.tmp 16), none⟩]))
def L15 : LCode :=
 .seq (.region [⟨some 2, .move (.const (.string ByteArray.empty)), none⟩])
 (.seq (.region [⟨some 10, .buildSlice 9 1 9 [.string ByteArray.empty] [(0, 1, .const (.string ⟨#[110, 111, 110, 101]⟩)), (1, 1, .const (.string ⟨#[98, 101, 103, 105, 110]⟩)), (2, 1, .const (.string ⟨#[114, 101, 97, 100]⟩)), (3, 1, .const (.string ⟨#[119, 114, 105, 116, 101]⟩)), (4, 1, .const (.string ⟨#[101, 109, 105, 116]⟩)), (5, 1, .const (.string ⟨#[105, 110, 116, 111]⟩)), (6, 1, .const (.string ⟨#[97, 98, 111, 114, 116]⟩)), (7, 1, .const (.string ⟨#[99, 111, 109, 109, 105, 116]⟩)), (8, 1, .const (.string ⟨#[102, 97, 117, 108, 116]⟩))], none⟩,
  ⟨some 3, .move (.tmp 10), none⟩])
 (.seq (.region [⟨some 4, .move (.const (.string ByteArray.empty)), none⟩])
 (.seq (.seq (.region [⟨some 5, .move (.const (.int .i64 0)), none⟩])
 (.block 0 (.loop L15_2)))
 (.seq (.region [⟨some 96, .move (.tmp 4), none⟩,
  ⟨some 2, .move (.tmp 96), none⟩])
 (.ret)))))
theorem light15 : Light Try.prog 15 1 97 L15 [.tmp 2] :=
  ⟨Try.f15, _, Try.func15, rfl, rfl, by kernel_rfl, by kernel_rfl, by decide⟩

/-! ### function 16: outrider/trace.look -/
def L16_1 : LCode :=
 .seq (.region [⟨some 43, .bin .lss (.tmp 42) (.tmp 41), none⟩])
 (.seq (.cond (.tmp 43) (.skip)
 (.exit 0))
 (.seq (.block 1 (.seq (.region [⟨some 44, .move (.tmp 42), none⟩,
  ⟨some 45, .idx 6 (.tmp 40) (.tmp 42), none⟩,
  ⟨some 46, .load true 6 (.tmp 45), none⟩,
  ⟨some 12, .new 58 6 [.int .i64 0, .int .i64 0, .int .i64 0, .int .i64 0, .int .i64 0, .int .i64 0], none⟩,
  ⟨some 11, .move (.tmp 44), none⟩,
  ⟨none, .store 6 (.tmp 12) (.tmp 46), none⟩])
 (.seq (.region [⟨some 47, .move (.tmp 10), none⟩,
  ⟨some 48, .load true 6 (.tmp 12), none⟩,
  ⟨some 49, .call 28 [.tmp 47, .tmp 48], none⟩,
  ⟨some 50, .un .not (.tmp 49), none⟩])
 (.cond (.tmp 50) (.seq (.region [⟨some 51, .build [.slice none 0 0, .slice none 0 0, .slice none 0 0, .int .i64 0, .int .i64 0, .int .i64 0, .int .i64 0] [], none⟩,
  ⟨some 52, .move (.tmp 11), none⟩,
  ⟨none, .store 7 (.tmp 6) (.tmp 51), none⟩,
  ⟨some 7, .move (.tmp 52), none⟩,
  ⟨some 8, .move (.const (.int .i64 270)), none⟩])
 (.ret))
 (.skip)))))
 (.region [⟨some 53, .bin .add (.tmp 42) (.const (.int .i64 1)), none⟩,
  ⟨some 42, .move (.tmp 53), none⟩])))
def L16 : LCode :=
 .seq (.region [⟨some 3, .box 29 11 (.tmp 0), none⟩,
  ⟨some 6, .new 37 7 [.slice none 0 0, .slice none 0 0, .slice none 0 0, .int .i64 0, .int .i64 0, .int .i64 0, .int .i64 0], none⟩,
  ⟨some 7, .move (.const (.int .i64 0)), none⟩,
  ⟨some 8, .move (.const (.int .i64 0)), none⟩])
 (.seq (.seq (.region [⟨some 13, .load true 11 (.tmp 3), none⟩,
  ⟨some 14, .call 23 [.tmp 13], none⟩,
  ⟨some 9, .move (.tmp 14), none⟩])
 (.seq (.region [⟨some 15, .move (.tmp 9), none⟩,
  ⟨some 16, .bin .neq (.tmp 15) (.const (.int .i64 0)), none⟩])
 (.cond (.tmp 16) (.seq (.region [⟨some 17, .build [.slice none 0 0, .slice none 0 0, .slice none 0 0, .int .i64 0, .int .i64 0, .int .i64 0, .int .i64 0] [], none⟩,
  ⟨some 18, .move (.tmp 9), none⟩,
  ⟨none, .store 7 (.tmp 6) (.tmp 17), none⟩,
  ⟨some 7, .move (.const (.int .i64 0)), none⟩,
  ⟨some 8, .move (.tmp 18), none⟩])
 (.ret))
 (.skip))))
 (.seq (.region [⟨some 19, .load true 11 (.tmp 3), none⟩,
  ⟨some 20, .move (.tmp 2), none⟩,
  ⟨some 21, .build [.int .i64 0, .slice none 0 0, .slice none 0 0, .int .i64 0, .int .i64 0, .int .i64 0, .int .i64 0, .int .i64 0, .int .i64 0, .int .i64 0, .slice none 0 0, .int .i64 0, .pointer none, .pointer none, .pointer none, .pointer none, .pointer none, .pointer none, .pointer none, .pointer none, .pointer none, .pointer none, .pointer none, .pointer none, .pointer none, .pointer none, .pointer none, .pointer none, .pointer none, .pointer none, .pointer none, .pointer none, .pointer none, .pointer none, .pointer none, .pointer none, .pointer none, .pointer none, .pointer none, .pointer none, .pointer none, .pointer none, .pointer none, .pointer none, .pointer none, .pointer none, .pointer none, .pointer none, .pointer none, .pointer none, .pointer none, .pointer none, .pointer none, .pointer none, .pointer none, .pointer none, .pointer none, .pointer none, .pointer none, .pointer none, .pointer none, .pointer none, .pointer none, .pointer none, .pointer none, .pointer none, .pointer none, .pointer none, .pointer none, .pointer none, .pointer none, .pointer none, .pointer none, .pointer none, .pointer none, .pointer none, .pointer none, .pointer none, .pointer none, .pointer none, .pointer none, .pointer none, .pointer none, .pointer none, .pointer none, .pointer none, .pointer none, .pointer none, .pointer none, .pointer none, .pointer none, .pointer none, .pointer none, .pointer none, .pointer none, .pointer none, .pointer none, .pointer none, .pointer none, .pointer none, .pointer none, .pointer none, .pointer none, .pointer none, .pointer none, .pointer none, .pointer none, .pointer none, .pointer none, .pointer none, .pointer none, .pointer none, .pointer none, .pointer none, .pointer none, .pointer none, .pointer none, .pointer none, .pointer none, .pointer none, .pointer none, .pointer none, .pointer none, .pointer none, .pointer none, .pointer none, .pointer none, .pointer none, .pointer none, .pointer none, .pointer none, .pointer none, .pointer none, .pointer none, .pointer none, .pointer none, .pointer none, .pointer none, .pointer none, .pointer none, .pointer none, .pointer none, .pointer none, .pointer none, .pointer none, .pointer none, .pointer none, .pointer none, .pointer none, .pointer none, .pointer none, .pointer none, .pointer none, .pointer none, .pointer none, .pointer none, .pointer none, .pointer none, .pointer none, .pointer none, .pointer none, .pointer none, .pointer none, .pointer none, .pointer none, .pointer none, .pointer none, .pointer none, .pointer none, .pointer none, .pointer none, .pointer none, .pointer none, .pointer none, .pointer none, .pointer none, .pointer none, .pointer none, .pointer none, .pointer none, .pointer none, .pointer none, .pointer none, .pointer none, .pointer none, .pointer none, .pointer none, .pointer none, .pointer none, .pointer none, .pointer none, .pointer none, .pointer none, .pointer none, .pointer none, .pointer none, .pointer none, .pointer none, .pointer none, .pointer none, .pointer none, .pointer none, .pointer none, .pointer none, .pointer none, .pointer none, .pointer none, .pointer none, .pointer none, .pointer none, .pointer none, .pointer none, .slice none 0 0, .slice none 0 0, .slice none 0 0, .int .i64 0, .int .i64 0, .int .i64 0, .int .i64 0, .bool false] [(0, 11, .tmp 19), (219, 1, .tmp 20)], none⟩,
  ⟨some 22, .box 81 220 (.tmp 21), none⟩,
  ⟨some 10, .move (.tmp 22), none⟩])
 (.seq (.region [⟨some 24, .move (.tmp 10), none⟩,
  ⟨some 25, .off 4 (.tmp 3), none⟩,
  ⟨some 26, .load true 6 (.tmp 25), none⟩,
  ⟨some 27, .call 20 [.tmp 26], none⟩,
  ⟨some 23, .move (.tmp 27), none⟩,
  ⟨some 28, .extract (.tmp 23) 0, none⟩,
  ⟨some 29, .extract (.tmp 23) 1, none⟩,
  ⟨some 30, .nilCheck (.tmp 24), none⟩,
  ⟨some 31, .off 11 (.tmp 30), none⟩,
  ⟨none, .store 1 (.tmp 31) (.tmp 28), none⟩])
 (.seq (.region [⟨some 33, .move (.tmp 10), none⟩,
  ⟨some 34, .load true 11 (.tmp 3), none⟩,
  ⟨some 35, .call 19 [.tmp 34], none⟩,
  ⟨some 32, .move (.tmp 35), none⟩,
  ⟨some 36, .extract (.tmp 32) 0, none⟩,
  ⟨some 37, .extract (.tmp 32) 1, none⟩,
  ⟨some 38, .nilCheck (.tmp 33), none⟩,
  ⟨some 39, .off 212 (.tmp 38), none⟩,
  ⟨none, .store 7 (.tmp 39) (.tmp 36), none⟩])
 (.seq (.seq (.region [⟨some 40, .move (.tmp 1), none⟩,
  ⟨some 41, .len (.tmp 40), none⟩,
  ⟨some 42, .move (.const (.int .i64 0)), none⟩])
 (.block 0 (.loop L16_1)))
 (.seq (.region [⟨some 54, .move (.tmp 10), none⟩,
  ⟨some 55, .nilCheck (.tmp 54), none⟩,
  ⟨some 56, .off 212 (.tmp 55), none⟩,
  ⟨some 57, .load true 7 (.tmp 56), none⟩,
  ⟨none, .store 7 (.tmp 6) (.tmp 57), none⟩,
  ⟨some 7, .move (.const (.int .i64 0)), none⟩,
  ⟨some 8, .move (.const (.int .i64 0)), none⟩])
 (.ret)))))))
theorem light16 : Light Try.prog 16 3 58 L16 [.cell 6 true 7, .tmp 7, .tmp 8] :=
  ⟨Try.f16, _, Try.func16, rfl, rfl, by kernel_rfl, by kernel_rfl, by decide⟩

/-! ### function 17: outrider/trace.Tally -/
def L17_1 : LCode :=
 .seq (.region [⟨some 9, .bin .lss (.tmp 8) (.tmp 7), none⟩])
 (.seq (.cond (.tmp 9) (.skip)
 (.exit 0))
 (.seq (.block 1 (.seq (.region [⟨some 10, .idx 6 (.tmp 6) (.tmp 8), none⟩,
  ⟨some 11, .load true 6 (.tmp 10), none⟩,
  ⟨some 5, .new 58 6 [.int .i64 0, .int .i64 0, .int .i64 0, .int .i64 0, .int .i64 0, .int .i64 0], none⟩,
  ⟨none, .store 6 (.tmp 5) (.tmp 11), none⟩])
 (.seq (.region [⟨some 12, .off 0 (.tmp 5), none⟩,
  ⟨some 13, .load false 1 (.tmp 12), none⟩])
 (.block 2 (.seq (.region [⟨some 15, .bin .eql (.tmp 13) (.const (.int .i64 6)), none⟩,
  ⟨some 14, .move (.tmp 15), none⟩])
 (.cond (.tmp 14) (.region [⟨some 16, .off 2 (.tmp 3), none⟩,
  ⟨some 17, .load false 1 (.tmp 16), none⟩,
  ⟨some 18, .bin .add (.tmp 17) (.const (.int .i64 1)), none⟩,
  ⟨some 19, .off 2 (.tmp 3), none⟩,
  ⟨none, .store 1 (.tmp 19) (.tmp 18), none⟩])
 (.seq (.region [⟨some 21, .bin .eql (.tmp 13) (.const (.int .i64 7)), none⟩,
  ⟨some 20, .move (.tmp 21), none⟩])
 (.cond (.tmp 20) (.region [⟨some 22, .off 1 (.tmp 3), none⟩,
  ⟨some 23, .load false 1 (.tmp 22), none⟩,
  ⟨some 24, .bin .add (.tmp 23) (.const (.int .i64 1)), none⟩,
  ⟨some 25, .off 1 (.tmp 3), none⟩,
  ⟨none, .store 1 (.tmp 25) (.tmp 24), none⟩])
 (.seq (.region [⟨some 27, .bin .eql (.tmp 13) (.const (.int .i64 2)), none⟩,
  ⟨some 26, .move (.tmp 27), none⟩])
 (.cond (.tmp 26) (.seq (.region [⟨some 28, .off 5 (.tmp 5), none⟩,
  ⟨some 29, .load false 1 (.tmp 28), none⟩,
  ⟨some 30, .bin .geq (.tmp 29) (.const (.int .i64 0)), none⟩])
 (.cond (.tmp 30) (.region [⟨some 31, .off 6 (.tmp 3), none⟩,
  ⟨some 32, .load false 1 (.tmp 31), none⟩,
  ⟨some 33, .bin .add (.tmp 32) (.const (.int .i64 1)), none⟩,
  ⟨some 34, .off 6 (.tmp 3), none⟩,
  ⟨none, .store 1 (.tmp 34) (.tmp 33), none⟩])
 (.skip)))
 (.skip)))))))))))
 (.region [⟨some 35, .bin .add (.tmp 8) (.const (.int .i64 1)), none⟩,
  ⟨some 8, .move (.tmp 35), none⟩])))
def L17 : LCode :=
 .seq (.region [⟨some 2, .new 60 7 [.int .i64 0, .int .i64 0, .int .i64 0, .int .i64 0, .int .i64 0, .int .i64 0, .int .i64 0], none⟩])
 (.seq (.region [⟨some 3, .new 60 7 [.int .i64 0, .int .i64 0, .int .i64 0, .int .i64 0, .int .i64 0, .int .i64 0, .int .i64 0], none⟩])
 (.seq (.seq (.region [⟨some 6, .move (.tmp 0), none⟩,
  ⟨some 7, .len (.tmp 6), none⟩,
  ⟨some 8, .move (.const (.int .i64 0)), none⟩])
 (.block 0 (.loop L17_1)))
 (.seq (.region [⟨some 36, .load true 7 (.tmp 3), none⟩,
  ⟨none, .store 7 (.tmp 2) (.tmp 36), none⟩])
 (.ret))))
theorem light17 : Light Try.prog 17 1 37 L17 [.cell 2 true 7] :=
  ⟨Try.f17, _, Try.func17, rfl, rfl, by kernel_rfl, by kernel_rfl, by decide⟩

/-! ### function 18: outrider/outriderref07.Row -/
def L18_1 : LCode :=
 .seq (.seq (.region [⟨some 11, .move (.tmp 5), none⟩,
  ⟨some 12, .move (.tmp 0), none⟩,
  ⟨some 13, .len (.tmp 12), none⟩,
  ⟨some 14, .bin .lss (.tmp 11) (.tmp 13), none⟩])
 (.cond (.tmp 14) (.skip)
 (.exit 0)))
 (.seq (.block 1 (.seq (.draw [⟨⟨some 17, .move (.tmp 0), none⟩, .pure, 0, 0⟩,
  ⟨⟨some 18, .move (.tmp 5), none⟩, .pure, 0, 0⟩,
  ⟨⟨some 19, .idx 1 (.tmp 17) (.tmp 18), none⟩, .pure, 0, 0⟩,
  ⟨⟨some 20, .load false 1 (.tmp 19), none⟩, .read, 0, 0⟩,
  ⟨⟨some 21, .move (.tmp 1), none⟩, .pure, 0, 0⟩,
  ⟨⟨some 22, .move (.tmp 5), none⟩, .pure, 0, 0⟩,
  ⟨⟨some 23, .idx 1 (.tmp 21) (.tmp 22), none⟩, .pure, 0, 0⟩,
  ⟨⟨some 24, .load false 1 (.tmp 23), none⟩, .read, 0, 0⟩,
  ⟨⟨some 25, .bin .neq (.tmp 20) (.tmp 24), none⟩, .pure, 0, 0⟩])
 (.cond (.tmp 25) (.seq (.region [⟨some 4, .move (.const (.bool false)), none⟩])
 (.ret))
 (.skip))))
 (.region [⟨some 15, .move (.tmp 5), none⟩,
  ⟨some 16, .bin .add (.tmp 15) (.const (.int .i64 1)), none⟩,
  ⟨some 5, .move (.tmp 16), none⟩]))
def L18 : LCode :=
 .seq (.region [⟨some 4, .move (.const (.bool false)), none⟩])
 (.seq (.seq (.region [⟨some 6, .move (.tmp 0), none⟩,
  ⟨some 7, .len (.tmp 6), none⟩,
  ⟨some 8, .move (.tmp 1), none⟩,
  ⟨some 9, .len (.tmp 8), none⟩,
  ⟨some 10, .bin .neq (.tmp 7) (.tmp 9), none⟩])
 (.cond (.tmp 10) (.seq (.region [⟨some 4, .move (.const (.bool false)), none⟩])
 (.ret))
 (.skip)))
 (.seq (.seq (.region [⟨some 5, .move (.const (.int .i64 0)), none⟩])
 (.block 0 (.loop L18_1)))
 (.seq (.region [⟨some 4, .move (.const (.bool true)), none⟩])
 (.ret))))
theorem light18 : Light Try.prog 18 2 26 L18 [.tmp 4] :=
  ⟨Try.f18, _, Try.func18, rfl, rfl, by kernel_rfl, by kernel_rfl, by decide⟩

/-! ### function 19: outrider/fold.Begin -/
def L19_1 : LCode :=
 .seq (.region [⟨some 30, .bin .lss (.tmp 29) (.tmp 28), none⟩])
 (.seq (.cond (.tmp 30) (.skip)
 (.exit 0))
 (.seq (.block 1 (.seq (.region [⟨some 31, .idx 2 (.tmp 27) (.tmp 29), none⟩,
  ⟨some 32, .load true 2 (.tmp 31), none⟩,
  ⟨some 9, .new 87 2 [.int .i64 0, .int .i64 0], none⟩,
  ⟨none, .store 2 (.tmp 9) (.tmp 32), none⟩])
 (.region [⟨some 33, .off 2 (.tmp 7), none⟩,
  ⟨some 34, .load false 1 (.tmp 33), none⟩,
  ⟨some 35, .off 1 (.tmp 9), none⟩,
  ⟨some 36, .load false 1 (.tmp 35), none⟩,
  ⟨some 37, .buildSlice 2 1 1 [.int .i64 0] [(0, 1, .tmp 36)], none⟩,
  ⟨some 38, .append 2 1 8 (.tmp 34) (.tmp 37), none⟩,
  ⟨some 39, .off 2 (.tmp 7), none⟩,
  ⟨none, .store 1 (.tmp 39) (.tmp 38), none⟩])))
 (.region [⟨some 40, .bin .add (.tmp 29) (.const (.int .i64 1)), none⟩,
  ⟨some 29, .move (.tmp 40), none⟩])))
def L19 : LCode :=
 .seq (.region [⟨some 1, .box 29 11 (.tmp 0), none⟩,
  ⟨some 2, .new 37 7 [.slice none 0 0, .slice none 0 0, .slice none 0 0, .int .i64 0, .int .i64 0, .int .i64 0, .int .i64 0], none⟩,
  ⟨some 3, .move (.const (.int .i64 0)), none⟩])
 (.seq (.seq (.region [⟨some 10, .load true 11 (.tmp 1), none⟩,
  ⟨some 11, .call 23 [.tmp 10], none⟩,
  ⟨some 4, .move (.tmp 11), none⟩])
 (.seq (.region [⟨some 12, .move (.tmp 4), none⟩,
  ⟨some 13, .bin .neq (.tmp 12) (.const (.int .i64 0)), none⟩])
 (.cond (.tmp 13) (.seq (.region [⟨some 14, .build [.slice none 0 0, .slice none 0 0, .slice none 0 0, .int .i64 0, .int .i64 0, .int .i64 0, .int .i64 0] [], none⟩,
  ⟨some 15, .move (.tmp 4), none⟩,
  ⟨none, .store 7 (.tmp 2) (.tmp 14), none⟩,
  ⟨some 3, .move (.tmp 15), none⟩])
 (.ret))
 (.skip))))
 (.seq (.region [⟨some 17, .off 0 (.tmp 1), none⟩,
  ⟨some 18, .load false 1 (.tmp 17), none⟩,
  ⟨some 19, .off 1 (.tmp 1), none⟩,
  ⟨some 20, .load false 1 (.tmp 19), none⟩,
  ⟨some 21, .call 29 [.tmp 18, .tmp 20], none⟩,
  ⟨some 16, .move (.tmp 21), none⟩,
  ⟨some 22, .extract (.tmp 16) 0, none⟩,
  ⟨some 23, .extract (.tmp 16) 1, none⟩,
  ⟨some 5, .move (.tmp 22), none⟩,
  ⟨some 6, .move (.tmp 23), none⟩])
 (.seq (.region [⟨some 24, .move (.tmp 5), none⟩,
  ⟨some 25, .build [.slice none 0 0, .slice none 0 0, .slice none 0 0, .int .i64 0, .int .i64 0, .int .i64 0, .int .i64 0] [(0, 1, .tmp 24)], none⟩,
  ⟨some 7, .new 37 7 [.slice none 0 0, .slice none 0 0, .slice none 0 0, .int .i64 0, .int .i64 0, .int .i64 0, .int .i64 0], none⟩,
  ⟨none, .store 7 (.tmp 7) (.tmp 25), none⟩])
 (.seq (.seq (.region [⟨some 26, .off 2 (.tmp 1), none⟩,
  ⟨some 27, .load false 1 (.tmp 26), none⟩,
  ⟨some 28, .len (.tmp 27), none⟩,
  ⟨some 29, .move (.const (.int .i64 0)), none⟩])
 (.block 0 (.loop L19_1)))
 (.seq (.region [⟨some 41, .load true 7 (.tmp 7), none⟩,
  ⟨none, .store 7 (.tmp 2) (.tmp 41), none⟩,
  ⟨some 3, .move (.const (.int .i64 0)), none⟩])
 (.ret))))))
theorem light19 : Light Try.prog 19 1 42 L19 [.cell 2 true 7, .tmp 3] :=
  ⟨Try.f19, _, Try.func19, rfl, rfl, by kernel_rfl, by kernel_rfl, by decide⟩

/-! ### function 20: outrider/plan.Count -/
def L20 : LCode :=
 .seq (.region [⟨some 1, .box 26 6 (.tmp 0), none⟩,
  ⟨some 2, .move (.const (.int .i64 0)), none⟩,
  ⟨some 3, .move (.const (.int .i64 0)), none⟩])
 (.seq (.seq (.region [⟨some 4, .off 0 (.tmp 1), none⟩,
  ⟨some 5, .load false 1 (.tmp 4), none⟩])
 (.block 0 (.seq (.region [⟨some 7, .bin .eql (.tmp 5) (.const (.int .i64 1)), none⟩,
  ⟨some 6, .move (.tmp 7), none⟩])
 (.cond (.tmp 6) (.seq (.seq (.region [⟨some 8, .off 4 (.tmp 1), none⟩,
  ⟨some 9, .load false 1 (.tmp 8), none⟩,
  ⟨some 10, .bin .neq (.tmp 9) (.const (.int .i64 0)), none⟩,
  ⟨some 11, .move (.tmp 10), none⟩,
  ⟨some 12, .off 5 (.tmp 1), (some (11, false))⟩,
  ⟨some 13, .load false 1 (.tmp 12), (some (11, false))⟩,
  ⟨some 14, .bin .neq (.tmp 13) (.const (.int .i64 0)), (some (11, false))⟩,
  ⟨some 15, .pick (.tmp 11) (.const (.bool true)) (.tmp 14), none⟩])
 (.cond (.tmp 15) (.seq (.region [⟨some 2, .move (.const (.int .i64 0)), none⟩,
  ⟨some 3, .move (.const (.int .i64 152)), none⟩])
 (.ret))
 (.skip)))
 (.seq (.region [⟨some 16, .load true 6 (.tmp 1), none⟩,
  ⟨some 17, .call 30 [.tmp 16], none⟩,
  ⟨some 18, .extract (.tmp 17) 0, none⟩,
  ⟨some 19, .extract (.tmp 17) 1, none⟩,
  ⟨some 2, .move (.tmp 18), none⟩,
  ⟨some 3, .move (.tmp 19), none⟩])
 (.ret)))
 (.seq (.region [⟨some 21, .bin .eql (.tmp 5) (.const (.int .i64 2)), none⟩,
  ⟨some 20, .move (.tmp 21), none⟩])
 (.cond (.tmp 20) (.seq (.seq (.region [⟨some 22, .off 1 (.tmp 1), none⟩,
  ⟨some 23, .load false 1 (.tmp 22), none⟩,
  ⟨some 24, .bin .neq (.tmp 23) (.const (.int .i64 0)), none⟩,
  ⟨some 25, .move (.tmp 24), none⟩,
  ⟨some 26, .off 2 (.tmp 1), (some (25, false))⟩,
  ⟨some 27, .load false 1 (.tmp 26), (some (25, false))⟩,
  ⟨some 28, .bin .neq (.tmp 27) (.const (.int .i64 0)), (some (25, false))⟩,
  ⟨some 29, .pick (.tmp 25) (.const (.bool true)) (.tmp 28), none⟩,
  ⟨some 30, .move (.tmp 29), none⟩,
  ⟨some 31, .off 3 (.tmp 1), (some (30, false))⟩,
  ⟨some 32, .load false 1 (.tmp 31), (some (30, false))⟩,
  ⟨some 33, .bin .neq (.tmp 32) (.const (.int .i64 0)), (some (30, false))⟩,
  ⟨some 34, .pick (.tmp 30) (.const (.bool true)) (.tmp 33), none⟩])
 (.cond (.tmp 34) (.seq (.region [⟨some 2, .move (.const (.int .i64 0)), none⟩,
  ⟨some 3, .move (.const (.int .i64 152)), none⟩])
 (.ret))
 (.skip)))
 (.seq (.seq (.region [⟨some 35, .off 4 (.tmp 1), none⟩,
  ⟨some 36, .load false 1 (.tmp 35), none⟩,
  ⟨some 37, .bin .lss (.tmp 36) (.const (.int .i64 0)), none⟩,
  ⟨some 38, .move (.tmp 37), none⟩,
  ⟨some 39, .off 5 (.tmp 1), (some (38, false))⟩,
  ⟨some 40, .load false 1 (.tmp 39), (some (38, false))⟩,
  ⟨some 41, .bin .lss (.tmp 40) (.const (.int .i64 1)), (some (38, false))⟩,
  ⟨some 42, .pick (.tmp 38) (.const (.bool true)) (.tmp 41), none⟩,
  ⟨some 43, .move (.tmp 42), none⟩,
  ⟨some 44, .off 5 (.tmp 1), (some (43, false))⟩,
  ⟨some 45, .load false 1 (.tmp 44), (some (43, false))⟩,
  ⟨some 46, .bin .gtr (.tmp 45) (.const (.int .i64 6)), (some (43, false))⟩,
  ⟨some 47, .pick (.tmp 43) (.const (.bool true)) (.tmp 46), none⟩])
 (.cond (.tmp 47) (.seq (.region [⟨some 2, .move (.const (.int .i64 0)), none⟩,
  ⟨some 3, .move (.const (.int .i64 152)), none⟩])
 (.ret))
 (.skip)))
 (.seq (.seq (.draw [⟨⟨some 48, .off 4 (.tmp 1), none⟩, .pure, 0, 0⟩,
  ⟨⟨some 49, .load false 1 (.tmp 48), none⟩, .read, 0, 0⟩,
  ⟨⟨some 50, .off 5 (.tmp 1), none⟩, .pure, 0, 0⟩,
  ⟨⟨some 51, .load false 1 (.tmp 50), none⟩, .read, 0, 0⟩,
  ⟨⟨some 52, .bin .quo (.const (.int .i64 200)) (.tmp 51), none⟩, .pure, 0, 0⟩,
  ⟨⟨some 53, .bin .gtr (.tmp 49) (.tmp 52), none⟩, .pure, 0, 0⟩])
 (.cond (.tmp 53) (.seq (.region [⟨some 2, .move (.const (.int .i64 0)), none⟩,
  ⟨some 3, .move (.const (.int .i64 151)), none⟩])
 (.ret))
 (.skip)))
 (.seq (.region [⟨some 54, .off 4 (.tmp 1), none⟩,
  ⟨some 55, .load false 1 (.tmp 54), none⟩,
  ⟨some 56, .off 5 (.tmp 1), none⟩,
  ⟨some 57, .load false 1 (.tmp 56), none⟩,
  ⟨some 58, .bin .mul (.tmp 55) (.tmp 57), none⟩,
  ⟨some 2, .move (.tmp 58), none⟩,
  ⟨some 3, .move (.const (.int .i64 0)), none⟩])
 (.ret)))))
 (.skip)))))))
 (.seq (.region [⟨some 2, .move (.const (.int .i64 0)), none⟩,
  ⟨some 3, .move (.const (.int .i64 152)), none⟩])
 (.ret)))
theorem light20 : Light Try.prog 20 1 59 L20 [.tmp 2, .tmp 3] :=
  ⟨Try.f20, _, Try.func20, rfl, rfl, by kernel_rfl, by kernel_rfl, by decide⟩

/-! ### function 21: outrider/fold.Task -/
def L21 : LCode :=
 .seq (.region [⟨some 3, .box 29 11 (.tmp 0), none⟩,
  ⟨some 6, .new 67 6 [.slice none 0 0, .slice none 0 0, .slice none 0 0, .int .i64 0, .int .i64 0, .int .i64 0], none⟩,
  ⟨some 7, .move (.const (.int .i64 0)), none⟩])
 (.seq (.seq (.region [⟨some 12, .load true 11 (.tmp 3), none⟩,
  ⟨some 13, .call 23 [.tmp 12], none⟩,
  ⟨some 8, .move (.tmp 13), none⟩])
 (.seq (.region [⟨some 14, .move (.tmp 8), none⟩,
  ⟨some 15, .bin .neq (.tmp 14) (.const (.int .i64 0)), none⟩])
 (.cond (.tmp 15) (.seq (.region [⟨some 16, .build [.slice none 0 0, .slice none 0 0, .slice none 0 0, .int .i64 0, .int .i64 0, .int .i64 0] [], none⟩,
  ⟨some 17, .move (.tmp 8), none⟩,
  ⟨none, .store 6 (.tmp 6) (.tmp 16), none⟩,
  ⟨some 7, .move (.tmp 17), none⟩])
 (.ret))
 (.skip))))
 (.seq (.seq (.region [⟨some 18, .move (.tmp 2), none⟩,
  ⟨some 19, .len (.tmp 18), none⟩,
  ⟨some 20, .off 0 (.tmp 3), none⟩,
  ⟨some 21, .load false 1 (.tmp 20), none⟩,
  ⟨some 22, .bin .neq (.tmp 19) (.tmp 21), none⟩])
 (.cond (.tmp 22) (.seq (.region [⟨some 23, .build [.slice none 0 0, .slice none 0 0, .slice none 0 0, .int .i64 0, .int .i64 0, .int .i64 0] [], none⟩,
  ⟨none, .store 6 (.tmp 6) (.tmp 23), none⟩,
  ⟨some 7, .move (.const (.int .i64 130)), none⟩])
 (.ret))
 (.skip)))
 (.seq (.region [⟨some 25, .off 4 (.tmp 3), none⟩,
  ⟨some 26, .load true 6 (.tmp 25), none⟩,
  ⟨some 27, .move (.tmp 1), none⟩,
  ⟨some 28, .call 31 [.tmp 26, .tmp 27], none⟩,
  ⟨some 24, .move (.tmp 28), none⟩,
  ⟨some 29, .extract (.tmp 24) 0, none⟩,
  ⟨some 30, .extract (.tmp 24) 1, none⟩,
  ⟨some 31, .extract (.tmp 24) 2, none⟩,
  ⟨some 9, .move (.tmp 29), none⟩,
  ⟨some 10, .move (.tmp 30), none⟩,
  ⟨some 11, .move (.tmp 31), none⟩])
 (.seq (.seq (.region [⟨some 32, .move (.tmp 11), none⟩,
  ⟨some 33, .bin .neq (.tmp 32) (.const (.int .i64 0)), none⟩])
 (.cond (.tmp 33) (.seq (.region [⟨some 34, .build [.slice none 0 0, .slice none 0 0, .slice none 0 0, .int .i64 0, .int .i64 0, .int .i64 0] [], none⟩,
  ⟨some 35, .move (.tmp 11), none⟩,
  ⟨none, .store 6 (.tmp 6) (.tmp 34), none⟩,
  ⟨some 7, .move (.tmp 35), none⟩])
 (.ret))
 (.skip)))
 (.seq (.draw [⟨⟨some 36, .off 10 (.tmp 3), none⟩, .pure, 0, 0⟩,
  ⟨⟨some 37, .load false 1 (.tmp 36), none⟩, .read, 0, 0⟩,
  ⟨⟨some 38, .move (.tmp 10), none⟩, .pure, 0, 0⟩,
  ⟨⟨some 39, .idx 1 (.tmp 37) (.tmp 38), none⟩, .pure, 0, 0⟩,
  ⟨⟨some 40, .load false 1 (.tmp 39), none⟩, .read, 0, 0⟩,
  ⟨⟨some 41, .off 2 (.tmp 3), none⟩, .pure, 0, 0⟩,
  ⟨⟨some 42, .load false 1 (.tmp 41), none⟩, .read, 0, 0⟩,
  ⟨⟨some 43, .len (.tmp 42), none⟩, .pure, 0, 0⟩,
  ⟨⟨some 44, .off 3 (.tmp 3), none⟩, .pure, 0, 0⟩,
  ⟨⟨some 45, .load false 1 (.tmp 44), none⟩, .read, 0, 0⟩,
  ⟨⟨some 46, .move (.tmp 2), none⟩, .pure, 0, 0⟩,
  ⟨⟨some 47, .move (.tmp 1), none⟩, .pure, 0, 0⟩,
  ⟨⟨some 48, .move (.tmp 9), none⟩, .pure, 0, 0⟩,
  ⟨⟨some 49, .move (.tmp 10), none⟩, .pure, 0, 0⟩,
  ⟨⟨some 50, .build [.slice none 0 0, .int .i64 0, .int .i64 0, .int .i64 0] [(0, 1, .tmp 46), (1, 1, .tmp 47), (2, 1, .tmp 48), (3, 1, .tmp 49)], none⟩, .pure, 0, 0⟩,
  ⟨⟨some 51, .call 32 [.tmp 40, .tmp 43, .tmp 45, .tmp 50], none⟩, .heavy, 0, 1⟩,
  ⟨⟨some 52, .extract (.tmp 51) 0, none⟩, .pure, 1, 1⟩,
  ⟨⟨some 53, .extract (.tmp 51) 1, none⟩, .pure, 1, 1⟩,
  ⟨⟨none, .store 6 (.tmp 6) (.tmp 52), none⟩, .heavy, 1, 2⟩,
  ⟨⟨some 7, .move (.tmp 53), none⟩, .pure, 2, 2⟩])
 (.ret))))))
theorem light21 : Light Try.prog 21 3 54 L21 [.cell 6 true 6, .tmp 7] :=
  ⟨Try.f21, _, Try.func21, rfl, rfl, by kernel_rfl, by kernel_rfl, by decide⟩

/-! ### function 22: outrider/fold.After -/
def L22_1 : LCode :=
 .seq (.region [⟨some 47, .bin .lss (.tmp 46) (.tmp 45), none⟩])
 (.seq (.cond (.tmp 47) (.skip)
 (.exit 0))
 (.seq (.block 1 (.seq (.region [⟨some 48, .idx 2 (.tmp 44) (.tmp 46), none⟩,
  ⟨some 49, .load true 2 (.tmp 48), none⟩,
  ⟨some 12, .new 97 2 [.int .i64 0, .int .i64 0], none⟩,
  ⟨none, .store 2 (.tmp 12) (.tmp 49), none⟩])
 (.region [⟨some 50, .move (.tmp 9), none⟩,
  ⟨some 51, .off 0 (.tmp 12), none⟩,
  ⟨some 52, .load false 1 (.tmp 51), none⟩,
  ⟨some 53, .off 1 (.tmp 12), none⟩,
  ⟨some 54, .load false 1 (.tmp 53), none⟩,
  ⟨some 55, .call 34 [.tmp 50, .tmp 52, .tmp 54], none⟩])))
 (.region [⟨some 56, .bin .add (.tmp 46) (.const (.int .i64 1)), none⟩,
  ⟨some 46, .move (.tmp 56), none⟩])))
def L22 : LCode :=
 .seq (.region [⟨some 4, .box 29 11 (.tmp 0), none⟩,
  ⟨some 5, .box 37 7 (.tmp 1), none⟩,
  ⟨some 7, .box 67 6 (.tmp 3), none⟩,
  ⟨some 8, .new 37 7 [.slice none 0 0, .slice none 0 0, .slice none 0 0, .int .i64 0, .int .i64 0, .int .i64 0, .int .i64 0], none⟩])
 (.seq (.seq (.region [⟨some 15, .off 3 (.tmp 7), none⟩,
  ⟨some 16, .load false 1 (.tmp 15), none⟩,
  ⟨some 17, .bin .neq (.tmp 16) (.const (.int .i64 1)), none⟩])
 (.cond (.tmp 17) (.seq (.region [⟨some 18, .move (.tmp 2), none⟩,
  ⟨some 19, .off 3 (.tmp 7), none⟩,
  ⟨some 20, .load false 1 (.tmp 19), none⟩,
  ⟨some 21, .off 4 (.tmp 7), none⟩,
  ⟨some 22, .load false 1 (.tmp 21), none⟩,
  ⟨some 23, .build [.int .i64 0, .int .i64 0, .int .i64 0] [(0, 1, .tmp 18), (1, 1, .tmp 20), (2, 1, .tmp 22)], none⟩,
  ⟨some 24, .off 3 (.tmp 5), none⟩,
  ⟨none, .store 3 (.tmp 24) (.tmp 23), none⟩])
 (.seq (.region [⟨some 25, .load true 7 (.tmp 5), none⟩,
  ⟨none, .store 7 (.tmp 8) (.tmp 25), none⟩])
 (.ret)))
 (.skip)))
 (.seq (.region [⟨some 26, .off 0 (.tmp 7), none⟩,
  ⟨some 27, .load false 1 (.tmp 26), none⟩,
  ⟨some 28, .append 2 1 8 (.const (.slice none 0 0)) (.tmp 27), none⟩,
  ⟨some 29, .off 0 (.tmp 5), none⟩,
  ⟨none, .store 1 (.tmp 29) (.tmp 28), none⟩])
 (.seq (.draw [⟨⟨some 30, .off 1 (.tmp 5), none⟩, .pure, 0, 0⟩,
  ⟨⟨some 31, .load false 1 (.tmp 30), none⟩, .read, 0, 0⟩,
  ⟨⟨some 32, .append 2 1 8 (.const (.slice none 0 0)) (.tmp 31), none⟩, .heavy, 0, 1⟩,
  ⟨⟨some 33, .off 1 (.tmp 7), none⟩, .pure, 0, 1⟩,
  ⟨⟨some 34, .load false 1 (.tmp 33), none⟩, .read, 0, 1⟩,
  ⟨⟨some 35, .append 2 1 8 (.tmp 32) (.tmp 34), none⟩, .heavy, 1, 2⟩,
  ⟨⟨some 36, .off 1 (.tmp 5), none⟩, .pure, 2, 2⟩,
  ⟨⟨none, .store 1 (.tmp 36) (.tmp 35), none⟩, .heavy, 2, 3⟩])
 (.seq (.region [⟨some 38, .off 2 (.tmp 4), none⟩,
  ⟨some 39, .load false 1 (.tmp 38), none⟩,
  ⟨some 40, .call 33 [.tmp 39], none⟩,
  ⟨some 37, .move (.tmp 40), none⟩,
  ⟨some 41, .extract (.tmp 37) 0, none⟩,
  ⟨some 42, .extract (.tmp 37) 1, none⟩,
  ⟨some 9, .move (.tmp 41), none⟩,
  ⟨some 10, .move (.tmp 42), none⟩])
 (.seq (.seq (.region [⟨some 43, .off 2 (.tmp 7), none⟩,
  ⟨some 44, .load false 1 (.tmp 43), none⟩,
  ⟨some 45, .len (.tmp 44), none⟩,
  ⟨some 46, .move (.const (.int .i64 0)), none⟩])
 (.block 0 (.loop L22_1)))
 (.seq (.seq (.region [⟨some 58, .move (.tmp 9), none⟩,
  ⟨some 59, .off 2 (.tmp 5), none⟩,
  ⟨some 60, .load false 1 (.tmp 59), none⟩,
  ⟨some 61, .call 35 [.tmp 58, .tmp 60], none⟩,
  ⟨some 57, .move (.tmp 61), none⟩,
  ⟨some 62, .extract (.tmp 57) 0, none⟩,
  ⟨some 63, .extract (.tmp 57) 1, none⟩,
  ⟨some 13, .move (.tmp 62), none⟩,
  ⟨some 14, .move (.tmp 63), none⟩])
 (.seq (.region [⟨some 64, .move (.tmp 14), none⟩])
 (.cond (.tmp 64) (.region [⟨some 65, .move (.tmp 13), none⟩,
  ⟨some 66, .off 2 (.tmp 5), none⟩,
  ⟨none, .store 1 (.tmp 66) (.tmp 65), none⟩])
 (.skip))))
 (.seq (.region [⟨some 67, .off 6 (.tmp 5), none⟩,
  ⟨some 68, .load false 1 (.tmp 67), none⟩,
  ⟨some 69, .bin .add (.tmp 68) (.const (.int .i64 1)), none⟩,
  ⟨some 70, .off 6 (.tmp 5), none⟩,
  ⟨none, .store 1 (.tmp 70) (.tmp 69), none⟩])
 (.seq (.region [⟨some 71, .load true 7 (.tmp 5), none⟩,
  ⟨none, .store 7 (.tmp 8) (.tmp 71), none⟩])
 (.ret)))))))))
theorem light22 : Light Try.prog 22 4 72 L22 [.cell 8 true 7] :=
  ⟨Try.f22, _, Try.func22, rfl, rfl, by kernel_rfl, by kernel_rfl, by decide⟩

/-! ### function 23: outrider/job.Valid -/
def L23_1 : LCode :=
 .seq (.region [⟨some 61, .bin .lss (.tmp 60) (.tmp 59), none⟩])
 (.seq (.cond (.tmp 61) (.skip)
 (.exit 0))
 (.seq (.block 1 (.seq (.region [⟨some 62, .idx 1 (.tmp 58) (.tmp 60), none⟩,
  ⟨some 63, .load false 1 (.tmp 62), none⟩,
  ⟨some 10, .move (.tmp 63), none⟩])
 (.seq (.region [⟨some 65, .move (.tmp 10), none⟩,
  ⟨some 66, .off 2 (.tmp 1), none⟩,
  ⟨some 67, .load false 1 (.tmp 66), none⟩,
  ⟨some 68, .len (.tmp 67), none⟩,
  ⟨some 69, .call 37 [.tmp 65, .tmp 68], none⟩,
  ⟨some 64, .move (.tmp 69), none⟩,
  ⟨some 70, .extract (.tmp 64) 0, none⟩,
  ⟨some 71, .extract (.tmp 64) 1, none⟩,
  ⟨some 11, .move (.tmp 70), none⟩,
  ⟨some 12, .move (.tmp 71), none⟩])
 (.seq (.region [⟨some 72, .move (.tmp 12), none⟩,
  ⟨some 73, .bin .neq (.tmp 72) (.const (.int .i64 0)), none⟩])
 (.cond (.tmp 73) (.seq (.region [⟨some 74, .move (.tmp 12), none⟩,
  ⟨some 2, .move (.tmp 74), none⟩])
 (.ret))
 (.skip))))))
 (.region [⟨some 75, .bin .add (.tmp 60) (.const (.int .i64 1)), none⟩,
  ⟨some 60, .move (.tmp 75), none⟩])))
def L23 : LCode :=
 .seq (.region [⟨some 1, .box 29 11 (.tmp 0), none⟩,
  ⟨some 2, .move (.const (.int .i64 0)), none⟩])
 (.seq (.seq (.region [⟨some 14, .off 0 (.tmp 1), none⟩,
  ⟨some 15, .load false 1 (.tmp 14), none⟩,
  ⟨some 16, .off 1 (.tmp 1), none⟩,
  ⟨some 17, .load false 1 (.tmp 16), none⟩,
  ⟨some 18, .call 29 [.tmp 15, .tmp 17], none⟩,
  ⟨some 13, .move (.tmp 18), none⟩,
  ⟨some 19, .extract (.tmp 13) 0, none⟩,
  ⟨some 20, .extract (.tmp 13) 1, none⟩,
  ⟨some 3, .move (.tmp 19), none⟩,
  ⟨some 4, .move (.tmp 20), none⟩])
 (.seq (.region [⟨some 21, .move (.tmp 4), none⟩,
  ⟨some 22, .bin .neq (.tmp 21) (.const (.int .i64 0)), none⟩])
 (.cond (.tmp 22) (.seq (.region [⟨some 23, .move (.tmp 4), none⟩,
  ⟨some 2, .move (.tmp 23), none⟩])
 (.ret))
 (.skip))))
 (.seq (.seq (.region [⟨some 25, .off 2 (.tmp 1), none⟩,
  ⟨some 26, .load false 1 (.tmp 25), none⟩,
  ⟨some 27, .call 33 [.tmp 26], none⟩,
  ⟨some 24, .move (.tmp 27), none⟩,
  ⟨some 28, .extract (.tmp 24) 0, none⟩,
  ⟨some 29, .extract (.tmp 24) 1, none⟩,
  ⟨some 5, .move (.tmp 28), none⟩,
  ⟨some 6, .move (.tmp 29), none⟩])
 (.seq (.region [⟨some 30, .move (.tmp 6), none⟩,
  ⟨some 31, .bin .neq (.tmp 30) (.const (.int .i64 0)), none⟩])
 (.cond (.tmp 31) (.seq (.region [⟨some 32, .move (.tmp 6), none⟩,
  ⟨some 2, .move (.tmp 32), none⟩])
 (.ret))
 (.skip))))
 (.seq (.seq (.region [⟨some 33, .off 3 (.tmp 1), none⟩,
  ⟨some 34, .load false 1 (.tmp 33), none⟩,
  ⟨some 35, .bin .lss (.tmp 34) (.const (.int .i64 1)), none⟩,
  ⟨some 36, .move (.tmp 35), none⟩,
  ⟨some 37, .off 3 (.tmp 1), (some (36, false))⟩,
  ⟨some 38, .load false 1 (.tmp 37), (some (36, false))⟩,
  ⟨some 39, .bin .gtr (.tmp 38) (.const (.int .i64 4000)), (some (36, false))⟩,
  ⟨some 40, .pick (.tmp 36) (.const (.bool true)) (.tmp 39), none⟩])
 (.cond (.tmp 40) (.seq (.region [⟨some 2, .move (.const (.int .i64 110)), none⟩])
 (.ret))
 (.skip)))
 (.seq (.seq (.region [⟨some 42, .off 4 (.tmp 1), none⟩,
  ⟨some 43, .load true 6 (.tmp 42), none⟩,
  ⟨some 44, .call 20 [.tmp 43], none⟩,
  ⟨some 41, .move (.tmp 44), none⟩,
  ⟨some 45, .extract (.tmp 41) 0, none⟩,
  ⟨some 46, .extract (.tmp 41) 1, none⟩,
  ⟨some 7, .move (.tmp 45), none⟩,
  ⟨some 8, .move (.tmp 46), none⟩])
 (.seq (.region [⟨some 47, .move (.tmp 8), none⟩,
  ⟨some 48, .bin .neq (.tmp 47) (.const (.int .i64 0)), none⟩])
 (.cond (.tmp 48) (.seq (.region [⟨some 49, .move (.tmp 8), none⟩,
  ⟨some 2, .move (.tmp 49), none⟩])
 (.ret))
 (.skip))))
 (.seq (.seq (.draw [⟨⟨some 50, .off 10 (.tmp 1), none⟩, .pure, 0, 1⟩,
  ⟨⟨some 51, .load false 1 (.tmp 50), none⟩, .read, 0, 1⟩,
  ⟨⟨some 52, .len (.tmp 51), none⟩, .pure, 0, 1⟩,
  ⟨⟨some 53, .off 4 (.tmp 1), none⟩, .pure, 0, 0⟩,
  ⟨⟨some 54, .load true 6 (.tmp 53), none⟩, .read, 0, 0⟩,
  ⟨⟨some 55, .call 36 [.tmp 54], none⟩, .heavy, 0, 1⟩,
  ⟨⟨some 56, .bin .neq (.tmp 52) (.tmp 55), none⟩, .pure, 1, 1⟩])
 (.cond (.tmp 56) (.seq (.region [⟨some 2, .move (.const (.int .i64 170)), none⟩])
 (.ret))
 (.skip)))
 (.seq (.seq (.region [⟨some 57, .off 10 (.tmp 1), none⟩,
  ⟨some 58, .load false 1 (.tmp 57), none⟩,
  ⟨some 59, .len (.tmp 58), none⟩,
  ⟨some 60, .move (.const (.int .i64 0)), none⟩])
 (.block 0 (.loop L23_1)))
 (.seq (.region [⟨some 2, .move (.const (.int .i64 0)), none⟩])
 (.ret))))))))
theorem light23 : Light Try.prog 23 1 76 L23 [.tmp 2] :=
  ⟨Try.f23, _, Try.func23, rfl, rfl, by kernel_rfl, by kernel_rfl, by decide⟩

/-! ### function 24: outrider/fold.equal[int64] -/
def L24_1 : LCode :=
 .seq (.region [⟨some 14, .bin .lss (.tmp 13) (.tmp 12), none⟩])
 (.seq (.cond (.tmp 14) (.skip)
 (.exit 0))
 (.seq (.block 1 (.seq (.region [⟨some 15, .move (.tmp 13), none⟩,
  ⟨some 5, .move (.tmp 15), none⟩])
 (.seq (.draw [⟨⟨some 16, .move (.tmp 0), none⟩, .pure, 0, 0⟩,
  ⟨⟨some 17, .move (.tmp 5), none⟩, .pure, 0, 0⟩,
  ⟨⟨some 18, .idx 1 (.tmp 16) (.tmp 17), none⟩, .pure, 0, 0⟩,
  ⟨⟨some 19, .load false 1 (.tmp 18), none⟩, .read, 0, 0⟩,
  ⟨⟨some 20, .move (.tmp 1), none⟩, .pure, 0, 0⟩,
  ⟨⟨some 21, .move (.tmp 5), none⟩, .pure, 0, 0⟩,
  ⟨⟨some 22, .idx 1 (.tmp 20) (.tmp 21), none⟩, .pure, 0, 0⟩,
  ⟨⟨some 23, .load false 1 (.tmp 22), none⟩, .read, 0, 0⟩,
  ⟨⟨some 24, .bin .neq (.tmp 19) (.tmp 23), none⟩, .pure, 0, 0⟩])
 (.cond (.tmp 24) (.seq (.region [⟨some 4, .move (.const (.bool false)), none⟩])
 (.ret))
 (.skip)))))
 (.region [⟨some 25, .bin .add (.tmp 13) (.const (.int .i64 1)), none⟩,
  ⟨some 13, .move (.tmp 25), none⟩])))
def L24 : LCode :=
 .seq (.region [⟨some 4, .move (.const (.bool false)), none⟩])
 (.seq (.seq (.region [⟨some 6, .move (.tmp 0), none⟩,
  ⟨some 7, .len (.tmp 6), none⟩,
  ⟨some 8, .move (.tmp 1), none⟩,
  ⟨some 9, .len (.tmp 8), none⟩,
  ⟨some 10, .bin .neq (.tmp 7) (.tmp 9), none⟩])
 (.cond (.tmp 10) (.seq (.region [⟨some 4, .move (.const (.bool false)), none⟩])
 (.ret))
 (.skip)))
 (.seq (.seq (.region [⟨some 11, .move (.tmp 0), none⟩,
  ⟨some 12, .len (.tmp 11), none⟩,
  ⟨some 13, .move (.const (.int .i64 0)), none⟩])
 (.block 0 (.loop L24_1)))
 (.seq (.region [⟨some 4, .move (.const (.bool true)), none⟩])
 (.ret))))
theorem light24 : Light Try.prog 24 2 26 L24 [.tmp 4] :=
  ⟨Try.f24, _, Try.func24, rfl, rfl, by kernel_rfl, by kernel_rfl, by decide⟩

/-! ### function 25: outrider/trace.said -/
def L25 : LCode :=
 .seq (.region [⟨some 1, .box 58 6 (.tmp 0), none⟩,
  ⟨some 2, .move (.const (.string ByteArray.empty)), none⟩,
  ⟨some 3, .move (.const (.slice none 0 0)), none⟩])
 (.seq (.draw [⟨⟨some 6, .off 2 (.tmp 1), none⟩, .pure, 0, 0⟩,
  ⟨⟨some 7, .load false 1 (.tmp 6), none⟩, .read, 0, 0⟩,
  ⟨⟨some 8, .off 3 (.tmp 1), none⟩, .pure, 0, 0⟩,
  ⟨⟨some 9, .load false 1 (.tmp 8), none⟩, .read, 0, 0⟩,
  ⟨⟨some 4, .move (.tmp 7), none⟩, .pure, 0, 0⟩,
  ⟨⟨some 5, .move (.tmp 9), none⟩, .pure, 0, 0⟩])
 (.seq (.seq (.region [⟨some 10, .off 0 (.tmp 1), none⟩,
  ⟨some 11, .load false 1 (.tmp 10), none⟩])
 (.block 0 (.seq (.region [⟨some 13, .bin .eql (.tmp 11) (.const (.int .i64 1)), none⟩,
  ⟨some 12, .move (.tmp 13), none⟩])
 (.cond (.tmp 12) (.seq (.draw [⟨⟨some 14, .off 1 (.tmp 1), none⟩, .pure, 0, 0⟩,
  ⟨⟨some 15, .load false 1 (.tmp 14), none⟩, .read, 0, 0⟩,
  ⟨⟨some 16, .move (.tmp 4), none⟩, .pure, 0, 0⟩,
  ⟨⟨some 17, .buildSlice 2 1 2 [.int .i64 0] [(0, 1, .tmp 15), (1, 1, .tmp 16)], none⟩, .heavy, 0, 1⟩,
  ⟨⟨some 2, .move (.const (.string ⟨#[98, 101, 103, 105, 110]⟩)), none⟩, .pure, 0, 1⟩,
  ⟨⟨some 3, .move (.tmp 17), none⟩, .pure, 1, 1⟩])
 (.ret))
 (.seq (.region [⟨some 19, .bin .eql (.tmp 11) (.const (.int .i64 2)), none⟩,
  ⟨some 18, .move (.tmp 19), none⟩])
 (.cond (.tmp 18) (.seq (.draw [⟨⟨some 20, .move (.tmp 4), none⟩, .pure, 0, 0⟩,
  ⟨⟨some 21, .move (.tmp 5), none⟩, .pure, 0, 0⟩,
  ⟨⟨some 22, .off 4 (.tmp 1), none⟩, .pure, 0, 0⟩,
  ⟨⟨some 23, .load false 1 (.tmp 22), none⟩, .read, 0, 0⟩,
  ⟨⟨some 24, .off 5 (.tmp 1), none⟩, .pure, 0, 0⟩,
  ⟨⟨some 25, .load false 1 (.tmp 24), none⟩, .read, 0, 0⟩,
  ⟨⟨some 26, .buildSlice 2 1 4 [.int .i64 0] [(0, 1, .tmp 20), (1, 1, .tmp 21), (2, 1, .tmp 23), (3, 1, .tmp 25)], none⟩, .heavy, 0, 1⟩,
  ⟨⟨some 2, .move (.const (.string ⟨#[114, 101, 97, 100]⟩)), none⟩, .pure, 0, 1⟩,
  ⟨⟨some 3, .move (.tmp 26), none⟩, .pure, 1, 1⟩])
 (.ret))
 (.seq (.region [⟨some 28, .bin .eql (.tmp 11) (.const (.int .i64 3)), none⟩,
  ⟨some 27, .move (.tmp 28), none⟩])
 (.cond (.tmp 27) (.seq (.draw [⟨⟨some 29, .move (.tmp 4), none⟩, .pure, 0, 0⟩,
  ⟨⟨some 30, .move (.tmp 5), none⟩, .pure, 0, 0⟩,
  ⟨⟨some 31, .off 4 (.tmp 1), none⟩, .pure, 0, 0⟩,
  ⟨⟨some 32, .load false 1 (.tmp 31), none⟩, .read, 0, 0⟩,
  ⟨⟨some 33, .buildSlice 2 1 3 [.int .i64 0] [(0, 1, .tmp 29), (1, 1, .tmp 30), (2, 1, .tmp 32)], none⟩, .heavy, 0, 1⟩,
  ⟨⟨some 2, .move (.const (.string ⟨#[119, 114, 105, 116, 101]⟩)), none⟩, .pure, 0, 1⟩,
  ⟨⟨some 3, .move (.tmp 33), none⟩, .pure, 1, 1⟩])
 (.ret))
 (.seq (.region [⟨some 35, .bin .eql (.tmp 11) (.const (.int .i64 4)), none⟩,
  ⟨some 34, .move (.tmp 35), none⟩])
 (.cond (.tmp 34) (.seq (.draw [⟨⟨some 36, .move (.tmp 4), none⟩, .pure, 0, 0⟩,
  ⟨⟨some 37, .off 4 (.tmp 1), none⟩, .pure, 0, 0⟩,
  ⟨⟨some 38, .load false 1 (.tmp 37), none⟩, .read, 0, 0⟩,
  ⟨⟨some 39, .buildSlice 2 1 2 [.int .i64 0] [(0, 1, .tmp 36), (1, 1, .tmp 38)], none⟩, .heavy, 0, 1⟩,
  ⟨⟨some 2, .move (.const (.string ⟨#[101, 109, 105, 116]⟩)), none⟩, .pure, 0, 1⟩,
  ⟨⟨some 3, .move (.tmp 39), none⟩, .pure, 1, 1⟩])
 (.ret))
 (.seq (.region [⟨some 41, .bin .eql (.tmp 11) (.const (.int .i64 5)), none⟩,
  ⟨some 40, .move (.tmp 41), none⟩])
 (.cond (.tmp 40) (.seq (.draw [⟨⟨some 42, .move (.tmp 4), none⟩, .pure, 0, 0⟩,
  ⟨⟨some 43, .move (.tmp 5), none⟩, .pure, 0, 0⟩,
  ⟨⟨some 44, .off 4 (.tmp 1), none⟩, .pure, 0, 0⟩,
  ⟨⟨some 45, .load false 1 (.tmp 44), none⟩, .read, 0, 0⟩,
  ⟨⟨some 46, .buildSlice 2 1 3 [.int .i64 0] [(0, 1, .tmp 42), (1, 1, .tmp 43), (2, 1, .tmp 45)], none⟩, .heavy, 0, 1⟩,
  ⟨⟨some 2, .move (.const (.string ⟨#[105, 110, 116, 111]⟩)), none⟩, .pure, 0, 1⟩,
  ⟨⟨some 3, .move (.tmp 46), none⟩, .pure, 1, 1⟩])
 (.ret))
 (.seq (.region [⟨some 48, .bin .eql (.tmp 11) (.const (.int .i64 6)), none⟩,
  ⟨some 47, .move (.tmp 48), none⟩])
 (.cond (.tmp 47) (.seq (.region [⟨some 49, .move (.tmp 4), none⟩,
  ⟨some 50, .buildSlice 2 1 1 [.int .i64 0] [(0, 1, .tmp 49)], none⟩,
  ⟨some 2, .move (.const (.string ⟨#[97, 98, 111, 114, 116]⟩)), none⟩,
  ⟨some 3, .move (.tmp 50), none⟩])
 (.ret))
 (.seq (.region [⟨some 52, .bin .eql (.tmp 11) (.const (.int .i64 7)), none⟩,
  ⟨some 51, .move (.tmp 52), none⟩])
 (.cond (.tmp 51) (.seq (.region [⟨some 53, .move (.tmp 4), none⟩,
  ⟨some 54, .buildSlice 2 1 1 [.int .i64 0] [(0, 1, .tmp 53)], none⟩,
  ⟨some 2, .move (.const (.string ⟨#[99, 111, 109, 109, 105, 116]⟩)), none⟩,
  ⟨some 3, .move (.tmp 54), none⟩])
 (.ret))
 (.seq (.region [⟨some 56, .bin .eql (.tmp 11) (.const (.int .i64 8)), none⟩,
  ⟨some 55, .move (.tmp 56), none⟩])
 (.cond (.tmp 55) (.seq (.draw [⟨⟨some 57, .move (.tmp 4), none⟩, .pure, 0, 0⟩,
  ⟨⟨some 58, .move (.tmp 5), none⟩, .pure, 0, 0⟩,
  ⟨⟨some 59, .off 4 (.tmp 1), none⟩, .pure, 0, 0⟩,
  ⟨⟨some 60, .load false 1 (.tmp 59), none⟩, .read, 0, 0⟩,
  ⟨⟨some 61, .buildSlice 2 1 3 [.int .i64 0] [(0, 1, .tmp 57), (1, 1, .tmp 58), (2, 1, .tmp 60)], none⟩, .heavy, 0, 1⟩,
  ⟨⟨some 2, .move (.const (.string ⟨#[102, 97, 117, 108, 116]⟩)), none⟩, .pure, 0, 1⟩,
  ⟨⟨some 3, .move (.tmp 61), none⟩, .pure, 1, 1⟩])
 (.ret))
 (.skip)))))))))))))))))))
 (.seq (.region [⟨some 2, .move (.const (.string ⟨#[110, 111, 110, 101]⟩)), none⟩,
  ⟨some 3, .move (.const (.slice none 0 0)), none⟩])
 (.ret))))
theorem light25 : Light Try.prog 25 1 62 L25 [.tmp 2, .tmp 3] :=
  ⟨Try.f25, _, Try.func25, rfl, rfl, by kernel_rfl, by kernel_rfl, by decide⟩

/-! ### function 26: outrider/num.Text -/
def L26_1 : LCode :=
 .block 1 (.seq (.region [⟨some 8, .move (.tmp 4), none⟩,
  ⟨some 9, .bin .sub (.tmp 8) (.const (.int .i64 1)), none⟩,
  ⟨some 4, .move (.tmp 9), none⟩])
 (.seq (.region [⟨some 10, .move (.tmp 4), none⟩,
  ⟨some 11, .move (.tmp 5), none⟩,
  ⟨some 12, .bin .rem (.tmp 11) (.const (.int .u64 10)), none⟩,
  ⟨some 13, .bin .add (.const (.int .u64 48)) (.tmp 12), none⟩,
  ⟨some 14, .conv .u8 (.tmp 13), none⟩,
  ⟨some 15, .idxArr 20 1 (.tmp 3) (.tmp 10), none⟩,
  ⟨none, .store 1 (.tmp 15) (.tmp 14), none⟩])
 (.seq (.region [⟨some 16, .move (.tmp 5), none⟩,
  ⟨some 17, .bin .quo (.tmp 16) (.const (.int .u64 10)), none⟩,
  ⟨some 5, .move (.tmp 17), none⟩])
 (.seq (.region [⟨some 18, .move (.tmp 5), none⟩,
  ⟨some 19, .bin .eql (.tmp 18) (.const (.int .u64 0)), none⟩])
 (.cond (.tmp 19) (.exit 0)
 (.skip))))))
def L26 : LCode :=
 .seq (.region [⟨some 2, .move (.const (.string ByteArray.empty)), none⟩])
 (.seq (.region [⟨some 3, .new 103 20 [.int .u8 0, .int .u8 0, .int .u8 0, .int .u8 0, .int .u8 0, .int .u8 0, .int .u8 0, .int .u8 0, .int .u8 0, .int .u8 0, .int .u8 0, .int .u8 0, .int .u8 0, .int .u8 0, .int .u8 0, .int .u8 0, .int .u8 0, .int .u8 0, .int .u8 0, .int .u8 0], none⟩])
 (.seq (.region [⟨some 4, .move (.const (.int .i64 20)), none⟩])
 (.seq (.region [⟨some 6, .move (.tmp 0), none⟩,
  ⟨some 7, .call 38 [.tmp 6], none⟩,
  ⟨some 5, .move (.tmp 7), none⟩])
 (.seq (.block 0 (.loop L26_1))
 (.seq (.seq (.region [⟨some 20, .move (.tmp 0), none⟩,
  ⟨some 21, .bin .lss (.tmp 20) (.const (.int .i64 0)), none⟩])
 (.cond (.tmp 21) (.seq (.region [⟨some 22, .move (.tmp 4), none⟩,
  ⟨some 23, .bin .sub (.tmp 22) (.const (.int .i64 1)), none⟩,
  ⟨some 4, .move (.tmp 23), none⟩])
 (.region [⟨some 24, .move (.tmp 4), none⟩,
  ⟨some 25, .idxArr 20 1 (.tmp 3) (.tmp 24), none⟩,
  ⟨none, .store 1 (.tmp 25) (.const (.int .u8 45)), none⟩]))
 (.skip)))
 (.seq (.region [⟨some 26, .move (.tmp 4), none⟩,
  ⟨some 27, .sliceArr 20 1 (.tmp 3) (some (.tmp 26)) none none, none⟩,
  ⟨some 28, .toStr (.tmp 27), none⟩,
  ⟨some 2, .move (.tmp 28), none⟩])
 (.ret)))))))
theorem light26 : Light Try.prog 26 1 29 L26 [.tmp 2] :=
  ⟨Try.f26, _, Try.func26, rfl, rfl, by kernel_rfl, by kernel_rfl, by decide⟩

/-! ### function 27: outrider/outriderref01.Text -/
def L27_1 : LCode :=
 .seq (.seq (.region [⟨some 9, .move (.tmp 3), none⟩,
  ⟨some 10, .bin .gtr (.tmp 9) (.const (.int .u64 0)), none⟩,
  ⟨some 11, .move (.tmp 10), none⟩,
  ⟨some 12, .move (.tmp 4), (some (11, false))⟩,
  ⟨some 13, .bin .eql (.tmp 12) (.const (.string ByteArray.empty)), (some (11, false))⟩,
  ⟨some 14, .pick (.tmp 11) (.const (.bool true)) (.tmp 13), none⟩])
 (.cond (.tmp 14) (.skip)
 (.exit 0)))
 (.block 1 (.seq (.region [⟨some 16, .move (.tmp 3), none⟩,
  ⟨some 17, .call 40 [.tmp 16, .const (.int .u64 10)], none⟩,
  ⟨some 15, .move (.tmp 17), none⟩,
  ⟨some 18, .extract (.tmp 15) 0, none⟩,
  ⟨some 19, .extract (.tmp 15) 1, none⟩,
  ⟨some 5, .move (.tmp 18), none⟩,
  ⟨some 6, .move (.tmp 19), none⟩])
 (.seq (.region [⟨some 20, .move (.tmp 6), none⟩,
  ⟨some 21, .bin .add (.const (.int .u64 48)) (.tmp 20), none⟩,
  ⟨some 22, .conv .u8 (.tmp 21), none⟩,
  ⟨some 23, .buildSlice 5 1 1 [.int .u8 0] [(0, 1, .tmp 22)], none⟩,
  ⟨some 24, .toStr (.tmp 23), none⟩,
  ⟨some 25, .move (.tmp 4), none⟩,
  ⟨some 26, .bin .add (.tmp 24) (.tmp 25), none⟩,
  ⟨some 4, .move (.tmp 26), none⟩])
 (.region [⟨some 27, .move (.tmp 5), none⟩,
  ⟨some 3, .move (.tmp 27), none⟩]))))
def L27 : LCode :=
 .seq (.region [⟨some 2, .move (.const (.string ByteArray.empty)), none⟩])
 (.seq (.region [⟨some 7, .move (.tmp 0), none⟩,
  ⟨some 8, .call 39 [.tmp 7], none⟩,
  ⟨some 3, .move (.tmp 8), none⟩])
 (.seq (.region [⟨some 4, .move (.const (.string ByteArray.empty)), none⟩])
 (.seq (.block 0 (.loop L27_1))
 (.seq (.seq (.region [⟨some 28, .move (.tmp 0), none⟩,
  ⟨some 29, .bin .lss (.tmp 28) (.const (.int .i64 0)), none⟩])
 (.cond (.tmp 29) (.seq (.region [⟨some 30, .move (.tmp 4), none⟩,
  ⟨some 31, .bin .add (.const (.string ⟨#[45]⟩)) (.tmp 30), none⟩,
  ⟨some 2, .move (.tmp 31), none⟩])
 (.ret))
 (.skip)))
 (.seq (.region [⟨some 32, .move (.tmp 4), none⟩,
  ⟨some 2, .move (.tmp 32), none⟩])
 (.ret))))))
theorem light27 : Light Try.prog 27 1 33 L27 [.tmp 2] :=
  ⟨Try.f27, _, Try.func27, rfl, rfl, by kernel_rfl, by kernel_rfl, by decide⟩

/-! ### function 28: (*outrider/trace.book).event -/
def L28 : LCode :=
 .seq (.region [⟨some 3, .box 58 6 (.tmp 1), none⟩,
  ⟨some 4, .move (.const (.bool false)), none⟩])
 (.seq (.seq (.draw [⟨⟨some 6, .move (.tmp 0), none⟩, .pure, 0, 0⟩,
  ⟨⟨some 7, .nilCheck (.tmp 6), none⟩, .pure, 0, 0⟩,
  ⟨⟨some 8, .off 212 (.tmp 7), none⟩, .pure, 0, 0⟩,
  ⟨⟨some 9, .off 3 (.tmp 8), none⟩, .pure, 0, 0⟩,
  ⟨⟨some 10, .off 1 (.tmp 9), none⟩, .pure, 0, 0⟩,
  ⟨⟨some 11, .load false 1 (.tmp 10), none⟩, .read, 0, 0⟩,
  ⟨⟨some 12, .bin .neq (.tmp 11) (.const (.int .i64 0)), none⟩, .pure, 0, 0⟩,
  ⟨⟨some 13, .move (.tmp 12), none⟩, .pure, 0, 0⟩,
  ⟨⟨some 14, .off 2 (.tmp 3), (some (13, false))⟩, .pure, 0, 0⟩,
  ⟨⟨some 15, .load false 1 (.tmp 14), (some (13, false))⟩, .read, 0, 0⟩,
  ⟨⟨some 16, .move (.tmp 0), (some (13, false))⟩, .pure, 0, 0⟩,
  ⟨⟨some 17, .nilCheck (.tmp 16), (some (13, false))⟩, .pure, 0, 0⟩,
  ⟨⟨some 18, .off 212 (.tmp 17), (some (13, false))⟩, .pure, 0, 0⟩,
  ⟨⟨some 19, .off 6 (.tmp 18), (some (13, false))⟩, .pure, 0, 0⟩,
  ⟨⟨some 20, .load false 1 (.tmp 19), (some (13, false))⟩, .read, 0, 0⟩,
  ⟨⟨some 21, .bin .lss (.tmp 15) (.tmp 20), (some (13, false))⟩, .pure, 0, 0⟩,
  ⟨⟨some 22, .pick (.tmp 13) (.const (.bool true)) (.tmp 21), none⟩, .pure, 0, 0⟩,
  ⟨⟨some 23, .move (.tmp 22), none⟩, .pure, 0, 0⟩,
  ⟨⟨some 24, .off 2 (.tmp 3), (some (23, false))⟩, .pure, 0, 0⟩,
  ⟨⟨some 25, .load false 1 (.tmp 24), (some (23, false))⟩, .read, 0, 0⟩,
  ⟨⟨some 26, .move (.tmp 0), (some (23, false))⟩, .pure, 0, 0⟩,
  ⟨⟨some 27, .nilCheck (.tmp 26), (some (23, false))⟩, .pure, 0, 0⟩,
  ⟨⟨some 28, .off 11 (.tmp 27), (some (23, false))⟩, .pure, 0, 0⟩,
  ⟨⟨some 29, .load false 1 (.tmp 28), (some (23, false))⟩, .read, 0, 0⟩,
  ⟨⟨some 30, .bin .geq (.tmp 25) (.tmp 29), (some (23, false))⟩, .pure, 0, 0⟩,
  ⟨⟨some 31, .pick (.tmp 23) (.const (.bool true)) (.tmp 30), none⟩, .pure, 0, 0⟩,
  ⟨⟨some 32, .move (.tmp 31), none⟩, .pure, 0, 0⟩,
  ⟨⟨some 33, .load true 6 (.tmp 3), (some (32, false))⟩, .read, 0, 0⟩,
  ⟨⟨some 34, .call 41 [.tmp 33], (some (32, false))⟩, .heavy, 0, 1⟩,
  ⟨⟨some 35, .un .not (.tmp 34), (some (32, false))⟩, .pure, 1, 1⟩,
  ⟨⟨some 36, .pick (.tmp 32) (.const (.bool true)) (.tmp 35), none⟩, .pure, 1, 1⟩])
 (.cond (.tmp 36) (.seq (.region [⟨some 4, .move (.const (.bool false)), none⟩])
 (.ret))
 (.skip)))
 (.seq (.draw [⟨⟨some 37, .move (.tmp 0), none⟩, .pure, 0, 0⟩,
  ⟨⟨some 38, .off 2 (.tmp 3), none⟩, .pure, 0, 0⟩,
  ⟨⟨some 39, .load false 1 (.tmp 38), none⟩, .read, 0, 0⟩,
  ⟨⟨some 40, .nilCheck (.tmp 37), none⟩, .pure, 0, 0⟩,
  ⟨⟨some 41, .off 12 (.tmp 40), none⟩, .pure, 0, 0⟩,
  ⟨⟨some 42, .idxArr 200 1 (.tmp 41) (.tmp 39), none⟩, .pure, 0, 0⟩,
  ⟨⟨some 43, .load false 1 (.tmp 42), none⟩, .read, 0, 0⟩,
  ⟨⟨some 5, .move (.tmp 43), none⟩, .pure, 0, 0⟩])
 (.seq (.seq (.region [⟨some 44, .off 0 (.tmp 3), none⟩,
  ⟨some 45, .load false 1 (.tmp 44), none⟩,
  ⟨some 46, .bin .eql (.tmp 45) (.const (.int .i64 1)), none⟩])
 (.cond (.tmp 46) (.seq (.draw [⟨⟨some 47, .move (.tmp 0), none⟩, .pure, 0, 1⟩,
  ⟨⟨some 48, .off 2 (.tmp 3), none⟩, .pure, 0, 1⟩,
  ⟨⟨some 49, .load false 1 (.tmp 48), none⟩, .read, 0, 1⟩,
  ⟨⟨some 50, .build [.slice none 0 0, .slice none 0 0, .slice none 0 0, .slice none 0 0] [], none⟩, .pure, 0, 0⟩,
  ⟨⟨some 51, .box 109 4 (.tmp 50), none⟩, .heavy, 0, 1⟩,
  ⟨⟨some 52, .nilCheck (.tmp 47), none⟩, .pure, 0, 1⟩,
  ⟨⟨some 53, .off 12 (.tmp 52), none⟩, .pure, 0, 1⟩,
  ⟨⟨some 54, .idxArr 200 1 (.tmp 53) (.tmp 49), none⟩, .pure, 1, 1⟩,
  ⟨⟨none, .store 1 (.tmp 54) (.tmp 51), none⟩, .heavy, 1, 2⟩])
 (.seq (.region [⟨some 55, .move (.tmp 5), none⟩,
  ⟨some 56, .isNil false (.pointer 109) (.tmp 55), none⟩,
  ⟨some 57, .move (.tmp 56), none⟩,
  ⟨some 58, .off 1 (.tmp 3), (some (57, true))⟩,
  ⟨some 59, .load false 1 (.tmp 58), (some (57, true))⟩,
  ⟨some 60, .bin .geq (.tmp 59) (.const (.int .i64 0)), (some (57, true))⟩,
  ⟨some 61, .pick (.tmp 57) (.tmp 60) (.const (.bool false)), none⟩,
  ⟨some 62, .move (.tmp 61), none⟩,
  ⟨some 63, .off 1 (.tmp 3), (some (62, true))⟩,
  ⟨some 64, .load false 1 (.tmp 63), (some (62, true))⟩,
  ⟨some 65, .bin .lss (.tmp 64) (.const (.int .i64 8)), (some (62, true))⟩,
  ⟨some 66, .pick (.tmp 62) (.tmp 65) (.const (.bool false)), none⟩,
  ⟨some 4, .move (.tmp 66), none⟩])
 (.ret)))
 (.skip)))
 (.seq (.seq (.region [⟨some 67, .move (.tmp 5), none⟩,
  ⟨some 68, .isNil false (.pointer 109) (.tmp 67), none⟩])
 (.cond (.tmp 68) (.seq (.region [⟨some 4, .move (.const (.bool false)), none⟩])
 (.ret))
 (.skip)))
 (.seq (.seq (.region [⟨some 69, .off 0 (.tmp 3), none⟩,
  ⟨some 70, .load false 1 (.tmp 69), none⟩])
 (.block 0 (.seq (.region [⟨some 72, .bin .eql (.tmp 70) (.const (.int .i64 2)), none⟩,
  ⟨some 71, .move (.tmp 72), none⟩])
 (.cond (.tmp 71) (.seq (.draw [⟨⟨some 73, .move (.tmp 5), none⟩, .pure, 0, 2⟩,
  ⟨⟨some 74, .move (.tmp 5), none⟩, .pure, 0, 1⟩,
  ⟨⟨some 75, .nilCheck (.tmp 74), none⟩, .pure, 0, 1⟩,
  ⟨⟨some 76, .off 0 (.tmp 75), none⟩, .pure, 0, 1⟩,
  ⟨⟨some 77, .load false 1 (.tmp 76), none⟩, .read, 0, 1⟩,
  ⟨⟨some 78, .off 3 (.tmp 3), none⟩, .pure, 0, 0⟩,
  ⟨⟨some 79, .load false 1 (.tmp 78), none⟩, .read, 0, 0⟩,
  ⟨⟨some 80, .off 4 (.tmp 3), none⟩, .pure, 0, 0⟩,
  ⟨⟨some 81, .load false 1 (.tmp 80), none⟩, .read, 0, 0⟩,
  ⟨⟨some 82, .build [.int .i64 0, .int .i64 0] [(0, 1, .tmp 79), (1, 1, .tmp 81)], none⟩, .pure, 0, 0⟩,
  ⟨⟨some 83, .buildSlice 111 2 1 [.int .i64 0, .int .i64 0] [(0, 2, .tmp 82)], none⟩, .heavy, 0, 1⟩,
  ⟨⟨some 84, .append 111 2 16 (.tmp 77) (.tmp 83), none⟩, .heavy, 1, 2⟩,
  ⟨⟨some 85, .nilCheck (.tmp 73), none⟩, .pure, 2, 2⟩,
  ⟨⟨some 86, .off 0 (.tmp 85), none⟩, .pure, 2, 2⟩,
  ⟨⟨none, .store 1 (.tmp 86) (.tmp 84), none⟩, .heavy, 2, 3⟩])
 (.seq (.region [⟨some 87, .move (.tmp 0), none⟩,
  ⟨some 88, .off 3 (.tmp 3), none⟩,
  ⟨some 89, .load false 1 (.tmp 88), none⟩,
  ⟨some 90, .call 42 [.tmp 87, .tmp 89], none⟩,
  ⟨some 91, .move (.tmp 90), none⟩,
  ⟨some 92, .off 5 (.tmp 3), (some (91, true))⟩,
  ⟨some 93, .load false 1 (.tmp 92), (some (91, true))⟩,
  ⟨some 94, .bin .geq (.tmp 93) (.const (.int .i64 (-1))), (some (91, true))⟩,
  ⟨some 95, .pick (.tmp 91) (.tmp 94) (.const (.bool false)), none⟩,
  ⟨some 96, .move (.tmp 95), none⟩,
  ⟨some 97, .off 5 (.tmp 3), (some (96, true))⟩,
  ⟨some 98, .load false 1 (.tmp 97), (some (96, true))⟩,
  ⟨some 99, .off 2 (.tmp 3), (some (96, true))⟩,
  ⟨some 100, .load false 1 (.tmp 99), (some (96, true))⟩,
  ⟨some 101, .bin .lss (.tmp 98) (.tmp 100), (some (96, true))⟩,
  ⟨some 102, .pick (.tmp 96) (.tmp 101) (.const (.bool false)), none⟩,
  ⟨some 4, .move (.tmp 102), none⟩])
 (.ret)))
 (.seq (.region [⟨some 104, .bin .eql (.tmp 70) (.const (.int .i64 3)), none⟩,
  ⟨some 103, .move (.tmp 104), none⟩])
 (.cond (.tmp 103) (.seq (.draw [⟨⟨some 105, .move (.tmp 5), none⟩, .pure, 0, 2⟩,
  ⟨⟨some 106, .move (.tmp 5), none⟩, .pure, 0, 1⟩,
  ⟨⟨some 107, .nilCheck (.tmp 106), none⟩, .pure, 0, 1⟩,
  ⟨⟨some 108, .off 1 (.tmp 107), none⟩, .pure, 0, 1⟩,
  ⟨⟨some 109, .load false 1 (.tmp 108), none⟩, .read, 0, 1⟩,
  ⟨⟨some 110, .off 3 (.tmp 3), none⟩, .pure, 0, 0⟩,
  ⟨⟨some 111, .load false 1 (.tmp 110), none⟩, .read, 0, 0⟩,
  ⟨⟨some 112, .off 4 (.tmp 3), none⟩, .pure, 0, 0⟩,
  ⟨⟨some 113, .load false 1 (.tmp 112), none⟩, .read, 0, 0⟩,
  ⟨⟨some 114, .build [.int .i64 0, .int .i64 0] [(0, 1, .tmp 111), (1, 1, .tmp 113)], none⟩, .pure, 0, 0⟩,
  ⟨⟨some 115, .buildSlice 111 2 1 [.int .i64 0, .int .i64 0] [(0, 2, .tmp 114)], none⟩, .heavy, 0, 1⟩,
  ⟨⟨some 116, .append 111 2 16 (.tmp 109) (.tmp 115), none⟩, .heavy, 1, 2⟩,
  ⟨⟨some 117, .nilCheck (.tmp 105), none⟩, .pure, 2, 2⟩,
  ⟨⟨some 118, .off 1 (.tmp 117), none⟩, .pure, 2, 2⟩,
  ⟨⟨none, .store 1 (.tmp 118) (.tmp 116), none⟩, .heavy, 2, 3⟩])
 (.seq (.region [⟨some 119, .move (.tmp 0), none⟩,
  ⟨some 120, .off 3 (.tmp 3), none⟩,
  ⟨some 121, .load false 1 (.tmp 120), none⟩,
  ⟨some 122, .call 42 [.tmp 119, .tmp 121], none⟩,
  ⟨some 4, .move (.tmp 122), none⟩])
 (.ret)))
 (.seq (.region [⟨some 124, .bin .eql (.tmp 70) (.const (.int .i64 4)), none⟩,
  ⟨some 123, .move (.tmp 124), none⟩])
 (.cond (.tmp 123) (.seq (.draw [⟨⟨some 125, .move (.tmp 5), none⟩, .pure, 0, 2⟩,
  ⟨⟨some 126, .move (.tmp 5), none⟩, .pure, 0, 1⟩,
  ⟨⟨some 127, .nilCheck (.tmp 126), none⟩, .pure, 0, 1⟩,
  ⟨⟨some 128, .off 2 (.tmp 127), none⟩, .pure, 0, 1⟩,
  ⟨⟨some 129, .load false 1 (.tmp 128), none⟩, .read, 0, 1⟩,
  ⟨⟨some 130, .off 4 (.tmp 3), none⟩, .pure, 0, 0⟩,
  ⟨⟨some 131, .load false 1 (.tmp 130), none⟩, .read, 0, 0⟩,
  ⟨⟨some 132, .buildSlice 2 1 1 [.int .i64 0] [(0, 1, .tmp 131)], none⟩, .heavy, 0, 1⟩,
  ⟨⟨some 133, .append 2 1 8 (.tmp 129) (.tmp 132), none⟩, .heavy, 1, 2⟩,
  ⟨⟨some 134, .nilCheck (.tmp 125), none⟩, .pure, 2, 2⟩,
  ⟨⟨some 135, .off 2 (.tmp 134), none⟩, .pure, 2, 2⟩,
  ⟨⟨none, .store 1 (.tmp 135) (.tmp 133), none⟩, .heavy, 2, 3⟩])
 (.seq (.region [⟨some 4, .move (.const (.bool true)), none⟩])
 (.ret)))
 (.seq (.region [⟨some 137, .bin .eql (.tmp 70) (.const (.int .i64 5)), none⟩,
  ⟨some 136, .move (.tmp 137), none⟩])
 (.cond (.tmp 136) (.seq (.draw [⟨⟨some 138, .move (.tmp 5), none⟩, .pure, 0, 2⟩,
  ⟨⟨some 139, .move (.tmp 5), none⟩, .pure, 0, 1⟩,
  ⟨⟨some 140, .nilCheck (.tmp 139), none⟩, .pure, 0, 1⟩,
  ⟨⟨some 141, .off 3 (.tmp 140), none⟩, .pure, 0, 1⟩,
  ⟨⟨some 142, .load false 1 (.tmp 141), none⟩, .read, 0, 1⟩,
  ⟨⟨some 143, .off 3 (.tmp 3), none⟩, .pure, 0, 0⟩,
  ⟨⟨some 144, .load false 1 (.tmp 143), none⟩, .read, 0, 0⟩,
  ⟨⟨some 145, .off 4 (.tmp 3), none⟩, .pure, 0, 0⟩,
  ⟨⟨some 146, .load false 1 (.tmp 145), none⟩, .read, 0, 0⟩,
  ⟨⟨some 147, .build [.int .i64 0, .int .i64 0] [(0, 1, .tmp 144), (1, 1, .tmp 146)], none⟩, .pure, 0, 0⟩,
  ⟨⟨some 148, .buildSlice 97 2 1 [.int .i64 0, .int .i64 0] [(0, 2, .tmp 147)], none⟩, .heavy, 0, 1⟩,
  ⟨⟨some 149, .append 97 2 16 (.tmp 142) (.tmp 148), none⟩, .heavy, 1, 2⟩,
  ⟨⟨some 150, .nilCheck (.tmp 138), none⟩, .pure, 2, 2⟩,
  ⟨⟨some 151, .off 3 (.tmp 150), none⟩, .pure, 2, 2⟩,
  ⟨⟨none, .store 1 (.tmp 151) (.tmp 149), none⟩, .heavy, 2, 3⟩])
 (.seq (.draw [⟨⟨some 152, .off 3 (.tmp 3), none⟩, .pure, 0, 0⟩,
  ⟨⟨some 153, .load false 1 (.tmp 152), none⟩, .read, 0, 0⟩,
  ⟨⟨some 154, .bin .geq (.tmp 153) (.const (.int .i64 0)), none⟩, .pure, 0, 0⟩,
  ⟨⟨some 155, .move (.tmp 154), none⟩, .pure, 0, 0⟩,
  ⟨⟨some 156, .off 3 (.tmp 3), (some (155, true))⟩, .pure, 0, 0⟩,
  ⟨⟨some 157, .load false 1 (.tmp 156), (some (155, true))⟩, .read, 0, 0⟩,
  ⟨⟨some 158, .move (.tmp 0), (some (155, true))⟩, .pure, 0, 0⟩,
  ⟨⟨some 159, .nilCheck (.tmp 158), (some (155, true))⟩, .pure, 0, 0⟩,
  ⟨⟨some 160, .off 0 (.tmp 159), (some (155, true))⟩, .pure, 0, 0⟩,
  ⟨⟨some 161, .off 2 (.tmp 160), (some (155, true))⟩, .pure, 0, 0⟩,
  ⟨⟨some 162, .load false 1 (.tmp 161), (some (155, true))⟩, .read, 0, 0⟩,
  ⟨⟨some 163, .len (.tmp 162), (some (155, true))⟩, .pure, 0, 0⟩,
  ⟨⟨some 164, .bin .lss (.tmp 157) (.tmp 163), (some (155, true))⟩, .pure, 0, 0⟩,
  ⟨⟨some 165, .pick (.tmp 155) (.tmp 164) (.const (.bool false)), none⟩, .pure, 0, 0⟩,
  ⟨⟨some 4, .move (.tmp 165), none⟩, .pure, 0, 0⟩])
 (.ret)))
 (.seq (.region [⟨some 167, .bin .eql (.tmp 70) (.const (.int .i64 6)), none⟩,
  ⟨some 166, .move (.tmp 167), none⟩])
 (.cond (.tmp 166) (.seq (.region [⟨some 168, .move (.tmp 5), none⟩,
  ⟨some 169, .build [.slice none 0 0, .slice none 0 0, .slice none 0 0, .slice none 0 0] [], none⟩,
  ⟨some 170, .nilCheck (.tmp 168), none⟩,
  ⟨none, .store 4 (.tmp 170) (.tmp 169), none⟩])
 (.seq (.region [⟨some 4, .move (.const (.bool true)), none⟩])
 (.ret)))
 (.seq (.region [⟨some 172, .bin .eql (.tmp 70) (.const (.int .i64 7)), none⟩,
  ⟨some 171, .move (.tmp 172), none⟩])
 (.cond (.tmp 171) (.seq (.region [⟨some 173, .move (.tmp 0), none⟩,
  ⟨some 174, .load true 6 (.tmp 3), none⟩,
  ⟨some 175, .move (.tmp 5), none⟩,
  ⟨some 176, .call 43 [.tmp 173, .tmp 174, .tmp 175], none⟩,
  ⟨some 4, .move (.tmp 176), none⟩])
 (.ret))
 (.seq (.region [⟨some 178, .bin .eql (.tmp 70) (.const (.int .i64 8)), none⟩,
  ⟨some 177, .move (.tmp 178), none⟩])
 (.cond (.tmp 177) (.seq (.region [⟨some 179, .move (.tmp 0), none⟩,
  ⟨some 180, .load true 6 (.tmp 3), none⟩,
  ⟨some 181, .move (.tmp 5), none⟩,
  ⟨some 182, .call 44 [.tmp 179, .tmp 180, .tmp 181], none⟩,
  ⟨some 4, .move (.tmp 182), none⟩])
 (.ret))
 (.skip)))))))))))))))))
 (.seq (.region [⟨some 4, .move (.const (.bool false)), none⟩])
 (.ret)))))))
theorem light28 : Light Try.prog 28 2 183 L28 [.tmp 4] :=
  ⟨Try.f28, _, Try.func28, rfl, rfl, by kernel_rfl, by kernel_rfl, by decide⟩

/-! ### function 29: outrider/mem.Of -/
def L29_1 : LCode :=
 .seq (.region [⟨some 21, .bin .lss (.tmp 20) (.tmp 19), none⟩])
 (.seq (.cond (.tmp 21) (.skip)
 (.exit 0))
 (.seq (.block 1 (.seq (.region [⟨some 22, .idx 2 (.tmp 18) (.tmp 20), none⟩,
  ⟨some 23, .load true 2 (.tmp 22), none⟩,
  ⟨some 9, .new 111 2 [.int .i64 0, .int .i64 0], none⟩,
  ⟨none, .store 2 (.tmp 9) (.tmp 23), none⟩])
 (.seq (.seq (.region [⟨some 24, .off 0 (.tmp 9), none⟩,
  ⟨some 25, .load false 1 (.tmp 24), none⟩,
  ⟨some 26, .bin .lss (.tmp 25) (.const (.int .i64 0)), none⟩,
  ⟨some 27, .move (.tmp 26), none⟩,
  ⟨some 28, .off 0 (.tmp 9), (some (27, false))⟩,
  ⟨some 29, .load false 1 (.tmp 28), (some (27, false))⟩,
  ⟨some 30, .move (.tmp 0), (some (27, false))⟩,
  ⟨some 31, .bin .geq (.tmp 29) (.tmp 30), (some (27, false))⟩,
  ⟨some 32, .pick (.tmp 27) (.const (.bool true)) (.tmp 31), none⟩])
 (.cond (.tmp 32) (.seq (.region [⟨some 4, .move (.const (.slice none 0 0)), none⟩,
  ⟨some 5, .move (.const (.int .i64 131)), none⟩])
 (.ret))
 (.skip)))
 (.seq (.seq (.region [⟨some 33, .off 0 (.tmp 9), none⟩,
  ⟨some 34, .load false 1 (.tmp 33), none⟩,
  ⟨some 35, .idxArr 64 1 (.tmp 7) (.tmp 34), none⟩,
  ⟨some 36, .load false 1 (.tmp 35), none⟩])
 (.cond (.tmp 36) (.seq (.region [⟨some 4, .move (.const (.slice none 0 0)), none⟩,
  ⟨some 5, .move (.const (.int .i64 61)), none⟩])
 (.ret))
 (.skip)))
 (.seq (.region [⟨some 37, .off 0 (.tmp 9), none⟩,
  ⟨some 38, .load false 1 (.tmp 37), none⟩,
  ⟨some 39, .idxArr 64 1 (.tmp 7) (.tmp 38), none⟩,
  ⟨none, .store 1 (.tmp 39) (.const (.bool true)), none⟩])
 (.region [⟨some 40, .move (.tmp 6), none⟩,
  ⟨some 41, .off 0 (.tmp 9), none⟩,
  ⟨some 42, .load false 1 (.tmp 41), none⟩,
  ⟨some 43, .off 1 (.tmp 9), none⟩,
  ⟨some 44, .load false 1 (.tmp 43), none⟩,
  ⟨some 45, .idx 1 (.tmp 40) (.tmp 42), none⟩,
  ⟨none, .store 1 (.tmp 45) (.tmp 44), none⟩]))))))
 (.region [⟨some 46, .bin .add (.tmp 20) (.const (.int .i64 1)), none⟩,
  ⟨some 20, .move (.tmp 46), none⟩])))
def L29 : LCode :=
 .seq (.region [⟨some 4, .move (.const (.slice none 0 0)), none⟩,
  ⟨some 5, .move (.const (.int .i64 0)), none⟩])
 (.seq (.seq (.region [⟨some 10, .move (.tmp 0), none⟩,
  ⟨some 11, .bin .lss (.tmp 10) (.const (.int .i64 1)), none⟩,
  ⟨some 12, .move (.tmp 11), none⟩,
  ⟨some 13, .move (.tmp 0), (some (12, false))⟩,
  ⟨some 14, .bin .gtr (.tmp 13) (.const (.int .i64 64)), (some (12, false))⟩,
  ⟨some 15, .pick (.tmp 12) (.const (.bool true)) (.tmp 14), none⟩])
 (.cond (.tmp 15) (.seq (.region [⟨some 4, .move (.const (.slice none 0 0)), none⟩,
  ⟨some 5, .move (.const (.int .i64 130)), none⟩])
 (.ret))
 (.skip)))
 (.seq (.region [⟨some 16, .move (.tmp 0), none⟩,
  ⟨some 17, .make 2 1 8 [.int .i64 0] (.tmp 16) (.tmp 16), none⟩,
  ⟨some 6, .move (.tmp 17), none⟩])
 (.seq (.region [⟨some 7, .new 114 64 [.bool false, .bool false, .bool false, .bool false, .bool false, .bool false, .bool false, .bool false, .bool false, .bool false, .bool false, .bool false, .bool false, .bool false, .bool false, .bool false, .bool false, .bool false, .bool false, .bool false, .bool false, .bool false, .bool false, .bool false, .bool false, .bool false, .bool false, .bool false, .bool false, .bool false, .bool false, .bool false, .bool false, .bool false, .bool false, .bool false, .bool false, .bool false, .bool false, .bool false, .bool false, .bool false, .bool false, .bool false, .bool false, .bool false, .bool false, .bool false, .bool false, .bool false, .bool false, .bool false, .bool false, .bool false, .bool false, .bool false, .bool false, .bool false, .bool false, .bool false, .bool false, .bool false, .bool false, .bool false], none⟩])
 (.seq (.seq (.region [⟨some 18, .move (.tmp 1), none⟩,
  ⟨some 19, .len (.tmp 18), none⟩,
  ⟨some 20, .move (.const (.int .i64 0)), none⟩])
 (.block 0 (.loop L29_1)))
 (.seq (.region [⟨some 47, .move (.tmp 6), none⟩,
  ⟨some 4, .move (.tmp 47), none⟩,
  ⟨some 5, .move (.const (.int .i64 0)), none⟩])
 (.ret))))))
theorem light29 : Light Try.prog 29 2 48 L29 [.tmp 4, .tmp 5] :=
  ⟨Try.f29, _, Try.func29, rfl, rfl, by kernel_rfl, by kernel_rfl, by decide⟩

/-! ### function 30: outrider/plan.loop -/
def L30 : LCode :=
 .seq (.region [⟨some 1, .box 26 6 (.tmp 0), none⟩,
  ⟨some 2, .move (.const (.int .i64 0)), none⟩,
  ⟨some 3, .move (.const (.int .i64 0)), none⟩])
 (.seq (.seq (.region [⟨some 8, .off 3 (.tmp 1), none⟩,
  ⟨some 9, .load false 1 (.tmp 8), none⟩,
  ⟨some 10, .bin .eql (.tmp 9) (.const (.int .i64 0)), none⟩])
 (.cond (.tmp 10) (.seq (.region [⟨some 2, .move (.const (.int .i64 0)), none⟩,
  ⟨some 3, .move (.const (.int .i64 150)), none⟩])
 (.ret))
 (.skip)))
 (.seq (.draw [⟨⟨some 11, .off 2 (.tmp 1), none⟩, .pure, 0, 0⟩,
  ⟨⟨some 12, .load false 1 (.tmp 11), none⟩, .read, 0, 0⟩,
  ⟨⟨some 13, .conv .u64 (.tmp 12), none⟩, .pure, 0, 0⟩,
  ⟨⟨some 14, .off 1 (.tmp 1), none⟩, .pure, 0, 0⟩,
  ⟨⟨some 15, .load false 1 (.tmp 14), none⟩, .read, 0, 0⟩,
  ⟨⟨some 16, .conv .u64 (.tmp 15), none⟩, .pure, 0, 0⟩,
  ⟨⟨some 17, .bin .sub (.tmp 13) (.tmp 16), none⟩, .pure, 0, 0⟩,
  ⟨⟨some 18, .off 3 (.tmp 1), none⟩, .pure, 0, 0⟩,
  ⟨⟨some 19, .load false 1 (.tmp 18), none⟩, .read, 0, 0⟩,
  ⟨⟨some 20, .conv .u64 (.tmp 19), none⟩, .pure, 0, 0⟩,
  ⟨⟨some 4, .move (.tmp 17), none⟩, .pure, 0, 0⟩,
  ⟨⟨some 5, .move (.tmp 20), none⟩, .pure, 0, 0⟩])
 (.seq (.region [⟨some 21, .off 1 (.tmp 1), none⟩,
  ⟨some 22, .load false 1 (.tmp 21), none⟩,
  ⟨some 23, .off 2 (.tmp 1), none⟩,
  ⟨some 24, .load false 1 (.tmp 23), none⟩,
  ⟨some 25, .bin .geq (.tmp 22) (.tmp 24), none⟩,
  ⟨some 6, .move (.tmp 25), none⟩])
 (.seq (.seq (.region [⟨some 26, .off 3 (.tmp 1), none⟩,
  ⟨some 27, .load false 1 (.tmp 26), none⟩,
  ⟨some 28, .bin .lss (.tmp 27) (.const (.int .i64 0)), none⟩])
 (.cond (.tmp 28) (.draw [⟨⟨some 29, .move (.tmp 4), none⟩, .pure, 0, 0⟩,
  ⟨⟨some 30, .un .neg (.tmp 29), none⟩, .pure, 0, 0⟩,
  ⟨⟨some 31, .move (.tmp 5), none⟩, .pure, 0, 0⟩,
  ⟨⟨some 32, .un .neg (.tmp 31), none⟩, .pure, 0, 0⟩,
  ⟨⟨some 33, .off 1 (.tmp 1), none⟩, .pure, 0, 0⟩,
  ⟨⟨some 34, .load false 1 (.tmp 33), none⟩, .read, 0, 0⟩,
  ⟨⟨some 35, .off 2 (.tmp 1), none⟩, .pure, 0, 0⟩,
  ⟨⟨some 36, .load false 1 (.tmp 35), none⟩, .read, 0, 0⟩,
  ⟨⟨some 37, .bin .leq (.tmp 34) (.tmp 36), none⟩, .pure, 0, 0⟩,
  ⟨⟨some 4, .move (.tmp 30), none⟩, .pure, 0, 0⟩,
  ⟨⟨some 5, .move (.tmp 32), none⟩, .pure, 0, 0⟩,
  ⟨⟨some 6, .move (.tmp 37), none⟩, .pure, 0, 0⟩])
 (.skip)))
 (.seq (.seq (.region [⟨some 38, .move (.tmp 6), none⟩])
 (.cond (.tmp 38) (.seq (.region [⟨some 2, .move (.const (.int .i64 0)), none⟩,
  ⟨some 3, .move (.const (.int .i64 0)), none⟩])
 (.ret))
 (.skip)))
 (.seq (.region [⟨some 39, .move (.tmp 4), none⟩,
  ⟨some 40, .bin .sub (.tmp 39) (.const (.int .u64 1)), none⟩,
  ⟨some 41, .move (.tmp 5), none⟩,
  ⟨some 42, .bin .quo (.tmp 40) (.tmp 41), none⟩,
  ⟨some 43, .bin .add (.tmp 42) (.const (.int .u64 1)), none⟩,
  ⟨some 7, .move (.tmp 43), none⟩])
 (.seq (.seq (.region [⟨some 44, .move (.tmp 7), none⟩,
  ⟨some 45, .bin .gtr (.tmp 44) (.const (.int .u64 200)), none⟩])
 (.cond (.tmp 45) (.seq (.region [⟨some 2, .move (.const (.int .i64 0)), none⟩,
  ⟨some 3, .move (.const (.int .i64 151)), none⟩])
 (.ret))
 (.skip)))
 (.seq (.region [⟨some 46, .move (.tmp 7), none⟩,
  ⟨some 47, .conv .i64 (.tmp 46), none⟩,
  ⟨some 2, .move (.tmp 47), none⟩,
  ⟨some 3, .move (.const (.int .i64 0)), none⟩])
 (.ret)))))))))
theorem light30 : Light Try.prog 30 1 48 L30 [.tmp 2, .tmp 3] :=
  ⟨Try.f30, _, Try.func30, rfl, rfl, by kernel_rfl, by kernel_rfl, by decide⟩

/-! ### function 31: outrider/plan.At -/
def L31 : LCode :=
 .seq (.region [⟨some 2, .box 26 6 (.tmp 0), none⟩,
  ⟨some 4, .move (.const (.int .i64 0)), none⟩,
  ⟨some 5, .move (.const (.int .i64 0)), none⟩,
  ⟨some 6, .move (.const (.int .i64 0)), none⟩])
 (.seq (.region [⟨some 10, .load true 6 (.tmp 2), none⟩,
  ⟨some 11, .call 20 [.tmp 10], none⟩,
  ⟨some 9, .move (.tmp 11), none⟩,
  ⟨some 12, .extract (.tmp 9) 0, none⟩,
  ⟨some 13, .extract (.tmp 9) 1, none⟩,
  ⟨some 7, .move (.tmp 12), none⟩,
  ⟨some 8, .move (.tmp 13), none⟩])
 (.seq (.seq (.region [⟨some 14, .move (.tmp 8), none⟩,
  ⟨some 15, .bin .neq (.tmp 14) (.const (.int .i64 0)), none⟩])
 (.cond (.tmp 15) (.seq (.region [⟨some 16, .move (.tmp 8), none⟩,
  ⟨some 4, .move (.const (.int .i64 0)), none⟩,
  ⟨some 5, .move (.const (.int .i64 0)), none⟩,
  ⟨some 6, .move (.tmp 16), none⟩])
 (.ret))
 (.skip)))
 (.seq (.seq (.region [⟨some 17, .move (.tmp 1), none⟩,
  ⟨some 18, .bin .lss (.tmp 17) (.const (.int .i64 0)), none⟩,
  ⟨some 19, .move (.tmp 18), none⟩,
  ⟨some 20, .move (.tmp 1), (some (19, false))⟩,
  ⟨some 21, .move (.tmp 7), (some (19, false))⟩,
  ⟨some 22, .bin .geq (.tmp 20) (.tmp 21), (some (19, false))⟩,
  ⟨some 23, .pick (.tmp 19) (.const (.bool true)) (.tmp 22), none⟩])
 (.cond (.tmp 23) (.seq (.region [⟨some 4, .move (.const (.int .i64 0)), none⟩,
  ⟨some 5, .move (.const (.int .i64 0)), none⟩,
  ⟨some 6, .move (.const (.int .i64 210)), none⟩])
 (.ret))
 (.skip)))
 (.seq (.seq (.region [⟨some 24, .off 0 (.tmp 2), none⟩,
  ⟨some 25, .load false 1 (.tmp 24), none⟩,
  ⟨some 26, .bin .eql (.tmp 25) (.const (.int .i64 2)), none⟩])
 (.cond (.tmp 26) (.seq (.draw [⟨⟨some 27, .move (.tmp 1), none⟩, .pure, 0, 0⟩,
  ⟨⟨some 28, .off 5 (.tmp 2), none⟩, .pure, 0, 0⟩,
  ⟨⟨some 29, .load false 1 (.tmp 28), none⟩, .read, 0, 0⟩,
  ⟨⟨some 30, .bin .quo (.tmp 27) (.tmp 29), none⟩, .pure, 0, 0⟩,
  ⟨⟨some 31, .move (.tmp 1), none⟩, .pure, 0, 0⟩,
  ⟨⟨some 32, .off 5 (.tmp 2), none⟩, .pure, 0, 0⟩,
  ⟨⟨some 33, .load false 1 (.tmp 32), none⟩, .read, 0, 0⟩,
  ⟨⟨some 34, .bin .rem (.tmp 31) (.tmp 33), none⟩, .pure, 0, 0⟩,
  ⟨⟨some 4, .move (.tmp 30), none⟩, .pure, 0, 0⟩,
  ⟨⟨some 5, .move (.tmp 34), none⟩, .pure, 0, 0⟩,
  ⟨⟨some 6, .move (.const (.int .i64 0)), none⟩, .pure, 0, 0⟩])
 (.ret))
 (.skip)))
 (.seq (.region [⟨some 35, .off 1 (.tmp 2), none⟩,
  ⟨some 36, .load false 1 (.tmp 35), none⟩,
  ⟨some 37, .move (.tmp 1), none⟩,
  ⟨some 38, .off 3 (.tmp 2), none⟩,
  ⟨some 39, .load false 1 (.tmp 38), none⟩,
  ⟨some 40, .bin .mul (.tmp 37) (.tmp 39), none⟩,
  ⟨some 41, .bin .add (.tmp 36) (.tmp 40), none⟩,
  ⟨some 4, .move (.tmp 41), none⟩,
  ⟨some 5, .move (.const (.int .i64 0)), none⟩,
  ⟨some 6, .move (.const (.int .i64 0)), none⟩])
 (.ret))))))
theorem light31 : Light Try.prog 31 2 42 L31 [.tmp 4, .tmp 5, .tmp 6] :=
  ⟨Try.f31, _, Try.func31, rfl, rfl, by kernel_rfl, by kernel_rfl, by decide⟩

/-! ### function 32: outrider/vm.Run -/
def L32_1 : LCode :=
 .seq (.seq (.region [⟨some 50, .move (.tmp 10), none⟩,
  ⟨some 51, .nilCheck (.tmp 50), none⟩,
  ⟨some 52, .off 0 (.tmp 51), none⟩,
  ⟨some 53, .off 18 (.tmp 52), none⟩,
  ⟨some 54, .load false 1 (.tmp 53), none⟩,
  ⟨some 55, .bin .eql (.tmp 54) (.const (.int .i64 0)), none⟩])
 (.cond (.tmp 55) (.skip)
 (.exit 0)))
 (.block 1 (.region [⟨some 56, .move (.tmp 10), none⟩,
  ⟨some 57, .move (.tmp 13), none⟩,
  ⟨some 58, .move (.tmp 10), none⟩,
  ⟨some 59, .call 48 [.tmp 58], none⟩,
  ⟨some 60, .callv (.tmp 57) [.tmp 59], none⟩,
  ⟨some 61, .call 47 [.tmp 56, .tmp 60], none⟩]))
def L32 : LCode :=
 .seq (.region [⟨some 7, .box 92 4 (.tmp 3), none⟩,
  ⟨some 8, .new 67 6 [.slice none 0 0, .slice none 0 0, .slice none 0 0, .int .i64 0, .int .i64 0, .int .i64 0], none⟩,
  ⟨some 9, .move (.const (.int .i64 0)), none⟩])
 (.seq (.region [⟨some 15, .move (.tmp 0), none⟩,
  ⟨some 16, .move (.tmp 1), none⟩,
  ⟨some 17, .off 0 (.tmp 7), none⟩,
  ⟨some 18, .load false 1 (.tmp 17), none⟩,
  ⟨some 19, .len (.tmp 18), none⟩,
  ⟨some 20, .move (.tmp 2), none⟩,
  ⟨some 21, .off 1 (.tmp 7), none⟩,
  ⟨some 22, .load false 1 (.tmp 21), none⟩,
  ⟨some 23, .off 2 (.tmp 7), none⟩,
  ⟨some 24, .load false 1 (.tmp 23), none⟩,
  ⟨some 25, .off 3 (.tmp 7), none⟩,
  ⟨some 26, .load false 1 (.tmp 25), none⟩,
  ⟨some 27, .call 45 [.tmp 15, .tmp 16, .tmp 19, .tmp 20, .tmp 22, .tmp 24, .tmp 26], none⟩,
  ⟨some 14, .move (.tmp 27), none⟩,
  ⟨some 28, .extract (.tmp 14) 0, none⟩,
  ⟨some 29, .extract (.tmp 14) 1, none⟩,
  ⟨some 10, .move (.tmp 28), none⟩,
  ⟨some 11, .move (.tmp 29), none⟩])
 (.seq (.seq (.region [⟨some 30, .move (.tmp 11), none⟩,
  ⟨some 31, .bin .neq (.tmp 30) (.const (.int .i64 0)), none⟩])
 (.cond (.tmp 31) (.seq (.region [⟨some 32, .build [.slice none 0 0, .slice none 0 0, .slice none 0 0, .int .i64 0, .int .i64 0, .int .i64 0] [], none⟩,
  ⟨some 33, .move (.tmp 11), none⟩,
  ⟨none, .store 6 (.tmp 8) (.tmp 32), none⟩,
  ⟨some 9, .move (.tmp 33), none⟩])
 (.ret))
 (.skip)))
 (.seq (.region [⟨some 34, .build [.slice none 0 0, .slice none 0 0, .slice none 0 0, .int .i64 0, .int .i64 0, .int .i64 0] [], none⟩,
  ⟨some 35, .box 120 6 (.tmp 34), none⟩,
  ⟨some 12, .move (.tmp 35), none⟩])
 (.seq (.draw [⟨⟨some 36, .move (.tmp 12), none⟩, .pure, 0, 1⟩,
  ⟨⟨some 37, .move (.tmp 12), none⟩, .pure, 0, 0⟩,
  ⟨⟨some 38, .nilCheck (.tmp 37), none⟩, .pure, 0, 0⟩,
  ⟨⟨some 39, .off 0 (.tmp 38), none⟩, .pure, 0, 0⟩,
  ⟨⟨some 40, .off 0 (.tmp 39), none⟩, .pure, 0, 0⟩,
  ⟨⟨some 41, .load false 1 (.tmp 40), none⟩, .read, 0, 0⟩,
  ⟨⟨some 42, .off 0 (.tmp 7), none⟩, .pure, 0, 0⟩,
  ⟨⟨some 43, .load false 1 (.tmp 42), none⟩, .read, 0, 0⟩,
  ⟨⟨some 44, .append 2 1 8 (.tmp 41) (.tmp 43), none⟩, .heavy, 0, 1⟩,
  ⟨⟨some 45, .nilCheck (.tmp 36), none⟩, .pure, 1, 1⟩,
  ⟨⟨some 46, .off 0 (.tmp 45), none⟩, .pure, 1, 1⟩,
  ⟨⟨some 47, .off 0 (.tmp 46), none⟩, .pure, 1, 1⟩,
  ⟨⟨none, .store 1 (.tmp 47) (.tmp 44), none⟩, .heavy, 1, 2⟩])
 (.seq (.region [⟨some 48, .move (.tmp 12), none⟩,
  ⟨some 49, .func (.func 46) [.tmp 48] [], none⟩,
  ⟨some 13, .move (.tmp 49), none⟩])
 (.seq (.block 0 (.loop L32_1))
 (.seq (.draw [⟨⟨some 62, .move (.tmp 12), none⟩, .pure, 0, 0⟩,
  ⟨⟨some 63, .move (.tmp 12), none⟩, .pure, 0, 1⟩,
  ⟨⟨some 64, .move (.tmp 12), none⟩, .pure, 0, 2⟩,
  ⟨⟨some 65, .move (.tmp 10), none⟩, .pure, 0, 0⟩,
  ⟨⟨some 66, .nilCheck (.tmp 65), none⟩, .pure, 0, 0⟩,
  ⟨⟨some 67, .off 0 (.tmp 66), none⟩, .pure, 0, 0⟩,
  ⟨⟨some 68, .off 18 (.tmp 67), none⟩, .pure, 0, 0⟩,
  ⟨⟨some 69, .load false 1 (.tmp 68), none⟩, .read, 0, 0⟩,
  ⟨⟨some 70, .move (.tmp 10), none⟩, .pure, 0, 0⟩,
  ⟨⟨some 71, .nilCheck (.tmp 70), none⟩, .pure, 0, 0⟩,
  ⟨⟨some 72, .off 0 (.tmp 71), none⟩, .pure, 0, 0⟩,
  ⟨⟨some 73, .off 19 (.tmp 72), none⟩, .pure, 0, 0⟩,
  ⟨⟨some 74, .load false 1 (.tmp 73), none⟩, .read, 0, 0⟩,
  ⟨⟨some 75, .move (.tmp 10), none⟩, .pure, 0, 0⟩,
  ⟨⟨some 76, .nilCheck (.tmp 75), none⟩, .pure, 0, 0⟩,
  ⟨⟨some 77, .off 0 (.tmp 76), none⟩, .pure, 0, 0⟩,
  ⟨⟨some 78, .off 17 (.tmp 77), none⟩, .pure, 0, 0⟩,
  ⟨⟨some 79, .load false 1 (.tmp 78), none⟩, .read, 0, 0⟩,
  ⟨⟨some 80, .nilCheck (.tmp 62), none⟩, .pure, 0, 0⟩,
  ⟨⟨some 81, .off 0 (.tmp 80), none⟩, .pure, 0, 0⟩,
  ⟨⟨some 82, .off 3 (.tmp 81), none⟩, .pure, 0, 0⟩,
  ⟨⟨none, .store 1 (.tmp 82) (.tmp 69), none⟩, .heavy, 0, 1⟩,
  ⟨⟨some 83, .nilCheck (.tmp 63), none⟩, .pure, 1, 1⟩,
  ⟨⟨some 84, .off 0 (.tmp 83), none⟩, .pure, 1, 1⟩,
  ⟨⟨some 85, .off 4 (.tmp 84), none⟩, .pure, 1, 1⟩,
  ⟨⟨none, .store 1 (.tmp 85) (.tmp 74), none⟩, .heavy, 1, 2⟩,
  ⟨⟨some 86, .nilCheck (.tmp 64), none⟩, .pure, 2, 2⟩,
  ⟨⟨some 87, .off 0 (.tmp 86), none⟩, .pure, 2, 2⟩,
  ⟨⟨some 88, .off 5 (.tmp 87), none⟩, .pure, 2, 2⟩,
  ⟨⟨none, .store 1 (.tmp 88) (.tmp 79), none⟩, .heavy, 2, 3⟩])
 (.seq (.region [⟨some 89, .move (.tmp 12), none⟩,
  ⟨some 90, .nilCheck (.tmp 89), none⟩,
  ⟨some 91, .off 0 (.tmp 90), none⟩,
  ⟨some 92, .load true 6 (.tmp 91), none⟩,
  ⟨none, .store 6 (.tmp 8) (.tmp 92), none⟩,
  ⟨some 9, .move (.const (.int .i64 0)), none⟩])
 (.ret)))))))))
theorem light32 : Light Try.prog 32 4 93 L32 [.cell 8 true 6, .tmp 9] :=
  ⟨Try.f32, _, Try.func32, rfl, rfl, by kernel_rfl, by kernel_rfl, by decide⟩

/-! ### function 33: outrider/red.New -/
def L33_1 : LCode :=
 .seq (.region [⟨some 15, .bin .lss (.tmp 14) (.tmp 13), none⟩])
 (.seq (.cond (.tmp 15) (.skip)
 (.exit 0))
 (.seq (.block 1 (.seq (.region [⟨some 16, .idx 2 (.tmp 12) (.tmp 14), none⟩,
  ⟨some 17, .load true 2 (.tmp 16), none⟩,
  ⟨some 6, .new 87 2 [.int .i64 0, .int .i64 0], none⟩,
  ⟨none, .store 2 (.tmp 6) (.tmp 17), none⟩])
 (.seq (.seq (.region [⟨some 18, .off 0 (.tmp 6), none⟩,
  ⟨some 19, .load false 1 (.tmp 18), none⟩,
  ⟨some 20, .call 49 [.tmp 19], none⟩,
  ⟨some 21, .un .not (.tmp 20), none⟩])
 (.cond (.tmp 21) (.seq (.region [⟨some 2, .move (.const (.pointer none)), none⟩,
  ⟨some 3, .move (.const (.int .i64 140)), none⟩])
 (.ret))
 (.skip)))
 (.seq (.draw [⟨⟨some 22, .move (.tmp 4), none⟩, .pure, 0, 2⟩,
  ⟨⟨some 23, .move (.tmp 4), none⟩, .pure, 0, 1⟩,
  ⟨⟨some 24, .nilCheck (.tmp 23), none⟩, .pure, 0, 1⟩,
  ⟨⟨some 25, .off 0 (.tmp 24), none⟩, .pure, 0, 1⟩,
  ⟨⟨some 26, .load false 1 (.tmp 25), none⟩, .read, 0, 1⟩,
  ⟨⟨some 27, .off 0 (.tmp 6), none⟩, .pure, 0, 0⟩,
  ⟨⟨some 28, .load false 1 (.tmp 27), none⟩, .read, 0, 0⟩,
  ⟨⟨some 29, .buildSlice 85 1 1 [.int .i64 0] [(0, 1, .tmp 28)], none⟩, .heavy, 0, 1⟩,
  ⟨⟨some 30, .append 85 1 8 (.tmp 26) (.tmp 29), none⟩, .heavy, 1, 2⟩,
  ⟨⟨some 31, .nilCheck (.tmp 22), none⟩, .pure, 2, 2⟩,
  ⟨⟨some 32, .off 0 (.tmp 31), none⟩, .pure, 2, 2⟩,
  ⟨⟨none, .store 1 (.tmp 32) (.tmp 30), none⟩, .heavy, 2, 3⟩])
 (.draw [⟨⟨some 33, .move (.tmp 4), none⟩, .pure, 0, 3⟩,
  ⟨⟨some 34, .move (.tmp 4), none⟩, .pure, 0, 2⟩,
  ⟨⟨some 35, .nilCheck (.tmp 34), none⟩, .pure, 0, 2⟩,
  ⟨⟨some 36, .off 1 (.tmp 35), none⟩, .pure, 0, 2⟩,
  ⟨⟨some 37, .load false 1 (.tmp 36), none⟩, .read, 0, 2⟩,
  ⟨⟨some 38, .off 0 (.tmp 6), none⟩, .pure, 0, 0⟩,
  ⟨⟨some 39, .load false 1 (.tmp 38), none⟩, .read, 0, 0⟩,
  ⟨⟨some 40, .call 50 [.tmp 39], none⟩, .heavy, 0, 1⟩,
  ⟨⟨some 41, .buildSlice 2 1 1 [.int .i64 0] [(0, 1, .tmp 40)], none⟩, .heavy, 1, 2⟩,
  ⟨⟨some 42, .append 2 1 8 (.tmp 37) (.tmp 41), none⟩, .heavy, 2, 3⟩,
  ⟨⟨some 43, .nilCheck (.tmp 33), none⟩, .pure, 3, 3⟩,
  ⟨⟨some 44, .off 1 (.tmp 43), none⟩, .pure, 3, 3⟩,
  ⟨⟨none, .store 1 (.tmp 44) (.tmp 42), none⟩, .heavy, 3, 4⟩])))))
 (.region [⟨some 45, .bin .add (.tmp 14) (.const (.int .i64 1)), none⟩,
  ⟨some 14, .move (.tmp 45), none⟩])))
def L33 : LCode :=
 .seq (.region [⟨some 2, .move (.const (.pointer none)), none⟩,
  ⟨some 3, .move (.const (.int .i64 0)), none⟩])
 (.seq (.seq (.region [⟨some 7, .move (.tmp 0), none⟩,
  ⟨some 8, .len (.tmp 7), none⟩,
  ⟨some 9, .bin .gtr (.tmp 8) (.const (.int .i64 4)), none⟩])
 (.cond (.tmp 9) (.seq (.region [⟨some 2, .move (.const (.pointer none)), none⟩,
  ⟨some 3, .move (.const (.int .i64 171)), none⟩])
 (.ret))
 (.skip)))
 (.seq (.region [⟨some 10, .build [.slice none 0 0, .slice none 0 0, .int .i64 0] [], none⟩,
  ⟨some 11, .box 134 3 (.tmp 10), none⟩,
  ⟨some 4, .move (.tmp 11), none⟩])
 (.seq (.seq (.region [⟨some 12, .move (.tmp 0), none⟩,
  ⟨some 13, .len (.tmp 12), none⟩,
  ⟨some 14, .move (.const (.int .i64 0)), none⟩])
 (.block 0 (.loop L33_1)))
 (.seq (.region [⟨some 46, .move (.tmp 4), none⟩,
  ⟨some 2, .move (.tmp 46), none⟩,
  ⟨some 3, .move (.const (.int .i64 0)), none⟩])
 (.ret)))))
theorem light33 : Light Try.prog 33 1 47 L33 [.tmp 2, .tmp 3] :=
  ⟨Try.f33, _, Try.func33, rfl, rfl, by kernel_rfl, by kernel_rfl, by decide⟩

/-! ### function 34: (*outrider/red.Heap).Add -/
def L34 : LCode :=
 .seq (.region [⟨some 6, .move (.const (.bool false)), none⟩])
 (.seq (.seq (.region [⟨some 7, .move (.tmp 1), none⟩,
  ⟨some 8, .bin .lss (.tmp 7) (.const (.int .i64 0)), none⟩,
  ⟨some 9, .move (.tmp 8), none⟩,
  ⟨some 10, .move (.tmp 1), (some (9, false))⟩,
  ⟨some 11, .move (.tmp 0), (some (9, false))⟩,
  ⟨some 12, .nilCheck (.tmp 11), (some (9, false))⟩,
  ⟨some 13, .off 0 (.tmp 12), (some (9, false))⟩,
  ⟨some 14, .load false 1 (.tmp 13), (some (9, false))⟩,
  ⟨some 15, .len (.tmp 14), (some (9, false))⟩,
  ⟨some 16, .bin .geq (.tmp 10) (.tmp 15), (some (9, false))⟩,
  ⟨some 17, .pick (.tmp 9) (.const (.bool true)) (.tmp 16), none⟩])
 (.cond (.tmp 17) (.seq (.region [⟨some 6, .move (.const (.bool false)), none⟩])
 (.ret))
 (.skip)))
 (.seq (.draw [⟨⟨some 18, .move (.tmp 0), none⟩, .pure, 0, 1⟩,
  ⟨⟨some 19, .nilCheck (.tmp 18), none⟩, .pure, 0, 1⟩,
  ⟨⟨some 20, .off 1 (.tmp 19), none⟩, .pure, 0, 1⟩,
  ⟨⟨some 21, .load false 1 (.tmp 20), none⟩, .read, 0, 1⟩,
  ⟨⟨some 22, .move (.tmp 1), none⟩, .pure, 0, 1⟩,
  ⟨⟨some 23, .move (.tmp 0), none⟩, .pure, 0, 0⟩,
  ⟨⟨some 24, .nilCheck (.tmp 23), none⟩, .pure, 0, 0⟩,
  ⟨⟨some 25, .off 0 (.tmp 24), none⟩, .pure, 0, 0⟩,
  ⟨⟨some 26, .load false 1 (.tmp 25), none⟩, .read, 0, 0⟩,
  ⟨⟨some 27, .move (.tmp 1), none⟩, .pure, 0, 0⟩,
  ⟨⟨some 28, .idx 1 (.tmp 26) (.tmp 27), none⟩, .pure, 0, 0⟩,
  ⟨⟨some 29, .load false 1 (.tmp 28), none⟩, .read, 0, 0⟩,
  ⟨⟨some 30, .move (.tmp 0), none⟩, .pure, 0, 0⟩,
  ⟨⟨some 31, .nilCheck (.tmp 30), none⟩, .pure, 0, 0⟩,
  ⟨⟨some 32, .off 1 (.tmp 31), none⟩, .pure, 0, 0⟩,
  ⟨⟨some 33, .load false 1 (.tmp 32), none⟩, .read, 0, 0⟩,
  ⟨⟨some 34, .move (.tmp 1), none⟩, .pure, 0, 0⟩,
  ⟨⟨some 35, .idx 1 (.tmp 33) (.tmp 34), none⟩, .pure, 0, 0⟩,
  ⟨⟨some 36, .load false 1 (.tmp 35), none⟩, .read, 0, 0⟩,
  ⟨⟨some 37, .move (.tmp 2), none⟩, .pure, 0, 0⟩,
  ⟨⟨some 38, .call 51 [.tmp 29, .tmp 36, .tmp 37], none⟩, .heavy, 0, 1⟩,
  ⟨⟨some 39, .idx 1 (.tmp 21) (.tmp 22), none⟩, .pure, 1, 1⟩,
  ⟨⟨none, .store 1 (.tmp 39) (.tmp 38), none⟩, .heavy, 1, 2⟩])
 (.seq (.region [⟨some 40, .move (.tmp 0), none⟩,
  ⟨some 41, .nilCheck (.tmp 40), none⟩,
  ⟨some 42, .off 2 (.tmp 41), none⟩,
  ⟨some 43, .load false 1 (.tmp 42), none⟩,
  ⟨some 44, .bin .add (.tmp 43) (.const (.int .i64 1)), none⟩,
  ⟨some 45, .nilCheck (.tmp 40), none⟩,
  ⟨some 46, .off 2 (.tmp 45), none⟩,
  ⟨none, .store 1 (.tmp 46) (.tmp 44), none⟩])
 (.seq (.region [⟨some 6, .move (.const (.bool true)), none⟩])
 (.ret)))))
theorem light34 : Light Try.prog 34 3 47 L34 [.tmp 6] :=
  ⟨Try.f34, _, Try.func34, rfl, rfl, by kernel_rfl, by kernel_rfl, by decide⟩

/-! ### function 35: (*outrider/red.Heap).Onto -/
def L35_1 : LCode :=
 .seq (.region [⟨some 23, .bin .lss (.tmp 22) (.tmp 21), none⟩])
 (.seq (.cond (.tmp 23) (.skip)
 (.exit 0))
 (.seq (.block 1 (.seq (.region [⟨some 24, .move (.tmp 22), none⟩,
  ⟨some 25, .idx 1 (.tmp 20) (.tmp 22), none⟩,
  ⟨some 26, .load false 1 (.tmp 25), none⟩,
  ⟨some 7, .move (.tmp 24), none⟩,
  ⟨some 8, .move (.tmp 26), none⟩])
 (.draw [⟨⟨some 27, .move (.tmp 6), none⟩, .pure, 0, 2⟩,
  ⟨⟨some 28, .move (.tmp 8), none⟩, .pure, 0, 0⟩,
  ⟨⟨some 29, .move (.tmp 1), none⟩, .pure, 0, 0⟩,
  ⟨⟨some 30, .move (.tmp 7), none⟩, .pure, 0, 0⟩,
  ⟨⟨some 31, .idx 1 (.tmp 29) (.tmp 30), none⟩, .pure, 0, 0⟩,
  ⟨⟨some 32, .load false 1 (.tmp 31), none⟩, .read, 0, 0⟩,
  ⟨⟨some 33, .move (.tmp 0), none⟩, .pure, 0, 0⟩,
  ⟨⟨some 34, .nilCheck (.tmp 33), none⟩, .pure, 0, 0⟩,
  ⟨⟨some 35, .off 1 (.tmp 34), none⟩, .pure, 0, 0⟩,
  ⟨⟨some 36, .load false 1 (.tmp 35), none⟩, .read, 0, 0⟩,
  ⟨⟨some 37, .move (.tmp 7), none⟩, .pure, 0, 0⟩,
  ⟨⟨some 38, .idx 1 (.tmp 36) (.tmp 37), none⟩, .pure, 0, 0⟩,
  ⟨⟨some 39, .load false 1 (.tmp 38), none⟩, .read, 0, 0⟩,
  ⟨⟨some 40, .call 51 [.tmp 28, .tmp 32, .tmp 39], none⟩, .heavy, 0, 1⟩,
  ⟨⟨some 41, .buildSlice 2 1 1 [.int .i64 0] [(0, 1, .tmp 40)], none⟩, .heavy, 1, 2⟩,
  ⟨⟨some 42, .append 2 1 8 (.tmp 27) (.tmp 41), none⟩, .heavy, 2, 3⟩,
  ⟨⟨some 6, .move (.tmp 42), none⟩, .pure, 3, 3⟩])))
 (.region [⟨some 43, .bin .add (.tmp 22) (.const (.int .i64 1)), none⟩,
  ⟨some 22, .move (.tmp 43), none⟩])))
def L35 : LCode :=
 .seq (.region [⟨some 4, .move (.const (.slice none 0 0)), none⟩,
  ⟨some 5, .move (.const (.bool false)), none⟩])
 (.seq (.seq (.region [⟨some 9, .move (.tmp 1), none⟩,
  ⟨some 10, .len (.tmp 9), none⟩,
  ⟨some 11, .move (.tmp 0), none⟩,
  ⟨some 12, .nilCheck (.tmp 11), none⟩,
  ⟨some 13, .off 1 (.tmp 12), none⟩,
  ⟨some 14, .load false 1 (.tmp 13), none⟩,
  ⟨some 15, .len (.tmp 14), none⟩,
  ⟨some 16, .bin .neq (.tmp 10) (.tmp 15), none⟩])
 (.cond (.tmp 16) (.seq (.region [⟨some 4, .move (.const (.slice none 0 0)), none⟩,
  ⟨some 5, .move (.const (.bool false)), none⟩])
 (.ret))
 (.skip)))
 (.seq (.region [⟨some 6, .move (.const (.slice none 0 0)), none⟩])
 (.seq (.seq (.region [⟨some 17, .move (.tmp 0), none⟩,
  ⟨some 18, .nilCheck (.tmp 17), none⟩,
  ⟨some 19, .off 0 (.tmp 18), none⟩,
  ⟨some 20, .load false 1 (.tmp 19), none⟩,
  ⟨some 21, .len (.tmp 20), none⟩,
  ⟨some 22, .move (.const (.int .i64 0)), none⟩])
 (.block 0 (.loop L35_1)))
 (.seq (.region [⟨some 44, .move (.tmp 6), none⟩,
  ⟨some 4, .move (.tmp 44), none⟩,
  ⟨some 5, .move (.const (.bool true)), none⟩])
 (.ret)))))
theorem light35 : Light Try.prog 35 2 45 L35 [.tmp 4, .tmp 5] :=
  ⟨Try.f35, _, Try.func35, rfl, rfl, by kernel_rfl, by kernel_rfl, by decide⟩

/-! ### function 36: outrider/plan.Stages -/
def L36 : LCode :=
 .seq (.region [⟨some 1, .box 26 6 (.tmp 0), none⟩,
  ⟨some 2, .move (.const (.int .i64 0)), none⟩])
 (.seq (.seq (.region [⟨some 3, .off 0 (.tmp 1), none⟩,
  ⟨some 4, .load false 1 (.tmp 3), none⟩,
  ⟨some 5, .bin .eql (.tmp 4) (.const (.int .i64 2)), none⟩])
 (.cond (.tmp 5) (.seq (.region [⟨some 6, .off 5 (.tmp 1), none⟩,
  ⟨some 7, .load false 1 (.tmp 6), none⟩,
  ⟨some 2, .move (.tmp 7), none⟩])
 (.ret))
 (.skip)))
 (.seq (.region [⟨some 2, .move (.const (.int .i64 1)), none⟩])
 (.ret)))
theorem light36 : Light Try.prog 36 1 8 L36 [.tmp 2] :=
  ⟨Try.f36, _, Try.func36, rfl, rfl, by kernel_rfl, by kernel_rfl, by decide⟩

/-! ### function 37: outrider/ins.Check -/
def L37_1 : LCode :=
 .seq (.region [⟨some 21, .bin .lss (.tmp 20) (.tmp 19), none⟩])
 (.seq (.cond (.tmp 21) (.skip)
 (.exit 0))
 (.seq (.block 1 (.seq (.region [⟨some 22, .move (.tmp 20), none⟩,
  ⟨some 23, .idx 6 (.tmp 18) (.tmp 20), none⟩,
  ⟨some 24, .load true 6 (.tmp 23), none⟩,
  ⟨some 7, .new 55 6 [.int .i64 0, .int .i64 0, .int .i64 0, .int .i64 0, .int .i64 0, .int .i64 0], none⟩,
  ⟨some 6, .move (.tmp 22), none⟩,
  ⟨none, .store 6 (.tmp 7) (.tmp 24), none⟩])
 (.seq (.region [⟨some 25, .load true 6 (.tmp 7), none⟩,
  ⟨some 26, .move (.tmp 1), none⟩,
  ⟨some 27, .move (.tmp 0), none⟩,
  ⟨some 28, .len (.tmp 27), none⟩,
  ⟨some 29, .call 52 [.tmp 25, .tmp 26, .tmp 28], none⟩,
  ⟨some 8, .move (.tmp 29), none⟩])
 (.seq (.region [⟨some 30, .move (.tmp 8), none⟩,
  ⟨some 31, .bin .neq (.tmp 30) (.const (.int .i64 0)), none⟩])
 (.cond (.tmp 31) (.seq (.region [⟨some 32, .move (.tmp 6), none⟩,
  ⟨some 33, .move (.tmp 8), none⟩,
  ⟨some 4, .move (.tmp 32), none⟩,
  ⟨some 5, .move (.tmp 33), none⟩])
 (.ret))
 (.skip))))))
 (.region [⟨some 34, .bin .add (.tmp 20) (.const (.int .i64 1)), none⟩,
  ⟨some 20, .move (.tmp 34), none⟩])))
def L37 : LCode :=
 .seq (.region [⟨some 4, .move (.const (.int .i64 0)), none⟩,
  ⟨some 5, .move (.const (.int .i64 0)), none⟩])
 (.seq (.seq (.region [⟨some 10, .move (.tmp 0), none⟩,
  ⟨some 11, .len (.tmp 10), none⟩,
  ⟨some 12, .bin .eql (.tmp 11) (.const (.int .i64 0)), none⟩,
  ⟨some 13, .move (.tmp 12), none⟩,
  ⟨some 14, .move (.tmp 0), (some (13, false))⟩,
  ⟨some 15, .len (.tmp 14), (some (13, false))⟩,
  ⟨some 16, .bin .gtr (.tmp 15) (.const (.int .i64 600)), (some (13, false))⟩,
  ⟨some 17, .pick (.tmp 13) (.const (.bool true)) (.tmp 16), none⟩])
 (.cond (.tmp 17) (.seq (.region [⟨some 4, .move (.const (.int .i64 0)), none⟩,
  ⟨some 5, .move (.const (.int .i64 80)), none⟩])
 (.ret))
 (.skip)))
 (.seq (.seq (.region [⟨some 18, .move (.tmp 0), none⟩,
  ⟨some 19, .len (.tmp 18), none⟩,
  ⟨some 20, .move (.const (.int .i64 0)), none⟩])
 (.block 0 (.loop L37_1)))
 (.seq (.region [⟨some 35, .move (.tmp 0), none⟩,
  ⟨some 36, .len (.tmp 35), none⟩,
  ⟨some 37, .bin .sub (.tmp 36) (.const (.int .i64 1)), none⟩,
  ⟨some 9, .move (.tmp 37), none⟩])
 (.seq (.seq (.region [⟨some 38, .move (.tmp 0), none⟩,
  ⟨some 39, .move (.tmp 9), none⟩,
  ⟨some 40, .idx 6 (.tmp 38) (.tmp 39), none⟩,
  ⟨some 41, .load true 6 (.tmp 40), none⟩,
  ⟨some 42, .call 53 [.tmp 41], none⟩])
 (.cond (.tmp 42) (.seq (.region [⟨some 43, .move (.tmp 9), none⟩,
  ⟨some 4, .move (.tmp 43), none⟩,
  ⟨some 5, .move (.const (.int .i64 85)), none⟩])
 (.ret))
 (.skip)))
 (.seq (.region [⟨some 4, .move (.const (.int .i64 0)), none⟩,
  ⟨some 5, .move (.const (.int .i64 0)), none⟩])
 (.ret))))))
theorem light37 : Light Try.prog 37 2 44 L37 [.tmp 4, .tmp 5] :=
  ⟨Try.f37, _, Try.func37, rfl, rfl, by kernel_rfl, by kernel_rfl, by decide⟩

/-! ### function 38: outrider/num.size -/
def L38 : LCode :=
 .seq (.region [⟨some 2, .move (.const (.int .u64 0)), none⟩])
 (.seq (.seq (.region [⟨some 3, .move (.tmp 0), none⟩,
  ⟨some 4, .bin .lss (.tmp 3) (.const (.int .i64 0)), none⟩])
 (.cond (.tmp 4) (.seq (.region [⟨some 5, .move (.tmp 0), none⟩,
  ⟨some 6, .conv .u64 (.tmp 5), none⟩,
  ⟨some 7, .un .neg (.tmp 6), none⟩,
  ⟨some 2, .move (.tmp 7), none⟩])
 (.ret))
 (.skip)))
 (.seq (.region [⟨some 8, .move (.tmp 0), none⟩,
  ⟨some 9, .conv .u64 (.tmp 8), none⟩,
  ⟨some 2, .move (.tmp 9), none⟩])
 (.ret)))
theorem light38 : Light Try.prog 38 1 10 L38 [.tmp 2] :=
  ⟨Try.f38, _, Try.func38, rfl, rfl, by kernel_rfl, by kernel_rfl, by decide⟩

/-! ### function 39: outrider/outriderref01.size -/
def L39 : LCode :=
 .seq (.region [⟨some 2, .move (.const (.int .u64 0)), none⟩])
 (.seq (.seq (.region [⟨some 3, .move (.tmp 0), none⟩,
  ⟨some 4, .bin .lss (.tmp 3) (.const (.int .i64 0)), none⟩])
 (.cond (.tmp 4) (.seq (.region [⟨some 5, .move (.tmp 0), none⟩,
  ⟨some 6, .call 54 [.tmp 5], none⟩,
  ⟨some 7, .conv .u64 (.tmp 6), none⟩,
  ⟨some 2, .move (.tmp 7), none⟩])
 (.ret))
 (.skip)))
 (.seq (.region [⟨some 8, .move (.tmp 0), none⟩,
  ⟨some 9, .conv .u64 (.tmp 8), none⟩,
  ⟨some 2, .move (.tmp 9), none⟩])
 (.ret)))
theorem light39 : Light Try.prog 39 1 10 L39 [.tmp 2] :=
  ⟨Try.f39, _, Try.func39, rfl, rfl, by kernel_rfl, by kernel_rfl, by decide⟩

/-! ### function 40: outrider/outriderref01.Long -/
def L40_1 : LCode :=
 .seq (.seq (.region [⟨some 10, .move (.tmp 8), none⟩,
  ⟨some 11, .bin .geq (.tmp 10) (.const (.int .i64 0)), none⟩])
 (.cond (.tmp 11) (.skip)
 (.exit 0)))
 (.seq (.block 1 (.seq (.region [⟨some 14, .move (.tmp 7), none⟩,
  ⟨some 15, .bin .shr (.tmp 14) (.const (.int .u64 63)), none⟩,
  ⟨some 16, .bin .eql (.tmp 15) (.const (.int .u64 1)), none⟩,
  ⟨some 9, .move (.tmp 16), none⟩])
 (.seq (.region [⟨some 17, .move (.tmp 7), none⟩,
  ⟨some 18, .bin .shl (.tmp 17) (.const (.int .u64 1)), none⟩,
  ⟨some 19, .move (.tmp 0), none⟩,
  ⟨some 20, .move (.tmp 8), none⟩,
  ⟨some 21, .conv .u64 (.tmp 20), none⟩,
  ⟨some 22, .bin .shr (.tmp 19) (.tmp 21), none⟩,
  ⟨some 23, .bin .and (.tmp 22) (.const (.int .u64 1)), none⟩,
  ⟨some 24, .bin .or (.tmp 18) (.tmp 23), none⟩,
  ⟨some 7, .move (.tmp 24), none⟩])
 (.seq (.region [⟨some 25, .move (.tmp 6), none⟩,
  ⟨some 26, .bin .shl (.tmp 25) (.const (.int .u64 1)), none⟩,
  ⟨some 6, .move (.tmp 26), none⟩])
 (.seq (.region [⟨some 27, .move (.tmp 9), none⟩,
  ⟨some 28, .move (.tmp 27), none⟩,
  ⟨some 29, .move (.tmp 7), (some (28, false))⟩,
  ⟨some 30, .move (.tmp 1), (some (28, false))⟩,
  ⟨some 31, .bin .geq (.tmp 29) (.tmp 30), (some (28, false))⟩,
  ⟨some 32, .pick (.tmp 28) (.const (.bool true)) (.tmp 31), none⟩])
 (.cond (.tmp 32) (.seq (.region [⟨some 33, .move (.tmp 7), none⟩,
  ⟨some 34, .move (.tmp 1), none⟩,
  ⟨some 35, .bin .sub (.tmp 33) (.tmp 34), none⟩,
  ⟨some 7, .move (.tmp 35), none⟩])
 (.region [⟨some 36, .move (.tmp 6), none⟩,
  ⟨some 37, .bin .or (.tmp 36) (.const (.int .u64 1)), none⟩,
  ⟨some 6, .move (.tmp 37), none⟩]))
 (.skip)))))))
 (.region [⟨some 12, .move (.tmp 8), none⟩,
  ⟨some 13, .bin .sub (.tmp 12) (.const (.int .i64 1)), none⟩,
  ⟨some 8, .move (.tmp 13), none⟩]))
def L40 : LCode :=
 .seq (.region [⟨some 4, .move (.const (.int .u64 0)), none⟩,
  ⟨some 5, .move (.const (.int .u64 0)), none⟩])
 (.seq (.region [⟨some 6, .move (.const (.int .u64 0)), none⟩,
  ⟨some 7, .move (.const (.int .u64 0)), none⟩])
 (.seq (.seq (.region [⟨some 8, .move (.const (.int .i64 63)), none⟩])
 (.block 0 (.loop L40_1)))
 (.seq (.region [⟨some 38, .move (.tmp 6), none⟩,
  ⟨some 39, .move (.tmp 7), none⟩,
  ⟨some 4, .move (.tmp 38), none⟩,
  ⟨some 5, .move (.tmp 39), none⟩])
 (.ret))))
theorem light40 : Light Try.prog 40 2 40 L40 [.tmp 4, .tmp 5] :=
  ⟨Try.f40, _, Try.func40, rfl, rfl, by kernel_rfl, by kernel_rfl, by decide⟩

/-! ### function 41: outrider/trace.lean -/
def L41 : LCode :=
 .seq (.region [⟨some 1, .box 58 6 (.tmp 0), none⟩,
  ⟨some 2, .move (.const (.bool false)), none⟩])
 (.seq (.region [⟨some 4, .off 0 (.tmp 1), none⟩,
  ⟨some 5, .load false 1 (.tmp 4), none⟩,
  ⟨some 6, .off 2 (.tmp 1), none⟩,
  ⟨some 7, .load false 1 (.tmp 6), none⟩,
  ⟨some 8, .build [.int .i64 0, .int .i64 0, .int .i64 0, .int .i64 0, .int .i64 0, .int .i64 0] [(0, 1, .tmp 5), (2, 1, .tmp 7)], none⟩,
  ⟨some 3, .new 58 6 [.int .i64 0, .int .i64 0, .int .i64 0, .int .i64 0, .int .i64 0, .int .i64 0], none⟩,
  ⟨none, .store 6 (.tmp 3) (.tmp 8), none⟩])
 (.seq (.seq (.region [⟨some 9, .off 0 (.tmp 1), none⟩,
  ⟨some 10, .load false 1 (.tmp 9), none⟩])
 (.block 0 (.seq (.region [⟨some 12, .bin .eql (.tmp 10) (.const (.int .i64 1)), none⟩,
  ⟨some 11, .move (.tmp 12), none⟩])
 (.cond (.tmp 11) (.region [⟨some 13, .off 1 (.tmp 1), none⟩,
  ⟨some 14, .load false 1 (.tmp 13), none⟩,
  ⟨some 15, .off 1 (.tmp 3), none⟩,
  ⟨none, .store 1 (.tmp 15) (.tmp 14), none⟩])
 (.seq (.region [⟨some 17, .bin .eql (.tmp 10) (.const (.int .i64 2)), none⟩,
  ⟨some 16, .move (.tmp 17), none⟩])
 (.cond (.tmp 16) (.draw [⟨⟨some 18, .off 3 (.tmp 1), none⟩, .pure, 0, 0⟩,
  ⟨⟨some 19, .load false 1 (.tmp 18), none⟩, .read, 0, 0⟩,
  ⟨⟨some 20, .off 4 (.tmp 1), none⟩, .pure, 0, 1⟩,
  ⟨⟨some 21, .load false 1 (.tmp 20), none⟩, .read, 0, 1⟩,
  ⟨⟨some 22, .off 5 (.tmp 1), none⟩, .pure, 0, 2⟩,
  ⟨⟨some 23, .load false 1 (.tmp 22), none⟩, .read, 0, 2⟩,
  ⟨⟨some 24, .off 3 (.tmp 3), none⟩, .pure, 0, 0⟩,
  ⟨⟨none, .store 1 (.tmp 24) (.tmp 19), none⟩, .heavy, 0, 1⟩,
  ⟨⟨some 25, .off 4 (.tmp 3), none⟩, .pure, 1, 1⟩,
  ⟨⟨none, .store 1 (.tmp 25) (.tmp 21), none⟩, .heavy, 1, 2⟩,
  ⟨⟨some 26, .off 5 (.tmp 3), none⟩, .pure, 2, 2⟩,
  ⟨⟨none, .store 1 (.tmp 26) (.tmp 23), none⟩, .heavy, 2, 3⟩])
 (.seq (.seq (.region [⟨some 28, .bin .eql (.tmp 10) (.const (.int .i64 3)), none⟩,
  ⟨some 27, .move (.tmp 28), none⟩])
 (.cond (.tmp 27) (.skip)
 (.seq (.region [⟨some 29, .bin .eql (.tmp 10) (.const (.int .i64 5)), none⟩,
  ⟨some 27, .move (.tmp 29), none⟩])
 (.cond (.tmp 27) (.skip)
 (.region [⟨some 30, .bin .eql (.tmp 10) (.const (.int .i64 8)), none⟩,
  ⟨some 27, .move (.tmp 30), none⟩])))))
 (.cond (.tmp 27) (.draw [⟨⟨some 31, .off 3 (.tmp 1), none⟩, .pure, 0, 0⟩,
  ⟨⟨some 32, .load false 1 (.tmp 31), none⟩, .read, 0, 0⟩,
  ⟨⟨some 33, .off 4 (.tmp 1), none⟩, .pure, 0, 1⟩,
  ⟨⟨some 34, .load false 1 (.tmp 33), none⟩, .read, 0, 1⟩,
  ⟨⟨some 35, .off 3 (.tmp 3), none⟩, .pure, 0, 0⟩,
  ⟨⟨none, .store 1 (.tmp 35) (.tmp 32), none⟩, .heavy, 0, 1⟩,
  ⟨⟨some 36, .off 4 (.tmp 3), none⟩, .pure, 1, 1⟩,
  ⟨⟨none, .store 1 (.tmp 36) (.tmp 34), none⟩, .heavy, 1, 2⟩])
 (.seq (.region [⟨some 38, .bin .eql (.tmp 10) (.const (.int .i64 4)), none⟩,
  ⟨some 37, .move (.tmp 38), none⟩])
 (.cond (.tmp 37) (.region [⟨some 39, .off 4 (.tmp 1), none⟩,
  ⟨some 40, .load false 1 (.tmp 39), none⟩,
  ⟨some 41, .off 4 (.tmp 3), none⟩,
  ⟨none, .store 1 (.tmp 41) (.tmp 40), none⟩])
 (.skip)))))))))))
 (.seq (.region [⟨some 42, .load true 6 (.tmp 1), none⟩,
  ⟨some 43, .load true 6 (.tmp 3), none⟩,
  ⟨some 44, .eqR false 58 (.tmp 42) (.tmp 43), none⟩,
  ⟨some 2, .move (.tmp 44), none⟩])
 (.ret))))
theorem light41 : Light Try.prog 41 1 45 L41 [.tmp 2] :=
  ⟨Try.f41, _, Try.func41, rfl, rfl, by kernel_rfl, by kernel_rfl, by decide⟩

/-! ### function 42: (*outrider/trace.book).word -/
def L42 : LCode :=
 .seq (.region [⟨some 4, .move (.const (.bool false)), none⟩])
 (.seq (.region [⟨some 5, .move (.tmp 1), none⟩,
  ⟨some 6, .bin .geq (.tmp 5) (.const (.int .i64 0)), none⟩,
  ⟨some 7, .move (.tmp 6), none⟩,
  ⟨some 8, .move (.tmp 1), (some (7, true))⟩,
  ⟨some 9, .move (.tmp 0), (some (7, true))⟩,
  ⟨some 10, .nilCheck (.tmp 9), (some (7, true))⟩,
  ⟨some 11, .off 0 (.tmp 10), (some (7, true))⟩,
  ⟨some 12, .off 0 (.tmp 11), (some (7, true))⟩,
  ⟨some 13, .load false 1 (.tmp 12), (some (7, true))⟩,
  ⟨some 14, .bin .lss (.tmp 8) (.tmp 13), (some (7, true))⟩,
  ⟨some 15, .pick (.tmp 7) (.tmp 14) (.const (.bool false)), none⟩,
  ⟨some 4, .move (.tmp 15), none⟩])
 (.ret))
theorem light42 : Light Try.prog 42 2 16 L42 [.tmp 4] :=
  ⟨Try.f42, _, Try.func42, rfl, rfl, by kernel_rfl, by kernel_rfl, by decide⟩

/-! ### function 43: (*outrider/trace.book).commit -/
def L43_1 : LCode :=
 .seq (.region [⟨some 40, .bin .lss (.tmp 39) (.tmp 38), none⟩])
 (.seq (.cond (.tmp 40) (.skip)
 (.exit 0))
 (.seq (.block 1 (.seq (.region [⟨some 41, .idx 2 (.tmp 37) (.tmp 39), none⟩,
  ⟨some 42, .load true 2 (.tmp 41), none⟩,
  ⟨some 9, .new 111 2 [.int .i64 0, .int .i64 0], none⟩,
  ⟨none, .store 2 (.tmp 9) (.tmp 42), none⟩])
 (.region [⟨some 43, .move (.tmp 7), none⟩,
  ⟨some 44, .off 0 (.tmp 9), none⟩,
  ⟨some 45, .load false 1 (.tmp 44), none⟩,
  ⟨some 46, .off 1 (.tmp 9), none⟩,
  ⟨some 47, .load false 1 (.tmp 46), none⟩,
  ⟨some 48, .idx 1 (.tmp 43) (.tmp 45), none⟩,
  ⟨none, .store 1 (.tmp 48) (.tmp 47), none⟩])))
 (.region [⟨some 49, .bin .add (.tmp 39) (.const (.int .i64 1)), none⟩,
  ⟨some 39, .move (.tmp 49), none⟩])))
def L43_2 : LCode :=
 .seq (.region [⟨some 97, .bin .lss (.tmp 96) (.tmp 95), none⟩])
 (.seq (.cond (.tmp 97) (.skip)
 (.exit 2))
 (.seq (.block 3 (.seq (.region [⟨some 98, .idx 2 (.tmp 94) (.tmp 96), none⟩,
  ⟨some 99, .load true 2 (.tmp 98), none⟩,
  ⟨some 13, .new 97 2 [.int .i64 0, .int .i64 0], none⟩,
  ⟨none, .store 2 (.tmp 13) (.tmp 99), none⟩])
 (.region [⟨some 100, .move (.tmp 10), none⟩,
  ⟨some 101, .off 0 (.tmp 13), none⟩,
  ⟨some 102, .load false 1 (.tmp 101), none⟩,
  ⟨some 103, .off 1 (.tmp 13), none⟩,
  ⟨some 104, .load false 1 (.tmp 103), none⟩,
  ⟨some 105, .call 34 [.tmp 100, .tmp 102, .tmp 104], none⟩])))
 (.region [⟨some 106, .bin .add (.tmp 96) (.const (.int .i64 1)), none⟩,
  ⟨some 96, .move (.tmp 106), none⟩])))
def L43 : LCode :=
 .seq (.region [⟨some 4, .box 58 6 (.tmp 1), none⟩,
  ⟨some 6, .move (.const (.bool false)), none⟩])
 (.seq (.seq (.draw [⟨⟨some 14, .off 2 (.tmp 4), none⟩, .pure, 0, 0⟩,
  ⟨⟨some 15, .load false 1 (.tmp 14), none⟩, .read, 0, 0⟩,
  ⟨⟨some 16, .move (.tmp 0), none⟩, .pure, 0, 0⟩,
  ⟨⟨some 17, .nilCheck (.tmp 16), none⟩, .pure, 0, 0⟩,
  ⟨⟨some 18, .off 212 (.tmp 17), none⟩, .pure, 0, 0⟩,
  ⟨⟨some 19, .off 6 (.tmp 18), none⟩, .pure, 0, 0⟩,
  ⟨⟨some 20, .load false 1 (.tmp 19), none⟩, .read, 0, 0⟩,
  ⟨⟨some 21, .bin .neq (.tmp 15) (.tmp 20), none⟩, .pure, 0, 0⟩,
  ⟨⟨some 22, .move (.tmp 21), none⟩, .pure, 0, 0⟩,
  ⟨⟨some 23, .move (.tmp 0), (some (22, false))⟩, .pure, 0, 0⟩,
  ⟨⟨some 24, .move (.tmp 2), (some (22, false))⟩, .pure, 0, 0⟩,
  ⟨⟨some 25, .call 55 [.tmp 23, .tmp 24], (some (22, false))⟩, .heavy, 0, 1⟩,
  ⟨⟨some 26, .un .not (.tmp 25), (some (22, false))⟩, .pure, 1, 1⟩,
  ⟨⟨some 27, .pick (.tmp 22) (.const (.bool true)) (.tmp 26), none⟩, .pure, 1, 1⟩])
 (.cond (.tmp 27) (.seq (.region [⟨some 6, .move (.const (.bool false)), none⟩])
 (.ret))
 (.skip)))
 (.seq (.region [⟨some 28, .move (.tmp 0), none⟩,
  ⟨some 29, .nilCheck (.tmp 28), none⟩,
  ⟨some 30, .off 212 (.tmp 29), none⟩,
  ⟨some 31, .off 0 (.tmp 30), none⟩,
  ⟨some 32, .load false 1 (.tmp 31), none⟩,
  ⟨some 33, .append 2 1 8 (.const (.slice none 0 0)) (.tmp 32), none⟩,
  ⟨some 7, .move (.tmp 33), none⟩])
 (.seq (.seq (.region [⟨some 34, .move (.tmp 2), none⟩,
  ⟨some 35, .nilCheck (.tmp 34), none⟩,
  ⟨some 36, .off 1 (.tmp 35), none⟩,
  ⟨some 37, .load false 1 (.tmp 36), none⟩,
  ⟨some 38, .len (.tmp 37), none⟩,
  ⟨some 39, .move (.const (.int .i64 0)), none⟩])
 (.block 0 (.loop L43_1)))
 (.seq (.seq (.region [⟨some 50, .move (.tmp 0), none⟩,
  ⟨some 51, .nilCheck (.tmp 50), none⟩,
  ⟨some 52, .off 219 (.tmp 51), none⟩,
  ⟨some 53, .load false 1 (.tmp 52), none⟩,
  ⟨some 54, .move (.tmp 53), none⟩,
  ⟨some 55, .move (.tmp 0), (some (54, true))⟩,
  ⟨some 56, .off 2 (.tmp 4), (some (54, true))⟩,
  ⟨some 57, .load false 1 (.tmp 56), (some (54, true))⟩,
  ⟨some 58, .move (.tmp 2), (some (54, true))⟩,
  ⟨some 59, .move (.tmp 7), (some (54, true))⟩,
  ⟨some 60, .call 56 [.tmp 55, .tmp 57, .tmp 58, .tmp 59], (some (54, true))⟩,
  ⟨some 61, .un .not (.tmp 60), (some (54, true))⟩,
  ⟨some 62, .pick (.tmp 54) (.tmp 61) (.const (.bool false)), none⟩])
 (.cond (.tmp 62) (.seq (.region [⟨some 6, .move (.const (.bool false)), none⟩])
 (.ret))
 (.skip)))
 (.seq (.region [⟨some 63, .move (.tmp 0), none⟩,
  ⟨some 64, .move (.tmp 7), none⟩,
  ⟨some 65, .nilCheck (.tmp 63), none⟩,
  ⟨some 66, .off 212 (.tmp 65), none⟩,
  ⟨some 67, .off 0 (.tmp 66), none⟩,
  ⟨none, .store 1 (.tmp 67) (.tmp 64), none⟩])
 (.seq (.draw [⟨⟨some 68, .move (.tmp 0), none⟩, .pure, 0, 1⟩,
  ⟨⟨some 69, .move (.tmp 0), none⟩, .pure, 0, 0⟩,
  ⟨⟨some 70, .nilCheck (.tmp 69), none⟩, .pure, 0, 0⟩,
  ⟨⟨some 71, .off 212 (.tmp 70), none⟩, .pure, 0, 0⟩,
  ⟨⟨some 72, .off 1 (.tmp 71), none⟩, .pure, 0, 0⟩,
  ⟨⟨some 73, .load false 1 (.tmp 72), none⟩, .read, 0, 0⟩,
  ⟨⟨some 74, .move (.tmp 2), none⟩, .pure, 0, 0⟩,
  ⟨⟨some 75, .nilCheck (.tmp 74), none⟩, .pure, 0, 0⟩,
  ⟨⟨some 76, .off 2 (.tmp 75), none⟩, .pure, 0, 0⟩,
  ⟨⟨some 77, .load false 1 (.tmp 76), none⟩, .read, 0, 0⟩,
  ⟨⟨some 78, .append 2 1 8 (.tmp 73) (.tmp 77), none⟩, .heavy, 0, 1⟩,
  ⟨⟨some 79, .nilCheck (.tmp 68), none⟩, .pure, 1, 1⟩,
  ⟨⟨some 80, .off 212 (.tmp 79), none⟩, .pure, 1, 1⟩,
  ⟨⟨some 81, .off 1 (.tmp 80), none⟩, .pure, 1, 1⟩,
  ⟨⟨none, .store 1 (.tmp 81) (.tmp 78), none⟩, .heavy, 1, 2⟩])
 (.seq (.region [⟨some 83, .move (.tmp 0), none⟩,
  ⟨some 84, .nilCheck (.tmp 83), none⟩,
  ⟨some 85, .off 0 (.tmp 84), none⟩,
  ⟨some 86, .off 2 (.tmp 85), none⟩,
  ⟨some 87, .load false 1 (.tmp 86), none⟩,
  ⟨some 88, .call 33 [.tmp 87], none⟩,
  ⟨some 82, .move (.tmp 88), none⟩,
  ⟨some 89, .extract (.tmp 82) 0, none⟩,
  ⟨some 90, .extract (.tmp 82) 1, none⟩,
  ⟨some 10, .move (.tmp 89), none⟩,
  ⟨some 11, .move (.tmp 90), none⟩])
 (.seq (.seq (.region [⟨some 91, .move (.tmp 2), none⟩,
  ⟨some 92, .nilCheck (.tmp 91), none⟩,
  ⟨some 93, .off 3 (.tmp 92), none⟩,
  ⟨some 94, .load false 1 (.tmp 93), none⟩,
  ⟨some 95, .len (.tmp 94), none⟩,
  ⟨some 96, .move (.const (.int .i64 0)), none⟩])
 (.block 2 (.loop L43_2)))
 (.seq (.region [⟨some 108, .move (.tmp 0), none⟩,
  ⟨some 109, .move (.tmp 10), none⟩,
  ⟨some 110, .move (.tmp 0), none⟩,
  ⟨some 111, .nilCheck (.tmp 110), none⟩,
  ⟨some 112, .off 212 (.tmp 111), none⟩,
  ⟨some 113, .off 2 (.tmp 112), none⟩,
  ⟨some 114, .load false 1 (.tmp 113), none⟩,
  ⟨some 115, .call 35 [.tmp 109, .tmp 114], none⟩,
  ⟨some 107, .move (.tmp 115), none⟩,
  ⟨some 116, .extract (.tmp 107) 0, none⟩,
  ⟨some 117, .extract (.tmp 107) 1, none⟩,
  ⟨some 118, .nilCheck (.tmp 108), none⟩,
  ⟨some 119, .off 212 (.tmp 118), none⟩,
  ⟨some 120, .off 2 (.tmp 119), none⟩,
  ⟨none, .store 1 (.tmp 120) (.tmp 116), none⟩])
 (.seq (.region [⟨some 121, .move (.tmp 0), none⟩,
  ⟨some 122, .nilCheck (.tmp 121), none⟩,
  ⟨some 123, .off 212 (.tmp 122), none⟩,
  ⟨some 124, .off 6 (.tmp 123), none⟩,
  ⟨some 125, .load false 1 (.tmp 124), none⟩,
  ⟨some 126, .bin .add (.tmp 125) (.const (.int .i64 1)), none⟩,
  ⟨some 127, .nilCheck (.tmp 121), none⟩,
  ⟨some 128, .off 212 (.tmp 127), none⟩,
  ⟨some 129, .off 6 (.tmp 128), none⟩,
  ⟨none, .store 1 (.tmp 129) (.tmp 126), none⟩])
 (.seq (.draw [⟨⟨some 130, .move (.tmp 0), none⟩, .pure, 0, 0⟩,
  ⟨⟨some 131, .off 2 (.tmp 4), none⟩, .pure, 0, 0⟩,
  ⟨⟨some 132, .load false 1 (.tmp 131), none⟩, .read, 0, 0⟩,
  ⟨⟨some 133, .nilCheck (.tmp 130), none⟩, .pure, 0, 0⟩,
  ⟨⟨some 134, .off 12 (.tmp 133), none⟩, .pure, 0, 0⟩,
  ⟨⟨some 135, .idxArr 200 1 (.tmp 134) (.tmp 132), none⟩, .pure, 0, 0⟩,
  ⟨⟨none, .store 1 (.tmp 135) (.const (.pointer none)), none⟩, .heavy, 0, 1⟩])
 (.seq (.region [⟨some 6, .move (.const (.bool true)), none⟩])
 (.ret)))))))))))))
theorem light43 : Light Try.prog 43 3 136 L43 [.tmp 6] :=
  ⟨Try.f43, _, Try.func43, rfl, rfl, by kernel_rfl, by kernel_rfl, by decide⟩

/-! ### function 44: (*outrider/trace.book).fault -/
def L44 : LCode :=
 .seq (.region [⟨some 4, .box 58 6 (.tmp 1), none⟩,
  ⟨some 6, .move (.const (.bool false)), none⟩])
 (.seq (.region [⟨some 10, .off 3 (.tmp 4), none⟩,
  ⟨some 11, .load false 1 (.tmp 10), none⟩,
  ⟨some 7, .move (.tmp 11), none⟩])
 (.seq (.seq (.draw [⟨⟨some 12, .off 2 (.tmp 4), none⟩, .pure, 0, 0⟩,
  ⟨⟨some 13, .load false 1 (.tmp 12), none⟩, .read, 0, 0⟩,
  ⟨⟨some 14, .move (.tmp 0), none⟩, .pure, 0, 0⟩,
  ⟨⟨some 15, .nilCheck (.tmp 14), none⟩, .pure, 0, 0⟩,
  ⟨⟨some 16, .off 212 (.tmp 15), none⟩, .pure, 0, 0⟩,
  ⟨⟨some 17, .off 6 (.tmp 16), none⟩, .pure, 0, 0⟩,
  ⟨⟨some 18, .load false 1 (.tmp 17), none⟩, .read, 0, 0⟩,
  ⟨⟨some 19, .bin .neq (.tmp 13) (.tmp 18), none⟩, .pure, 0, 0⟩,
  ⟨⟨some 20, .move (.tmp 19), none⟩, .pure, 0, 0⟩,
  ⟨⟨some 21, .move (.tmp 0), (some (20, false))⟩, .pure, 0, 0⟩,
  ⟨⟨some 22, .move (.tmp 2), (some (20, false))⟩, .pure, 0, 0⟩,
  ⟨⟨some 23, .call 55 [.tmp 21, .tmp 22], (some (20, false))⟩, .heavy, 0, 1⟩,
  ⟨⟨some 24, .un .not (.tmp 23), (some (20, false))⟩, .pure, 1, 1⟩,
  ⟨⟨some 25, .pick (.tmp 20) (.const (.bool true)) (.tmp 24), none⟩, .pure, 1, 1⟩,
  ⟨⟨some 26, .move (.tmp 25), none⟩, .pure, 1, 1⟩,
  ⟨⟨some 27, .move (.tmp 7), (some (26, false))⟩, .pure, 1, 1⟩,
  ⟨⟨some 28, .bin .lss (.tmp 27) (.const (.int .i64 2)), (some (26, false))⟩, .pure, 1, 1⟩,
  ⟨⟨some 29, .pick (.tmp 26) (.const (.bool true)) (.tmp 28), none⟩, .pure, 1, 1⟩,
  ⟨⟨some 30, .move (.tmp 29), none⟩, .pure, 1, 1⟩,
  ⟨⟨some 31, .move (.tmp 7), (some (30, false))⟩, .pure, 1, 1⟩,
  ⟨⟨some 32, .bin .gtr (.tmp 31) (.const (.int .i64 5)), (some (30, false))⟩, .pure, 1, 1⟩,
  ⟨⟨some 33, .pick (.tmp 30) (.const (.bool true)) (.tmp 32), none⟩, .pure, 1, 1⟩])
 (.cond (.tmp 33) (.seq (.region [⟨some 6, .move (.const (.bool false)), none⟩])
 (.ret))
 (.skip)))
 (.seq (.seq (.region [⟨some 34, .move (.tmp 0), none⟩,
  ⟨some 35, .nilCheck (.tmp 34), none⟩,
  ⟨some 36, .off 219 (.tmp 35), none⟩,
  ⟨some 37, .load false 1 (.tmp 36), none⟩])
 (.cond (.tmp 37) (.seq (.alts [[⟨⟨some 39, .move (.tmp 0), none⟩, .pure, 0, 0⟩,
  ⟨⟨some 40, .nilCheck (.tmp 39), none⟩, .pure, 0, 0⟩,
  ⟨⟨some 41, .off 0 (.tmp 40), none⟩, .pure, 0, 0⟩,
  ⟨⟨some 42, .load true 11 (.tmp 41), none⟩, .read, 0, 0⟩,
  ⟨⟨some 43, .off 2 (.tmp 4), none⟩, .pure, 0, 0⟩,
  ⟨⟨some 44, .load false 1 (.tmp 43), none⟩, .read, 0, 0⟩,
  ⟨⟨some 45, .move (.tmp 0), none⟩, .pure, 0, 0⟩,
  ⟨⟨some 46, .nilCheck (.tmp 45), none⟩, .pure, 0, 0⟩,
  ⟨⟨some 47, .off 212 (.tmp 46), none⟩, .pure, 0, 0⟩,
  ⟨⟨some 48, .off 0 (.tmp 47), none⟩, .pure, 0, 0⟩,
  ⟨⟨some 49, .load false 1 (.tmp 48), none⟩, .read, 0, 0⟩,
  ⟨⟨some 50, .call 21 [.tmp 42, .tmp 44, .tmp 49], none⟩, .heavy, 0, 1⟩,
  ⟨⟨some 38, .move (.tmp 50), none⟩, .pure, 1, 2⟩,
  ⟨⟨some 51, .extract (.tmp 38) 0, none⟩, .pure, 1, 2⟩,
  ⟨⟨some 52, .extract (.tmp 38) 1, none⟩, .pure, 1, 3⟩,
  ⟨⟨some 8, .new 67 6 [.slice none 0 0, .slice none 0 0, .slice none 0 0, .int .i64 0, .int .i64 0, .int .i64 0], none⟩, .heavy, 1, 2⟩,
  ⟨⟨none, .store 6 (.tmp 8) (.tmp 51), none⟩, .heavy, 2, 3⟩,
  ⟨⟨some 9, .move (.tmp 52), none⟩, .pure, 3, 3⟩],
 [⟨⟨some 39, .move (.tmp 0), none⟩, .pure, 0, 1⟩,
  ⟨⟨some 40, .nilCheck (.tmp 39), none⟩, .pure, 0, 1⟩,
  ⟨⟨some 41, .off 0 (.tmp 40), none⟩, .pure, 0, 1⟩,
  ⟨⟨some 42, .load true 11 (.tmp 41), none⟩, .read, 0, 1⟩,
  ⟨⟨some 43, .off 2 (.tmp 4), none⟩, .pure, 0, 1⟩,
  ⟨⟨some 44, .load false 1 (.tmp 43), none⟩, .read, 0, 1⟩,
  ⟨⟨some 45, .move (.tmp 0), none⟩, .pure, 0, 1⟩,
  ⟨⟨some 46, .nilCheck (.tmp 45), none⟩, .pure, 0, 1⟩,
  ⟨⟨some 47, .off 212 (.tmp 46), none⟩, .pure, 0, 1⟩,
  ⟨⟨some 48, .off 0 (.tmp 47), none⟩, .pure, 0, 1⟩,
  ⟨⟨some 49, .load false 1 (.tmp 48), none⟩, .read, 0, 1⟩,
  ⟨⟨some 8, .new 67 6 [.slice none 0 0, .slice none 0 0, .slice none 0 0, .int .i64 0, .int .i64 0, .int .i64 0], none⟩, .heavy, 0, 1⟩,
  ⟨⟨some 50, .call 21 [.tmp 42, .tmp 44, .tmp 49], none⟩, .heavy, 1, 2⟩,
  ⟨⟨some 38, .move (.tmp 50), none⟩, .pure, 2, 2⟩,
  ⟨⟨some 51, .extract (.tmp 38) 0, none⟩, .pure, 2, 2⟩,
  ⟨⟨some 52, .extract (.tmp 38) 1, none⟩, .pure, 2, 3⟩,
  ⟨⟨none, .store 6 (.tmp 8) (.tmp 51), none⟩, .heavy, 2, 3⟩,
  ⟨⟨some 9, .move (.tmp 52), none⟩, .pure, 3, 3⟩]])
 (.seq (.region [⟨some 53, .off 3 (.tmp 8), none⟩,
  ⟨some 54, .load false 1 (.tmp 53), none⟩,
  ⟨some 55, .move (.tmp 7), none⟩,
  ⟨some 56, .bin .neq (.tmp 54) (.tmp 55), none⟩,
  ⟨some 57, .move (.tmp 56), none⟩,
  ⟨some 58, .off 4 (.tmp 8), (some (57, false))⟩,
  ⟨some 59, .load false 1 (.tmp 58), (some (57, false))⟩,
  ⟨some 60, .off 4 (.tmp 4), (some (57, false))⟩,
  ⟨some 61, .load false 1 (.tmp 60), (some (57, false))⟩,
  ⟨some 62, .bin .neq (.tmp 59) (.tmp 61), (some (57, false))⟩,
  ⟨some 63, .pick (.tmp 57) (.const (.bool true)) (.tmp 62), none⟩])
 (.cond (.tmp 63) (.seq (.region [⟨some 6, .move (.const (.bool false)), none⟩])
 (.ret))
 (.skip))))
 (.skip)))
 (.seq (.region [⟨some 64, .move (.tmp 0), none⟩,
  ⟨some 65, .off 2 (.tmp 4), none⟩,
  ⟨some 66, .load false 1 (.tmp 65), none⟩,
  ⟨some 67, .move (.tmp 7), none⟩,
  ⟨some 68, .off 4 (.tmp 4), none⟩,
  ⟨some 69, .load false 1 (.tmp 68), none⟩,
  ⟨some 70, .build [.int .i64 0, .int .i64 0, .int .i64 0] [(0, 1, .tmp 66), (1, 1, .tmp 67), (2, 1, .tmp 69)], none⟩,
  ⟨some 71, .nilCheck (.tmp 64), none⟩,
  ⟨some 72, .off 212 (.tmp 71), none⟩,
  ⟨some 73, .off 3 (.tmp 72), none⟩,
  ⟨none, .store 3 (.tmp 73) (.tmp 70), none⟩])
 (.seq (.region [⟨some 6, .move (.const (.bool true)), none⟩])
 (.ret))))))
theorem lightX44 : LightX Try.prog 44 3 74 L44 [.tmp 6] :=
  ⟨Try.f44, _, Try.func44, rfl, rfl, by kernel_rfl, by kernel_rfl, by decide⟩

/-! ### function 45: outrider/vm.New -/
def L45 : LCode :=
 .seq (.region [⟨some 14, .move (.const (.pointer none)), none⟩,
  ⟨some 15, .move (.const (.int .i64 0)), none⟩])
 (.seq (.seq (.region [⟨some 20, .move (.tmp 0), none⟩,
  ⟨some 21, .move (.tmp 1), none⟩,
  ⟨some 22, .call 37 [.tmp 20, .tmp 21], none⟩,
  ⟨some 19, .move (.tmp 22), none⟩,
  ⟨some 23, .extract (.tmp 19) 0, none⟩,
  ⟨some 24, .extract (.tmp 19) 1, none⟩,
  ⟨some 16, .move (.tmp 23), none⟩,
  ⟨some 17, .move (.tmp 24), none⟩])
 (.seq (.region [⟨some 25, .move (.tmp 17), none⟩,
  ⟨some 26, .bin .neq (.tmp 25) (.const (.int .i64 0)), none⟩])
 (.cond (.tmp 26) (.seq (.region [⟨some 27, .move (.tmp 17), none⟩,
  ⟨some 14, .move (.const (.pointer none)), none⟩,
  ⟨some 15, .move (.tmp 27), none⟩])
 (.ret))
 (.skip))))
 (.seq (.seq (.region [⟨some 28, .move (.tmp 2), none⟩,
  ⟨some 29, .bin .lss (.tmp 28) (.const (.int .i64 1)), none⟩,
  ⟨some 30, .move (.tmp 29), none⟩,
  ⟨some 31, .move (.tmp 2), (some (30, false))⟩,
  ⟨some 32, .bin .gtr (.tmp 31) (.const (.int .i64 64)), (some (30, false))⟩,
  ⟨some 33, .pick (.tmp 30) (.const (.bool true)) (.tmp 32), none⟩])
 (.cond (.tmp 33) (.seq (.region [⟨some 14, .move (.const (.pointer none)), none⟩,
  ⟨some 15, .move (.const (.int .i64 130)), none⟩])
 (.ret))
 (.skip)))
 (.seq (.seq (.region [⟨some 34, .move (.tmp 3), none⟩,
  ⟨some 35, .bin .lss (.tmp 34) (.const (.int .i64 1)), none⟩,
  ⟨some 36, .move (.tmp 35), none⟩,
  ⟨some 37, .move (.tmp 3), (some (36, false))⟩,
  ⟨some 38, .bin .gtr (.tmp 37) (.const (.int .i64 4000)), (some (36, false))⟩,
  ⟨some 39, .pick (.tmp 36) (.const (.bool true)) (.tmp 38), none⟩])
 (.cond (.tmp 39) (.seq (.region [⟨some 14, .move (.const (.pointer none)), none⟩,
  ⟨some 15, .move (.const (.int .i64 110)), none⟩])
 (.ret))
 (.skip)))
 (.seq (.region [⟨some 40, .move (.tmp 0), none⟩,
  ⟨some 41, .append 55 6 48 (.const (.slice none 0 0)) (.tmp 40), none⟩,
  ⟨some 42, .move (.tmp 2), none⟩,
  ⟨some 43, .move (.tmp 3), none⟩,
  ⟨some 44, .build [.int .i64 0, .int .i64 0, .int .i64 0, .int .i64 0, .int .i64 0, .int .i64 0, .int .i64 0, .int .i64 0, .int .i64 0, .int .i64 0, .int .i64 0, .int .i64 0, .int .i64 0, .int .i64 0, .int .i64 0, .int .i64 0, .int .i64 0, .int .i64 0, .int .i64 0, .int .i64 0, .slice none 0 0, .int .i64 0, .int .i64 0, .int .i64 0, .int .i64 0, .int .i64 0, .int .i64 0, .int .i64 0, .int .i64 0, .int .i64 0, .int .i64 0, .int .i64 0, .int .i64 0, .int .i64 0, .int .i64 0, .int .i64 0, .int .i64 0, .int .i64 0, .int .i64 0, .int .i64 0, .int .i64 0, .int .i64 0, .int .i64 0] [(20, 1, .tmp 41), (21, 1, .tmp 42), (22, 1, .tmp 43)], none⟩,
  ⟨some 45, .box 126 43 (.tmp 44), none⟩,
  ⟨some 18, .move (.tmp 45), none⟩])
 (.seq (.draw [⟨⟨some 46, .move (.tmp 18), none⟩, .pure, 0, 0⟩,
  ⟨⟨some 47, .move (.tmp 18), none⟩, .pure, 0, 1⟩,
  ⟨⟨some 48, .move (.tmp 18), none⟩, .pure, 0, 2⟩,
  ⟨⟨some 49, .move (.tmp 4), none⟩, .pure, 0, 0⟩,
  ⟨⟨some 50, .move (.tmp 5), none⟩, .pure, 0, 1⟩,
  ⟨⟨some 51, .move (.tmp 6), none⟩, .pure, 0, 2⟩,
  ⟨⟨some 52, .nilCheck (.tmp 46), none⟩, .pure, 0, 0⟩,
  ⟨⟨some 53, .off 23 (.tmp 52), none⟩, .pure, 0, 0⟩,
  ⟨⟨some 54, .off 0 (.tmp 53), none⟩, .pure, 0, 0⟩,
  ⟨⟨some 55, .idxArr 16 1 (.tmp 54) (.const (.int .i64 0)), none⟩, .pure, 0, 0⟩,
  ⟨⟨none, .store 1 (.tmp 55) (.tmp 49), none⟩, .heavy, 0, 1⟩,
  ⟨⟨some 56, .nilCheck (.tmp 47), none⟩, .pure, 0, 1⟩,
  ⟨⟨some 57, .off 23 (.tmp 56), none⟩, .pure, 0, 1⟩,
  ⟨⟨some 58, .off 0 (.tmp 57), none⟩, .pure, 0, 1⟩,
  ⟨⟨some 59, .idxArr 16 1 (.tmp 58) (.const (.int .i64 1)), none⟩, .pure, 1, 1⟩,
  ⟨⟨none, .store 1 (.tmp 59) (.tmp 50), none⟩, .heavy, 1, 2⟩,
  ⟨⟨some 60, .nilCheck (.tmp 48), none⟩, .pure, 0, 2⟩,
  ⟨⟨some 61, .off 23 (.tmp 60), none⟩, .pure, 0, 2⟩,
  ⟨⟨some 62, .off 0 (.tmp 61), none⟩, .pure, 0, 2⟩,
  ⟨⟨some 63, .idxArr 16 1 (.tmp 62) (.const (.int .i64 2)), none⟩, .pure, 2, 2⟩,
  ⟨⟨none, .store 1 (.tmp 63) (.tmp 51), none⟩, .heavy, 2, 3⟩])
 (.seq (.region [⟨some 64, .move (.tmp 18), none⟩,
  ⟨some 65, .move (.tmp 18), none⟩,
  ⟨some 66, .nilCheck (.tmp 65), none⟩,
  ⟨some 67, .off 23 (.tmp 66), none⟩,
  ⟨some 68, .load true 20 (.tmp 67), none⟩,
  ⟨some 69, .nilCheck (.tmp 64), none⟩,
  ⟨some 70, .off 0 (.tmp 69), none⟩,
  ⟨none, .store 20 (.tmp 70) (.tmp 68), none⟩])
 (.seq (.region [⟨some 71, .move (.tmp 18), none⟩,
  ⟨some 14, .move (.tmp 71), none⟩,
  ⟨some 15, .move (.const (.int .i64 0)), none⟩])
 (.ret))))))))
theorem light45 : Light Try.prog 45 7 72 L45 [.tmp 14, .tmp 15] :=
  ⟨Try.f45, _, Try.func45, rfl, rfl, by kernel_rfl, by kernel_rfl, by decide⟩

/-! ### function 46: (*outrider/vm.world).give -/
def L46 : LCode :=
 .seq (.region [⟨some 3, .box 130 3 (.tmp 1), none⟩,
  ⟨some 4, .move (.const (.int .i64 0)), none⟩])
 (.seq (.seq (.region [⟨some 5, .off 0 (.tmp 3), none⟩,
  ⟨some 6, .load false 1 (.tmp 5), none⟩])
 (.block 0 (.seq (.region [⟨some 8, .bin .eql (.tmp 6) (.const (.int .i64 1)), none⟩,
  ⟨some 7, .move (.tmp 8), none⟩])
 (.cond (.tmp 7) (.seq (.draw [⟨⟨some 9, .move (.tmp 0), none⟩, .pure, 0, 0⟩,
  ⟨⟨some 10, .nilCheck (.tmp 9), none⟩, .pure, 0, 0⟩,
  ⟨⟨some 11, .off 0 (.tmp 10), none⟩, .pure, 0, 0⟩,
  ⟨⟨some 12, .off 0 (.tmp 11), none⟩, .pure, 0, 0⟩,
  ⟨⟨some 13, .load false 1 (.tmp 12), none⟩, .read, 0, 0⟩,
  ⟨⟨some 14, .off 1 (.tmp 3), none⟩, .pure, 0, 0⟩,
  ⟨⟨some 15, .load false 1 (.tmp 14), none⟩, .read, 0, 0⟩,
  ⟨⟨some 16, .idx 1 (.tmp 13) (.tmp 15), none⟩, .pure, 0, 0⟩,
  ⟨⟨some 17, .load false 1 (.tmp 16), none⟩, .read, 0, 0⟩,
  ⟨⟨some 4, .move (.tmp 17), none⟩, .pure, 0, 0⟩])
 (.ret))
 (.seq (.region [⟨some 19, .bin .eql (.tmp 6) (.const (.int .i64 2)), none⟩,
  ⟨some 18, .move (.tmp 19), none⟩])
 (.cond (.tmp 18) (.draw [⟨⟨some 20, .move (.tmp 0), none⟩, .pure, 0, 0⟩,
  ⟨⟨some 21, .nilCheck (.tmp 20), none⟩, .pure, 0, 0⟩,
  ⟨⟨some 22, .off 0 (.tmp 21), none⟩, .pure, 0, 0⟩,
  ⟨⟨some 23, .off 0 (.tmp 22), none⟩, .pure, 0, 0⟩,
  ⟨⟨some 24, .load false 1 (.tmp 23), none⟩, .read, 0, 0⟩,
  ⟨⟨some 25, .off 1 (.tmp 3), none⟩, .pure, 0, 0⟩,
  ⟨⟨some 26, .load false 1 (.tmp 25), none⟩, .read, 0, 0⟩,
  ⟨⟨some 27, .off 2 (.tmp 3), none⟩, .pure, 0, 0⟩,
  ⟨⟨some 28, .load false 1 (.tmp 27), none⟩, .read, 0, 0⟩,
  ⟨⟨some 29, .idx 1 (.tmp 24) (.tmp 26), none⟩, .pure, 0, 0⟩,
  ⟨⟨none, .store 1 (.tmp 29) (.tmp 28), none⟩, .heavy, 0, 1⟩])
 (.seq (.region [⟨some 31, .bin .eql (.tmp 6) (.const (.int .i64 3)), none⟩,
  ⟨some 30, .move (.tmp 31), none⟩])
 (.cond (.tmp 30) (.draw [⟨⟨some 32, .move (.tmp 0), none⟩, .pure, 0, 2⟩,
  ⟨⟨some 33, .move (.tmp 0), none⟩, .pure, 0, 1⟩,
  ⟨⟨some 34, .nilCheck (.tmp 33), none⟩, .pure, 0, 1⟩,
  ⟨⟨some 35, .off 0 (.tmp 34), none⟩, .pure, 0, 1⟩,
  ⟨⟨some 36, .off 2 (.tmp 35), none⟩, .pure, 0, 1⟩,
  ⟨⟨some 37, .load false 1 (.tmp 36), none⟩, .read, 0, 1⟩,
  ⟨⟨some 38, .off 1 (.tmp 3), none⟩, .pure, 0, 0⟩,
  ⟨⟨some 39, .load false 1 (.tmp 38), none⟩, .read, 0, 0⟩,
  ⟨⟨some 40, .off 2 (.tmp 3), none⟩, .pure, 0, 0⟩,
  ⟨⟨some 41, .load false 1 (.tmp 40), none⟩, .read, 0, 0⟩,
  ⟨⟨some 42, .build [.int .i64 0, .int .i64 0] [(0, 1, .tmp 39), (1, 1, .tmp 41)], none⟩, .pure, 0, 0⟩,
  ⟨⟨some 43, .buildSlice 97 2 1 [.int .i64 0, .int .i64 0] [(0, 2, .tmp 42)], none⟩, .heavy, 0, 1⟩,
  ⟨⟨some 44, .append 97 2 16 (.tmp 37) (.tmp 43), none⟩, .heavy, 1, 2⟩,
  ⟨⟨some 45, .nilCheck (.tmp 32), none⟩, .pure, 2, 2⟩,
  ⟨⟨some 46, .off 0 (.tmp 45), none⟩, .pure, 2, 2⟩,
  ⟨⟨some 47, .off 2 (.tmp 46), none⟩, .pure, 2, 2⟩,
  ⟨⟨none, .store 1 (.tmp 47) (.tmp 44), none⟩, .heavy, 2, 3⟩])
 (.seq (.region [⟨some 49, .bin .eql (.tmp 6) (.const (.int .i64 4)), none⟩,
  ⟨some 48, .move (.tmp 49), none⟩])
 (.cond (.tmp 48) (.draw [⟨⟨some 50, .move (.tmp 0), none⟩, .pure, 0, 2⟩,
  ⟨⟨some 51, .move (.tmp 0), none⟩, .pure, 0, 1⟩,
  ⟨⟨some 52, .nilCheck (.tmp 51), none⟩, .pure, 0, 1⟩,
  ⟨⟨some 53, .off 0 (.tmp 52), none⟩, .pure, 0, 1⟩,
  ⟨⟨some 54, .off 1 (.tmp 53), none⟩, .pure, 0, 1⟩,
  ⟨⟨some 55, .load false 1 (.tmp 54), none⟩, .read, 0, 1⟩,
  ⟨⟨some 56, .off 2 (.tmp 3), none⟩, .pure, 0, 0⟩,
  ⟨⟨some 57, .load false 1 (.tmp 56), none⟩, .read, 0, 0⟩,
  ⟨⟨some 58, .buildSlice 2 1 1 [.int .i64 0] [(0, 1, .tmp 57)], none⟩, .heavy, 0, 1⟩,
  ⟨⟨some 59, .append 2 1 8 (.tmp 55) (.tmp 58), none⟩, .heavy, 1, 2⟩,
  ⟨⟨some 60, .nilCheck (.tmp 50), none⟩, .pure, 2, 2⟩,
  ⟨⟨some 61, .off 0 (.tmp 60), none⟩, .pure, 2, 2⟩,
  ⟨⟨some 62, .off 1 (.tmp 61), none⟩, .pure, 2, 2⟩,
  ⟨⟨none, .store 1 (.tmp 62) (.tmp 59), none⟩, .heavy, 2, 3⟩])
 (.skip)))))))))))
 (.seq (.region [⟨some 4, .move (.const (.int .i64 0)), none⟩])
 (.ret)))
theorem light46 : Light Try.prog 46 2 63 L46 [.tmp 4] :=
  ⟨Try.f46, _, Try.func46, rfl, rfl, by kernel_rfl, by kernel_rfl, by decide⟩

/-! ### function 47: (*outrider/vm.VM).Step -/
def L47 : LCode :=
 .seq (.region [⟨some 4, .move (.const (.bool false)), none⟩])
 (.seq (.seq (.region [⟨some 6, .move (.tmp 0), none⟩,
  ⟨some 7, .nilCheck (.tmp 6), none⟩,
  ⟨some 8, .off 0 (.tmp 7), none⟩,
  ⟨some 9, .off 18 (.tmp 8), none⟩,
  ⟨some 10, .load false 1 (.tmp 9), none⟩,
  ⟨some 11, .bin .neq (.tmp 10) (.const (.int .i64 0)), none⟩])
 (.cond (.tmp 11) (.seq (.region [⟨some 4, .move (.const (.bool false)), none⟩])
 (.ret))
 (.skip)))
 (.seq (.seq (.draw [⟨⟨some 12, .move (.tmp 0), none⟩, .pure, 0, 0⟩,
  ⟨⟨some 13, .nilCheck (.tmp 12), none⟩, .pure, 0, 0⟩,
  ⟨⟨some 14, .off 0 (.tmp 13), none⟩, .pure, 0, 0⟩,
  ⟨⟨some 15, .off 17 (.tmp 14), none⟩, .pure, 0, 0⟩,
  ⟨⟨some 16, .load false 1 (.tmp 15), none⟩, .read, 0, 0⟩,
  ⟨⟨some 17, .move (.tmp 0), none⟩, .pure, 0, 0⟩,
  ⟨⟨some 18, .nilCheck (.tmp 17), none⟩, .pure, 0, 0⟩,
  ⟨⟨some 19, .off 22 (.tmp 18), none⟩, .pure, 0, 0⟩,
  ⟨⟨some 20, .load false 1 (.tmp 19), none⟩, .read, 0, 0⟩,
  ⟨⟨some 21, .bin .eql (.tmp 16) (.tmp 20), none⟩, .pure, 0, 0⟩])
 (.cond (.tmp 21) (.seq (.region [⟨some 22, .move (.tmp 0), none⟩,
  ⟨some 23, .call 57 [.tmp 22, .const (.int .i64 5), .const (.int .i64 0)], none⟩])
 (.seq (.region [⟨some 4, .move (.const (.bool true)), none⟩])
 (.ret)))
 (.skip)))
 (.seq (.region [⟨some 24, .move (.tmp 0), none⟩,
  ⟨some 25, .nilCheck (.tmp 24), none⟩,
  ⟨some 26, .off 0 (.tmp 25), none⟩,
  ⟨some 27, .off 17 (.tmp 26), none⟩,
  ⟨some 28, .load false 1 (.tmp 27), none⟩,
  ⟨some 29, .bin .add (.tmp 28) (.const (.int .i64 1)), none⟩,
  ⟨some 30, .nilCheck (.tmp 24), none⟩,
  ⟨some 31, .off 0 (.tmp 30), none⟩,
  ⟨some 32, .off 17 (.tmp 31), none⟩,
  ⟨none, .store 1 (.tmp 32) (.tmp 29), none⟩])
 (.seq (.draw [⟨⟨some 33, .move (.tmp 0), none⟩, .pure, 0, 1⟩,
  ⟨⟨some 34, .nilCheck (.tmp 33), none⟩, .pure, 0, 1⟩,
  ⟨⟨some 35, .off 20 (.tmp 34), none⟩, .pure, 0, 1⟩,
  ⟨⟨some 36, .load false 1 (.tmp 35), none⟩, .read, 0, 1⟩,
  ⟨⟨some 37, .move (.tmp 0), none⟩, .pure, 0, 1⟩,
  ⟨⟨some 38, .nilCheck (.tmp 37), none⟩, .pure, 0, 1⟩,
  ⟨⟨some 39, .off 0 (.tmp 38), none⟩, .pure, 0, 1⟩,
  ⟨⟨some 40, .off 16 (.tmp 39), none⟩, .pure, 0, 1⟩,
  ⟨⟨some 41, .load false 1 (.tmp 40), none⟩, .read, 0, 1⟩,
  ⟨⟨some 42, .idx 6 (.tmp 36) (.tmp 41), none⟩, .pure, 0, 1⟩,
  ⟨⟨some 43, .load true 6 (.tmp 42), none⟩, .read, 0, 1⟩,
  ⟨⟨some 5, .new 55 6 [.int .i64 0, .int .i64 0, .int .i64 0, .int .i64 0, .int .i64 0, .int .i64 0], none⟩, .heavy, 0, 1⟩,
  ⟨⟨none, .store 6 (.tmp 5) (.tmp 43), none⟩, .heavy, 1, 2⟩])
 (.seq (.seq (.region [⟨some 44, .off 0 (.tmp 5), none⟩,
  ⟨some 45, .load false 1 (.tmp 44), none⟩])
 (.block 0 (.seq (.region [⟨some 50, .bin .eql (.tmp 45) (.const (.int .i64 1)), none⟩,
  ⟨some 49, .move (.tmp 50), none⟩])
 (.cond (.tmp 49) (.region [⟨some 51, .move (.tmp 0), none⟩,
  ⟨some 52, .call 57 [.tmp 51, .const (.int .i64 1), .const (.int .i64 0)], none⟩])
 (.seq (.region [⟨some 54, .bin .eql (.tmp 45) (.const (.int .i64 13)), none⟩,
  ⟨some 53, .move (.tmp 54), none⟩])
 (.cond (.tmp 53) (.draw [⟨⟨some 55, .move (.tmp 0), none⟩, .pure, 0, 0⟩,
  ⟨⟨some 56, .move (.tmp 0), none⟩, .pure, 0, 0⟩,
  ⟨⟨some 57, .off 2 (.tmp 5), none⟩, .pure, 0, 0⟩,
  ⟨⟨some 58, .load false 1 (.tmp 57), none⟩, .read, 0, 0⟩,
  ⟨⟨some 59, .nilCheck (.tmp 56), none⟩, .pure, 0, 0⟩,
  ⟨⟨some 60, .off 0 (.tmp 59), none⟩, .pure, 0, 0⟩,
  ⟨⟨some 61, .off 0 (.tmp 60), none⟩, .pure, 0, 0⟩,
  ⟨⟨some 62, .idxArr 16 1 (.tmp 61) (.tmp 58), none⟩, .pure, 0, 0⟩,
  ⟨⟨some 63, .load false 1 (.tmp 62), none⟩, .read, 0, 0⟩,
  ⟨⟨some 64, .call 57 [.tmp 55, .const (.int .i64 4), .tmp 63], none⟩, .heavy, 0, 1⟩])
 (.seq (.seq (.region [⟨some 66, .bin .eql (.tmp 45) (.const (.int .i64 6)), none⟩,
  ⟨some 65, .move (.tmp 66), none⟩])
 (.cond (.tmp 65) (.skip)
 (.region [⟨some 67, .bin .eql (.tmp 45) (.const (.int .i64 7)), none⟩,
  ⟨some 65, .move (.tmp 67), none⟩])))
 (.cond (.tmp 65) (.region [⟨some 68, .move (.tmp 0), none⟩,
  ⟨some 69, .load true 6 (.tmp 5), none⟩,
  ⟨some 70, .move (.tmp 1), none⟩,
  ⟨some 71, .call 58 [.tmp 68, .tmp 69, .tmp 70], none⟩])
 (.seq (.seq (.region [⟨some 73, .bin .eql (.tmp 45) (.const (.int .i64 10)), none⟩,
  ⟨some 72, .move (.tmp 73), none⟩])
 (.cond (.tmp 72) (.skip)
 (.seq (.region [⟨some 74, .bin .eql (.tmp 45) (.const (.int .i64 11)), none⟩,
  ⟨some 72, .move (.tmp 74), none⟩])
 (.cond (.tmp 72) (.skip)
 (.region [⟨some 75, .bin .eql (.tmp 45) (.const (.int .i64 12)), none⟩,
  ⟨some 72, .move (.tmp 75), none⟩])))))
 (.cond (.tmp 72) (.region [⟨some 76, .move (.tmp 0), none⟩,
  ⟨some 77, .load true 6 (.tmp 5), none⟩,
  ⟨some 78, .call 59 [.tmp 76, .tmp 77], none⟩])
 (.region [⟨some 46, .move (.tmp 0), none⟩,
  ⟨some 47, .load true 6 (.tmp 5), none⟩,
  ⟨some 48, .call 60 [.tmp 46, .tmp 47], none⟩])))))))))))
 (.seq (.region [⟨some 4, .move (.const (.bool true)), none⟩])
 (.ret)))))))
theorem light47 : Light Try.prog 47 2 79 L47 [.tmp 4] :=
  ⟨Try.f47, _, Try.func47, rfl, rfl, by kernel_rfl, by kernel_rfl, by decide⟩

/-! ### function 48: (*outrider/vm.VM).Want -/
def L48 : LCode :=
 .seq (.region [⟨some 2, .new 130 3 [.int .i64 0, .int .i64 0, .int .i64 0], none⟩])
 (.seq (.seq (.draw [⟨⟨some 6, .move (.tmp 0), none⟩, .pure, 0, 0⟩,
  ⟨⟨some 7, .nilCheck (.tmp 6), none⟩, .pure, 0, 0⟩,
  ⟨⟨some 8, .off 0 (.tmp 7), none⟩, .pure, 0, 0⟩,
  ⟨⟨some 9, .off 18 (.tmp 8), none⟩, .pure, 0, 0⟩,
  ⟨⟨some 10, .load false 1 (.tmp 9), none⟩, .read, 0, 0⟩,
  ⟨⟨some 11, .bin .neq (.tmp 10) (.const (.int .i64 0)), none⟩, .pure, 0, 0⟩,
  ⟨⟨some 12, .move (.tmp 11), none⟩, .pure, 0, 0⟩,
  ⟨⟨some 13, .move (.tmp 0), (some (12, false))⟩, .pure, 0, 0⟩,
  ⟨⟨some 14, .nilCheck (.tmp 13), (some (12, false))⟩, .pure, 0, 0⟩,
  ⟨⟨some 15, .off 0 (.tmp 14), (some (12, false))⟩, .pure, 0, 0⟩,
  ⟨⟨some 16, .off 17 (.tmp 15), (some (12, false))⟩, .pure, 0, 0⟩,
  ⟨⟨some 17, .load false 1 (.tmp 16), (some (12, false))⟩, .read, 0, 0⟩,
  ⟨⟨some 18, .move (.tmp 0), (some (12, false))⟩, .pure, 0, 0⟩,
  ⟨⟨some 19, .nilCheck (.tmp 18), (some (12, false))⟩, .pure, 0, 0⟩,
  ⟨⟨some 20, .off 22 (.tmp 19), (some (12, false))⟩, .pure, 0, 0⟩,
  ⟨⟨some 21, .load false 1 (.tmp 20), (some (12, false))⟩, .read, 0, 0⟩,
  ⟨⟨some 22, .bin .eql (.tmp 17) (.tmp 21), (some (12, false))⟩, .pure, 0, 0⟩,
  ⟨⟨some 23, .pick (.tmp 12) (.const (.bool true)) (.tmp 22), none⟩, .pure, 0, 0⟩])
 (.cond (.tmp 23) (.seq (.region [⟨some 24, .build [.int .i64 0, .int .i64 0, .int .i64 0] [], none⟩,
  ⟨none, .store 3 (.tmp 2) (.tmp 24), none⟩])
 (.ret))
 (.skip)))
 (.seq (.draw [⟨⟨some 25, .move (.tmp 0), none⟩, .pure, 0, 1⟩,
  ⟨⟨some 26, .nilCheck (.tmp 25), none⟩, .pure, 0, 1⟩,
  ⟨⟨some 27, .off 20 (.tmp 26), none⟩, .pure, 0, 1⟩,
  ⟨⟨some 28, .load false 1 (.tmp 27), none⟩, .read, 0, 1⟩,
  ⟨⟨some 29, .move (.tmp 0), none⟩, .pure, 0, 1⟩,
  ⟨⟨some 30, .nilCheck (.tmp 29), none⟩, .pure, 0, 1⟩,
  ⟨⟨some 31, .off 0 (.tmp 30), none⟩, .pure, 0, 1⟩,
  ⟨⟨some 32, .off 16 (.tmp 31), none⟩, .pure, 0, 1⟩,
  ⟨⟨some 33, .load false 1 (.tmp 32), none⟩, .read, 0, 1⟩,
  ⟨⟨some 34, .idx 6 (.tmp 28) (.tmp 33), none⟩, .pure, 0, 1⟩,
  ⟨⟨some 35, .load true 6 (.tmp 34), none⟩, .read, 0, 1⟩,
  ⟨⟨some 3, .new 55 6 [.int .i64 0, .int .i64 0, .int .i64 0, .int .i64 0, .int .i64 0, .int .i64 0], none⟩, .heavy, 0, 1⟩,
  ⟨⟨none, .store 6 (.tmp 3) (.tmp 35), none⟩, .heavy, 1, 2⟩])
 (.seq (.region [⟨some 37, .move (.tmp 0), none⟩,
  ⟨some 38, .load true 6 (.tmp 3), none⟩,
  ⟨some 39, .call 61 [.tmp 37, .tmp 38], none⟩,
  ⟨some 36, .move (.tmp 39), none⟩,
  ⟨some 40, .extract (.tmp 36) 0, none⟩,
  ⟨some 41, .extract (.tmp 36) 1, none⟩,
  ⟨some 4, .move (.tmp 40), none⟩,
  ⟨some 5, .move (.tmp 41), none⟩])
 (.seq (.block 0 (.seq (.region [⟨some 43, .off 0 (.tmp 3), none⟩,
  ⟨some 44, .load false 1 (.tmp 43), none⟩,
  ⟨some 45, .bin .eql (.tmp 44) (.const (.int .i64 6)), none⟩,
  ⟨some 46, .move (.tmp 45), none⟩,
  ⟨some 47, .move (.tmp 5), (some (46, true))⟩,
  ⟨some 48, .pick (.tmp 46) (.tmp 47) (.const (.bool false)), none⟩,
  ⟨some 42, .move (.tmp 48), none⟩])
 (.cond (.tmp 42) (.seq (.region [⟨some 49, .move (.tmp 4), none⟩,
  ⟨some 50, .build [.int .i64 0, .int .i64 0, .int .i64 0] [(0, 1, .const (.int .i64 1)), (1, 1, .tmp 49)], none⟩,
  ⟨none, .store 3 (.tmp 2) (.tmp 50), none⟩])
 (.ret))
 (.seq (.region [⟨some 52, .off 0 (.tmp 3), none⟩,
  ⟨some 53, .load false 1 (.tmp 52), none⟩,
  ⟨some 54, .bin .eql (.tmp 53) (.const (.int .i64 7)), none⟩,
  ⟨some 55, .move (.tmp 54), none⟩,
  ⟨some 56, .move (.tmp 5), (some (55, true))⟩,
  ⟨some 57, .pick (.tmp 55) (.tmp 56) (.const (.bool false)), none⟩,
  ⟨some 51, .move (.tmp 57), none⟩])
 (.cond (.tmp 51) (.seq (.draw [⟨⟨some 58, .move (.tmp 4), none⟩, .pure, 0, 0⟩,
  ⟨⟨some 59, .move (.tmp 0), none⟩, .pure, 0, 0⟩,
  ⟨⟨some 60, .off 2 (.tmp 3), none⟩, .pure, 0, 0⟩,
  ⟨⟨some 61, .load false 1 (.tmp 60), none⟩, .read, 0, 0⟩,
  ⟨⟨some 62, .nilCheck (.tmp 59), none⟩, .pure, 0, 0⟩,
  ⟨⟨some 63, .off 0 (.tmp 62), none⟩, .pure, 0, 0⟩,
  ⟨⟨some 64, .off 0 (.tmp 63), none⟩, .pure, 0, 0⟩,
  ⟨⟨some 65, .idxArr 16 1 (.tmp 64) (.tmp 61), none⟩, .pure, 0, 0⟩,
  ⟨⟨some 66, .load false 1 (.tmp 65), none⟩, .read, 0, 0⟩,
  ⟨⟨some 67, .build [.int .i64 0, .int .i64 0, .int .i64 0] [(0, 1, .const (.int .i64 2)), (1, 1, .tmp 58), (2, 1, .tmp 66)], none⟩, .pure, 0, 0⟩,
  ⟨⟨none, .store 3 (.tmp 2) (.tmp 67), none⟩, .heavy, 0, 1⟩])
 (.ret))
 (.seq (.region [⟨some 69, .off 0 (.tmp 3), none⟩,
  ⟨some 70, .load false 1 (.tmp 69), none⟩,
  ⟨some 71, .bin .eql (.tmp 70) (.const (.int .i64 8)), none⟩,
  ⟨some 68, .move (.tmp 71), none⟩])
 (.cond (.tmp 68) (.seq (.draw [⟨⟨some 72, .off 4 (.tmp 3), none⟩, .pure, 0, 0⟩,
  ⟨⟨some 73, .load false 1 (.tmp 72), none⟩, .read, 0, 0⟩,
  ⟨⟨some 74, .move (.tmp 0), none⟩, .pure, 0, 0⟩,
  ⟨⟨some 75, .off 2 (.tmp 3), none⟩, .pure, 0, 0⟩,
  ⟨⟨some 76, .load false 1 (.tmp 75), none⟩, .read, 0, 0⟩,
  ⟨⟨some 77, .nilCheck (.tmp 74), none⟩, .pure, 0, 0⟩,
  ⟨⟨some 78, .off 0 (.tmp 77), none⟩, .pure, 0, 0⟩,
  ⟨⟨some 79, .off 0 (.tmp 78), none⟩, .pure, 0, 0⟩,
  ⟨⟨some 80, .idxArr 16 1 (.tmp 79) (.tmp 76), none⟩, .pure, 0, 0⟩,
  ⟨⟨some 81, .load false 1 (.tmp 80), none⟩, .read, 0, 0⟩,
  ⟨⟨some 82, .build [.int .i64 0, .int .i64 0, .int .i64 0] [(0, 1, .const (.int .i64 3)), (1, 1, .tmp 73), (2, 1, .tmp 81)], none⟩, .pure, 0, 0⟩,
  ⟨⟨none, .store 3 (.tmp 2) (.tmp 82), none⟩, .heavy, 0, 1⟩])
 (.ret))
 (.seq (.region [⟨some 84, .off 0 (.tmp 3), none⟩,
  ⟨some 85, .load false 1 (.tmp 84), none⟩,
  ⟨some 86, .bin .eql (.tmp 85) (.const (.int .i64 9)), none⟩,
  ⟨some 83, .move (.tmp 86), none⟩])
 (.cond (.tmp 83) (.seq (.draw [⟨⟨some 87, .move (.tmp 0), none⟩, .pure, 0, 0⟩,
  ⟨⟨some 88, .off 2 (.tmp 3), none⟩, .pure, 0, 0⟩,
  ⟨⟨some 89, .load false 1 (.tmp 88), none⟩, .read, 0, 0⟩,
  ⟨⟨some 90, .nilCheck (.tmp 87), none⟩, .pure, 0, 0⟩,
  ⟨⟨some 91, .off 0 (.tmp 90), none⟩, .pure, 0, 0⟩,
  ⟨⟨some 92, .off 0 (.tmp 91), none⟩, .pure, 0, 0⟩,
  ⟨⟨some 93, .idxArr 16 1 (.tmp 92) (.tmp 89), none⟩, .pure, 0, 0⟩,
  ⟨⟨some 94, .load false 1 (.tmp 93), none⟩, .read, 0, 0⟩,
  ⟨⟨some 95, .build [.int .i64 0, .int .i64 0, .int .i64 0] [(0, 1, .const (.int .i64 4)), (2, 1, .tmp 94)], none⟩, .pure, 0, 0⟩,
  ⟨⟨none, .store 3 (.tmp 2) (.tmp 95), none⟩, .heavy, 0, 1⟩])
 (.ret))
 (.skip))))))))))
 (.seq (.region [⟨some 96, .build [.int .i64 0, .int .i64 0, .int .i64 0] [], none⟩,
  ⟨none, .store 3 (.tmp 2) (.tmp 96), none⟩])
 (.ret))))))
theorem light48 : Light Try.prog 48 1 97 L48 [.cell 2 true 3] :=
  ⟨Try.f48, _, Try.func48, rfl, rfl, by kernel_rfl, by kernel_rfl, by decide⟩

/-! ### function 49: outrider/red.Right -/
def L49 : LCode :=
 .seq (.region [⟨some 2, .move (.const (.bool false)), none⟩])
 (.seq (.region [⟨some 3, .move (.tmp 0), none⟩,
  ⟨some 4, .bin .geq (.tmp 3) (.const (.int .i64 1)), none⟩,
  ⟨some 5, .move (.tmp 4), none⟩,
  ⟨some 6, .move (.tmp 0), (some (5, true))⟩,
  ⟨some 7, .bin .leq (.tmp 6) (.const (.int .i64 7)), (some (5, true))⟩,
  ⟨some 8, .pick (.tmp 5) (.tmp 7) (.const (.bool false)), none⟩,
  ⟨some 2, .move (.tmp 8), none⟩])
 (.ret))
theorem light49 : Light Try.prog 49 1 9 L49 [.tmp 2] :=
  ⟨Try.f49, _, Try.func49, rfl, rfl, by kernel_rfl, by kernel_rfl, by decide⟩

/-! ### function 50: outrider/red.Zero -/
def L50 : LCode :=
 .seq (.region [⟨some 2, .move (.const (.int .i64 0)), none⟩])
 (.seq (.seq (.region [⟨some 3, .move (.tmp 0), none⟩])
 (.block 0 (.seq (.region [⟨some 5, .bin .eql (.tmp 3) (.const (.int .i64 2)), none⟩,
  ⟨some 4, .move (.tmp 5), none⟩])
 (.cond (.tmp 4) (.seq (.region [⟨some 2, .move (.const (.int .i64 1)), none⟩])
 (.ret))
 (.seq (.region [⟨some 7, .bin .eql (.tmp 3) (.const (.int .i64 3)), none⟩,
  ⟨some 6, .move (.tmp 7), none⟩])
 (.cond (.tmp 6) (.seq (.region [⟨some 2, .move (.const (.int .i64 9223372036854775807)), none⟩])
 (.ret))
 (.seq (.region [⟨some 9, .bin .eql (.tmp 3) (.const (.int .i64 4)), none⟩,
  ⟨some 8, .move (.tmp 9), none⟩])
 (.cond (.tmp 8) (.seq (.region [⟨some 2, .move (.const (.int .i64 (-9223372036854775808))), none⟩])
 (.ret))
 (.seq (.region [⟨some 11, .bin .eql (.tmp 3) (.const (.int .i64 5)), none⟩,
  ⟨some 10, .move (.tmp 11), none⟩])
 (.cond (.tmp 10) (.seq (.region [⟨some 2, .move (.const (.int .i64 (-1))), none⟩])
 (.ret))
 (.skip)))))))))))
 (.seq (.region [⟨some 2, .move (.const (.int .i64 0)), none⟩])
 (.ret)))
theorem light50 : Light Try.prog 50 1 12 L50 [.tmp 2] :=
  ⟨Try.f50, _, Try.func50, rfl, rfl, by kernel_rfl, by kernel_rfl, by decide⟩

/-! ### function 51: outrider/red.Join -/
def L51 : LCode :=
 .seq (.region [⟨some 6, .move (.const (.int .i64 0)), none⟩])
 (.seq (.seq (.region [⟨some 7, .move (.tmp 0), none⟩])
 (.block 0 (.seq (.region [⟨some 9, .bin .eql (.tmp 7) (.const (.int .i64 1)), none⟩,
  ⟨some 8, .move (.tmp 9), none⟩])
 (.cond (.tmp 8) (.seq (.region [⟨some 10, .move (.tmp 1), none⟩,
  ⟨some 11, .move (.tmp 2), none⟩,
  ⟨some 12, .bin .add (.tmp 10) (.tmp 11), none⟩,
  ⟨some 6, .move (.tmp 12), none⟩])
 (.ret))
 (.seq (.region [⟨some 14, .bin .eql (.tmp 7) (.const (.int .i64 2)), none⟩,
  ⟨some 13, .move (.tmp 14), none⟩])
 (.cond (.tmp 13) (.seq (.region [⟨some 15, .move (.tmp 1), none⟩,
  ⟨some 16, .move (.tmp 2), none⟩,
  ⟨some 17, .bin .mul (.tmp 15) (.tmp 16), none⟩,
  ⟨some 6, .move (.tmp 17), none⟩])
 (.ret))
 (.seq (.region [⟨some 19, .bin .eql (.tmp 7) (.const (.int .i64 3)), none⟩,
  ⟨some 18, .move (.tmp 19), none⟩])
 (.cond (.tmp 18) (.seq (.region [⟨some 20, .move (.tmp 1), none⟩,
  ⟨some 21, .move (.tmp 2), none⟩,
  ⟨some 22, .minmax false (.tmp 20) [.tmp 21], none⟩,
  ⟨some 6, .move (.tmp 22), none⟩])
 (.ret))
 (.seq (.region [⟨some 24, .bin .eql (.tmp 7) (.const (.int .i64 4)), none⟩,
  ⟨some 23, .move (.tmp 24), none⟩])
 (.cond (.tmp 23) (.seq (.region [⟨some 25, .move (.tmp 1), none⟩,
  ⟨some 26, .move (.tmp 2), none⟩,
  ⟨some 27, .minmax true (.tmp 25) [.tmp 26], none⟩,
  ⟨some 6, .move (.tmp 27), none⟩])
 (.ret))
 (.seq (.region [⟨some 29, .bin .eql (.tmp 7) (.const (.int .i64 5)), none⟩,
  ⟨some 28, .move (.tmp 29), none⟩])
 (.cond (.tmp 28) (.seq (.region [⟨some 30, .move (.tmp 1), none⟩,
  ⟨some 31, .move (.tmp 2), none⟩,
  ⟨some 32, .bin .and (.tmp 30) (.tmp 31), none⟩,
  ⟨some 6, .move (.tmp 32), none⟩])
 (.ret))
 (.seq (.region [⟨some 34, .bin .eql (.tmp 7) (.const (.int .i64 6)), none⟩,
  ⟨some 33, .move (.tmp 34), none⟩])
 (.cond (.tmp 33) (.seq (.region [⟨some 35, .move (.tmp 1), none⟩,
  ⟨some 36, .move (.tmp 2), none⟩,
  ⟨some 37, .bin .or (.tmp 35) (.tmp 36), none⟩,
  ⟨some 6, .move (.tmp 37), none⟩])
 (.ret))
 (.seq (.region [⟨some 39, .bin .eql (.tmp 7) (.const (.int .i64 7)), none⟩,
  ⟨some 38, .move (.tmp 39), none⟩])
 (.cond (.tmp 38) (.seq (.region [⟨some 40, .move (.tmp 1), none⟩,
  ⟨some 41, .move (.tmp 2), none⟩,
  ⟨some 42, .bin .xor (.tmp 40) (.tmp 41), none⟩,
  ⟨some 6, .move (.tmp 42), none⟩])
 (.ret))
 (.skip)))))))))))))))))
 (.seq (.region [⟨some 6, .move (.const (.int .i64 0)), none⟩])
 (.ret)))
theorem light51 : Light Try.prog 51 3 43 L51 [.tmp 6] :=
  ⟨Try.f51, _, Try.func51, rfl, rfl, by kernel_rfl, by kernel_rfl, by decide⟩

/-! ### function 52: outrider/ins.One -/
def L52 : LCode :=
 .seq (.region [⟨some 3, .box 55 6 (.tmp 0), none⟩,
  ⟨some 6, .move (.const (.int .i64 0)), none⟩])
 (.seq (.region [⟨some 10, .off 0 (.tmp 3), none⟩,
  ⟨some 11, .load false 1 (.tmp 10), none⟩,
  ⟨some 12, .call 62 [.tmp 11], none⟩,
  ⟨some 9, .move (.tmp 12), none⟩,
  ⟨some 13, .extract (.tmp 9) 0, none⟩,
  ⟨some 14, .extract (.tmp 9) 1, none⟩,
  ⟨some 7, .new 150 8 [.bool false, .bool false, .bool false, .bool false, .bool false, .bool false, .bool false, .bool false], none⟩,
  ⟨none, .store 8 (.tmp 7) (.tmp 13), none⟩,
  ⟨some 8, .move (.tmp 14), none⟩])
 (.seq (.block 0 (.seq (.region [⟨some 16, .move (.tmp 8), none⟩,
  ⟨some 17, .un .not (.tmp 16), none⟩,
  ⟨some 15, .move (.tmp 17), none⟩])
 (.cond (.tmp 15) (.seq (.region [⟨some 6, .move (.const (.int .i64 81)), none⟩])
 (.ret))
 (.seq (.seq (.region [⟨some 19, .off 7 (.tmp 7), none⟩,
  ⟨some 20, .load false 1 (.tmp 19), none⟩,
  ⟨some 21, .move (.tmp 20), none⟩,
  ⟨some 22, .off 1 (.tmp 3), (some (21, true))⟩,
  ⟨some 23, .load false 1 (.tmp 22), (some (21, true))⟩,
  ⟨some 24, .bin .lss (.tmp 23) (.const (.int .i64 1)), (some (21, true))⟩,
  ⟨some 25, .move (.tmp 24), (some (21, true))⟩,
  ⟨some 26, .off 1 (.tmp 3), (some (25, false))⟩,
  ⟨some 27, .load false 1 (.tmp 26), (some (25, false))⟩,
  ⟨some 28, .bin .gtr (.tmp 27) (.const (.int .i64 18)), (some (25, false))⟩,
  ⟨some 29, .pick (.tmp 25) (.const (.bool true)) (.tmp 28), (some (21, true))⟩,
  ⟨some 30, .pick (.tmp 21) (.tmp 29) (.const (.bool false)), none⟩,
  ⟨some 18, .move (.tmp 30), none⟩])
 (.cond (.tmp 18) (.skip)
 (.region [⟨some 31, .off 6 (.tmp 7), none⟩,
  ⟨some 32, .load false 1 (.tmp 31), none⟩,
  ⟨some 33, .move (.tmp 32), none⟩,
  ⟨some 34, .off 1 (.tmp 3), (some (33, true))⟩,
  ⟨some 35, .load false 1 (.tmp 34), (some (33, true))⟩,
  ⟨some 36, .bin .lss (.tmp 35) (.const (.int .i64 19)), (some (33, true))⟩,
  ⟨some 37, .move (.tmp 36), (some (33, true))⟩,
  ⟨some 38, .off 1 (.tmp 3), (some (37, false))⟩,
  ⟨some 39, .load false 1 (.tmp 38), (some (37, false))⟩,
  ⟨some 40, .bin .gtr (.tmp 39) (.const (.int .i64 21)), (some (37, false))⟩,
  ⟨some 41, .pick (.tmp 37) (.const (.bool true)) (.tmp 40), (some (33, true))⟩,
  ⟨some 42, .pick (.tmp 33) (.tmp 41) (.const (.bool false)), none⟩,
  ⟨some 18, .move (.tmp 42), none⟩])))
 (.cond (.tmp 18) (.seq (.region [⟨some 6, .move (.const (.int .i64 81)), none⟩])
 (.ret))
 (.seq (.seq (.region [⟨some 44, .off 0 (.tmp 7), none⟩,
  ⟨some 45, .load false 1 (.tmp 44), none⟩,
  ⟨some 46, .move (.tmp 45), none⟩,
  ⟨some 47, .off 2 (.tmp 3), (some (46, true))⟩,
  ⟨some 48, .load false 1 (.tmp 47), (some (46, true))⟩,
  ⟨some 49, .call 63 [.const (.bool true), .tmp 48], (some (46, true))⟩,
  ⟨some 50, .un .not (.tmp 49), (some (46, true))⟩,
  ⟨some 51, .pick (.tmp 46) (.tmp 50) (.const (.bool false)), none⟩,
  ⟨some 43, .move (.tmp 51), none⟩])
 (.cond (.tmp 43) (.skip)
 (.seq (.region [⟨some 52, .off 1 (.tmp 7), none⟩,
  ⟨some 53, .load false 1 (.tmp 52), none⟩,
  ⟨some 54, .move (.tmp 53), none⟩,
  ⟨some 55, .off 3 (.tmp 3), (some (54, true))⟩,
  ⟨some 56, .load false 1 (.tmp 55), (some (54, true))⟩,
  ⟨some 57, .call 63 [.const (.bool true), .tmp 56], (some (54, true))⟩,
  ⟨some 58, .un .not (.tmp 57), (some (54, true))⟩,
  ⟨some 59, .pick (.tmp 54) (.tmp 58) (.const (.bool false)), none⟩,
  ⟨some 43, .move (.tmp 59), none⟩])
 (.cond (.tmp 43) (.skip)
 (.region [⟨some 60, .off 2 (.tmp 7), none⟩,
  ⟨some 61, .load false 1 (.tmp 60), none⟩,
  ⟨some 62, .move (.tmp 61), none⟩,
  ⟨some 63, .off 4 (.tmp 3), (some (62, true))⟩,
  ⟨some 64, .load false 1 (.tmp 63), (some (62, true))⟩,
  ⟨some 65, .call 63 [.const (.bool true), .tmp 64], (some (62, true))⟩,
  ⟨some 66, .un .not (.tmp 65), (some (62, true))⟩,
  ⟨some 67, .pick (.tmp 62) (.tmp 66) (.const (.bool false)), none⟩,
  ⟨some 43, .move (.tmp 67), none⟩])))))
 (.cond (.tmp 43) (.seq (.region [⟨some 6, .move (.const (.int .i64 82)), none⟩])
 (.ret))
 (.seq (.seq (.region [⟨some 69, .off 0 (.tmp 7), none⟩,
  ⟨some 70, .load false 1 (.tmp 69), none⟩,
  ⟨some 71, .un .not (.tmp 70), none⟩,
  ⟨some 72, .move (.tmp 71), none⟩,
  ⟨some 73, .off 2 (.tmp 3), (some (72, true))⟩,
  ⟨some 74, .load false 1 (.tmp 73), (some (72, true))⟩,
  ⟨some 75, .bin .neq (.tmp 74) (.const (.int .i64 0)), (some (72, true))⟩,
  ⟨some 76, .pick (.tmp 72) (.tmp 75) (.const (.bool false)), none⟩,
  ⟨some 68, .move (.tmp 76), none⟩])
 (.cond (.tmp 68) (.skip)
 (.seq (.region [⟨some 77, .off 1 (.tmp 7), none⟩,
  ⟨some 78, .load false 1 (.tmp 77), none⟩,
  ⟨some 79, .un .not (.tmp 78), none⟩,
  ⟨some 80, .move (.tmp 79), none⟩,
  ⟨some 81, .off 3 (.tmp 3), (some (80, true))⟩,
  ⟨some 82, .load false 1 (.tmp 81), (some (80, true))⟩,
  ⟨some 83, .bin .neq (.tmp 82) (.const (.int .i64 0)), (some (80, true))⟩,
  ⟨some 84, .pick (.tmp 80) (.tmp 83) (.const (.bool false)), none⟩,
  ⟨some 68, .move (.tmp 84), none⟩])
 (.cond (.tmp 68) (.skip)
 (.seq (.region [⟨some 85, .off 2 (.tmp 7), none⟩,
  ⟨some 86, .load false 1 (.tmp 85), none⟩,
  ⟨some 87, .un .not (.tmp 86), none⟩,
  ⟨some 88, .move (.tmp 87), none⟩,
  ⟨some 89, .off 3 (.tmp 7), (some (88, true))⟩,
  ⟨some 90, .load false 1 (.tmp 89), (some (88, true))⟩,
  ⟨some 91, .un .not (.tmp 90), (some (88, true))⟩,
  ⟨some 92, .pick (.tmp 88) (.tmp 91) (.const (.bool false)), none⟩,
  ⟨some 93, .move (.tmp 92), none⟩,
  ⟨some 94, .off 4 (.tmp 3), (some (93, true))⟩,
  ⟨some 95, .load false 1 (.tmp 94), (some (93, true))⟩,
  ⟨some 96, .bin .neq (.tmp 95) (.const (.int .i64 0)), (some (93, true))⟩,
  ⟨some 97, .pick (.tmp 93) (.tmp 96) (.const (.bool false)), none⟩,
  ⟨some 68, .move (.tmp 97), none⟩])
 (.cond (.tmp 68) (.skip)
 (.seq (.region [⟨some 98, .off 4 (.tmp 7), none⟩,
  ⟨some 99, .load false 1 (.tmp 98), none⟩,
  ⟨some 100, .un .not (.tmp 99), none⟩,
  ⟨some 101, .move (.tmp 100), none⟩,
  ⟨some 102, .off 5 (.tmp 3), (some (101, true))⟩,
  ⟨some 103, .load false 1 (.tmp 102), (some (101, true))⟩,
  ⟨some 104, .bin .neq (.tmp 103) (.const (.int .i64 0)), (some (101, true))⟩,
  ⟨some 105, .pick (.tmp 101) (.tmp 104) (.const (.bool false)), none⟩,
  ⟨some 68, .move (.tmp 105), none⟩])
 (.cond (.tmp 68) (.skip)
 (.region [⟨some 106, .off 6 (.tmp 7), none⟩,
  ⟨some 107, .load false 1 (.tmp 106), none⟩,
  ⟨some 108, .un .not (.tmp 107), none⟩,
  ⟨some 109, .move (.tmp 108), none⟩,
  ⟨some 110, .off 7 (.tmp 7), (some (109, true))⟩,
  ⟨some 111, .load false 1 (.tmp 110), (some (109, true))⟩,
  ⟨some 112, .un .not (.tmp 111), (some (109, true))⟩,
  ⟨some 113, .pick (.tmp 109) (.tmp 112) (.const (.bool false)), none⟩,
  ⟨some 114, .move (.tmp 113), none⟩,
  ⟨some 115, .off 1 (.tmp 3), (some (114, true))⟩,
  ⟨some 116, .load false 1 (.tmp 115), (some (114, true))⟩,
  ⟨some 117, .bin .neq (.tmp 116) (.const (.int .i64 0)), (some (114, true))⟩,
  ⟨some 118, .pick (.tmp 114) (.tmp 117) (.const (.bool false)), none⟩,
  ⟨some 68, .move (.tmp 118), none⟩])))))))))
 (.cond (.tmp 68) (.seq (.region [⟨some 6, .move (.const (.int .i64 83)), none⟩])
 (.ret))
 (.seq (.region [⟨some 120, .off 3 (.tmp 7), none⟩,
  ⟨some 121, .load false 1 (.tmp 120), none⟩,
  ⟨some 122, .move (.tmp 121), none⟩,
  ⟨some 123, .off 4 (.tmp 3), (some (122, true))⟩,
  ⟨some 124, .load false 1 (.tmp 123), (some (122, true))⟩,
  ⟨some 125, .bin .lss (.tmp 124) (.const (.int .i64 0)), (some (122, true))⟩,
  ⟨some 126, .move (.tmp 125), (some (122, true))⟩,
  ⟨some 127, .off 4 (.tmp 3), (some (126, false))⟩,
  ⟨some 128, .load false 1 (.tmp 127), (some (126, false))⟩,
  ⟨some 129, .move (.tmp 1), (some (126, false))⟩,
  ⟨some 130, .minmax false (.tmp 129) [.const (.int .i64 4)], (some (126, false))⟩,
  ⟨some 131, .bin .geq (.tmp 128) (.tmp 130), (some (126, false))⟩,
  ⟨some 132, .pick (.tmp 126) (.const (.bool true)) (.tmp 131), (some (122, true))⟩,
  ⟨some 133, .pick (.tmp 122) (.tmp 132) (.const (.bool false)), none⟩,
  ⟨some 119, .move (.tmp 133), none⟩])
 (.cond (.tmp 119) (.seq (.region [⟨some 6, .move (.const (.int .i64 63)), none⟩])
 (.ret))
 (.seq (.region [⟨some 135, .off 5 (.tmp 7), none⟩,
  ⟨some 136, .load false 1 (.tmp 135), none⟩,
  ⟨some 137, .move (.tmp 136), none⟩,
  ⟨some 138, .off 5 (.tmp 3), (some (137, true))⟩,
  ⟨some 139, .load false 1 (.tmp 138), (some (137, true))⟩,
  ⟨some 140, .bin .lss (.tmp 139) (.const (.int .i64 0)), (some (137, true))⟩,
  ⟨some 141, .move (.tmp 140), (some (137, true))⟩,
  ⟨some 142, .off 5 (.tmp 3), (some (141, false))⟩,
  ⟨some 143, .load false 1 (.tmp 142), (some (141, false))⟩,
  ⟨some 144, .move (.tmp 2), (some (141, false))⟩,
  ⟨some 145, .bin .geq (.tmp 143) (.tmp 144), (some (141, false))⟩,
  ⟨some 146, .pick (.tmp 141) (.const (.bool true)) (.tmp 145), (some (137, true))⟩,
  ⟨some 147, .pick (.tmp 137) (.tmp 146) (.const (.bool false)), none⟩,
  ⟨some 134, .move (.tmp 147), none⟩])
 (.cond (.tmp 134) (.seq (.region [⟨some 6, .move (.const (.int .i64 84)), none⟩])
 (.ret))
 (.skip))))))))))))))
 (.seq (.region [⟨some 6, .move (.const (.int .i64 0)), none⟩])
 (.ret))))
theorem light52 : Light Try.prog 52 3 148 L52 [.tmp 6] :=
  ⟨Try.f52, _, Try.func52, rfl, rfl, by kernel_rfl, by kernel_rfl, by decide⟩

/-! ### function 53: outrider/ins.Falls -/
def L53 : LCode :=
 .seq (.region [⟨some 1, .box 55 6 (.tmp 0), none⟩,
  ⟨some 2, .move (.const (.bool false)), none⟩])
 (.seq (.region [⟨some 3, .off 0 (.tmp 1), none⟩,
  ⟨some 4, .load false 1 (.tmp 3), none⟩,
  ⟨some 5, .bin .neq (.tmp 4) (.const (.int .i64 1)), none⟩,
  ⟨some 6, .move (.tmp 5), none⟩,
  ⟨some 7, .off 0 (.tmp 1), (some (6, true))⟩,
  ⟨some 8, .load false 1 (.tmp 7), (some (6, true))⟩,
  ⟨some 9, .bin .neq (.tmp 8) (.const (.int .i64 10)), (some (6, true))⟩,
  ⟨some 10, .pick (.tmp 6) (.tmp 9) (.const (.bool false)), none⟩,
  ⟨some 11, .move (.tmp 10), none⟩,
  ⟨some 12, .off 0 (.tmp 1), (some (11, true))⟩,
  ⟨some 13, .load false 1 (.tmp 12), (some (11, true))⟩,
  ⟨some 14, .bin .neq (.tmp 13) (.const (.int .i64 13)), (some (11, true))⟩,
  ⟨some 15, .pick (.tmp 11) (.tmp 14) (.const (.bool false)), none⟩,
  ⟨some 2, .move (.tmp 15), none⟩])
 (.ret))
theorem light53 : Light Try.prog 53 1 16 L53 [.tmp 2] :=
  ⟨Try.f53, _, Try.func53, rfl, rfl, by kernel_rfl, by kernel_rfl, by decide⟩

/-! ### function 54: outrider/outriderref01.neg -/
def L54 : LCode :=
 .seq (.region [⟨some 2, .move (.const (.int .i64 0)), none⟩])
 (.seq (.region [⟨some 3, .move (.tmp 0), none⟩,
  ⟨some 4, .call 65 [.tmp 3], none⟩,
  ⟨some 5, .call 64 [.tmp 4, .const (.int .i64 1)], none⟩,
  ⟨some 2, .move (.tmp 5), none⟩])
 (.ret))
theorem light54 : Light Try.prog 54 1 6 L54 [.tmp 2] :=
  ⟨Try.f54, _, Try.func54, rfl, rfl, by kernel_rfl, by kernel_rfl, by decide⟩

/-! ### function 55: (*outrider/trace.book).holds -/
def L55_1 : LCode :=
 .seq (.region [⟨some 13, .bin .lss (.tmp 12) (.tmp 11), none⟩])
 (.seq (.cond (.tmp 13) (.skip)
 (.exit 0))
 (.seq (.block 1 (.seq (.region [⟨some 14, .idx 2 (.tmp 10) (.tmp 12), none⟩,
  ⟨some 15, .load true 2 (.tmp 14), none⟩,
  ⟨some 6, .new 111 2 [.int .i64 0, .int .i64 0], none⟩,
  ⟨none, .store 2 (.tmp 6) (.tmp 15), none⟩])
 (.seq (.draw [⟨⟨some 16, .move (.tmp 0), none⟩, .pure, 0, 0⟩,
  ⟨⟨some 17, .nilCheck (.tmp 16), none⟩, .pure, 0, 0⟩,
  ⟨⟨some 18, .off 212 (.tmp 17), none⟩, .pure, 0, 0⟩,
  ⟨⟨some 19, .off 0 (.tmp 18), none⟩, .pure, 0, 0⟩,
  ⟨⟨some 20, .load false 1 (.tmp 19), none⟩, .read, 0, 0⟩,
  ⟨⟨some 21, .off 0 (.tmp 6), none⟩, .pure, 0, 0⟩,
  ⟨⟨some 22, .load false 1 (.tmp 21), none⟩, .read, 0, 0⟩,
  ⟨⟨some 23, .idx 1 (.tmp 20) (.tmp 22), none⟩, .pure, 0, 0⟩,
  ⟨⟨some 24, .load false 1 (.tmp 23), none⟩, .read, 0, 0⟩,
  ⟨⟨some 25, .off 1 (.tmp 6), none⟩, .pure, 0, 0⟩,
  ⟨⟨some 26, .load false 1 (.tmp 25), none⟩, .read, 0, 0⟩,
  ⟨⟨some 27, .bin .neq (.tmp 24) (.tmp 26), none⟩, .pure, 0, 0⟩])
 (.cond (.tmp 27) (.seq (.region [⟨some 4, .move (.const (.bool false)), none⟩])
 (.ret))
 (.skip)))))
 (.region [⟨some 28, .bin .add (.tmp 12) (.const (.int .i64 1)), none⟩,
  ⟨some 12, .move (.tmp 28), none⟩])))
def L55 : LCode :=
 .seq (.region [⟨some 4, .move (.const (.bool false)), none⟩])
 (.seq (.seq (.region [⟨some 7, .move (.tmp 1), none⟩,
  ⟨some 8, .nilCheck (.tmp 7), none⟩,
  ⟨some 9, .off 0 (.tmp 8), none⟩,
  ⟨some 10, .load false 1 (.tmp 9), none⟩,
  ⟨some 11, .len (.tmp 10), none⟩,
  ⟨some 12, .move (.const (.int .i64 0)), none⟩])
 (.block 0 (.loop L55_1)))
 (.seq (.region [⟨some 4, .move (.const (.bool true)), none⟩])
 (.ret)))
theorem light55 : Light Try.prog 55 2 29 L55 [.tmp 4] :=
  ⟨Try.f55, _, Try.func55, rfl, rfl, by kernel_rfl, by kernel_rfl, by decide⟩

/-! ### function 56: (*outrider/trace.book).same -/
def L56_1 : LCode :=
 .seq (.region [⟨some 56, .bin .lss (.tmp 55) (.tmp 54), none⟩])
 (.seq (.cond (.tmp 56) (.skip)
 (.exit 0))
 (.seq (.block 1 (.seq (.region [⟨some 57, .move (.tmp 55), none⟩,
  ⟨some 11, .move (.tmp 57), none⟩])
 (.seq (.draw [⟨⟨some 58, .off 0 (.tmp 9), none⟩, .pure, 0, 0⟩,
  ⟨⟨some 59, .load false 1 (.tmp 58), none⟩, .read, 0, 0⟩,
  ⟨⟨some 60, .move (.tmp 11), none⟩, .pure, 0, 0⟩,
  ⟨⟨some 61, .idx 1 (.tmp 59) (.tmp 60), none⟩, .pure, 0, 0⟩,
  ⟨⟨some 62, .load false 1 (.tmp 61), none⟩, .read, 0, 0⟩,
  ⟨⟨some 63, .move (.tmp 3), none⟩, .pure, 0, 0⟩,
  ⟨⟨some 64, .move (.tmp 11), none⟩, .pure, 0, 0⟩,
  ⟨⟨some 65, .idx 1 (.tmp 63) (.tmp 64), none⟩, .pure, 0, 0⟩,
  ⟨⟨some 66, .load false 1 (.tmp 65), none⟩, .read, 0, 0⟩,
  ⟨⟨some 67, .bin .neq (.tmp 62) (.tmp 66), none⟩, .pure, 0, 0⟩])
 (.cond (.tmp 67) (.seq (.region [⟨some 8, .move (.const (.bool false)), none⟩])
 (.ret))
 (.skip)))))
 (.region [⟨some 68, .bin .add (.tmp 55) (.const (.int .i64 1)), none⟩,
  ⟨some 55, .move (.tmp 68), none⟩])))
def L56_2 : LCode :=
 .seq (.region [⟨some 73, .bin .lss (.tmp 72) (.tmp 71), none⟩])
 (.seq (.cond (.tmp 73) (.skip)
 (.exit 2))
 (.seq (.block 3 (.seq (.region [⟨some 74, .move (.tmp 72), none⟩,
  ⟨some 12, .move (.tmp 74), none⟩])
 (.seq (.draw [⟨⟨some 75, .off 1 (.tmp 9), none⟩, .pure, 0, 0⟩,
  ⟨⟨some 76, .load false 1 (.tmp 75), none⟩, .read, 0, 0⟩,
  ⟨⟨some 77, .move (.tmp 12), none⟩, .pure, 0, 0⟩,
  ⟨⟨some 78, .idx 1 (.tmp 76) (.tmp 77), none⟩, .pure, 0, 0⟩,
  ⟨⟨some 79, .load false 1 (.tmp 78), none⟩, .read, 0, 0⟩,
  ⟨⟨some 80, .move (.tmp 2), none⟩, .pure, 0, 0⟩,
  ⟨⟨some 81, .nilCheck (.tmp 80), none⟩, .pure, 0, 0⟩,
  ⟨⟨some 82, .off 2 (.tmp 81), none⟩, .pure, 0, 0⟩,
  ⟨⟨some 83, .load false 1 (.tmp 82), none⟩, .read, 0, 0⟩,
  ⟨⟨some 84, .move (.tmp 12), none⟩, .pure, 0, 0⟩,
  ⟨⟨some 85, .idx 1 (.tmp 83) (.tmp 84), none⟩, .pure, 0, 0⟩,
  ⟨⟨some 86, .load false 1 (.tmp 85), none⟩, .read, 0, 0⟩,
  ⟨⟨some 87, .bin .neq (.tmp 79) (.tmp 86), none⟩, .pure, 0, 0⟩])
 (.cond (.tmp 87) (.seq (.region [⟨some 8, .move (.const (.bool false)), none⟩])
 (.ret))
 (.skip)))))
 (.region [⟨some 88, .bin .add (.tmp 72) (.const (.int .i64 1)), none⟩,
  ⟨some 72, .move (.tmp 88), none⟩])))
def L56_3 : LCode :=
 .seq (.region [⟨some 93, .bin .lss (.tmp 92) (.tmp 91), none⟩])
 (.seq (.cond (.tmp 93) (.skip)
 (.exit 4))
 (.seq (.block 5 (.seq (.region [⟨some 94, .move (.tmp 92), none⟩,
  ⟨some 13, .move (.tmp 94), none⟩])
 (.seq (.draw [⟨⟨some 95, .off 2 (.tmp 9), none⟩, .pure, 0, 0⟩,
  ⟨⟨some 96, .load false 1 (.tmp 95), none⟩, .read, 0, 0⟩,
  ⟨⟨some 97, .move (.tmp 13), none⟩, .pure, 0, 0⟩,
  ⟨⟨some 98, .idx 2 (.tmp 96) (.tmp 97), none⟩, .pure, 0, 0⟩,
  ⟨⟨some 99, .load true 2 (.tmp 98), none⟩, .read, 0, 0⟩,
  ⟨⟨some 100, .move (.tmp 2), none⟩, .pure, 0, 0⟩,
  ⟨⟨some 101, .nilCheck (.tmp 100), none⟩, .pure, 0, 0⟩,
  ⟨⟨some 102, .off 3 (.tmp 101), none⟩, .pure, 0, 0⟩,
  ⟨⟨some 103, .load false 1 (.tmp 102), none⟩, .read, 0, 0⟩,
  ⟨⟨some 104, .move (.tmp 13), none⟩, .pure, 0, 0⟩,
  ⟨⟨some 105, .idx 2 (.tmp 103) (.tmp 104), none⟩, .pure, 0, 0⟩,
  ⟨⟨some 106, .load true 2 (.tmp 105), none⟩, .read, 0, 0⟩,
  ⟨⟨some 107, .eqR true 97 (.tmp 99) (.tmp 106), none⟩, .pure, 0, 0⟩])
 (.cond (.tmp 107) (.seq (.region [⟨some 8, .move (.const (.bool false)), none⟩])
 (.ret))
 (.skip)))))
 (.region [⟨some 108, .bin .add (.tmp 92) (.const (.int .i64 1)), none⟩,
  ⟨some 92, .move (.tmp 108), none⟩])))
def L56 : LCode :=
 .seq (.region [⟨some 8, .move (.const (.bool false)), none⟩])
 (.seq (.alts [[⟨⟨some 15, .move (.tmp 0), none⟩, .pure, 0, 0⟩,
  ⟨⟨some 16, .nilCheck (.tmp 15), none⟩, .pure, 0, 0⟩,
  ⟨⟨some 17, .off 0 (.tmp 16), none⟩, .pure, 0, 0⟩,
  ⟨⟨some 18, .load true 11 (.tmp 17), none⟩, .read, 0, 0⟩,
  ⟨⟨some 19, .move (.tmp 1), none⟩, .pure, 0, 0⟩,
  ⟨⟨some 20, .move (.tmp 0), none⟩, .pure, 0, 0⟩,
  ⟨⟨some 21, .nilCheck (.tmp 20), none⟩, .pure, 0, 0⟩,
  ⟨⟨some 22, .off 212 (.tmp 21), none⟩, .pure, 0, 0⟩,
  ⟨⟨some 23, .off 0 (.tmp 22), none⟩, .pure, 0, 0⟩,
  ⟨⟨some 24, .load false 1 (.tmp 23), none⟩, .read, 0, 0⟩,
  ⟨⟨some 25, .call 21 [.tmp 18, .tmp 19, .tmp 24], none⟩, .heavy, 0, 1⟩,
  ⟨⟨some 14, .move (.tmp 25), none⟩, .pure, 1, 2⟩,
  ⟨⟨some 26, .extract (.tmp 14) 0, none⟩, .pure, 1, 2⟩,
  ⟨⟨some 27, .extract (.tmp 14) 1, none⟩, .pure, 1, 3⟩,
  ⟨⟨some 9, .new 67 6 [.slice none 0 0, .slice none 0 0, .slice none 0 0, .int .i64 0, .int .i64 0, .int .i64 0], none⟩, .heavy, 1, 2⟩,
  ⟨⟨none, .store 6 (.tmp 9) (.tmp 26), none⟩, .heavy, 2, 3⟩,
  ⟨⟨some 10, .move (.tmp 27), none⟩, .pure, 3, 3⟩],
 [⟨⟨some 15, .move (.tmp 0), none⟩, .pure, 0, 1⟩,
  ⟨⟨some 16, .nilCheck (.tmp 15), none⟩, .pure, 0, 1⟩,
  ⟨⟨some 17, .off 0 (.tmp 16), none⟩, .pure, 0, 1⟩,
  ⟨⟨some 18, .load true 11 (.tmp 17), none⟩, .read, 0, 1⟩,
  ⟨⟨some 19, .move (.tmp 1), none⟩, .pure, 0, 1⟩,
  ⟨⟨some 20, .move (.tmp 0), none⟩, .pure, 0, 1⟩,
  ⟨⟨some 21, .nilCheck (.tmp 20), none⟩, .pure, 0, 1⟩,
  ⟨⟨some 22, .off 212 (.tmp 21), none⟩, .pure, 0, 1⟩,
  ⟨⟨some 23, .off 0 (.tmp 22), none⟩, .pure, 0, 1⟩,
  ⟨⟨some 24, .load false 1 (.tmp 23), none⟩, .read, 0, 1⟩,
  ⟨⟨some 9, .new 67 6 [.slice none 0 0, .slice none 0 0, .slice none 0 0, .int .i64 0, .int .i64 0, .int .i64 0], none⟩, .heavy, 0, 1⟩,
  ⟨⟨some 25, .call 21 [.tmp 18, .tmp 19, .tmp 24], none⟩, .heavy, 1, 2⟩,
  ⟨⟨some 14, .move (.tmp 25), none⟩, .pure, 2, 2⟩,
  ⟨⟨some 26, .extract (.tmp 14) 0, none⟩, .pure, 2, 2⟩,
  ⟨⟨some 27, .extract (.tmp 14) 1, none⟩, .pure, 2, 3⟩,
  ⟨⟨none, .store 6 (.tmp 9) (.tmp 26), none⟩, .heavy, 2, 3⟩,
  ⟨⟨some 10, .move (.tmp 27), none⟩, .pure, 3, 3⟩]])
 (.seq (.seq (.draw [⟨⟨some 28, .off 3 (.tmp 9), none⟩, .pure, 0, 0⟩,
  ⟨⟨some 29, .load false 1 (.tmp 28), none⟩, .read, 0, 0⟩,
  ⟨⟨some 30, .bin .neq (.tmp 29) (.const (.int .i64 1)), none⟩, .pure, 0, 0⟩,
  ⟨⟨some 31, .move (.tmp 30), none⟩, .pure, 0, 0⟩,
  ⟨⟨some 32, .off 1 (.tmp 9), (some (31, false))⟩, .pure, 0, 0⟩,
  ⟨⟨some 33, .load false 1 (.tmp 32), (some (31, false))⟩, .read, 0, 0⟩,
  ⟨⟨some 34, .len (.tmp 33), (some (31, false))⟩, .pure, 0, 0⟩,
  ⟨⟨some 35, .move (.tmp 2), (some (31, false))⟩, .pure, 0, 0⟩,
  ⟨⟨some 36, .nilCheck (.tmp 35), (some (31, false))⟩, .pure, 0, 0⟩,
  ⟨⟨some 37, .off 2 (.tmp 36), (some (31, false))⟩, .pure, 0, 0⟩,
  ⟨⟨some 38, .load false 1 (.tmp 37), (some (31, false))⟩, .read, 0, 0⟩,
  ⟨⟨some 39, .len (.tmp 38), (some (31, false))⟩, .pure, 0, 0⟩,
  ⟨⟨some 40, .bin .neq (.tmp 34) (.tmp 39), (some (31, false))⟩, .pure, 0, 0⟩,
  ⟨⟨some 41, .pick (.tmp 31) (.const (.bool true)) (.tmp 40), none⟩, .pure, 0, 0⟩,
  ⟨⟨some 42, .move (.tmp 41), none⟩, .pure, 0, 0⟩,
  ⟨⟨some 43, .off 2 (.tmp 9), (some (42, false))⟩, .pure, 0, 0⟩,
  ⟨⟨some 44, .load false 1 (.tmp 43), (some (42, false))⟩, .read, 0, 0⟩,
  ⟨⟨some 45, .len (.tmp 44), (some (42, false))⟩, .pure, 0, 0⟩,
  ⟨⟨some 46, .move (.tmp 2), (some (42, false))⟩, .pure, 0, 0⟩,
  ⟨⟨some 47, .nilCheck (.tmp 46), (some (42, false))⟩, .pure, 0, 0⟩,
  ⟨⟨some 48, .off 3 (.tmp 47), (some (42, false))⟩, .pure, 0, 0⟩,
  ⟨⟨some 49, .load false 1 (.tmp 48), (some (42, false))⟩, .read, 0, 0⟩,
  ⟨⟨some 50, .len (.tmp 49), (some (42, false))⟩, .pure, 0, 0⟩,
  ⟨⟨some 51, .bin .neq (.tmp 45) (.tmp 50), (some (42, false))⟩, .pure, 0, 0⟩,
  ⟨⟨some 52, .pick (.tmp 42) (.const (.bool true)) (.tmp 51), none⟩, .pure, 0, 0⟩])
 (.cond (.tmp 52) (.seq (.region [⟨some 8, .move (.const (.bool false)), none⟩])
 (.ret))
 (.skip)))
 (.seq (.seq (.region [⟨some 53, .move (.tmp 3), none⟩,
  ⟨some 54, .len (.tmp 53), none⟩,
  ⟨some 55, .move (.const (.int .i64 0)), none⟩])
 (.block 0 (.loop L56_1)))
 (.seq (.seq (.region [⟨some 69, .off 1 (.tmp 9), none⟩,
  ⟨some 70, .load false 1 (.tmp 69), none⟩,
  ⟨some 71, .len (.tmp 70), none⟩,
  ⟨some 72, .move (.const (.int .i64 0)), none⟩])
 (.block 2 (.loop L56_2)))
 (.seq (.seq (.region [⟨some 89, .off 2 (.tmp 9), none⟩,
  ⟨some 90, .load false 1 (.tmp 89), none⟩,
  ⟨some 91, .len (.tmp 90), none⟩,
  ⟨some 92, .move (.const (.int .i64 0)), none⟩])
 (.block 4 (.loop L56_3)))
 (.seq (.region [⟨some 8, .move (.const (.bool true)), none⟩])
 (.ret)))))))
theorem lightX56 : LightX Try.prog 56 4 109 L56 [.tmp 8] :=
  ⟨Try.f56, _, Try.func56, rfl, rfl, by kernel_rfl, by kernel_rfl, by decide⟩

/-! ### function 57: (*outrider/vm.VM).end -/
def L57 : LCode :=
 .region [⟨some 6, .move (.tmp 0), none⟩,
  ⟨some 7, .move (.tmp 0), none⟩,
  ⟨some 8, .move (.tmp 1), none⟩,
  ⟨some 9, .move (.tmp 2), none⟩,
  ⟨some 10, .nilCheck (.tmp 6), none⟩,
  ⟨some 11, .off 0 (.tmp 10), none⟩,
  ⟨some 12, .off 18 (.tmp 11), none⟩,
  ⟨none, .store 1 (.tmp 12) (.tmp 8), none⟩,
  ⟨some 13, .nilCheck (.tmp 7), none⟩,
  ⟨some 14, .off 0 (.tmp 13), none⟩,
  ⟨some 15, .off 19 (.tmp 14), none⟩,
  ⟨none, .store 1 (.tmp 15) (.tmp 9), none⟩]
theorem light57 : Light Try.prog 57 3 16 L57 [] :=
  ⟨Try.f57, _, Try.func57, rfl, rfl, by kernel_rfl, by kernel_rfl, by decide⟩

/-! ### function 58: (*outrider/vm.VM).memory -/
def L58 : LCode :=
 .seq (.region [⟨some 4, .box 55 6 (.tmp 1), none⟩])
 (.seq (.region [⟨some 9, .move (.tmp 0), none⟩,
  ⟨some 10, .load true 6 (.tmp 4), none⟩,
  ⟨some 11, .call 61 [.tmp 9, .tmp 10], none⟩,
  ⟨some 8, .move (.tmp 11), none⟩,
  ⟨some 12, .extract (.tmp 8) 0, none⟩,
  ⟨some 13, .extract (.tmp 8) 1, none⟩,
  ⟨some 6, .move (.tmp 12), none⟩,
  ⟨some 7, .move (.tmp 13), none⟩])
 (.seq (.seq (.region [⟨some 14, .move (.tmp 7), none⟩,
  ⟨some 15, .un .not (.tmp 14), none⟩])
 (.cond (.tmp 15) (.seq (.region [⟨some 16, .move (.tmp 0), none⟩,
  ⟨some 17, .move (.tmp 6), none⟩,
  ⟨some 18, .call 57 [.tmp 16, .const (.int .i64 3), .tmp 17], none⟩])
 (.ret))
 (.skip)))
 (.seq (.seq (.region [⟨some 19, .off 0 (.tmp 4), none⟩,
  ⟨some 20, .load false 1 (.tmp 19), none⟩,
  ⟨some 21, .bin .eql (.tmp 20) (.const (.int .i64 6)), none⟩])
 (.cond (.tmp 21) (.draw [⟨⟨some 22, .move (.tmp 0), none⟩, .pure, 0, 0⟩,
  ⟨⟨some 23, .off 2 (.tmp 4), none⟩, .pure, 0, 0⟩,
  ⟨⟨some 24, .load false 1 (.tmp 23), none⟩, .read, 0, 0⟩,
  ⟨⟨some 25, .move (.tmp 2), none⟩, .pure, 0, 0⟩,
  ⟨⟨some 26, .nilCheck (.tmp 22), none⟩, .pure, 0, 0⟩,
  ⟨⟨some 27, .off 0 (.tmp 26), none⟩, .pure, 0, 0⟩,
  ⟨⟨some 28, .off 0 (.tmp 27), none⟩, .pure, 0, 0⟩,
  ⟨⟨some 29, .idxArr 16 1 (.tmp 28) (.tmp 24), none⟩, .pure, 0, 0⟩,
  ⟨⟨none, .store 1 (.tmp 29) (.tmp 25), none⟩, .heavy, 0, 1⟩])
 (.skip)))
 (.region [⟨some 30, .move (.tmp 0), none⟩,
  ⟨some 31, .nilCheck (.tmp 30), none⟩,
  ⟨some 32, .off 0 (.tmp 31), none⟩,
  ⟨some 33, .off 16 (.tmp 32), none⟩,
  ⟨some 34, .load false 1 (.tmp 33), none⟩,
  ⟨some 35, .bin .add (.tmp 34) (.const (.int .i64 1)), none⟩,
  ⟨some 36, .nilCheck (.tmp 30), none⟩,
  ⟨some 37, .off 0 (.tmp 36), none⟩,
  ⟨some 38, .off 16 (.tmp 37), none⟩,
  ⟨none, .store 1 (.tmp 38) (.tmp 35), none⟩]))))
theorem light58 : Light Try.prog 58 3 39 L58 [] :=
  ⟨Try.f58, _, Try.func58, rfl, rfl, by kernel_rfl, by kernel_rfl, by decide⟩

/-! ### function 59: (*outrider/vm.VM).branch -/
def L59 : LCode :=
 .seq (.region [⟨some 3, .box 55 6 (.tmp 1), none⟩])
 (.seq (.draw [⟨⟨some 5, .move (.tmp 0), none⟩, .pure, 0, 0⟩,
  ⟨⟨some 6, .off 2 (.tmp 3), none⟩, .pure, 0, 0⟩,
  ⟨⟨some 7, .load false 1 (.tmp 6), none⟩, .read, 0, 0⟩,
  ⟨⟨some 8, .nilCheck (.tmp 5), none⟩, .pure, 0, 0⟩,
  ⟨⟨some 9, .off 0 (.tmp 8), none⟩, .pure, 0, 0⟩,
  ⟨⟨some 10, .off 0 (.tmp 9), none⟩, .pure, 0, 0⟩,
  ⟨⟨some 11, .idxArr 16 1 (.tmp 10) (.tmp 7), none⟩, .pure, 0, 0⟩,
  ⟨⟨some 12, .load false 1 (.tmp 11), none⟩, .read, 0, 0⟩,
  ⟨⟨some 13, .bin .eql (.tmp 12) (.const (.int .i64 0)), none⟩, .pure, 0, 0⟩,
  ⟨⟨some 4, .move (.tmp 13), none⟩, .pure, 0, 0⟩])
 (.seq (.seq (.region [⟨some 14, .off 0 (.tmp 3), none⟩,
  ⟨some 15, .load false 1 (.tmp 14), none⟩,
  ⟨some 16, .bin .eql (.tmp 15) (.const (.int .i64 10)), none⟩,
  ⟨some 17, .move (.tmp 16), none⟩,
  ⟨some 18, .move (.tmp 4), (some (17, false))⟩,
  ⟨some 19, .off 0 (.tmp 3), (some (17, false))⟩,
  ⟨some 20, .load false 1 (.tmp 19), (some (17, false))⟩,
  ⟨some 21, .bin .eql (.tmp 20) (.const (.int .i64 11)), (some (17, false))⟩,
  ⟨some 22, .eqB false (.tmp 18) (.tmp 21), (some (17, false))⟩,
  ⟨some 23, .pick (.tmp 17) (.const (.bool true)) (.tmp 22), none⟩])
 (.cond (.tmp 23) (.seq (.region [⟨some 24, .move (.tmp 0), none⟩,
  ⟨some 25, .off 5 (.tmp 3), none⟩,
  ⟨some 26, .load false 1 (.tmp 25), none⟩,
  ⟨some 27, .nilCheck (.tmp 24), none⟩,
  ⟨some 28, .off 0 (.tmp 27), none⟩,
  ⟨some 29, .off 16 (.tmp 28), none⟩,
  ⟨none, .store 1 (.tmp 29) (.tmp 26), none⟩])
 (.ret))
 (.skip)))
 (.region [⟨some 30, .move (.tmp 0), none⟩,
  ⟨some 31, .nilCheck (.tmp 30), none⟩,
  ⟨some 32, .off 0 (.tmp 31), none⟩,
  ⟨some 33, .off 16 (.tmp 32), none⟩,
  ⟨some 34, .load false 1 (.tmp 33), none⟩,
  ⟨some 35, .bin .add (.tmp 34) (.const (.int .i64 1)), none⟩,
  ⟨some 36, .nilCheck (.tmp 30), none⟩,
  ⟨some 37, .off 0 (.tmp 36), none⟩,
  ⟨some 38, .off 16 (.tmp 37), none⟩,
  ⟨none, .store 1 (.tmp 38) (.tmp 35), none⟩])))
theorem light59 : Light Try.prog 59 2 39 L59 [] :=
  ⟨Try.f59, _, Try.func59, rfl, rfl, by kernel_rfl, by kernel_rfl, by decide⟩

/-! ### function 60: (*outrider/vm.VM).reckon -/
def L60 : LCode :=
 .seq (.region [⟨some 3, .box 55 6 (.tmp 1), none⟩])
 (.seq (.seq (.region [⟨some 6, .off 0 (.tmp 3), none⟩,
  ⟨some 7, .load false 1 (.tmp 6), none⟩])
 (.block 0 (.seq (.region [⟨some 9, .bin .eql (.tmp 7) (.const (.int .i64 2)), none⟩,
  ⟨some 8, .move (.tmp 9), none⟩])
 (.cond (.tmp 8) (.draw [⟨⟨some 10, .move (.tmp 0), none⟩, .pure, 0, 0⟩,
  ⟨⟨some 11, .off 2 (.tmp 3), none⟩, .pure, 0, 0⟩,
  ⟨⟨some 12, .load false 1 (.tmp 11), none⟩, .read, 0, 0⟩,
  ⟨⟨some 13, .off 5 (.tmp 3), none⟩, .pure, 0, 0⟩,
  ⟨⟨some 14, .load false 1 (.tmp 13), none⟩, .read, 0, 0⟩,
  ⟨⟨some 15, .nilCheck (.tmp 10), none⟩, .pure, 0, 0⟩,
  ⟨⟨some 16, .off 0 (.tmp 15), none⟩, .pure, 0, 0⟩,
  ⟨⟨some 17, .off 0 (.tmp 16), none⟩, .pure, 0, 0⟩,
  ⟨⟨some 18, .idxArr 16 1 (.tmp 17) (.tmp 12), none⟩, .pure, 0, 0⟩,
  ⟨⟨none, .store 1 (.tmp 18) (.tmp 14), none⟩, .heavy, 0, 1⟩])
 (.seq (.region [⟨some 20, .bin .eql (.tmp 7) (.const (.int .i64 3)), none⟩,
  ⟨some 19, .move (.tmp 20), none⟩])
 (.cond (.tmp 19) (.draw [⟨⟨some 21, .move (.tmp 0), none⟩, .pure, 0, 0⟩,
  ⟨⟨some 22, .off 2 (.tmp 3), none⟩, .pure, 0, 0⟩,
  ⟨⟨some 23, .load false 1 (.tmp 22), none⟩, .read, 0, 0⟩,
  ⟨⟨some 24, .move (.tmp 0), none⟩, .pure, 0, 0⟩,
  ⟨⟨some 25, .off 3 (.tmp 3), none⟩, .pure, 0, 0⟩,
  ⟨⟨some 26, .load false 1 (.tmp 25), none⟩, .read, 0, 0⟩,
  ⟨⟨some 27, .nilCheck (.tmp 24), none⟩, .pure, 0, 0⟩,
  ⟨⟨some 28, .off 0 (.tmp 27), none⟩, .pure, 0, 0⟩,
  ⟨⟨some 29, .off 0 (.tmp 28), none⟩, .pure, 0, 0⟩,
  ⟨⟨some 30, .idxArr 16 1 (.tmp 29) (.tmp 26), none⟩, .pure, 0, 0⟩,
  ⟨⟨some 31, .load false 1 (.tmp 30), none⟩, .read, 0, 0⟩,
  ⟨⟨some 32, .nilCheck (.tmp 21), none⟩, .pure, 0, 0⟩,
  ⟨⟨some 33, .off 0 (.tmp 32), none⟩, .pure, 0, 0⟩,
  ⟨⟨some 34, .off 0 (.tmp 33), none⟩, .pure, 0, 0⟩,
  ⟨⟨some 35, .idxArr 16 1 (.tmp 34) (.tmp 23), none⟩, .pure, 0, 0⟩,
  ⟨⟨none, .store 1 (.tmp 35) (.tmp 31), none⟩, .heavy, 0, 1⟩])
 (.seq (.region [⟨some 37, .bin .eql (.tmp 7) (.const (.int .i64 4)), none⟩,
  ⟨some 36, .move (.tmp 37), none⟩])
 (.cond (.tmp 36) (.draw [⟨⟨some 39, .move (.tmp 0), none⟩, .pure, 0, 1⟩,
  ⟨⟨some 40, .off 2 (.tmp 3), none⟩, .pure, 0, 1⟩,
  ⟨⟨some 41, .load false 1 (.tmp 40), none⟩, .read, 0, 1⟩,
  ⟨⟨some 42, .off 1 (.tmp 3), none⟩, .pure, 0, 0⟩,
  ⟨⟨some 43, .load false 1 (.tmp 42), none⟩, .read, 0, 0⟩,
  ⟨⟨some 44, .move (.tmp 0), none⟩, .pure, 0, 0⟩,
  ⟨⟨some 45, .off 3 (.tmp 3), none⟩, .pure, 0, 0⟩,
  ⟨⟨some 46, .load false 1 (.tmp 45), none⟩, .read, 0, 0⟩,
  ⟨⟨some 47, .nilCheck (.tmp 44), none⟩, .pure, 0, 0⟩,
  ⟨⟨some 48, .off 0 (.tmp 47), none⟩, .pure, 0, 0⟩,
  ⟨⟨some 49, .off 0 (.tmp 48), none⟩, .pure, 0, 0⟩,
  ⟨⟨some 50, .idxArr 16 1 (.tmp 49) (.tmp 46), none⟩, .pure, 0, 0⟩,
  ⟨⟨some 51, .load false 1 (.tmp 50), none⟩, .read, 0, 0⟩,
  ⟨⟨some 52, .call 66 [.tmp 43, .tmp 51], none⟩, .heavy, 0, 1⟩,
  ⟨⟨some 38, .move (.tmp 52), none⟩, .pure, 1, 1⟩,
  ⟨⟨some 53, .extract (.tmp 38) 0, none⟩, .pure, 1, 1⟩,
  ⟨⟨some 54, .extract (.tmp 38) 1, none⟩, .pure, 1, 2⟩,
  ⟨⟨some 55, .nilCheck (.tmp 39), none⟩, .pure, 0, 1⟩,
  ⟨⟨some 56, .off 0 (.tmp 55), none⟩, .pure, 0, 1⟩,
  ⟨⟨some 57, .off 0 (.tmp 56), none⟩, .pure, 0, 1⟩,
  ⟨⟨some 58, .idxArr 16 1 (.tmp 57) (.tmp 41), none⟩, .pure, 1, 1⟩,
  ⟨⟨none, .store 1 (.tmp 58) (.tmp 53), none⟩, .heavy, 1, 2⟩])
 (.seq (.region [⟨some 60, .bin .eql (.tmp 7) (.const (.int .i64 5)), none⟩,
  ⟨some 59, .move (.tmp 60), none⟩])
 (.cond (.tmp 59) (.seq (.draw [⟨⟨some 62, .off 1 (.tmp 3), none⟩, .pure, 0, 0⟩,
  ⟨⟨some 63, .load false 1 (.tmp 62), none⟩, .read, 0, 0⟩,
  ⟨⟨some 64, .move (.tmp 0), none⟩, .pure, 0, 0⟩,
  ⟨⟨some 65, .off 3 (.tmp 3), none⟩, .pure, 0, 0⟩,
  ⟨⟨some 66, .load false 1 (.tmp 65), none⟩, .read, 0, 0⟩,
  ⟨⟨some 67, .nilCheck (.tmp 64), none⟩, .pure, 0, 0⟩,
  ⟨⟨some 68, .off 0 (.tmp 67), none⟩, .pure, 0, 0⟩,
  ⟨⟨some 69, .off 0 (.tmp 68), none⟩, .pure, 0, 0⟩,
  ⟨⟨some 70, .idxArr 16 1 (.tmp 69) (.tmp 66), none⟩, .pure, 0, 0⟩,
  ⟨⟨some 71, .load false 1 (.tmp 70), none⟩, .read, 0, 0⟩,
  ⟨⟨some 72, .move (.tmp 0), none⟩, .pure, 0, 0⟩,
  ⟨⟨some 73, .off 4 (.tmp 3), none⟩, .pure, 0, 0⟩,
  ⟨⟨some 74, .load false 1 (.tmp 73), none⟩, .read, 0, 0⟩,
  ⟨⟨some 75, .nilCheck (.tmp 72), none⟩, .pure, 0, 0⟩,
  ⟨⟨some 76, .off 0 (.tmp 75), none⟩, .pure, 0, 0⟩,
  ⟨⟨some 77, .off 0 (.tmp 76), none⟩, .pure, 0, 0⟩,
  ⟨⟨some 78, .idxArr 16 1 (.tmp 77) (.tmp 74), none⟩, .pure, 0, 0⟩,
  ⟨⟨some 79, .load false 1 (.tmp 78), none⟩, .read, 0, 0⟩,
  ⟨⟨some 80, .call 67 [.tmp 63, .tmp 71, .tmp 79], none⟩, .heavy, 0, 1⟩,
  ⟨⟨some 61, .move (.tmp 80), none⟩, .pure, 1, 1⟩,
  ⟨⟨some 81, .extract (.tmp 61) 0, none⟩, .pure, 1, 1⟩,
  ⟨⟨some 82, .extract (.tmp 61) 1, none⟩, .pure, 1, 1⟩,
  ⟨⟨some 4, .move (.tmp 81), none⟩, .pure, 1, 1⟩,
  ⟨⟨some 5, .move (.tmp 82), none⟩, .pure, 1, 1⟩])
 (.seq (.seq (.region [⟨some 83, .move (.tmp 5), none⟩,
  ⟨some 84, .un .not (.tmp 83), none⟩])
 (.cond (.tmp 84) (.seq (.region [⟨some 85, .move (.tmp 0), none⟩,
  ⟨some 86, .call 57 [.tmp 85, .const (.int .i64 2), .const (.int .i64 0)], none⟩])
 (.ret))
 (.skip)))
 (.draw [⟨⟨some 87, .move (.tmp 0), none⟩, .pure, 0, 0⟩,
  ⟨⟨some 88, .off 2 (.tmp 3), none⟩, .pure, 0, 0⟩,
  ⟨⟨some 89, .load false 1 (.tmp 88), none⟩, .read, 0, 0⟩,
  ⟨⟨some 90, .move (.tmp 4), none⟩, .pure, 0, 0⟩,
  ⟨⟨some 91, .nilCheck (.tmp 87), none⟩, .pure, 0, 0⟩,
  ⟨⟨some 92, .off 0 (.tmp 91), none⟩, .pure, 0, 0⟩,
  ⟨⟨some 93, .off 0 (.tmp 92), none⟩, .pure, 0, 0⟩,
  ⟨⟨some 94, .idxArr 16 1 (.tmp 93) (.tmp 89), none⟩, .pure, 0, 0⟩,
  ⟨⟨none, .store 1 (.tmp 94) (.tmp 90), none⟩, .heavy, 0, 1⟩])))
 (.skip)))))))))))
 (.region [⟨some 95, .move (.tmp 0), none⟩,
  ⟨some 96, .nilCheck (.tmp 95), none⟩,
  ⟨some 97, .off 0 (.tmp 96), none⟩,
  ⟨some 98, .off 16 (.tmp 97), none⟩,
  ⟨some 99, .load false 1 (.tmp 98), none⟩,
  ⟨some 100, .bin .add (.tmp 99) (.const (.int .i64 1)), none⟩,
  ⟨some 101, .nilCheck (.tmp 95), none⟩,
  ⟨some 102, .off 0 (.tmp 101), none⟩,
  ⟨some 103, .off 16 (.tmp 102), none⟩,
  ⟨none, .store 1 (.tmp 103) (.tmp 100), none⟩]))
theorem light60 : Light Try.prog 60 2 104 L60 [] :=
  ⟨Try.f60, _, Try.func60, rfl, rfl, by kernel_rfl, by kernel_rfl, by decide⟩

/-! ### function 61: (*outrider/vm.VM).address -/
def L61 : LCode :=
 .seq (.region [⟨some 3, .box 55 6 (.tmp 1), none⟩,
  ⟨some 4, .move (.const (.int .i64 0)), none⟩,
  ⟨some 5, .move (.const (.bool false)), none⟩])
 (.seq (.draw [⟨⟨some 7, .move (.tmp 0), none⟩, .pure, 0, 0⟩,
  ⟨⟨some 8, .off 3 (.tmp 3), none⟩, .pure, 0, 0⟩,
  ⟨⟨some 9, .load false 1 (.tmp 8), none⟩, .read, 0, 0⟩,
  ⟨⟨some 10, .nilCheck (.tmp 7), none⟩, .pure, 0, 0⟩,
  ⟨⟨some 11, .off 0 (.tmp 10), none⟩, .pure, 0, 0⟩,
  ⟨⟨some 12, .off 0 (.tmp 11), none⟩, .pure, 0, 0⟩,
  ⟨⟨some 13, .idxArr 16 1 (.tmp 12) (.tmp 9), none⟩, .pure, 0, 0⟩,
  ⟨⟨some 14, .load false 1 (.tmp 13), none⟩, .read, 0, 0⟩,
  ⟨⟨some 15, .off 5 (.tmp 3), none⟩, .pure, 0, 0⟩,
  ⟨⟨some 16, .load false 1 (.tmp 15), none⟩, .read, 0, 0⟩,
  ⟨⟨some 17, .bin .add (.tmp 14) (.tmp 16), none⟩, .pure, 0, 0⟩,
  ⟨⟨some 6, .move (.tmp 17), none⟩, .pure, 0, 0⟩])
 (.seq (.draw [⟨⟨some 18, .move (.tmp 6), none⟩, .pure, 0, 0⟩,
  ⟨⟨some 19, .move (.tmp 6), none⟩, .pure, 0, 0⟩,
  ⟨⟨some 20, .bin .geq (.tmp 19) (.const (.int .i64 0)), none⟩, .pure, 0, 0⟩,
  ⟨⟨some 21, .move (.tmp 20), none⟩, .pure, 0, 0⟩,
  ⟨⟨some 22, .move (.tmp 6), (some (21, true))⟩, .pure, 0, 0⟩,
  ⟨⟨some 23, .move (.tmp 0), (some (21, true))⟩, .pure, 0, 0⟩,
  ⟨⟨some 24, .nilCheck (.tmp 23), (some (21, true))⟩, .pure, 0, 0⟩,
  ⟨⟨some 25, .off 21 (.tmp 24), (some (21, true))⟩, .pure, 0, 0⟩,
  ⟨⟨some 26, .load false 1 (.tmp 25), (some (21, true))⟩, .read, 0, 0⟩,
  ⟨⟨some 27, .bin .lss (.tmp 22) (.tmp 26), (some (21, true))⟩, .pure, 0, 0⟩,
  ⟨⟨some 28, .pick (.tmp 21) (.tmp 27) (.const (.bool false)), none⟩, .pure, 0, 0⟩,
  ⟨⟨some 4, .move (.tmp 18), none⟩, .pure, 0, 0⟩,
  ⟨⟨some 5, .move (.tmp 28), none⟩, .pure, 0, 0⟩])
 (.ret)))
theorem light61 : Light Try.prog 61 2 29 L61 [.tmp 4, .tmp 5] :=
  ⟨Try.f61, _, Try.func61, rfl, rfl, by kernel_rfl, by kernel_rfl, by decide⟩

/-! ### function 62: outrider/ins.shapeOf -/
def L62 : LCode :=
 .seq (.region [⟨some 2, .new 150 8 [.bool false, .bool false, .bool false, .bool false, .bool false, .bool false, .bool false, .bool false], none⟩,
  ⟨some 3, .move (.const (.bool false)), none⟩])
 (.seq (.seq (.region [⟨some 4, .move (.tmp 0), none⟩])
 (.block 0 (.seq (.region [⟨some 6, .bin .eql (.tmp 4) (.const (.int .i64 1)), none⟩,
  ⟨some 5, .move (.tmp 6), none⟩])
 (.cond (.tmp 5) (.seq (.region [⟨some 7, .build [.bool false, .bool false, .bool false, .bool false, .bool false, .bool false, .bool false, .bool false] [], none⟩,
  ⟨none, .store 8 (.tmp 2) (.tmp 7), none⟩,
  ⟨some 3, .move (.const (.bool true)), none⟩])
 (.ret))
 (.seq (.region [⟨some 9, .bin .eql (.tmp 4) (.const (.int .i64 2)), none⟩,
  ⟨some 8, .move (.tmp 9), none⟩])
 (.cond (.tmp 8) (.seq (.region [⟨some 10, .build [.bool false, .bool false, .bool false, .bool false, .bool false, .bool false, .bool false, .bool false] [(0, 1, .const (.bool true)), (4, 1, .const (.bool true))], none⟩,
  ⟨none, .store 8 (.tmp 2) (.tmp 10), none⟩,
  ⟨some 3, .move (.const (.bool true)), none⟩])
 (.ret))
 (.seq (.region [⟨some 12, .bin .eql (.tmp 4) (.const (.int .i64 3)), none⟩,
  ⟨some 11, .move (.tmp 12), none⟩])
 (.cond (.tmp 11) (.seq (.region [⟨some 13, .build [.bool false, .bool false, .bool false, .bool false, .bool false, .bool false, .bool false, .bool false] [(0, 1, .const (.bool true)), (1, 1, .const (.bool true))], none⟩,
  ⟨none, .store 8 (.tmp 2) (.tmp 13), none⟩,
  ⟨some 3, .move (.const (.bool true)), none⟩])
 (.ret))
 (.seq (.region [⟨some 15, .bin .eql (.tmp 4) (.const (.int .i64 4)), none⟩,
  ⟨some 14, .move (.tmp 15), none⟩])
 (.cond (.tmp 14) (.seq (.region [⟨some 16, .build [.bool false, .bool false, .bool false, .bool false, .bool false, .bool false, .bool false, .bool false] [(0, 1, .const (.bool true)), (1, 1, .const (.bool true)), (6, 1, .const (.bool true))], none⟩,
  ⟨none, .store 8 (.tmp 2) (.tmp 16), none⟩,
  ⟨some 3, .move (.const (.bool true)), none⟩])
 (.ret))
 (.seq (.region [⟨some 18, .bin .eql (.tmp 4) (.const (.int .i64 5)), none⟩,
  ⟨some 17, .move (.tmp 18), none⟩])
 (.cond (.tmp 17) (.seq (.region [⟨some 19, .build [.bool false, .bool false, .bool false, .bool false, .bool false, .bool false, .bool false, .bool false] [(0, 1, .const (.bool true)), (1, 1, .const (.bool true)), (2, 1, .const (.bool true)), (7, 1, .const (.bool true))], none⟩,
  ⟨none, .store 8 (.tmp 2) (.tmp 19), none⟩,
  ⟨some 3, .move (.const (.bool true)), none⟩])
 (.ret))
 (.seq (.seq (.region [⟨some 21, .bin .eql (.tmp 4) (.const (.int .i64 6)), none⟩,
  ⟨some 20, .move (.tmp 21), none⟩])
 (.cond (.tmp 20) (.skip)
 (.region [⟨some 22, .bin .eql (.tmp 4) (.const (.int .i64 7)), none⟩,
  ⟨some 20, .move (.tmp 22), none⟩])))
 (.cond (.tmp 20) (.seq (.region [⟨some 23, .build [.bool false, .bool false, .bool false, .bool false, .bool false, .bool false, .bool false, .bool false] [(0, 1, .const (.bool true)), (1, 1, .const (.bool true)), (4, 1, .const (.bool true))], none⟩,
  ⟨none, .store 8 (.tmp 2) (.tmp 23), none⟩,
  ⟨some 3, .move (.const (.bool true)), none⟩])
 (.ret))
 (.seq (.region [⟨some 25, .bin .eql (.tmp 4) (.const (.int .i64 8)), none⟩,
  ⟨some 24, .move (.tmp 25), none⟩])
 (.cond (.tmp 24) (.seq (.region [⟨some 26, .build [.bool false, .bool false, .bool false, .bool false, .bool false, .bool false, .bool false, .bool false] [(0, 1, .const (.bool true)), (3, 1, .const (.bool true))], none⟩,
  ⟨none, .store 8 (.tmp 2) (.tmp 26), none⟩,
  ⟨some 3, .move (.const (.bool true)), none⟩])
 (.ret))
 (.seq (.seq (.region [⟨some 28, .bin .eql (.tmp 4) (.const (.int .i64 9)), none⟩,
  ⟨some 27, .move (.tmp 28), none⟩])
 (.cond (.tmp 27) (.skip)
 (.region [⟨some 29, .bin .eql (.tmp 4) (.const (.int .i64 13)), none⟩,
  ⟨some 27, .move (.tmp 29), none⟩])))
 (.cond (.tmp 27) (.seq (.region [⟨some 30, .build [.bool false, .bool false, .bool false, .bool false, .bool false, .bool false, .bool false, .bool false] [(0, 1, .const (.bool true))], none⟩,
  ⟨none, .store 8 (.tmp 2) (.tmp 30), none⟩,
  ⟨some 3, .move (.const (.bool true)), none⟩])
 (.ret))
 (.seq (.region [⟨some 32, .bin .eql (.tmp 4) (.const (.int .i64 10)), none⟩,
  ⟨some 31, .move (.tmp 32), none⟩])
 (.cond (.tmp 31) (.seq (.region [⟨some 33, .build [.bool false, .bool false, .bool false, .bool false, .bool false, .bool false, .bool false, .bool false] [(4, 1, .const (.bool true)), (5, 1, .const (.bool true))], none⟩,
  ⟨none, .store 8 (.tmp 2) (.tmp 33), none⟩,
  ⟨some 3, .move (.const (.bool true)), none⟩])
 (.ret))
 (.seq (.seq (.region [⟨some 35, .bin .eql (.tmp 4) (.const (.int .i64 11)), none⟩,
  ⟨some 34, .move (.tmp 35), none⟩])
 (.cond (.tmp 34) (.skip)
 (.region [⟨some 36, .bin .eql (.tmp 4) (.const (.int .i64 12)), none⟩,
  ⟨some 34, .move (.tmp 36), none⟩])))
 (.cond (.tmp 34) (.seq (.region [⟨some 37, .build [.bool false, .bool false, .bool false, .bool false, .bool false, .bool false, .bool false, .bool false] [(0, 1, .const (.bool true)), (4, 1, .const (.bool true)), (5, 1, .const (.bool true))], none⟩,
  ⟨none, .store 8 (.tmp 2) (.tmp 37), none⟩,
  ⟨some 3, .move (.const (.bool true)), none⟩])
 (.ret))
 (.skip)))))))))))))))))))))))
 (.seq (.region [⟨some 38, .build [.bool false, .bool false, .bool false, .bool false, .bool false, .bool false, .bool false, .bool false] [], none⟩,
  ⟨none, .store 8 (.tmp 2) (.tmp 38), none⟩,
  ⟨some 3, .move (.const (.bool false)), none⟩])
 (.ret)))
theorem light62 : Light Try.prog 62 1 39 L62 [.cell 2 true 8, .tmp 3] :=
  ⟨Try.f62, _, Try.func62, rfl, rfl, by kernel_rfl, by kernel_rfl, by decide⟩

/-! ### function 63: outrider/ins.reg -/
def L63 : LCode :=
 .seq (.region [⟨some 4, .move (.const (.bool false)), none⟩])
 (.seq (.region [⟨some 5, .move (.tmp 0), none⟩,
  ⟨some 6, .move (.tmp 5), none⟩,
  ⟨some 7, .move (.tmp 1), (some (6, true))⟩,
  ⟨some 8, .bin .geq (.tmp 7) (.const (.int .i64 0)), (some (6, true))⟩,
  ⟨some 9, .pick (.tmp 6) (.tmp 8) (.const (.bool false)), none⟩,
  ⟨some 10, .move (.tmp 9), none⟩,
  ⟨some 11, .move (.tmp 1), (some (10, true))⟩,
  ⟨some 12, .bin .lss (.tmp 11) (.const (.int .i64 16)), (some (10, true))⟩,
  ⟨some 13, .pick (.tmp 10) (.tmp 12) (.const (.bool false)), none⟩,
  ⟨some 14, .move (.tmp 13), none⟩,
  ⟨some 15, .move (.tmp 0), (some (14, false))⟩,
  ⟨some 16, .un .not (.tmp 15), (some (14, false))⟩,
  ⟨some 17, .move (.tmp 16), (some (14, false))⟩,
  ⟨some 18, .move (.tmp 1), (some (17, true))⟩,
  ⟨some 19, .bin .eql (.tmp 18) (.const (.int .i64 0)), (some (17, true))⟩,
  ⟨some 20, .pick (.tmp 17) (.tmp 19) (.const (.bool false)), (some (14, false))⟩,
  ⟨some 21, .pick (.tmp 14) (.const (.bool true)) (.tmp 20), none⟩,
  ⟨some 4, .move (.tmp 21), none⟩])
 (.ret))
theorem light63 : Light Try.prog 63 2 22 L63 [.tmp 4] :=
  ⟨Try.f63, _, Try.func63, rfl, rfl, by kernel_rfl, by kernel_rfl, by decide⟩

/-! ### function 64: outrider/outriderref01.add -/
def L64 : LCode :=
 .seq (.region [⟨some 4, .move (.const (.int .i64 0)), none⟩])
 (.seq (.region [⟨some 11, .move (.tmp 0), none⟩,
  ⟨some 12, .call 68 [.tmp 11], none⟩,
  ⟨some 10, .move (.tmp 12), none⟩,
  ⟨some 13, .extract (.tmp 10) 0, none⟩,
  ⟨some 14, .extract (.tmp 10) 1, none⟩,
  ⟨some 5, .move (.tmp 13), none⟩,
  ⟨some 6, .move (.tmp 14), none⟩])
 (.seq (.region [⟨some 16, .move (.tmp 1), none⟩,
  ⟨some 17, .call 68 [.tmp 16], none⟩,
  ⟨some 15, .move (.tmp 17), none⟩,
  ⟨some 18, .extract (.tmp 15) 0, none⟩,
  ⟨some 19, .extract (.tmp 15) 1, none⟩,
  ⟨some 7, .move (.tmp 18), none⟩,
  ⟨some 8, .move (.tmp 19), none⟩])
 (.seq (.region [⟨some 20, .move (.tmp 5), none⟩,
  ⟨some 21, .move (.tmp 7), none⟩,
  ⟨some 22, .bin .add (.tmp 20) (.tmp 21), none⟩,
  ⟨some 9, .move (.tmp 22), none⟩])
 (.seq (.region [⟨some 23, .move (.tmp 9), none⟩,
  ⟨some 24, .move (.tmp 6), none⟩,
  ⟨some 25, .move (.tmp 8), none⟩,
  ⟨some 26, .bin .add (.tmp 24) (.tmp 25), none⟩,
  ⟨some 27, .move (.tmp 9), none⟩,
  ⟨some 28, .bin .shr (.tmp 27) (.const (.int .u64 32)), none⟩,
  ⟨some 29, .bin .add (.tmp 26) (.tmp 28), none⟩,
  ⟨some 30, .call 69 [.tmp 23, .tmp 29], none⟩,
  ⟨some 4, .move (.tmp 30), none⟩])
 (.ret)))))
theorem light64 : Light Try.prog 64 2 31 L64 [.tmp 4] :=
  ⟨Try.f64, _, Try.func64, rfl, rfl, by kernel_rfl, by kernel_rfl, by decide⟩

/-! ### function 65: outrider/outriderref01.com -/
def L65 : LCode :=
 .seq (.region [⟨some 2, .move (.const (.int .i64 0)), none⟩])
 (.seq (.region [⟨some 6, .move (.tmp 0), none⟩,
  ⟨some 7, .call 68 [.tmp 6], none⟩,
  ⟨some 5, .move (.tmp 7), none⟩,
  ⟨some 8, .extract (.tmp 5) 0, none⟩,
  ⟨some 9, .extract (.tmp 5) 1, none⟩,
  ⟨some 3, .move (.tmp 8), none⟩,
  ⟨some 4, .move (.tmp 9), none⟩])
 (.seq (.region [⟨some 10, .move (.tmp 3), none⟩,
  ⟨some 11, .bin .sub (.const (.int .u64 4294967295)) (.tmp 10), none⟩,
  ⟨some 12, .move (.tmp 4), none⟩,
  ⟨some 13, .bin .sub (.const (.int .u64 4294967295)) (.tmp 12), none⟩,
  ⟨some 14, .call 69 [.tmp 11, .tmp 13], none⟩,
  ⟨some 2, .move (.tmp 14), none⟩])
 (.ret)))
theorem light65 : Light Try.prog 65 1 15 L65 [.tmp 2] :=
  ⟨Try.f65, _, Try.func65, rfl, rfl, by kernel_rfl, by kernel_rfl, by decide⟩

/-! ### function 66: outrider/num.One -/
def L66 : LCode :=
 .seq (.region [⟨some 4, .move (.const (.int .i64 0)), none⟩,
  ⟨some 5, .move (.const (.bool false)), none⟩])
 (.seq (.seq (.region [⟨some 6, .move (.tmp 0), none⟩])
 (.block 0 (.seq (.region [⟨some 8, .bin .eql (.tmp 6) (.const (.int .i64 19)), none⟩,
  ⟨some 7, .move (.tmp 8), none⟩])
 (.cond (.tmp 7) (.seq (.region [⟨some 9, .move (.tmp 1), none⟩,
  ⟨some 10, .un .neg (.tmp 9), none⟩,
  ⟨some 4, .move (.tmp 10), none⟩,
  ⟨some 5, .move (.const (.bool true)), none⟩])
 (.ret))
 (.seq (.region [⟨some 12, .bin .eql (.tmp 6) (.const (.int .i64 20)), none⟩,
  ⟨some 11, .move (.tmp 12), none⟩])
 (.cond (.tmp 11) (.seq (.region [⟨some 13, .move (.tmp 1), none⟩,
  ⟨some 14, .un .xor (.tmp 13), none⟩,
  ⟨some 4, .move (.tmp 14), none⟩,
  ⟨some 5, .move (.const (.bool true)), none⟩])
 (.ret))
 (.seq (.region [⟨some 16, .bin .eql (.tmp 6) (.const (.int .i64 21)), none⟩,
  ⟨some 15, .move (.tmp 16), none⟩])
 (.cond (.tmp 15) (.seq (.seq (.region [⟨some 17, .move (.tmp 1), none⟩,
  ⟨some 18, .bin .eql (.tmp 17) (.const (.int .i64 0)), none⟩])
 (.cond (.tmp 18) (.seq (.region [⟨some 4, .move (.const (.int .i64 1)), none⟩,
  ⟨some 5, .move (.const (.bool true)), none⟩])
 (.ret))
 (.skip)))
 (.seq (.region [⟨some 4, .move (.const (.int .i64 0)), none⟩,
  ⟨some 5, .move (.const (.bool true)), none⟩])
 (.ret)))
 (.skip)))))))))
 (.seq (.region [⟨some 4, .move (.const (.int .i64 0)), none⟩,
  ⟨some 5, .move (.const (.bool false)), none⟩])
 (.ret)))
theorem light66 : Light Try.prog 66 2 19 L66 [.tmp 4, .tmp 5] :=
  ⟨Try.f66, _, Try.func66, rfl, rfl, by kernel_rfl, by kernel_rfl, by decide⟩

/-! ### function 67: outrider/num.Two -/
def L67 : LCode :=
 .seq (.region [⟨some 6, .move (.const (.int .i64 0)), none⟩,
  ⟨some 7, .move (.const (.bool false)), none⟩])
 (.seq (.seq (.region [⟨some 8, .move (.tmp 0), none⟩,
  ⟨some 9, .bin .geq (.tmp 8) (.const (.int .i64 11)), none⟩,
  ⟨some 10, .move (.tmp 9), none⟩,
  ⟨some 11, .move (.tmp 0), (some (10, true))⟩,
  ⟨some 12, .bin .leq (.tmp 11) (.const (.int .i64 16)), (some (10, true))⟩,
  ⟨some 13, .pick (.tmp 10) (.tmp 12) (.const (.bool false)), none⟩])
 (.cond (.tmp 13) (.seq (.region [⟨some 14, .move (.tmp 0), none⟩,
  ⟨some 15, .move (.tmp 1), none⟩,
  ⟨some 16, .move (.tmp 2), none⟩,
  ⟨some 17, .call 70 [.tmp 14, .tmp 15, .tmp 16], none⟩,
  ⟨some 6, .move (.tmp 17), none⟩,
  ⟨some 7, .move (.const (.bool true)), none⟩])
 (.ret))
 (.skip)))
 (.seq (.seq (.region [⟨some 18, .move (.tmp 0), none⟩])
 (.block 0 (.seq (.region [⟨some 20, .bin .eql (.tmp 18) (.const (.int .i64 1)), none⟩,
  ⟨some 19, .move (.tmp 20), none⟩])
 (.cond (.tmp 19) (.seq (.region [⟨some 21, .move (.tmp 1), none⟩,
  ⟨some 22, .move (.tmp 2), none⟩,
  ⟨some 23, .bin .add (.tmp 21) (.tmp 22), none⟩,
  ⟨some 6, .move (.tmp 23), none⟩,
  ⟨some 7, .move (.const (.bool true)), none⟩])
 (.ret))
 (.seq (.region [⟨some 25, .bin .eql (.tmp 18) (.const (.int .i64 2)), none⟩,
  ⟨some 24, .move (.tmp 25), none⟩])
 (.cond (.tmp 24) (.seq (.region [⟨some 26, .move (.tmp 1), none⟩,
  ⟨some 27, .move (.tmp 2), none⟩,
  ⟨some 28, .bin .sub (.tmp 26) (.tmp 27), none⟩,
  ⟨some 6, .move (.tmp 28), none⟩,
  ⟨some 7, .move (.const (.bool true)), none⟩])
 (.ret))
 (.seq (.region [⟨some 30, .bin .eql (.tmp 18) (.const (.int .i64 3)), none⟩,
  ⟨some 29, .move (.tmp 30), none⟩])
 (.cond (.tmp 29) (.seq (.region [⟨some 31, .move (.tmp 1), none⟩,
  ⟨some 32, .move (.tmp 2), none⟩,
  ⟨some 33, .bin .mul (.tmp 31) (.tmp 32), none⟩,
  ⟨some 6, .move (.tmp 33), none⟩,
  ⟨some 7, .move (.const (.bool true)), none⟩])
 (.ret))
 (.seq (.seq (.region [⟨some 35, .bin .eql (.tmp 18) (.const (.int .i64 4)), none⟩,
  ⟨some 34, .move (.tmp 35), none⟩])
 (.cond (.tmp 34) (.skip)
 (.region [⟨some 36, .bin .eql (.tmp 18) (.const (.int .i64 5)), none⟩,
  ⟨some 34, .move (.tmp 36), none⟩])))
 (.cond (.tmp 34) (.seq (.region [⟨some 37, .move (.tmp 0), none⟩,
  ⟨some 38, .move (.tmp 1), none⟩,
  ⟨some 39, .move (.tmp 2), none⟩,
  ⟨some 40, .call 71 [.tmp 37, .tmp 38, .tmp 39], none⟩,
  ⟨some 41, .extract (.tmp 40) 0, none⟩,
  ⟨some 42, .extract (.tmp 40) 1, none⟩,
  ⟨some 6, .move (.tmp 41), none⟩,
  ⟨some 7, .move (.tmp 42), none⟩])
 (.ret))
 (.seq (.region [⟨some 44, .bin .eql (.tmp 18) (.const (.int .i64 6)), none⟩,
  ⟨some 43, .move (.tmp 44), none⟩])
 (.cond (.tmp 43) (.seq (.region [⟨some 45, .move (.tmp 1), none⟩,
  ⟨some 46, .move (.tmp 2), none⟩,
  ⟨some 47, .bin .and (.tmp 45) (.tmp 46), none⟩,
  ⟨some 6, .move (.tmp 47), none⟩,
  ⟨some 7, .move (.const (.bool true)), none⟩])
 (.ret))
 (.seq (.region [⟨some 49, .bin .eql (.tmp 18) (.const (.int .i64 7)), none⟩,
  ⟨some 48, .move (.tmp 49), none⟩])
 (.cond (.tmp 48) (.seq (.region [⟨some 50, .move (.tmp 1), none⟩,
  ⟨some 51, .move (.tmp 2), none⟩,
  ⟨some 52, .bin .or (.tmp 50) (.tmp 51), none⟩,
  ⟨some 6, .move (.tmp 52), none⟩,
  ⟨some 7, .move (.const (.bool true)), none⟩])
 (.ret))
 (.seq (.region [⟨some 54, .bin .eql (.tmp 18) (.const (.int .i64 8)), none⟩,
  ⟨some 53, .move (.tmp 54), none⟩])
 (.cond (.tmp 53) (.seq (.region [⟨some 55, .move (.tmp 1), none⟩,
  ⟨some 56, .move (.tmp 2), none⟩,
  ⟨some 57, .bin .xor (.tmp 55) (.tmp 56), none⟩,
  ⟨some 6, .move (.tmp 57), none⟩,
  ⟨some 7, .move (.const (.bool true)), none⟩])
 (.ret))
 (.seq (.region [⟨some 59, .bin .eql (.tmp 18) (.const (.int .i64 9)), none⟩,
  ⟨some 58, .move (.tmp 59), none⟩])
 (.cond (.tmp 58) (.seq (.region [⟨some 60, .move (.tmp 1), none⟩,
  ⟨some 61, .move (.tmp 2), none⟩,
  ⟨some 62, .bin .and (.tmp 61) (.const (.int .i64 63)), none⟩,
  ⟨some 63, .conv .u64 (.tmp 62), none⟩,
  ⟨some 64, .bin .shl (.tmp 60) (.tmp 63), none⟩,
  ⟨some 6, .move (.tmp 64), none⟩,
  ⟨some 7, .move (.const (.bool true)), none⟩])
 (.ret))
 (.seq (.region [⟨some 66, .bin .eql (.tmp 18) (.const (.int .i64 10)), none⟩,
  ⟨some 65, .move (.tmp 66), none⟩])
 (.cond (.tmp 65) (.seq (.region [⟨some 67, .move (.tmp 1), none⟩,
  ⟨some 68, .move (.tmp 2), none⟩,
  ⟨some 69, .bin .and (.tmp 68) (.const (.int .i64 63)), none⟩,
  ⟨some 70, .conv .u64 (.tmp 69), none⟩,
  ⟨some 71, .bin .shr (.tmp 67) (.tmp 70), none⟩,
  ⟨some 6, .move (.tmp 71), none⟩,
  ⟨some 7, .move (.const (.bool true)), none⟩])
 (.ret))
 (.seq (.region [⟨some 73, .bin .eql (.tmp 18) (.const (.int .i64 17)), none⟩,
  ⟨some 72, .move (.tmp 73), none⟩])
 (.cond (.tmp 72) (.seq (.region [⟨some 74, .move (.tmp 1), none⟩,
  ⟨some 75, .move (.tmp 2), none⟩,
  ⟨some 76, .minmax false (.tmp 74) [.tmp 75], none⟩,
  ⟨some 6, .move (.tmp 76), none⟩,
  ⟨some 7, .move (.const (.bool true)), none⟩])
 (.ret))
 (.seq (.region [⟨some 78, .bin .eql (.tmp 18) (.const (.int .i64 18)), none⟩,
  ⟨some 77, .move (.tmp 78), none⟩])
 (.cond (.tmp 77) (.seq (.region [⟨some 79, .move (.tmp 1), none⟩,
  ⟨some 80, .move (.tmp 2), none⟩,
  ⟨some 81, .minmax true (.tmp 79) [.tmp 80], none⟩,
  ⟨some 6, .move (.tmp 81), none⟩,
  ⟨some 7, .move (.const (.bool true)), none⟩])
 (.ret))
 (.skip)))))))))))))))))))))))))
 (.seq (.region [⟨some 6, .move (.const (.int .i64 0)), none⟩,
  ⟨some 7, .move (.const (.bool false)), none⟩])
 (.ret))))
theorem light67 : Light Try.prog 67 3 82 L67 [.tmp 6, .tmp 7] :=
  ⟨Try.f67, _, Try.func67, rfl, rfl, by kernel_rfl, by kernel_rfl, by decide⟩

/-! ### function 68: outrider/outriderref01.half -/
def L68 : LCode :=
 .seq (.region [⟨some 2, .move (.const (.int .u64 0)), none⟩,
  ⟨some 3, .move (.const (.int .u64 0)), none⟩])
 (.seq (.region [⟨some 4, .move (.tmp 0), none⟩,
  ⟨some 5, .conv .u64 (.tmp 4), none⟩,
  ⟨some 6, .bin .and (.tmp 5) (.const (.int .u64 4294967295)), none⟩,
  ⟨some 7, .move (.tmp 0), none⟩,
  ⟨some 8, .conv .u64 (.tmp 7), none⟩,
  ⟨some 9, .bin .shr (.tmp 8) (.const (.int .u64 32)), none⟩,
  ⟨some 2, .move (.tmp 6), none⟩,
  ⟨some 3, .move (.tmp 9), none⟩])
 (.ret))
theorem light68 : Light Try.prog 68 1 10 L68 [.tmp 2, .tmp 3] :=
  ⟨Try.f68, _, Try.func68, rfl, rfl, by kernel_rfl, by kernel_rfl, by decide⟩

/-! ### function 69: outrider/outriderref01.whole -/
def L69 : LCode :=
 .seq (.region [⟨some 4, .move (.const (.int .i64 0)), none⟩])
 (.seq (.region [⟨some 5, .move (.tmp 1), none⟩,
  ⟨some 6, .bin .shl (.tmp 5) (.const (.int .u64 32)), none⟩,
  ⟨some 7, .move (.tmp 0), none⟩,
  ⟨some 8, .bin .and (.tmp 7) (.const (.int .u64 4294967295)), none⟩,
  ⟨some 9, .bin .or (.tmp 6) (.tmp 8), none⟩,
  ⟨some 10, .conv .i64 (.tmp 9), none⟩,
  ⟨some 4, .move (.tmp 10), none⟩])
 (.ret))
theorem light69 : Light Try.prog 69 2 11 L69 [.tmp 4] :=
  ⟨Try.f69, _, Try.func69, rfl, rfl, by kernel_rfl, by kernel_rfl, by decide⟩

/-! ### function 70: outrider/num.held -/
def L70 : LCode :=
 .seq (.region [⟨some 6, .move (.const (.int .i64 0)), none⟩])
 (.seq (.region [⟨some 7, .move (.const (.bool false)), none⟩])
 (.seq (.seq (.region [⟨some 8, .move (.tmp 0), none⟩])
 (.block 0 (.seq (.region [⟨some 10, .bin .eql (.tmp 8) (.const (.int .i64 11)), none⟩,
  ⟨some 9, .move (.tmp 10), none⟩])
 (.cond (.tmp 9) (.region [⟨some 11, .move (.tmp 1), none⟩,
  ⟨some 12, .move (.tmp 2), none⟩,
  ⟨some 13, .bin .eql (.tmp 11) (.tmp 12), none⟩,
  ⟨some 7, .move (.tmp 13), none⟩])
 (.seq (.region [⟨some 15, .bin .eql (.tmp 8) (.const (.int .i64 12)), none⟩,
  ⟨some 14, .move (.tmp 15), none⟩])
 (.cond (.tmp 14) (.region [⟨some 16, .move (.tmp 1), none⟩,
  ⟨some 17, .move (.tmp 2), none⟩,
  ⟨some 18, .bin .neq (.tmp 16) (.tmp 17), none⟩,
  ⟨some 7, .move (.tmp 18), none⟩])
 (.seq (.region [⟨some 20, .bin .eql (.tmp 8) (.const (.int .i64 13)), none⟩,
  ⟨some 19, .move (.tmp 20), none⟩])
 (.cond (.tmp 19) (.region [⟨some 21, .move (.tmp 1), none⟩,
  ⟨some 22, .move (.tmp 2), none⟩,
  ⟨some 23, .bin .lss (.tmp 21) (.tmp 22), none⟩,
  ⟨some 7, .move (.tmp 23), none⟩])
 (.seq (.region [⟨some 25, .bin .eql (.tmp 8) (.const (.int .i64 14)), none⟩,
  ⟨some 24, .move (.tmp 25), none⟩])
 (.cond (.tmp 24) (.region [⟨some 26, .move (.tmp 1), none⟩,
  ⟨some 27, .move (.tmp 2), none⟩,
  ⟨some 28, .bin .leq (.tmp 26) (.tmp 27), none⟩,
  ⟨some 7, .move (.tmp 28), none⟩])
 (.seq (.region [⟨some 30, .bin .eql (.tmp 8) (.const (.int .i64 15)), none⟩,
  ⟨some 29, .move (.tmp 30), none⟩])
 (.cond (.tmp 29) (.region [⟨some 31, .move (.tmp 1), none⟩,
  ⟨some 32, .move (.tmp 2), none⟩,
  ⟨some 33, .bin .gtr (.tmp 31) (.tmp 32), none⟩,
  ⟨some 7, .move (.tmp 33), none⟩])
 (.seq (.region [⟨some 35, .bin .eql (.tmp 8) (.const (.int .i64 16)), none⟩,
  ⟨some 34, .move (.tmp 35), none⟩])
 (.cond (.tmp 34) (.region [⟨some 36, .move (.tmp 1), none⟩,
  ⟨some 37, .move (.tmp 2), none⟩,
  ⟨some 38, .bin .geq (.tmp 36) (.tmp 37), none⟩,
  ⟨some 7, .move (.tmp 38), none⟩])
 (.skip)))))))))))))))
 (.seq (.seq (.region [⟨some 39, .move (.tmp 7), none⟩])
 (.cond (.tmp 39) (.seq (.region [⟨some 6, .move (.const (.int .i64 1)), none⟩])
 (.ret))
 (.skip)))
 (.seq (.region [⟨some 6, .move (.const (.int .i64 0)), none⟩])
 (.ret)))))
theorem light70 : Light Try.prog 70 3 40 L70 [.tmp 6] :=
  ⟨Try.f70, _, Try.func70, rfl, rfl, by kernel_rfl, by kernel_rfl, by decide⟩

/-! ### function 71: outrider/num.parts -/
def L71 : LCode :=
 .seq (.region [⟨some 6, .move (.const (.int .i64 0)), none⟩,
  ⟨some 7, .move (.const (.bool false)), none⟩])
 (.seq (.block 0 (.seq (.region [⟨some 9, .move (.tmp 2), none⟩,
  ⟨some 10, .bin .eql (.tmp 9) (.const (.int .i64 0)), none⟩,
  ⟨some 8, .move (.tmp 10), none⟩])
 (.cond (.tmp 8) (.seq (.region [⟨some 6, .move (.const (.int .i64 0)), none⟩,
  ⟨some 7, .move (.const (.bool false)), none⟩])
 (.ret))
 (.seq (.region [⟨some 12, .move (.tmp 0), none⟩,
  ⟨some 13, .bin .eql (.tmp 12) (.const (.int .i64 5)), none⟩,
  ⟨some 11, .move (.tmp 13), none⟩])
 (.cond (.tmp 11) (.seq (.region [⟨some 14, .move (.tmp 1), none⟩,
  ⟨some 15, .move (.tmp 2), none⟩,
  ⟨some 16, .bin .rem (.tmp 14) (.tmp 15), none⟩,
  ⟨some 6, .move (.tmp 16), none⟩,
  ⟨some 7, .move (.const (.bool true)), none⟩])
 (.ret))
 (.skip))))))
 (.seq (.region [⟨some 17, .move (.tmp 1), none⟩,
  ⟨some 18, .move (.tmp 2), none⟩,
  ⟨some 19, .bin .quo (.tmp 17) (.tmp 18), none⟩,
  ⟨some 6, .move (.tmp 19), none⟩,
  ⟨some 7, .move (.const (.bool true)), none⟩])
 (.ret)))
theorem light71 : Light Try.prog 71 3 20 L71 [.tmp 6, .tmp 7] :=
  ⟨Try.f71, _, Try.func71, rfl, rfl, by kernel_rfl, by kernel_rfl, by decide⟩

end Go.Proofs.Ytjkfghekdcalhaa
