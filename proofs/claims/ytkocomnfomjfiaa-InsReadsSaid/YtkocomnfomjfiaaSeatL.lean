/-
  The light code of functions of this seat: printed by a program of this session (wip/tools/lightgen.py); each is held against the program by the kernel.
-/
import Derived.Test.YtkocomnfomjfiaaOtT
import Derived.KernelRfl
import Derived.Test.YtkocomnfomjfiaaProg
set_option maxRecDepth 100000
namespace Go.Proofs.Ytkocomnfomjfiaa
open Go.Ot

/-! ### function 3: outrider/outriderlaw08.InsOnes -/
def L3 : LCode :=
 .seq (.region [⟨some 3, .box 25 6 (.tmp 0), none⟩,
  ⟨some 6, .move (.const (.bool false)), none⟩])
 (.seq (.draw [⟨⟨some 7, .load true 6 (.tmp 3), none⟩, .read, 0, 0⟩,
  ⟨⟨some 8, .move (.tmp 1), none⟩, .pure, 0, 0⟩,
  ⟨⟨some 9, .move (.tmp 2), none⟩, .pure, 0, 0⟩,
  ⟨⟨some 10, .call 11 [.tmp 7, .tmp 8, .tmp 9], none⟩, .heavy, 0, 1⟩,
  ⟨⟨some 11, .load true 6 (.tmp 3), none⟩, .read, 0, 1⟩,
  ⟨⟨some 12, .move (.tmp 1), none⟩, .pure, 0, 1⟩,
  ⟨⟨some 13, .move (.tmp 2), none⟩, .pure, 0, 1⟩,
  ⟨⟨some 14, .call 12 [.tmp 11, .tmp 12, .tmp 13], none⟩, .heavy, 1, 2⟩,
  ⟨⟨some 15, .bin .eql (.tmp 10) (.tmp 14), none⟩, .pure, 2, 2⟩,
  ⟨⟨some 16, .move (.tmp 15), none⟩, .pure, 2, 2⟩,
  ⟨⟨some 17, .load true 6 (.tmp 3), (some (16, true))⟩, .read, 2, 2⟩,
  ⟨⟨some 18, .call 13 [.tmp 17], (some (16, true))⟩, .heavy, 2, 3⟩,
  ⟨⟨some 19, .load true 6 (.tmp 3), (some (16, true))⟩, .read, 2, 3⟩,
  ⟨⟨some 20, .call 14 [.tmp 19], (some (16, true))⟩, .heavy, 3, 4⟩,
  ⟨⟨some 21, .eqB false (.tmp 18) (.tmp 20), (some (16, true))⟩, .pure, 4, 4⟩,
  ⟨⟨some 22, .pick (.tmp 16) (.tmp 21) (.const (.bool false)), none⟩, .pure, 4, 4⟩,
  ⟨⟨some 23, .move (.tmp 22), none⟩, .pure, 4, 4⟩,
  ⟨⟨some 24, .call 15 [], (some (23, true))⟩, .heavy, 4, 5⟩,
  ⟨⟨some 25, .pick (.tmp 23) (.tmp 24) (.const (.bool false)), none⟩, .pure, 5, 5⟩,
  ⟨⟨some 6, .move (.tmp 25), none⟩, .pure, 5, 5⟩])
 (.ret))
theorem light3 : Light Try.prog 3 3 26 L3 [.tmp 6] :=
  ⟨Try.f3, _, Try.func3, rfl, rfl, by kernel_rfl, by kernel_rfl, by decide⟩

/-! ### function 4: outrider/outriderlaw08.InsChecks -/
def L4 : LCode :=
 .seq (.region [⟨some 4, .move (.const (.bool false)), none⟩])
 (.seq (.seq (.region [⟨some 9, .move (.tmp 0), none⟩,
  ⟨some 10, .len (.tmp 9), none⟩,
  ⟨some 11, .bin .gtr (.tmp 10) (.const (.int .i64 1000)), none⟩])
 (.cond (.tmp 11) (.seq (.region [⟨some 4, .move (.const (.bool true)), none⟩])
 (.ret))
 (.skip)))
 (.seq (.region [⟨some 13, .move (.tmp 0), none⟩,
  ⟨some 14, .move (.tmp 1), none⟩,
  ⟨some 15, .call 16 [.tmp 13, .tmp 14], none⟩,
  ⟨some 12, .move (.tmp 15), none⟩,
  ⟨some 16, .extract (.tmp 12) 0, none⟩,
  ⟨some 17, .extract (.tmp 12) 1, none⟩,
  ⟨some 5, .move (.tmp 16), none⟩,
  ⟨some 6, .move (.tmp 17), none⟩])
 (.seq (.region [⟨some 19, .move (.tmp 0), none⟩,
  ⟨some 20, .move (.tmp 1), none⟩,
  ⟨some 21, .call 17 [.tmp 19, .tmp 20], none⟩,
  ⟨some 18, .move (.tmp 21), none⟩,
  ⟨some 22, .extract (.tmp 18) 0, none⟩,
  ⟨some 23, .extract (.tmp 18) 1, none⟩,
  ⟨some 7, .move (.tmp 22), none⟩,
  ⟨some 8, .move (.tmp 23), none⟩])
 (.seq (.region [⟨some 24, .move (.tmp 5), none⟩,
  ⟨some 25, .move (.tmp 7), none⟩,
  ⟨some 26, .bin .eql (.tmp 24) (.tmp 25), none⟩,
  ⟨some 27, .move (.tmp 26), none⟩,
  ⟨some 28, .move (.tmp 6), (some (27, true))⟩,
  ⟨some 29, .move (.tmp 8), (some (27, true))⟩,
  ⟨some 30, .bin .eql (.tmp 28) (.tmp 29), (some (27, true))⟩,
  ⟨some 31, .pick (.tmp 27) (.tmp 30) (.const (.bool false)), none⟩,
  ⟨some 32, .move (.tmp 31), none⟩,
  ⟨some 33, .call 15 [], (some (32, true))⟩,
  ⟨some 34, .pick (.tmp 32) (.tmp 33) (.const (.bool false)), none⟩,
  ⟨some 4, .move (.tmp 34), none⟩])
 (.ret)))))
theorem light4 : Light Try.prog 4 2 35 L4 [.tmp 4] :=
  ⟨Try.f4, _, Try.func4, rfl, rfl, by kernel_rfl, by kernel_rfl, by decide⟩

/-! ### function 5: outrider/outriderlaw08.InsBytes -/
def L5 : LCode :=
 .seq (.region [⟨some 4, .move (.const (.bool false)), none⟩])
 (.seq (.seq (.region [⟨some 9, .move (.tmp 0), none⟩,
  ⟨some 10, .len (.tmp 9), none⟩,
  ⟨some 11, .bin .gtr (.tmp 10) (.const (.int .i64 1000)), none⟩])
 (.cond (.tmp 11) (.seq (.region [⟨some 4, .move (.const (.bool true)), none⟩])
 (.ret))
 (.skip)))
 (.seq (.region [⟨some 13, .move (.tmp 0), none⟩,
  ⟨some 14, .move (.tmp 1), none⟩,
  ⟨some 15, .call 18 [.tmp 13, .tmp 14], none⟩,
  ⟨some 12, .move (.tmp 15), none⟩,
  ⟨some 16, .extract (.tmp 12) 0, none⟩,
  ⟨some 17, .extract (.tmp 12) 1, none⟩,
  ⟨some 5, .move (.tmp 16), none⟩,
  ⟨some 6, .move (.tmp 17), none⟩])
 (.seq (.region [⟨some 19, .move (.tmp 0), none⟩,
  ⟨some 20, .move (.tmp 1), none⟩,
  ⟨some 21, .call 19 [.tmp 19, .tmp 20], none⟩,
  ⟨some 18, .move (.tmp 21), none⟩,
  ⟨some 22, .extract (.tmp 18) 0, none⟩,
  ⟨some 23, .extract (.tmp 18) 1, none⟩,
  ⟨some 7, .move (.tmp 22), none⟩,
  ⟨some 8, .move (.tmp 23), none⟩])
 (.seq (.region [⟨some 24, .move (.tmp 5), none⟩,
  ⟨some 25, .toStr (.tmp 24), none⟩,
  ⟨some 26, .move (.tmp 7), none⟩,
  ⟨some 27, .toStr (.tmp 26), none⟩,
  ⟨some 28, .bin .eql (.tmp 25) (.tmp 27), none⟩,
  ⟨some 29, .move (.tmp 28), none⟩,
  ⟨some 30, .move (.tmp 6), (some (29, true))⟩,
  ⟨some 31, .move (.tmp 8), (some (29, true))⟩,
  ⟨some 32, .bin .eql (.tmp 30) (.tmp 31), (some (29, true))⟩,
  ⟨some 33, .pick (.tmp 29) (.tmp 32) (.const (.bool false)), none⟩,
  ⟨some 34, .move (.tmp 33), none⟩,
  ⟨some 35, .call 15 [], (some (34, true))⟩,
  ⟨some 36, .pick (.tmp 34) (.tmp 35) (.const (.bool false)), none⟩,
  ⟨some 4, .move (.tmp 36), none⟩])
 (.ret)))))
theorem light5 : Light Try.prog 5 2 37 L5 [.tmp 4] :=
  ⟨Try.f5, _, Try.func5, rfl, rfl, by kernel_rfl, by kernel_rfl, by decide⟩

/-! ### function 6: outrider/outriderlaw08.InsMore -/
def L6 : LCode :=
 .seq (.region [⟨some 6, .move (.const (.bool false)), none⟩])
 (.seq (.seq (.region [⟨some 11, .move (.tmp 0), none⟩,
  ⟨some 12, .len (.tmp 11), none⟩,
  ⟨some 13, .bin .gtr (.tmp 12) (.const (.int .i64 1000)), none⟩,
  ⟨some 14, .move (.tmp 13), none⟩,
  ⟨some 15, .move (.tmp 2), (some (14, false))⟩,
  ⟨some 16, .move (.tmp 1), (some (14, false))⟩,
  ⟨some 17, .bin .lss (.tmp 15) (.tmp 16), (some (14, false))⟩,
  ⟨some 18, .pick (.tmp 14) (.const (.bool true)) (.tmp 17), none⟩])
 (.cond (.tmp 18) (.seq (.region [⟨some 6, .move (.const (.bool true)), none⟩])
 (.ret))
 (.skip)))
 (.seq (.region [⟨some 20, .move (.tmp 0), none⟩,
  ⟨some 21, .move (.tmp 1), none⟩,
  ⟨some 22, .call 16 [.tmp 20, .tmp 21], none⟩,
  ⟨some 19, .move (.tmp 22), none⟩,
  ⟨some 23, .extract (.tmp 19) 0, none⟩,
  ⟨some 24, .extract (.tmp 19) 1, none⟩,
  ⟨some 7, .move (.tmp 23), none⟩,
  ⟨some 8, .move (.tmp 24), none⟩])
 (.seq (.region [⟨some 26, .move (.tmp 0), none⟩,
  ⟨some 27, .move (.tmp 2), none⟩,
  ⟨some 28, .call 16 [.tmp 26, .tmp 27], none⟩,
  ⟨some 25, .move (.tmp 28), none⟩,
  ⟨some 29, .extract (.tmp 25) 0, none⟩,
  ⟨some 30, .extract (.tmp 25) 1, none⟩,
  ⟨some 9, .move (.tmp 29), none⟩,
  ⟨some 10, .move (.tmp 30), none⟩])
 (.seq (.region [⟨some 31, .move (.tmp 8), none⟩,
  ⟨some 32, .bin .neq (.tmp 31) (.const (.int .i64 0)), none⟩,
  ⟨some 33, .move (.tmp 32), none⟩,
  ⟨some 34, .move (.tmp 10), (some (33, false))⟩,
  ⟨some 35, .bin .eql (.tmp 34) (.const (.int .i64 0)), (some (33, false))⟩,
  ⟨some 36, .pick (.tmp 33) (.const (.bool true)) (.tmp 35), none⟩,
  ⟨some 37, .move (.tmp 36), none⟩,
  ⟨some 38, .move (.tmp 10), (some (37, true))⟩,
  ⟨some 39, .bin .eql (.tmp 38) (.const (.int .i64 0)), (some (37, true))⟩,
  ⟨some 40, .move (.tmp 39), (some (37, true))⟩,
  ⟨some 41, .move (.tmp 8), (some (40, false))⟩,
  ⟨some 42, .bin .neq (.tmp 41) (.const (.int .i64 0)), (some (40, false))⟩,
  ⟨some 43, .pick (.tmp 40) (.const (.bool true)) (.tmp 42), (some (37, true))⟩,
  ⟨some 44, .pick (.tmp 37) (.tmp 43) (.const (.bool false)), none⟩,
  ⟨some 45, .move (.tmp 44), none⟩,
  ⟨some 46, .move (.tmp 8), (some (45, true))⟩,
  ⟨some 47, .move (.tmp 10), (some (45, true))⟩,
  ⟨some 48, .bin .eql (.tmp 46) (.tmp 47), (some (45, true))⟩,
  ⟨some 49, .move (.tmp 48), (some (45, true))⟩,
  ⟨some 50, .move (.tmp 8), (some (49, false))⟩,
  ⟨some 51, .bin .eql (.tmp 50) (.const (.int .i64 63)), (some (49, false))⟩,
  ⟨some 52, .pick (.tmp 49) (.const (.bool true)) (.tmp 51), (some (45, true))⟩,
  ⟨some 53, .pick (.tmp 45) (.tmp 52) (.const (.bool false)), none⟩,
  ⟨some 54, .move (.tmp 53), none⟩,
  ⟨some 55, .call 15 [], (some (54, true))⟩,
  ⟨some 56, .pick (.tmp 54) (.tmp 55) (.const (.bool false)), none⟩,
  ⟨some 6, .move (.tmp 56), none⟩])
 (.ret)))))
theorem light6 : Light Try.prog 6 3 57 L6 [.tmp 6] :=
  ⟨Try.f6, _, Try.func6, rfl, rfl, by kernel_rfl, by kernel_rfl, by decide⟩

/-! ### function 7: outrider/outriderlaw08.InsTargets -/
def L7_1 : LCode :=
 .seq (.seq (.region [⟨some 22, .move (.tmp 7), none⟩,
  ⟨some 23, .move (.tmp 5), none⟩,
  ⟨some 24, .len (.tmp 23), none⟩,
  ⟨some 25, .bin .lss (.tmp 22) (.tmp 24), none⟩])
 (.cond (.tmp 25) (.skip)
 (.exit 0)))
 (.seq (.block 1 (.seq (.draw [⟨⟨some 28, .move (.tmp 5), none⟩, .pure, 0, 0⟩,
  ⟨⟨some 29, .move (.tmp 7), none⟩, .pure, 0, 0⟩,
  ⟨⟨some 30, .idx 1 (.tmp 28) (.tmp 29), none⟩, .pure, 0, 0⟩,
  ⟨⟨some 31, .load false 1 (.tmp 30), none⟩, .read, 0, 0⟩,
  ⟨⟨some 32, .move (.tmp 6), none⟩, .pure, 0, 0⟩,
  ⟨⟨some 33, .move (.tmp 7), none⟩, .pure, 0, 0⟩,
  ⟨⟨some 34, .idx 1 (.tmp 32) (.tmp 33), none⟩, .pure, 0, 0⟩,
  ⟨⟨some 35, .load false 1 (.tmp 34), none⟩, .read, 0, 0⟩,
  ⟨⟨some 36, .bin .neq (.tmp 31) (.tmp 35), none⟩, .pure, 0, 0⟩])
 (.cond (.tmp 36) (.seq (.region [⟨some 4, .move (.const (.bool false)), none⟩])
 (.ret))
 (.skip))))
 (.region [⟨some 26, .move (.tmp 7), none⟩,
  ⟨some 27, .bin .add (.tmp 26) (.const (.int .i64 1)), none⟩,
  ⟨some 7, .move (.tmp 27), none⟩]))
def L7 : LCode :=
 .seq (.region [⟨some 4, .move (.const (.bool false)), none⟩])
 (.seq (.seq (.region [⟨some 8, .move (.tmp 0), none⟩,
  ⟨some 9, .len (.tmp 8), none⟩,
  ⟨some 10, .bin .gtr (.tmp 9) (.const (.int .i64 1000)), none⟩])
 (.cond (.tmp 10) (.seq (.region [⟨some 4, .move (.const (.bool true)), none⟩])
 (.ret))
 (.skip)))
 (.seq (.region [⟨some 11, .move (.tmp 0), none⟩,
  ⟨some 12, .move (.tmp 1), none⟩,
  ⟨some 13, .call 20 [.tmp 11, .tmp 12], none⟩,
  ⟨some 14, .move (.tmp 0), none⟩,
  ⟨some 15, .move (.tmp 1), none⟩,
  ⟨some 16, .call 21 [.tmp 14, .tmp 15], none⟩,
  ⟨some 5, .move (.tmp 13), none⟩,
  ⟨some 6, .move (.tmp 16), none⟩])
 (.seq (.seq (.region [⟨some 17, .move (.tmp 5), none⟩,
  ⟨some 18, .len (.tmp 17), none⟩,
  ⟨some 19, .move (.tmp 6), none⟩,
  ⟨some 20, .len (.tmp 19), none⟩,
  ⟨some 21, .bin .neq (.tmp 18) (.tmp 20), none⟩])
 (.cond (.tmp 21) (.seq (.region [⟨some 4, .move (.const (.bool false)), none⟩])
 (.ret))
 (.skip)))
 (.seq (.seq (.region [⟨some 7, .move (.const (.int .i64 0)), none⟩])
 (.block 0 (.loop L7_1)))
 (.seq (.region [⟨some 37, .call 15 [], none⟩,
  ⟨some 4, .move (.tmp 37), none⟩])
 (.ret))))))
theorem light7 : Light Try.prog 7 2 38 L7 [.tmp 4] :=
  ⟨Try.f7, _, Try.func7, rfl, rfl, by kernel_rfl, by kernel_rfl, by decide⟩

/-! ### function 8: outrider/outriderlaw08.InsCanon -/
def L8 : LCode :=
 .seq (.region [⟨some 4, .move (.const (.bool false)), none⟩])
 (.seq (.seq (.region [⟨some 9, .move (.tmp 0), none⟩,
  ⟨some 10, .len (.tmp 9), none⟩,
  ⟨some 11, .bin .gtr (.tmp 10) (.const (.int .i64 16384)), none⟩])
 (.cond (.tmp 11) (.seq (.region [⟨some 4, .move (.const (.bool true)), none⟩])
 (.ret))
 (.skip)))
 (.seq (.region [⟨some 13, .buildSlice 5 1 0 [.int .u8 0] [], none⟩,
  ⟨some 14, .move (.tmp 0), none⟩,
  ⟨some 15, .append 5 1 1 (.tmp 13) (.tmp 14), none⟩,
  ⟨some 16, .move (.tmp 1), none⟩,
  ⟨some 17, .call 22 [.tmp 15, .tmp 16], none⟩,
  ⟨some 12, .move (.tmp 17), none⟩,
  ⟨some 18, .extract (.tmp 12) 0, none⟩,
  ⟨some 19, .extract (.tmp 12) 1, none⟩,
  ⟨some 5, .move (.tmp 18), none⟩,
  ⟨some 6, .move (.tmp 19), none⟩])
 (.seq (.seq (.region [⟨some 20, .move (.tmp 6), none⟩,
  ⟨some 21, .bin .neq (.tmp 20) (.const (.int .i64 0)), none⟩])
 (.cond (.tmp 21) (.seq (.region [⟨some 22, .move (.tmp 5), none⟩,
  ⟨some 23, .len (.tmp 22), none⟩,
  ⟨some 24, .bin .eql (.tmp 23) (.const (.int .i64 0)), none⟩,
  ⟨some 25, .move (.tmp 24), none⟩,
  ⟨some 26, .call 15 [], (some (25, true))⟩,
  ⟨some 27, .pick (.tmp 25) (.tmp 26) (.const (.bool false)), none⟩,
  ⟨some 4, .move (.tmp 27), none⟩])
 (.ret))
 (.skip)))
 (.seq (.region [⟨some 29, .move (.tmp 5), none⟩,
  ⟨some 30, .move (.tmp 1), none⟩,
  ⟨some 31, .call 18 [.tmp 29, .tmp 30], none⟩,
  ⟨some 28, .move (.tmp 31), none⟩,
  ⟨some 32, .extract (.tmp 28) 0, none⟩,
  ⟨some 33, .extract (.tmp 28) 1, none⟩,
  ⟨some 7, .move (.tmp 32), none⟩,
  ⟨some 8, .move (.tmp 33), none⟩])
 (.seq (.region [⟨some 34, .move (.tmp 8), none⟩,
  ⟨some 35, .bin .eql (.tmp 34) (.const (.int .i64 0)), none⟩,
  ⟨some 36, .move (.tmp 35), none⟩,
  ⟨some 37, .move (.tmp 7), (some (36, true))⟩,
  ⟨some 38, .toStr (.tmp 37), (some (36, true))⟩,
  ⟨some 39, .move (.tmp 0), (some (36, true))⟩,
  ⟨some 40, .toStr (.tmp 39), (some (36, true))⟩,
  ⟨some 41, .bin .eql (.tmp 38) (.tmp 40), (some (36, true))⟩,
  ⟨some 42, .pick (.tmp 36) (.tmp 41) (.const (.bool false)), none⟩,
  ⟨some 43, .move (.tmp 42), none⟩,
  ⟨some 44, .call 15 [], (some (43, true))⟩,
  ⟨some 45, .pick (.tmp 43) (.tmp 44) (.const (.bool false)), none⟩,
  ⟨some 4, .move (.tmp 45), none⟩])
 (.ret))))))
theorem light8 : Light Try.prog 8 2 46 L8 [.tmp 4] :=
  ⟨Try.f8, _, Try.func8, rfl, rfl, by kernel_rfl, by kernel_rfl, by decide⟩

/-! ### function 9: outrider/outriderlaw08.InsReads -/
def L9 : LCode :=
 .seq (.region [⟨some 4, .move (.const (.bool false)), none⟩])
 (.seq (.seq (.region [⟨some 9, .move (.tmp 0), none⟩,
  ⟨some 10, .len (.tmp 9), none⟩,
  ⟨some 11, .bin .gtr (.tmp 10) (.const (.int .i64 16384)), none⟩])
 (.cond (.tmp 11) (.seq (.region [⟨some 4, .move (.const (.bool true)), none⟩])
 (.ret))
 (.skip)))
 (.seq (.region [⟨some 13, .buildSlice 5 1 0 [.int .u8 0] [], none⟩,
  ⟨some 14, .move (.tmp 0), none⟩,
  ⟨some 15, .append 5 1 1 (.tmp 13) (.tmp 14), none⟩,
  ⟨some 16, .move (.tmp 1), none⟩,
  ⟨some 17, .call 22 [.tmp 15, .tmp 16], none⟩,
  ⟨some 12, .move (.tmp 17), none⟩,
  ⟨some 18, .extract (.tmp 12) 0, none⟩,
  ⟨some 19, .extract (.tmp 12) 1, none⟩,
  ⟨some 5, .move (.tmp 18), none⟩,
  ⟨some 6, .move (.tmp 19), none⟩])
 (.seq (.region [⟨some 21, .move (.tmp 0), none⟩,
  ⟨some 22, .move (.tmp 1), none⟩,
  ⟨some 23, .call 23 [.tmp 21, .tmp 22], none⟩,
  ⟨some 20, .move (.tmp 23), none⟩,
  ⟨some 24, .extract (.tmp 20) 0, none⟩,
  ⟨some 25, .extract (.tmp 20) 1, none⟩,
  ⟨some 7, .move (.tmp 24), none⟩,
  ⟨some 8, .move (.tmp 25), none⟩])
 (.seq (.region [⟨some 26, .move (.tmp 5), none⟩,
  ⟨some 27, .move (.tmp 7), none⟩,
  ⟨some 28, .call 24 [.tmp 26, .tmp 27], none⟩,
  ⟨some 29, .move (.tmp 28), none⟩,
  ⟨some 30, .move (.tmp 5), (some (29, true))⟩,
  ⟨some 31, .move (.tmp 7), (some (29, true))⟩,
  ⟨some 32, .call 25 [.tmp 30, .tmp 31], (some (29, true))⟩,
  ⟨some 33, .pick (.tmp 29) (.tmp 32) (.const (.bool false)), none⟩,
  ⟨some 34, .move (.tmp 33), none⟩,
  ⟨some 35, .move (.tmp 6), (some (34, true))⟩,
  ⟨some 36, .move (.tmp 8), (some (34, true))⟩,
  ⟨some 37, .bin .eql (.tmp 35) (.tmp 36), (some (34, true))⟩,
  ⟨some 38, .pick (.tmp 34) (.tmp 37) (.const (.bool false)), none⟩,
  ⟨some 39, .move (.tmp 38), none⟩,
  ⟨some 40, .call 15 [], (some (39, true))⟩,
  ⟨some 41, .pick (.tmp 39) (.tmp 40) (.const (.bool false)), none⟩,
  ⟨some 4, .move (.tmp 41), none⟩])
 (.ret)))))
theorem light9 : Light Try.prog 9 2 42 L9 [.tmp 4] :=
  ⟨Try.f9, _, Try.func9, rfl, rfl, by kernel_rfl, by kernel_rfl, by decide⟩

/-! ### function 10: outrider/outriderlaw08.InsBack -/
def L10 : LCode :=
 .seq (.region [⟨some 4, .move (.const (.bool false)), none⟩])
 (.seq (.seq (.region [⟨some 11, .move (.tmp 0), none⟩,
  ⟨some 12, .len (.tmp 11), none⟩,
  ⟨some 13, .bin .gtr (.tmp 12) (.const (.int .i64 1000)), none⟩])
 (.cond (.tmp 13) (.seq (.region [⟨some 4, .move (.const (.bool true)), none⟩])
 (.ret))
 (.skip)))
 (.seq (.region [⟨some 15, .move (.tmp 0), none⟩,
  ⟨some 16, .move (.tmp 1), none⟩,
  ⟨some 17, .call 18 [.tmp 15, .tmp 16], none⟩,
  ⟨some 14, .move (.tmp 17), none⟩,
  ⟨some 18, .extract (.tmp 14) 0, none⟩,
  ⟨some 19, .extract (.tmp 14) 1, none⟩,
  ⟨some 5, .move (.tmp 18), none⟩,
  ⟨some 6, .move (.tmp 19), none⟩])
 (.seq (.seq (.region [⟨some 20, .move (.tmp 6), none⟩,
  ⟨some 21, .bin .neq (.tmp 20) (.const (.int .i64 0)), none⟩])
 (.cond (.tmp 21) (.seq (.region [⟨some 23, .move (.tmp 0), none⟩,
  ⟨some 24, .move (.tmp 1), none⟩,
  ⟨some 25, .call 16 [.tmp 23, .tmp 24], none⟩,
  ⟨some 22, .move (.tmp 25), none⟩,
  ⟨some 26, .extract (.tmp 22) 0, none⟩,
  ⟨some 27, .extract (.tmp 22) 1, none⟩,
  ⟨some 7, .move (.tmp 26), none⟩,
  ⟨some 8, .move (.tmp 27), none⟩])
 (.seq (.region [⟨some 28, .move (.tmp 5), none⟩,
  ⟨some 29, .len (.tmp 28), none⟩,
  ⟨some 30, .bin .eql (.tmp 29) (.const (.int .i64 0)), none⟩,
  ⟨some 31, .move (.tmp 30), none⟩,
  ⟨some 32, .move (.tmp 8), (some (31, true))⟩,
  ⟨some 33, .move (.tmp 6), (some (31, true))⟩,
  ⟨some 34, .bin .eql (.tmp 32) (.tmp 33), (some (31, true))⟩,
  ⟨some 35, .pick (.tmp 31) (.tmp 34) (.const (.bool false)), none⟩,
  ⟨some 36, .move (.tmp 35), none⟩,
  ⟨some 37, .call 15 [], (some (36, true))⟩,
  ⟨some 38, .pick (.tmp 36) (.tmp 37) (.const (.bool false)), none⟩,
  ⟨some 4, .move (.tmp 38), none⟩])
 (.ret)))
 (.skip)))
 (.seq (.region [⟨some 40, .move (.tmp 5), none⟩,
  ⟨some 41, .move (.tmp 1), none⟩,
  ⟨some 42, .call 22 [.tmp 40, .tmp 41], none⟩,
  ⟨some 39, .move (.tmp 42), none⟩,
  ⟨some 43, .extract (.tmp 39) 0, none⟩,
  ⟨some 44, .extract (.tmp 39) 1, none⟩,
  ⟨some 9, .move (.tmp 43), none⟩,
  ⟨some 10, .move (.tmp 44), none⟩])
 (.seq (.region [⟨some 45, .move (.tmp 10), none⟩,
  ⟨some 46, .bin .eql (.tmp 45) (.const (.int .i64 0)), none⟩,
  ⟨some 47, .move (.tmp 46), none⟩,
  ⟨some 48, .move (.tmp 0), (some (47, true))⟩,
  ⟨some 49, .move (.tmp 9), (some (47, true))⟩,
  ⟨some 50, .call 25 [.tmp 48, .tmp 49], (some (47, true))⟩,
  ⟨some 51, .pick (.tmp 47) (.tmp 50) (.const (.bool false)), none⟩,
  ⟨some 52, .move (.tmp 51), none⟩,
  ⟨some 53, .call 15 [], (some (52, true))⟩,
  ⟨some 54, .pick (.tmp 52) (.tmp 53) (.const (.bool false)), none⟩,
  ⟨some 4, .move (.tmp 54), none⟩])
 (.ret))))))
theorem light10 : Light Try.prog 10 2 55 L10 [.tmp 4] :=
  ⟨Try.f10, _, Try.func10, rfl, rfl, by kernel_rfl, by kernel_rfl, by decide⟩

/-! ### function 11: outrider/ins.One -/
def L11 : LCode :=
 .seq (.region [⟨some 3, .box 25 6 (.tmp 0), none⟩,
  ⟨some 6, .move (.const (.int .i64 0)), none⟩])
 (.seq (.region [⟨some 10, .off 0 (.tmp 3), none⟩,
  ⟨some 11, .load false 1 (.tmp 10), none⟩,
  ⟨some 12, .call 26 [.tmp 11], none⟩,
  ⟨some 9, .move (.tmp 12), none⟩,
  ⟨some 13, .extract (.tmp 9) 0, none⟩,
  ⟨some 14, .extract (.tmp 9) 1, none⟩,
  ⟨some 7, .new 53 8 [.bool false, .bool false, .bool false, .bool false, .bool false, .bool false, .bool false, .bool false], none⟩,
  ⟨none, .store 8 (.tmp 7) (.tmp 13), none⟩,
  ⟨some 8, .move (.tmp 14), none⟩])
 (.seq (.block 0 (.seq (.region [⟨some 16, .move (.tmp 8), none⟩,
  ⟨some 17, .un .not (.tmp 16), none⟩,
  ⟨some 15, .move (.tmp 17), none⟩])
 (.cond (.tmp 15) (.seq (.region [⟨some 6, .move (.const (.int .i64 81)), none⟩])
 (.ret))
 (.seq (.seq (.region [⟨some 19, .off 7 (.tmp 7), none⟩,
  ⟨some 20, .load false 1 (.tmp 19), none⟩,
  ⟨some 21, .move (.tmp 20), none⟩,
  ⟨some 22, .off 1 (.tmp 3), (some (21, true))⟩,
  ⟨some 23, .load false 1 (.tmp 22), (some (21, true))⟩,
  ⟨some 24, .bin .lss (.tmp 23) (.const (.int .i64 1)), (some (21, true))⟩,
  ⟨some 25, .move (.tmp 24), (some (21, true))⟩,
  ⟨some 26, .off 1 (.tmp 3), (some (25, false))⟩,
  ⟨some 27, .load false 1 (.tmp 26), (some (25, false))⟩,
  ⟨some 28, .bin .gtr (.tmp 27) (.const (.int .i64 18)), (some (25, false))⟩,
  ⟨some 29, .pick (.tmp 25) (.const (.bool true)) (.tmp 28), (some (21, true))⟩,
  ⟨some 30, .pick (.tmp 21) (.tmp 29) (.const (.bool false)), none⟩,
  ⟨some 18, .move (.tmp 30), none⟩])
 (.cond (.tmp 18) (.skip)
 (.region [⟨some 31, .off 6 (.tmp 7), none⟩,
  ⟨some 32, .load false 1 (.tmp 31), none⟩,
  ⟨some 33, .move (.tmp 32), none⟩,
  ⟨some 34, .off 1 (.tmp 3), (some (33, true))⟩,
  ⟨some 35, .load false 1 (.tmp 34), (some (33, true))⟩,
  ⟨some 36, .bin .lss (.tmp 35) (.const (.int .i64 19)), (some (33, true))⟩,
  ⟨some 37, .move (.tmp 36), (some (33, true))⟩,
  ⟨some 38, .off 1 (.tmp 3), (some (37, false))⟩,
  ⟨some 39, .load false 1 (.tmp 38), (some (37, false))⟩,
  ⟨some 40, .bin .gtr (.tmp 39) (.const (.int .i64 21)), (some (37, false))⟩,
  ⟨some 41, .pick (.tmp 37) (.const (.bool true)) (.tmp 40), (some (33, true))⟩,
  ⟨some 42, .pick (.tmp 33) (.tmp 41) (.const (.bool false)), none⟩,
  ⟨some 18, .move (.tmp 42), none⟩])))
 (.cond (.tmp 18) (.seq (.region [⟨some 6, .move (.const (.int .i64 81)), none⟩])
 (.ret))
 (.seq (.seq (.region [⟨some 44, .off 0 (.tmp 7), none⟩,
  ⟨some 45, .load false 1 (.tmp 44), none⟩,
  ⟨some 46, .move (.tmp 45), none⟩,
  ⟨some 47, .off 2 (.tmp 3), (some (46, true))⟩,
  ⟨some 48, .load false 1 (.tmp 47), (some (46, true))⟩,
  ⟨some 49, .call 27 [.const (.bool true), .tmp 48], (some (46, true))⟩,
  ⟨some 50, .un .not (.tmp 49), (some (46, true))⟩,
  ⟨some 51, .pick (.tmp 46) (.tmp 50) (.const (.bool false)), none⟩,
  ⟨some 43, .move (.tmp 51), none⟩])
 (.cond (.tmp 43) (.skip)
 (.seq (.region [⟨some 52, .off 1 (.tmp 7), none⟩,
  ⟨some 53, .load false 1 (.tmp 52), none⟩,
  ⟨some 54, .move (.tmp 53), none⟩,
  ⟨some 55, .off 3 (.tmp 3), (some (54, true))⟩,
  ⟨some 56, .load false 1 (.tmp 55), (some (54, true))⟩,
  ⟨some 57, .call 27 [.const (.bool true), .tmp 56], (some (54, true))⟩,
  ⟨some 58, .un .not (.tmp 57), (some (54, true))⟩,
  ⟨some 59, .pick (.tmp 54) (.tmp 58) (.const (.bool false)), none⟩,
  ⟨some 43, .move (.tmp 59), none⟩])
 (.cond (.tmp 43) (.skip)
 (.region [⟨some 60, .off 2 (.tmp 7), none⟩,
  ⟨some 61, .load false 1 (.tmp 60), none⟩,
  ⟨some 62, .move (.tmp 61), none⟩,
  ⟨some 63, .off 4 (.tmp 3), (some (62, true))⟩,
  ⟨some 64, .load false 1 (.tmp 63), (some (62, true))⟩,
  ⟨some 65, .call 27 [.const (.bool true), .tmp 64], (some (62, true))⟩,
  ⟨some 66, .un .not (.tmp 65), (some (62, true))⟩,
  ⟨some 67, .pick (.tmp 62) (.tmp 66) (.const (.bool false)), none⟩,
  ⟨some 43, .move (.tmp 67), none⟩])))))
 (.cond (.tmp 43) (.seq (.region [⟨some 6, .move (.const (.int .i64 82)), none⟩])
 (.ret))
 (.seq (.seq (.region [⟨some 69, .off 0 (.tmp 7), none⟩,
  ⟨some 70, .load false 1 (.tmp 69), none⟩,
  ⟨some 71, .un .not (.tmp 70), none⟩,
  ⟨some 72, .move (.tmp 71), none⟩,
  ⟨some 73, .off 2 (.tmp 3), (some (72, true))⟩,
  ⟨some 74, .load false 1 (.tmp 73), (some (72, true))⟩,
  ⟨some 75, .bin .neq (.tmp 74) (.const (.int .i64 0)), (some (72, true))⟩,
  ⟨some 76, .pick (.tmp 72) (.tmp 75) (.const (.bool false)), none⟩,
  ⟨some 68, .move (.tmp 76), none⟩])
 (.cond (.tmp 68) (.skip)
 (.seq (.region [⟨some 77, .off 1 (.tmp 7), none⟩,
  ⟨some 78, .load false 1 (.tmp 77), none⟩,
  ⟨some 79, .un .not (.tmp 78), none⟩,
  ⟨some 80, .move (.tmp 79), none⟩,
  ⟨some 81, .off 3 (.tmp 3), (some (80, true))⟩,
  ⟨some 82, .load false 1 (.tmp 81), (some (80, true))⟩,
  ⟨some 83, .bin .neq (.tmp 82) (.const (.int .i64 0)), (some (80, true))⟩,
  ⟨some 84, .pick (.tmp 80) (.tmp 83) (.const (.bool false)), none⟩,
  ⟨some 68, .move (.tmp 84), none⟩])
 (.cond (.tmp 68) (.skip)
 (.seq (.region [⟨some 85, .off 2 (.tmp 7), none⟩,
  ⟨some 86, .load false 1 (.tmp 85), none⟩,
  ⟨some 87, .un .not (.tmp 86), none⟩,
  ⟨some 88, .move (.tmp 87), none⟩,
  ⟨some 89, .off 3 (.tmp 7), (some (88, true))⟩,
  ⟨some 90, .load false 1 (.tmp 89), (some (88, true))⟩,
  ⟨some 91, .un .not (.tmp 90), (some (88, true))⟩,
  ⟨some 92, .pick (.tmp 88) (.tmp 91) (.const (.bool false)), none⟩,
  ⟨some 93, .move (.tmp 92), none⟩,
  ⟨some 94, .off 4 (.tmp 3), (some (93, true))⟩,
  ⟨some 95, .load false 1 (.tmp 94), (some (93, true))⟩,
  ⟨some 96, .bin .neq (.tmp 95) (.const (.int .i64 0)), (some (93, true))⟩,
  ⟨some 97, .pick (.tmp 93) (.tmp 96) (.const (.bool false)), none⟩,
  ⟨some 68, .move (.tmp 97), none⟩])
 (.cond (.tmp 68) (.skip)
 (.seq (.region [⟨some 98, .off 4 (.tmp 7), none⟩,
  ⟨some 99, .load false 1 (.tmp 98), none⟩,
  ⟨some 100, .un .not (.tmp 99), none⟩,
  ⟨some 101, .move (.tmp 100), none⟩,
  ⟨some 102, .off 5 (.tmp 3), (some (101, true))⟩,
  ⟨some 103, .load false 1 (.tmp 102), (some (101, true))⟩,
  ⟨some 104, .bin .neq (.tmp 103) (.const (.int .i64 0)), (some (101, true))⟩,
  ⟨some 105, .pick (.tmp 101) (.tmp 104) (.const (.bool false)), none⟩,
  ⟨some 68, .move (.tmp 105), none⟩])
 (.cond (.tmp 68) (.skip)
 (.region [⟨some 106, .off 6 (.tmp 7), none⟩,
  ⟨some 107, .load false 1 (.tmp 106), none⟩,
  ⟨some 108, .un .not (.tmp 107), none⟩,
  ⟨some 109, .move (.tmp 108), none⟩,
  ⟨some 110, .off 7 (.tmp 7), (some (109, true))⟩,
  ⟨some 111, .load false 1 (.tmp 110), (some (109, true))⟩,
  ⟨some 112, .un .not (.tmp 111), (some (109, true))⟩,
  ⟨some 113, .pick (.tmp 109) (.tmp 112) (.const (.bool false)), none⟩,
  ⟨some 114, .move (.tmp 113), none⟩,
  ⟨some 115, .off 1 (.tmp 3), (some (114, true))⟩,
  ⟨some 116, .load false 1 (.tmp 115), (some (114, true))⟩,
  ⟨some 117, .bin .neq (.tmp 116) (.const (.int .i64 0)), (some (114, true))⟩,
  ⟨some 118, .pick (.tmp 114) (.tmp 117) (.const (.bool false)), none⟩,
  ⟨some 68, .move (.tmp 118), none⟩])))))))))
 (.cond (.tmp 68) (.seq (.region [⟨some 6, .move (.const (.int .i64 83)), none⟩])
 (.ret))
 (.seq (.region [⟨some 120, .off 3 (.tmp 7), none⟩,
  ⟨some 121, .load false 1 (.tmp 120), none⟩,
  ⟨some 122, .move (.tmp 121), none⟩,
  ⟨some 123, .off 4 (.tmp 3), (some (122, true))⟩,
  ⟨some 124, .load false 1 (.tmp 123), (some (122, true))⟩,
  ⟨some 125, .bin .lss (.tmp 124) (.const (.int .i64 0)), (some (122, true))⟩,
  ⟨some 126, .move (.tmp 125), (some (122, true))⟩,
  ⟨some 127, .off 4 (.tmp 3), (some (126, false))⟩,
  ⟨some 128, .load false 1 (.tmp 127), (some (126, false))⟩,
  ⟨some 129, .move (.tmp 1), (some (126, false))⟩,
  ⟨some 130, .minmax false (.tmp 129) [.const (.int .i64 4)], (some (126, false))⟩,
  ⟨some 131, .bin .geq (.tmp 128) (.tmp 130), (some (126, false))⟩,
  ⟨some 132, .pick (.tmp 126) (.const (.bool true)) (.tmp 131), (some (122, true))⟩,
  ⟨some 133, .pick (.tmp 122) (.tmp 132) (.const (.bool false)), none⟩,
  ⟨some 119, .move (.tmp 133), none⟩])
 (.cond (.tmp 119) (.seq (.region [⟨some 6, .move (.const (.int .i64 63)), none⟩])
 (.ret))
 (.seq (.region [⟨some 135, .off 5 (.tmp 7), none⟩,
  ⟨some 136, .load false 1 (.tmp 135), none⟩,
  ⟨some 137, .move (.tmp 136), none⟩,
  ⟨some 138, .off 5 (.tmp 3), (some (137, true))⟩,
  ⟨some 139, .load false 1 (.tmp 138), (some (137, true))⟩,
  ⟨some 140, .bin .lss (.tmp 139) (.const (.int .i64 0)), (some (137, true))⟩,
  ⟨some 141, .move (.tmp 140), (some (137, true))⟩,
  ⟨some 142, .off 5 (.tmp 3), (some (141, false))⟩,
  ⟨some 143, .load false 1 (.tmp 142), (some (141, false))⟩,
  ⟨some 144, .move (.tmp 2), (some (141, false))⟩,
  ⟨some 145, .bin .geq (.tmp 143) (.tmp 144), (some (141, false))⟩,
  ⟨some 146, .pick (.tmp 141) (.const (.bool true)) (.tmp 145), (some (137, true))⟩,
  ⟨some 147, .pick (.tmp 137) (.tmp 146) (.const (.bool false)), none⟩,
  ⟨some 134, .move (.tmp 147), none⟩])
 (.cond (.tmp 134) (.seq (.region [⟨some 6, .move (.const (.int .i64 84)), none⟩])
 (.ret))
 (.skip))))))))))))))
 (.seq (.region [⟨some 6, .move (.const (.int .i64 0)), none⟩])
 (.ret))))
theorem light11 : Light Try.prog 11 3 148 L11 [.tmp 6] :=
  ⟨Try.f11, _, Try.func11, rfl, rfl, by kernel_rfl, by kernel_rfl, by decide⟩

/-! ### function 12: outrider/outriderref08.One -/
def L12 : LCode :=
 .seq (.region [⟨some 3, .box 25 6 (.tmp 0), none⟩,
  ⟨some 6, .move (.const (.int .i64 0)), none⟩])
 (.seq (.region [⟨some 8, .off 0 (.tmp 3), none⟩,
  ⟨some 9, .load false 1 (.tmp 8), none⟩,
  ⟨some 10, .call 28 [.tmp 9], none⟩,
  ⟨some 7, .move (.tmp 10), none⟩])
 (.seq (.seq (.region [⟨some 11, .move (.tmp 7), none⟩,
  ⟨some 12, .bin .eql (.tmp 11) (.const (.string ⟨#[63]⟩)), none⟩,
  ⟨some 13, .move (.tmp 12), none⟩,
  ⟨some 14, .move (.tmp 7), (some (13, false))⟩,
  ⟨some 15, .call 29 [.tmp 14, .const (.int .u8 111)], (some (13, false))⟩,
  ⟨some 16, .move (.tmp 15), (some (13, false))⟩,
  ⟨some 17, .off 1 (.tmp 3), (some (16, true))⟩,
  ⟨some 18, .load false 1 (.tmp 17), (some (16, true))⟩,
  ⟨some 19, .bin .lss (.tmp 18) (.const (.int .i64 1)), (some (16, true))⟩,
  ⟨some 20, .move (.tmp 19), (some (16, true))⟩,
  ⟨some 21, .off 1 (.tmp 3), (some (20, false))⟩,
  ⟨some 22, .load false 1 (.tmp 21), (some (20, false))⟩,
  ⟨some 23, .bin .gtr (.tmp 22) (.const (.int .i64 18)), (some (20, false))⟩,
  ⟨some 24, .pick (.tmp 20) (.const (.bool true)) (.tmp 23), (some (16, true))⟩,
  ⟨some 25, .pick (.tmp 16) (.tmp 24) (.const (.bool false)), (some (13, false))⟩,
  ⟨some 26, .pick (.tmp 13) (.const (.bool true)) (.tmp 25), none⟩,
  ⟨some 27, .move (.tmp 26), none⟩,
  ⟨some 28, .move (.tmp 7), (some (27, false))⟩,
  ⟨some 29, .call 29 [.tmp 28, .const (.int .u8 112)], (some (27, false))⟩,
  ⟨some 30, .move (.tmp 29), (some (27, false))⟩,
  ⟨some 31, .off 1 (.tmp 3), (some (30, true))⟩,
  ⟨some 32, .load false 1 (.tmp 31), (some (30, true))⟩,
  ⟨some 33, .bin .lss (.tmp 32) (.const (.int .i64 19)), (some (30, true))⟩,
  ⟨some 34, .move (.tmp 33), (some (30, true))⟩,
  ⟨some 35, .off 1 (.tmp 3), (some (34, false))⟩,
  ⟨some 36, .load false 1 (.tmp 35), (some (34, false))⟩,
  ⟨some 37, .bin .gtr (.tmp 36) (.const (.int .i64 21)), (some (34, false))⟩,
  ⟨some 38, .pick (.tmp 34) (.const (.bool true)) (.tmp 37), (some (30, true))⟩,
  ⟨some 39, .pick (.tmp 30) (.tmp 38) (.const (.bool false)), (some (27, false))⟩,
  ⟨some 40, .pick (.tmp 27) (.const (.bool true)) (.tmp 39), none⟩])
 (.cond (.tmp 40) (.seq (.region [⟨some 6, .move (.const (.int .i64 81)), none⟩])
 (.ret))
 (.skip)))
 (.seq (.seq (.region [⟨some 41, .move (.tmp 7), none⟩,
  ⟨some 42, .call 29 [.tmp 41, .const (.int .u8 97)], none⟩,
  ⟨some 43, .move (.tmp 42), none⟩,
  ⟨some 44, .off 2 (.tmp 3), (some (43, true))⟩,
  ⟨some 45, .load false 1 (.tmp 44), (some (43, true))⟩,
  ⟨some 46, .call 30 [.tmp 45], (some (43, true))⟩,
  ⟨some 47, .pick (.tmp 43) (.tmp 46) (.const (.bool false)), none⟩,
  ⟨some 48, .move (.tmp 47), none⟩,
  ⟨some 49, .move (.tmp 7), (some (48, false))⟩,
  ⟨some 50, .call 29 [.tmp 49, .const (.int .u8 98)], (some (48, false))⟩,
  ⟨some 51, .move (.tmp 50), (some (48, false))⟩,
  ⟨some 52, .off 3 (.tmp 3), (some (51, true))⟩,
  ⟨some 53, .load false 1 (.tmp 52), (some (51, true))⟩,
  ⟨some 54, .call 30 [.tmp 53], (some (51, true))⟩,
  ⟨some 55, .pick (.tmp 51) (.tmp 54) (.const (.bool false)), (some (48, false))⟩,
  ⟨some 56, .pick (.tmp 48) (.const (.bool true)) (.tmp 55), none⟩,
  ⟨some 57, .move (.tmp 56), none⟩,
  ⟨some 58, .move (.tmp 7), (some (57, false))⟩,
  ⟨some 59, .call 29 [.tmp 58, .const (.int .u8 99)], (some (57, false))⟩,
  ⟨some 60, .move (.tmp 59), (some (57, false))⟩,
  ⟨some 61, .off 4 (.tmp 3), (some (60, true))⟩,
  ⟨some 62, .load false 1 (.tmp 61), (some (60, true))⟩,
  ⟨some 63, .call 30 [.tmp 62], (some (60, true))⟩,
  ⟨some 64, .pick (.tmp 60) (.tmp 63) (.const (.bool false)), (some (57, false))⟩,
  ⟨some 65, .pick (.tmp 57) (.const (.bool true)) (.tmp 64), none⟩])
 (.cond (.tmp 65) (.seq (.region [⟨some 6, .move (.const (.int .i64 82)), none⟩])
 (.ret))
 (.skip)))
 (.seq (.seq (.region [⟨some 66, .move (.tmp 7), none⟩,
  ⟨some 67, .call 29 [.tmp 66, .const (.int .u8 97)], none⟩,
  ⟨some 68, .un .not (.tmp 67), none⟩,
  ⟨some 69, .move (.tmp 68), none⟩,
  ⟨some 70, .off 2 (.tmp 3), (some (69, true))⟩,
  ⟨some 71, .load false 1 (.tmp 70), (some (69, true))⟩,
  ⟨some 72, .bin .neq (.tmp 71) (.const (.int .i64 0)), (some (69, true))⟩,
  ⟨some 73, .pick (.tmp 69) (.tmp 72) (.const (.bool false)), none⟩,
  ⟨some 74, .move (.tmp 73), none⟩,
  ⟨some 75, .move (.tmp 7), (some (74, false))⟩,
  ⟨some 76, .call 29 [.tmp 75, .const (.int .u8 98)], (some (74, false))⟩,
  ⟨some 77, .un .not (.tmp 76), (some (74, false))⟩,
  ⟨some 78, .move (.tmp 77), (some (74, false))⟩,
  ⟨some 79, .off 3 (.tmp 3), (some (78, true))⟩,
  ⟨some 80, .load false 1 (.tmp 79), (some (78, true))⟩,
  ⟨some 81, .bin .neq (.tmp 80) (.const (.int .i64 0)), (some (78, true))⟩,
  ⟨some 82, .pick (.tmp 78) (.tmp 81) (.const (.bool false)), (some (74, false))⟩,
  ⟨some 83, .pick (.tmp 74) (.const (.bool true)) (.tmp 82), none⟩,
  ⟨some 84, .move (.tmp 83), none⟩,
  ⟨some 85, .move (.tmp 7), (some (84, false))⟩,
  ⟨some 86, .call 29 [.tmp 85, .const (.int .u8 99)], (some (84, false))⟩,
  ⟨some 87, .un .not (.tmp 86), (some (84, false))⟩,
  ⟨some 88, .move (.tmp 87), (some (84, false))⟩,
  ⟨some 89, .move (.tmp 7), (some (88, true))⟩,
  ⟨some 90, .call 29 [.tmp 89, .const (.int .u8 114)], (some (88, true))⟩,
  ⟨some 91, .un .not (.tmp 90), (some (88, true))⟩,
  ⟨some 92, .pick (.tmp 88) (.tmp 91) (.const (.bool false)), (some (84, false))⟩,
  ⟨some 93, .move (.tmp 92), (some (84, false))⟩,
  ⟨some 94, .off 4 (.tmp 3), (some (93, true))⟩,
  ⟨some 95, .load false 1 (.tmp 94), (some (93, true))⟩,
  ⟨some 96, .bin .neq (.tmp 95) (.const (.int .i64 0)), (some (93, true))⟩,
  ⟨some 97, .pick (.tmp 93) (.tmp 96) (.const (.bool false)), (some (84, false))⟩,
  ⟨some 98, .pick (.tmp 84) (.const (.bool true)) (.tmp 97), none⟩,
  ⟨some 99, .move (.tmp 98), none⟩,
  ⟨some 100, .move (.tmp 7), (some (99, false))⟩,
  ⟨some 101, .call 29 [.tmp 100, .const (.int .u8 107)], (some (99, false))⟩,
  ⟨some 102, .un .not (.tmp 101), (some (99, false))⟩,
  ⟨some 103, .move (.tmp 102), (some (99, false))⟩,
  ⟨some 104, .move (.tmp 7), (some (103, true))⟩,
  ⟨some 105, .call 29 [.tmp 104, .const (.int .u8 116)], (some (103, true))⟩,
  ⟨some 106, .un .not (.tmp 105), (some (103, true))⟩,
  ⟨some 107, .pick (.tmp 103) (.tmp 106) (.const (.bool false)), (some (99, false))⟩,
  ⟨some 108, .move (.tmp 107), (some (99, false))⟩,
  ⟨some 109, .off 5 (.tmp 3), (some (108, true))⟩,
  ⟨some 110, .load false 1 (.tmp 109), (some (108, true))⟩,
  ⟨some 111, .bin .neq (.tmp 110) (.const (.int .i64 0)), (some (108, true))⟩,
  ⟨some 112, .pick (.tmp 108) (.tmp 111) (.const (.bool false)), (some (99, false))⟩,
  ⟨some 113, .pick (.tmp 99) (.const (.bool true)) (.tmp 112), none⟩,
  ⟨some 114, .move (.tmp 113), none⟩,
  ⟨some 115, .move (.tmp 7), (some (114, false))⟩,
  ⟨some 116, .call 29 [.tmp 115, .const (.int .u8 111)], (some (114, false))⟩,
  ⟨some 117, .un .not (.tmp 116), (some (114, false))⟩,
  ⟨some 118, .move (.tmp 117), (some (114, false))⟩,
  ⟨some 119, .move (.tmp 7), (some (118, true))⟩,
  ⟨some 120, .call 29 [.tmp 119, .const (.int .u8 112)], (some (118, true))⟩,
  ⟨some 121, .un .not (.tmp 120), (some (118, true))⟩,
  ⟨some 122, .pick (.tmp 118) (.tmp 121) (.const (.bool false)), (some (114, false))⟩,
  ⟨some 123, .move (.tmp 122), (some (114, false))⟩,
  ⟨some 124, .off 1 (.tmp 3), (some (123, true))⟩,
  ⟨some 125, .load false 1 (.tmp 124), (some (123, true))⟩,
  ⟨some 126, .bin .neq (.tmp 125) (.const (.int .i64 0)), (some (123, true))⟩,
  ⟨some 127, .pick (.tmp 123) (.tmp 126) (.const (.bool false)), (some (114, false))⟩,
  ⟨some 128, .pick (.tmp 114) (.const (.bool true)) (.tmp 127), none⟩])
 (.cond (.tmp 128) (.seq (.region [⟨some 6, .move (.const (.int .i64 83)), none⟩])
 (.ret))
 (.skip)))
 (.seq (.seq (.region [⟨some 129, .move (.tmp 7), none⟩,
  ⟨some 130, .call 29 [.tmp 129, .const (.int .u8 114)], none⟩,
  ⟨some 131, .move (.tmp 130), none⟩,
  ⟨some 132, .off 4 (.tmp 3), (some (131, true))⟩,
  ⟨some 133, .load false 1 (.tmp 132), (some (131, true))⟩,
  ⟨some 134, .bin .lss (.tmp 133) (.const (.int .i64 0)), (some (131, true))⟩,
  ⟨some 135, .move (.tmp 134), (some (131, true))⟩,
  ⟨some 136, .off 4 (.tmp 3), (some (135, false))⟩,
  ⟨some 137, .load false 1 (.tmp 136), (some (135, false))⟩,
  ⟨some 138, .move (.tmp 1), (some (135, false))⟩,
  ⟨some 139, .bin .geq (.tmp 137) (.tmp 138), (some (135, false))⟩,
  ⟨some 140, .pick (.tmp 135) (.const (.bool true)) (.tmp 139), (some (131, true))⟩,
  ⟨some 141, .move (.tmp 140), (some (131, true))⟩,
  ⟨some 142, .off 4 (.tmp 3), (some (141, false))⟩,
  ⟨some 143, .load false 1 (.tmp 142), (some (141, false))⟩,
  ⟨some 144, .bin .geq (.tmp 143) (.const (.int .i64 4)), (some (141, false))⟩,
  ⟨some 145, .pick (.tmp 141) (.const (.bool true)) (.tmp 144), (some (131, true))⟩,
  ⟨some 146, .pick (.tmp 131) (.tmp 145) (.const (.bool false)), none⟩])
 (.cond (.tmp 146) (.seq (.region [⟨some 6, .move (.const (.int .i64 63)), none⟩])
 (.ret))
 (.skip)))
 (.seq (.seq (.region [⟨some 147, .move (.tmp 7), none⟩,
  ⟨some 148, .call 29 [.tmp 147, .const (.int .u8 116)], none⟩,
  ⟨some 149, .move (.tmp 148), none⟩,
  ⟨some 150, .off 5 (.tmp 3), (some (149, true))⟩,
  ⟨some 151, .load false 1 (.tmp 150), (some (149, true))⟩,
  ⟨some 152, .bin .lss (.tmp 151) (.const (.int .i64 0)), (some (149, true))⟩,
  ⟨some 153, .move (.tmp 152), (some (149, true))⟩,
  ⟨some 154, .off 5 (.tmp 3), (some (153, false))⟩,
  ⟨some 155, .load false 1 (.tmp 154), (some (153, false))⟩,
  ⟨some 156, .move (.tmp 2), (some (153, false))⟩,
  ⟨some 157, .bin .geq (.tmp 155) (.tmp 156), (some (153, false))⟩,
  ⟨some 158, .pick (.tmp 153) (.const (.bool true)) (.tmp 157), (some (149, true))⟩,
  ⟨some 159, .pick (.tmp 149) (.tmp 158) (.const (.bool false)), none⟩])
 (.cond (.tmp 159) (.seq (.region [⟨some 6, .move (.const (.int .i64 84)), none⟩])
 (.ret))
 (.skip)))
 (.seq (.region [⟨some 6, .move (.const (.int .i64 0)), none⟩])
 (.ret))))))))
theorem light12 : Light Try.prog 12 3 160 L12 [.tmp 6] :=
  ⟨Try.f12, _, Try.func12, rfl, rfl, by kernel_rfl, by kernel_rfl, by decide⟩

/-! ### function 13: outrider/ins.Falls -/
def L13 : LCode :=
 .seq (.region [⟨some 1, .box 25 6 (.tmp 0), none⟩,
  ⟨some 2, .move (.const (.bool false)), none⟩])
 (.seq (.region [⟨some 3, .off 0 (.tmp 1), none⟩,
  ⟨some 4, .load false 1 (.tmp 3), none⟩,
  ⟨some 5, .bin .neq (.tmp 4) (.const (.int .i64 1)), none⟩,
  ⟨some 6, .move (.tmp 5), none⟩,
  ⟨some 7, .off 0 (.tmp 1), (some (6, true))⟩,
  ⟨some 8, .load false 1 (.tmp 7), (some (6, true))⟩,
  ⟨some 9, .bin .neq (.tmp 8) (.const (.int .i64 10)), (some (6, true))⟩,
  ⟨some 10, .pick (.tmp 6) (.tmp 9) (.const (.bool false)), none⟩,
  ⟨some 11, .move (.tmp 10), none⟩,
  ⟨some 12, .off 0 (.tmp 1), (some (11, true))⟩,
  ⟨some 13, .load false 1 (.tmp 12), (some (11, true))⟩,
  ⟨some 14, .bin .neq (.tmp 13) (.const (.int .i64 13)), (some (11, true))⟩,
  ⟨some 15, .pick (.tmp 11) (.tmp 14) (.const (.bool false)), none⟩,
  ⟨some 2, .move (.tmp 15), none⟩])
 (.ret))
theorem light13 : Light Try.prog 13 1 16 L13 [.tmp 2] :=
  ⟨Try.f13, _, Try.func13, rfl, rfl, by kernel_rfl, by kernel_rfl, by decide⟩

/-! ### function 14: outrider/outriderref08.Falls -/
def L14 : LCode :=
 .seq (.region [⟨some 1, .box 25 6 (.tmp 0), none⟩,
  ⟨some 2, .move (.const (.bool false)), none⟩])
 (.seq (.region [⟨some 3, .off 0 (.tmp 1), none⟩,
  ⟨some 4, .load false 1 (.tmp 3), none⟩,
  ⟨some 5, .bin .neq (.tmp 4) (.const (.int .i64 1)), none⟩,
  ⟨some 6, .move (.tmp 5), none⟩,
  ⟨some 7, .off 0 (.tmp 1), (some (6, true))⟩,
  ⟨some 8, .load false 1 (.tmp 7), (some (6, true))⟩,
  ⟨some 9, .bin .neq (.tmp 8) (.const (.int .i64 10)), (some (6, true))⟩,
  ⟨some 10, .pick (.tmp 6) (.tmp 9) (.const (.bool false)), none⟩,
  ⟨some 11, .move (.tmp 10), none⟩,
  ⟨some 12, .off 0 (.tmp 1), (some (11, true))⟩,
  ⟨some 13, .load false 1 (.tmp 12), (some (11, true))⟩,
  ⟨some 14, .bin .neq (.tmp 13) (.const (.int .i64 13)), (some (11, true))⟩,
  ⟨some 15, .pick (.tmp 11) (.tmp 14) (.const (.bool false)), none⟩,
  ⟨some 2, .move (.tmp 15), none⟩])
 (.ret))
theorem light14 : Light Try.prog 14 1 16 L14 [.tmp 2] :=
  ⟨Try.f14, _, Try.func14, rfl, rfl, by kernel_rfl, by kernel_rfl, by decide⟩

/-! ### function 15: outrider/outriderlaw08.alive -/
def L15 : LCode :=
 .seq (.region [⟨some 0, .move (.const (.bool false)), none⟩])
 (.seq (.region [⟨some 6, .build [.int .i64 0, .int .i64 0, .int .i64 0, .int .i64 0, .int .i64 0, .int .i64 0] [(0, 1, .const (.int .i64 2)), (2, 1, .const (.int .i64 3)), (5, 1, .const (.int .i64 (-1)))], none⟩,
  ⟨some 7, .build [.int .i64 0, .int .i64 0, .int .i64 0, .int .i64 0, .int .i64 0, .int .i64 0] [(0, 1, .const (.int .i64 9)), (2, 1, .const (.int .i64 3))], none⟩,
  ⟨some 8, .build [.int .i64 0, .int .i64 0, .int .i64 0, .int .i64 0, .int .i64 0, .int .i64 0] [(0, 1, .const (.int .i64 1))], none⟩,
  ⟨some 9, .buildSlice 25 6 3 [.int .i64 0, .int .i64 0, .int .i64 0, .int .i64 0, .int .i64 0, .int .i64 0] [(0, 6, .tmp 6), (6, 6, .tmp 7), (12, 6, .tmp 8)], none⟩,
  ⟨some 1, .move (.tmp 9), none⟩])
 (.seq (.region [⟨some 11, .move (.tmp 1), none⟩,
  ⟨some 12, .call 18 [.tmp 11, .const (.int .i64 0)], none⟩,
  ⟨some 10, .move (.tmp 12), none⟩,
  ⟨some 13, .extract (.tmp 10) 0, none⟩,
  ⟨some 14, .extract (.tmp 10) 1, none⟩,
  ⟨some 2, .move (.tmp 13), none⟩,
  ⟨some 3, .move (.tmp 14), none⟩])
 (.seq (.region [⟨some 16, .move (.tmp 1), none⟩,
  ⟨some 17, .slice 6 (.tmp 16) none (some (.const (.int .i64 1))) (some (.const (.int .i64 1))), none⟩,
  ⟨some 18, .call 16 [.tmp 17, .const (.int .i64 0)], none⟩,
  ⟨some 15, .move (.tmp 18), none⟩,
  ⟨some 19, .extract (.tmp 15) 0, none⟩,
  ⟨some 20, .extract (.tmp 15) 1, none⟩,
  ⟨some 4, .move (.tmp 19), none⟩,
  ⟨some 5, .move (.tmp 20), none⟩])
 (.seq (.region [⟨some 21, .move (.tmp 3), none⟩,
  ⟨some 22, .bin .eql (.tmp 21) (.const (.int .i64 0)), none⟩,
  ⟨some 23, .move (.tmp 22), none⟩,
  ⟨some 24, .move (.tmp 2), (some (23, true))⟩,
  ⟨some 25, .toStr (.tmp 24), (some (23, true))⟩,
  ⟨some 26, .bin .eql (.tmp 25) (.const (.string ⟨#[3, 2, 3, 1, 9, 3, 1]⟩)), (some (23, true))⟩,
  ⟨some 27, .pick (.tmp 23) (.tmp 26) (.const (.bool false)), none⟩,
  ⟨some 28, .move (.tmp 27), none⟩,
  ⟨some 29, .move (.tmp 4), (some (28, true))⟩,
  ⟨some 30, .bin .eql (.tmp 29) (.const (.int .i64 0)), (some (28, true))⟩,
  ⟨some 31, .pick (.tmp 28) (.tmp 30) (.const (.bool false)), none⟩,
  ⟨some 32, .move (.tmp 31), none⟩,
  ⟨some 33, .move (.tmp 5), (some (32, true))⟩,
  ⟨some 34, .bin .eql (.tmp 33) (.const (.int .i64 85)), (some (32, true))⟩,
  ⟨some 35, .pick (.tmp 32) (.tmp 34) (.const (.bool false)), none⟩,
  ⟨some 36, .move (.tmp 35), none⟩,
  ⟨some 37, .move (.tmp 1), (some (36, true))⟩,
  ⟨some 38, .idx 6 (.tmp 37) (.const (.int .i64 0)), (some (36, true))⟩,
  ⟨some 39, .load true 6 (.tmp 38), (some (36, true))⟩,
  ⟨some 40, .call 13 [.tmp 39], (some (36, true))⟩,
  ⟨some 41, .pick (.tmp 36) (.tmp 40) (.const (.bool false)), none⟩,
  ⟨some 42, .move (.tmp 41), none⟩,
  ⟨some 43, .move (.tmp 1), (some (42, true))⟩,
  ⟨some 44, .idx 6 (.tmp 43) (.const (.int .i64 2)), (some (42, true))⟩,
  ⟨some 45, .load true 6 (.tmp 44), (some (42, true))⟩,
  ⟨some 46, .call 13 [.tmp 45], (some (42, true))⟩,
  ⟨some 47, .un .not (.tmp 46), (some (42, true))⟩,
  ⟨some 48, .pick (.tmp 42) (.tmp 47) (.const (.bool false)), none⟩,
  ⟨some 0, .move (.tmp 48), none⟩])
 (.ret)))))
theorem light15 : Light Try.prog 15 0 49 L15 [.tmp 0] :=
  ⟨Try.f15, _, Try.func15, rfl, rfl, by kernel_rfl, by kernel_rfl, by decide⟩

/-! ### function 16: outrider/ins.Check -/
def L16_1 : LCode :=
 .seq (.region [⟨some 21, .bin .lss (.tmp 20) (.tmp 19), none⟩])
 (.seq (.cond (.tmp 21) (.skip)
 (.exit 0))
 (.seq (.block 1 (.seq (.region [⟨some 22, .move (.tmp 20), none⟩,
  ⟨some 23, .idx 6 (.tmp 18) (.tmp 20), none⟩,
  ⟨some 24, .load true 6 (.tmp 23), none⟩,
  ⟨some 7, .new 25 6 [.int .i64 0, .int .i64 0, .int .i64 0, .int .i64 0, .int .i64 0, .int .i64 0], none⟩,
  ⟨some 6, .move (.tmp 22), none⟩,
  ⟨none, .store 6 (.tmp 7) (.tmp 24), none⟩])
 (.seq (.region [⟨some 25, .load true 6 (.tmp 7), none⟩,
  ⟨some 26, .move (.tmp 1), none⟩,
  ⟨some 27, .move (.tmp 0), none⟩,
  ⟨some 28, .len (.tmp 27), none⟩,
  ⟨some 29, .call 11 [.tmp 25, .tmp 26, .tmp 28], none⟩,
  ⟨some 8, .move (.tmp 29), none⟩])
 (.seq (.region [⟨some 30, .move (.tmp 8), none⟩,
  ⟨some 31, .bin .neq (.tmp 30) (.const (.int .i64 0)), none⟩])
 (.cond (.tmp 31) (.seq (.region [⟨some 32, .move (.tmp 6), none⟩,
  ⟨some 33, .move (.tmp 8), none⟩,
  ⟨some 4, .move (.tmp 32), none⟩,
  ⟨some 5, .move (.tmp 33), none⟩])
 (.ret))
 (.skip))))))
 (.region [⟨some 34, .bin .add (.tmp 20) (.const (.int .i64 1)), none⟩,
  ⟨some 20, .move (.tmp 34), none⟩])))
def L16 : LCode :=
 .seq (.region [⟨some 4, .move (.const (.int .i64 0)), none⟩,
  ⟨some 5, .move (.const (.int .i64 0)), none⟩])
 (.seq (.seq (.region [⟨some 10, .move (.tmp 0), none⟩,
  ⟨some 11, .len (.tmp 10), none⟩,
  ⟨some 12, .bin .eql (.tmp 11) (.const (.int .i64 0)), none⟩,
  ⟨some 13, .move (.tmp 12), none⟩,
  ⟨some 14, .move (.tmp 0), (some (13, false))⟩,
  ⟨some 15, .len (.tmp 14), (some (13, false))⟩,
  ⟨some 16, .bin .gtr (.tmp 15) (.const (.int .i64 600)), (some (13, false))⟩,
  ⟨some 17, .pick (.tmp 13) (.const (.bool true)) (.tmp 16), none⟩])
 (.cond (.tmp 17) (.seq (.region [⟨some 4, .move (.const (.int .i64 0)), none⟩,
  ⟨some 5, .move (.const (.int .i64 80)), none⟩])
 (.ret))
 (.skip)))
 (.seq (.seq (.region [⟨some 18, .move (.tmp 0), none⟩,
  ⟨some 19, .len (.tmp 18), none⟩,
  ⟨some 20, .move (.const (.int .i64 0)), none⟩])
 (.block 0 (.loop L16_1)))
 (.seq (.region [⟨some 35, .move (.tmp 0), none⟩,
  ⟨some 36, .len (.tmp 35), none⟩,
  ⟨some 37, .bin .sub (.tmp 36) (.const (.int .i64 1)), none⟩,
  ⟨some 9, .move (.tmp 37), none⟩])
 (.seq (.seq (.region [⟨some 38, .move (.tmp 0), none⟩,
  ⟨some 39, .move (.tmp 9), none⟩,
  ⟨some 40, .idx 6 (.tmp 38) (.tmp 39), none⟩,
  ⟨some 41, .load true 6 (.tmp 40), none⟩,
  ⟨some 42, .call 13 [.tmp 41], none⟩])
 (.cond (.tmp 42) (.seq (.region [⟨some 43, .move (.tmp 9), none⟩,
  ⟨some 4, .move (.tmp 43), none⟩,
  ⟨some 5, .move (.const (.int .i64 85)), none⟩])
 (.ret))
 (.skip)))
 (.seq (.region [⟨some 4, .move (.const (.int .i64 0)), none⟩,
  ⟨some 5, .move (.const (.int .i64 0)), none⟩])
 (.ret))))))
theorem light16 : Light Try.prog 16 2 44 L16 [.tmp 4, .tmp 5] :=
  ⟨Try.f16, _, Try.func16, rfl, rfl, by kernel_rfl, by kernel_rfl, by decide⟩

/-! ### function 17: outrider/outriderref08.Check -/
def L17_1 : LCode :=
 .seq (.seq (.region [⟨some 16, .move (.tmp 6), none⟩,
  ⟨some 17, .move (.tmp 0), none⟩,
  ⟨some 18, .len (.tmp 17), none⟩,
  ⟨some 19, .bin .lss (.tmp 16) (.tmp 18), none⟩])
 (.cond (.tmp 19) (.skip)
 (.exit 0)))
 (.seq (.block 1 (.seq (.region [⟨some 22, .move (.tmp 0), none⟩,
  ⟨some 23, .move (.tmp 6), none⟩,
  ⟨some 24, .idx 6 (.tmp 22) (.tmp 23), none⟩,
  ⟨some 25, .load true 6 (.tmp 24), none⟩,
  ⟨some 26, .move (.tmp 1), none⟩,
  ⟨some 27, .move (.tmp 0), none⟩,
  ⟨some 28, .len (.tmp 27), none⟩,
  ⟨some 29, .call 12 [.tmp 25, .tmp 26, .tmp 28], none⟩,
  ⟨some 7, .move (.tmp 29), none⟩])
 (.seq (.region [⟨some 30, .move (.tmp 7), none⟩,
  ⟨some 31, .bin .neq (.tmp 30) (.const (.int .i64 0)), none⟩])
 (.cond (.tmp 31) (.seq (.region [⟨some 32, .move (.tmp 6), none⟩,
  ⟨some 33, .move (.tmp 7), none⟩,
  ⟨some 4, .move (.tmp 32), none⟩,
  ⟨some 5, .move (.tmp 33), none⟩])
 (.ret))
 (.skip)))))
 (.region [⟨some 20, .move (.tmp 6), none⟩,
  ⟨some 21, .bin .add (.tmp 20) (.const (.int .i64 1)), none⟩,
  ⟨some 6, .move (.tmp 21), none⟩]))
def L17 : LCode :=
 .seq (.region [⟨some 4, .move (.const (.int .i64 0)), none⟩,
  ⟨some 5, .move (.const (.int .i64 0)), none⟩])
 (.seq (.seq (.region [⟨some 8, .move (.tmp 0), none⟩,
  ⟨some 9, .len (.tmp 8), none⟩,
  ⟨some 10, .bin .eql (.tmp 9) (.const (.int .i64 0)), none⟩,
  ⟨some 11, .move (.tmp 10), none⟩,
  ⟨some 12, .move (.tmp 0), (some (11, false))⟩,
  ⟨some 13, .len (.tmp 12), (some (11, false))⟩,
  ⟨some 14, .bin .gtr (.tmp 13) (.const (.int .i64 600)), (some (11, false))⟩,
  ⟨some 15, .pick (.tmp 11) (.const (.bool true)) (.tmp 14), none⟩])
 (.cond (.tmp 15) (.seq (.region [⟨some 4, .move (.const (.int .i64 0)), none⟩,
  ⟨some 5, .move (.const (.int .i64 80)), none⟩])
 (.ret))
 (.skip)))
 (.seq (.seq (.region [⟨some 6, .move (.const (.int .i64 0)), none⟩])
 (.block 0 (.loop L17_1)))
 (.seq (.seq (.region [⟨some 34, .move (.tmp 0), none⟩,
  ⟨some 35, .move (.tmp 0), none⟩,
  ⟨some 36, .len (.tmp 35), none⟩,
  ⟨some 37, .bin .sub (.tmp 36) (.const (.int .i64 1)), none⟩,
  ⟨some 38, .idx 6 (.tmp 34) (.tmp 37), none⟩,
  ⟨some 39, .load true 6 (.tmp 38), none⟩,
  ⟨some 40, .call 14 [.tmp 39], none⟩])
 (.cond (.tmp 40) (.seq (.region [⟨some 41, .move (.tmp 0), none⟩,
  ⟨some 42, .len (.tmp 41), none⟩,
  ⟨some 43, .bin .sub (.tmp 42) (.const (.int .i64 1)), none⟩,
  ⟨some 4, .move (.tmp 43), none⟩,
  ⟨some 5, .move (.const (.int .i64 85)), none⟩])
 (.ret))
 (.skip)))
 (.seq (.region [⟨some 4, .move (.const (.int .i64 0)), none⟩,
  ⟨some 5, .move (.const (.int .i64 0)), none⟩])
 (.ret)))))
theorem light17 : Light Try.prog 17 2 44 L17 [.tmp 4, .tmp 5] :=
  ⟨Try.f17, _, Try.func17, rfl, rfl, by kernel_rfl, by kernel_rfl, by decide⟩

/-! ### function 18: outrider/ins.Encode -/
def L18_1 : LCode :=
 .seq (.region [⟨some 78, .bin .lss (.tmp 77) (.tmp 76), none⟩])
 (.seq (.cond (.tmp 78) (.skip)
 (.exit 2))
 (.seq (.block 3 (.seq (.region [⟨some 79, .idx 2 (.tmp 75) (.tmp 77), none⟩,
  ⟨some 80, .load true 2 (.tmp 79), none⟩,
  ⟨some 14, .new 64 2 [.bool false, .int .i64 0], none⟩,
  ⟨none, .store 2 (.tmp 14) (.tmp 80), none⟩])
 (.seq (.region [⟨some 81, .off 0 (.tmp 14), none⟩,
  ⟨some 82, .load false 1 (.tmp 81), none⟩])
 (.cond (.tmp 82) (.region [⟨some 83, .move (.tmp 8), none⟩,
  ⟨some 84, .off 1 (.tmp 14), none⟩,
  ⟨some 85, .load false 1 (.tmp 84), none⟩,
  ⟨some 86, .conv .u64 (.tmp 85), none⟩,
  ⟨some 87, .call 32 [.tmp 83, .tmp 86], none⟩])
 (.skip)))))
 (.region [⟨some 88, .bin .add (.tmp 77) (.const (.int .i64 1)), none⟩,
  ⟨some 77, .move (.tmp 88), none⟩])))
def L18_2 : LCode :=
 .seq (.region [⟨some 33, .bin .lss (.tmp 32) (.tmp 31), none⟩])
 (.seq (.cond (.tmp 33) (.skip)
 (.exit 0))
 (.seq (.block 1 (.seq (.region [⟨some 34, .idx 6 (.tmp 30) (.tmp 32), none⟩,
  ⟨some 35, .load true 6 (.tmp 34), none⟩,
  ⟨some 10, .new 25 6 [.int .i64 0, .int .i64 0, .int .i64 0, .int .i64 0, .int .i64 0, .int .i64 0], none⟩,
  ⟨none, .store 6 (.tmp 10) (.tmp 35), none⟩])
 (.seq (.region [⟨some 37, .off 0 (.tmp 10), none⟩,
  ⟨some 38, .load false 1 (.tmp 37), none⟩,
  ⟨some 39, .call 26 [.tmp 38], none⟩,
  ⟨some 36, .move (.tmp 39), none⟩,
  ⟨some 40, .extract (.tmp 36) 0, none⟩,
  ⟨some 41, .extract (.tmp 36) 1, none⟩,
  ⟨some 11, .new 53 8 [.bool false, .bool false, .bool false, .bool false, .bool false, .bool false, .bool false, .bool false], none⟩,
  ⟨none, .store 8 (.tmp 11) (.tmp 40), none⟩,
  ⟨some 12, .move (.tmp 41), none⟩])
 (.seq (.region [⟨some 42, .move (.tmp 8), none⟩,
  ⟨some 43, .off 0 (.tmp 10), none⟩,
  ⟨some 44, .load false 1 (.tmp 43), none⟩,
  ⟨some 45, .conv .u64 (.tmp 44), none⟩,
  ⟨some 46, .call 32 [.tmp 42, .tmp 45], none⟩])
 (.seq (.seq (.region [⟨some 47, .off 6 (.tmp 11), none⟩,
  ⟨some 48, .load false 1 (.tmp 47), none⟩,
  ⟨some 49, .move (.tmp 48), none⟩,
  ⟨some 50, .off 7 (.tmp 11), (some (49, false))⟩,
  ⟨some 51, .load false 1 (.tmp 50), (some (49, false))⟩,
  ⟨some 52, .pick (.tmp 49) (.const (.bool true)) (.tmp 51), none⟩,
  ⟨some 53, .off 1 (.tmp 10), none⟩,
  ⟨some 54, .load false 1 (.tmp 53), none⟩,
  ⟨some 55, .build [.bool false, .int .i64 0] [(0, 1, .tmp 52), (1, 1, .tmp 54)], none⟩,
  ⟨some 56, .off 0 (.tmp 11), none⟩,
  ⟨some 57, .load false 1 (.tmp 56), none⟩,
  ⟨some 58, .off 2 (.tmp 10), none⟩,
  ⟨some 59, .load false 1 (.tmp 58), none⟩,
  ⟨some 60, .build [.bool false, .int .i64 0] [(0, 1, .tmp 57), (1, 1, .tmp 59)], none⟩,
  ⟨some 61, .off 1 (.tmp 11), none⟩,
  ⟨some 62, .load false 1 (.tmp 61), none⟩,
  ⟨some 63, .off 3 (.tmp 10), none⟩,
  ⟨some 64, .load false 1 (.tmp 63), none⟩,
  ⟨some 65, .build [.bool false, .int .i64 0] [(0, 1, .tmp 62), (1, 1, .tmp 64)], none⟩,
  ⟨some 66, .off 2 (.tmp 11), none⟩,
  ⟨some 67, .load false 1 (.tmp 66), none⟩,
  ⟨some 68, .move (.tmp 67), none⟩,
  ⟨some 69, .off 3 (.tmp 11), (some (68, false))⟩,
  ⟨some 70, .load false 1 (.tmp 69), (some (68, false))⟩,
  ⟨some 71, .pick (.tmp 68) (.const (.bool true)) (.tmp 70), none⟩,
  ⟨some 72, .off 4 (.tmp 10), none⟩,
  ⟨some 73, .load false 1 (.tmp 72), none⟩,
  ⟨some 74, .build [.bool false, .int .i64 0] [(0, 1, .tmp 71), (1, 1, .tmp 73)], none⟩,
  ⟨some 75, .buildSlice 64 2 4 [.bool false, .int .i64 0] [(0, 2, .tmp 55), (2, 2, .tmp 60), (4, 2, .tmp 65), (6, 2, .tmp 74)], none⟩,
  ⟨some 76, .len (.tmp 75), none⟩,
  ⟨some 77, .move (.const (.int .i64 0)), none⟩])
 (.block 2 (.loop L18_1)))
 (.seq (.region [⟨some 89, .off 4 (.tmp 11), none⟩,
  ⟨some 90, .load false 1 (.tmp 89), none⟩])
 (.cond (.tmp 90) (.region [⟨some 91, .move (.tmp 8), none⟩,
  ⟨some 92, .off 5 (.tmp 10), none⟩,
  ⟨some 93, .load false 1 (.tmp 92), none⟩,
  ⟨some 94, .call 33 [.tmp 91, .tmp 93], none⟩])
 (.skip))))))))
 (.region [⟨some 95, .bin .add (.tmp 32) (.const (.int .i64 1)), none⟩,
  ⟨some 32, .move (.tmp 95), none⟩])))
def L18 : LCode :=
 .seq (.region [⟨some 4, .move (.const (.slice none 0 0)), none⟩,
  ⟨some 5, .move (.const (.int .i64 0)), none⟩])
 (.seq (.seq (.region [⟨some 16, .move (.tmp 0), none⟩,
  ⟨some 17, .move (.tmp 1), none⟩,
  ⟨some 18, .call 16 [.tmp 16, .tmp 17], none⟩,
  ⟨some 15, .move (.tmp 18), none⟩,
  ⟨some 19, .extract (.tmp 15) 0, none⟩,
  ⟨some 20, .extract (.tmp 15) 1, none⟩,
  ⟨some 6, .move (.tmp 19), none⟩,
  ⟨some 7, .move (.tmp 20), none⟩])
 (.seq (.region [⟨some 21, .move (.tmp 7), none⟩,
  ⟨some 22, .bin .neq (.tmp 21) (.const (.int .i64 0)), none⟩])
 (.cond (.tmp 22) (.seq (.region [⟨some 23, .move (.tmp 7), none⟩,
  ⟨some 4, .move (.const (.slice none 0 0)), none⟩,
  ⟨some 5, .move (.tmp 23), none⟩])
 (.ret))
 (.skip))))
 (.seq (.region [⟨some 24, .call 31 [], none⟩,
  ⟨some 8, .move (.tmp 24), none⟩])
 (.seq (.region [⟨some 25, .move (.tmp 8), none⟩,
  ⟨some 26, .move (.tmp 0), none⟩,
  ⟨some 27, .len (.tmp 26), none⟩,
  ⟨some 28, .conv .u64 (.tmp 27), none⟩,
  ⟨some 29, .call 32 [.tmp 25, .tmp 28], none⟩])
 (.seq (.seq (.region [⟨some 30, .move (.tmp 0), none⟩,
  ⟨some 31, .len (.tmp 30), none⟩,
  ⟨some 32, .move (.const (.int .i64 0)), none⟩])
 (.block 0 (.loop L18_2)))
 (.seq (.region [⟨some 96, .move (.tmp 8), none⟩,
  ⟨some 97, .call 34 [.tmp 96], none⟩,
  ⟨some 4, .move (.tmp 97), none⟩,
  ⟨some 5, .move (.const (.int .i64 0)), none⟩])
 (.ret))))))
theorem light18 : Light Try.prog 18 2 98 L18 [.tmp 4, .tmp 5] :=
  ⟨Try.f18, _, Try.func18, rfl, rfl, by kernel_rfl, by kernel_rfl, by decide⟩

/-! ### function 19: outrider/outriderref08.Encode -/
def L19_1 : LCode :=
 .seq (.seq (.region [⟨some 45, .move (.tmp 12), none⟩,
  ⟨some 46, .move (.tmp 11), none⟩,
  ⟨some 47, .lenS (.tmp 46), none⟩,
  ⟨some 48, .bin .lss (.tmp 45) (.tmp 47), none⟩])
 (.cond (.tmp 48) (.skip)
 (.exit 2)))
 (.seq (.block 3 (.seq (.region [⟨some 51, .move (.tmp 11), none⟩,
  ⟨some 52, .move (.tmp 12), none⟩,
  ⟨some 53, .idxStr (.tmp 51) (.tmp 52), none⟩])
 (.block 4 (.seq (.seq (.region [⟨some 60, .bin .eql (.tmp 53) (.const (.int .u8 111)), none⟩,
  ⟨some 59, .move (.tmp 60), none⟩])
 (.cond (.tmp 59) (.skip)
 (.region [⟨some 61, .bin .eql (.tmp 53) (.const (.int .u8 112)), none⟩,
  ⟨some 59, .move (.tmp 61), none⟩])))
 (.cond (.tmp 59) (.region [⟨some 62, .move (.tmp 8), none⟩,
  ⟨some 63, .off 1 (.tmp 10), none⟩,
  ⟨some 64, .load false 1 (.tmp 63), none⟩,
  ⟨some 65, .conv .u64 (.tmp 64), none⟩,
  ⟨some 66, .call 35 [.tmp 65], none⟩,
  ⟨some 67, .append 5 1 1 (.tmp 62) (.tmp 66), none⟩,
  ⟨some 8, .move (.tmp 67), none⟩])
 (.seq (.region [⟨some 69, .bin .eql (.tmp 53) (.const (.int .u8 97)), none⟩,
  ⟨some 68, .move (.tmp 69), none⟩])
 (.cond (.tmp 68) (.region [⟨some 70, .move (.tmp 8), none⟩,
  ⟨some 71, .off 2 (.tmp 10), none⟩,
  ⟨some 72, .load false 1 (.tmp 71), none⟩,
  ⟨some 73, .conv .u64 (.tmp 72), none⟩,
  ⟨some 74, .call 35 [.tmp 73], none⟩,
  ⟨some 75, .append 5 1 1 (.tmp 70) (.tmp 74), none⟩,
  ⟨some 8, .move (.tmp 75), none⟩])
 (.seq (.region [⟨some 77, .bin .eql (.tmp 53) (.const (.int .u8 98)), none⟩,
  ⟨some 76, .move (.tmp 77), none⟩])
 (.cond (.tmp 76) (.region [⟨some 78, .move (.tmp 8), none⟩,
  ⟨some 79, .off 3 (.tmp 10), none⟩,
  ⟨some 80, .load false 1 (.tmp 79), none⟩,
  ⟨some 81, .conv .u64 (.tmp 80), none⟩,
  ⟨some 82, .call 35 [.tmp 81], none⟩,
  ⟨some 83, .append 5 1 1 (.tmp 78) (.tmp 82), none⟩,
  ⟨some 8, .move (.tmp 83), none⟩])
 (.seq (.seq (.region [⟨some 85, .bin .eql (.tmp 53) (.const (.int .u8 99)), none⟩,
  ⟨some 84, .move (.tmp 85), none⟩])
 (.cond (.tmp 84) (.skip)
 (.region [⟨some 86, .bin .eql (.tmp 53) (.const (.int .u8 114)), none⟩,
  ⟨some 84, .move (.tmp 86), none⟩])))
 (.cond (.tmp 84) (.region [⟨some 87, .move (.tmp 8), none⟩,
  ⟨some 88, .off 4 (.tmp 10), none⟩,
  ⟨some 89, .load false 1 (.tmp 88), none⟩,
  ⟨some 90, .conv .u64 (.tmp 89), none⟩,
  ⟨some 91, .call 35 [.tmp 90], none⟩,
  ⟨some 92, .append 5 1 1 (.tmp 87) (.tmp 91), none⟩,
  ⟨some 8, .move (.tmp 92), none⟩])
 (.region [⟨some 54, .move (.tmp 8), none⟩,
  ⟨some 55, .off 5 (.tmp 10), none⟩,
  ⟨some 56, .load false 1 (.tmp 55), none⟩,
  ⟨some 57, .call 36 [.tmp 56], none⟩,
  ⟨some 58, .append 5 1 1 (.tmp 54) (.tmp 57), none⟩,
  ⟨some 8, .move (.tmp 58), none⟩]))))))))))))
 (.region [⟨some 49, .move (.tmp 12), none⟩,
  ⟨some 50, .bin .add (.tmp 49) (.const (.int .i64 1)), none⟩,
  ⟨some 12, .move (.tmp 50), none⟩]))
def L19_2 : LCode :=
 .seq (.seq (.region [⟨some 26, .move (.tmp 9), none⟩,
  ⟨some 27, .move (.tmp 0), none⟩,
  ⟨some 28, .len (.tmp 27), none⟩,
  ⟨some 29, .bin .lss (.tmp 26) (.tmp 28), none⟩])
 (.cond (.tmp 29) (.skip)
 (.exit 0)))
 (.seq (.block 1 (.seq (.region [⟨some 32, .move (.tmp 0), none⟩,
  ⟨some 33, .move (.tmp 9), none⟩,
  ⟨some 34, .idx 6 (.tmp 32) (.tmp 33), none⟩,
  ⟨some 35, .load true 6 (.tmp 34), none⟩,
  ⟨some 10, .new 25 6 [.int .i64 0, .int .i64 0, .int .i64 0, .int .i64 0, .int .i64 0, .int .i64 0], none⟩,
  ⟨none, .store 6 (.tmp 10) (.tmp 35), none⟩])
 (.seq (.region [⟨some 36, .move (.tmp 8), none⟩,
  ⟨some 37, .off 0 (.tmp 10), none⟩,
  ⟨some 38, .load false 1 (.tmp 37), none⟩,
  ⟨some 39, .conv .u64 (.tmp 38), none⟩,
  ⟨some 40, .call 35 [.tmp 39], none⟩,
  ⟨some 41, .append 5 1 1 (.tmp 36) (.tmp 40), none⟩,
  ⟨some 8, .move (.tmp 41), none⟩])
 (.seq (.region [⟨some 42, .off 0 (.tmp 10), none⟩,
  ⟨some 43, .load false 1 (.tmp 42), none⟩,
  ⟨some 44, .call 28 [.tmp 43], none⟩,
  ⟨some 11, .move (.tmp 44), none⟩])
 (.seq (.region [⟨some 12, .move (.const (.int .i64 0)), none⟩])
 (.block 2 (.loop L19_1)))))))
 (.region [⟨some 30, .move (.tmp 9), none⟩,
  ⟨some 31, .bin .add (.tmp 30) (.const (.int .i64 1)), none⟩,
  ⟨some 9, .move (.tmp 31), none⟩]))
def L19 : LCode :=
 .seq (.region [⟨some 4, .move (.const (.slice none 0 0)), none⟩,
  ⟨some 5, .move (.const (.int .i64 0)), none⟩])
 (.seq (.region [⟨some 14, .move (.tmp 0), none⟩,
  ⟨some 15, .move (.tmp 1), none⟩,
  ⟨some 16, .call 17 [.tmp 14, .tmp 15], none⟩,
  ⟨some 13, .move (.tmp 16), none⟩,
  ⟨some 17, .extract (.tmp 13) 0, none⟩,
  ⟨some 18, .extract (.tmp 13) 1, none⟩,
  ⟨some 6, .move (.tmp 17), none⟩,
  ⟨some 7, .move (.tmp 18), none⟩])
 (.seq (.seq (.region [⟨some 19, .move (.tmp 7), none⟩,
  ⟨some 20, .bin .neq (.tmp 19) (.const (.int .i64 0)), none⟩])
 (.cond (.tmp 20) (.seq (.region [⟨some 21, .move (.tmp 7), none⟩,
  ⟨some 4, .move (.const (.slice none 0 0)), none⟩,
  ⟨some 5, .move (.tmp 21), none⟩])
 (.ret))
 (.skip)))
 (.seq (.region [⟨some 22, .move (.tmp 0), none⟩,
  ⟨some 23, .len (.tmp 22), none⟩,
  ⟨some 24, .conv .u64 (.tmp 23), none⟩,
  ⟨some 25, .call 35 [.tmp 24], none⟩,
  ⟨some 8, .move (.tmp 25), none⟩])
 (.seq (.seq (.region [⟨some 9, .move (.const (.int .i64 0)), none⟩])
 (.block 0 (.loop L19_2)))
 (.seq (.region [⟨some 93, .move (.tmp 8), none⟩,
  ⟨some 4, .move (.tmp 93), none⟩,
  ⟨some 5, .move (.const (.int .i64 0)), none⟩])
 (.ret))))))
theorem light19 : Light Try.prog 19 2 94 L19 [.tmp 4, .tmp 5] :=
  ⟨Try.f19, _, Try.func19, rfl, rfl, by kernel_rfl, by kernel_rfl, by decide⟩

/-! ### function 20: outrider/ins.Targets -/
def L20 : LCode :=
 .seq (.region [⟨some 4, .move (.const (.slice none 0 0)), none⟩])
 (.seq (.seq (.region [⟨some 9, .move (.tmp 1), none⟩,
  ⟨some 10, .bin .lss (.tmp 9) (.const (.int .i64 0)), none⟩,
  ⟨some 11, .move (.tmp 10), none⟩,
  ⟨some 12, .move (.tmp 1), (some (11, false))⟩,
  ⟨some 13, .move (.tmp 0), (some (11, false))⟩,
  ⟨some 14, .len (.tmp 13), (some (11, false))⟩,
  ⟨some 15, .bin .geq (.tmp 12) (.tmp 14), (some (11, false))⟩,
  ⟨some 16, .pick (.tmp 11) (.const (.bool true)) (.tmp 15), none⟩])
 (.cond (.tmp 16) (.seq (.region [⟨some 4, .move (.const (.slice none 0 0)), none⟩])
 (.ret))
 (.skip)))
 (.seq (.region [⟨some 17, .move (.tmp 0), none⟩,
  ⟨some 18, .move (.tmp 1), none⟩,
  ⟨some 19, .idx 6 (.tmp 17) (.tmp 18), none⟩,
  ⟨some 20, .load true 6 (.tmp 19), none⟩,
  ⟨some 5, .new 25 6 [.int .i64 0, .int .i64 0, .int .i64 0, .int .i64 0, .int .i64 0, .int .i64 0], none⟩,
  ⟨none, .store 6 (.tmp 5) (.tmp 20), none⟩])
 (.seq (.region [⟨some 6, .move (.const (.slice none 0 0)), none⟩])
 (.seq (.seq (.region [⟨some 21, .load true 6 (.tmp 5), none⟩,
  ⟨some 22, .call 13 [.tmp 21], none⟩,
  ⟨some 23, .move (.tmp 22), none⟩,
  ⟨some 24, .move (.tmp 1), (some (23, true))⟩,
  ⟨some 25, .bin .add (.tmp 24) (.const (.int .i64 1)), (some (23, true))⟩,
  ⟨some 26, .move (.tmp 0), (some (23, true))⟩,
  ⟨some 27, .len (.tmp 26), (some (23, true))⟩,
  ⟨some 28, .bin .lss (.tmp 25) (.tmp 27), (some (23, true))⟩,
  ⟨some 29, .pick (.tmp 23) (.tmp 28) (.const (.bool false)), none⟩])
 (.cond (.tmp 29) (.region [⟨some 30, .move (.tmp 6), none⟩,
  ⟨some 31, .move (.tmp 1), none⟩,
  ⟨some 32, .bin .add (.tmp 31) (.const (.int .i64 1)), none⟩,
  ⟨some 33, .buildSlice 3 1 1 [.int .i64 0] [(0, 1, .tmp 32)], none⟩,
  ⟨some 34, .append 3 1 8 (.tmp 30) (.tmp 33), none⟩,
  ⟨some 6, .move (.tmp 34), none⟩])
 (.skip)))
 (.seq (.region [⟨some 36, .off 0 (.tmp 5), none⟩,
  ⟨some 37, .load false 1 (.tmp 36), none⟩,
  ⟨some 38, .call 26 [.tmp 37], none⟩,
  ⟨some 35, .move (.tmp 38), none⟩,
  ⟨some 39, .extract (.tmp 35) 0, none⟩,
  ⟨some 40, .extract (.tmp 35) 1, none⟩,
  ⟨some 7, .new 53 8 [.bool false, .bool false, .bool false, .bool false, .bool false, .bool false, .bool false, .bool false], none⟩,
  ⟨none, .store 8 (.tmp 7) (.tmp 39), none⟩,
  ⟨some 8, .move (.tmp 40), none⟩])
 (.seq (.seq (.draw [⟨⟨some 41, .off 5 (.tmp 7), none⟩, .pure, 0, 0⟩,
  ⟨⟨some 42, .load false 1 (.tmp 41), none⟩, .read, 0, 0⟩,
  ⟨⟨some 43, .un .not (.tmp 42), none⟩, .pure, 0, 0⟩,
  ⟨⟨some 44, .move (.tmp 43), none⟩, .pure, 0, 0⟩,
  ⟨⟨some 45, .off 5 (.tmp 5), (some (44, false))⟩, .pure, 0, 0⟩,
  ⟨⟨some 46, .load false 1 (.tmp 45), (some (44, false))⟩, .read, 0, 0⟩,
  ⟨⟨some 47, .bin .lss (.tmp 46) (.const (.int .i64 0)), (some (44, false))⟩, .pure, 0, 0⟩,
  ⟨⟨some 48, .pick (.tmp 44) (.const (.bool true)) (.tmp 47), none⟩, .pure, 0, 0⟩,
  ⟨⟨some 49, .move (.tmp 48), none⟩, .pure, 0, 0⟩,
  ⟨⟨some 50, .off 5 (.tmp 5), (some (49, false))⟩, .pure, 0, 0⟩,
  ⟨⟨some 51, .load false 1 (.tmp 50), (some (49, false))⟩, .read, 0, 0⟩,
  ⟨⟨some 52, .move (.tmp 0), (some (49, false))⟩, .pure, 0, 0⟩,
  ⟨⟨some 53, .len (.tmp 52), (some (49, false))⟩, .pure, 0, 0⟩,
  ⟨⟨some 54, .bin .geq (.tmp 51) (.tmp 53), (some (49, false))⟩, .pure, 0, 0⟩,
  ⟨⟨some 55, .pick (.tmp 49) (.const (.bool true)) (.tmp 54), none⟩, .pure, 0, 0⟩,
  ⟨⟨some 56, .move (.tmp 55), none⟩, .pure, 0, 0⟩,
  ⟨⟨some 57, .move (.tmp 6), (some (56, false))⟩, .pure, 0, 0⟩,
  ⟨⟨some 58, .len (.tmp 57), (some (56, false))⟩, .pure, 0, 0⟩,
  ⟨⟨some 59, .bin .eql (.tmp 58) (.const (.int .i64 1)), (some (56, false))⟩, .pure, 0, 0⟩,
  ⟨⟨some 60, .move (.tmp 59), (some (56, false))⟩, .pure, 0, 0⟩,
  ⟨⟨some 61, .move (.tmp 6), (some (60, true))⟩, .pure, 0, 0⟩,
  ⟨⟨some 62, .idx 1 (.tmp 61) (.const (.int .i64 0)), (some (60, true))⟩, .pure, 0, 0⟩,
  ⟨⟨some 63, .load false 1 (.tmp 62), (some (60, true))⟩, .read, 0, 0⟩,
  ⟨⟨some 64, .off 5 (.tmp 5), (some (60, true))⟩, .pure, 0, 0⟩,
  ⟨⟨some 65, .load false 1 (.tmp 64), (some (60, true))⟩, .read, 0, 0⟩,
  ⟨⟨some 66, .bin .eql (.tmp 63) (.tmp 65), (some (60, true))⟩, .pure, 0, 0⟩,
  ⟨⟨some 67, .pick (.tmp 60) (.tmp 66) (.const (.bool false)), (some (56, false))⟩, .pure, 0, 0⟩,
  ⟨⟨some 68, .pick (.tmp 56) (.const (.bool true)) (.tmp 67), none⟩, .pure, 0, 0⟩])
 (.cond (.tmp 68) (.seq (.region [⟨some 69, .move (.tmp 6), none⟩,
  ⟨some 4, .move (.tmp 69), none⟩])
 (.ret))
 (.skip)))
 (.seq (.seq (.draw [⟨⟨some 70, .move (.tmp 6), none⟩, .pure, 0, 0⟩,
  ⟨⟨some 71, .len (.tmp 70), none⟩, .pure, 0, 0⟩,
  ⟨⟨some 72, .bin .eql (.tmp 71) (.const (.int .i64 1)), none⟩, .pure, 0, 0⟩,
  ⟨⟨some 73, .move (.tmp 72), none⟩, .pure, 0, 0⟩,
  ⟨⟨some 74, .move (.tmp 6), (some (73, true))⟩, .pure, 0, 0⟩,
  ⟨⟨some 75, .idx 1 (.tmp 74) (.const (.int .i64 0)), (some (73, true))⟩, .pure, 0, 0⟩,
  ⟨⟨some 76, .load false 1 (.tmp 75), (some (73, true))⟩, .read, 0, 0⟩,
  ⟨⟨some 77, .off 5 (.tmp 5), (some (73, true))⟩, .pure, 0, 0⟩,
  ⟨⟨some 78, .load false 1 (.tmp 77), (some (73, true))⟩, .read, 0, 0⟩,
  ⟨⟨some 79, .bin .gtr (.tmp 76) (.tmp 78), (some (73, true))⟩, .pure, 0, 0⟩,
  ⟨⟨some 80, .pick (.tmp 73) (.tmp 79) (.const (.bool false)), none⟩, .pure, 0, 0⟩])
 (.cond (.tmp 80) (.seq (.draw [⟨⟨some 81, .off 5 (.tmp 5), none⟩, .pure, 0, 0⟩,
  ⟨⟨some 82, .load false 1 (.tmp 81), none⟩, .read, 0, 0⟩,
  ⟨⟨some 83, .move (.tmp 6), none⟩, .pure, 0, 0⟩,
  ⟨⟨some 84, .idx 1 (.tmp 83) (.const (.int .i64 0)), none⟩, .pure, 0, 0⟩,
  ⟨⟨some 85, .load false 1 (.tmp 84), none⟩, .read, 0, 0⟩,
  ⟨⟨some 86, .buildSlice 3 1 2 [.int .i64 0] [(0, 1, .tmp 82), (1, 1, .tmp 85)], none⟩, .heavy, 0, 1⟩,
  ⟨⟨some 4, .move (.tmp 86), none⟩, .pure, 1, 1⟩])
 (.ret))
 (.skip)))
 (.seq (.region [⟨some 87, .move (.tmp 6), none⟩,
  ⟨some 88, .off 5 (.tmp 5), none⟩,
  ⟨some 89, .load false 1 (.tmp 88), none⟩,
  ⟨some 90, .buildSlice 3 1 1 [.int .i64 0] [(0, 1, .tmp 89)], none⟩,
  ⟨some 91, .append 3 1 8 (.tmp 87) (.tmp 90), none⟩,
  ⟨some 4, .move (.tmp 91), none⟩])
 (.ret)))))))))
theorem light20 : Light Try.prog 20 2 92 L20 [.tmp 4] :=
  ⟨Try.f20, _, Try.func20, rfl, rfl, by kernel_rfl, by kernel_rfl, by decide⟩

/-! ### function 21: outrider/outriderref08.Targets -/
def L21_1 : LCode :=
 .seq (.seq (.region [⟨some 18, .move (.tmp 6), none⟩,
  ⟨some 19, .move (.tmp 0), none⟩,
  ⟨some 20, .len (.tmp 19), none⟩,
  ⟨some 21, .bin .lss (.tmp 18) (.tmp 20), none⟩])
 (.cond (.tmp 21) (.skip)
 (.exit 0)))
 (.seq (.block 1 (.seq (.region [⟨some 24, .move (.tmp 6), none⟩,
  ⟨some 25, .move (.tmp 1), none⟩,
  ⟨some 26, .bin .add (.tmp 25) (.const (.int .i64 1)), none⟩,
  ⟨some 27, .bin .eql (.tmp 24) (.tmp 26), none⟩,
  ⟨some 28, .move (.tmp 27), none⟩,
  ⟨some 29, .move (.tmp 0), (some (28, true))⟩,
  ⟨some 30, .move (.tmp 1), (some (28, true))⟩,
  ⟨some 31, .idx 6 (.tmp 29) (.tmp 30), (some (28, true))⟩,
  ⟨some 32, .load true 6 (.tmp 31), (some (28, true))⟩,
  ⟨some 33, .call 14 [.tmp 32], (some (28, true))⟩,
  ⟨some 34, .pick (.tmp 28) (.tmp 33) (.const (.bool false)), none⟩,
  ⟨some 7, .move (.tmp 34), none⟩])
 (.seq (.region [⟨some 35, .move (.tmp 0), none⟩,
  ⟨some 36, .move (.tmp 1), none⟩,
  ⟨some 37, .idx 6 (.tmp 35) (.tmp 36), none⟩,
  ⟨some 38, .off 0 (.tmp 37), none⟩,
  ⟨some 39, .load false 1 (.tmp 38), none⟩,
  ⟨some 40, .call 28 [.tmp 39], none⟩,
  ⟨some 41, .call 29 [.tmp 40, .const (.int .u8 116)], none⟩,
  ⟨some 42, .move (.tmp 41), none⟩,
  ⟨some 43, .move (.tmp 0), (some (42, true))⟩,
  ⟨some 44, .move (.tmp 1), (some (42, true))⟩,
  ⟨some 45, .idx 6 (.tmp 43) (.tmp 44), (some (42, true))⟩,
  ⟨some 46, .off 5 (.tmp 45), (some (42, true))⟩,
  ⟨some 47, .load false 1 (.tmp 46), (some (42, true))⟩,
  ⟨some 48, .move (.tmp 6), (some (42, true))⟩,
  ⟨some 49, .bin .eql (.tmp 47) (.tmp 48), (some (42, true))⟩,
  ⟨some 50, .pick (.tmp 42) (.tmp 49) (.const (.bool false)), none⟩,
  ⟨some 8, .move (.tmp 50), none⟩])
 (.seq (.region [⟨some 51, .move (.tmp 7), none⟩,
  ⟨some 52, .move (.tmp 51), none⟩,
  ⟨some 53, .move (.tmp 8), (some (52, false))⟩,
  ⟨some 54, .pick (.tmp 52) (.const (.bool true)) (.tmp 53), none⟩])
 (.cond (.tmp 54) (.region [⟨some 55, .move (.tmp 5), none⟩,
  ⟨some 56, .move (.tmp 6), none⟩,
  ⟨some 57, .buildSlice 3 1 1 [.int .i64 0] [(0, 1, .tmp 56)], none⟩,
  ⟨some 58, .append 3 1 8 (.tmp 55) (.tmp 57), none⟩,
  ⟨some 5, .move (.tmp 58), none⟩])
 (.skip))))))
 (.region [⟨some 22, .move (.tmp 6), none⟩,
  ⟨some 23, .bin .add (.tmp 22) (.const (.int .i64 1)), none⟩,
  ⟨some 6, .move (.tmp 23), none⟩]))
def L21 : LCode :=
 .seq (.region [⟨some 4, .move (.const (.slice none 0 0)), none⟩])
 (.seq (.region [⟨some 5, .move (.const (.slice none 0 0)), none⟩])
 (.seq (.seq (.region [⟨some 9, .move (.tmp 1), none⟩,
  ⟨some 10, .bin .lss (.tmp 9) (.const (.int .i64 0)), none⟩,
  ⟨some 11, .move (.tmp 10), none⟩,
  ⟨some 12, .move (.tmp 1), (some (11, false))⟩,
  ⟨some 13, .move (.tmp 0), (some (11, false))⟩,
  ⟨some 14, .len (.tmp 13), (some (11, false))⟩,
  ⟨some 15, .bin .geq (.tmp 12) (.tmp 14), (some (11, false))⟩,
  ⟨some 16, .pick (.tmp 11) (.const (.bool true)) (.tmp 15), none⟩])
 (.cond (.tmp 16) (.seq (.region [⟨some 17, .move (.tmp 5), none⟩,
  ⟨some 4, .move (.tmp 17), none⟩])
 (.ret))
 (.skip)))
 (.seq (.seq (.region [⟨some 6, .move (.const (.int .i64 0)), none⟩])
 (.block 0 (.loop L21_1)))
 (.seq (.region [⟨some 59, .move (.tmp 5), none⟩,
  ⟨some 4, .move (.tmp 59), none⟩])
 (.ret)))))
theorem light21 : Light Try.prog 21 2 60 L21 [.tmp 4] :=
  ⟨Try.f21, _, Try.func21, rfl, rfl, by kernel_rfl, by kernel_rfl, by decide⟩

/-! ### function 22: outrider/ins.Decode -/
def L22_1 : LCode :=
 .seq (.region [⟨some 69, .bin .lss (.tmp 68) (.tmp 67), none⟩])
 (.seq (.cond (.tmp 69) (.skip)
 (.exit 2))
 (.seq (.block 3 (.seq (.region [⟨some 70, .idx 2 (.tmp 66) (.tmp 68), none⟩,
  ⟨some 71, .load true 2 (.tmp 70), none⟩,
  ⟨some 14, .new 76 2 [.bool false, .pointer none], none⟩,
  ⟨none, .store 2 (.tmp 14) (.tmp 71), none⟩])
 (.seq (.region [⟨some 72, .off 0 (.tmp 14), none⟩,
  ⟨some 73, .load false 1 (.tmp 72), none⟩])
 (.cond (.tmp 73) (.draw [⟨⟨some 74, .off 1 (.tmp 14), none⟩, .pure, 0, 1⟩,
  ⟨⟨some 75, .load false 1 (.tmp 74), none⟩, .read, 0, 1⟩,
  ⟨⟨some 76, .move (.tmp 6), none⟩, .pure, 0, 0⟩,
  ⟨⟨some 77, .call 39 [.tmp 76], none⟩, .heavy, 0, 1⟩,
  ⟨⟨some 78, .nilCheck (.tmp 75), none⟩, .pure, 1, 1⟩,
  ⟨⟨none, .store 1 (.tmp 78) (.tmp 77), none⟩, .heavy, 1, 2⟩])
 (.skip)))))
 (.region [⟨some 79, .bin .add (.tmp 68) (.const (.int .i64 1)), none⟩,
  ⟨some 68, .move (.tmp 79), none⟩])))
def L22_2 : LCode :=
 .seq (.region [⟨some 24, .bin .lss (.tmp 23) (.tmp 22), none⟩])
 (.seq (.cond (.tmp 24) (.skip)
 (.exit 0))
 (.seq (.block 1 (.seq (.region [⟨some 25, .move (.tmp 6), none⟩,
  ⟨some 26, .call 39 [.tmp 25], none⟩,
  ⟨some 27, .build [.int .i64 0, .int .i64 0, .int .i64 0, .int .i64 0, .int .i64 0, .int .i64 0] [(0, 1, .tmp 26)], none⟩,
  ⟨some 9, .new 25 6 [.int .i64 0, .int .i64 0, .int .i64 0, .int .i64 0, .int .i64 0, .int .i64 0], none⟩,
  ⟨none, .store 6 (.tmp 9) (.tmp 27), none⟩])
 (.seq (.region [⟨some 29, .off 0 (.tmp 9), none⟩,
  ⟨some 30, .load false 1 (.tmp 29), none⟩,
  ⟨some 31, .call 26 [.tmp 30], none⟩,
  ⟨some 28, .move (.tmp 31), none⟩,
  ⟨some 32, .extract (.tmp 28) 0, none⟩,
  ⟨some 33, .extract (.tmp 28) 1, none⟩,
  ⟨some 10, .new 53 8 [.bool false, .bool false, .bool false, .bool false, .bool false, .bool false, .bool false, .bool false], none⟩,
  ⟨none, .store 8 (.tmp 10) (.tmp 32), none⟩,
  ⟨some 11, .move (.tmp 33), none⟩])
 (.seq (.seq (.region [⟨some 34, .move (.tmp 6), none⟩,
  ⟨some 35, .call 40 [.tmp 34], none⟩,
  ⟨some 12, .move (.tmp 35), none⟩])
 (.seq (.region [⟨some 36, .move (.tmp 12), none⟩,
  ⟨some 37, .bin .neq (.tmp 36) (.const (.int .i64 0)), none⟩])
 (.cond (.tmp 37) (.seq (.region [⟨some 38, .move (.tmp 12), none⟩,
  ⟨some 4, .move (.const (.slice none 0 0)), none⟩,
  ⟨some 5, .move (.tmp 38), none⟩])
 (.ret))
 (.skip))))
 (.seq (.seq (.region [⟨some 39, .move (.tmp 11), none⟩,
  ⟨some 40, .un .not (.tmp 39), none⟩])
 (.cond (.tmp 40) (.seq (.region [⟨some 4, .move (.const (.slice none 0 0)), none⟩,
  ⟨some 5, .move (.const (.int .i64 21)), none⟩])
 (.ret))
 (.skip)))
 (.seq (.seq (.region [⟨some 41, .off 6 (.tmp 10), none⟩,
  ⟨some 42, .load false 1 (.tmp 41), none⟩,
  ⟨some 43, .move (.tmp 42), none⟩,
  ⟨some 44, .off 7 (.tmp 10), (some (43, false))⟩,
  ⟨some 45, .load false 1 (.tmp 44), (some (43, false))⟩,
  ⟨some 46, .pick (.tmp 43) (.const (.bool true)) (.tmp 45), none⟩])
 (.cond (.tmp 46) (.region [⟨some 47, .move (.tmp 6), none⟩,
  ⟨some 48, .call 39 [.tmp 47], none⟩,
  ⟨some 49, .off 1 (.tmp 9), none⟩,
  ⟨none, .store 1 (.tmp 49) (.tmp 48), none⟩])
 (.skip)))
 (.seq (.seq (.region [⟨some 50, .off 0 (.tmp 10), none⟩,
  ⟨some 51, .load false 1 (.tmp 50), none⟩,
  ⟨some 52, .off 2 (.tmp 9), none⟩,
  ⟨some 53, .build [.bool false, .pointer none] [(0, 1, .tmp 51), (1, 1, .tmp 52)], none⟩,
  ⟨some 54, .off 1 (.tmp 10), none⟩,
  ⟨some 55, .load false 1 (.tmp 54), none⟩,
  ⟨some 56, .off 3 (.tmp 9), none⟩,
  ⟨some 57, .build [.bool false, .pointer none] [(0, 1, .tmp 55), (1, 1, .tmp 56)], none⟩,
  ⟨some 58, .off 2 (.tmp 10), none⟩,
  ⟨some 59, .load false 1 (.tmp 58), none⟩,
  ⟨some 60, .move (.tmp 59), none⟩,
  ⟨some 61, .off 3 (.tmp 10), (some (60, false))⟩,
  ⟨some 62, .load false 1 (.tmp 61), (some (60, false))⟩,
  ⟨some 63, .pick (.tmp 60) (.const (.bool true)) (.tmp 62), none⟩,
  ⟨some 64, .off 4 (.tmp 9), none⟩,
  ⟨some 65, .build [.bool false, .pointer none] [(0, 1, .tmp 63), (1, 1, .tmp 64)], none⟩,
  ⟨some 66, .buildSlice 76 2 3 [.bool false, .pointer none] [(0, 2, .tmp 53), (2, 2, .tmp 57), (4, 2, .tmp 65)], none⟩,
  ⟨some 67, .len (.tmp 66), none⟩,
  ⟨some 68, .move (.const (.int .i64 0)), none⟩])
 (.block 2 (.loop L22_1)))
 (.seq (.seq (.region [⟨some 80, .off 4 (.tmp 10), none⟩,
  ⟨some 81, .load false 1 (.tmp 80), none⟩])
 (.cond (.tmp 81) (.region [⟨some 82, .move (.tmp 6), none⟩,
  ⟨some 83, .call 41 [.tmp 82], none⟩,
  ⟨some 84, .off 5 (.tmp 9), none⟩,
  ⟨none, .store 1 (.tmp 84) (.tmp 83), none⟩])
 (.skip)))
 (.region [⟨some 85, .move (.tmp 8), none⟩,
  ⟨some 86, .load true 6 (.tmp 9), none⟩,
  ⟨some 87, .buildSlice 25 6 1 [.int .i64 0, .int .i64 0, .int .i64 0, .int .i64 0, .int .i64 0, .int .i64 0] [(0, 6, .tmp 86)], none⟩,
  ⟨some 88, .append 25 6 48 (.tmp 85) (.tmp 87), none⟩,
  ⟨some 8, .move (.tmp 88), none⟩])))))))))
 (.region [⟨some 89, .bin .add (.tmp 23) (.const (.int .i64 1)), none⟩,
  ⟨some 23, .move (.tmp 89), none⟩])))
def L22 : LCode :=
 .seq (.region [⟨some 4, .move (.const (.slice none 0 0)), none⟩,
  ⟨some 5, .move (.const (.int .i64 0)), none⟩])
 (.seq (.region [⟨some 18, .move (.tmp 0), none⟩,
  ⟨some 19, .call 37 [.tmp 18], none⟩,
  ⟨some 6, .move (.tmp 19), none⟩])
 (.seq (.region [⟨some 20, .move (.tmp 6), none⟩,
  ⟨some 21, .call 38 [.tmp 20, .const (.int .i64 1)], none⟩,
  ⟨some 7, .move (.tmp 21), none⟩])
 (.seq (.region [⟨some 8, .move (.const (.slice none 0 0)), none⟩])
 (.seq (.seq (.region [⟨some 22, .move (.tmp 7), none⟩,
  ⟨some 23, .move (.const (.int .i64 0)), none⟩])
 (.block 0 (.loop L22_2)))
 (.seq (.seq (.region [⟨some 90, .move (.tmp 6), none⟩,
  ⟨some 91, .call 42 [.tmp 90], none⟩,
  ⟨some 15, .move (.tmp 91), none⟩])
 (.seq (.region [⟨some 92, .move (.tmp 15), none⟩,
  ⟨some 93, .bin .neq (.tmp 92) (.const (.int .i64 0)), none⟩])
 (.cond (.tmp 93) (.seq (.region [⟨some 94, .move (.tmp 15), none⟩,
  ⟨some 4, .move (.const (.slice none 0 0)), none⟩,
  ⟨some 5, .move (.tmp 94), none⟩])
 (.ret))
 (.skip))))
 (.seq (.seq (.region [⟨some 96, .move (.tmp 8), none⟩,
  ⟨some 97, .move (.tmp 1), none⟩,
  ⟨some 98, .call 16 [.tmp 96, .tmp 97], none⟩,
  ⟨some 95, .move (.tmp 98), none⟩,
  ⟨some 99, .extract (.tmp 95) 0, none⟩,
  ⟨some 100, .extract (.tmp 95) 1, none⟩,
  ⟨some 16, .move (.tmp 99), none⟩,
  ⟨some 17, .move (.tmp 100), none⟩])
 (.seq (.region [⟨some 101, .move (.tmp 17), none⟩,
  ⟨some 102, .bin .neq (.tmp 101) (.const (.int .i64 0)), none⟩])
 (.cond (.tmp 102) (.seq (.region [⟨some 103, .move (.tmp 17), none⟩,
  ⟨some 4, .move (.const (.slice none 0 0)), none⟩,
  ⟨some 5, .move (.tmp 103), none⟩])
 (.ret))
 (.skip))))
 (.seq (.region [⟨some 104, .move (.tmp 8), none⟩,
  ⟨some 4, .move (.tmp 104), none⟩,
  ⟨some 5, .move (.const (.int .i64 0)), none⟩])
 (.ret))))))))
theorem light22 : Light Try.prog 22 2 105 L22 [.tmp 4, .tmp 5] :=
  ⟨Try.f22, _, Try.func22, rfl, rfl, by kernel_rfl, by kernel_rfl, by decide⟩

/-! ### function 23: outrider/outriderref08.Decode -/
def L23_1 : LCode :=
 .seq (.seq (.region [⟨some 20, .move (.tmp 9), none⟩,
  ⟨some 21, .move (.tmp 7), none⟩,
  ⟨some 22, .bin .lss (.tmp 20) (.tmp 21), none⟩,
  ⟨some 23, .move (.tmp 22), none⟩,
  ⟨some 24, .off 1 (.tmp 6), (some (23, true))⟩,
  ⟨some 25, .load false 1 (.tmp 24), (some (23, true))⟩,
  ⟨some 26, .bin .eql (.tmp 25) (.const (.int .i64 0)), (some (23, true))⟩,
  ⟨some 27, .pick (.tmp 23) (.tmp 26) (.const (.bool false)), none⟩])
 (.cond (.tmp 27) (.skip)
 (.exit 0)))
 (.seq (.block 1 (.seq (.region [⟨some 10, .move (.const (.int .i64 0)), none⟩])
 (.seq (.region [⟨some 31, .load true 2 (.tmp 6), none⟩,
  ⟨some 32, .call 44 [.tmp 31], none⟩,
  ⟨some 30, .move (.tmp 32), none⟩,
  ⟨some 33, .extract (.tmp 30) 0, none⟩,
  ⟨some 34, .extract (.tmp 30) 1, none⟩,
  ⟨none, .store 2 (.tmp 6) (.tmp 33), none⟩,
  ⟨some 10, .move (.tmp 34), none⟩])
 (.seq (.seq (.region [⟨some 35, .off 1 (.tmp 6), none⟩,
  ⟨some 36, .load false 1 (.tmp 35), none⟩,
  ⟨some 37, .bin .neq (.tmp 36) (.const (.int .i64 0)), none⟩])
 (.cond (.tmp 37) (.exit 0)
 (.skip)))
 (.seq (.region [⟨some 38, .move (.tmp 10), none⟩,
  ⟨some 39, .build [.int .i64 0, .int .i64 0, .int .i64 0, .int .i64 0, .int .i64 0, .int .i64 0] [(0, 1, .tmp 38)], none⟩,
  ⟨some 11, .new 25 6 [.int .i64 0, .int .i64 0, .int .i64 0, .int .i64 0, .int .i64 0, .int .i64 0], none⟩,
  ⟨none, .store 6 (.tmp 11) (.tmp 39), none⟩])
 (.seq (.seq (.region [⟨some 40, .off 0 (.tmp 11), none⟩,
  ⟨some 41, .load false 1 (.tmp 40), none⟩,
  ⟨some 42, .call 28 [.tmp 41], none⟩,
  ⟨some 43, .bin .eql (.tmp 42) (.const (.string ⟨#[63]⟩)), none⟩])
 (.cond (.tmp 43) (.seq (.region [⟨some 4, .move (.const (.slice none 0 0)), none⟩,
  ⟨some 5, .move (.const (.int .i64 21)), none⟩])
 (.ret))
 (.skip)))
 (.seq (.region [⟨some 45, .load true 2 (.tmp 6), none⟩,
  ⟨some 46, .load true 6 (.tmp 11), none⟩,
  ⟨some 47, .call 45 [.tmp 45, .tmp 46], none⟩,
  ⟨some 44, .move (.tmp 47), none⟩,
  ⟨some 48, .extract (.tmp 44) 0, none⟩,
  ⟨some 49, .extract (.tmp 44) 1, none⟩,
  ⟨none, .store 2 (.tmp 6) (.tmp 48), none⟩,
  ⟨none, .store 6 (.tmp 11) (.tmp 49), none⟩])
 (.region [⟨some 50, .move (.tmp 8), none⟩,
  ⟨some 51, .load true 6 (.tmp 11), none⟩,
  ⟨some 52, .buildSlice 25 6 1 [.int .i64 0, .int .i64 0, .int .i64 0, .int .i64 0, .int .i64 0, .int .i64 0] [(0, 6, .tmp 51)], none⟩,
  ⟨some 53, .append 25 6 48 (.tmp 50) (.tmp 52), none⟩,
  ⟨some 8, .move (.tmp 53), none⟩]))))))))
 (.region [⟨some 28, .move (.tmp 9), none⟩,
  ⟨some 29, .bin .add (.tmp 28) (.const (.int .i64 1)), none⟩,
  ⟨some 9, .move (.tmp 29), none⟩]))
def L23 : LCode :=
 .seq (.region [⟨some 4, .move (.const (.slice none 0 0)), none⟩,
  ⟨some 5, .move (.const (.int .i64 0)), none⟩])
 (.seq (.region [⟨some 15, .move (.tmp 0), none⟩,
  ⟨some 16, .build [.slice none 0 0, .int .i64 0] [(0, 1, .tmp 15)], none⟩,
  ⟨some 17, .call 43 [.tmp 16, .const (.int .i64 1)], none⟩,
  ⟨some 14, .move (.tmp 17), none⟩,
  ⟨some 18, .extract (.tmp 14) 0, none⟩,
  ⟨some 19, .extract (.tmp 14) 1, none⟩,
  ⟨some 6, .new 80 2 [.slice none 0 0, .int .i64 0], none⟩,
  ⟨none, .store 2 (.tmp 6) (.tmp 18), none⟩,
  ⟨some 7, .move (.tmp 19), none⟩])
 (.seq (.region [⟨some 8, .move (.const (.slice none 0 0)), none⟩])
 (.seq (.seq (.region [⟨some 9, .move (.const (.int .i64 0)), none⟩])
 (.block 0 (.loop L23_1)))
 (.seq (.seq (.region [⟨some 54, .load true 2 (.tmp 6), none⟩,
  ⟨some 55, .call 46 [.tmp 54], none⟩,
  ⟨some 56, .bin .neq (.tmp 55) (.const (.int .i64 0)), none⟩])
 (.cond (.tmp 56) (.seq (.region [⟨some 57, .load true 2 (.tmp 6), none⟩,
  ⟨some 58, .call 46 [.tmp 57], none⟩,
  ⟨some 4, .move (.const (.slice none 0 0)), none⟩,
  ⟨some 5, .move (.tmp 58), none⟩])
 (.ret))
 (.skip)))
 (.seq (.region [⟨some 60, .move (.tmp 8), none⟩,
  ⟨some 61, .move (.tmp 1), none⟩,
  ⟨some 62, .call 17 [.tmp 60, .tmp 61], none⟩,
  ⟨some 59, .move (.tmp 62), none⟩,
  ⟨some 63, .extract (.tmp 59) 0, none⟩,
  ⟨some 64, .extract (.tmp 59) 1, none⟩,
  ⟨some 12, .move (.tmp 63), none⟩,
  ⟨some 13, .move (.tmp 64), none⟩])
 (.seq (.seq (.region [⟨some 65, .move (.tmp 13), none⟩,
  ⟨some 66, .bin .neq (.tmp 65) (.const (.int .i64 0)), none⟩])
 (.cond (.tmp 66) (.seq (.region [⟨some 67, .move (.tmp 13), none⟩,
  ⟨some 4, .move (.const (.slice none 0 0)), none⟩,
  ⟨some 5, .move (.tmp 67), none⟩])
 (.ret))
 (.skip)))
 (.seq (.region [⟨some 68, .move (.tmp 8), none⟩,
  ⟨some 4, .move (.tmp 68), none⟩,
  ⟨some 5, .move (.const (.int .i64 0)), none⟩])
 (.ret))))))))
theorem light23 : Light Try.prog 23 2 69 L23 [.tmp 4, .tmp 5] :=
  ⟨Try.f23, _, Try.func23, rfl, rfl, by kernel_rfl, by kernel_rfl, by decide⟩

/-! ### function 24: outrider/outriderref08.Same -/
def L24_1 : LCode :=
 .seq (.seq (.region [⟨some 11, .move (.tmp 5), none⟩,
  ⟨some 12, .move (.tmp 0), none⟩,
  ⟨some 13, .len (.tmp 12), none⟩,
  ⟨some 14, .bin .lss (.tmp 11) (.tmp 13), none⟩])
 (.cond (.tmp 14) (.skip)
 (.exit 0)))
 (.seq (.block 1 (.seq (.draw [⟨⟨some 17, .move (.tmp 0), none⟩, .pure, 0, 0⟩,
  ⟨⟨some 18, .move (.tmp 5), none⟩, .pure, 0, 0⟩,
  ⟨⟨some 19, .idx 6 (.tmp 17) (.tmp 18), none⟩, .pure, 0, 0⟩,
  ⟨⟨some 20, .load true 6 (.tmp 19), none⟩, .read, 0, 0⟩,
  ⟨⟨some 21, .move (.tmp 1), none⟩, .pure, 0, 0⟩,
  ⟨⟨some 22, .move (.tmp 5), none⟩, .pure, 0, 0⟩,
  ⟨⟨some 23, .idx 6 (.tmp 21) (.tmp 22), none⟩, .pure, 0, 0⟩,
  ⟨⟨some 24, .load true 6 (.tmp 23), none⟩, .read, 0, 0⟩,
  ⟨⟨some 25, .eqR true 25 (.tmp 20) (.tmp 24), none⟩, .pure, 0, 0⟩])
 (.cond (.tmp 25) (.seq (.region [⟨some 4, .move (.const (.bool false)), none⟩])
 (.ret))
 (.skip))))
 (.region [⟨some 15, .move (.tmp 5), none⟩,
  ⟨some 16, .bin .add (.tmp 15) (.const (.int .i64 1)), none⟩,
  ⟨some 5, .move (.tmp 16), none⟩]))
def L24 : LCode :=
 .seq (.region [⟨some 4, .move (.const (.bool false)), none⟩])
 (.seq (.seq (.region [⟨some 6, .move (.tmp 0), none⟩,
  ⟨some 7, .len (.tmp 6), none⟩,
  ⟨some 8, .move (.tmp 1), none⟩,
  ⟨some 9, .len (.tmp 8), none⟩,
  ⟨some 10, .bin .neq (.tmp 7) (.tmp 9), none⟩])
 (.cond (.tmp 10) (.seq (.region [⟨some 4, .move (.const (.bool false)), none⟩])
 (.ret))
 (.skip)))
 (.seq (.seq (.region [⟨some 5, .move (.const (.int .i64 0)), none⟩])
 (.block 0 (.loop L24_1)))
 (.seq (.region [⟨some 4, .move (.const (.bool true)), none⟩])
 (.ret))))
theorem light24 : Light Try.prog 24 2 26 L24 [.tmp 4] :=
  ⟨Try.f24, _, Try.func24, rfl, rfl, by kernel_rfl, by kernel_rfl, by decide⟩

/-! ### function 25: outrider/ins.Same -/
def L25_1 : LCode :=
 .seq (.region [⟨some 15, .bin .lss (.tmp 14) (.tmp 13), none⟩])
 (.seq (.cond (.tmp 15) (.skip)
 (.exit 0))
 (.seq (.block 1 (.seq (.region [⟨some 16, .move (.tmp 14), none⟩,
  ⟨some 17, .idx 6 (.tmp 12) (.tmp 14), none⟩,
  ⟨some 18, .load true 6 (.tmp 17), none⟩,
  ⟨some 6, .new 25 6 [.int .i64 0, .int .i64 0, .int .i64 0, .int .i64 0, .int .i64 0, .int .i64 0], none⟩,
  ⟨some 5, .move (.tmp 16), none⟩,
  ⟨none, .store 6 (.tmp 6) (.tmp 18), none⟩])
 (.seq (.draw [⟨⟨some 19, .load true 6 (.tmp 6), none⟩, .read, 0, 0⟩,
  ⟨⟨some 20, .move (.tmp 1), none⟩, .pure, 0, 0⟩,
  ⟨⟨some 21, .move (.tmp 5), none⟩, .pure, 0, 0⟩,
  ⟨⟨some 22, .idx 6 (.tmp 20) (.tmp 21), none⟩, .pure, 0, 0⟩,
  ⟨⟨some 23, .load true 6 (.tmp 22), none⟩, .read, 0, 0⟩,
  ⟨⟨some 24, .eqR true 25 (.tmp 19) (.tmp 23), none⟩, .pure, 0, 0⟩])
 (.cond (.tmp 24) (.seq (.region [⟨some 4, .move (.const (.bool false)), none⟩])
 (.ret))
 (.skip)))))
 (.region [⟨some 25, .bin .add (.tmp 14) (.const (.int .i64 1)), none⟩,
  ⟨some 14, .move (.tmp 25), none⟩])))
def L25 : LCode :=
 .seq (.region [⟨some 4, .move (.const (.bool false)), none⟩])
 (.seq (.seq (.region [⟨some 7, .move (.tmp 0), none⟩,
  ⟨some 8, .len (.tmp 7), none⟩,
  ⟨some 9, .move (.tmp 1), none⟩,
  ⟨some 10, .len (.tmp 9), none⟩,
  ⟨some 11, .bin .neq (.tmp 8) (.tmp 10), none⟩])
 (.cond (.tmp 11) (.seq (.region [⟨some 4, .move (.const (.bool false)), none⟩])
 (.ret))
 (.skip)))
 (.seq (.seq (.region [⟨some 12, .move (.tmp 0), none⟩,
  ⟨some 13, .len (.tmp 12), none⟩,
  ⟨some 14, .move (.const (.int .i64 0)), none⟩])
 (.block 0 (.loop L25_1)))
 (.seq (.region [⟨some 4, .move (.const (.bool true)), none⟩])
 (.ret))))
theorem light25 : Light Try.prog 25 2 26 L25 [.tmp 4] :=
  ⟨Try.f25, _, Try.func25, rfl, rfl, by kernel_rfl, by kernel_rfl, by decide⟩

/-! ### function 26: outrider/ins.shapeOf -/
def L26 : LCode :=
 .seq (.region [⟨some 2, .new 53 8 [.bool false, .bool false, .bool false, .bool false, .bool false, .bool false, .bool false, .bool false], none⟩,
  ⟨some 3, .move (.const (.bool false)), none⟩])
 (.seq (.seq (.region [⟨some 4, .move (.tmp 0), none⟩])
 (.block 0 (.seq (.region [⟨some 6, .bin .eql (.tmp 4) (.const (.int .i64 1)), none⟩,
  ⟨some 5, .move (.tmp 6), none⟩])
 (.cond (.tmp 5) (.seq (.region [⟨some 7, .build [.bool false, .bool false, .bool false, .bool false, .bool false, .bool false, .bool false, .bool false] [], none⟩,
  ⟨none, .store 8 (.tmp 2) (.tmp 7), none⟩,
  ⟨some 3, .move (.const (.bool true)), none⟩])
 (.ret))
 (.seq (.region [⟨some 9, .bin .eql (.tmp 4) (.const (.int .i64 2)), none⟩,
  ⟨some 8, .move (.tmp 9), none⟩])
 (.cond (.tmp 8) (.seq (.region [⟨some 10, .build [.bool false, .bool false, .bool false, .bool false, .bool false, .bool false, .bool false, .bool false] [(0, 1, .const (.bool true)), (4, 1, .const (.bool true))], none⟩,
  ⟨none, .store 8 (.tmp 2) (.tmp 10), none⟩,
  ⟨some 3, .move (.const (.bool true)), none⟩])
 (.ret))
 (.seq (.region [⟨some 12, .bin .eql (.tmp 4) (.const (.int .i64 3)), none⟩,
  ⟨some 11, .move (.tmp 12), none⟩])
 (.cond (.tmp 11) (.seq (.region [⟨some 13, .build [.bool false, .bool false, .bool false, .bool false, .bool false, .bool false, .bool false, .bool false] [(0, 1, .const (.bool true)), (1, 1, .const (.bool true))], none⟩,
  ⟨none, .store 8 (.tmp 2) (.tmp 13), none⟩,
  ⟨some 3, .move (.const (.bool true)), none⟩])
 (.ret))
 (.seq (.region [⟨some 15, .bin .eql (.tmp 4) (.const (.int .i64 4)), none⟩,
  ⟨some 14, .move (.tmp 15), none⟩])
 (.cond (.tmp 14) (.seq (.region [⟨some 16, .build [.bool false, .bool false, .bool false, .bool false, .bool false, .bool false, .bool false, .bool false] [(0, 1, .const (.bool true)), (1, 1, .const (.bool true)), (6, 1, .const (.bool true))], none⟩,
  ⟨none, .store 8 (.tmp 2) (.tmp 16), none⟩,
  ⟨some 3, .move (.const (.bool true)), none⟩])
 (.ret))
 (.seq (.region [⟨some 18, .bin .eql (.tmp 4) (.const (.int .i64 5)), none⟩,
  ⟨some 17, .move (.tmp 18), none⟩])
 (.cond (.tmp 17) (.seq (.region [⟨some 19, .build [.bool false, .bool false, .bool false, .bool false, .bool false, .bool false, .bool false, .bool false] [(0, 1, .const (.bool true)), (1, 1, .const (.bool true)), (2, 1, .const (.bool true)), (7, 1, .const (.bool true))], none⟩,
  ⟨none, .store 8 (.tmp 2) (.tmp 19), none⟩,
  ⟨some 3, .move (.const (.bool true)), none⟩])
 (.ret))
 (.seq (.seq (.region [⟨some 21, .bin .eql (.tmp 4) (.const (.int .i64 6)), none⟩,
  ⟨some 20, .move (.tmp 21), none⟩])
 (.cond (.tmp 20) (.skip)
 (.region [⟨some 22, .bin .eql (.tmp 4) (.const (.int .i64 7)), none⟩,
  ⟨some 20, .move (.tmp 22), none⟩])))
 (.cond (.tmp 20) (.seq (.region [⟨some 23, .build [.bool false, .bool false, .bool false, .bool false, .bool false, .bool false, .bool false, .bool false] [(0, 1, .const (.bool true)), (1, 1, .const (.bool true)), (4, 1, .const (.bool true))], none⟩,
  ⟨none, .store 8 (.tmp 2) (.tmp 23), none⟩,
  ⟨some 3, .move (.const (.bool true)), none⟩])
 (.ret))
 (.seq (.region [⟨some 25, .bin .eql (.tmp 4) (.const (.int .i64 8)), none⟩,
  ⟨some 24, .move (.tmp 25), none⟩])
 (.cond (.tmp 24) (.seq (.region [⟨some 26, .build [.bool false, .bool false, .bool false, .bool false, .bool false, .bool false, .bool false, .bool false] [(0, 1, .const (.bool true)), (3, 1, .const (.bool true))], none⟩,
  ⟨none, .store 8 (.tmp 2) (.tmp 26), none⟩,
  ⟨some 3, .move (.const (.bool true)), none⟩])
 (.ret))
 (.seq (.seq (.region [⟨some 28, .bin .eql (.tmp 4) (.const (.int .i64 9)), none⟩,
  ⟨some 27, .move (.tmp 28), none⟩])
 (.cond (.tmp 27) (.skip)
 (.region [⟨some 29, .bin .eql (.tmp 4) (.const (.int .i64 13)), none⟩,
  ⟨some 27, .move (.tmp 29), none⟩])))
 (.cond (.tmp 27) (.seq (.region [⟨some 30, .build [.bool false, .bool false, .bool false, .bool false, .bool false, .bool false, .bool false, .bool false] [(0, 1, .const (.bool true))], none⟩,
  ⟨none, .store 8 (.tmp 2) (.tmp 30), none⟩,
  ⟨some 3, .move (.const (.bool true)), none⟩])
 (.ret))
 (.seq (.region [⟨some 32, .bin .eql (.tmp 4) (.const (.int .i64 10)), none⟩,
  ⟨some 31, .move (.tmp 32), none⟩])
 (.cond (.tmp 31) (.seq (.region [⟨some 33, .build [.bool false, .bool false, .bool false, .bool false, .bool false, .bool false, .bool false, .bool false] [(4, 1, .const (.bool true)), (5, 1, .const (.bool true))], none⟩,
  ⟨none, .store 8 (.tmp 2) (.tmp 33), none⟩,
  ⟨some 3, .move (.const (.bool true)), none⟩])
 (.ret))
 (.seq (.seq (.region [⟨some 35, .bin .eql (.tmp 4) (.const (.int .i64 11)), none⟩,
  ⟨some 34, .move (.tmp 35), none⟩])
 (.cond (.tmp 34) (.skip)
 (.region [⟨some 36, .bin .eql (.tmp 4) (.const (.int .i64 12)), none⟩,
  ⟨some 34, .move (.tmp 36), none⟩])))
 (.cond (.tmp 34) (.seq (.region [⟨some 37, .build [.bool false, .bool false, .bool false, .bool false, .bool false, .bool false, .bool false, .bool false] [(0, 1, .const (.bool true)), (4, 1, .const (.bool true)), (5, 1, .const (.bool true))], none⟩,
  ⟨none, .store 8 (.tmp 2) (.tmp 37), none⟩,
  ⟨some 3, .move (.const (.bool true)), none⟩])
 (.ret))
 (.skip)))))))))))))))))))))))
 (.seq (.region [⟨some 38, .build [.bool false, .bool false, .bool false, .bool false, .bool false, .bool false, .bool false, .bool false] [], none⟩,
  ⟨none, .store 8 (.tmp 2) (.tmp 38), none⟩,
  ⟨some 3, .move (.const (.bool false)), none⟩])
 (.ret)))
theorem light26 : Light Try.prog 26 1 39 L26 [.cell 2 true 8, .tmp 3] :=
  ⟨Try.f26, _, Try.func26, rfl, rfl, by kernel_rfl, by kernel_rfl, by decide⟩

/-! ### function 27: outrider/ins.reg -/
def L27 : LCode :=
 .seq (.region [⟨some 4, .move (.const (.bool false)), none⟩])
 (.seq (.region [⟨some 5, .move (.tmp 0), none⟩,
  ⟨some 6, .move (.tmp 5), none⟩,
  ⟨some 7, .move (.tmp 1), (some (6, true))⟩,
  ⟨some 8, .bin .geq (.tmp 7) (.const (.int .i64 0)), (some (6, true))⟩,
  ⟨some 9, .pick (.tmp 6) (.tmp 8) (.const (.bool false)), none⟩,
  ⟨some 10, .move (.tmp 9), none⟩,
  ⟨some 11, .move (.tmp 1), (some (10, true))⟩,
  ⟨some 12, .bin .lss (.tmp 11) (.const (.int .i64 16)), (some (10, true))⟩,
  ⟨some 13, .pick (.tmp 10) (.tmp 12) (.const (.bool false)), none⟩,
  ⟨some 14, .move (.tmp 13), none⟩,
  ⟨some 15, .move (.tmp 0), (some (14, false))⟩,
  ⟨some 16, .un .not (.tmp 15), (some (14, false))⟩,
  ⟨some 17, .move (.tmp 16), (some (14, false))⟩,
  ⟨some 18, .move (.tmp 1), (some (17, true))⟩,
  ⟨some 19, .bin .eql (.tmp 18) (.const (.int .i64 0)), (some (17, true))⟩,
  ⟨some 20, .pick (.tmp 17) (.tmp 19) (.const (.bool false)), (some (14, false))⟩,
  ⟨some 21, .pick (.tmp 14) (.const (.bool true)) (.tmp 20), none⟩,
  ⟨some 4, .move (.tmp 21), none⟩])
 (.ret))
theorem light27 : Light Try.prog 27 2 22 L27 [.tmp 4] :=
  ⟨Try.f27, _, Try.func27, rfl, rfl, by kernel_rfl, by kernel_rfl, by decide⟩

/-! ### function 28: outrider/outriderref08.Parts -/
def L28 : LCode :=
 .seq (.region [⟨some 2, .move (.const (.string ByteArray.empty)), none⟩])
 (.seq (.region [⟨some 4, .buildSlice 9 1 13 [.string ByteArray.empty] [(0, 1, .const (.string ByteArray.empty)), (1, 1, .const (.string ⟨#[97, 107]⟩)), (2, 1, .const (.string ⟨#[97, 98]⟩)), (3, 1, .const (.string ⟨#[112, 97, 98]⟩)), (4, 1, .const (.string ⟨#[111, 97, 98, 99]⟩)), (5, 1, .const (.string ⟨#[97, 98, 107]⟩)), (6, 1, .const (.string ⟨#[97, 98, 107]⟩)), (7, 1, .const (.string ⟨#[97, 114]⟩)), (8, 1, .const (.string ⟨#[97]⟩)), (9, 1, .const (.string ⟨#[116]⟩)), (10, 1, .const (.string ⟨#[97, 116]⟩)), (11, 1, .const (.string ⟨#[97, 116]⟩)), (12, 1, .const (.string ⟨#[97]⟩))], none⟩,
  ⟨some 3, .move (.tmp 4), none⟩])
 (.seq (.seq (.region [⟨some 5, .move (.tmp 0), none⟩,
  ⟨some 6, .bin .lss (.tmp 5) (.const (.int .i64 1)), none⟩,
  ⟨some 7, .move (.tmp 6), none⟩,
  ⟨some 8, .move (.tmp 0), (some (7, false))⟩,
  ⟨some 9, .bin .gtr (.tmp 8) (.const (.int .i64 13)), (some (7, false))⟩,
  ⟨some 10, .pick (.tmp 7) (.const (.bool true)) (.tmp 9), none⟩])
 (.cond (.tmp 10) (.seq (.region [⟨some 2, .move (.const (.string ⟨#[63]⟩)), none⟩])
 (.ret))
 (.skip)))
 (.seq (.region [⟨some 11, .move (.tmp 3), none⟩,
  ⟨some 12, .move (.tmp 0), none⟩,
  ⟨some 13, .bin .sub (.tmp 12) (.const (.int .i64 1)), none⟩,
  ⟨some 14, .idx 1 (.tmp 11) (.tmp 13), none⟩,
  ⟨some 15, .load false 1 (.tmp 14), none⟩,
  ⟨some 2, .move (.tmp 15), none⟩])
 (.ret))))
theorem light28 : Light Try.prog 28 1 16 L28 [.tmp 2] :=
  ⟨Try.f28, _, Try.func28, rfl, rfl, by kernel_rfl, by kernel_rfl, by decide⟩

/-! ### function 29: outrider/outriderref08.Has -/
def L29_1 : LCode :=
 .seq (.seq (.region [⟨some 6, .move (.tmp 5), none⟩,
  ⟨some 7, .move (.tmp 0), none⟩,
  ⟨some 8, .lenS (.tmp 7), none⟩,
  ⟨some 9, .bin .lss (.tmp 6) (.tmp 8), none⟩])
 (.cond (.tmp 9) (.skip)
 (.exit 0)))
 (.seq (.block 1 (.seq (.region [⟨some 12, .move (.tmp 0), none⟩,
  ⟨some 13, .move (.tmp 5), none⟩,
  ⟨some 14, .idxStr (.tmp 12) (.tmp 13), none⟩,
  ⟨some 15, .move (.tmp 1), none⟩,
  ⟨some 16, .bin .eql (.tmp 14) (.tmp 15), none⟩])
 (.cond (.tmp 16) (.seq (.region [⟨some 4, .move (.const (.bool true)), none⟩])
 (.ret))
 (.skip))))
 (.region [⟨some 10, .move (.tmp 5), none⟩,
  ⟨some 11, .bin .add (.tmp 10) (.const (.int .i64 1)), none⟩,
  ⟨some 5, .move (.tmp 11), none⟩]))
def L29 : LCode :=
 .seq (.region [⟨some 4, .move (.const (.bool false)), none⟩])
 (.seq (.seq (.region [⟨some 5, .move (.const (.int .i64 0)), none⟩])
 (.block 0 (.loop L29_1)))
 (.seq (.region [⟨some 4, .move (.const (.bool false)), none⟩])
 (.ret)))
theorem light29 : Light Try.prog 29 2 17 L29 [.tmp 4] :=
  ⟨Try.f29, _, Try.func29, rfl, rfl, by kernel_rfl, by kernel_rfl, by decide⟩

/-! ### function 30: outrider/outriderref08.bad -/
def L30 : LCode :=
 .seq (.region [⟨some 2, .move (.const (.bool false)), none⟩])
 (.seq (.region [⟨some 3, .move (.tmp 0), none⟩,
  ⟨some 4, .bin .lss (.tmp 3) (.const (.int .i64 0)), none⟩,
  ⟨some 5, .move (.tmp 4), none⟩,
  ⟨some 6, .move (.tmp 0), (some (5, false))⟩,
  ⟨some 7, .bin .gtr (.tmp 6) (.const (.int .i64 15)), (some (5, false))⟩,
  ⟨some 8, .pick (.tmp 5) (.const (.bool true)) (.tmp 7), none⟩,
  ⟨some 2, .move (.tmp 8), none⟩])
 (.ret))
theorem light30 : Light Try.prog 30 1 9 L30 [.tmp 2] :=
  ⟨Try.f30, _, Try.func30, rfl, rfl, by kernel_rfl, by kernel_rfl, by decide⟩

/-! ### function 31: outrider/pack.New -/
def L31 : LCode :=
 .seq (.region [⟨some 0, .move (.const (.pointer none)), none⟩])
 (.seq (.region [⟨some 1, .build [.slice none 0 0] [], none⟩,
  ⟨some 2, .box 89 1 (.tmp 1), none⟩,
  ⟨some 0, .move (.tmp 2), none⟩])
 (.ret))
theorem light31 : Light Try.prog 31 0 3 L31 [.tmp 0] :=
  ⟨Try.f31, _, Try.func31, rfl, rfl, by kernel_rfl, by kernel_rfl, by decide⟩

/-! ### function 32: (*outrider/pack.Writer).Uint -/
def L32_1 : LCode :=
 .seq (.seq (.region [⟨some 4, .move (.tmp 1), none⟩,
  ⟨some 5, .bin .geq (.tmp 4) (.const (.int .u64 128)), none⟩])
 (.cond (.tmp 5) (.skip)
 (.exit 0)))
 (.block 1 (.seq (.region [⟨some 6, .move (.tmp 0), none⟩,
  ⟨some 7, .move (.tmp 0), none⟩,
  ⟨some 8, .nilCheck (.tmp 7), none⟩,
  ⟨some 9, .off 0 (.tmp 8), none⟩,
  ⟨some 10, .load false 1 (.tmp 9), none⟩,
  ⟨some 11, .move (.tmp 1), none⟩,
  ⟨some 12, .conv .u8 (.tmp 11), none⟩,
  ⟨some 13, .bin .or (.tmp 12) (.const (.int .u8 128)), none⟩,
  ⟨some 14, .buildSlice 5 1 1 [.int .u8 0] [(0, 1, .tmp 13)], none⟩,
  ⟨some 15, .append 5 1 1 (.tmp 10) (.tmp 14), none⟩,
  ⟨some 16, .nilCheck (.tmp 6), none⟩,
  ⟨some 17, .off 0 (.tmp 16), none⟩,
  ⟨none, .store 1 (.tmp 17) (.tmp 15), none⟩])
 (.region [⟨some 18, .move (.tmp 1), none⟩,
  ⟨some 19, .bin .shr (.tmp 18) (.const (.int .u64 7)), none⟩,
  ⟨some 1, .move (.tmp 19), none⟩])))
def L32 : LCode :=
 .seq (.block 0 (.loop L32_1))
 (.region [⟨some 20, .move (.tmp 0), none⟩,
  ⟨some 21, .move (.tmp 0), none⟩,
  ⟨some 22, .nilCheck (.tmp 21), none⟩,
  ⟨some 23, .off 0 (.tmp 22), none⟩,
  ⟨some 24, .load false 1 (.tmp 23), none⟩,
  ⟨some 25, .move (.tmp 1), none⟩,
  ⟨some 26, .conv .u8 (.tmp 25), none⟩,
  ⟨some 27, .buildSlice 5 1 1 [.int .u8 0] [(0, 1, .tmp 26)], none⟩,
  ⟨some 28, .append 5 1 1 (.tmp 24) (.tmp 27), none⟩,
  ⟨some 29, .nilCheck (.tmp 20), none⟩,
  ⟨some 30, .off 0 (.tmp 29), none⟩,
  ⟨none, .store 1 (.tmp 30) (.tmp 28), none⟩])
theorem light32 : Light Try.prog 32 2 31 L32 [] :=
  ⟨Try.f32, _, Try.func32, rfl, rfl, by kernel_rfl, by kernel_rfl, by decide⟩

/-! ### function 33: (*outrider/pack.Writer).Int -/
def L33 : LCode :=
 .region [⟨some 4, .move (.tmp 0), none⟩,
  ⟨some 5, .move (.tmp 1), none⟩,
  ⟨some 6, .conv .u64 (.tmp 5), none⟩,
  ⟨some 7, .bin .shl (.tmp 6) (.const (.int .u64 1)), none⟩,
  ⟨some 8, .move (.tmp 1), none⟩,
  ⟨some 9, .bin .shr (.tmp 8) (.const (.int .u64 63)), none⟩,
  ⟨some 10, .conv .u64 (.tmp 9), none⟩,
  ⟨some 11, .bin .xor (.tmp 7) (.tmp 10), none⟩,
  ⟨some 12, .call 32 [.tmp 4, .tmp 11], none⟩]
theorem light33 : Light Try.prog 33 2 13 L33 [] :=
  ⟨Try.f33, _, Try.func33, rfl, rfl, by kernel_rfl, by kernel_rfl, by decide⟩

/-! ### function 34: (*outrider/pack.Writer).Bytes -/
def L34 : LCode :=
 .seq (.region [⟨some 2, .move (.const (.slice none 0 0)), none⟩])
 (.seq (.region [⟨some 3, .move (.tmp 0), none⟩,
  ⟨some 4, .nilCheck (.tmp 3), none⟩,
  ⟨some 5, .off 0 (.tmp 4), none⟩,
  ⟨some 6, .load false 1 (.tmp 5), none⟩,
  ⟨some 7, .append 5 1 1 (.const (.slice none 0 0)) (.tmp 6), none⟩,
  ⟨some 2, .move (.tmp 7), none⟩])
 (.ret))
theorem light34 : Light Try.prog 34 1 8 L34 [.tmp 2] :=
  ⟨Try.f34, _, Try.func34, rfl, rfl, by kernel_rfl, by kernel_rfl, by decide⟩

/-! ### function 35: outrider/outriderref02.Uint -/
def L35_1 : LCode :=
 .block 1 (.seq (.region [⟨some 4, .move (.tmp 3), none⟩,
  ⟨some 5, .move (.tmp 0), none⟩,
  ⟨some 6, .bin .rem (.tmp 5) (.const (.int .u64 128)), none⟩,
  ⟨some 7, .conv .u8 (.tmp 6), none⟩,
  ⟨some 8, .buildSlice 5 1 1 [.int .u8 0] [(0, 1, .tmp 7)], none⟩,
  ⟨some 9, .append 5 1 1 (.tmp 4) (.tmp 8), none⟩,
  ⟨some 3, .move (.tmp 9), none⟩])
 (.seq (.region [⟨some 10, .move (.tmp 0), none⟩,
  ⟨some 11, .bin .quo (.tmp 10) (.const (.int .u64 128)), none⟩,
  ⟨some 0, .move (.tmp 11), none⟩])
 (.seq (.seq (.region [⟨some 12, .move (.tmp 0), none⟩,
  ⟨some 13, .bin .eql (.tmp 12) (.const (.int .u64 0)), none⟩])
 (.cond (.tmp 13) (.exit 0)
 (.skip)))
 (.region [⟨some 14, .move (.tmp 3), none⟩,
  ⟨some 15, .move (.tmp 3), none⟩,
  ⟨some 16, .len (.tmp 15), none⟩,
  ⟨some 17, .bin .sub (.tmp 16) (.const (.int .i64 1)), none⟩,
  ⟨some 18, .idx 1 (.tmp 14) (.tmp 17), none⟩,
  ⟨some 19, .load false 1 (.tmp 18), none⟩,
  ⟨some 20, .bin .add (.tmp 19) (.const (.int .u8 128)), none⟩,
  ⟨some 21, .idx 1 (.tmp 14) (.tmp 17), none⟩,
  ⟨none, .store 1 (.tmp 21) (.tmp 20), none⟩]))))
def L35 : LCode :=
 .seq (.region [⟨some 2, .move (.const (.slice none 0 0)), none⟩])
 (.seq (.region [⟨some 3, .move (.const (.slice none 0 0)), none⟩])
 (.seq (.block 0 (.loop L35_1))
 (.seq (.region [⟨some 22, .move (.tmp 3), none⟩,
  ⟨some 2, .move (.tmp 22), none⟩])
 (.ret))))
theorem light35 : Light Try.prog 35 1 23 L35 [.tmp 2] :=
  ⟨Try.f35, _, Try.func35, rfl, rfl, by kernel_rfl, by kernel_rfl, by decide⟩

/-! ### function 36: outrider/outriderref02.Int -/
def L36 : LCode :=
 .seq (.region [⟨some 2, .move (.const (.slice none 0 0)), none⟩])
 (.seq (.seq (.region [⟨some 3, .move (.tmp 0), none⟩,
  ⟨some 4, .bin .geq (.tmp 3) (.const (.int .i64 0)), none⟩])
 (.cond (.tmp 4) (.seq (.region [⟨some 5, .move (.tmp 0), none⟩,
  ⟨some 6, .conv .u64 (.tmp 5), none⟩,
  ⟨some 7, .bin .mul (.tmp 6) (.const (.int .u64 2)), none⟩,
  ⟨some 8, .call 35 [.tmp 7], none⟩,
  ⟨some 2, .move (.tmp 8), none⟩])
 (.ret))
 (.skip)))
 (.seq (.region [⟨some 9, .move (.tmp 0), none⟩,
  ⟨some 10, .bin .add (.tmp 9) (.const (.int .i64 1)), none⟩,
  ⟨some 11, .un .neg (.tmp 10), none⟩,
  ⟨some 12, .conv .u64 (.tmp 11), none⟩,
  ⟨some 13, .bin .mul (.tmp 12) (.const (.int .u64 2)), none⟩,
  ⟨some 14, .bin .add (.tmp 13) (.const (.int .u64 1)), none⟩,
  ⟨some 15, .call 35 [.tmp 14], none⟩,
  ⟨some 2, .move (.tmp 15), none⟩])
 (.ret)))
theorem light36 : Light Try.prog 36 1 16 L36 [.tmp 2] :=
  ⟨Try.f36, _, Try.func36, rfl, rfl, by kernel_rfl, by kernel_rfl, by decide⟩

/-! ### function 37: outrider/pack.Read -/
def L37 : LCode :=
 .seq (.region [⟨some 2, .move (.const (.pointer none)), none⟩])
 (.seq (.region [⟨some 3, .move (.tmp 0), none⟩,
  ⟨some 4, .append 5 1 1 (.const (.slice none 0 0)) (.tmp 3), none⟩,
  ⟨some 5, .build [.slice none 0 0, .int .i64 0, .int .i64 0] [(0, 1, .tmp 4)], none⟩,
  ⟨some 6, .box 92 3 (.tmp 5), none⟩,
  ⟨some 2, .move (.tmp 6), none⟩])
 (.ret))
theorem light37 : Light Try.prog 37 1 7 L37 [.tmp 2] :=
  ⟨Try.f37, _, Try.func37, rfl, rfl, by kernel_rfl, by kernel_rfl, by decide⟩

/-! ### function 38: (*outrider/pack.Reader).Count -/
def L38 : LCode :=
 .seq (.region [⟨some 4, .move (.const (.int .i64 0)), none⟩])
 (.seq (.region [⟨some 6, .move (.tmp 0), none⟩,
  ⟨some 7, .call 47 [.tmp 6], none⟩,
  ⟨some 5, .move (.tmp 7), none⟩])
 (.seq (.seq (.region [⟨some 8, .move (.tmp 5), none⟩,
  ⟨some 9, .move (.tmp 0), none⟩,
  ⟨some 10, .call 48 [.tmp 9], none⟩,
  ⟨some 11, .conv .u64 (.tmp 10), none⟩,
  ⟨some 12, .move (.tmp 1), none⟩,
  ⟨some 13, .minmax true (.tmp 12) [.const (.int .i64 1)], none⟩,
  ⟨some 14, .conv .u64 (.tmp 13), none⟩,
  ⟨some 15, .bin .quo (.tmp 11) (.tmp 14), none⟩,
  ⟨some 16, .bin .gtr (.tmp 8) (.tmp 15), none⟩])
 (.cond (.tmp 16) (.seq (.region [⟨some 17, .move (.tmp 0), none⟩,
  ⟨some 18, .call 49 [.tmp 17, .const (.int .i64 20)], none⟩])
 (.seq (.region [⟨some 4, .move (.const (.int .i64 0)), none⟩])
 (.ret)))
 (.skip)))
 (.seq (.region [⟨some 19, .move (.tmp 5), none⟩,
  ⟨some 20, .conv .i64 (.tmp 19), none⟩,
  ⟨some 4, .move (.tmp 20), none⟩])
 (.ret))))
theorem light38 : Light Try.prog 38 2 21 L38 [.tmp 4] :=
  ⟨Try.f38, _, Try.func38, rfl, rfl, by kernel_rfl, by kernel_rfl, by decide⟩

/-! ### function 39: outrider/ins.small -/
def L39 : LCode :=
 .seq (.region [⟨some 2, .move (.const (.int .i64 0)), none⟩])
 (.seq (.region [⟨some 3, .move (.tmp 0), none⟩,
  ⟨some 4, .call 47 [.tmp 3], none⟩,
  ⟨some 5, .minmax false (.tmp 4) [.const (.int .u64 256)], none⟩,
  ⟨some 6, .conv .i64 (.tmp 5), none⟩,
  ⟨some 2, .move (.tmp 6), none⟩])
 (.ret))
theorem light39 : Light Try.prog 39 1 7 L39 [.tmp 2] :=
  ⟨Try.f39, _, Try.func39, rfl, rfl, by kernel_rfl, by kernel_rfl, by decide⟩

/-! ### function 40: (*outrider/pack.Reader).Fail -/
def L40 : LCode :=
 .seq (.region [⟨some 2, .move (.const (.int .i64 0)), none⟩])
 (.seq (.region [⟨some 3, .move (.tmp 0), none⟩,
  ⟨some 4, .nilCheck (.tmp 3), none⟩,
  ⟨some 5, .off 2 (.tmp 4), none⟩,
  ⟨some 6, .load false 1 (.tmp 5), none⟩,
  ⟨some 2, .move (.tmp 6), none⟩])
 (.ret))
theorem light40 : Light Try.prog 40 1 7 L40 [.tmp 2] :=
  ⟨Try.f40, _, Try.func40, rfl, rfl, by kernel_rfl, by kernel_rfl, by decide⟩

/-! ### function 41: (*outrider/pack.Reader).Int -/
def L41 : LCode :=
 .seq (.region [⟨some 2, .move (.const (.int .i64 0)), none⟩])
 (.seq (.region [⟨some 4, .move (.tmp 0), none⟩,
  ⟨some 5, .call 47 [.tmp 4], none⟩,
  ⟨some 3, .move (.tmp 5), none⟩])
 (.seq (.region [⟨some 6, .move (.tmp 3), none⟩,
  ⟨some 7, .bin .shr (.tmp 6) (.const (.int .u64 1)), none⟩,
  ⟨some 8, .conv .i64 (.tmp 7), none⟩,
  ⟨some 9, .move (.tmp 3), none⟩,
  ⟨some 10, .bin .and (.tmp 9) (.const (.int .u64 1)), none⟩,
  ⟨some 11, .conv .i64 (.tmp 10), none⟩,
  ⟨some 12, .un .neg (.tmp 11), none⟩,
  ⟨some 13, .bin .xor (.tmp 8) (.tmp 12), none⟩,
  ⟨some 2, .move (.tmp 13), none⟩])
 (.ret)))
theorem light41 : Light Try.prog 41 1 14 L41 [.tmp 2] :=
  ⟨Try.f41, _, Try.func41, rfl, rfl, by kernel_rfl, by kernel_rfl, by decide⟩

/-! ### function 42: (*outrider/pack.Reader).End -/
def L42 : LCode :=
 .seq (.region [⟨some 2, .move (.const (.int .i64 0)), none⟩])
 (.seq (.seq (.draw [⟨⟨some 3, .move (.tmp 0), none⟩, .pure, 0, 0⟩,
  ⟨⟨some 4, .nilCheck (.tmp 3), none⟩, .pure, 0, 0⟩,
  ⟨⟨some 5, .off 2 (.tmp 4), none⟩, .pure, 0, 0⟩,
  ⟨⟨some 6, .load false 1 (.tmp 5), none⟩, .read, 0, 0⟩,
  ⟨⟨some 7, .bin .eql (.tmp 6) (.const (.int .i64 0)), none⟩, .pure, 0, 0⟩,
  ⟨⟨some 8, .move (.tmp 7), none⟩, .pure, 0, 0⟩,
  ⟨⟨some 9, .move (.tmp 0), (some (8, true))⟩, .pure, 0, 0⟩,
  ⟨⟨some 10, .nilCheck (.tmp 9), (some (8, true))⟩, .pure, 0, 0⟩,
  ⟨⟨some 11, .off 1 (.tmp 10), (some (8, true))⟩, .pure, 0, 0⟩,
  ⟨⟨some 12, .load false 1 (.tmp 11), (some (8, true))⟩, .read, 0, 0⟩,
  ⟨⟨some 13, .move (.tmp 0), (some (8, true))⟩, .pure, 0, 0⟩,
  ⟨⟨some 14, .nilCheck (.tmp 13), (some (8, true))⟩, .pure, 0, 0⟩,
  ⟨⟨some 15, .off 0 (.tmp 14), (some (8, true))⟩, .pure, 0, 0⟩,
  ⟨⟨some 16, .load false 1 (.tmp 15), (some (8, true))⟩, .read, 0, 0⟩,
  ⟨⟨some 17, .len (.tmp 16), (some (8, true))⟩, .pure, 0, 0⟩,
  ⟨⟨some 18, .bin .lss (.tmp 12) (.tmp 17), (some (8, true))⟩, .pure, 0, 0⟩,
  ⟨⟨some 19, .pick (.tmp 8) (.tmp 18) (.const (.bool false)), none⟩, .pure, 0, 0⟩])
 (.cond (.tmp 19) (.seq (.region [⟨some 2, .move (.const (.int .i64 21)), none⟩])
 (.ret))
 (.skip)))
 (.seq (.region [⟨some 20, .move (.tmp 0), none⟩,
  ⟨some 21, .nilCheck (.tmp 20), none⟩,
  ⟨some 22, .off 2 (.tmp 21), none⟩,
  ⟨some 23, .load false 1 (.tmp 22), none⟩,
  ⟨some 2, .move (.tmp 23), none⟩])
 (.ret)))
theorem light42 : Light Try.prog 42 1 24 L42 [.tmp 2] :=
  ⟨Try.f42, _, Try.func42, rfl, rfl, by kernel_rfl, by kernel_rfl, by decide⟩

/-! ### function 43: outrider/outriderref02.TakeCount -/
def L43 : LCode :=
 .seq (.region [⟨some 2, .box 80 2 (.tmp 0), none⟩,
  ⟨some 4, .new 80 2 [.slice none 0 0, .int .i64 0], none⟩,
  ⟨some 5, .move (.const (.int .i64 0)), none⟩])
 (.seq (.region [⟨some 8, .load true 2 (.tmp 2), none⟩,
  ⟨some 9, .call 50 [.tmp 8], none⟩,
  ⟨some 7, .move (.tmp 9), none⟩,
  ⟨some 10, .extract (.tmp 7) 0, none⟩,
  ⟨some 11, .extract (.tmp 7) 1, none⟩,
  ⟨none, .store 2 (.tmp 2) (.tmp 10), none⟩,
  ⟨some 6, .move (.tmp 11), none⟩])
 (.seq (.seq (.region [⟨some 12, .move (.tmp 1), none⟩,
  ⟨some 13, .bin .lss (.tmp 12) (.const (.int .i64 1)), none⟩])
 (.cond (.tmp 13) (.region [⟨some 1, .move (.const (.int .i64 1)), none⟩])
 (.skip)))
 (.seq (.seq (.region [⟨some 14, .off 1 (.tmp 2), none⟩,
  ⟨some 15, .load false 1 (.tmp 14), none⟩,
  ⟨some 16, .bin .neq (.tmp 15) (.const (.int .i64 0)), none⟩])
 (.cond (.tmp 16) (.seq (.region [⟨some 17, .load true 2 (.tmp 2), none⟩,
  ⟨none, .store 2 (.tmp 4) (.tmp 17), none⟩,
  ⟨some 5, .move (.const (.int .i64 0)), none⟩])
 (.ret))
 (.skip)))
 (.seq (.seq (.region [⟨some 18, .move (.tmp 6), none⟩,
  ⟨some 19, .off 0 (.tmp 2), none⟩,
  ⟨some 20, .load false 1 (.tmp 19), none⟩,
  ⟨some 21, .len (.tmp 20), none⟩,
  ⟨some 22, .move (.tmp 1), none⟩,
  ⟨some 23, .bin .quo (.tmp 21) (.tmp 22), none⟩,
  ⟨some 24, .conv .u64 (.tmp 23), none⟩,
  ⟨some 25, .bin .gtr (.tmp 18) (.tmp 24), none⟩])
 (.cond (.tmp 25) (.seq (.region [⟨some 26, .off 1 (.tmp 2), none⟩,
  ⟨none, .store 1 (.tmp 26) (.const (.int .i64 20)), none⟩])
 (.seq (.region [⟨some 27, .load true 2 (.tmp 2), none⟩,
  ⟨none, .store 2 (.tmp 4) (.tmp 27), none⟩,
  ⟨some 5, .move (.const (.int .i64 0)), none⟩])
 (.ret)))
 (.skip)))
 (.seq (.region [⟨some 28, .load true 2 (.tmp 2), none⟩,
  ⟨some 29, .move (.tmp 6), none⟩,
  ⟨some 30, .conv .i64 (.tmp 29), none⟩,
  ⟨none, .store 2 (.tmp 4) (.tmp 28), none⟩,
  ⟨some 5, .move (.tmp 30), none⟩])
 (.ret))))))
theorem light43 : Light Try.prog 43 2 31 L43 [.cell 4 true 2, .tmp 5] :=
  ⟨Try.f43, _, Try.func43, rfl, rfl, by kernel_rfl, by kernel_rfl, by decide⟩

/-! ### function 44: outrider/outriderref08.take -/
def L44 : LCode :=
 .seq (.region [⟨some 1, .box 80 2 (.tmp 0), none⟩,
  ⟨some 2, .new 80 2 [.slice none 0 0, .int .i64 0], none⟩,
  ⟨some 3, .move (.const (.int .i64 0)), none⟩])
 (.seq (.region [⟨some 6, .load true 2 (.tmp 1), none⟩,
  ⟨some 7, .call 50 [.tmp 6], none⟩,
  ⟨some 5, .move (.tmp 7), none⟩,
  ⟨some 8, .extract (.tmp 5) 0, none⟩,
  ⟨some 9, .extract (.tmp 5) 1, none⟩,
  ⟨none, .store 2 (.tmp 1) (.tmp 8), none⟩,
  ⟨some 4, .move (.tmp 9), none⟩])
 (.seq (.seq (.region [⟨some 10, .move (.tmp 4), none⟩,
  ⟨some 11, .bin .gtr (.tmp 10) (.const (.int .u64 1000)), none⟩])
 (.cond (.tmp 11) (.region [⟨some 4, .move (.const (.int .u64 1000)), none⟩])
 (.skip)))
 (.seq (.region [⟨some 12, .load true 2 (.tmp 1), none⟩,
  ⟨some 13, .move (.tmp 4), none⟩,
  ⟨some 14, .conv .i64 (.tmp 13), none⟩,
  ⟨none, .store 2 (.tmp 2) (.tmp 12), none⟩,
  ⟨some 3, .move (.tmp 14), none⟩])
 (.ret))))
theorem light44 : Light Try.prog 44 1 15 L44 [.cell 2 true 2, .tmp 3] :=
  ⟨Try.f44, _, Try.func44, rfl, rfl, by kernel_rfl, by kernel_rfl, by decide⟩

/-! ### function 45: outrider/outriderref08.one -/
def L45_1 : LCode :=
 .seq (.seq (.region [⟨some 12, .move (.tmp 8), none⟩,
  ⟨some 13, .move (.tmp 6), none⟩,
  ⟨some 14, .lenS (.tmp 13), none⟩,
  ⟨some 15, .bin .lss (.tmp 12) (.tmp 14), none⟩])
 (.cond (.tmp 15) (.skip)
 (.exit 0)))
 (.seq (.block 1 (.seq (.seq (.region [⟨some 18, .move (.tmp 6), none⟩,
  ⟨some 19, .move (.tmp 8), none⟩,
  ⟨some 20, .idxStr (.tmp 18) (.tmp 19), none⟩,
  ⟨some 21, .bin .eql (.tmp 20) (.const (.int .u8 107)), none⟩,
  ⟨some 22, .move (.tmp 21), none⟩,
  ⟨some 23, .move (.tmp 6), (some (22, false))⟩,
  ⟨some 24, .move (.tmp 8), (some (22, false))⟩,
  ⟨some 25, .idxStr (.tmp 23) (.tmp 24), (some (22, false))⟩,
  ⟨some 26, .bin .eql (.tmp 25) (.const (.int .u8 116)), (some (22, false))⟩,
  ⟨some 27, .pick (.tmp 22) (.const (.bool true)) (.tmp 26), none⟩])
 (.cond (.tmp 27) (.seq (.region [⟨some 29, .load true 2 (.tmp 2), none⟩,
  ⟨some 30, .call 51 [.tmp 29], none⟩,
  ⟨some 28, .move (.tmp 30), none⟩,
  ⟨some 31, .extract (.tmp 28) 0, none⟩,
  ⟨some 32, .extract (.tmp 28) 1, none⟩,
  ⟨none, .store 2 (.tmp 2) (.tmp 31), none⟩,
  ⟨some 33, .off 5 (.tmp 3), none⟩,
  ⟨none, .store 1 (.tmp 33) (.tmp 32), none⟩])
 (.exit 1))
 (.skip)))
 (.seq (.region [⟨some 35, .load true 2 (.tmp 2), none⟩,
  ⟨some 36, .call 44 [.tmp 35], none⟩,
  ⟨some 34, .move (.tmp 36), none⟩,
  ⟨some 37, .extract (.tmp 34) 0, none⟩,
  ⟨some 38, .extract (.tmp 34) 1, none⟩,
  ⟨none, .store 2 (.tmp 2) (.tmp 37), none⟩,
  ⟨some 7, .move (.tmp 38), none⟩])
 (.seq (.region [⟨some 39, .move (.tmp 6), none⟩,
  ⟨some 40, .move (.tmp 8), none⟩,
  ⟨some 41, .idxStr (.tmp 39) (.tmp 40), none⟩])
 (.block 2 (.seq (.seq (.region [⟨some 45, .bin .eql (.tmp 41) (.const (.int .u8 111)), none⟩,
  ⟨some 44, .move (.tmp 45), none⟩])
 (.cond (.tmp 44) (.skip)
 (.region [⟨some 46, .bin .eql (.tmp 41) (.const (.int .u8 112)), none⟩,
  ⟨some 44, .move (.tmp 46), none⟩])))
 (.cond (.tmp 44) (.region [⟨some 47, .move (.tmp 7), none⟩,
  ⟨some 48, .off 1 (.tmp 3), none⟩,
  ⟨none, .store 1 (.tmp 48) (.tmp 47), none⟩])
 (.seq (.region [⟨some 50, .bin .eql (.tmp 41) (.const (.int .u8 97)), none⟩,
  ⟨some 49, .move (.tmp 50), none⟩])
 (.cond (.tmp 49) (.region [⟨some 51, .move (.tmp 7), none⟩,
  ⟨some 52, .off 2 (.tmp 3), none⟩,
  ⟨none, .store 1 (.tmp 52) (.tmp 51), none⟩])
 (.seq (.region [⟨some 54, .bin .eql (.tmp 41) (.const (.int .u8 98)), none⟩,
  ⟨some 53, .move (.tmp 54), none⟩])
 (.cond (.tmp 53) (.region [⟨some 55, .move (.tmp 7), none⟩,
  ⟨some 56, .off 3 (.tmp 3), none⟩,
  ⟨none, .store 1 (.tmp 56) (.tmp 55), none⟩])
 (.region [⟨some 42, .move (.tmp 7), none⟩,
  ⟨some 43, .off 4 (.tmp 3), none⟩,
  ⟨none, .store 1 (.tmp 43) (.tmp 42), none⟩]))))))))))))
 (.region [⟨some 16, .move (.tmp 8), none⟩,
  ⟨some 17, .bin .add (.tmp 16) (.const (.int .i64 1)), none⟩,
  ⟨some 8, .move (.tmp 17), none⟩]))
def L45 : LCode :=
 .seq (.region [⟨some 2, .box 80 2 (.tmp 0), none⟩,
  ⟨some 3, .box 25 6 (.tmp 1), none⟩,
  ⟨some 4, .new 80 2 [.slice none 0 0, .int .i64 0], none⟩,
  ⟨some 5, .new 25 6 [.int .i64 0, .int .i64 0, .int .i64 0, .int .i64 0, .int .i64 0, .int .i64 0], none⟩])
 (.seq (.region [⟨some 9, .off 0 (.tmp 3), none⟩,
  ⟨some 10, .load false 1 (.tmp 9), none⟩,
  ⟨some 11, .call 28 [.tmp 10], none⟩,
  ⟨some 6, .move (.tmp 11), none⟩])
 (.seq (.region [⟨some 7, .move (.const (.int .i64 0)), none⟩])
 (.seq (.seq (.region [⟨some 8, .move (.const (.int .i64 0)), none⟩])
 (.block 0 (.loop L45_1)))
 (.seq (.draw [⟨⟨some 57, .load true 2 (.tmp 2), none⟩, .read, 0, 0⟩,
  ⟨⟨some 58, .load true 6 (.tmp 3), none⟩, .read, 0, 1⟩,
  ⟨⟨none, .store 2 (.tmp 4) (.tmp 57), none⟩, .heavy, 0, 1⟩,
  ⟨⟨none, .store 6 (.tmp 5) (.tmp 58), none⟩, .heavy, 1, 2⟩])
 (.ret)))))
theorem light45 : Light Try.prog 45 2 59 L45 [.cell 4 true 2, .cell 5 true 6] :=
  ⟨Try.f45, _, Try.func45, rfl, rfl, by kernel_rfl, by kernel_rfl, by decide⟩

/-! ### function 46: outrider/outriderref02.End -/
def L46 : LCode :=
 .seq (.region [⟨some 1, .box 80 2 (.tmp 0), none⟩,
  ⟨some 2, .move (.const (.int .i64 0)), none⟩])
 (.seq (.seq (.region [⟨some 3, .off 1 (.tmp 1), none⟩,
  ⟨some 4, .load false 1 (.tmp 3), none⟩,
  ⟨some 5, .bin .eql (.tmp 4) (.const (.int .i64 0)), none⟩,
  ⟨some 6, .move (.tmp 5), none⟩,
  ⟨some 7, .off 0 (.tmp 1), (some (6, true))⟩,
  ⟨some 8, .load false 1 (.tmp 7), (some (6, true))⟩,
  ⟨some 9, .len (.tmp 8), (some (6, true))⟩,
  ⟨some 10, .bin .gtr (.tmp 9) (.const (.int .i64 0)), (some (6, true))⟩,
  ⟨some 11, .pick (.tmp 6) (.tmp 10) (.const (.bool false)), none⟩])
 (.cond (.tmp 11) (.seq (.region [⟨some 2, .move (.const (.int .i64 21)), none⟩])
 (.ret))
 (.skip)))
 (.seq (.region [⟨some 12, .off 1 (.tmp 1), none⟩,
  ⟨some 13, .load false 1 (.tmp 12), none⟩,
  ⟨some 2, .move (.tmp 13), none⟩])
 (.ret)))
theorem light46 : Light Try.prog 46 1 14 L46 [.tmp 2] :=
  ⟨Try.f46, _, Try.func46, rfl, rfl, by kernel_rfl, by kernel_rfl, by decide⟩

/-! ### function 47: (*outrider/pack.Reader).Uint -/
def L47_1 : LCode :=
 .seq (.region [⟨some 7, .bin .lss (.tmp 6) (.const (.int .i64 10)), none⟩])
 (.seq (.cond (.tmp 7) (.skip)
 (.exit 0))
 (.seq (.block 1 (.seq (.region [⟨some 8, .move (.tmp 6), none⟩,
  ⟨some 4, .move (.tmp 8), none⟩])
 (.seq (.region [⟨some 9, .move (.tmp 0), none⟩,
  ⟨some 10, .call 52 [.tmp 9], none⟩,
  ⟨some 5, .move (.tmp 10), none⟩])
 (.seq (.seq (.region [⟨some 11, .move (.tmp 0), none⟩,
  ⟨some 12, .nilCheck (.tmp 11), none⟩,
  ⟨some 13, .off 2 (.tmp 12), none⟩,
  ⟨some 14, .load false 1 (.tmp 13), none⟩,
  ⟨some 15, .bin .neq (.tmp 14) (.const (.int .i64 0)), none⟩])
 (.cond (.tmp 15) (.seq (.region [⟨some 2, .move (.const (.int .u64 0)), none⟩])
 (.ret))
 (.skip)))
 (.seq (.seq (.region [⟨some 16, .move (.tmp 4), none⟩,
  ⟨some 17, .bin .gtr (.tmp 16) (.const (.int .i64 0)), none⟩,
  ⟨some 18, .move (.tmp 17), none⟩,
  ⟨some 19, .move (.tmp 5), (some (18, true))⟩,
  ⟨some 20, .bin .eql (.tmp 19) (.const (.int .u8 0)), (some (18, true))⟩,
  ⟨some 21, .pick (.tmp 18) (.tmp 20) (.const (.bool false)), none⟩,
  ⟨some 22, .move (.tmp 21), none⟩,
  ⟨some 23, .move (.tmp 4), (some (22, false))⟩,
  ⟨some 24, .bin .eql (.tmp 23) (.const (.int .i64 9)), (some (22, false))⟩,
  ⟨some 25, .move (.tmp 24), (some (22, false))⟩,
  ⟨some 26, .move (.tmp 5), (some (25, true))⟩,
  ⟨some 27, .bin .gtr (.tmp 26) (.const (.int .u8 1)), (some (25, true))⟩,
  ⟨some 28, .pick (.tmp 25) (.tmp 27) (.const (.bool false)), (some (22, false))⟩,
  ⟨some 29, .pick (.tmp 22) (.const (.bool true)) (.tmp 28), none⟩])
 (.cond (.tmp 29) (.seq (.region [⟨some 30, .move (.tmp 0), none⟩,
  ⟨some 31, .call 49 [.tmp 30, .const (.int .i64 21)], none⟩])
 (.seq (.region [⟨some 2, .move (.const (.int .u64 0)), none⟩])
 (.ret)))
 (.skip)))
 (.seq (.region [⟨some 32, .move (.tmp 3), none⟩,
  ⟨some 33, .move (.tmp 5), none⟩,
  ⟨some 34, .bin .and (.tmp 33) (.const (.int .u8 127)), none⟩,
  ⟨some 35, .conv .u64 (.tmp 34), none⟩,
  ⟨some 36, .move (.tmp 4), none⟩,
  ⟨some 37, .bin .mul (.const (.int .i64 7)) (.tmp 36), none⟩,
  ⟨some 38, .bin .shl (.tmp 35) (.tmp 37), none⟩,
  ⟨some 39, .bin .or (.tmp 32) (.tmp 38), none⟩,
  ⟨some 3, .move (.tmp 39), none⟩])
 (.seq (.region [⟨some 40, .move (.tmp 5), none⟩,
  ⟨some 41, .bin .lss (.tmp 40) (.const (.int .u8 128)), none⟩])
 (.cond (.tmp 41) (.seq (.region [⟨some 42, .move (.tmp 3), none⟩,
  ⟨some 2, .move (.tmp 42), none⟩])
 (.ret))
 (.skip)))))))))
 (.region [⟨some 43, .bin .add (.tmp 6) (.const (.int .i64 1)), none⟩,
  ⟨some 6, .move (.tmp 43), none⟩])))
def L47 : LCode :=
 .seq (.region [⟨some 2, .move (.const (.int .u64 0)), none⟩])
 (.seq (.region [⟨some 3, .move (.const (.int .u64 0)), none⟩])
 (.seq (.seq (.region [⟨some 6, .move (.const (.int .i64 0)), none⟩])
 (.block 0 (.loop L47_1)))
 (.seq (.region [⟨some 44, .move (.tmp 3), none⟩,
  ⟨some 2, .move (.tmp 44), none⟩])
 (.ret))))
theorem light47 : Light Try.prog 47 1 45 L47 [.tmp 2] :=
  ⟨Try.f47, _, Try.func47, rfl, rfl, by kernel_rfl, by kernel_rfl, by decide⟩

/-! ### function 48: (*outrider/pack.Reader).Left -/
def L48 : LCode :=
 .seq (.region [⟨some 2, .move (.const (.int .i64 0)), none⟩])
 (.seq (.seq (.region [⟨some 3, .move (.tmp 0), none⟩,
  ⟨some 4, .nilCheck (.tmp 3), none⟩,
  ⟨some 5, .off 2 (.tmp 4), none⟩,
  ⟨some 6, .load false 1 (.tmp 5), none⟩,
  ⟨some 7, .bin .neq (.tmp 6) (.const (.int .i64 0)), none⟩])
 (.cond (.tmp 7) (.seq (.region [⟨some 2, .move (.const (.int .i64 0)), none⟩])
 (.ret))
 (.skip)))
 (.seq (.draw [⟨⟨some 8, .move (.tmp 0), none⟩, .pure, 0, 0⟩,
  ⟨⟨some 9, .nilCheck (.tmp 8), none⟩, .pure, 0, 0⟩,
  ⟨⟨some 10, .off 0 (.tmp 9), none⟩, .pure, 0, 0⟩,
  ⟨⟨some 11, .load false 1 (.tmp 10), none⟩, .read, 0, 0⟩,
  ⟨⟨some 12, .len (.tmp 11), none⟩, .pure, 0, 0⟩,
  ⟨⟨some 13, .move (.tmp 0), none⟩, .pure, 0, 0⟩,
  ⟨⟨some 14, .nilCheck (.tmp 13), none⟩, .pure, 0, 0⟩,
  ⟨⟨some 15, .off 1 (.tmp 14), none⟩, .pure, 0, 0⟩,
  ⟨⟨some 16, .load false 1 (.tmp 15), none⟩, .read, 0, 0⟩,
  ⟨⟨some 17, .bin .sub (.tmp 12) (.tmp 16), none⟩, .pure, 0, 0⟩,
  ⟨⟨some 2, .move (.tmp 17), none⟩, .pure, 0, 0⟩])
 (.ret)))
theorem light48 : Light Try.prog 48 1 18 L48 [.tmp 2] :=
  ⟨Try.f48, _, Try.func48, rfl, rfl, by kernel_rfl, by kernel_rfl, by decide⟩

/-! ### function 49: (*outrider/pack.Reader).stop -/
def L49 : LCode :=
 .seq (.region [⟨some 4, .move (.tmp 0), none⟩,
  ⟨some 5, .nilCheck (.tmp 4), none⟩,
  ⟨some 6, .off 2 (.tmp 5), none⟩,
  ⟨some 7, .load false 1 (.tmp 6), none⟩,
  ⟨some 8, .bin .eql (.tmp 7) (.const (.int .i64 0)), none⟩])
 (.cond (.tmp 8) (.region [⟨some 9, .move (.tmp 0), none⟩,
  ⟨some 10, .move (.tmp 1), none⟩,
  ⟨some 11, .nilCheck (.tmp 9), none⟩,
  ⟨some 12, .off 2 (.tmp 11), none⟩,
  ⟨none, .store 1 (.tmp 12) (.tmp 10), none⟩])
 (.skip))
theorem light49 : Light Try.prog 49 2 13 L49 [] :=
  ⟨Try.f49, _, Try.func49, rfl, rfl, by kernel_rfl, by kernel_rfl, by decide⟩

/-! ### function 50: outrider/outriderref02.TakeUint -/
def L50_1 : LCode :=
 .seq (.seq (.region [⟨some 8, .off 1 (.tmp 1), none⟩,
  ⟨some 9, .load false 1 (.tmp 8), none⟩,
  ⟨some 10, .bin .eql (.tmp 9) (.const (.int .i64 0)), none⟩])
 (.cond (.tmp 10) (.skip)
 (.exit 0)))
 (.seq (.block 1 (.seq (.region [⟨some 7, .move (.const (.int .u8 0)), none⟩])
 (.seq (.region [⟨some 14, .load true 2 (.tmp 1), none⟩,
  ⟨some 15, .call 53 [.tmp 14], none⟩,
  ⟨some 13, .move (.tmp 15), none⟩,
  ⟨some 16, .extract (.tmp 13) 0, none⟩,
  ⟨some 17, .extract (.tmp 13) 1, none⟩,
  ⟨none, .store 2 (.tmp 1) (.tmp 16), none⟩,
  ⟨some 7, .move (.tmp 17), none⟩])
 (.seq (.seq (.region [⟨some 18, .off 1 (.tmp 1), none⟩,
  ⟨some 19, .load false 1 (.tmp 18), none⟩,
  ⟨some 20, .bin .neq (.tmp 19) (.const (.int .i64 0)), none⟩])
 (.cond (.tmp 20) (.seq (.region [⟨some 21, .load true 2 (.tmp 1), none⟩,
  ⟨none, .store 2 (.tmp 2) (.tmp 21), none⟩,
  ⟨some 3, .move (.const (.int .u64 0)), none⟩])
 (.ret))
 (.skip)))
 (.seq (.seq (.region [⟨some 22, .move (.tmp 6), none⟩,
  ⟨some 23, .bin .gtr (.tmp 22) (.const (.int .i64 0)), none⟩,
  ⟨some 24, .move (.tmp 23), none⟩,
  ⟨some 25, .move (.tmp 7), (some (24, true))⟩,
  ⟨some 26, .bin .eql (.tmp 25) (.const (.int .u8 0)), (some (24, true))⟩,
  ⟨some 27, .pick (.tmp 24) (.tmp 26) (.const (.bool false)), none⟩,
  ⟨some 28, .move (.tmp 27), none⟩,
  ⟨some 29, .move (.tmp 6), (some (28, false))⟩,
  ⟨some 30, .bin .eql (.tmp 29) (.const (.int .i64 9)), (some (28, false))⟩,
  ⟨some 31, .move (.tmp 30), (some (28, false))⟩,
  ⟨some 32, .move (.tmp 7), (some (31, true))⟩,
  ⟨some 33, .bin .gtr (.tmp 32) (.const (.int .u8 1)), (some (31, true))⟩,
  ⟨some 34, .pick (.tmp 31) (.tmp 33) (.const (.bool false)), (some (28, false))⟩,
  ⟨some 35, .pick (.tmp 28) (.const (.bool true)) (.tmp 34), none⟩])
 (.cond (.tmp 35) (.seq (.region [⟨some 36, .off 1 (.tmp 1), none⟩,
  ⟨none, .store 1 (.tmp 36) (.const (.int .i64 21)), none⟩])
 (.seq (.region [⟨some 37, .load true 2 (.tmp 1), none⟩,
  ⟨none, .store 2 (.tmp 2) (.tmp 37), none⟩,
  ⟨some 3, .move (.const (.int .u64 0)), none⟩])
 (.ret)))
 (.skip)))
 (.seq (.region [⟨some 38, .move (.tmp 4), none⟩,
  ⟨some 39, .move (.tmp 7), none⟩,
  ⟨some 40, .bin .rem (.tmp 39) (.const (.int .u8 128)), none⟩,
  ⟨some 41, .conv .u64 (.tmp 40), none⟩,
  ⟨some 42, .move (.tmp 5), none⟩,
  ⟨some 43, .bin .mul (.tmp 41) (.tmp 42), none⟩,
  ⟨some 44, .bin .add (.tmp 38) (.tmp 43), none⟩,
  ⟨some 4, .move (.tmp 44), none⟩])
 (.seq (.region [⟨some 45, .move (.tmp 5), none⟩,
  ⟨some 46, .bin .mul (.tmp 45) (.const (.int .u64 128)), none⟩,
  ⟨some 5, .move (.tmp 46), none⟩])
 (.seq (.region [⟨some 47, .move (.tmp 7), none⟩,
  ⟨some 48, .bin .lss (.tmp 47) (.const (.int .u8 128)), none⟩])
 (.cond (.tmp 48) (.seq (.region [⟨some 49, .load true 2 (.tmp 1), none⟩,
  ⟨some 50, .move (.tmp 4), none⟩,
  ⟨none, .store 2 (.tmp 2) (.tmp 49), none⟩,
  ⟨some 3, .move (.tmp 50), none⟩])
 (.ret))
 (.skip))))))))))
 (.region [⟨some 11, .move (.tmp 6), none⟩,
  ⟨some 12, .bin .add (.tmp 11) (.const (.int .i64 1)), none⟩,
  ⟨some 6, .move (.tmp 12), none⟩]))
def L50 : LCode :=
 .seq (.region [⟨some 1, .box 80 2 (.tmp 0), none⟩,
  ⟨some 2, .new 80 2 [.slice none 0 0, .int .i64 0], none⟩,
  ⟨some 3, .move (.const (.int .u64 0)), none⟩])
 (.seq (.region [⟨some 4, .move (.const (.int .u64 0)), none⟩,
  ⟨some 5, .move (.const (.int .u64 1)), none⟩])
 (.seq (.seq (.region [⟨some 6, .move (.const (.int .i64 0)), none⟩])
 (.block 0 (.loop L50_1)))
 (.seq (.region [⟨some 51, .load true 2 (.tmp 1), none⟩,
  ⟨none, .store 2 (.tmp 2) (.tmp 51), none⟩,
  ⟨some 3, .move (.const (.int .u64 0)), none⟩])
 (.ret))))
theorem light50 : Light Try.prog 50 1 52 L50 [.cell 2 true 2, .tmp 3] :=
  ⟨Try.f50, _, Try.func50, rfl, rfl, by kernel_rfl, by kernel_rfl, by decide⟩

/-! ### function 51: outrider/outriderref02.TakeInt -/
def L51 : LCode :=
 .seq (.region [⟨some 1, .box 80 2 (.tmp 0), none⟩,
  ⟨some 2, .new 80 2 [.slice none 0 0, .int .i64 0], none⟩,
  ⟨some 3, .move (.const (.int .i64 0)), none⟩])
 (.seq (.region [⟨some 6, .load true 2 (.tmp 1), none⟩,
  ⟨some 7, .call 50 [.tmp 6], none⟩,
  ⟨some 5, .move (.tmp 7), none⟩,
  ⟨some 8, .extract (.tmp 5) 0, none⟩,
  ⟨some 9, .extract (.tmp 5) 1, none⟩,
  ⟨none, .store 2 (.tmp 1) (.tmp 8), none⟩,
  ⟨some 4, .move (.tmp 9), none⟩])
 (.seq (.seq (.region [⟨some 10, .move (.tmp 4), none⟩,
  ⟨some 11, .bin .rem (.tmp 10) (.const (.int .u64 2)), none⟩,
  ⟨some 12, .bin .eql (.tmp 11) (.const (.int .u64 0)), none⟩])
 (.cond (.tmp 12) (.seq (.region [⟨some 13, .load true 2 (.tmp 1), none⟩,
  ⟨some 14, .move (.tmp 4), none⟩,
  ⟨some 15, .bin .quo (.tmp 14) (.const (.int .u64 2)), none⟩,
  ⟨some 16, .conv .i64 (.tmp 15), none⟩,
  ⟨none, .store 2 (.tmp 2) (.tmp 13), none⟩,
  ⟨some 3, .move (.tmp 16), none⟩])
 (.ret))
 (.skip)))
 (.seq (.region [⟨some 17, .load true 2 (.tmp 1), none⟩,
  ⟨some 18, .move (.tmp 4), none⟩,
  ⟨some 19, .bin .quo (.tmp 18) (.const (.int .u64 2)), none⟩,
  ⟨some 20, .conv .i64 (.tmp 19), none⟩,
  ⟨some 21, .un .neg (.tmp 20), none⟩,
  ⟨some 22, .bin .sub (.tmp 21) (.const (.int .i64 1)), none⟩,
  ⟨none, .store 2 (.tmp 2) (.tmp 17), none⟩,
  ⟨some 3, .move (.tmp 22), none⟩])
 (.ret))))
theorem light51 : Light Try.prog 51 1 23 L51 [.cell 2 true 2, .tmp 3] :=
  ⟨Try.f51, _, Try.func51, rfl, rfl, by kernel_rfl, by kernel_rfl, by decide⟩

/-! ### function 52: (*outrider/pack.Reader).next -/
def L52 : LCode :=
 .seq (.region [⟨some 2, .move (.const (.int .u8 0)), none⟩])
 (.seq (.seq (.draw [⟨⟨some 3, .move (.tmp 0), none⟩, .pure, 0, 0⟩,
  ⟨⟨some 4, .nilCheck (.tmp 3), none⟩, .pure, 0, 0⟩,
  ⟨⟨some 5, .off 2 (.tmp 4), none⟩, .pure, 0, 0⟩,
  ⟨⟨some 6, .load false 1 (.tmp 5), none⟩, .read, 0, 0⟩,
  ⟨⟨some 7, .bin .eql (.tmp 6) (.const (.int .i64 0)), none⟩, .pure, 0, 0⟩,
  ⟨⟨some 8, .move (.tmp 7), none⟩, .pure, 0, 0⟩,
  ⟨⟨some 9, .move (.tmp 0), (some (8, true))⟩, .pure, 0, 0⟩,
  ⟨⟨some 10, .nilCheck (.tmp 9), (some (8, true))⟩, .pure, 0, 0⟩,
  ⟨⟨some 11, .off 1 (.tmp 10), (some (8, true))⟩, .pure, 0, 0⟩,
  ⟨⟨some 12, .load false 1 (.tmp 11), (some (8, true))⟩, .read, 0, 0⟩,
  ⟨⟨some 13, .move (.tmp 0), (some (8, true))⟩, .pure, 0, 0⟩,
  ⟨⟨some 14, .nilCheck (.tmp 13), (some (8, true))⟩, .pure, 0, 0⟩,
  ⟨⟨some 15, .off 0 (.tmp 14), (some (8, true))⟩, .pure, 0, 0⟩,
  ⟨⟨some 16, .load false 1 (.tmp 15), (some (8, true))⟩, .read, 0, 0⟩,
  ⟨⟨some 17, .len (.tmp 16), (some (8, true))⟩, .pure, 0, 0⟩,
  ⟨⟨some 18, .bin .eql (.tmp 12) (.tmp 17), (some (8, true))⟩, .pure, 0, 0⟩,
  ⟨⟨some 19, .pick (.tmp 8) (.tmp 18) (.const (.bool false)), none⟩, .pure, 0, 0⟩])
 (.cond (.tmp 19) (.region [⟨some 20, .move (.tmp 0), none⟩,
  ⟨some 21, .call 49 [.tmp 20, .const (.int .i64 20)], none⟩])
 (.skip)))
 (.seq (.seq (.region [⟨some 22, .move (.tmp 0), none⟩,
  ⟨some 23, .nilCheck (.tmp 22), none⟩,
  ⟨some 24, .off 2 (.tmp 23), none⟩,
  ⟨some 25, .load false 1 (.tmp 24), none⟩,
  ⟨some 26, .bin .neq (.tmp 25) (.const (.int .i64 0)), none⟩])
 (.cond (.tmp 26) (.seq (.region [⟨some 2, .move (.const (.int .u8 0)), none⟩])
 (.ret))
 (.skip)))
 (.seq (.region [⟨some 27, .move (.tmp 0), none⟩,
  ⟨some 28, .nilCheck (.tmp 27), none⟩,
  ⟨some 29, .off 1 (.tmp 28), none⟩,
  ⟨some 30, .load false 1 (.tmp 29), none⟩,
  ⟨some 31, .bin .add (.tmp 30) (.const (.int .i64 1)), none⟩,
  ⟨some 32, .nilCheck (.tmp 27), none⟩,
  ⟨some 33, .off 1 (.tmp 32), none⟩,
  ⟨none, .store 1 (.tmp 33) (.tmp 31), none⟩])
 (.seq (.draw [⟨⟨some 34, .move (.tmp 0), none⟩, .pure, 0, 0⟩,
  ⟨⟨some 35, .nilCheck (.tmp 34), none⟩, .pure, 0, 0⟩,
  ⟨⟨some 36, .off 0 (.tmp 35), none⟩, .pure, 0, 0⟩,
  ⟨⟨some 37, .load false 1 (.tmp 36), none⟩, .read, 0, 0⟩,
  ⟨⟨some 38, .move (.tmp 0), none⟩, .pure, 0, 0⟩,
  ⟨⟨some 39, .nilCheck (.tmp 38), none⟩, .pure, 0, 0⟩,
  ⟨⟨some 40, .off 1 (.tmp 39), none⟩, .pure, 0, 0⟩,
  ⟨⟨some 41, .load false 1 (.tmp 40), none⟩, .read, 0, 0⟩,
  ⟨⟨some 42, .bin .sub (.tmp 41) (.const (.int .i64 1)), none⟩, .pure, 0, 0⟩,
  ⟨⟨some 43, .idx 1 (.tmp 37) (.tmp 42), none⟩, .pure, 0, 0⟩,
  ⟨⟨some 44, .load false 1 (.tmp 43), none⟩, .read, 0, 0⟩,
  ⟨⟨some 2, .move (.tmp 44), none⟩, .pure, 0, 0⟩])
 (.ret)))))
theorem light52 : Light Try.prog 52 1 45 L52 [.tmp 2] :=
  ⟨Try.f52, _, Try.func52, rfl, rfl, by kernel_rfl, by kernel_rfl, by decide⟩

/-! ### function 53: outrider/outriderref02.Byte -/
def L53 : LCode :=
 .seq (.region [⟨some 1, .box 80 2 (.tmp 0), none⟩,
  ⟨some 2, .new 80 2 [.slice none 0 0, .int .i64 0], none⟩,
  ⟨some 3, .move (.const (.int .u8 0)), none⟩])
 (.seq (.seq (.region [⟨some 5, .off 1 (.tmp 1), none⟩,
  ⟨some 6, .load false 1 (.tmp 5), none⟩,
  ⟨some 7, .bin .neq (.tmp 6) (.const (.int .i64 0)), none⟩])
 (.cond (.tmp 7) (.seq (.region [⟨some 8, .load true 2 (.tmp 1), none⟩,
  ⟨none, .store 2 (.tmp 2) (.tmp 8), none⟩,
  ⟨some 3, .move (.const (.int .u8 0)), none⟩])
 (.ret))
 (.skip)))
 (.seq (.seq (.region [⟨some 9, .off 0 (.tmp 1), none⟩,
  ⟨some 10, .load false 1 (.tmp 9), none⟩,
  ⟨some 11, .len (.tmp 10), none⟩,
  ⟨some 12, .bin .eql (.tmp 11) (.const (.int .i64 0)), none⟩])
 (.cond (.tmp 12) (.seq (.region [⟨some 13, .off 1 (.tmp 1), none⟩,
  ⟨none, .store 1 (.tmp 13) (.const (.int .i64 20)), none⟩])
 (.seq (.region [⟨some 14, .load true 2 (.tmp 1), none⟩,
  ⟨none, .store 2 (.tmp 2) (.tmp 14), none⟩,
  ⟨some 3, .move (.const (.int .u8 0)), none⟩])
 (.ret)))
 (.skip)))
 (.seq (.region [⟨some 15, .off 0 (.tmp 1), none⟩,
  ⟨some 16, .load false 1 (.tmp 15), none⟩,
  ⟨some 17, .idx 1 (.tmp 16) (.const (.int .i64 0)), none⟩,
  ⟨some 18, .load false 1 (.tmp 17), none⟩,
  ⟨some 4, .move (.tmp 18), none⟩])
 (.seq (.region [⟨some 19, .off 0 (.tmp 1), none⟩,
  ⟨some 20, .load false 1 (.tmp 19), none⟩,
  ⟨some 21, .slice 1 (.tmp 20) (some (.const (.int .i64 1))) none none, none⟩,
  ⟨some 22, .off 0 (.tmp 1), none⟩,
  ⟨none, .store 1 (.tmp 22) (.tmp 21), none⟩])
 (.seq (.region [⟨some 23, .load true 2 (.tmp 1), none⟩,
  ⟨some 24, .move (.tmp 4), none⟩,
  ⟨none, .store 2 (.tmp 2) (.tmp 23), none⟩,
  ⟨some 3, .move (.tmp 24), none⟩])
 (.ret))))))
theorem light53 : Light Try.prog 53 1 25 L53 [.cell 2 true 2, .tmp 3] :=
  ⟨Try.f53, _, Try.func53, rfl, rfl, by kernel_rfl, by kernel_rfl, by decide⟩

end Go.Proofs.Ytkocomnfomjfiaa
