/-
  The light code of functions of this seat: printed by a program of this session (wip/tools/lightgen.py); each is held against the program by the kernel.
-/
import Derived.Test.YtfddocdhjjnajaaOtT
import Derived.KernelRfl
import Derived.Test.YtfddocdhjjnajaaProg
set_option maxRecDepth 100000
namespace Go.Proofs.Ytfddocdhjjnajaa
open Go.Ot

/-! ### function 3: outrider/outriderlaw20.ArenaOnce -/
def L3_1 : LCode :=
 .seq (.seq (.region [⟨some 35, .move (.tmp 9), none⟩,
  ⟨some 36, .move (.tmp 1), none⟩,
  ⟨some 37, .len (.tmp 36), none⟩,
  ⟨some 38, .bin .lss (.tmp 35) (.tmp 37), none⟩])
 (.cond (.tmp 38) (.skip)
 (.exit 0)))
 (.seq (.block 1 (.seq (.seq (.region [⟨some 41, .move (.tmp 1), none⟩,
  ⟨some 42, .move (.tmp 9), none⟩,
  ⟨some 43, .idx 1 (.tmp 41) (.tmp 42), none⟩,
  ⟨some 44, .load false 1 (.tmp 43), none⟩,
  ⟨some 45, .bin .geq (.tmp 44) (.const (.int .i64 0)), none⟩])
 (.cond (.tmp 45) (.seq (.region [⟨some 46, .move (.tmp 1), none⟩,
  ⟨some 47, .move (.tmp 9), none⟩,
  ⟨some 48, .idx 1 (.tmp 46) (.tmp 47), none⟩,
  ⟨some 49, .load false 1 (.tmp 48), none⟩,
  ⟨some 50, .move (.tmp 0), none⟩,
  ⟨some 51, .bin .lss (.tmp 49) (.tmp 50), none⟩,
  ⟨some 52, .move (.tmp 51), none⟩,
  ⟨some 53, .move (.tmp 7), (some (52, true))⟩,
  ⟨some 54, .move (.tmp 1), (some (52, true))⟩,
  ⟨some 55, .move (.tmp 9), (some (52, true))⟩,
  ⟨some 56, .idx 1 (.tmp 54) (.tmp 55), (some (52, true))⟩,
  ⟨some 57, .load false 1 (.tmp 56), (some (52, true))⟩,
  ⟨some 58, .idx 1 (.tmp 53) (.tmp 57), (some (52, true))⟩,
  ⟨some 59, .load false 1 (.tmp 58), (some (52, true))⟩,
  ⟨some 60, .pick (.tmp 52) (.tmp 59) (.const (.bool false)), none⟩,
  ⟨some 10, .move (.tmp 60), none⟩])
 (.seq (.seq (.region [⟨some 61, .move (.tmp 5), none⟩,
  ⟨some 62, .move (.tmp 1), none⟩,
  ⟨some 63, .move (.tmp 9), none⟩,
  ⟨some 64, .idx 1 (.tmp 62) (.tmp 63), none⟩,
  ⟨some 65, .load false 1 (.tmp 64), none⟩,
  ⟨some 66, .call 8 [.tmp 61, .tmp 65], none⟩,
  ⟨some 67, .bin .eql (.tmp 66) (.const (.int .i64 0)), none⟩,
  ⟨some 68, .move (.tmp 10), none⟩,
  ⟨some 69, .eqB true (.tmp 67) (.tmp 68), none⟩])
 (.cond (.tmp 69) (.seq (.region [⟨some 4, .move (.const (.bool false)), none⟩])
 (.ret))
 (.skip)))
 (.seq (.seq (.region [⟨some 70, .move (.tmp 10), none⟩])
 (.cond (.tmp 70) (.seq (.region [⟨some 71, .move (.tmp 7), none⟩,
  ⟨some 72, .move (.tmp 1), none⟩,
  ⟨some 73, .move (.tmp 9), none⟩,
  ⟨some 74, .idx 1 (.tmp 72) (.tmp 73), none⟩,
  ⟨some 75, .load false 1 (.tmp 74), none⟩,
  ⟨some 76, .idx 1 (.tmp 71) (.tmp 75), none⟩,
  ⟨none, .store 1 (.tmp 76) (.const (.bool false)), none⟩])
 (.region [⟨some 77, .move (.tmp 8), none⟩,
  ⟨some 78, .bin .sub (.tmp 77) (.const (.int .i64 1)), none⟩,
  ⟨some 8, .move (.tmp 78), none⟩]))
 (.skip)))
 (.exit 1))))
 (.skip)))
 (.seq (.region [⟨some 80, .move (.tmp 5), none⟩,
  ⟨some 81, .call 9 [.tmp 80], none⟩,
  ⟨some 79, .move (.tmp 81), none⟩,
  ⟨some 82, .extract (.tmp 79) 0, none⟩,
  ⟨some 83, .extract (.tmp 79) 1, none⟩,
  ⟨some 11, .move (.tmp 82), none⟩,
  ⟨some 12, .move (.tmp 83), none⟩])
 (.seq (.seq (.region [⟨some 84, .move (.tmp 12), none⟩,
  ⟨some 85, .bin .neq (.tmp 84) (.const (.int .i64 0)), none⟩])
 (.cond (.tmp 85) (.seq (.seq (.region [⟨some 86, .move (.tmp 12), none⟩,
  ⟨some 87, .bin .neq (.tmp 86) (.const (.int .i64 200)), none⟩,
  ⟨some 88, .move (.tmp 87), none⟩,
  ⟨some 89, .move (.tmp 8), (some (88, false))⟩,
  ⟨some 90, .move (.tmp 0), (some (88, false))⟩,
  ⟨some 91, .bin .neq (.tmp 89) (.tmp 90), (some (88, false))⟩,
  ⟨some 92, .pick (.tmp 88) (.const (.bool true)) (.tmp 91), none⟩,
  ⟨some 93, .move (.tmp 92), none⟩,
  ⟨some 94, .move (.tmp 11), (some (93, false))⟩,
  ⟨some 95, .bin .neq (.tmp 94) (.const (.int .i64 0)), (some (93, false))⟩,
  ⟨some 96, .pick (.tmp 93) (.const (.bool true)) (.tmp 95), none⟩])
 (.cond (.tmp 96) (.seq (.region [⟨some 4, .move (.const (.bool false)), none⟩])
 (.ret))
 (.skip)))
 (.exit 1))
 (.skip)))
 (.seq (.seq (.region [⟨some 97, .move (.tmp 11), none⟩,
  ⟨some 98, .bin .lss (.tmp 97) (.const (.int .i64 0)), none⟩,
  ⟨some 99, .move (.tmp 98), none⟩,
  ⟨some 100, .move (.tmp 11), (some (99, false))⟩,
  ⟨some 101, .move (.tmp 0), (some (99, false))⟩,
  ⟨some 102, .bin .geq (.tmp 100) (.tmp 101), (some (99, false))⟩,
  ⟨some 103, .pick (.tmp 99) (.const (.bool true)) (.tmp 102), none⟩,
  ⟨some 104, .move (.tmp 103), none⟩,
  ⟨some 105, .move (.tmp 7), (some (104, false))⟩,
  ⟨some 106, .move (.tmp 11), (some (104, false))⟩,
  ⟨some 107, .idx 1 (.tmp 105) (.tmp 106), (some (104, false))⟩,
  ⟨some 108, .load false 1 (.tmp 107), (some (104, false))⟩,
  ⟨some 109, .pick (.tmp 104) (.const (.bool true)) (.tmp 108), none⟩])
 (.cond (.tmp 109) (.seq (.region [⟨some 4, .move (.const (.bool false)), none⟩])
 (.ret))
 (.skip)))
 (.seq (.region [⟨some 110, .move (.tmp 7), none⟩,
  ⟨some 111, .move (.tmp 11), none⟩,
  ⟨some 112, .idx 1 (.tmp 110) (.tmp 111), none⟩,
  ⟨none, .store 1 (.tmp 112) (.const (.bool true)), none⟩])
 (.region [⟨some 113, .move (.tmp 8), none⟩,
  ⟨some 114, .bin .add (.tmp 113) (.const (.int .i64 1)), none⟩,
  ⟨some 8, .move (.tmp 114), none⟩])))))))
 (.region [⟨some 39, .move (.tmp 9), none⟩,
  ⟨some 40, .bin .add (.tmp 39) (.const (.int .i64 1)), none⟩,
  ⟨some 9, .move (.tmp 40), none⟩]))
def L3_2 : LCode :=
 .seq (.seq (.region [⟨some 115, .move (.tmp 13), none⟩,
  ⟨some 116, .move (.tmp 0), none⟩,
  ⟨some 117, .bin .lss (.tmp 115) (.tmp 116), none⟩])
 (.cond (.tmp 117) (.skip)
 (.exit 2)))
 (.seq (.block 3 (.seq (.draw [⟨⟨some 120, .move (.tmp 5), none⟩, .pure, 0, 0⟩,
  ⟨⟨some 121, .move (.tmp 13), none⟩, .pure, 0, 0⟩,
  ⟨⟨some 122, .call 10 [.tmp 120, .tmp 121], none⟩, .heavy, 0, 1⟩,
  ⟨⟨some 123, .move (.tmp 7), none⟩, .pure, 0, 1⟩,
  ⟨⟨some 124, .move (.tmp 13), none⟩, .pure, 0, 1⟩,
  ⟨⟨some 125, .idx 1 (.tmp 123) (.tmp 124), none⟩, .pure, 0, 1⟩,
  ⟨⟨some 126, .load false 1 (.tmp 125), none⟩, .read, 0, 1⟩,
  ⟨⟨some 127, .eqB true (.tmp 122) (.tmp 126), none⟩, .pure, 1, 1⟩])
 (.cond (.tmp 127) (.seq (.region [⟨some 4, .move (.const (.bool false)), none⟩])
 (.ret))
 (.skip))))
 (.region [⟨some 118, .move (.tmp 13), none⟩,
  ⟨some 119, .bin .add (.tmp 118) (.const (.int .i64 1)), none⟩,
  ⟨some 13, .move (.tmp 119), none⟩]))
def L3 : LCode :=
 .seq (.region [⟨some 4, .move (.const (.bool false)), none⟩])
 (.seq (.seq (.region [⟨some 14, .move (.tmp 1), none⟩,
  ⟨some 15, .len (.tmp 14), none⟩,
  ⟨some 16, .bin .gtr (.tmp 15) (.const (.int .i64 300)), none⟩])
 (.cond (.tmp 16) (.seq (.region [⟨some 4, .move (.const (.bool true)), none⟩])
 (.ret))
 (.skip)))
 (.seq (.region [⟨some 18, .move (.tmp 0), none⟩,
  ⟨some 19, .call 6 [.tmp 18], none⟩,
  ⟨some 17, .move (.tmp 19), none⟩,
  ⟨some 20, .extract (.tmp 17) 0, none⟩,
  ⟨some 21, .extract (.tmp 17) 1, none⟩,
  ⟨some 5, .move (.tmp 20), none⟩,
  ⟨some 6, .move (.tmp 21), none⟩])
 (.seq (.seq (.region [⟨some 22, .move (.tmp 6), none⟩,
  ⟨some 23, .bin .neq (.tmp 22) (.const (.int .i64 0)), none⟩,
  ⟨some 24, .move (.tmp 23), none⟩,
  ⟨some 25, .move (.tmp 5), (some (24, false))⟩,
  ⟨some 26, .isNil false (.pointer 44) (.tmp 25), (some (24, false))⟩,
  ⟨some 27, .pick (.tmp 24) (.const (.bool true)) (.tmp 26), none⟩])
 (.cond (.tmp 27) (.seq (.region [⟨some 28, .move (.tmp 5), none⟩,
  ⟨some 29, .isNil false (.pointer 44) (.tmp 28), none⟩,
  ⟨some 30, .move (.tmp 29), none⟩,
  ⟨some 31, .call 7 [], (some (30, true))⟩,
  ⟨some 32, .pick (.tmp 30) (.tmp 31) (.const (.bool false)), none⟩,
  ⟨some 4, .move (.tmp 32), none⟩])
 (.ret))
 (.skip)))
 (.seq (.region [⟨some 33, .move (.tmp 0), none⟩,
  ⟨some 34, .make 4 1 1 [.bool false] (.tmp 33) (.tmp 33), none⟩,
  ⟨some 7, .move (.tmp 34), none⟩])
 (.seq (.region [⟨some 8, .move (.const (.int .i64 0)), none⟩])
 (.seq (.seq (.region [⟨some 9, .move (.const (.int .i64 0)), none⟩])
 (.block 0 (.loop L3_1)))
 (.seq (.seq (.region [⟨some 13, .move (.const (.int .i64 0)), none⟩])
 (.block 2 (.loop L3_2)))
 (.seq (.region [⟨some 128, .move (.tmp 5), none⟩,
  ⟨some 129, .call 11 [.tmp 128], none⟩,
  ⟨some 130, .move (.tmp 8), none⟩,
  ⟨some 131, .bin .eql (.tmp 129) (.tmp 130), none⟩,
  ⟨some 132, .move (.tmp 131), none⟩,
  ⟨some 133, .move (.tmp 5), (some (132, true))⟩,
  ⟨some 134, .call 12 [.tmp 133], (some (132, true))⟩,
  ⟨some 135, .move (.tmp 0), (some (132, true))⟩,
  ⟨some 136, .move (.tmp 8), (some (132, true))⟩,
  ⟨some 137, .bin .sub (.tmp 135) (.tmp 136), (some (132, true))⟩,
  ⟨some 138, .bin .eql (.tmp 134) (.tmp 137), (some (132, true))⟩,
  ⟨some 139, .pick (.tmp 132) (.tmp 138) (.const (.bool false)), none⟩,
  ⟨some 140, .move (.tmp 139), none⟩,
  ⟨some 141, .move (.tmp 5), (some (140, true))⟩,
  ⟨some 142, .call 10 [.tmp 141, .const (.int .i64 (-1))], (some (140, true))⟩,
  ⟨some 143, .un .not (.tmp 142), (some (140, true))⟩,
  ⟨some 144, .pick (.tmp 140) (.tmp 143) (.const (.bool false)), none⟩,
  ⟨some 145, .move (.tmp 144), none⟩,
  ⟨some 146, .move (.tmp 5), (some (145, true))⟩,
  ⟨some 147, .move (.tmp 0), (some (145, true))⟩,
  ⟨some 148, .call 10 [.tmp 146, .tmp 147], (some (145, true))⟩,
  ⟨some 149, .un .not (.tmp 148), (some (145, true))⟩,
  ⟨some 150, .pick (.tmp 145) (.tmp 149) (.const (.bool false)), none⟩,
  ⟨some 151, .move (.tmp 150), none⟩,
  ⟨some 152, .call 7 [], (some (151, true))⟩,
  ⟨some 153, .pick (.tmp 151) (.tmp 152) (.const (.bool false)), none⟩,
  ⟨some 4, .move (.tmp 153), none⟩])
 (.ret)))))))))
theorem light3 : Light Try.prog 3 2 154 L3 [.tmp 4] :=
  ⟨Try.f3, _, Try.func3, rfl, rfl, by kernel_rfl, by kernel_rfl, by decide⟩

/-! ### function 4: outrider/outriderlaw20.ArenaFills -/
def L4_1 : LCode :=
 .seq (.seq (.region [⟨some 38, .move (.tmp 5), none⟩,
  ⟨some 39, .move (.tmp 0), none⟩,
  ⟨some 40, .bin .lss (.tmp 38) (.tmp 39), none⟩])
 (.cond (.tmp 40) (.skip)
 (.exit 0)))
 (.seq (.block 1 (.seq (.region [⟨some 44, .move (.tmp 3), none⟩,
  ⟨some 45, .call 9 [.tmp 44], none⟩,
  ⟨some 43, .move (.tmp 45), none⟩,
  ⟨some 46, .extract (.tmp 43) 0, none⟩,
  ⟨some 47, .extract (.tmp 43) 1, none⟩,
  ⟨some 6, .move (.tmp 46), none⟩,
  ⟨some 7, .move (.tmp 47), none⟩])
 (.seq (.region [⟨some 48, .move (.tmp 6), none⟩,
  ⟨some 49, .move (.tmp 5), none⟩,
  ⟨some 50, .bin .neq (.tmp 48) (.tmp 49), none⟩,
  ⟨some 51, .move (.tmp 50), none⟩,
  ⟨some 52, .move (.tmp 7), (some (51, false))⟩,
  ⟨some 53, .bin .neq (.tmp 52) (.const (.int .i64 0)), (some (51, false))⟩,
  ⟨some 54, .pick (.tmp 51) (.const (.bool true)) (.tmp 53), none⟩])
 (.cond (.tmp 54) (.seq (.region [⟨some 2, .move (.const (.bool false)), none⟩])
 (.ret))
 (.skip)))))
 (.region [⟨some 41, .move (.tmp 5), none⟩,
  ⟨some 42, .bin .add (.tmp 41) (.const (.int .i64 1)), none⟩,
  ⟨some 5, .move (.tmp 42), none⟩]))
def L4_2 : LCode :=
 .seq (.seq (.region [⟨some 60, .move (.tmp 10), none⟩,
  ⟨some 61, .move (.tmp 0), none⟩,
  ⟨some 62, .bin .lss (.tmp 60) (.tmp 61), none⟩])
 (.cond (.tmp 62) (.skip)
 (.exit 2)))
 (.seq (.block 3 (.seq (.region [⟨some 65, .move (.tmp 3), none⟩,
  ⟨some 66, .move (.tmp 10), none⟩,
  ⟨some 67, .call 8 [.tmp 65, .tmp 66], none⟩,
  ⟨some 68, .bin .neq (.tmp 67) (.const (.int .i64 0)), none⟩])
 (.cond (.tmp 68) (.seq (.region [⟨some 2, .move (.const (.bool false)), none⟩])
 (.ret))
 (.skip))))
 (.region [⟨some 63, .move (.tmp 10), none⟩,
  ⟨some 64, .bin .add (.tmp 63) (.const (.int .i64 1)), none⟩,
  ⟨some 10, .move (.tmp 64), none⟩]))
def L4_3 : LCode :=
 .seq (.seq (.region [⟨some 71, .move (.tmp 11), none⟩,
  ⟨some 72, .bin .geq (.tmp 71) (.const (.int .i64 0)), none⟩])
 (.cond (.tmp 72) (.skip)
 (.exit 4)))
 (.seq (.block 5 (.seq (.region [⟨some 76, .move (.tmp 3), none⟩,
  ⟨some 77, .call 9 [.tmp 76], none⟩,
  ⟨some 75, .move (.tmp 77), none⟩,
  ⟨some 78, .extract (.tmp 75) 0, none⟩,
  ⟨some 79, .extract (.tmp 75) 1, none⟩,
  ⟨some 12, .move (.tmp 78), none⟩,
  ⟨some 13, .move (.tmp 79), none⟩])
 (.seq (.region [⟨some 80, .move (.tmp 12), none⟩,
  ⟨some 81, .move (.tmp 11), none⟩,
  ⟨some 82, .bin .neq (.tmp 80) (.tmp 81), none⟩,
  ⟨some 83, .move (.tmp 82), none⟩,
  ⟨some 84, .move (.tmp 13), (some (83, false))⟩,
  ⟨some 85, .bin .neq (.tmp 84) (.const (.int .i64 0)), (some (83, false))⟩,
  ⟨some 86, .pick (.tmp 83) (.const (.bool true)) (.tmp 85), none⟩])
 (.cond (.tmp 86) (.seq (.region [⟨some 2, .move (.const (.bool false)), none⟩])
 (.ret))
 (.skip)))))
 (.region [⟨some 73, .move (.tmp 11), none⟩,
  ⟨some 74, .bin .sub (.tmp 73) (.const (.int .i64 1)), none⟩,
  ⟨some 11, .move (.tmp 74), none⟩]))
def L4 : LCode :=
 .seq (.region [⟨some 2, .move (.const (.bool false)), none⟩])
 (.seq (.region [⟨some 15, .move (.tmp 0), none⟩,
  ⟨some 16, .call 6 [.tmp 15], none⟩,
  ⟨some 14, .move (.tmp 16), none⟩,
  ⟨some 17, .extract (.tmp 14) 0, none⟩,
  ⟨some 18, .extract (.tmp 14) 1, none⟩,
  ⟨some 3, .move (.tmp 17), none⟩,
  ⟨some 4, .move (.tmp 18), none⟩])
 (.seq (.seq (.region [⟨some 19, .move (.tmp 4), none⟩,
  ⟨some 20, .bin .neq (.tmp 19) (.const (.int .i64 0)), none⟩,
  ⟨some 21, .move (.tmp 20), none⟩,
  ⟨some 22, .move (.tmp 3), (some (21, false))⟩,
  ⟨some 23, .isNil false (.pointer 44) (.tmp 22), (some (21, false))⟩,
  ⟨some 24, .pick (.tmp 21) (.const (.bool true)) (.tmp 23), none⟩])
 (.cond (.tmp 24) (.seq (.region [⟨some 25, .move (.tmp 3), none⟩,
  ⟨some 26, .isNil false (.pointer 44) (.tmp 25), none⟩,
  ⟨some 27, .move (.tmp 26), none⟩,
  ⟨some 28, .move (.tmp 0), (some (27, true))⟩,
  ⟨some 29, .bin .lss (.tmp 28) (.const (.int .i64 1)), (some (27, true))⟩,
  ⟨some 30, .move (.tmp 29), (some (27, true))⟩,
  ⟨some 31, .move (.tmp 0), (some (30, false))⟩,
  ⟨some 32, .bin .gtr (.tmp 31) (.const (.int .i64 512)), (some (30, false))⟩,
  ⟨some 33, .pick (.tmp 30) (.const (.bool true)) (.tmp 32), (some (27, true))⟩,
  ⟨some 34, .pick (.tmp 27) (.tmp 33) (.const (.bool false)), none⟩,
  ⟨some 35, .move (.tmp 34), none⟩,
  ⟨some 36, .call 7 [], (some (35, true))⟩,
  ⟨some 37, .pick (.tmp 35) (.tmp 36) (.const (.bool false)), none⟩,
  ⟨some 2, .move (.tmp 37), none⟩])
 (.ret))
 (.skip)))
 (.seq (.seq (.region [⟨some 5, .move (.const (.int .i64 0)), none⟩])
 (.block 0 (.loop L4_1)))
 (.seq (.region [⟨some 56, .move (.tmp 3), none⟩,
  ⟨some 57, .call 9 [.tmp 56], none⟩,
  ⟨some 55, .move (.tmp 57), none⟩,
  ⟨some 58, .extract (.tmp 55) 0, none⟩,
  ⟨some 59, .extract (.tmp 55) 1, none⟩,
  ⟨some 8, .move (.tmp 58), none⟩,
  ⟨some 9, .move (.tmp 59), none⟩])
 (.seq (.seq (.region [⟨some 10, .move (.const (.int .i64 0)), none⟩])
 (.block 2 (.loop L4_2)))
 (.seq (.seq (.region [⟨some 69, .move (.tmp 0), none⟩,
  ⟨some 70, .bin .sub (.tmp 69) (.const (.int .i64 1)), none⟩,
  ⟨some 11, .move (.tmp 70), none⟩])
 (.block 4 (.loop L4_3)))
 (.seq (.region [⟨some 87, .move (.tmp 9), none⟩,
  ⟨some 88, .bin .eql (.tmp 87) (.const (.int .i64 200)), none⟩,
  ⟨some 89, .move (.tmp 88), none⟩,
  ⟨some 90, .call 7 [], (some (89, true))⟩,
  ⟨some 91, .pick (.tmp 89) (.tmp 90) (.const (.bool false)), none⟩,
  ⟨some 2, .move (.tmp 91), none⟩])
 (.ret))))))))
theorem light4 : Light Try.prog 4 1 92 L4 [.tmp 2] :=
  ⟨Try.f4, _, Try.func4, rfl, rfl, by kernel_rfl, by kernel_rfl, by decide⟩

/-! ### function 5: outrider/outriderlaw20.ArenaPlays -/
def L5_1 : LCode :=
 .seq (.seq (.region [⟨some 117, .move (.tmp 17), none⟩,
  ⟨some 118, .move (.tmp 16), none⟩,
  ⟨some 119, .len (.tmp 118), none⟩,
  ⟨some 120, .bin .lss (.tmp 117) (.tmp 119), none⟩])
 (.cond (.tmp 120) (.skip)
 (.exit 2)))
 (.seq (.block 3 (.seq (.draw [⟨⟨some 123, .move (.tmp 16), none⟩, .pure, 0, 0⟩,
  ⟨⟨some 124, .move (.tmp 17), none⟩, .pure, 0, 0⟩,
  ⟨⟨some 125, .idx 1 (.tmp 123) (.tmp 124), none⟩, .pure, 0, 0⟩,
  ⟨⟨some 126, .load false 1 (.tmp 125), none⟩, .read, 0, 0⟩,
  ⟨⟨some 127, .off 1 (.tmp 7), none⟩, .pure, 0, 0⟩,
  ⟨⟨some 128, .load false 1 (.tmp 127), none⟩, .read, 0, 0⟩,
  ⟨⟨some 129, .move (.tmp 17), none⟩, .pure, 0, 0⟩,
  ⟨⟨some 130, .idx 1 (.tmp 128) (.tmp 129), none⟩, .pure, 0, 0⟩,
  ⟨⟨some 131, .load false 1 (.tmp 130), none⟩, .read, 0, 0⟩,
  ⟨⟨some 132, .bin .neq (.tmp 126) (.tmp 131), none⟩, .pure, 0, 0⟩,
  ⟨⟨some 133, .move (.tmp 132), none⟩, .pure, 0, 0⟩,
  ⟨⟨some 134, .move (.tmp 5), (some (133, false))⟩, .pure, 0, 0⟩,
  ⟨⟨some 135, .move (.tmp 16), (some (133, false))⟩, .pure, 0, 0⟩,
  ⟨⟨some 136, .move (.tmp 17), (some (133, false))⟩, .pure, 0, 0⟩,
  ⟨⟨some 137, .idx 1 (.tmp 135) (.tmp 136), (some (133, false))⟩, .pure, 0, 0⟩,
  ⟨⟨some 138, .load false 1 (.tmp 137), (some (133, false))⟩, .read, 0, 0⟩,
  ⟨⟨some 139, .call 10 [.tmp 134, .tmp 138], (some (133, false))⟩, .heavy, 0, 1⟩,
  ⟨⟨some 140, .pick (.tmp 133) (.const (.bool true)) (.tmp 139), none⟩, .pure, 1, 1⟩])
 (.cond (.tmp 140) (.seq (.region [⟨some 4, .move (.const (.bool false)), none⟩])
 (.ret))
 (.skip))))
 (.region [⟨some 121, .move (.tmp 17), none⟩,
  ⟨some 122, .bin .add (.tmp 121) (.const (.int .i64 1)), none⟩,
  ⟨some 17, .move (.tmp 122), none⟩]))
def L5_2 : LCode :=
 .seq (.seq (.region [⟨some 41, .move (.tmp 9), none⟩,
  ⟨some 42, .move (.tmp 1), none⟩,
  ⟨some 43, .len (.tmp 42), none⟩,
  ⟨some 44, .bin .lss (.tmp 41) (.tmp 43), none⟩,
  ⟨some 45, .move (.tmp 44), none⟩,
  ⟨some 46, .move (.tmp 5), (some (45, true))⟩,
  ⟨some 47, .isNil true (.pointer 44) (.tmp 46), (some (45, true))⟩,
  ⟨some 48, .pick (.tmp 45) (.tmp 47) (.const (.bool false)), none⟩])
 (.cond (.tmp 48) (.skip)
 (.exit 0)))
 (.seq (.block 1 (.seq (.seq (.region [⟨some 51, .move (.tmp 1), none⟩,
  ⟨some 52, .move (.tmp 9), none⟩,
  ⟨some 53, .idx 1 (.tmp 51) (.tmp 52), none⟩,
  ⟨some 54, .load false 1 (.tmp 53), none⟩,
  ⟨some 55, .bin .lss (.tmp 54) (.const (.int .i64 0)), none⟩])
 (.cond (.tmp 55) (.seq (.region [⟨some 57, .move (.tmp 5), none⟩,
  ⟨some 58, .call 9 [.tmp 57], none⟩,
  ⟨some 56, .move (.tmp 58), none⟩,
  ⟨some 59, .extract (.tmp 56) 0, none⟩,
  ⟨some 60, .extract (.tmp 56) 1, none⟩,
  ⟨some 10, .move (.tmp 59), none⟩,
  ⟨some 11, .move (.tmp 60), none⟩])
 (.seq (.region [⟨some 12, .move (.const (.int .i64 0)), none⟩,
  ⟨some 13, .move (.const (.int .i64 0)), none⟩])
 (.seq (.region [⟨some 62, .load true 2 (.tmp 7), none⟩,
  ⟨some 63, .call 14 [.tmp 62], none⟩,
  ⟨some 61, .move (.tmp 63), none⟩,
  ⟨some 64, .extract (.tmp 61) 0, none⟩,
  ⟨some 65, .extract (.tmp 61) 1, none⟩,
  ⟨some 66, .extract (.tmp 61) 2, none⟩,
  ⟨none, .store 2 (.tmp 7) (.tmp 64), none⟩,
  ⟨some 12, .move (.tmp 65), none⟩,
  ⟨some 13, .move (.tmp 66), none⟩])
 (.seq (.region [⟨some 67, .move (.tmp 10), none⟩,
  ⟨some 68, .move (.tmp 12), none⟩,
  ⟨some 69, .bin .neq (.tmp 67) (.tmp 68), none⟩,
  ⟨some 70, .move (.tmp 69), none⟩,
  ⟨some 71, .move (.tmp 11), (some (70, false))⟩,
  ⟨some 72, .move (.tmp 13), (some (70, false))⟩,
  ⟨some 73, .bin .neq (.tmp 71) (.tmp 72), (some (70, false))⟩,
  ⟨some 74, .pick (.tmp 70) (.const (.bool true)) (.tmp 73), none⟩])
 (.cond (.tmp 74) (.seq (.region [⟨some 4, .move (.const (.bool false)), none⟩])
 (.ret))
 (.skip))))))
 (.seq (.region [⟨some 75, .move (.tmp 5), none⟩,
  ⟨some 76, .move (.tmp 1), none⟩,
  ⟨some 77, .move (.tmp 9), none⟩,
  ⟨some 78, .idx 1 (.tmp 76) (.tmp 77), none⟩,
  ⟨some 79, .load false 1 (.tmp 78), none⟩,
  ⟨some 80, .call 8 [.tmp 75, .tmp 79], none⟩,
  ⟨some 14, .move (.tmp 80), none⟩])
 (.seq (.region [⟨some 15, .move (.const (.int .i64 0)), none⟩])
 (.seq (.draw [⟨⟨some 82, .load true 2 (.tmp 7), none⟩, .read, 0, 0⟩,
  ⟨⟨some 83, .move (.tmp 1), none⟩, .pure, 0, 0⟩,
  ⟨⟨some 84, .move (.tmp 9), none⟩, .pure, 0, 0⟩,
  ⟨⟨some 85, .idx 1 (.tmp 83) (.tmp 84), none⟩, .pure, 0, 0⟩,
  ⟨⟨some 86, .load false 1 (.tmp 85), none⟩, .read, 0, 0⟩,
  ⟨⟨some 87, .call 15 [.tmp 82, .tmp 86], none⟩, .heavy, 0, 1⟩,
  ⟨⟨some 81, .move (.tmp 87), none⟩, .pure, 1, 1⟩,
  ⟨⟨some 88, .extract (.tmp 81) 0, none⟩, .pure, 1, 1⟩,
  ⟨⟨some 89, .extract (.tmp 81) 1, none⟩, .pure, 1, 2⟩,
  ⟨⟨none, .store 2 (.tmp 7) (.tmp 88), none⟩, .heavy, 1, 2⟩,
  ⟨⟨some 15, .move (.tmp 89), none⟩, .pure, 2, 2⟩])
 (.seq (.region [⟨some 90, .move (.tmp 14), none⟩,
  ⟨some 91, .move (.tmp 15), none⟩,
  ⟨some 92, .bin .neq (.tmp 90) (.tmp 91), none⟩])
 (.cond (.tmp 92) (.seq (.region [⟨some 4, .move (.const (.bool false)), none⟩])
 (.ret))
 (.skip))))))))
 (.seq (.region [⟨some 93, .move (.tmp 5), none⟩,
  ⟨some 94, .call 16 [.tmp 93], none⟩,
  ⟨some 16, .move (.tmp 94), none⟩])
 (.seq (.seq (.region [⟨some 95, .move (.tmp 16), none⟩,
  ⟨some 96, .len (.tmp 95), none⟩,
  ⟨some 97, .off 1 (.tmp 7), none⟩,
  ⟨some 98, .load false 1 (.tmp 97), none⟩,
  ⟨some 99, .len (.tmp 98), none⟩,
  ⟨some 100, .bin .neq (.tmp 96) (.tmp 99), none⟩,
  ⟨some 101, .move (.tmp 100), none⟩,
  ⟨some 102, .move (.tmp 5), (some (101, false))⟩,
  ⟨some 103, .call 12 [.tmp 102], (some (101, false))⟩,
  ⟨some 104, .move (.tmp 16), (some (101, false))⟩,
  ⟨some 105, .len (.tmp 104), (some (101, false))⟩,
  ⟨some 106, .bin .neq (.tmp 103) (.tmp 105), (some (101, false))⟩,
  ⟨some 107, .pick (.tmp 101) (.const (.bool true)) (.tmp 106), none⟩,
  ⟨some 108, .move (.tmp 107), none⟩,
  ⟨some 109, .move (.tmp 5), (some (108, false))⟩,
  ⟨some 110, .call 11 [.tmp 109], (some (108, false))⟩,
  ⟨some 111, .move (.tmp 0), (some (108, false))⟩,
  ⟨some 112, .move (.tmp 16), (some (108, false))⟩,
  ⟨some 113, .len (.tmp 112), (some (108, false))⟩,
  ⟨some 114, .bin .sub (.tmp 111) (.tmp 113), (some (108, false))⟩,
  ⟨some 115, .bin .neq (.tmp 110) (.tmp 114), (some (108, false))⟩,
  ⟨some 116, .pick (.tmp 108) (.const (.bool true)) (.tmp 115), none⟩])
 (.cond (.tmp 116) (.seq (.region [⟨some 4, .move (.const (.bool false)), none⟩])
 (.ret))
 (.skip)))
 (.seq (.region [⟨some 17, .move (.const (.int .i64 0)), none⟩])
 (.block 2 (.loop L5_1)))))))
 (.region [⟨some 49, .move (.tmp 9), none⟩,
  ⟨some 50, .bin .add (.tmp 49) (.const (.int .i64 1)), none⟩,
  ⟨some 9, .move (.tmp 50), none⟩]))
def L5 : LCode :=
 .seq (.region [⟨some 4, .move (.const (.bool false)), none⟩])
 (.seq (.seq (.region [⟨some 18, .move (.tmp 1), none⟩,
  ⟨some 19, .len (.tmp 18), none⟩,
  ⟨some 20, .bin .gtr (.tmp 19) (.const (.int .i64 300)), none⟩])
 (.cond (.tmp 20) (.seq (.region [⟨some 4, .move (.const (.bool true)), none⟩])
 (.ret))
 (.skip)))
 (.seq (.region [⟨some 22, .move (.tmp 0), none⟩,
  ⟨some 23, .call 6 [.tmp 22], none⟩,
  ⟨some 21, .move (.tmp 23), none⟩,
  ⟨some 24, .extract (.tmp 21) 0, none⟩,
  ⟨some 25, .extract (.tmp 21) 1, none⟩,
  ⟨some 5, .move (.tmp 24), none⟩,
  ⟨some 6, .move (.tmp 25), none⟩])
 (.seq (.region [⟨some 27, .move (.tmp 0), none⟩,
  ⟨some 28, .call 13 [.tmp 27], none⟩,
  ⟨some 26, .move (.tmp 28), none⟩,
  ⟨some 29, .extract (.tmp 26) 0, none⟩,
  ⟨some 30, .extract (.tmp 26) 1, none⟩,
  ⟨some 7, .new 36 2 [.int .i64 0, .slice none 0 0], none⟩,
  ⟨none, .store 2 (.tmp 7) (.tmp 29), none⟩,
  ⟨some 8, .move (.tmp 30), none⟩])
 (.seq (.seq (.region [⟨some 31, .move (.tmp 6), none⟩,
  ⟨some 32, .move (.tmp 8), none⟩,
  ⟨some 33, .bin .neq (.tmp 31) (.tmp 32), none⟩,
  ⟨some 34, .move (.tmp 33), none⟩,
  ⟨some 35, .move (.tmp 5), (some (34, false))⟩,
  ⟨some 36, .isNil false (.pointer 44) (.tmp 35), (some (34, false))⟩,
  ⟨some 37, .move (.tmp 8), (some (34, false))⟩,
  ⟨some 38, .bin .neq (.tmp 37) (.const (.int .i64 0)), (some (34, false))⟩,
  ⟨some 39, .eqB true (.tmp 36) (.tmp 38), (some (34, false))⟩,
  ⟨some 40, .pick (.tmp 34) (.const (.bool true)) (.tmp 39), none⟩])
 (.cond (.tmp 40) (.seq (.region [⟨some 4, .move (.const (.bool false)), none⟩])
 (.ret))
 (.skip)))
 (.seq (.seq (.region [⟨some 9, .move (.const (.int .i64 0)), none⟩])
 (.block 0 (.loop L5_2)))
 (.seq (.region [⟨some 141, .call 7 [], none⟩,
  ⟨some 4, .move (.tmp 141), none⟩])
 (.ret)))))))
theorem light5 : Light Try.prog 5 2 142 L5 [.tmp 4] :=
  ⟨Try.f5, _, Try.func5, rfl, rfl, by kernel_rfl, by kernel_rfl, by decide⟩

/-! ### function 6: outrider/arena.New -/
def L6_1 : LCode :=
 .seq (.seq (.region [⟨some 18, .move (.tmp 5), none⟩,
  ⟨some 19, .bin .geq (.tmp 18) (.const (.int .i64 0)), none⟩])
 (.cond (.tmp 19) (.skip)
 (.exit 0)))
 (.seq (.block 1 (.region [⟨some 22, .move (.tmp 4), none⟩,
  ⟨some 23, .move (.tmp 4), none⟩,
  ⟨some 24, .nilCheck (.tmp 23), none⟩,
  ⟨some 25, .off 0 (.tmp 24), none⟩,
  ⟨some 26, .load false 1 (.tmp 25), none⟩,
  ⟨some 27, .move (.tmp 5), none⟩,
  ⟨some 28, .buildSlice 3 1 1 [.int .i64 0] [(0, 1, .tmp 27)], none⟩,
  ⟨some 29, .append 3 1 8 (.tmp 26) (.tmp 28), none⟩,
  ⟨some 30, .nilCheck (.tmp 22), none⟩,
  ⟨some 31, .off 0 (.tmp 30), none⟩,
  ⟨none, .store 1 (.tmp 31) (.tmp 29), none⟩]))
 (.region [⟨some 20, .move (.tmp 5), none⟩,
  ⟨some 21, .bin .sub (.tmp 20) (.const (.int .i64 1)), none⟩,
  ⟨some 5, .move (.tmp 21), none⟩]))
def L6 : LCode :=
 .seq (.region [⟨some 2, .move (.const (.pointer none)), none⟩,
  ⟨some 3, .move (.const (.int .i64 0)), none⟩])
 (.seq (.seq (.region [⟨some 6, .move (.tmp 0), none⟩,
  ⟨some 7, .bin .lss (.tmp 6) (.const (.int .i64 1)), none⟩,
  ⟨some 8, .move (.tmp 7), none⟩,
  ⟨some 9, .move (.tmp 0), (some (8, false))⟩,
  ⟨some 10, .bin .gtr (.tmp 9) (.const (.int .i64 512)), (some (8, false))⟩,
  ⟨some 11, .pick (.tmp 8) (.const (.bool true)) (.tmp 10), none⟩])
 (.cond (.tmp 11) (.seq (.region [⟨some 2, .move (.const (.pointer none)), none⟩,
  ⟨some 3, .move (.const (.int .i64 161)), none⟩])
 (.ret))
 (.skip)))
 (.seq (.region [⟨some 12, .move (.tmp 0), none⟩,
  ⟨some 13, .make 4 1 1 [.bool false] (.tmp 12) (.tmp 12), none⟩,
  ⟨some 14, .build [.slice none 0 0, .slice none 0 0] [(1, 1, .tmp 13)], none⟩,
  ⟨some 15, .box 44 2 (.tmp 14), none⟩,
  ⟨some 4, .move (.tmp 15), none⟩])
 (.seq (.seq (.region [⟨some 16, .move (.tmp 0), none⟩,
  ⟨some 17, .bin .sub (.tmp 16) (.const (.int .i64 1)), none⟩,
  ⟨some 5, .move (.tmp 17), none⟩])
 (.block 0 (.loop L6_1)))
 (.seq (.region [⟨some 32, .move (.tmp 4), none⟩,
  ⟨some 2, .move (.tmp 32), none⟩,
  ⟨some 3, .move (.const (.int .i64 0)), none⟩])
 (.ret)))))
theorem light6 : Light Try.prog 6 1 33 L6 [.tmp 2, .tmp 3] :=
  ⟨Try.f6, _, Try.func6, rfl, rfl, by kernel_rfl, by kernel_rfl, by decide⟩

/-! ### function 7: outrider/outriderlaw20.alive -/
def L7 : LCode :=
 .seq (.region [⟨some 0, .move (.const (.bool false)), none⟩])
 (.seq (.region [⟨some 11, .call 6 [.const (.int .i64 3)], none⟩,
  ⟨some 10, .move (.tmp 11), none⟩,
  ⟨some 12, .extract (.tmp 10) 0, none⟩,
  ⟨some 13, .extract (.tmp 10) 1, none⟩,
  ⟨some 1, .move (.tmp 12), none⟩,
  ⟨some 2, .move (.tmp 13), none⟩])
 (.seq (.seq (.region [⟨some 14, .move (.tmp 2), none⟩,
  ⟨some 15, .bin .neq (.tmp 14) (.const (.int .i64 0)), none⟩,
  ⟨some 16, .move (.tmp 15), none⟩,
  ⟨some 17, .move (.tmp 1), (some (16, false))⟩,
  ⟨some 18, .isNil false (.pointer 44) (.tmp 17), (some (16, false))⟩,
  ⟨some 19, .pick (.tmp 16) (.const (.bool true)) (.tmp 18), none⟩])
 (.cond (.tmp 19) (.seq (.region [⟨some 0, .move (.const (.bool false)), none⟩])
 (.ret))
 (.skip)))
 (.seq (.region [⟨some 21, .move (.tmp 1), none⟩,
  ⟨some 22, .call 9 [.tmp 21], none⟩,
  ⟨some 20, .move (.tmp 22), none⟩,
  ⟨some 23, .extract (.tmp 20) 0, none⟩,
  ⟨some 24, .extract (.tmp 20) 1, none⟩,
  ⟨some 3, .move (.tmp 23), none⟩,
  ⟨some 4, .move (.tmp 24), none⟩])
 (.seq (.region [⟨some 26, .move (.tmp 1), none⟩,
  ⟨some 27, .call 9 [.tmp 26], none⟩,
  ⟨some 25, .move (.tmp 27), none⟩,
  ⟨some 28, .extract (.tmp 25) 0, none⟩,
  ⟨some 29, .extract (.tmp 25) 1, none⟩,
  ⟨some 5, .move (.tmp 28), none⟩,
  ⟨some 6, .move (.tmp 29), none⟩])
 (.seq (.region [⟨some 30, .move (.tmp 1), none⟩,
  ⟨some 31, .call 8 [.tmp 30, .const (.int .i64 0)], none⟩,
  ⟨some 7, .move (.tmp 31), none⟩])
 (.seq (.region [⟨some 33, .move (.tmp 1), none⟩,
  ⟨some 34, .call 9 [.tmp 33], none⟩,
  ⟨some 32, .move (.tmp 34), none⟩,
  ⟨some 35, .extract (.tmp 32) 0, none⟩,
  ⟨some 36, .extract (.tmp 32) 1, none⟩,
  ⟨some 8, .move (.tmp 35), none⟩,
  ⟨some 9, .move (.tmp 36), none⟩])
 (.seq (.region [⟨some 37, .move (.tmp 3), none⟩,
  ⟨some 38, .bin .eql (.tmp 37) (.const (.int .i64 0)), none⟩,
  ⟨some 39, .move (.tmp 38), none⟩,
  ⟨some 40, .move (.tmp 5), (some (39, true))⟩,
  ⟨some 41, .bin .eql (.tmp 40) (.const (.int .i64 1)), (some (39, true))⟩,
  ⟨some 42, .pick (.tmp 39) (.tmp 41) (.const (.bool false)), none⟩,
  ⟨some 43, .move (.tmp 42), none⟩,
  ⟨some 44, .move (.tmp 7), (some (43, true))⟩,
  ⟨some 45, .bin .eql (.tmp 44) (.const (.int .i64 0)), (some (43, true))⟩,
  ⟨some 46, .pick (.tmp 43) (.tmp 45) (.const (.bool false)), none⟩,
  ⟨some 47, .move (.tmp 46), none⟩,
  ⟨some 48, .move (.tmp 8), (some (47, true))⟩,
  ⟨some 49, .bin .eql (.tmp 48) (.const (.int .i64 0)), (some (47, true))⟩,
  ⟨some 50, .pick (.tmp 47) (.tmp 49) (.const (.bool false)), none⟩,
  ⟨some 51, .move (.tmp 50), none⟩,
  ⟨some 52, .move (.tmp 1), (some (51, true))⟩,
  ⟨some 53, .call 11 [.tmp 52], (some (51, true))⟩,
  ⟨some 54, .bin .eql (.tmp 53) (.const (.int .i64 2)), (some (51, true))⟩,
  ⟨some 55, .pick (.tmp 51) (.tmp 54) (.const (.bool false)), none⟩,
  ⟨some 56, .move (.tmp 55), none⟩,
  ⟨some 57, .move (.tmp 1), (some (56, true))⟩,
  ⟨some 58, .call 12 [.tmp 57], (some (56, true))⟩,
  ⟨some 59, .bin .eql (.tmp 58) (.const (.int .i64 1)), (some (56, true))⟩,
  ⟨some 60, .pick (.tmp 56) (.tmp 59) (.const (.bool false)), none⟩,
  ⟨some 61, .move (.tmp 60), none⟩,
  ⟨some 62, .move (.tmp 1), (some (61, true))⟩,
  ⟨some 63, .call 8 [.tmp 62, .const (.int .i64 7)], (some (61, true))⟩,
  ⟨some 64, .bin .eql (.tmp 63) (.const (.int .i64 201)), (some (61, true))⟩,
  ⟨some 65, .pick (.tmp 61) (.tmp 64) (.const (.bool false)), none⟩,
  ⟨some 0, .move (.tmp 65), none⟩])
 (.ret))))))))
theorem light7 : Light Try.prog 7 0 66 L7 [.tmp 0] :=
  ⟨Try.f7, _, Try.func7, rfl, rfl, by kernel_rfl, by kernel_rfl, by decide⟩

/-! ### function 8: (*outrider/arena.Arena).Back -/
def L8 : LCode :=
 .seq (.region [⟨some 4, .move (.const (.int .i64 0)), none⟩])
 (.seq (.seq (.region [⟨some 5, .move (.tmp 0), none⟩,
  ⟨some 6, .move (.tmp 1), none⟩,
  ⟨some 7, .call 10 [.tmp 5, .tmp 6], none⟩,
  ⟨some 8, .un .not (.tmp 7), none⟩])
 (.cond (.tmp 8) (.seq (.region [⟨some 4, .move (.const (.int .i64 201)), none⟩])
 (.ret))
 (.skip)))
 (.seq (.region [⟨some 9, .move (.tmp 0), none⟩,
  ⟨some 10, .nilCheck (.tmp 9), none⟩,
  ⟨some 11, .off 1 (.tmp 10), none⟩,
  ⟨some 12, .load false 1 (.tmp 11), none⟩,
  ⟨some 13, .move (.tmp 1), none⟩,
  ⟨some 14, .idx 1 (.tmp 12) (.tmp 13), none⟩,
  ⟨none, .store 1 (.tmp 14) (.const (.bool false)), none⟩])
 (.seq (.region [⟨some 15, .move (.tmp 0), none⟩,
  ⟨some 16, .move (.tmp 0), none⟩,
  ⟨some 17, .nilCheck (.tmp 16), none⟩,
  ⟨some 18, .off 0 (.tmp 17), none⟩,
  ⟨some 19, .load false 1 (.tmp 18), none⟩,
  ⟨some 20, .move (.tmp 1), none⟩,
  ⟨some 21, .buildSlice 3 1 1 [.int .i64 0] [(0, 1, .tmp 20)], none⟩,
  ⟨some 22, .append 3 1 8 (.tmp 19) (.tmp 21), none⟩,
  ⟨some 23, .nilCheck (.tmp 15), none⟩,
  ⟨some 24, .off 0 (.tmp 23), none⟩,
  ⟨none, .store 1 (.tmp 24) (.tmp 22), none⟩])
 (.seq (.region [⟨some 4, .move (.const (.int .i64 0)), none⟩])
 (.ret)))))
theorem light8 : Light Try.prog 8 2 25 L8 [.tmp 4] :=
  ⟨Try.f8, _, Try.func8, rfl, rfl, by kernel_rfl, by kernel_rfl, by decide⟩

/-! ### function 9: (*outrider/arena.Arena).Take -/
def L9 : LCode :=
 .seq (.region [⟨some 2, .move (.const (.int .i64 0)), none⟩,
  ⟨some 3, .move (.const (.int .i64 0)), none⟩])
 (.seq (.seq (.region [⟨some 5, .move (.tmp 0), none⟩,
  ⟨some 6, .nilCheck (.tmp 5), none⟩,
  ⟨some 7, .off 0 (.tmp 6), none⟩,
  ⟨some 8, .load false 1 (.tmp 7), none⟩,
  ⟨some 9, .len (.tmp 8), none⟩,
  ⟨some 10, .bin .eql (.tmp 9) (.const (.int .i64 0)), none⟩])
 (.cond (.tmp 10) (.seq (.region [⟨some 2, .move (.const (.int .i64 0)), none⟩,
  ⟨some 3, .move (.const (.int .i64 200)), none⟩])
 (.ret))
 (.skip)))
 (.seq (.draw [⟨⟨some 11, .move (.tmp 0), none⟩, .pure, 0, 0⟩,
  ⟨⟨some 12, .nilCheck (.tmp 11), none⟩, .pure, 0, 0⟩,
  ⟨⟨some 13, .off 0 (.tmp 12), none⟩, .pure, 0, 0⟩,
  ⟨⟨some 14, .load false 1 (.tmp 13), none⟩, .read, 0, 0⟩,
  ⟨⟨some 15, .move (.tmp 0), none⟩, .pure, 0, 0⟩,
  ⟨⟨some 16, .nilCheck (.tmp 15), none⟩, .pure, 0, 0⟩,
  ⟨⟨some 17, .off 0 (.tmp 16), none⟩, .pure, 0, 0⟩,
  ⟨⟨some 18, .load false 1 (.tmp 17), none⟩, .read, 0, 0⟩,
  ⟨⟨some 19, .len (.tmp 18), none⟩, .pure, 0, 0⟩,
  ⟨⟨some 20, .bin .sub (.tmp 19) (.const (.int .i64 1)), none⟩, .pure, 0, 0⟩,
  ⟨⟨some 21, .idx 1 (.tmp 14) (.tmp 20), none⟩, .pure, 0, 0⟩,
  ⟨⟨some 22, .load false 1 (.tmp 21), none⟩, .read, 0, 0⟩,
  ⟨⟨some 4, .move (.tmp 22), none⟩, .pure, 0, 0⟩])
 (.seq (.draw [⟨⟨some 23, .move (.tmp 0), none⟩, .pure, 0, 0⟩,
  ⟨⟨some 24, .move (.tmp 0), none⟩, .pure, 0, 0⟩,
  ⟨⟨some 25, .nilCheck (.tmp 24), none⟩, .pure, 0, 0⟩,
  ⟨⟨some 26, .off 0 (.tmp 25), none⟩, .pure, 0, 0⟩,
  ⟨⟨some 27, .load false 1 (.tmp 26), none⟩, .read, 0, 0⟩,
  ⟨⟨some 28, .move (.tmp 0), none⟩, .pure, 0, 0⟩,
  ⟨⟨some 29, .nilCheck (.tmp 28), none⟩, .pure, 0, 0⟩,
  ⟨⟨some 30, .off 0 (.tmp 29), none⟩, .pure, 0, 0⟩,
  ⟨⟨some 31, .load false 1 (.tmp 30), none⟩, .read, 0, 0⟩,
  ⟨⟨some 32, .len (.tmp 31), none⟩, .pure, 0, 0⟩,
  ⟨⟨some 33, .bin .sub (.tmp 32) (.const (.int .i64 1)), none⟩, .pure, 0, 0⟩,
  ⟨⟨some 34, .slice 1 (.tmp 27) none (some (.tmp 33)) none, none⟩, .pure, 0, 0⟩,
  ⟨⟨some 35, .nilCheck (.tmp 23), none⟩, .pure, 0, 0⟩,
  ⟨⟨some 36, .off 0 (.tmp 35), none⟩, .pure, 0, 0⟩,
  ⟨⟨none, .store 1 (.tmp 36) (.tmp 34), none⟩, .heavy, 0, 1⟩])
 (.seq (.region [⟨some 37, .move (.tmp 0), none⟩,
  ⟨some 38, .nilCheck (.tmp 37), none⟩,
  ⟨some 39, .off 1 (.tmp 38), none⟩,
  ⟨some 40, .load false 1 (.tmp 39), none⟩,
  ⟨some 41, .move (.tmp 4), none⟩,
  ⟨some 42, .idx 1 (.tmp 40) (.tmp 41), none⟩,
  ⟨none, .store 1 (.tmp 42) (.const (.bool true)), none⟩])
 (.seq (.region [⟨some 43, .move (.tmp 4), none⟩,
  ⟨some 2, .move (.tmp 43), none⟩,
  ⟨some 3, .move (.const (.int .i64 0)), none⟩])
 (.ret))))))
theorem light9 : Light Try.prog 9 1 44 L9 [.tmp 2, .tmp 3] :=
  ⟨Try.f9, _, Try.func9, rfl, rfl, by kernel_rfl, by kernel_rfl, by decide⟩

/-! ### function 10: (*outrider/arena.Arena).Used -/
def L10 : LCode :=
 .seq (.region [⟨some 4, .move (.const (.bool false)), none⟩])
 (.seq (.region [⟨some 5, .move (.tmp 1), none⟩,
  ⟨some 6, .bin .geq (.tmp 5) (.const (.int .i64 0)), none⟩,
  ⟨some 7, .move (.tmp 6), none⟩,
  ⟨some 8, .move (.tmp 1), (some (7, true))⟩,
  ⟨some 9, .move (.tmp 0), (some (7, true))⟩,
  ⟨some 10, .nilCheck (.tmp 9), (some (7, true))⟩,
  ⟨some 11, .off 1 (.tmp 10), (some (7, true))⟩,
  ⟨some 12, .load false 1 (.tmp 11), (some (7, true))⟩,
  ⟨some 13, .len (.tmp 12), (some (7, true))⟩,
  ⟨some 14, .bin .lss (.tmp 8) (.tmp 13), (some (7, true))⟩,
  ⟨some 15, .pick (.tmp 7) (.tmp 14) (.const (.bool false)), none⟩,
  ⟨some 16, .move (.tmp 15), none⟩,
  ⟨some 17, .move (.tmp 0), (some (16, true))⟩,
  ⟨some 18, .nilCheck (.tmp 17), (some (16, true))⟩,
  ⟨some 19, .off 1 (.tmp 18), (some (16, true))⟩,
  ⟨some 20, .load false 1 (.tmp 19), (some (16, true))⟩,
  ⟨some 21, .move (.tmp 1), (some (16, true))⟩,
  ⟨some 22, .idx 1 (.tmp 20) (.tmp 21), (some (16, true))⟩,
  ⟨some 23, .load false 1 (.tmp 22), (some (16, true))⟩,
  ⟨some 24, .pick (.tmp 16) (.tmp 23) (.const (.bool false)), none⟩,
  ⟨some 4, .move (.tmp 24), none⟩])
 (.ret))
theorem light10 : Light Try.prog 10 2 25 L10 [.tmp 4] :=
  ⟨Try.f10, _, Try.func10, rfl, rfl, by kernel_rfl, by kernel_rfl, by decide⟩

/-! ### function 11: (*outrider/arena.Arena).Live -/
def L11 : LCode :=
 .seq (.region [⟨some 2, .move (.const (.int .i64 0)), none⟩])
 (.seq (.draw [⟨⟨some 3, .move (.tmp 0), none⟩, .pure, 0, 0⟩,
  ⟨⟨some 4, .nilCheck (.tmp 3), none⟩, .pure, 0, 0⟩,
  ⟨⟨some 5, .off 1 (.tmp 4), none⟩, .pure, 0, 0⟩,
  ⟨⟨some 6, .load false 1 (.tmp 5), none⟩, .read, 0, 0⟩,
  ⟨⟨some 7, .len (.tmp 6), none⟩, .pure, 0, 0⟩,
  ⟨⟨some 8, .move (.tmp 0), none⟩, .pure, 0, 0⟩,
  ⟨⟨some 9, .nilCheck (.tmp 8), none⟩, .pure, 0, 0⟩,
  ⟨⟨some 10, .off 0 (.tmp 9), none⟩, .pure, 0, 0⟩,
  ⟨⟨some 11, .load false 1 (.tmp 10), none⟩, .read, 0, 0⟩,
  ⟨⟨some 12, .len (.tmp 11), none⟩, .pure, 0, 0⟩,
  ⟨⟨some 13, .bin .sub (.tmp 7) (.tmp 12), none⟩, .pure, 0, 0⟩,
  ⟨⟨some 2, .move (.tmp 13), none⟩, .pure, 0, 0⟩])
 (.ret))
theorem light11 : Light Try.prog 11 1 14 L11 [.tmp 2] :=
  ⟨Try.f11, _, Try.func11, rfl, rfl, by kernel_rfl, by kernel_rfl, by decide⟩

/-! ### function 12: (*outrider/arena.Arena).Free -/
def L12 : LCode :=
 .seq (.region [⟨some 2, .move (.const (.int .i64 0)), none⟩])
 (.seq (.region [⟨some 3, .move (.tmp 0), none⟩,
  ⟨some 4, .nilCheck (.tmp 3), none⟩,
  ⟨some 5, .off 0 (.tmp 4), none⟩,
  ⟨some 6, .load false 1 (.tmp 5), none⟩,
  ⟨some 7, .len (.tmp 6), none⟩,
  ⟨some 2, .move (.tmp 7), none⟩])
 (.ret))
theorem light12 : Light Try.prog 12 1 8 L12 [.tmp 2] :=
  ⟨Try.f12, _, Try.func12, rfl, rfl, by kernel_rfl, by kernel_rfl, by decide⟩

/-! ### function 13: outrider/outriderref20.New -/
def L13_1 : LCode :=
 .seq (.seq (.region [⟨some 15, .move (.tmp 5), none⟩,
  ⟨some 16, .move (.tmp 0), none⟩,
  ⟨some 17, .bin .lss (.tmp 15) (.tmp 16), none⟩])
 (.cond (.tmp 17) (.skip)
 (.exit 0)))
 (.seq (.block 1 (.region [⟨some 20, .off 1 (.tmp 4), none⟩,
  ⟨some 21, .load false 1 (.tmp 20), none⟩,
  ⟨some 22, .move (.tmp 5), none⟩,
  ⟨some 23, .buildSlice 3 1 1 [.int .i64 0] [(0, 1, .tmp 22)], none⟩,
  ⟨some 24, .append 3 1 8 (.tmp 21) (.tmp 23), none⟩,
  ⟨some 25, .off 1 (.tmp 4), none⟩,
  ⟨none, .store 1 (.tmp 25) (.tmp 24), none⟩]))
 (.region [⟨some 18, .move (.tmp 5), none⟩,
  ⟨some 19, .bin .add (.tmp 18) (.const (.int .i64 1)), none⟩,
  ⟨some 5, .move (.tmp 19), none⟩]))
def L13 : LCode :=
 .seq (.region [⟨some 2, .new 36 2 [.int .i64 0, .slice none 0 0], none⟩,
  ⟨some 3, .move (.const (.int .i64 0)), none⟩])
 (.seq (.seq (.region [⟨some 6, .move (.tmp 0), none⟩,
  ⟨some 7, .bin .lss (.tmp 6) (.const (.int .i64 1)), none⟩,
  ⟨some 8, .move (.tmp 7), none⟩,
  ⟨some 9, .move (.tmp 0), (some (8, false))⟩,
  ⟨some 10, .bin .gtr (.tmp 9) (.const (.int .i64 512)), (some (8, false))⟩,
  ⟨some 11, .pick (.tmp 8) (.const (.bool true)) (.tmp 10), none⟩])
 (.cond (.tmp 11) (.seq (.region [⟨some 12, .build [.int .i64 0, .slice none 0 0] [], none⟩,
  ⟨none, .store 2 (.tmp 2) (.tmp 12), none⟩,
  ⟨some 3, .move (.const (.int .i64 161)), none⟩])
 (.ret))
 (.skip)))
 (.seq (.region [⟨some 13, .move (.tmp 0), none⟩,
  ⟨some 14, .build [.int .i64 0, .slice none 0 0] [(0, 1, .tmp 13)], none⟩,
  ⟨some 4, .new 36 2 [.int .i64 0, .slice none 0 0], none⟩,
  ⟨none, .store 2 (.tmp 4) (.tmp 14), none⟩])
 (.seq (.seq (.region [⟨some 5, .move (.const (.int .i64 0)), none⟩])
 (.block 0 (.loop L13_1)))
 (.seq (.region [⟨some 26, .load true 2 (.tmp 4), none⟩,
  ⟨none, .store 2 (.tmp 2) (.tmp 26), none⟩,
  ⟨some 3, .move (.const (.int .i64 0)), none⟩])
 (.ret)))))
theorem light13 : Light Try.prog 13 1 27 L13 [.cell 2 true 2, .tmp 3] :=
  ⟨Try.f13, _, Try.func13, rfl, rfl, by kernel_rfl, by kernel_rfl, by decide⟩

/-! ### function 14: outrider/outriderref20.Take -/
def L14 : LCode :=
 .seq (.region [⟨some 1, .box 36 2 (.tmp 0), none⟩,
  ⟨some 2, .new 36 2 [.int .i64 0, .slice none 0 0], none⟩,
  ⟨some 3, .move (.const (.int .i64 0)), none⟩,
  ⟨some 4, .move (.const (.int .i64 0)), none⟩])
 (.seq (.seq (.region [⟨some 6, .off 1 (.tmp 1), none⟩,
  ⟨some 7, .load false 1 (.tmp 6), none⟩,
  ⟨some 8, .len (.tmp 7), none⟩,
  ⟨some 9, .bin .eql (.tmp 8) (.const (.int .i64 0)), none⟩])
 (.cond (.tmp 9) (.seq (.region [⟨some 10, .load true 2 (.tmp 1), none⟩,
  ⟨none, .store 2 (.tmp 2) (.tmp 10), none⟩,
  ⟨some 3, .move (.const (.int .i64 0)), none⟩,
  ⟨some 4, .move (.const (.int .i64 200)), none⟩])
 (.ret))
 (.skip)))
 (.seq (.region [⟨some 11, .off 1 (.tmp 1), none⟩,
  ⟨some 12, .load false 1 (.tmp 11), none⟩,
  ⟨some 13, .idx 1 (.tmp 12) (.const (.int .i64 0)), none⟩,
  ⟨some 14, .load false 1 (.tmp 13), none⟩,
  ⟨some 5, .move (.tmp 14), none⟩])
 (.seq (.region [⟨some 15, .buildSlice 3 1 0 [.int .i64 0] [], none⟩,
  ⟨some 16, .off 1 (.tmp 1), none⟩,
  ⟨some 17, .load false 1 (.tmp 16), none⟩,
  ⟨some 18, .slice 1 (.tmp 17) (some (.const (.int .i64 1))) none none, none⟩,
  ⟨some 19, .append 3 1 8 (.tmp 15) (.tmp 18), none⟩,
  ⟨some 20, .off 1 (.tmp 1), none⟩,
  ⟨none, .store 1 (.tmp 20) (.tmp 19), none⟩])
 (.seq (.region [⟨some 21, .load true 2 (.tmp 1), none⟩,
  ⟨some 22, .move (.tmp 5), none⟩,
  ⟨none, .store 2 (.tmp 2) (.tmp 21), none⟩,
  ⟨some 3, .move (.tmp 22), none⟩,
  ⟨some 4, .move (.const (.int .i64 0)), none⟩])
 (.ret)))))
theorem light14 : Light Try.prog 14 1 23 L14 [.cell 2 true 2, .tmp 3, .tmp 4] :=
  ⟨Try.f14, _, Try.func14, rfl, rfl, by kernel_rfl, by kernel_rfl, by decide⟩

/-! ### function 15: outrider/outriderref20.Back -/
def L15 : LCode :=
 .seq (.region [⟨some 2, .box 36 2 (.tmp 0), none⟩,
  ⟨some 4, .new 36 2 [.int .i64 0, .slice none 0 0], none⟩,
  ⟨some 5, .move (.const (.int .i64 0)), none⟩])
 (.seq (.seq (.region [⟨some 6, .move (.tmp 1), none⟩,
  ⟨some 7, .bin .lss (.tmp 6) (.const (.int .i64 0)), none⟩,
  ⟨some 8, .move (.tmp 7), none⟩,
  ⟨some 9, .move (.tmp 1), (some (8, false))⟩,
  ⟨some 10, .off 0 (.tmp 2), (some (8, false))⟩,
  ⟨some 11, .load false 1 (.tmp 10), (some (8, false))⟩,
  ⟨some 12, .bin .geq (.tmp 9) (.tmp 11), (some (8, false))⟩,
  ⟨some 13, .pick (.tmp 8) (.const (.bool true)) (.tmp 12), none⟩,
  ⟨some 14, .move (.tmp 13), none⟩,
  ⟨some 15, .load true 2 (.tmp 2), (some (14, false))⟩,
  ⟨some 16, .move (.tmp 1), (some (14, false))⟩,
  ⟨some 17, .call 17 [.tmp 15, .tmp 16], (some (14, false))⟩,
  ⟨some 18, .pick (.tmp 14) (.const (.bool true)) (.tmp 17), none⟩])
 (.cond (.tmp 18) (.seq (.region [⟨some 19, .load true 2 (.tmp 2), none⟩,
  ⟨none, .store 2 (.tmp 4) (.tmp 19), none⟩,
  ⟨some 5, .move (.const (.int .i64 201)), none⟩])
 (.ret))
 (.skip)))
 (.seq (.region [⟨some 20, .move (.tmp 1), none⟩,
  ⟨some 21, .buildSlice 3 1 1 [.int .i64 0] [(0, 1, .tmp 20)], none⟩,
  ⟨some 22, .off 1 (.tmp 2), none⟩,
  ⟨some 23, .load false 1 (.tmp 22), none⟩,
  ⟨some 24, .append 3 1 8 (.tmp 21) (.tmp 23), none⟩,
  ⟨some 25, .off 1 (.tmp 2), none⟩,
  ⟨none, .store 1 (.tmp 25) (.tmp 24), none⟩])
 (.seq (.region [⟨some 26, .load true 2 (.tmp 2), none⟩,
  ⟨none, .store 2 (.tmp 4) (.tmp 26), none⟩,
  ⟨some 5, .move (.const (.int .i64 0)), none⟩])
 (.ret))))
theorem light15 : Light Try.prog 15 2 27 L15 [.cell 4 true 2, .tmp 5] :=
  ⟨Try.f15, _, Try.func15, rfl, rfl, by kernel_rfl, by kernel_rfl, by decide⟩

/-! ### function 16: (*outrider/arena.Arena).Order -/
def L16_1 : LCode :=
 .seq (.seq (.region [⟨some 11, .move (.tmp 4), none⟩,
  ⟨some 12, .bin .geq (.tmp 11) (.const (.int .i64 0)), none⟩])
 (.cond (.tmp 12) (.skip)
 (.exit 0)))
 (.seq (.block 1 (.region [⟨some 15, .move (.tmp 3), none⟩,
  ⟨some 16, .move (.tmp 0), none⟩,
  ⟨some 17, .nilCheck (.tmp 16), none⟩,
  ⟨some 18, .off 0 (.tmp 17), none⟩,
  ⟨some 19, .load false 1 (.tmp 18), none⟩,
  ⟨some 20, .move (.tmp 4), none⟩,
  ⟨some 21, .idx 1 (.tmp 19) (.tmp 20), none⟩,
  ⟨some 22, .load false 1 (.tmp 21), none⟩,
  ⟨some 23, .buildSlice 3 1 1 [.int .i64 0] [(0, 1, .tmp 22)], none⟩,
  ⟨some 24, .append 3 1 8 (.tmp 15) (.tmp 23), none⟩,
  ⟨some 3, .move (.tmp 24), none⟩]))
 (.region [⟨some 13, .move (.tmp 4), none⟩,
  ⟨some 14, .bin .sub (.tmp 13) (.const (.int .i64 1)), none⟩,
  ⟨some 4, .move (.tmp 14), none⟩]))
def L16 : LCode :=
 .seq (.region [⟨some 2, .move (.const (.slice none 0 0)), none⟩])
 (.seq (.region [⟨some 3, .move (.const (.slice none 0 0)), none⟩])
 (.seq (.seq (.region [⟨some 5, .move (.tmp 0), none⟩,
  ⟨some 6, .nilCheck (.tmp 5), none⟩,
  ⟨some 7, .off 0 (.tmp 6), none⟩,
  ⟨some 8, .load false 1 (.tmp 7), none⟩,
  ⟨some 9, .len (.tmp 8), none⟩,
  ⟨some 10, .bin .sub (.tmp 9) (.const (.int .i64 1)), none⟩,
  ⟨some 4, .move (.tmp 10), none⟩])
 (.block 0 (.loop L16_1)))
 (.seq (.region [⟨some 25, .move (.tmp 3), none⟩,
  ⟨some 2, .move (.tmp 25), none⟩])
 (.ret))))
theorem light16 : Light Try.prog 16 1 26 L16 [.tmp 2] :=
  ⟨Try.f16, _, Try.func16, rfl, rfl, by kernel_rfl, by kernel_rfl, by decide⟩

/-! ### function 17: outrider/outriderref20.Free -/
def L17_1 : LCode :=
 .seq (.seq (.region [⟨some 6, .move (.tmp 5), none⟩,
  ⟨some 7, .off 1 (.tmp 2), none⟩,
  ⟨some 8, .load false 1 (.tmp 7), none⟩,
  ⟨some 9, .len (.tmp 8), none⟩,
  ⟨some 10, .bin .lss (.tmp 6) (.tmp 9), none⟩])
 (.cond (.tmp 10) (.skip)
 (.exit 0)))
 (.seq (.block 1 (.seq (.region [⟨some 13, .off 1 (.tmp 2), none⟩,
  ⟨some 14, .load false 1 (.tmp 13), none⟩,
  ⟨some 15, .move (.tmp 5), none⟩,
  ⟨some 16, .idx 1 (.tmp 14) (.tmp 15), none⟩,
  ⟨some 17, .load false 1 (.tmp 16), none⟩,
  ⟨some 18, .move (.tmp 1), none⟩,
  ⟨some 19, .bin .eql (.tmp 17) (.tmp 18), none⟩])
 (.cond (.tmp 19) (.seq (.region [⟨some 4, .move (.const (.bool true)), none⟩])
 (.ret))
 (.skip))))
 (.region [⟨some 11, .move (.tmp 5), none⟩,
  ⟨some 12, .bin .add (.tmp 11) (.const (.int .i64 1)), none⟩,
  ⟨some 5, .move (.tmp 12), none⟩]))
def L17 : LCode :=
 .seq (.region [⟨some 2, .box 36 2 (.tmp 0), none⟩,
  ⟨some 4, .move (.const (.bool false)), none⟩])
 (.seq (.seq (.region [⟨some 5, .move (.const (.int .i64 0)), none⟩])
 (.block 0 (.loop L17_1)))
 (.seq (.region [⟨some 4, .move (.const (.bool false)), none⟩])
 (.ret)))
theorem light17 : Light Try.prog 17 2 20 L17 [.tmp 4] :=
  ⟨Try.f17, _, Try.func17, rfl, rfl, by kernel_rfl, by kernel_rfl, by decide⟩

end Go.Proofs.Ytfddocdhjjnajaa
