/-
  The light code of functions of this seat: printed by a program of this session (wip/tools/lightgen.py); each is held against the program by the kernel.
-/
import Derived.Test.YtnomffikflfilaaGreatOtT
import Derived.KernelRfl
import Derived.Test.YtnomffikflfilaaGreatProg
set_option maxRecDepth 100000
namespace Go.Proofs.YtnomffikflfilaaGreat
open Go.Ot
abbrev zm (d s : Nat) : LIns := ⟨some d, .move (.tmp s), none⟩
abbrev zl (b : Bool) (n d s : Nat) : LIns := ⟨some d, .load b n (.tmp s), none⟩
abbrev zo (k d s : Nat) : LIns := ⟨some d, .off k (.tmp s), none⟩
abbrev ze (d s k : Nat) : LIns := ⟨some d, .extract (.tmp s) k, none⟩
abbrev zi (d : Nat) (o : LOp) : LIns := ⟨some d, o, none⟩
abbrev zp (i : LIns) (a b : Nat) : DIns := ⟨i, .pure, a, b⟩
abbrev zr (i : LIns) (a b : Nat) : DIns := ⟨i, .read, a, b⟩
abbrev zh (i : LIns) (a b : Nat) : DIns := ⟨i, .heavy, a, b⟩
def L9 : LCode :=
 .seq (.region [⟨some 2, .box 35 23 (.tmp 0), none⟩, ⟨some 4, .move (.const (.bool false)), none⟩])
 (.seq (.region [⟨some 5, .off 0 (.tmp 2), none⟩, ⟨some 6, .load true 11 (.tmp 5), none⟩, ⟨some 7, .call 31 [.tmp 6], none⟩, ⟨some 8, .move (.tmp 7), none⟩, ⟨some 9, .off 22 (.tmp 2), (some (8, false))⟩, ⟨some 10, .load false 1 (.tmp 9), (some (8, false))⟩, ⟨some 11, .len (.tmp 10), (some (8, false))⟩, ⟨some 12, .move (.tmp 1), (some (8, false))⟩, ⟨some 13, .bin .gtr (.tmp 11) (.tmp 12), (some (8, false))⟩, ⟨some 14, .pick (.tmp 8) (.const (.bool true)) (.tmp 13), none⟩, ⟨some 4, .move (.tmp 14), none⟩])
 (.ret))
theorem light9 : Light Tryz.prog 9 2 15 L9 [.tmp 4] :=
  ⟨Tryz.f9, _, Tryz.func9, rfl, rfl, by kernel_rfl, by kernel_rfl, by decide⟩
def L10 : LCode :=
 .seq (.region [⟨some 1, .box 42 23 (.tmp 0), none⟩, ⟨some 2, .move (.const (.slice none 0 0)), none⟩, ⟨some 3, .move (.const (.int .i64 0)), none⟩])
 (.seq (.seq (.region [⟨some 6, .load true 23 (.tmp 1), none⟩, ⟨some 7, .call 13 [.tmp 6], none⟩, ⟨some 4, .move (.tmp 7), none⟩])
 (.seq (.region [⟨some 8, .move (.tmp 4), none⟩, ⟨some 9, .bin .neq (.tmp 8) (.const (.int .i64 0)), none⟩])
 (.cond (.tmp 9) (.seq (.region [⟨some 10, .move (.tmp 4), none⟩, ⟨some 2, .move (.const (.slice none 0 0)), none⟩, ⟨some 3, .move (.tmp 10), none⟩])
 (.ret))
 (.skip))))
 (.seq (.region [⟨some 11, .call 32 [], none⟩, ⟨some 5, .move (.tmp 11), none⟩])
 (.seq (.region [⟨some 12, .move (.tmp 5), none⟩, ⟨some 13, .call 33 [.tmp 12, .const (.int .u64 1)], none⟩])
 (.seq (.region [⟨some 14, .move (.tmp 5), none⟩, ⟨some 15, .off 0 (.tmp 1), none⟩, ⟨some 16, .load true 11 (.tmp 15), none⟩, ⟨some 17, .call 34 [.tmp 14, .tmp 16], none⟩])
 (.seq (.region [⟨some 18, .move (.tmp 5), none⟩, ⟨some 19, .off 11 (.tmp 1), none⟩, ⟨some 20, .load true 11 (.tmp 19), none⟩, ⟨some 21, .call 35 [.tmp 18, .tmp 20], none⟩])
 (.seq (.region [⟨some 22, .move (.tmp 5), none⟩, ⟨some 23, .off 22 (.tmp 1), none⟩, ⟨some 24, .load false 1 (.tmp 23), none⟩, ⟨some 25, .call 36 [.tmp 22, .tmp 24], none⟩])
 (.seq (.region [⟨some 26, .move (.tmp 5), none⟩, ⟨some 27, .call 38 [.tmp 26], none⟩, ⟨some 28, .call 37 [.tmp 27], none⟩, ⟨some 29, .extract (.tmp 28) 0, none⟩, ⟨some 30, .extract (.tmp 28) 1, none⟩, ⟨some 2, .move (.tmp 29), none⟩, ⟨some 3, .move (.tmp 30), none⟩])
 (.ret))))))))
theorem light10 : Light Tryz.prog 10 1 31 L10 [.tmp 2, .tmp 3] :=
  ⟨Tryz.f10, _, Tryz.func10, rfl, rfl, by kernel_rfl, by kernel_rfl, by decide⟩
def L11 : LCode :=
 .seq (.region [⟨some 1, .box 35 23 (.tmp 0), none⟩, ⟨some 2, .new 42 23 [.int .i64 0, .slice none 0 0, .slice none 0 0, .int .i64 0, .int .i64 0, .int .i64 0, .int .i64 0, .int .i64 0, .int .i64 0, .int .i64 0, .slice none 0 0, .int .i64 0, .int .i64 0, .int .i64 0, .int .i64 0, .int .i64 0, .int .i64 0, .int .i64 0, .int .i64 0, .int .i64 0, .int .i64 0, .bool false, .slice none 0 0], none⟩])
 (.seq (.region [⟨some 3, .off 0 (.tmp 1), none⟩, ⟨some 4, .load true 11 (.tmp 3), none⟩, ⟨some 5, .off 11 (.tmp 1), none⟩, ⟨some 6, .load true 11 (.tmp 5), none⟩, ⟨some 7, .off 22 (.tmp 1), none⟩, ⟨some 8, .load false 1 (.tmp 7), none⟩, ⟨some 9, .build [.int .i64 0, .slice none 0 0, .slice none 0 0, .int .i64 0, .int .i64 0, .int .i64 0, .int .i64 0, .int .i64 0, .int .i64 0, .int .i64 0, .slice none 0 0, .int .i64 0, .int .i64 0, .int .i64 0, .int .i64 0, .int .i64 0, .int .i64 0, .int .i64 0, .int .i64 0, .int .i64 0, .int .i64 0, .bool false, .slice none 0 0] [(0, 11, .tmp 4), (11, 11, .tmp 6), (22, 1, .tmp 8)], none⟩, ⟨none, .store 23 (.tmp 2) (.tmp 9), none⟩])
 (.ret))
theorem light11 : Light Tryz.prog 11 1 10 L11 [.cell 2 true 23] :=
  ⟨Tryz.f11, _, Tryz.func11, rfl, rfl, by kernel_rfl, by kernel_rfl, by decide⟩
def L13 : LCode :=
 .seq (.region [⟨some 1, .box 42 23 (.tmp 0), none⟩, ⟨some 2, .move (.const (.int .i64 0)), none⟩])
 (.seq (.seq (.region [⟨some 5, .off 0 (.tmp 1), none⟩, ⟨some 6, .load true 11 (.tmp 5), none⟩, ⟨some 7, .call 43 [.tmp 6], none⟩, ⟨some 3, .move (.tmp 7), none⟩])
 (.seq (.region [⟨some 8, .move (.tmp 3), none⟩, ⟨some 9, .bin .neq (.tmp 8) (.const (.int .i64 0)), none⟩])
 (.cond (.tmp 9) (.seq (.region [⟨some 10, .move (.tmp 3), none⟩, ⟨some 2, .move (.tmp 10), none⟩])
 (.ret))
 (.skip))))
 (.seq (.seq (.region [⟨some 11, .off 11 (.tmp 1), none⟩, ⟨some 12, .load true 11 (.tmp 11), none⟩, ⟨some 13, .call 44 [.tmp 12], none⟩, ⟨some 4, .move (.tmp 13), none⟩])
 (.seq (.region [⟨some 14, .move (.tmp 4), none⟩, ⟨some 15, .bin .neq (.tmp 14) (.const (.int .i64 0)), none⟩])
 (.cond (.tmp 15) (.seq (.region [⟨some 16, .move (.tmp 4), none⟩, ⟨some 2, .move (.tmp 16), none⟩])
 (.ret))
 (.skip))))
 (.seq (.seq (.region [⟨some 17, .off 22 (.tmp 1), none⟩, ⟨some 18, .load false 1 (.tmp 17), none⟩, ⟨some 19, .len (.tmp 18), none⟩, ⟨some 20, .bin .gtr (.tmp 19) (.const (.int .i64 40000)), none⟩])
 (.cond (.tmp 20) (.seq (.region [⟨some 2, .move (.const (.int .i64 251)), none⟩])
 (.ret))
 (.skip)))
 (.seq (.region [⟨some 2, .move (.const (.int .i64 0)), none⟩])
 (.ret)))))
theorem light13 : Light Tryz.prog 13 1 21 L13 [.tmp 2] :=
  ⟨Tryz.f13, _, Tryz.func13, rfl, rfl, by kernel_rfl, by kernel_rfl, by decide⟩
def L15 : LCode :=
 .seq (.region [zi 0 (.move (.const (.bool false)))])
 (.seq (.region [zi 10 (.build [.int .i64 0, .int .i64 0, .int .i64 0, .int .i64 0, .int .i64 0, .int .i64 0] [(0, 1, .const (.int .i64 1)), (2, 1, .const (.int .i64 1)), (3, 1, .const (.int .i64 1))]), zi 11 (.build [.int .i64 0, .int .i64 0, .int .i64 0, .int .i64 0, .int .i64 0, .int .i64 0] [(0, 1, .const (.int .i64 1))]), zi 12 (.buildSlice 113 6 1 [.int .i64 0, .int .i64 0, .int .i64 0, .int .i64 0, .int .i64 0, .int .i64 0] [(0, 6, .tmp 11)]), zi 13 (.buildSlice 103 1 1 [.slice none 0 0] [(0, 1, .tmp 12)]), zi 14 (.build [.int .i64 0, .slice none 0 0, .slice none 0 0, .int .i64 0, .int .i64 0, .int .i64 0, .int .i64 0, .int .i64 0, .int .i64 0, .int .i64 0, .slice none 0 0] [(0, 1, .const (.int .i64 1)), (3, 1, .const (.int .i64 1)), (4, 6, .tmp 10), (10, 1, .tmp 13)]), zi 15 (.call 47 []), zi 16 (.build [.int .i64 0, .slice none 0 0, .slice none 0 0, .int .i64 0, .int .i64 0, .int .i64 0, .int .i64 0, .int .i64 0, .int .i64 0, .int .i64 0, .slice none 0 0, .int .i64 0, .int .i64 0, .int .i64 0, .int .i64 0, .int .i64 0, .int .i64 0, .int .i64 0, .int .i64 0, .int .i64 0, .int .i64 0, .bool false, .slice none 0 0] [(0, 11, .tmp 14), (11, 11, .tmp 15)]), zi 1 (.new 42 23 [.int .i64 0, .slice none 0 0, .slice none 0 0, .int .i64 0, .int .i64 0, .int .i64 0, .int .i64 0, .int .i64 0, .int .i64 0, .int .i64 0, .slice none 0 0, .int .i64 0, .int .i64 0, .int .i64 0, .int .i64 0, .int .i64 0, .int .i64 0, .int .i64 0, .int .i64 0, .int .i64 0, .int .i64 0, .bool false, .slice none 0 0]), ⟨none, .store 23 (.tmp 1) (.tmp 16), none⟩])
 (.seq (.region [zl true 23 18 1, zi 19 (.call 10 [.tmp 18]), zm 17 19, ze 20 17 0, ze 21 17 1, zm 2 20, zm 3 21])
 (.seq (.region [zm 23 2, zi 24 (.call 16 [.tmp 23]), zm 22 24, ze 25 22 0, ze 26 22 1, zi 4 (.new 42 23 [.int .i64 0, .slice none 0 0, .slice none 0 0, .int .i64 0, .int .i64 0, .int .i64 0, .int .i64 0, .int .i64 0, .int .i64 0, .int .i64 0, .slice none 0 0, .int .i64 0, .int .i64 0, .int .i64 0, .int .i64 0, .int .i64 0, .int .i64 0, .int .i64 0, .int .i64 0, .int .i64 0, .int .i64 0, .bool false, .slice none 0 0]), ⟨none, .store 23 (.tmp 4) (.tmp 25), none⟩, zm 5 26])
 (.seq (.region [zm 28 2, zi 29 (.call 20 [.tmp 28]), zm 27 29, ze 30 27 0, ze 31 27 1, zm 6 30, zm 7 31])
 (.seq (.region [zi 33 (.call 16 [.const (.slice none 0 0)]), zm 32 33, ze 34 32 0, ze 35 32 1, zi 8 (.new 42 23 [.int .i64 0, .slice none 0 0, .slice none 0 0, .int .i64 0, .int .i64 0, .int .i64 0, .int .i64 0, .int .i64 0, .int .i64 0, .int .i64 0, .slice none 0 0, .int .i64 0, .int .i64 0, .int .i64 0, .int .i64 0, .int .i64 0, .int .i64 0, .int .i64 0, .int .i64 0, .int .i64 0, .int .i64 0, .bool false, .slice none 0 0]), ⟨none, .store 23 (.tmp 8) (.tmp 34), none⟩, zm 9 35])
 (.seq (.region [zm 36 3, zi 37 (.bin .eql (.tmp 36) (.const (.int .i64 0))), zm 38 37, ⟨some 39, .move (.tmp 5), (some (38, true))⟩, ⟨some 40, .bin .eql (.tmp 39) (.const (.int .i64 0)), (some (38, true))⟩, zi 41 (.pick (.tmp 38) (.tmp 40) (.const (.bool false))), zm 42 41, ⟨some 43, .load true 23 (.tmp 1), (some (42, true))⟩, ⟨some 44, .load true 23 (.tmp 4), (some (42, true))⟩, ⟨some 45, .call 17 [.tmp 43, .tmp 44], (some (42, true))⟩, zi 46 (.pick (.tmp 42) (.tmp 45) (.const (.bool false))), zm 47 46, ⟨some 48, .move (.tmp 7), (some (47, true))⟩, ⟨some 49, .bin .eql (.tmp 48) (.const (.int .i64 0)), (some (47, true))⟩, zi 50 (.pick (.tmp 47) (.tmp 49) (.const (.bool false))), zm 51 50, ⟨some 52, .move (.tmp 6), (some (51, true))⟩, ⟨some 53, .isNil true (.pointer 138) (.tmp 52), (some (51, true))⟩, zi 54 (.pick (.tmp 51) (.tmp 53) (.const (.bool false))), zm 55 54, ⟨some 56, .move (.tmp 6), (some (55, true))⟩, ⟨some 57, .call 26 [.tmp 56], (some (55, true))⟩, ⟨some 58, .fld false 6 1 (.tmp 57), (some (55, true))⟩, ⟨some 59, .bin .eql (.tmp 58) (.const (.int .i64 0)), (some (55, true))⟩, zi 60 (.pick (.tmp 55) (.tmp 59) (.const (.bool false))), zm 61 60, ⟨some 62, .move (.tmp 9), (some (61, true))⟩, ⟨some 63, .bin .eql (.tmp 62) (.const (.int .i64 20)), (some (61, true))⟩, zi 64 (.pick (.tmp 61) (.tmp 63) (.const (.bool false))), zm 0 64])
 (.ret)))))))
theorem light15 : Light Tryz.prog 15 0 65 L15 [.tmp 0] :=
  ⟨Tryz.f15, _, Tryz.func15, rfl, rfl, by kernel_rfl, by kernel_rfl, by decide⟩
def L16_1 : LCode :=
 .seq (.region [⟨some 49, .bin .lss (.tmp 48) (.const (.int .i64 10)), none⟩])
 (.seq (.cond (.tmp 49) (.skip)
 (.exit 0))
 (.seq (.block 1 (.seq (.region [⟨some 50, .idxAgg false 10 1 (.tmp 47) (.tmp 48), none⟩, ⟨some 10, .move (.tmp 50), none⟩])
 (.region [⟨some 51, .move (.tmp 10), none⟩, ⟨some 52, .move (.tmp 6), none⟩, ⟨some 53, .call 54 [.tmp 52], none⟩, ⟨some 54, .nilCheck (.tmp 51), none⟩, ⟨none, .store 1 (.tmp 54) (.tmp 53), none⟩])))
 (.region [⟨some 55, .bin .add (.tmp 48) (.const (.int .i64 1)), none⟩, ⟨some 48, .move (.tmp 55), none⟩])))
def K16_16 : LCode := .ret
def K16_15 : LCode :=
 .seq (.region [⟨some 97, .load true 23 (.tmp 8), none⟩, ⟨none, .store 23 (.tmp 2) (.tmp 97), none⟩, ⟨some 3, .move (.const (.int .i64 0)), none⟩])
 K16_16
def K16_14 : LCode :=
 .seq (.seq (.region [⟨some 83, .load true 23 (.tmp 8), none⟩, ⟨some 84, .call 10 [.tmp 83], none⟩, ⟨some 82, .move (.tmp 84), none⟩, ⟨some 85, .extract (.tmp 82) 0, none⟩, ⟨some 86, .extract (.tmp 82) 1, none⟩, ⟨some 13, .move (.tmp 85), none⟩, ⟨some 14, .move (.tmp 86), none⟩])
 (.seq (.region [⟨some 87, .move (.tmp 14), none⟩, ⟨some 88, .bin .neq (.tmp 87) (.const (.int .i64 0)), none⟩, ⟨some 89, .move (.tmp 88), none⟩, ⟨some 90, .move (.tmp 13), (some (89, false))⟩, ⟨some 91, .toStr (.tmp 90), (some (89, false))⟩, ⟨some 92, .move (.tmp 0), (some (89, false))⟩, ⟨some 93, .toStr (.tmp 92), (some (89, false))⟩, ⟨some 94, .bin .neq (.tmp 91) (.tmp 93), (some (89, false))⟩, ⟨some 95, .pick (.tmp 89) (.const (.bool true)) (.tmp 94), none⟩])
 (.cond (.tmp 95) (.seq (.region [⟨some 96, .build [.int .i64 0, .slice none 0 0, .slice none 0 0, .int .i64 0, .int .i64 0, .int .i64 0, .int .i64 0, .int .i64 0, .int .i64 0, .int .i64 0, .slice none 0 0, .int .i64 0, .int .i64 0, .int .i64 0, .int .i64 0, .int .i64 0, .int .i64 0, .int .i64 0, .int .i64 0, .int .i64 0, .int .i64 0, .bool false, .slice none 0 0] [], none⟩, ⟨none, .store 23 (.tmp 2) (.tmp 96), none⟩, ⟨some 3, .move (.const (.int .i64 260)), none⟩])
 (.ret))
 (.skip))))
 K16_15
def K16_13 : LCode :=
 .seq (.seq (.region [⟨some 76, .load true 23 (.tmp 8), none⟩, ⟨some 77, .call 13 [.tmp 76], none⟩, ⟨some 12, .move (.tmp 77), none⟩])
 (.seq (.region [⟨some 78, .move (.tmp 12), none⟩, ⟨some 79, .bin .neq (.tmp 78) (.const (.int .i64 0)), none⟩])
 (.cond (.tmp 79) (.seq (.region [⟨some 80, .build [.int .i64 0, .slice none 0 0, .slice none 0 0, .int .i64 0, .int .i64 0, .int .i64 0, .int .i64 0, .int .i64 0, .int .i64 0, .int .i64 0, .slice none 0 0, .int .i64 0, .int .i64 0, .int .i64 0, .int .i64 0, .int .i64 0, .int .i64 0, .int .i64 0, .int .i64 0, .int .i64 0, .int .i64 0, .bool false, .slice none 0 0] [], none⟩, ⟨some 81, .move (.tmp 12), none⟩, ⟨none, .store 23 (.tmp 2) (.tmp 80), none⟩, ⟨some 3, .move (.tmp 81), none⟩])
 (.ret))
 (.skip))))
 K16_14
def K16_12 : LCode :=
 .seq (.seq (.region [⟨some 70, .move (.tmp 6), none⟩, ⟨some 71, .call 57 [.tmp 70], none⟩, ⟨some 11, .move (.tmp 71), none⟩])
 (.seq (.region [⟨some 72, .move (.tmp 11), none⟩, ⟨some 73, .bin .neq (.tmp 72) (.const (.int .i64 0)), none⟩])
 (.cond (.tmp 73) (.seq (.region [⟨some 74, .build [.int .i64 0, .slice none 0 0, .slice none 0 0, .int .i64 0, .int .i64 0, .int .i64 0, .int .i64 0, .int .i64 0, .int .i64 0, .int .i64 0, .slice none 0 0, .int .i64 0, .int .i64 0, .int .i64 0, .int .i64 0, .int .i64 0, .int .i64 0, .int .i64 0, .int .i64 0, .int .i64 0, .int .i64 0, .bool false, .slice none 0 0] [], none⟩, ⟨some 75, .move (.tmp 11), none⟩, ⟨none, .store 23 (.tmp 2) (.tmp 74), none⟩, ⟨some 3, .move (.tmp 75), none⟩])
 (.ret))
 (.skip))))
 K16_13
def K16_11 : LCode :=
 .seq (.seq (.region [⟨some 66, .move (.tmp 5), none⟩, ⟨some 67, .bin .neq (.tmp 66) (.const (.int .i64 0)), none⟩])
 (.cond (.tmp 67) (.seq (.region [⟨some 68, .build [.int .i64 0, .slice none 0 0, .slice none 0 0, .int .i64 0, .int .i64 0, .int .i64 0, .int .i64 0, .int .i64 0, .int .i64 0, .int .i64 0, .slice none 0 0, .int .i64 0, .int .i64 0, .int .i64 0, .int .i64 0, .int .i64 0, .int .i64 0, .int .i64 0, .int .i64 0, .int .i64 0, .int .i64 0, .bool false, .slice none 0 0] [], none⟩, ⟨some 69, .move (.tmp 5), none⟩, ⟨none, .store 23 (.tmp 2) (.tmp 68), none⟩, ⟨some 3, .move (.tmp 69), none⟩])
 (.ret))
 (.skip)))
 K16_12
def K16_10 : LCode :=
 .seq (.region [⟨some 61, .move (.tmp 6), none⟩, ⟨some 62, .call 56 [.tmp 61], none⟩, ⟨some 60, .move (.tmp 62), none⟩, ⟨some 63, .extract (.tmp 60) 0, none⟩, ⟨some 64, .extract (.tmp 60) 1, none⟩, ⟨some 65, .off 22 (.tmp 8), none⟩, ⟨none, .store 1 (.tmp 65) (.tmp 63), none⟩, ⟨some 5, .move (.tmp 64), none⟩])
 K16_11
def K16_9 : LCode :=
 .seq (.region [⟨some 56, .move (.tmp 6), none⟩, ⟨some 57, .call 55 [.tmp 56], none⟩, ⟨some 58, .off 11 (.tmp 8), none⟩, ⟨some 59, .off 10 (.tmp 58), none⟩, ⟨none, .store 1 (.tmp 59) (.tmp 57), none⟩])
 K16_10
def K16_8 : LCode :=
 .seq (.seq (.region [⟨some 46, .off 11 (.tmp 8), none⟩, ⟨some 47, .call 53 [.tmp 46], none⟩, ⟨some 48, .move (.const (.int .i64 0)), none⟩])
 (.block 0 (.loop L16_1)))
 K16_9
def K16_7 : LCode :=
 .seq (.seq (.region [⟨some 42, .move (.tmp 5), none⟩, ⟨some 43, .bin .neq (.tmp 42) (.const (.int .i64 0)), none⟩])
 (.cond (.tmp 43) (.seq (.region [⟨some 44, .build [.int .i64 0, .slice none 0 0, .slice none 0 0, .int .i64 0, .int .i64 0, .int .i64 0, .int .i64 0, .int .i64 0, .int .i64 0, .int .i64 0, .slice none 0 0, .int .i64 0, .int .i64 0, .int .i64 0, .int .i64 0, .int .i64 0, .int .i64 0, .int .i64 0, .int .i64 0, .int .i64 0, .int .i64 0, .bool false, .slice none 0 0] [], none⟩, ⟨some 45, .move (.tmp 5), none⟩, ⟨none, .store 23 (.tmp 2) (.tmp 44), none⟩, ⟨some 3, .move (.tmp 45), none⟩])
 (.ret))
 (.skip)))
 K16_8
def K16_6 : LCode :=
 .seq (.region [⟨some 37, .move (.tmp 6), none⟩, ⟨some 38, .call 52 [.tmp 37], none⟩, ⟨some 36, .move (.tmp 38), none⟩, ⟨some 39, .extract (.tmp 36) 0, none⟩, ⟨some 40, .extract (.tmp 36) 1, none⟩, ⟨some 41, .off 0 (.tmp 8), none⟩, ⟨none, .store 11 (.tmp 41) (.tmp 39), none⟩, ⟨some 5, .move (.tmp 40), none⟩])
 K16_7
def K16_5 : LCode :=
 .seq (.region [⟨some 8, .new 42 23 [.int .i64 0, .slice none 0 0, .slice none 0 0, .int .i64 0, .int .i64 0, .int .i64 0, .int .i64 0, .int .i64 0, .int .i64 0, .int .i64 0, .slice none 0 0, .int .i64 0, .int .i64 0, .int .i64 0, .int .i64 0, .int .i64 0, .int .i64 0, .int .i64 0, .int .i64 0, .int .i64 0, .int .i64 0, .bool false, .slice none 0 0], none⟩])
 K16_6
def K16_4 : LCode :=
 .seq (.seq (.region [⟨some 26, .move (.tmp 6), none⟩, ⟨some 27, .call 50 [.tmp 26], none⟩, ⟨some 7, .move (.tmp 27), none⟩])
 (.seq (.region [⟨some 28, .move (.tmp 7), none⟩, ⟨some 29, .bin .neq (.tmp 28) (.const (.int .u64 1)), none⟩, ⟨some 30, .move (.tmp 29), none⟩, ⟨some 31, .move (.tmp 6), (some (30, true))⟩, ⟨some 32, .call 51 [.tmp 31], (some (30, true))⟩, ⟨some 33, .bin .eql (.tmp 32) (.const (.int .i64 0)), (some (30, true))⟩, ⟨some 34, .pick (.tmp 30) (.tmp 33) (.const (.bool false)), none⟩])
 (.cond (.tmp 34) (.seq (.region [⟨some 35, .build [.int .i64 0, .slice none 0 0, .slice none 0 0, .int .i64 0, .int .i64 0, .int .i64 0, .int .i64 0, .int .i64 0, .int .i64 0, .int .i64 0, .slice none 0 0, .int .i64 0, .int .i64 0, .int .i64 0, .int .i64 0, .int .i64 0, .int .i64 0, .int .i64 0, .int .i64 0, .int .i64 0, .int .i64 0, .bool false, .slice none 0 0] [], none⟩, ⟨none, .store 23 (.tmp 2) (.tmp 35), none⟩, ⟨some 3, .move (.const (.int .i64 260)), none⟩])
 (.ret))
 (.skip))))
 K16_5
def K16_3 : LCode :=
 .seq (.region [⟨some 24, .move (.tmp 4), none⟩, ⟨some 25, .call 49 [.tmp 24], none⟩, ⟨some 6, .move (.tmp 25), none⟩])
 K16_4
def K16_2 : LCode :=
 .seq (.seq (.region [⟨some 20, .move (.tmp 5), none⟩, ⟨some 21, .bin .neq (.tmp 20) (.const (.int .i64 0)), none⟩])
 (.cond (.tmp 21) (.seq (.region [⟨some 22, .build [.int .i64 0, .slice none 0 0, .slice none 0 0, .int .i64 0, .int .i64 0, .int .i64 0, .int .i64 0, .int .i64 0, .int .i64 0, .int .i64 0, .slice none 0 0, .int .i64 0, .int .i64 0, .int .i64 0, .int .i64 0, .int .i64 0, .int .i64 0, .int .i64 0, .int .i64 0, .int .i64 0, .int .i64 0, .bool false, .slice none 0 0] [], none⟩, ⟨some 23, .move (.tmp 5), none⟩, ⟨none, .store 23 (.tmp 2) (.tmp 22), none⟩, ⟨some 3, .move (.tmp 23), none⟩])
 (.ret))
 (.skip)))
 K16_3
def K16_1 : LCode :=
 .seq (.region [⟨some 16, .move (.tmp 0), none⟩, ⟨some 17, .call 48 [.tmp 16], none⟩, ⟨some 15, .move (.tmp 17), none⟩, ⟨some 18, .extract (.tmp 15) 0, none⟩, ⟨some 19, .extract (.tmp 15) 1, none⟩, ⟨some 4, .move (.tmp 18), none⟩, ⟨some 5, .move (.tmp 19), none⟩])
 K16_2
def K16_0 : LCode :=
 .seq (.region [⟨some 2, .new 42 23 [.int .i64 0, .slice none 0 0, .slice none 0 0, .int .i64 0, .int .i64 0, .int .i64 0, .int .i64 0, .int .i64 0, .int .i64 0, .int .i64 0, .slice none 0 0, .int .i64 0, .int .i64 0, .int .i64 0, .int .i64 0, .int .i64 0, .int .i64 0, .int .i64 0, .int .i64 0, .int .i64 0, .int .i64 0, .bool false, .slice none 0 0], none⟩, ⟨some 3, .move (.const (.int .i64 0)), none⟩])
 K16_1
def L16 : LCode := K16_0
theorem light16 : Light Tryz.prog 16 1 98 L16 [.cell 2 true 23, .tmp 3] :=
  ⟨Tryz.f16, _, Tryz.func16, rfl, rfl, by kernel_rfl, by kernel_rfl, by decide⟩
def L17 : LCode :=
 .seq (.region [⟨some 2, .box 42 23 (.tmp 0), none⟩, ⟨some 3, .box 42 23 (.tmp 1), none⟩, ⟨some 4, .move (.const (.bool false)), none⟩])
 (.seq (.region [⟨some 5, .off 0 (.tmp 2), none⟩, ⟨some 6, .load true 11 (.tmp 5), none⟩, ⟨some 7, .off 0 (.tmp 3), none⟩, ⟨some 8, .load true 11 (.tmp 7), none⟩, ⟨some 9, .call 58 [.tmp 6, .tmp 8], none⟩, ⟨some 10, .move (.tmp 9), none⟩, ⟨some 11, .off 11 (.tmp 2), (some (10, true))⟩, ⟨some 12, .load true 11 (.tmp 11), (some (10, true))⟩, ⟨some 13, .off 11 (.tmp 3), (some (10, true))⟩, ⟨some 14, .load true 11 (.tmp 13), (some (10, true))⟩, ⟨some 15, .eqR false 32 (.tmp 12) (.tmp 14), (some (10, true))⟩, ⟨some 16, .pick (.tmp 10) (.tmp 15) (.const (.bool false)), none⟩, ⟨some 17, .move (.tmp 16), none⟩, ⟨some 18, .off 22 (.tmp 2), (some (17, true))⟩, ⟨some 19, .load false 1 (.tmp 18), (some (17, true))⟩, ⟨some 20, .off 22 (.tmp 3), (some (17, true))⟩, ⟨some 21, .load false 1 (.tmp 20), (some (17, true))⟩, ⟨some 22, .call 59 [.tmp 19, .tmp 21], (some (17, true))⟩, ⟨some 23, .pick (.tmp 17) (.tmp 22) (.const (.bool false)), none⟩, ⟨some 4, .move (.tmp 23), none⟩])
 (.ret))
theorem light17 : Light Tryz.prog 17 2 24 L17 [.tmp 4] :=
  ⟨Tryz.f17, _, Tryz.func17, rfl, rfl, by kernel_rfl, by kernel_rfl, by decide⟩
def L20_1 : LCode :=
 .seq (.region [zi 32 (.bin .lss (.tmp 31) (.tmp 30))])
 (.seq (.cond (.tmp 32) (.skip)
 (.exit 0))
 (.seq (.block 1 (.seq (.region [zi 33 (.idx 2 (.tmp 29) (.tmp 31)), zl true 2 34 33, zi 8 (.new 62 2 [.int .i64 0, .bool false]), ⟨none, .store 2 (.tmp 8) (.tmp 34), none⟩])
 (.region [zm 35 6, zl true 2 36 8, zi 37 (.call 22 [.tmp 35, .tmp 36])])))
 (.region [zi 38 (.bin .add (.tmp 31) (.const (.int .i64 1))), zm 31 38])))
def L20 : LCode :=
 .seq (.region [zi 2 (.move (.const (.pointer none))), zi 3 (.move (.const (.int .i64 0)))])
 (.seq (.region [zm 10 0, zi 11 (.call 16 [.tmp 10]), zm 9 11, ze 12 9 0, ze 13 9 1, zi 4 (.new 42 23 [.int .i64 0, .slice none 0 0, .slice none 0 0, .int .i64 0, .int .i64 0, .int .i64 0, .int .i64 0, .int .i64 0, .int .i64 0, .int .i64 0, .slice none 0 0, .int .i64 0, .int .i64 0, .int .i64 0, .int .i64 0, .int .i64 0, .int .i64 0, .int .i64 0, .int .i64 0, .int .i64 0, .int .i64 0, .bool false, .slice none 0 0]), ⟨none, .store 23 (.tmp 4) (.tmp 12), none⟩, zm 5 13])
 (.seq (.seq (.region [zm 14 5, zi 15 (.bin .neq (.tmp 14) (.const (.int .i64 0)))])
 (.cond (.tmp 15) (.seq (.region [zm 16 5, zi 2 (.move (.const (.pointer none))), zm 3 16])
 (.ret))
 (.skip)))
 (.seq (.region [zo 0 18 4, zl true 11 19 18, zo 11 20 4, zl true 11 21 20, zi 22 (.call 21 [.tmp 19, .tmp 21]), zm 17 22, ze 23 17 0, ze 24 17 1, zm 6 23, zm 5 24])
 (.seq (.seq (.region [zm 25 5, zi 26 (.bin .neq (.tmp 25) (.const (.int .i64 0)))])
 (.cond (.tmp 26) (.seq (.region [zm 27 5, zi 2 (.move (.const (.pointer none))), zm 3 27])
 (.ret))
 (.skip)))
 (.seq (.seq (.region [zo 22 28 4, zl false 1 29 28, zi 30 (.len (.tmp 29)), zi 31 (.move (.const (.int .i64 0)))])
 (.block 0 (.loop L20_1)))
 (.seq (.region [zm 39 6, zm 2 39, zi 3 (.move (.const (.int .i64 0)))])
 (.ret)))))))
theorem light20 : Light Tryz.prog 20 1 40 L20 [.tmp 2, .tmp 3] :=
  ⟨Tryz.f20, _, Tryz.func20, rfl, rfl, by kernel_rfl, by kernel_rfl, by decide⟩
def L21 : LCode :=
 .seq (.region [zi 2 (.box 29 11 (.tmp 0)), zi 3 (.box 32 11 (.tmp 1)), zi 4 (.move (.const (.pointer none))), zi 5 (.move (.const (.int .i64 0)))])
 (.seq (.seq (.region [zl true 11 9 2, zi 10 (.call 43 [.tmp 9]), zm 6 10])
 (.seq (.region [zm 11 6, zi 12 (.bin .neq (.tmp 11) (.const (.int .i64 0)))])
 (.cond (.tmp 12) (.seq (.region [zm 13 6, zi 4 (.move (.const (.pointer none))), zm 5 13])
 (.ret))
 (.skip))))
 (.seq (.seq (.region [zl true 11 14 3, zi 15 (.call 44 [.tmp 14]), zm 7 15])
 (.seq (.region [zm 16 7, zi 17 (.bin .neq (.tmp 16) (.const (.int .i64 0)))])
 (.cond (.tmp 17) (.seq (.region [zm 18 7, zi 4 (.move (.const (.pointer none))), zm 5 18])
 (.ret))
 (.skip))))
 (.seq (.alts [[zr (zl true 11 19 2) 0 0, zh (zi 20 (.call 62 [.tmp 19])) 0 1, zr (zl true 11 21 3) 0 2, zp (zo 0 22 3) 0 1, zr (zl false 1 23 22) 0 1, zh (zi 24 (.make 204 3 24 [.int .i64 0, .int .i64 0, .pointer none] (.tmp 23) (.tmp 23))) 1 2, zp (zi 25 (.build [.int .i64 0, .slice none 0 0, .slice none 0 0, .int .i64 0, .int .i64 0, .int .i64 0, .int .i64 0, .int .i64 0, .int .i64 0, .int .i64 0, .slice none 0 0, .int .i64 0, .int .i64 0, .int .i64 0, .int .i64 0, .int .i64 0, .int .i64 0, .int .i64 0, .int .i64 0, .int .i64 0, .int .i64 0, .bool false, .int .i64 0, .pointer none, .pointer none, .pointer none, .slice none 0 0, .slice none 0 0, .slice none 0 0, .slice none 0 0, .int .i64 0, .int .i64 0, .int .i64 0, .int .i64 0, .bool false, .int .i64 0, .int .i64 0, .int .i64 0, .int .i64 0, .int .i64 0, .int .i64 0, .int .i64 0, .slice none 0 0] [(0, 11, .tmp 20), (11, 11, .tmp 21), (26, 1, .tmp 24)])) 2 2, zh (zi 26 (.box 138 43 (.tmp 25))) 2 3, zp (zm 8 26) 3 3], [zr (zl true 11 19 2) 0 1, zr (zl true 11 21 3) 0 2, zp (zo 0 22 3) 0 0, zr (zl false 1 23 22) 0 0, zh (zi 24 (.make 204 3 24 [.int .i64 0, .int .i64 0, .pointer none] (.tmp 23) (.tmp 23))) 0 1, zh (zi 20 (.call 62 [.tmp 19])) 1 2, zp (zi 25 (.build [.int .i64 0, .slice none 0 0, .slice none 0 0, .int .i64 0, .int .i64 0, .int .i64 0, .int .i64 0, .int .i64 0, .int .i64 0, .int .i64 0, .slice none 0 0, .int .i64 0, .int .i64 0, .int .i64 0, .int .i64 0, .int .i64 0, .int .i64 0, .int .i64 0, .int .i64 0, .int .i64 0, .int .i64 0, .bool false, .int .i64 0, .pointer none, .pointer none, .pointer none, .slice none 0 0, .slice none 0 0, .slice none 0 0, .slice none 0 0, .int .i64 0, .int .i64 0, .int .i64 0, .int .i64 0, .bool false, .int .i64 0, .int .i64 0, .int .i64 0, .int .i64 0, .int .i64 0, .int .i64 0, .int .i64 0, .slice none 0 0] [(0, 11, .tmp 20), (11, 11, .tmp 21), (26, 1, .tmp 24)])) 2 2, zh (zi 26 (.box 138 43 (.tmp 25))) 2 3, zp (zm 8 26) 3 3]])
 (.seq (.region [zm 28 8, zo 4 29 2, zl true 6 30 29, zi 31 (.call 63 [.tmp 30]), zm 27 31, ze 32 27 0, ze 33 27 1, zi 34 (.nilCheck (.tmp 28)), zo 22 35 34, ⟨none, .store 1 (.tmp 35) (.tmp 32), none⟩])
 (.seq (.region [zm 37 8, zm 38 8, zi 39 (.nilCheck (.tmp 38)), zo 0 40 39, zl true 11 41 40, zi 42 (.call 64 [.tmp 41]), zm 36 42, ze 43 36 0, ze 44 36 1, zi 45 (.nilCheck (.tmp 37)), zo 27 46 45, ⟨none, .store 7 (.tmp 46) (.tmp 43), none⟩])
 (.seq (.draw [zp (zm 48 8) 0 1, zp (zo 2 49 3) 0 0, zr (zl false 1 50 49) 0 0, zp (zo 3 51 3) 0 0, zr (zl false 1 52 51) 0 0, zp (zo 0 53 3) 0 0, zr (zl false 1 54 53) 0 0, zp (zm 55 8) 0 0, zp (zi 56 (.nilCheck (.tmp 55))) 0 0, zp (zo 22 57 56) 0 0, zr (zl false 1 58 57) 0 0, zh (zi 59 (.call 65 [.tmp 50, .tmp 52, .tmp 54, .tmp 58])) 0 1, zp (zm 47 59) 1 1, zp (ze 60 47 0) 1 1, zp (ze 61 47 1) 1 2, zp (zi 62 (.nilCheck (.tmp 48))) 1 1, zp (zo 23 63 62) 1 1, ⟨⟨none, .store 1 (.tmp 63) (.tmp 60), none⟩, .heavy, 1, 2⟩])
 (.seq (.region [zm 64 8, zi 65 (.call 66 [.tmp 64])])
 (.seq (.region [zm 66 8, zm 67 8, zi 68 (.nilCheck (.tmp 67)), zo 22 69 68, zl false 1 70 69, zi 71 (.bin .eql (.tmp 70) (.const (.int .i64 0))), zi 72 (.nilCheck (.tmp 66)), zo 34 73 72, ⟨none, .store 1 (.tmp 73) (.tmp 71), none⟩])
 (.seq (.region [zm 74 8, zm 4 74, zi 5 (.move (.const (.int .i64 0)))])
 (.ret))))))))))
theorem lightX21 : LightX Tryz.prog 21 2 75 L21 [.tmp 4, .tmp 5] :=
  ⟨Tryz.f21, _, Tryz.func21, rfl, rfl, by kernel_rfl, by kernel_rfl, by decide⟩
def L26 : LCode :=
 .seq (.region [zi 2 (.new 72 7 [.slice none 0 0, .slice none 0 0, .slice none 0 0, .int .i64 0, .int .i64 0, .int .i64 0, .int .i64 0])])
 (.seq (.region [zm 4 0, zi 5 (.nilCheck (.tmp 4)), zo 27 6 5, zl true 7 7 6, zi 3 (.new 72 7 [.slice none 0 0, .slice none 0 0, .slice none 0 0, .int .i64 0, .int .i64 0, .int .i64 0, .int .i64 0]), ⟨none, .store 7 (.tmp 3) (.tmp 7), none⟩])
 (.seq (.region [zo 0 8 3, zl false 1 9 8, zi 10 (.append 2 1 8 (.const (.slice none 0 0)) (.tmp 9)), zo 0 11 3, ⟨none, .store 1 (.tmp 11) (.tmp 10), none⟩])
 (.seq (.region [zo 1 12 3, zl false 1 13 12, zi 14 (.append 2 1 8 (.const (.slice none 0 0)) (.tmp 13)), zo 1 15 3, ⟨none, .store 1 (.tmp 15) (.tmp 14), none⟩])
 (.seq (.region [zo 2 16 3, zl false 1 17 16, zi 18 (.append 2 1 8 (.const (.slice none 0 0)) (.tmp 17)), zo 2 19 3, ⟨none, .store 1 (.tmp 19) (.tmp 18), none⟩])
 (.seq (.region [zl true 7 20 3, ⟨none, .store 7 (.tmp 2) (.tmp 20), none⟩])
 (.ret))))))
theorem light26 : Light Tryz.prog 26 1 21 L26 [.cell 2 true 7] :=
  ⟨Tryz.f26, _, Tryz.func26, rfl, rfl, by kernel_rfl, by kernel_rfl, by decide⟩
def L31_1 : LCode :=
 .seq (.seq (.region [⟨some 20, .move (.tmp 3), none⟩, ⟨some 21, .off 10 (.tmp 1), none⟩, ⟨some 22, .load false 1 (.tmp 21), none⟩, ⟨some 23, .len (.tmp 22), none⟩, ⟨some 24, .bin .lss (.tmp 20) (.tmp 23), none⟩])
 (.cond (.tmp 24) (.skip)
 (.exit 0)))
 (.seq (.block 1 (.seq (.region [⟨some 27, .off 10 (.tmp 1), none⟩, ⟨some 28, .load false 1 (.tmp 27), none⟩, ⟨some 29, .move (.tmp 3), none⟩, ⟨some 30, .idx 1 (.tmp 28) (.tmp 29), none⟩, ⟨some 31, .load false 1 (.tmp 30), none⟩, ⟨some 32, .len (.tmp 31), none⟩, ⟨some 33, .bin .gtr (.tmp 32) (.const (.int .i64 700)), none⟩])
 (.cond (.tmp 33) (.seq (.region [⟨some 2, .move (.const (.bool true)), none⟩])
 (.ret))
 (.skip))))
 (.region [⟨some 25, .move (.tmp 3), none⟩, ⟨some 26, .bin .add (.tmp 25) (.const (.int .i64 1)), none⟩, ⟨some 3, .move (.tmp 26), none⟩]))
def L31 : LCode :=
 .seq (.region [⟨some 1, .box 29 11 (.tmp 0), none⟩, ⟨some 2, .move (.const (.bool false)), none⟩])
 (.seq (.seq (.region [⟨some 4, .off 1 (.tmp 1), none⟩, ⟨some 5, .load false 1 (.tmp 4), none⟩, ⟨some 6, .len (.tmp 5), none⟩, ⟨some 7, .bin .gtr (.tmp 6) (.const (.int .i64 200)), none⟩, ⟨some 8, .move (.tmp 7), none⟩, ⟨some 9, .off 2 (.tmp 1), (some (8, false))⟩, ⟨some 10, .load false 1 (.tmp 9), (some (8, false))⟩, ⟨some 11, .len (.tmp 10), (some (8, false))⟩, ⟨some 12, .bin .gtr (.tmp 11) (.const (.int .i64 50)), (some (8, false))⟩, ⟨some 13, .pick (.tmp 8) (.const (.bool true)) (.tmp 12), none⟩, ⟨some 14, .move (.tmp 13), none⟩, ⟨some 15, .off 10 (.tmp 1), (some (14, false))⟩, ⟨some 16, .load false 1 (.tmp 15), (some (14, false))⟩, ⟨some 17, .len (.tmp 16), (some (14, false))⟩, ⟨some 18, .bin .gtr (.tmp 17) (.const (.int .i64 50)), (some (14, false))⟩, ⟨some 19, .pick (.tmp 14) (.const (.bool true)) (.tmp 18), none⟩])
 (.cond (.tmp 19) (.seq (.region [⟨some 2, .move (.const (.bool true)), none⟩])
 (.ret))
 (.skip)))
 (.seq (.seq (.region [⟨some 3, .move (.const (.int .i64 0)), none⟩])
 (.block 0 (.loop L31_1)))
 (.seq (.region [⟨some 2, .move (.const (.bool false)), none⟩])
 (.ret))))
theorem light31 : Light Tryz.prog 31 1 34 L31 [.tmp 2] :=
  ⟨Tryz.f31, _, Tryz.func31, rfl, rfl, by kernel_rfl, by kernel_rfl, by decide⟩
def L32 : LCode :=
 .seq (.region [⟨some 0, .move (.const (.pointer none)), none⟩])
 (.seq (.region [⟨some 1, .build [.slice none 0 0] [], none⟩, ⟨some 2, .box 150 1 (.tmp 1), none⟩, ⟨some 0, .move (.tmp 2), none⟩])
 (.ret))
theorem light32 : Light Tryz.prog 32 0 3 L32 [.tmp 0] :=
  ⟨Tryz.f32, _, Tryz.func32, rfl, rfl, by kernel_rfl, by kernel_rfl, by decide⟩
def L33_1 : LCode :=
 .seq (.seq (.region [⟨some 4, .move (.tmp 1), none⟩, ⟨some 5, .bin .geq (.tmp 4) (.const (.int .u64 128)), none⟩])
 (.cond (.tmp 5) (.skip)
 (.exit 0)))
 (.block 1 (.seq (.region [⟨some 6, .move (.tmp 0), none⟩, ⟨some 7, .move (.tmp 0), none⟩, ⟨some 8, .nilCheck (.tmp 7), none⟩, ⟨some 9, .off 0 (.tmp 8), none⟩, ⟨some 10, .load false 1 (.tmp 9), none⟩, ⟨some 11, .move (.tmp 1), none⟩, ⟨some 12, .conv .u8 (.tmp 11), none⟩, ⟨some 13, .bin .or (.tmp 12) (.const (.int .u8 128)), none⟩, ⟨some 14, .buildSlice 5 1 1 [.int .u8 0] [(0, 1, .tmp 13)], none⟩, ⟨some 15, .append 5 1 1 (.tmp 10) (.tmp 14), none⟩, ⟨some 16, .nilCheck (.tmp 6), none⟩, ⟨some 17, .off 0 (.tmp 16), none⟩, ⟨none, .store 1 (.tmp 17) (.tmp 15), none⟩])
 (.region [⟨some 18, .move (.tmp 1), none⟩, ⟨some 19, .bin .shr (.tmp 18) (.const (.int .u64 7)), none⟩, ⟨some 1, .move (.tmp 19), none⟩])))
def L33 : LCode :=
 .seq (.block 0 (.loop L33_1))
 (.region [⟨some 20, .move (.tmp 0), none⟩, ⟨some 21, .move (.tmp 0), none⟩, ⟨some 22, .nilCheck (.tmp 21), none⟩, ⟨some 23, .off 0 (.tmp 22), none⟩, ⟨some 24, .load false 1 (.tmp 23), none⟩, ⟨some 25, .move (.tmp 1), none⟩, ⟨some 26, .conv .u8 (.tmp 25), none⟩, ⟨some 27, .buildSlice 5 1 1 [.int .u8 0] [(0, 1, .tmp 26)], none⟩, ⟨some 28, .append 5 1 1 (.tmp 24) (.tmp 27), none⟩, ⟨some 29, .nilCheck (.tmp 20), none⟩, ⟨some 30, .off 0 (.tmp 29), none⟩, ⟨none, .store 1 (.tmp 30) (.tmp 28), none⟩])
theorem light33 : Light Tryz.prog 33 2 31 L33 [] :=
  ⟨Tryz.f33, _, Tryz.func33, rfl, rfl, by kernel_rfl, by kernel_rfl, by decide⟩
def L34_1 : LCode :=
 .seq (.region [⟨some 27, .bin .lss (.tmp 26) (.tmp 25), none⟩])
 (.seq (.cond (.tmp 27) (.skip)
 (.exit 0))
 (.seq (.block 1 (.seq (.region [⟨some 28, .idx 2 (.tmp 24) (.tmp 26), none⟩, ⟨some 29, .load true 2 (.tmp 28), none⟩, ⟨some 5, .new 98 2 [.int .i64 0, .int .i64 0], none⟩, ⟨none, .store 2 (.tmp 5) (.tmp 29), none⟩])
 (.seq (.region [⟨some 30, .move (.tmp 0), none⟩, ⟨some 31, .off 0 (.tmp 5), none⟩, ⟨some 32, .load false 1 (.tmp 31), none⟩, ⟨some 33, .conv .u64 (.tmp 32), none⟩, ⟨some 34, .call 33 [.tmp 30, .tmp 33], none⟩])
 (.region [⟨some 35, .move (.tmp 0), none⟩, ⟨some 36, .off 1 (.tmp 5), none⟩, ⟨some 37, .load false 1 (.tmp 36), none⟩, ⟨some 38, .call 72 [.tmp 35, .tmp 37], none⟩]))))
 (.region [⟨some 39, .bin .add (.tmp 26) (.const (.int .i64 1)), none⟩, ⟨some 26, .move (.tmp 39), none⟩])))
def L34_2 : LCode :=
 .seq (.region [⟨some 50, .bin .lss (.tmp 49) (.tmp 48), none⟩])
 (.seq (.cond (.tmp 50) (.skip)
 (.exit 2))
 (.seq (.block 3 (.seq (.region [⟨some 51, .idx 2 (.tmp 47) (.tmp 49), none⟩, ⟨some 52, .load true 2 (.tmp 51), none⟩, ⟨some 7, .new 101 2 [.int .i64 0, .int .i64 0], none⟩, ⟨none, .store 2 (.tmp 7) (.tmp 52), none⟩])
 (.seq (.region [⟨some 53, .move (.tmp 0), none⟩, ⟨some 54, .off 0 (.tmp 7), none⟩, ⟨some 55, .load false 1 (.tmp 54), none⟩, ⟨some 56, .conv .u64 (.tmp 55), none⟩, ⟨some 57, .call 33 [.tmp 53, .tmp 56], none⟩])
 (.region [⟨some 58, .move (.tmp 0), none⟩, ⟨some 59, .off 1 (.tmp 7), none⟩, ⟨some 60, .load false 1 (.tmp 59), none⟩, ⟨some 61, .call 72 [.tmp 58, .tmp 60], none⟩]))))
 (.region [⟨some 62, .bin .add (.tmp 49) (.const (.int .i64 1)), none⟩, ⟨some 49, .move (.tmp 62), none⟩])))
def L34_3 : LCode :=
 .seq (.region [⟨some 102, .bin .lss (.tmp 101) (.tmp 100), none⟩])
 (.seq (.cond (.tmp 102) (.skip)
 (.exit 4))
 (.seq (.block 5 (.seq (.region [⟨some 103, .idx 1 (.tmp 99) (.tmp 101), none⟩, ⟨some 104, .load false 1 (.tmp 103), none⟩, ⟨some 9, .move (.tmp 104), none⟩])
 (.seq (.region [⟨some 106, .move (.tmp 9), none⟩, ⟨some 107, .off 2 (.tmp 3), none⟩, ⟨some 108, .load false 1 (.tmp 107), none⟩, ⟨some 109, .len (.tmp 108), none⟩, ⟨some 110, .call 74 [.tmp 106, .tmp 109], none⟩, ⟨some 105, .move (.tmp 110), none⟩, ⟨some 111, .extract (.tmp 105) 0, none⟩, ⟨some 112, .extract (.tmp 105) 1, none⟩, ⟨some 10, .move (.tmp 111), none⟩, ⟨some 11, .move (.tmp 112), none⟩])
 (.region [⟨some 113, .move (.tmp 0), none⟩, ⟨some 114, .move (.tmp 10), none⟩, ⟨some 115, .toStr (.tmp 114), none⟩, ⟨some 116, .call 75 [.tmp 113, .tmp 115], none⟩]))))
 (.region [⟨some 117, .bin .add (.tmp 101) (.const (.int .i64 1)), none⟩, ⟨some 101, .move (.tmp 117), none⟩])))
def L34 : LCode :=
 .seq (.region [⟨some 3, .box 29 11 (.tmp 1), none⟩])
 (.seq (.region [⟨some 12, .move (.tmp 0), none⟩, ⟨some 13, .off 0 (.tmp 3), none⟩, ⟨some 14, .load false 1 (.tmp 13), none⟩, ⟨some 15, .conv .u64 (.tmp 14), none⟩, ⟨some 16, .call 33 [.tmp 12, .tmp 15], none⟩])
 (.seq (.region [⟨some 17, .move (.tmp 0), none⟩, ⟨some 18, .off 1 (.tmp 3), none⟩, ⟨some 19, .load false 1 (.tmp 18), none⟩, ⟨some 20, .len (.tmp 19), none⟩, ⟨some 21, .conv .u64 (.tmp 20), none⟩, ⟨some 22, .call 33 [.tmp 17, .tmp 21], none⟩])
 (.seq (.seq (.region [⟨some 23, .off 1 (.tmp 3), none⟩, ⟨some 24, .load false 1 (.tmp 23), none⟩, ⟨some 25, .len (.tmp 24), none⟩, ⟨some 26, .move (.const (.int .i64 0)), none⟩])
 (.block 0 (.loop L34_1)))
 (.seq (.region [⟨some 40, .move (.tmp 0), none⟩, ⟨some 41, .off 2 (.tmp 3), none⟩, ⟨some 42, .load false 1 (.tmp 41), none⟩, ⟨some 43, .len (.tmp 42), none⟩, ⟨some 44, .conv .u64 (.tmp 43), none⟩, ⟨some 45, .call 33 [.tmp 40, .tmp 44], none⟩])
 (.seq (.seq (.region [⟨some 46, .off 2 (.tmp 3), none⟩, ⟨some 47, .load false 1 (.tmp 46), none⟩, ⟨some 48, .len (.tmp 47), none⟩, ⟨some 49, .move (.const (.int .i64 0)), none⟩])
 (.block 2 (.loop L34_2)))
 (.seq (.region [⟨some 63, .move (.tmp 0), none⟩, ⟨some 64, .off 3 (.tmp 3), none⟩, ⟨some 65, .load false 1 (.tmp 64), none⟩, ⟨some 66, .conv .u64 (.tmp 65), none⟩, ⟨some 67, .call 33 [.tmp 63, .tmp 66], none⟩])
 (.seq (.region [⟨some 68, .move (.tmp 0), none⟩, ⟨some 69, .off 4 (.tmp 3), none⟩, ⟨some 70, .off 0 (.tmp 69), none⟩, ⟨some 71, .load false 1 (.tmp 70), none⟩, ⟨some 72, .conv .u64 (.tmp 71), none⟩, ⟨some 73, .call 33 [.tmp 68, .tmp 72], none⟩])
 (.seq (.region [⟨some 74, .move (.tmp 0), none⟩, ⟨some 75, .off 4 (.tmp 3), none⟩, ⟨some 76, .off 1 (.tmp 75), none⟩, ⟨some 77, .load false 1 (.tmp 76), none⟩, ⟨some 78, .off 4 (.tmp 3), none⟩, ⟨some 79, .off 2 (.tmp 78), none⟩, ⟨some 80, .load false 1 (.tmp 79), none⟩, ⟨some 81, .off 4 (.tmp 3), none⟩, ⟨some 82, .off 3 (.tmp 81), none⟩, ⟨some 83, .load false 1 (.tmp 82), none⟩, ⟨some 84, .off 4 (.tmp 3), none⟩, ⟨some 85, .off 4 (.tmp 84), none⟩, ⟨some 86, .load false 1 (.tmp 85), none⟩, ⟨some 87, .off 4 (.tmp 3), none⟩, ⟨some 88, .off 5 (.tmp 87), none⟩, ⟨some 89, .load false 1 (.tmp 88), none⟩, ⟨some 90, .buildSlice 2 1 5 [.int .i64 0] [(0, 1, .tmp 77), (1, 1, .tmp 80), (2, 1, .tmp 83), (3, 1, .tmp 86), (4, 1, .tmp 89)], none⟩, ⟨some 91, .call 73 [.tmp 74, .tmp 90], none⟩])
 (.seq (.region [⟨some 92, .move (.tmp 0), none⟩, ⟨some 93, .off 10 (.tmp 3), none⟩, ⟨some 94, .load false 1 (.tmp 93), none⟩, ⟨some 95, .len (.tmp 94), none⟩, ⟨some 96, .conv .u64 (.tmp 95), none⟩, ⟨some 97, .call 33 [.tmp 92, .tmp 96], none⟩])
 (.seq (.region [⟨some 98, .off 10 (.tmp 3), none⟩, ⟨some 99, .load false 1 (.tmp 98), none⟩, ⟨some 100, .len (.tmp 99), none⟩, ⟨some 101, .move (.const (.int .i64 0)), none⟩])
 (.block 4 (.loop L34_3))))))))))))
theorem light34 : Light Tryz.prog 34 2 118 L34 [] :=
  ⟨Tryz.f34, _, Tryz.func34, rfl, rfl, by kernel_rfl, by kernel_rfl, by decide⟩
def L35_1 : LCode :=
 .seq (.region [⟨some 8, .bin .lss (.tmp 7) (.const (.int .i64 10)), none⟩])
 (.seq (.cond (.tmp 8) (.skip)
 (.exit 0))
 (.seq (.block 1 (.seq (.region [⟨some 9, .idxAgg false 10 1 (.tmp 6) (.tmp 7), none⟩, ⟨some 5, .move (.tmp 9), none⟩])
 (.region [⟨some 10, .move (.tmp 0), none⟩, ⟨some 11, .move (.tmp 5), none⟩, ⟨some 12, .nilCheck (.tmp 11), none⟩, ⟨some 13, .load false 1 (.tmp 12), none⟩, ⟨some 14, .conv .u64 (.tmp 13), none⟩, ⟨some 15, .call 33 [.tmp 10, .tmp 14], none⟩])))
 (.region [⟨some 16, .bin .add (.tmp 7) (.const (.int .i64 1)), none⟩, ⟨some 7, .move (.tmp 16), none⟩])))
def L35 : LCode :=
 .seq (.region [⟨some 3, .box 32 11 (.tmp 1), none⟩])
 (.seq (.seq (.region [⟨some 6, .call 53 [.tmp 3], none⟩, ⟨some 7, .move (.const (.int .i64 0)), none⟩])
 (.block 0 (.loop L35_1)))
 (.region [⟨some 17, .move (.tmp 0), none⟩, ⟨some 18, .off 10 (.tmp 3), none⟩, ⟨some 19, .load false 1 (.tmp 18), none⟩, ⟨some 20, .call 76 [.tmp 17, .tmp 19], none⟩]))
theorem light35 : Light Tryz.prog 35 2 21 L35 [] :=
  ⟨Tryz.f35, _, Tryz.func35, rfl, rfl, by kernel_rfl, by kernel_rfl, by decide⟩
def L36_1 : LCode :=
 .seq (.seq (.draw [⟨⟨some 16, .move (.tmp 5), none⟩, .pure, 0, 0⟩, ⟨⟨some 17, .move (.tmp 1), none⟩, .pure, 0, 0⟩, ⟨⟨some 18, .len (.tmp 17), none⟩, .pure, 0, 0⟩, ⟨⟨some 19, .bin .lss (.tmp 16) (.tmp 18), none⟩, .pure, 0, 0⟩, ⟨⟨some 20, .move (.tmp 19), none⟩, .pure, 0, 0⟩, ⟨⟨some 21, .move (.tmp 1), (some (20, true))⟩, .pure, 0, 0⟩, ⟨⟨some 22, .move (.tmp 5), (some (20, true))⟩, .pure, 0, 0⟩, ⟨⟨some 23, .idx 2 (.tmp 21) (.tmp 22), (some (20, true))⟩, .pure, 0, 0⟩, ⟨⟨some 24, .load true 2 (.tmp 23), (some (20, true))⟩, .read, 0, 0⟩, ⟨⟨some 25, .move (.tmp 1), (some (20, true))⟩, .pure, 0, 0⟩, ⟨⟨some 26, .move (.tmp 4), (some (20, true))⟩, .pure, 0, 0⟩, ⟨⟨some 27, .idx 2 (.tmp 25) (.tmp 26), (some (20, true))⟩, .pure, 0, 0⟩, ⟨⟨some 28, .load true 2 (.tmp 27), (some (20, true))⟩, .read, 0, 0⟩, ⟨⟨some 29, .eqR false 62 (.tmp 24) (.tmp 28), (some (20, true))⟩, .pure, 0, 0⟩, ⟨⟨some 30, .pick (.tmp 20) (.tmp 29) (.const (.bool false)), none⟩, .pure, 0, 0⟩])
 (.cond (.tmp 30) (.skip)
 (.exit 2)))
 (.block 3 (.region [⟨some 31, .move (.tmp 5), none⟩, ⟨some 32, .bin .add (.tmp 31) (.const (.int .i64 1)), none⟩, ⟨some 5, .move (.tmp 32), none⟩]))
def L36_2 : LCode :=
 .seq (.seq (.region [⟨some 11, .move (.tmp 4), none⟩, ⟨some 12, .move (.tmp 1), none⟩, ⟨some 13, .len (.tmp 12), none⟩, ⟨some 14, .bin .lss (.tmp 11) (.tmp 13), none⟩])
 (.cond (.tmp 14) (.skip)
 (.exit 0)))
 (.block 1 (.seq (.region [⟨some 15, .move (.tmp 4), none⟩, ⟨some 5, .move (.tmp 15), none⟩])
 (.seq (.block 2 (.loop L36_1))
 (.seq (.region [⟨some 33, .move (.tmp 0), none⟩, ⟨some 34, .move (.tmp 5), none⟩, ⟨some 35, .move (.tmp 4), none⟩, ⟨some 36, .bin .sub (.tmp 34) (.tmp 35), none⟩, ⟨some 37, .conv .u64 (.tmp 36), none⟩, ⟨some 38, .call 33 [.tmp 33, .tmp 37], none⟩])
 (.seq (.region [⟨some 39, .move (.tmp 0), none⟩, ⟨some 40, .move (.tmp 1), none⟩, ⟨some 41, .move (.tmp 4), none⟩, ⟨some 42, .idx 2 (.tmp 40) (.tmp 41), none⟩, ⟨some 43, .off 0 (.tmp 42), none⟩, ⟨some 44, .load false 1 (.tmp 43), none⟩, ⟨some 45, .call 72 [.tmp 39, .tmp 44], none⟩])
 (.seq (.region [⟨some 46, .move (.tmp 0), none⟩, ⟨some 47, .move (.tmp 1), none⟩, ⟨some 48, .move (.tmp 4), none⟩, ⟨some 49, .idx 2 (.tmp 47) (.tmp 48), none⟩, ⟨some 50, .off 1 (.tmp 49), none⟩, ⟨some 51, .load false 1 (.tmp 50), none⟩, ⟨some 52, .call 76 [.tmp 46, .tmp 51], none⟩])
 (.region [⟨some 53, .move (.tmp 5), none⟩, ⟨some 4, .move (.tmp 53), none⟩])))))))
def L36 : LCode :=
 .seq (.region [⟨some 6, .move (.tmp 0), none⟩, ⟨some 7, .move (.tmp 1), none⟩, ⟨some 8, .len (.tmp 7), none⟩, ⟨some 9, .conv .u64 (.tmp 8), none⟩, ⟨some 10, .call 33 [.tmp 6, .tmp 9], none⟩])
 (.seq (.region [⟨some 4, .move (.const (.int .i64 0)), none⟩])
 (.block 0 (.loop L36_2)))
theorem light36 : Light Tryz.prog 36 2 54 L36 [] :=
  ⟨Tryz.f36, _, Tryz.func36, rfl, rfl, by kernel_rfl, by kernel_rfl, by decide⟩
def L37 : LCode :=
 .seq (.region [⟨some 2, .move (.const (.slice none 0 0)), none⟩, ⟨some 3, .move (.const (.int .i64 0)), none⟩])
 (.seq (.seq (.region [⟨some 6, .move (.tmp 0), none⟩, ⟨some 7, .len (.tmp 6), none⟩, ⟨some 8, .bin .gtr (.tmp 7) (.const (.int .i64 1048576)), none⟩])
 (.cond (.tmp 8) (.seq (.region [⟨some 2, .move (.const (.slice none 0 0)), none⟩, ⟨some 3, .move (.const (.int .i64 23)), none⟩])
 (.ret))
 (.skip)))
 (.seq (.region [⟨some 9, .call 77 [], none⟩, ⟨some 4, .new 157 4 [.int .u8 0, .int .u8 0, .int .u8 0, .int .u8 0], none⟩, ⟨none, .store 4 (.tmp 4) (.tmp 9), none⟩])
 (.seq (.region [⟨some 10, .sliceArr 4 1 (.tmp 4) none none none, none⟩, ⟨some 11, .append 5 1 1 (.const (.slice none 0 0)) (.tmp 10), none⟩, ⟨some 5, .move (.tmp 11), none⟩])
 (.seq (.region [⟨some 12, .move (.tmp 5), none⟩, ⟨some 13, .move (.tmp 0), none⟩, ⟨some 14, .len (.tmp 13), none⟩, ⟨some 15, .conv .u64 (.tmp 14), none⟩, ⟨some 16, .call 78 [.tmp 12, .tmp 15, .const (.int .i64 4)], none⟩, ⟨some 5, .move (.tmp 16), none⟩])
 (.seq (.region [⟨some 17, .move (.tmp 5), none⟩, ⟨some 18, .move (.tmp 0), none⟩, ⟨some 19, .call 79 [.tmp 18], none⟩, ⟨some 20, .call 78 [.tmp 17, .tmp 19, .const (.int .i64 8)], none⟩, ⟨some 5, .move (.tmp 20), none⟩])
 (.seq (.region [⟨some 21, .move (.tmp 5), none⟩, ⟨some 22, .move (.tmp 0), none⟩, ⟨some 23, .append 5 1 1 (.tmp 21) (.tmp 22), none⟩, ⟨some 2, .move (.tmp 23), none⟩, ⟨some 3, .move (.const (.int .i64 0)), none⟩])
 (.ret)))))))
theorem light37 : Light Tryz.prog 37 1 24 L37 [.tmp 2, .tmp 3] :=
  ⟨Tryz.f37, _, Tryz.func37, rfl, rfl, by kernel_rfl, by kernel_rfl, by decide⟩
def L38 : LCode :=
 .seq (.region [⟨some 2, .move (.const (.slice none 0 0)), none⟩])
 (.seq (.region [⟨some 3, .move (.tmp 0), none⟩, ⟨some 4, .nilCheck (.tmp 3), none⟩, ⟨some 5, .off 0 (.tmp 4), none⟩, ⟨some 6, .load false 1 (.tmp 5), none⟩, ⟨some 7, .append 5 1 1 (.const (.slice none 0 0)) (.tmp 6), none⟩, ⟨some 2, .move (.tmp 7), none⟩])
 (.ret))
theorem light38 : Light Tryz.prog 38 1 8 L38 [.tmp 2] :=
  ⟨Tryz.f38, _, Tryz.func38, rfl, rfl, by kernel_rfl, by kernel_rfl, by decide⟩
def L43_1 : LCode :=
 .seq (.region [⟨some 61, .bin .lss (.tmp 60) (.tmp 59), none⟩])
 (.seq (.cond (.tmp 61) (.skip)
 (.exit 0))
 (.seq (.block 1 (.seq (.region [⟨some 62, .idx 1 (.tmp 58) (.tmp 60), none⟩, ⟨some 63, .load false 1 (.tmp 62), none⟩, ⟨some 10, .move (.tmp 63), none⟩])
 (.seq (.region [⟨some 65, .move (.tmp 10), none⟩, ⟨some 66, .off 2 (.tmp 1), none⟩, ⟨some 67, .load false 1 (.tmp 66), none⟩, ⟨some 68, .len (.tmp 67), none⟩, ⟨some 69, .call 87 [.tmp 65, .tmp 68], none⟩, ⟨some 64, .move (.tmp 69), none⟩, ⟨some 70, .extract (.tmp 64) 0, none⟩, ⟨some 71, .extract (.tmp 64) 1, none⟩, ⟨some 11, .move (.tmp 70), none⟩, ⟨some 12, .move (.tmp 71), none⟩])
 (.seq (.region [⟨some 72, .move (.tmp 12), none⟩, ⟨some 73, .bin .neq (.tmp 72) (.const (.int .i64 0)), none⟩])
 (.cond (.tmp 73) (.seq (.region [⟨some 74, .move (.tmp 12), none⟩, ⟨some 2, .move (.tmp 74), none⟩])
 (.ret))
 (.skip))))))
 (.region [⟨some 75, .bin .add (.tmp 60) (.const (.int .i64 1)), none⟩, ⟨some 60, .move (.tmp 75), none⟩])))
def L43 : LCode :=
 .seq (.region [⟨some 1, .box 29 11 (.tmp 0), none⟩, ⟨some 2, .move (.const (.int .i64 0)), none⟩])
 (.seq (.seq (.region [⟨some 14, .off 0 (.tmp 1), none⟩, ⟨some 15, .load false 1 (.tmp 14), none⟩, ⟨some 16, .off 1 (.tmp 1), none⟩, ⟨some 17, .load false 1 (.tmp 16), none⟩, ⟨some 18, .call 84 [.tmp 15, .tmp 17], none⟩, ⟨some 13, .move (.tmp 18), none⟩, ⟨some 19, .extract (.tmp 13) 0, none⟩, ⟨some 20, .extract (.tmp 13) 1, none⟩, ⟨some 3, .move (.tmp 19), none⟩, ⟨some 4, .move (.tmp 20), none⟩])
 (.seq (.region [⟨some 21, .move (.tmp 4), none⟩, ⟨some 22, .bin .neq (.tmp 21) (.const (.int .i64 0)), none⟩])
 (.cond (.tmp 22) (.seq (.region [⟨some 23, .move (.tmp 4), none⟩, ⟨some 2, .move (.tmp 23), none⟩])
 (.ret))
 (.skip))))
 (.seq (.seq (.region [⟨some 25, .off 2 (.tmp 1), none⟩, ⟨some 26, .load false 1 (.tmp 25), none⟩, ⟨some 27, .call 85 [.tmp 26], none⟩, ⟨some 24, .move (.tmp 27), none⟩, ⟨some 28, .extract (.tmp 24) 0, none⟩, ⟨some 29, .extract (.tmp 24) 1, none⟩, ⟨some 5, .move (.tmp 28), none⟩, ⟨some 6, .move (.tmp 29), none⟩])
 (.seq (.region [⟨some 30, .move (.tmp 6), none⟩, ⟨some 31, .bin .neq (.tmp 30) (.const (.int .i64 0)), none⟩])
 (.cond (.tmp 31) (.seq (.region [⟨some 32, .move (.tmp 6), none⟩, ⟨some 2, .move (.tmp 32), none⟩])
 (.ret))
 (.skip))))
 (.seq (.seq (.region [⟨some 33, .off 3 (.tmp 1), none⟩, ⟨some 34, .load false 1 (.tmp 33), none⟩, ⟨some 35, .bin .lss (.tmp 34) (.const (.int .i64 1)), none⟩, ⟨some 36, .move (.tmp 35), none⟩, ⟨some 37, .off 3 (.tmp 1), (some (36, false))⟩, ⟨some 38, .load false 1 (.tmp 37), (some (36, false))⟩, ⟨some 39, .bin .gtr (.tmp 38) (.const (.int .i64 4000)), (some (36, false))⟩, ⟨some 40, .pick (.tmp 36) (.const (.bool true)) (.tmp 39), none⟩])
 (.cond (.tmp 40) (.seq (.region [⟨some 2, .move (.const (.int .i64 110)), none⟩])
 (.ret))
 (.skip)))
 (.seq (.seq (.region [⟨some 42, .off 4 (.tmp 1), none⟩, ⟨some 43, .load true 6 (.tmp 42), none⟩, ⟨some 44, .call 63 [.tmp 43], none⟩, ⟨some 41, .move (.tmp 44), none⟩, ⟨some 45, .extract (.tmp 41) 0, none⟩, ⟨some 46, .extract (.tmp 41) 1, none⟩, ⟨some 7, .move (.tmp 45), none⟩, ⟨some 8, .move (.tmp 46), none⟩])
 (.seq (.region [⟨some 47, .move (.tmp 8), none⟩, ⟨some 48, .bin .neq (.tmp 47) (.const (.int .i64 0)), none⟩])
 (.cond (.tmp 48) (.seq (.region [⟨some 49, .move (.tmp 8), none⟩, ⟨some 2, .move (.tmp 49), none⟩])
 (.ret))
 (.skip))))
 (.seq (.seq (.draw [⟨⟨some 50, .off 10 (.tmp 1), none⟩, .pure, 0, 1⟩, ⟨⟨some 51, .load false 1 (.tmp 50), none⟩, .read, 0, 1⟩, ⟨⟨some 52, .len (.tmp 51), none⟩, .pure, 0, 1⟩, ⟨⟨some 53, .off 4 (.tmp 1), none⟩, .pure, 0, 0⟩, ⟨⟨some 54, .load true 6 (.tmp 53), none⟩, .read, 0, 0⟩, ⟨⟨some 55, .call 86 [.tmp 54], none⟩, .heavy, 0, 1⟩, ⟨⟨some 56, .bin .neq (.tmp 52) (.tmp 55), none⟩, .pure, 1, 1⟩])
 (.cond (.tmp 56) (.seq (.region [⟨some 2, .move (.const (.int .i64 170)), none⟩])
 (.ret))
 (.skip)))
 (.seq (.seq (.region [⟨some 57, .off 10 (.tmp 1), none⟩, ⟨some 58, .load false 1 (.tmp 57), none⟩, ⟨some 59, .len (.tmp 58), none⟩, ⟨some 60, .move (.const (.int .i64 0)), none⟩])
 (.block 0 (.loop L43_1)))
 (.seq (.region [⟨some 2, .move (.const (.int .i64 0)), none⟩])
 (.ret))))))))
theorem light43 : Light Tryz.prog 43 1 76 L43 [.tmp 2] :=
  ⟨Tryz.f43, _, Tryz.func43, rfl, rfl, by kernel_rfl, by kernel_rfl, by decide⟩
def L44_1 : LCode :=
 .seq (.region [⟨some 50, .bin .lss (.tmp 49) (.tmp 48), none⟩])
 (.seq (.cond (.tmp 50) (.skip)
 (.exit 0))
 (.seq (.block 1 (.seq (.region [⟨some 51, .idx 2 (.tmp 47) (.tmp 49), none⟩, ⟨some 52, .load true 2 (.tmp 51), none⟩, ⟨some 4, .new 171 2 [.int .i64 0, .int .i64 0], none⟩, ⟨none, .store 2 (.tmp 4) (.tmp 52), none⟩])
 (.seq (.region [⟨some 53, .idxArr 2 1 (.tmp 4) (.const (.int .i64 0)), none⟩, ⟨some 54, .load false 1 (.tmp 53), none⟩, ⟨some 55, .bin .lss (.tmp 54) (.const (.int .i64 1)), none⟩, ⟨some 56, .move (.tmp 55), none⟩, ⟨some 57, .idxArr 2 1 (.tmp 4) (.const (.int .i64 0)), (some (56, false))⟩, ⟨some 58, .load false 1 (.tmp 57), (some (56, false))⟩, ⟨some 59, .idxArr 2 1 (.tmp 4) (.const (.int .i64 1)), (some (56, false))⟩, ⟨some 60, .load false 1 (.tmp 59), (some (56, false))⟩, ⟨some 61, .bin .gtr (.tmp 58) (.tmp 60), (some (56, false))⟩, ⟨some 62, .pick (.tmp 56) (.const (.bool true)) (.tmp 61), none⟩])
 (.cond (.tmp 62) (.seq (.region [⟨some 2, .move (.const (.int .i64 172)), none⟩])
 (.ret))
 (.skip)))))
 (.region [⟨some 63, .bin .add (.tmp 49) (.const (.int .i64 1)), none⟩, ⟨some 49, .move (.tmp 63), none⟩])))
def L44 : LCode :=
 .seq (.region [⟨some 1, .box 32 11 (.tmp 0), none⟩, ⟨some 2, .move (.const (.int .i64 0)), none⟩])
 (.seq (.seq (.region [⟨some 5, .off 0 (.tmp 1), none⟩, ⟨some 6, .load false 1 (.tmp 5), none⟩, ⟨some 7, .bin .lss (.tmp 6) (.const (.int .i64 1)), none⟩, ⟨some 8, .move (.tmp 7), none⟩, ⟨some 9, .off 0 (.tmp 1), (some (8, false))⟩, ⟨some 10, .load false 1 (.tmp 9), (some (8, false))⟩, ⟨some 11, .bin .gtr (.tmp 10) (.const (.int .i64 8)), (some (8, false))⟩, ⟨some 12, .pick (.tmp 8) (.const (.bool true)) (.tmp 11), none⟩])
 (.cond (.tmp 12) (.seq (.region [⟨some 2, .move (.const (.int .i64 162)), none⟩])
 (.ret))
 (.skip)))
 (.seq (.seq (.region [⟨some 13, .off 2 (.tmp 1), none⟩, ⟨some 14, .load false 1 (.tmp 13), none⟩, ⟨some 15, .bin .lss (.tmp 14) (.const (.int .i64 1)), none⟩, ⟨some 16, .move (.tmp 15), none⟩, ⟨some 17, .off 2 (.tmp 1), (some (16, false))⟩, ⟨some 18, .load false 1 (.tmp 17), (some (16, false))⟩, ⟨some 19, .bin .gtr (.tmp 18) (.const (.int .i64 3)), (some (16, false))⟩, ⟨some 20, .pick (.tmp 16) (.const (.bool true)) (.tmp 19), none⟩])
 (.cond (.tmp 20) (.seq (.region [⟨some 2, .move (.const (.int .i64 160)), none⟩])
 (.ret))
 (.skip)))
 (.seq (.seq (.region [⟨some 21, .off 3 (.tmp 1), none⟩, ⟨some 22, .load false 1 (.tmp 21), none⟩, ⟨some 23, .bin .lss (.tmp 22) (.const (.int .i64 1)), none⟩, ⟨some 24, .move (.tmp 23), none⟩, ⟨some 25, .off 3 (.tmp 1), (some (24, false))⟩, ⟨some 26, .load false 1 (.tmp 25), (some (24, false))⟩, ⟨some 27, .bin .gtr (.tmp 26) (.const (.int .i64 200)), (some (24, false))⟩, ⟨some 28, .pick (.tmp 24) (.const (.bool true)) (.tmp 27), none⟩])
 (.cond (.tmp 28) (.seq (.region [⟨some 2, .move (.const (.int .i64 161)), none⟩])
 (.ret))
 (.skip)))
 (.seq (.seq (.region [⟨some 29, .off 1 (.tmp 1), none⟩, ⟨some 30, .load false 1 (.tmp 29), none⟩, ⟨some 31, .build [.int .i64 0, .int .i64 0] [(0, 1, .tmp 30), (1, 1, .const (.int .i64 32))], none⟩, ⟨some 32, .off 4 (.tmp 1), none⟩, ⟨some 33, .load false 1 (.tmp 32), none⟩, ⟨some 34, .build [.int .i64 0, .int .i64 0] [(0, 1, .tmp 33), (1, 1, .const (.int .i64 64))], none⟩, ⟨some 35, .off 5 (.tmp 1), none⟩, ⟨some 36, .load false 1 (.tmp 35), none⟩, ⟨some 37, .build [.int .i64 0, .int .i64 0] [(0, 1, .tmp 36), (1, 1, .const (.int .i64 64))], none⟩, ⟨some 38, .off 6 (.tmp 1), none⟩, ⟨some 39, .load false 1 (.tmp 38), none⟩, ⟨some 40, .build [.int .i64 0, .int .i64 0] [(0, 1, .tmp 39), (1, 1, .const (.int .i64 64))], none⟩, ⟨some 41, .off 7 (.tmp 1), none⟩, ⟨some 42, .load false 1 (.tmp 41), none⟩, ⟨some 43, .build [.int .i64 0, .int .i64 0] [(0, 1, .tmp 42), (1, 1, .const (.int .i64 512))], none⟩, ⟨some 44, .off 8 (.tmp 1), none⟩, ⟨some 45, .load false 1 (.tmp 44), none⟩, ⟨some 46, .build [.int .i64 0, .int .i64 0] [(0, 1, .tmp 45), (1, 1, .const (.int .i64 512))], none⟩, ⟨some 47, .buildSlice 171 2 6 [.int .i64 0, .int .i64 0] [(0, 2, .tmp 31), (2, 2, .tmp 34), (4, 2, .tmp 37), (6, 2, .tmp 40), (8, 2, .tmp 43), (10, 2, .tmp 46)], none⟩, ⟨some 48, .len (.tmp 47), none⟩, ⟨some 49, .move (.const (.int .i64 0)), none⟩])
 (.block 0 (.loop L44_1)))
 (.seq (.seq (.region [⟨some 64, .off 9 (.tmp 1), none⟩, ⟨some 65, .load false 1 (.tmp 64), none⟩, ⟨some 66, .bin .lss (.tmp 65) (.const (.int .i64 0)), none⟩, ⟨some 67, .move (.tmp 66), none⟩, ⟨some 68, .off 9 (.tmp 1), (some (67, false))⟩, ⟨some 69, .load false 1 (.tmp 68), (some (67, false))⟩, ⟨some 70, .bin .gtr (.tmp 69) (.const (.int .i64 9)), (some (67, false))⟩, ⟨some 71, .pick (.tmp 67) (.const (.bool true)) (.tmp 70), none⟩])
 (.cond (.tmp 71) (.seq (.region [⟨some 2, .move (.const (.int .i64 172)), none⟩])
 (.ret))
 (.skip)))
 (.seq (.region [⟨some 2, .move (.const (.int .i64 0)), none⟩])
 (.ret)))))))
theorem light44 : Light Tryz.prog 44 1 72 L44 [.tmp 2] :=
  ⟨Tryz.f44, _, Tryz.func44, rfl, rfl, by kernel_rfl, by kernel_rfl, by decide⟩
def L47 : LCode :=
 .seq (.region [zi 0 (.new 32 11 [.int .i64 0, .int .i64 0, .int .i64 0, .int .i64 0, .int .i64 0, .int .i64 0, .int .i64 0, .int .i64 0, .int .i64 0, .int .i64 0, .bool false])])
 (.seq (.region [zi 1 (.build [.int .i64 0, .int .i64 0, .int .i64 0, .int .i64 0, .int .i64 0, .int .i64 0, .int .i64 0, .int .i64 0, .int .i64 0, .int .i64 0, .bool false] [(0, 1, .const (.int .i64 2)), (1, 1, .const (.int .i64 4)), (2, 1, .const (.int .i64 2)), (3, 1, .const (.int .i64 1)), (4, 1, .const (.int .i64 4)), (5, 1, .const (.int .i64 4)), (6, 1, .const (.int .i64 4)), (7, 1, .const (.int .i64 8)), (8, 1, .const (.int .i64 8)), (9, 1, .const (.int .i64 1))]), ⟨none, .store 11 (.tmp 0) (.tmp 1), none⟩])
 (.ret))
theorem light47 : Light Tryz.prog 47 0 2 L47 [.cell 0 true 11] :=
  ⟨Tryz.f47, _, Tryz.func47, rfl, rfl, by kernel_rfl, by kernel_rfl, by decide⟩
def L48 : LCode :=
 .seq (.region [⟨some 2, .move (.const (.slice none 0 0)), none⟩, ⟨some 3, .move (.const (.int .i64 0)), none⟩])
 (.seq (.seq (.region [⟨some 5, .move (.tmp 0), none⟩, ⟨some 6, .len (.tmp 5), none⟩, ⟨some 7, .bin .lss (.tmp 6) (.const (.int .i64 16)), none⟩])
 (.cond (.tmp 7) (.seq (.region [⟨some 2, .move (.const (.slice none 0 0)), none⟩, ⟨some 3, .move (.const (.int .i64 20)), none⟩])
 (.ret))
 (.skip)))
 (.seq (.seq (.draw [⟨⟨some 8, .move (.tmp 0), none⟩, .pure, 0, 1⟩, ⟨⟨some 9, .slice 1 (.tmp 8) none (some (.const (.int .i64 4))) none, none⟩, .pure, 0, 1⟩, ⟨⟨some 10, .arr 4 (.tmp 9), none⟩, .pure, 0, 1⟩, ⟨⟨some 11, .load true 4 (.tmp 10), none⟩, .read, 0, 1⟩, ⟨⟨some 12, .call 77 [], none⟩, .heavy, 0, 1⟩, ⟨⟨some 13, .eqR true 157 (.tmp 11) (.tmp 12), none⟩, .pure, 1, 1⟩, ⟨⟨some 14, .move (.tmp 13), none⟩, .pure, 1, 1⟩, ⟨⟨some 15, .move (.tmp 0), (some (14, false))⟩, .pure, 1, 1⟩, ⟨⟨some 16, .slice 1 (.tmp 15) (some (.const (.int .i64 4))) (some (.const (.int .i64 8))) none, (some (14, false))⟩, .pure, 1, 1⟩, ⟨⟨some 17, .call 92 [.tmp 16], (some (14, false))⟩, .heavy, 1, 2⟩, ⟨⟨some 18, .move (.tmp 0), (some (14, false))⟩, .pure, 1, 2⟩, ⟨⟨some 19, .len (.tmp 18), (some (14, false))⟩, .pure, 1, 2⟩, ⟨⟨some 20, .bin .sub (.tmp 19) (.const (.int .i64 16)), (some (14, false))⟩, .pure, 1, 2⟩, ⟨⟨some 21, .conv .u64 (.tmp 20), (some (14, false))⟩, .pure, 1, 2⟩, ⟨⟨some 22, .bin .neq (.tmp 17) (.tmp 21), (some (14, false))⟩, .pure, 2, 2⟩, ⟨⟨some 23, .pick (.tmp 14) (.const (.bool true)) (.tmp 22), none⟩, .pure, 2, 2⟩, ⟨⟨some 24, .move (.tmp 23), none⟩, .pure, 2, 2⟩, ⟨⟨some 25, .move (.tmp 0), (some (24, false))⟩, .pure, 2, 2⟩, ⟨⟨some 26, .len (.tmp 25), (some (24, false))⟩, .pure, 2, 2⟩, ⟨⟨some 27, .bin .sub (.tmp 26) (.const (.int .i64 16)), (some (24, false))⟩, .pure, 2, 2⟩, ⟨⟨some 28, .bin .gtr (.tmp 27) (.const (.int .i64 1048576)), (some (24, false))⟩, .pure, 2, 2⟩, ⟨⟨some 29, .pick (.tmp 24) (.const (.bool true)) (.tmp 28), none⟩, .pure, 2, 2⟩])
 (.cond (.tmp 29) (.seq (.region [⟨some 2, .move (.const (.slice none 0 0)), none⟩, ⟨some 3, .move (.const (.int .i64 21)), none⟩])
 (.ret))
 (.skip)))
 (.seq (.region [⟨some 30, .move (.tmp 0), none⟩, ⟨some 31, .slice 1 (.tmp 30) (some (.const (.int .i64 16))) none none, none⟩, ⟨some 32, .append 5 1 1 (.const (.slice none 0 0)) (.tmp 31), none⟩, ⟨some 4, .move (.tmp 32), none⟩])
 (.seq (.seq (.region [⟨some 33, .move (.tmp 0), none⟩, ⟨some 34, .slice 1 (.tmp 33) (some (.const (.int .i64 8))) (some (.const (.int .i64 16))) none, none⟩, ⟨some 35, .call 92 [.tmp 34], none⟩, ⟨some 36, .move (.tmp 4), none⟩, ⟨some 37, .call 79 [.tmp 36], none⟩, ⟨some 38, .bin .neq (.tmp 35) (.tmp 37), none⟩])
 (.cond (.tmp 38) (.seq (.region [⟨some 2, .move (.const (.slice none 0 0)), none⟩, ⟨some 3, .move (.const (.int .i64 22)), none⟩])
 (.ret))
 (.skip)))
 (.seq (.region [⟨some 39, .move (.tmp 4), none⟩, ⟨some 2, .move (.tmp 39), none⟩, ⟨some 3, .move (.const (.int .i64 0)), none⟩])
 (.ret))))))
theorem light48 : Light Tryz.prog 48 1 40 L48 [.tmp 2, .tmp 3] :=
  ⟨Tryz.f48, _, Tryz.func48, rfl, rfl, by kernel_rfl, by kernel_rfl, by decide⟩
def L49 : LCode :=
 .seq (.region [⟨some 2, .move (.const (.pointer none)), none⟩])
 (.seq (.region [⟨some 3, .move (.tmp 0), none⟩, ⟨some 4, .append 5 1 1 (.const (.slice none 0 0)) (.tmp 3), none⟩, ⟨some 5, .build [.slice none 0 0, .int .i64 0, .int .i64 0] [(0, 1, .tmp 4)], none⟩, ⟨some 6, .box 181 3 (.tmp 5), none⟩, ⟨some 2, .move (.tmp 6), none⟩])
 (.ret))
theorem light49 : Light Tryz.prog 49 1 7 L49 [.tmp 2] :=
  ⟨Tryz.f49, _, Tryz.func49, rfl, rfl, by kernel_rfl, by kernel_rfl, by decide⟩
def L50_1 : LCode :=
 .seq (.region [⟨some 7, .bin .lss (.tmp 6) (.const (.int .i64 10)), none⟩])
 (.seq (.cond (.tmp 7) (.skip)
 (.exit 0))
 (.seq (.block 1 (.seq (.region [⟨some 8, .move (.tmp 6), none⟩, ⟨some 4, .move (.tmp 8), none⟩])
 (.seq (.region [⟨some 9, .move (.tmp 0), none⟩, ⟨some 10, .call 93 [.tmp 9], none⟩, ⟨some 5, .move (.tmp 10), none⟩])
 (.seq (.seq (.region [⟨some 11, .move (.tmp 0), none⟩, ⟨some 12, .nilCheck (.tmp 11), none⟩, ⟨some 13, .off 2 (.tmp 12), none⟩, ⟨some 14, .load false 1 (.tmp 13), none⟩, ⟨some 15, .bin .neq (.tmp 14) (.const (.int .i64 0)), none⟩])
 (.cond (.tmp 15) (.seq (.region [⟨some 2, .move (.const (.int .u64 0)), none⟩])
 (.ret))
 (.skip)))
 (.seq (.seq (.region [⟨some 16, .move (.tmp 4), none⟩, ⟨some 17, .bin .gtr (.tmp 16) (.const (.int .i64 0)), none⟩, ⟨some 18, .move (.tmp 17), none⟩, ⟨some 19, .move (.tmp 5), (some (18, true))⟩, ⟨some 20, .bin .eql (.tmp 19) (.const (.int .u8 0)), (some (18, true))⟩, ⟨some 21, .pick (.tmp 18) (.tmp 20) (.const (.bool false)), none⟩, ⟨some 22, .move (.tmp 21), none⟩, ⟨some 23, .move (.tmp 4), (some (22, false))⟩, ⟨some 24, .bin .eql (.tmp 23) (.const (.int .i64 9)), (some (22, false))⟩, ⟨some 25, .move (.tmp 24), (some (22, false))⟩, ⟨some 26, .move (.tmp 5), (some (25, true))⟩, ⟨some 27, .bin .gtr (.tmp 26) (.const (.int .u8 1)), (some (25, true))⟩, ⟨some 28, .pick (.tmp 25) (.tmp 27) (.const (.bool false)), (some (22, false))⟩, ⟨some 29, .pick (.tmp 22) (.const (.bool true)) (.tmp 28), none⟩])
 (.cond (.tmp 29) (.seq (.region [⟨some 30, .move (.tmp 0), none⟩, ⟨some 31, .call 94 [.tmp 30, .const (.int .i64 21)], none⟩])
 (.seq (.region [⟨some 2, .move (.const (.int .u64 0)), none⟩])
 (.ret)))
 (.skip)))
 (.seq (.region [⟨some 32, .move (.tmp 3), none⟩, ⟨some 33, .move (.tmp 5), none⟩, ⟨some 34, .bin .and (.tmp 33) (.const (.int .u8 127)), none⟩, ⟨some 35, .conv .u64 (.tmp 34), none⟩, ⟨some 36, .move (.tmp 4), none⟩, ⟨some 37, .bin .mul (.const (.int .i64 7)) (.tmp 36), none⟩, ⟨some 38, .bin .shl (.tmp 35) (.tmp 37), none⟩, ⟨some 39, .bin .or (.tmp 32) (.tmp 38), none⟩, ⟨some 3, .move (.tmp 39), none⟩])
 (.seq (.region [⟨some 40, .move (.tmp 5), none⟩, ⟨some 41, .bin .lss (.tmp 40) (.const (.int .u8 128)), none⟩])
 (.cond (.tmp 41) (.seq (.region [⟨some 42, .move (.tmp 3), none⟩, ⟨some 2, .move (.tmp 42), none⟩])
 (.ret))
 (.skip)))))))))
 (.region [⟨some 43, .bin .add (.tmp 6) (.const (.int .i64 1)), none⟩, ⟨some 6, .move (.tmp 43), none⟩])))
def L50 : LCode :=
 .seq (.region [⟨some 2, .move (.const (.int .u64 0)), none⟩])
 (.seq (.region [⟨some 3, .move (.const (.int .u64 0)), none⟩])
 (.seq (.seq (.region [⟨some 6, .move (.const (.int .i64 0)), none⟩])
 (.block 0 (.loop L50_1)))
 (.seq (.region [⟨some 44, .move (.tmp 3), none⟩, ⟨some 2, .move (.tmp 44), none⟩])
 (.ret))))
theorem light50 : Light Tryz.prog 50 1 45 L50 [.tmp 2] :=
  ⟨Tryz.f50, _, Tryz.func50, rfl, rfl, by kernel_rfl, by kernel_rfl, by decide⟩
def L51 : LCode :=
 .seq (.region [⟨some 2, .move (.const (.int .i64 0)), none⟩])
 (.seq (.region [⟨some 3, .move (.tmp 0), none⟩, ⟨some 4, .nilCheck (.tmp 3), none⟩, ⟨some 5, .off 2 (.tmp 4), none⟩, ⟨some 6, .load false 1 (.tmp 5), none⟩, ⟨some 2, .move (.tmp 6), none⟩])
 (.ret))
theorem light51 : Light Tryz.prog 51 1 7 L51 [.tmp 2] :=
  ⟨Tryz.f51, _, Tryz.func51, rfl, rfl, by kernel_rfl, by kernel_rfl, by decide⟩
def L52_1 : LCode :=
 .seq (.region [⟨some 16, .bin .lss (.tmp 15) (.tmp 14), none⟩])
 (.seq (.cond (.tmp 16) (.skip)
 (.exit 0))
 (.seq (.block 1 (.draw [⟨⟨some 17, .off 1 (.tmp 4), none⟩, .pure, 0, 3⟩, ⟨⟨some 18, .load false 1 (.tmp 17), none⟩, .read, 0, 3⟩, ⟨⟨some 19, .move (.tmp 0), none⟩, .pure, 0, 0⟩, ⟨⟨some 20, .call 54 [.tmp 19], none⟩, .heavy, 0, 1⟩, ⟨⟨some 21, .move (.tmp 0), none⟩, .pure, 0, 1⟩, ⟨⟨some 22, .call 96 [.tmp 21], none⟩, .heavy, 1, 2⟩, ⟨⟨some 23, .build [.int .i64 0, .int .i64 0] [(0, 1, .tmp 20), (1, 1, .tmp 22)], none⟩, .pure, 2, 2⟩, ⟨⟨some 24, .buildSlice 98 2 1 [.int .i64 0, .int .i64 0] [(0, 2, .tmp 23)], none⟩, .heavy, 2, 3⟩, ⟨⟨some 25, .append 98 2 16 (.tmp 18) (.tmp 24), none⟩, .heavy, 3, 4⟩, ⟨⟨some 26, .off 1 (.tmp 4), none⟩, .pure, 4, 4⟩, ⟨⟨none, .store 1 (.tmp 26) (.tmp 25), none⟩, .heavy, 4, 5⟩]))
 (.region [⟨some 27, .bin .add (.tmp 15) (.const (.int .i64 1)), none⟩, ⟨some 15, .move (.tmp 27), none⟩])))
def L52_2 : LCode :=
 .seq (.region [⟨some 31, .bin .lss (.tmp 30) (.tmp 29), none⟩])
 (.seq (.cond (.tmp 31) (.skip)
 (.exit 2))
 (.seq (.block 3 (.draw [⟨⟨some 32, .off 2 (.tmp 4), none⟩, .pure, 0, 3⟩, ⟨⟨some 33, .load false 1 (.tmp 32), none⟩, .read, 0, 3⟩, ⟨⟨some 34, .move (.tmp 0), none⟩, .pure, 0, 0⟩, ⟨⟨some 35, .call 54 [.tmp 34], none⟩, .heavy, 0, 1⟩, ⟨⟨some 36, .move (.tmp 0), none⟩, .pure, 0, 1⟩, ⟨⟨some 37, .call 96 [.tmp 36], none⟩, .heavy, 1, 2⟩, ⟨⟨some 38, .build [.int .i64 0, .int .i64 0] [(0, 1, .tmp 35), (1, 1, .tmp 37)], none⟩, .pure, 2, 2⟩, ⟨⟨some 39, .buildSlice 101 2 1 [.int .i64 0, .int .i64 0] [(0, 2, .tmp 38)], none⟩, .heavy, 2, 3⟩, ⟨⟨some 40, .append 101 2 16 (.tmp 33) (.tmp 39), none⟩, .heavy, 3, 4⟩, ⟨⟨some 41, .off 2 (.tmp 4), none⟩, .pure, 4, 4⟩, ⟨⟨none, .store 1 (.tmp 41) (.tmp 40), none⟩, .heavy, 4, 5⟩]))
 (.region [⟨some 42, .bin .add (.tmp 30) (.const (.int .i64 1)), none⟩, ⟨some 30, .move (.tmp 42), none⟩])))
def L52_3 : LCode :=
 .seq (.region [⟨some 87, .bin .lss (.tmp 86) (.tmp 85), none⟩])
 (.seq (.cond (.tmp 87) (.skip)
 (.exit 4))
 (.seq (.block 5 (.seq (.region [⟨some 88, .move (.tmp 0), none⟩, ⟨some 89, .call 98 [.tmp 88], none⟩, ⟨some 6, .move (.tmp 89), none⟩])
 (.seq (.seq (.region [⟨some 90, .move (.tmp 0), none⟩, ⟨some 91, .call 51 [.tmp 90], none⟩, ⟨some 7, .move (.tmp 91), none⟩])
 (.seq (.region [⟨some 92, .move (.tmp 7), none⟩, ⟨some 93, .bin .neq (.tmp 92) (.const (.int .i64 0)), none⟩])
 (.cond (.tmp 93) (.seq (.region [⟨some 94, .build [.int .i64 0, .slice none 0 0, .slice none 0 0, .int .i64 0, .int .i64 0, .int .i64 0, .int .i64 0, .int .i64 0, .int .i64 0, .int .i64 0, .slice none 0 0] [], none⟩, ⟨some 95, .move (.tmp 7), none⟩, ⟨none, .store 11 (.tmp 2) (.tmp 94), none⟩, ⟨some 3, .move (.tmp 95), none⟩])
 (.ret))
 (.skip))))
 (.seq (.region [⟨some 97, .move (.tmp 6), none⟩, ⟨some 98, .toBytes 5 (.tmp 97), none⟩, ⟨some 99, .off 2 (.tmp 4), none⟩, ⟨some 100, .load false 1 (.tmp 99), none⟩, ⟨some 101, .len (.tmp 100), none⟩, ⟨some 102, .call 99 [.tmp 98, .tmp 101], none⟩, ⟨some 96, .move (.tmp 102), none⟩, ⟨some 103, .extract (.tmp 96) 0, none⟩, ⟨some 104, .extract (.tmp 96) 1, none⟩, ⟨some 8, .move (.tmp 103), none⟩, ⟨some 9, .move (.tmp 104), none⟩])
 (.seq (.seq (.region [⟨some 105, .move (.tmp 9), none⟩, ⟨some 106, .bin .neq (.tmp 105) (.const (.int .i64 0)), none⟩])
 (.cond (.tmp 106) (.seq (.region [⟨some 107, .build [.int .i64 0, .slice none 0 0, .slice none 0 0, .int .i64 0, .int .i64 0, .int .i64 0, .int .i64 0, .int .i64 0, .int .i64 0, .int .i64 0, .slice none 0 0] [], none⟩, ⟨some 108, .move (.tmp 9), none⟩, ⟨none, .store 11 (.tmp 2) (.tmp 107), none⟩, ⟨some 3, .move (.tmp 108), none⟩])
 (.ret))
 (.skip)))
 (.region [⟨some 109, .off 10 (.tmp 4), none⟩, ⟨some 110, .load false 1 (.tmp 109), none⟩, ⟨some 111, .move (.tmp 8), none⟩, ⟨some 112, .buildSlice 103 1 1 [.slice none 0 0] [(0, 1, .tmp 111)], none⟩, ⟨some 113, .append 103 1 24 (.tmp 110) (.tmp 112), none⟩, ⟨some 114, .off 10 (.tmp 4), none⟩, ⟨none, .store 1 (.tmp 114) (.tmp 113), none⟩]))))))
 (.region [⟨some 115, .bin .add (.tmp 86) (.const (.int .i64 1)), none⟩, ⟨some 86, .move (.tmp 115), none⟩])))
def K52_9 : LCode := .ret
def K52_8 : LCode :=
 .seq (.draw [⟨⟨some 116, .load true 11 (.tmp 4), none⟩, .read, 0, 1⟩, ⟨⟨some 117, .move (.tmp 0), none⟩, .pure, 0, 0⟩, ⟨⟨some 118, .call 51 [.tmp 117], none⟩, .heavy, 0, 1⟩, ⟨⟨none, .store 11 (.tmp 2) (.tmp 116), none⟩, .heavy, 1, 2⟩, ⟨⟨some 3, .move (.tmp 118), none⟩, .pure, 2, 2⟩])
 K52_9
def K52_7 : LCode :=
 .seq (.seq (.region [⟨some 84, .move (.tmp 0), none⟩, ⟨some 85, .call 95 [.tmp 84, .const (.int .i64 1)], none⟩, ⟨some 86, .move (.const (.int .i64 0)), none⟩])
 (.block 4 (.loop L52_3)))
 K52_8
def K52_6 : LCode :=
 .seq (.seq (.region [⟨some 50, .move (.tmp 0), none⟩, ⟨some 51, .call 97 [.tmp 50], none⟩, ⟨some 5, .move (.tmp 51), none⟩])
 (.seq (.region [⟨some 52, .move (.tmp 5), none⟩, ⟨some 53, .len (.tmp 52), none⟩, ⟨some 54, .bin .eql (.tmp 53) (.const (.int .i64 5)), none⟩])
 (.cond (.tmp 54) (.seq (.draw [⟨⟨some 55, .move (.tmp 5), none⟩, .pure, 0, 0⟩, ⟨⟨some 56, .idx 1 (.tmp 55) (.const (.int .i64 0)), none⟩, .pure, 0, 0⟩, ⟨⟨some 57, .load false 1 (.tmp 56), none⟩, .read, 0, 0⟩, ⟨⟨some 58, .move (.tmp 5), none⟩, .pure, 0, 1⟩, ⟨⟨some 59, .idx 1 (.tmp 58) (.const (.int .i64 1)), none⟩, .pure, 0, 1⟩, ⟨⟨some 60, .load false 1 (.tmp 59), none⟩, .read, 0, 1⟩, ⟨⟨some 61, .move (.tmp 5), none⟩, .pure, 0, 2⟩, ⟨⟨some 62, .idx 1 (.tmp 61) (.const (.int .i64 2)), none⟩, .pure, 0, 2⟩, ⟨⟨some 63, .load false 1 (.tmp 62), none⟩, .read, 0, 2⟩, ⟨⟨some 64, .off 4 (.tmp 4), none⟩, .pure, 0, 0⟩, ⟨⟨some 65, .off 1 (.tmp 64), none⟩, .pure, 0, 0⟩, ⟨⟨none, .store 1 (.tmp 65) (.tmp 57), none⟩, .heavy, 0, 1⟩, ⟨⟨some 66, .off 4 (.tmp 4), none⟩, .pure, 1, 1⟩, ⟨⟨some 67, .off 2 (.tmp 66), none⟩, .pure, 1, 1⟩, ⟨⟨none, .store 1 (.tmp 67) (.tmp 60), none⟩, .heavy, 1, 2⟩, ⟨⟨some 68, .off 4 (.tmp 4), none⟩, .pure, 2, 2⟩, ⟨⟨some 69, .off 3 (.tmp 68), none⟩, .pure, 2, 2⟩, ⟨⟨none, .store 1 (.tmp 69) (.tmp 63), none⟩, .heavy, 2, 3⟩])
 (.draw [⟨⟨some 70, .move (.tmp 5), none⟩, .pure, 0, 0⟩, ⟨⟨some 71, .idx 1 (.tmp 70) (.const (.int .i64 3)), none⟩, .pure, 0, 0⟩, ⟨⟨some 72, .load false 1 (.tmp 71), none⟩, .read, 0, 0⟩, ⟨⟨some 73, .move (.tmp 5), none⟩, .pure, 0, 1⟩, ⟨⟨some 74, .idx 1 (.tmp 73) (.const (.int .i64 4)), none⟩, .pure, 0, 1⟩, ⟨⟨some 75, .load false 1 (.tmp 74), none⟩, .read, 0, 1⟩, ⟨⟨some 76, .off 4 (.tmp 4), none⟩, .pure, 0, 0⟩, ⟨⟨some 77, .off 4 (.tmp 76), none⟩, .pure, 0, 0⟩, ⟨⟨none, .store 1 (.tmp 77) (.tmp 72), none⟩, .heavy, 0, 1⟩, ⟨⟨some 78, .off 4 (.tmp 4), none⟩, .pure, 1, 1⟩, ⟨⟨some 79, .off 5 (.tmp 78), none⟩, .pure, 1, 1⟩, ⟨⟨none, .store 1 (.tmp 79) (.tmp 75), none⟩, .heavy, 1, 2⟩]))
 (.seq (.region [⟨some 80, .move (.tmp 0), none⟩, ⟨some 81, .call 51 [.tmp 80], none⟩, ⟨some 82, .bin .eql (.tmp 81) (.const (.int .i64 0)), none⟩])
 (.cond (.tmp 82) (.seq (.region [⟨some 83, .build [.int .i64 0, .slice none 0 0, .slice none 0 0, .int .i64 0, .int .i64 0, .int .i64 0, .int .i64 0, .int .i64 0, .int .i64 0, .int .i64 0, .slice none 0 0] [], none⟩, ⟨none, .store 11 (.tmp 2) (.tmp 83), none⟩, ⟨some 3, .move (.const (.int .i64 260)), none⟩])
 (.ret))
 (.skip))))))
 K52_7
def K52_5 : LCode :=
 .seq (.region [⟨some 46, .move (.tmp 0), none⟩, ⟨some 47, .call 54 [.tmp 46], none⟩, ⟨some 48, .off 4 (.tmp 4), none⟩, ⟨some 49, .off 0 (.tmp 48), none⟩, ⟨none, .store 1 (.tmp 49) (.tmp 47), none⟩])
 K52_6
def K52_4 : LCode :=
 .seq (.region [⟨some 43, .move (.tmp 0), none⟩, ⟨some 44, .call 54 [.tmp 43], none⟩, ⟨some 45, .off 3 (.tmp 4), none⟩, ⟨none, .store 1 (.tmp 45) (.tmp 44), none⟩])
 K52_5
def K52_3 : LCode :=
 .seq (.seq (.region [⟨some 28, .move (.tmp 0), none⟩, ⟨some 29, .call 95 [.tmp 28, .const (.int .i64 2)], none⟩, ⟨some 30, .move (.const (.int .i64 0)), none⟩])
 (.block 2 (.loop L52_2)))
 K52_4
def K52_2 : LCode :=
 .seq (.seq (.region [⟨some 13, .move (.tmp 0), none⟩, ⟨some 14, .call 95 [.tmp 13, .const (.int .i64 2)], none⟩, ⟨some 15, .move (.const (.int .i64 0)), none⟩])
 (.block 0 (.loop L52_1)))
 K52_3
def K52_1 : LCode :=
 .seq (.region [⟨some 10, .move (.tmp 0), none⟩, ⟨some 11, .call 54 [.tmp 10], none⟩, ⟨some 12, .build [.int .i64 0, .slice none 0 0, .slice none 0 0, .int .i64 0, .int .i64 0, .int .i64 0, .int .i64 0, .int .i64 0, .int .i64 0, .int .i64 0, .slice none 0 0] [(0, 1, .tmp 11)], none⟩, ⟨some 4, .new 29 11 [.int .i64 0, .slice none 0 0, .slice none 0 0, .int .i64 0, .int .i64 0, .int .i64 0, .int .i64 0, .int .i64 0, .int .i64 0, .int .i64 0, .slice none 0 0], none⟩, ⟨none, .store 11 (.tmp 4) (.tmp 12), none⟩])
 K52_2
def K52_0 : LCode :=
 .seq (.region [⟨some 2, .new 29 11 [.int .i64 0, .slice none 0 0, .slice none 0 0, .int .i64 0, .int .i64 0, .int .i64 0, .int .i64 0, .int .i64 0, .int .i64 0, .int .i64 0, .slice none 0 0], none⟩, ⟨some 3, .move (.const (.int .i64 0)), none⟩])
 K52_1
def L52 : LCode := K52_0
theorem light52 : Light Tryz.prog 52 1 119 L52 [.cell 2 true 11, .tmp 3] :=
  ⟨Tryz.f52, _, Tryz.func52, rfl, rfl, by kernel_rfl, by kernel_rfl, by decide⟩
def L53 : LCode :=
 .seq (.region [⟨some 2, .new 122 10 [.pointer none, .pointer none, .pointer none, .pointer none, .pointer none, .pointer none, .pointer none, .pointer none, .pointer none, .pointer none], none⟩])
 (.seq (.draw [⟨⟨some 3, .move (.tmp 0), none⟩, .pure, 0, 0⟩, ⟨⟨some 4, .nilCheck (.tmp 3), none⟩, .pure, 0, 0⟩, ⟨⟨some 5, .off 0 (.tmp 4), none⟩, .pure, 0, 0⟩, ⟨⟨some 6, .move (.tmp 0), none⟩, .pure, 0, 0⟩, ⟨⟨some 7, .nilCheck (.tmp 6), none⟩, .pure, 0, 0⟩, ⟨⟨some 8, .off 1 (.tmp 7), none⟩, .pure, 0, 0⟩, ⟨⟨some 9, .move (.tmp 0), none⟩, .pure, 0, 0⟩, ⟨⟨some 10, .nilCheck (.tmp 9), none⟩, .pure, 0, 0⟩, ⟨⟨some 11, .off 2 (.tmp 10), none⟩, .pure, 0, 0⟩, ⟨⟨some 12, .move (.tmp 0), none⟩, .pure, 0, 0⟩, ⟨⟨some 13, .nilCheck (.tmp 12), none⟩, .pure, 0, 0⟩, ⟨⟨some 14, .off 3 (.tmp 13), none⟩, .pure, 0, 0⟩, ⟨⟨some 15, .move (.tmp 0), none⟩, .pure, 0, 0⟩, ⟨⟨some 16, .nilCheck (.tmp 15), none⟩, .pure, 0, 0⟩, ⟨⟨some 17, .off 4 (.tmp 16), none⟩, .pure, 0, 0⟩, ⟨⟨some 18, .move (.tmp 0), none⟩, .pure, 0, 0⟩, ⟨⟨some 19, .nilCheck (.tmp 18), none⟩, .pure, 0, 0⟩, ⟨⟨some 20, .off 5 (.tmp 19), none⟩, .pure, 0, 0⟩, ⟨⟨some 21, .move (.tmp 0), none⟩, .pure, 0, 0⟩, ⟨⟨some 22, .nilCheck (.tmp 21), none⟩, .pure, 0, 0⟩, ⟨⟨some 23, .off 6 (.tmp 22), none⟩, .pure, 0, 0⟩, ⟨⟨some 24, .move (.tmp 0), none⟩, .pure, 0, 0⟩, ⟨⟨some 25, .nilCheck (.tmp 24), none⟩, .pure, 0, 0⟩, ⟨⟨some 26, .off 7 (.tmp 25), none⟩, .pure, 0, 0⟩, ⟨⟨some 27, .move (.tmp 0), none⟩, .pure, 0, 0⟩, ⟨⟨some 28, .nilCheck (.tmp 27), none⟩, .pure, 0, 0⟩, ⟨⟨some 29, .off 8 (.tmp 28), none⟩, .pure, 0, 0⟩, ⟨⟨some 30, .move (.tmp 0), none⟩, .pure, 0, 0⟩, ⟨⟨some 31, .nilCheck (.tmp 30), none⟩, .pure, 0, 0⟩, ⟨⟨some 32, .off 9 (.tmp 31), none⟩, .pure, 0, 0⟩, ⟨⟨some 33, .build [.pointer none, .pointer none, .pointer none, .pointer none, .pointer none, .pointer none, .pointer none, .pointer none, .pointer none, .pointer none] [(0, 1, .tmp 5), (1, 1, .tmp 8), (2, 1, .tmp 11), (3, 1, .tmp 14), (4, 1, .tmp 17), (5, 1, .tmp 20), (6, 1, .tmp 23), (7, 1, .tmp 26), (8, 1, .tmp 29), (9, 1, .tmp 32)], none⟩, .pure, 0, 0⟩, ⟨⟨none, .store 10 (.tmp 2) (.tmp 33), none⟩, .heavy, 0, 1⟩])
 (.ret))
theorem light53 : Light Tryz.prog 53 1 34 L53 [.cell 2 true 10] :=
  ⟨Tryz.f53, _, Tryz.func53, rfl, rfl, by kernel_rfl, by kernel_rfl, by decide⟩
def L54 : LCode :=
 .seq (.region [⟨some 2, .move (.const (.int .i64 0)), none⟩])
 (.seq (.region [⟨some 3, .move (.tmp 0), none⟩, ⟨some 4, .call 50 [.tmp 3], none⟩, ⟨some 5, .minmax false (.tmp 4) [.const (.int .u64 2147483648)], none⟩, ⟨some 6, .conv .i64 (.tmp 5), none⟩, ⟨some 2, .move (.tmp 6), none⟩])
 (.ret))
theorem light54 : Light Tryz.prog 54 1 7 L54 [.tmp 2] :=
  ⟨Tryz.f54, _, Tryz.func54, rfl, rfl, by kernel_rfl, by kernel_rfl, by decide⟩
def L55 : LCode :=
 .seq (.region [⟨some 2, .move (.const (.bool false)), none⟩])
 (.seq (.region [⟨some 4, .move (.tmp 0), none⟩, ⟨some 5, .call 93 [.tmp 4], none⟩, ⟨some 3, .move (.tmp 5), none⟩])
 (.seq (.seq (.region [⟨some 6, .move (.tmp 3), none⟩, ⟨some 7, .bin .gtr (.tmp 6) (.const (.int .u8 1)), none⟩])
 (.cond (.tmp 7) (.seq (.region [⟨some 8, .move (.tmp 0), none⟩, ⟨some 9, .call 94 [.tmp 8, .const (.int .i64 21)], none⟩])
 (.seq (.region [⟨some 2, .move (.const (.bool false)), none⟩])
 (.ret)))
 (.skip)))
 (.seq (.region [⟨some 10, .move (.tmp 3), none⟩, ⟨some 11, .bin .eql (.tmp 10) (.const (.int .u8 1)), none⟩, ⟨some 2, .move (.tmp 11), none⟩])
 (.ret))))
theorem light55 : Light Tryz.prog 55 1 12 L55 [.tmp 2] :=
  ⟨Tryz.f55, _, Tryz.func55, rfl, rfl, by kernel_rfl, by kernel_rfl, by decide⟩
def L56_1 : LCode :=
 .seq (.region [⟨some 46, .bin .lss (.tmp 45) (.tmp 44), none⟩])
 (.seq (.cond (.tmp 46) (.skip)
 (.exit 2))
 (.seq (.block 3 (.region [⟨some 47, .move (.tmp 5), none⟩, ⟨some 48, .load true 2 (.tmp 7), none⟩, ⟨some 49, .buildSlice 62 2 1 [.int .i64 0, .bool false] [(0, 2, .tmp 48)], none⟩, ⟨some 50, .append 62 2 16 (.tmp 47) (.tmp 49), none⟩, ⟨some 5, .move (.tmp 50), none⟩]))
 (.region [⟨some 51, .bin .add (.tmp 45) (.const (.int .i64 1)), none⟩, ⟨some 45, .move (.tmp 51), none⟩])))
def L56_2 : LCode :=
 .seq (.seq (.region [⟨some 13, .move (.tmp 5), none⟩, ⟨some 14, .len (.tmp 13), none⟩, ⟨some 15, .move (.tmp 4), none⟩, ⟨some 16, .bin .lss (.tmp 14) (.tmp 15), none⟩, ⟨some 17, .move (.tmp 16), none⟩, ⟨some 18, .move (.tmp 0), (some (17, true))⟩, ⟨some 19, .call 51 [.tmp 18], (some (17, true))⟩, ⟨some 20, .bin .eql (.tmp 19) (.const (.int .i64 0)), (some (17, true))⟩, ⟨some 21, .pick (.tmp 17) (.tmp 20) (.const (.bool false)), none⟩])
 (.cond (.tmp 21) (.skip)
 (.exit 0)))
 (.block 1 (.seq (.region [⟨some 22, .move (.tmp 0), none⟩, ⟨some 23, .call 54 [.tmp 22], none⟩, ⟨some 6, .move (.tmp 23), none⟩])
 (.seq (.region [⟨some 24, .move (.tmp 0), none⟩, ⟨some 25, .call 96 [.tmp 24], none⟩, ⟨some 26, .move (.tmp 0), none⟩, ⟨some 27, .call 55 [.tmp 26], none⟩, ⟨some 28, .build [.int .i64 0, .bool false] [(0, 1, .tmp 25), (1, 1, .tmp 27)], none⟩, ⟨some 7, .new 62 2 [.int .i64 0, .bool false], none⟩, ⟨none, .store 2 (.tmp 7) (.tmp 28), none⟩])
 (.seq (.seq (.region [⟨some 29, .move (.tmp 6), none⟩, ⟨some 30, .bin .lss (.tmp 29) (.const (.int .i64 1)), none⟩, ⟨some 31, .move (.tmp 30), none⟩, ⟨some 32, .move (.tmp 6), (some (31, false))⟩, ⟨some 33, .move (.tmp 4), (some (31, false))⟩, ⟨some 34, .move (.tmp 5), (some (31, false))⟩, ⟨some 35, .len (.tmp 34), (some (31, false))⟩, ⟨some 36, .bin .sub (.tmp 33) (.tmp 35), (some (31, false))⟩, ⟨some 37, .bin .gtr (.tmp 32) (.tmp 36), (some (31, false))⟩, ⟨some 38, .pick (.tmp 31) (.const (.bool true)) (.tmp 37), none⟩])
 (.cond (.tmp 38) (.seq (.seq (.region [⟨some 39, .move (.tmp 0), none⟩, ⟨some 40, .call 51 [.tmp 39], none⟩, ⟨some 8, .move (.tmp 40), none⟩])
 (.seq (.region [⟨some 41, .move (.tmp 8), none⟩, ⟨some 42, .bin .neq (.tmp 41) (.const (.int .i64 0)), none⟩])
 (.cond (.tmp 42) (.seq (.region [⟨some 43, .move (.tmp 8), none⟩, ⟨some 2, .move (.const (.slice none 0 0)), none⟩, ⟨some 3, .move (.tmp 43), none⟩])
 (.ret))
 (.skip))))
 (.seq (.region [⟨some 2, .move (.const (.slice none 0 0)), none⟩, ⟨some 3, .move (.const (.int .i64 260)), none⟩])
 (.ret)))
 (.skip)))
 (.seq (.region [⟨some 44, .move (.tmp 6), none⟩, ⟨some 45, .move (.const (.int .i64 0)), none⟩])
 (.block 2 (.loop L56_1)))))))
def L56 : LCode :=
 .seq (.region [⟨some 2, .move (.const (.slice none 0 0)), none⟩, ⟨some 3, .move (.const (.int .i64 0)), none⟩])
 (.seq (.region [⟨some 9, .move (.tmp 0), none⟩, ⟨some 10, .call 54 [.tmp 9], none⟩, ⟨some 4, .move (.tmp 10), none⟩])
 (.seq (.seq (.region [⟨some 11, .move (.tmp 4), none⟩, ⟨some 12, .bin .gtr (.tmp 11) (.const (.int .i64 40000)), none⟩])
 (.cond (.tmp 12) (.seq (.region [⟨some 2, .move (.const (.slice none 0 0)), none⟩, ⟨some 3, .move (.const (.int .i64 251)), none⟩])
 (.ret))
 (.skip)))
 (.seq (.region [⟨some 5, .move (.const (.slice none 0 0)), none⟩])
 (.seq (.block 0 (.loop L56_2))
 (.seq (.region [⟨some 52, .move (.tmp 5), none⟩, ⟨some 53, .move (.tmp 0), none⟩, ⟨some 54, .call 51 [.tmp 53], none⟩, ⟨some 2, .move (.tmp 52), none⟩, ⟨some 3, .move (.tmp 54), none⟩])
 (.ret))))))
theorem light56 : Light Tryz.prog 56 1 55 L56 [.tmp 2, .tmp 3] :=
  ⟨Tryz.f56, _, Tryz.func56, rfl, rfl, by kernel_rfl, by kernel_rfl, by decide⟩
def L57 : LCode :=
 .seq (.region [⟨some 2, .move (.const (.int .i64 0)), none⟩])
 (.seq (.seq (.draw [⟨⟨some 3, .move (.tmp 0), none⟩, .pure, 0, 0⟩, ⟨⟨some 4, .nilCheck (.tmp 3), none⟩, .pure, 0, 0⟩, ⟨⟨some 5, .off 2 (.tmp 4), none⟩, .pure, 0, 0⟩, ⟨⟨some 6, .load false 1 (.tmp 5), none⟩, .read, 0, 0⟩, ⟨⟨some 7, .bin .eql (.tmp 6) (.const (.int .i64 0)), none⟩, .pure, 0, 0⟩, ⟨⟨some 8, .move (.tmp 7), none⟩, .pure, 0, 0⟩, ⟨⟨some 9, .move (.tmp 0), (some (8, true))⟩, .pure, 0, 0⟩, ⟨⟨some 10, .nilCheck (.tmp 9), (some (8, true))⟩, .pure, 0, 0⟩, ⟨⟨some 11, .off 1 (.tmp 10), (some (8, true))⟩, .pure, 0, 0⟩, ⟨⟨some 12, .load false 1 (.tmp 11), (some (8, true))⟩, .read, 0, 0⟩, ⟨⟨some 13, .move (.tmp 0), (some (8, true))⟩, .pure, 0, 0⟩, ⟨⟨some 14, .nilCheck (.tmp 13), (some (8, true))⟩, .pure, 0, 0⟩, ⟨⟨some 15, .off 0 (.tmp 14), (some (8, true))⟩, .pure, 0, 0⟩, ⟨⟨some 16, .load false 1 (.tmp 15), (some (8, true))⟩, .read, 0, 0⟩, ⟨⟨some 17, .len (.tmp 16), (some (8, true))⟩, .pure, 0, 0⟩, ⟨⟨some 18, .bin .lss (.tmp 12) (.tmp 17), (some (8, true))⟩, .pure, 0, 0⟩, ⟨⟨some 19, .pick (.tmp 8) (.tmp 18) (.const (.bool false)), none⟩, .pure, 0, 0⟩])
 (.cond (.tmp 19) (.seq (.region [⟨some 2, .move (.const (.int .i64 21)), none⟩])
 (.ret))
 (.skip)))
 (.seq (.region [⟨some 20, .move (.tmp 0), none⟩, ⟨some 21, .nilCheck (.tmp 20), none⟩, ⟨some 22, .off 2 (.tmp 21), none⟩, ⟨some 23, .load false 1 (.tmp 22), none⟩, ⟨some 2, .move (.tmp 23), none⟩])
 (.ret)))
theorem light57 : Light Tryz.prog 57 1 24 L57 [.tmp 2] :=
  ⟨Tryz.f57, _, Tryz.func57, rfl, rfl, by kernel_rfl, by kernel_rfl, by decide⟩
def L58_1 : LCode :=
 .seq (.seq (.region [⟨some 52, .move (.tmp 5), none⟩, ⟨some 53, .off 2 (.tmp 2), none⟩, ⟨some 54, .load false 1 (.tmp 53), none⟩, ⟨some 55, .len (.tmp 54), none⟩, ⟨some 56, .bin .lss (.tmp 52) (.tmp 55), none⟩])
 (.cond (.tmp 56) (.skip)
 (.exit 0)))
 (.seq (.block 1 (.seq (.draw [⟨⟨some 59, .off 2 (.tmp 2), none⟩, .pure, 0, 0⟩, ⟨⟨some 60, .load false 1 (.tmp 59), none⟩, .read, 0, 0⟩, ⟨⟨some 61, .move (.tmp 5), none⟩, .pure, 0, 0⟩, ⟨⟨some 62, .idx 2 (.tmp 60) (.tmp 61), none⟩, .pure, 0, 0⟩, ⟨⟨some 63, .load true 2 (.tmp 62), none⟩, .read, 0, 0⟩, ⟨⟨some 64, .off 2 (.tmp 3), none⟩, .pure, 0, 0⟩, ⟨⟨some 65, .load false 1 (.tmp 64), none⟩, .read, 0, 0⟩, ⟨⟨some 66, .move (.tmp 5), none⟩, .pure, 0, 0⟩, ⟨⟨some 67, .idx 2 (.tmp 65) (.tmp 66), none⟩, .pure, 0, 0⟩, ⟨⟨some 68, .load true 2 (.tmp 67), none⟩, .read, 0, 0⟩, ⟨⟨some 69, .eqR true 101 (.tmp 63) (.tmp 68), none⟩, .pure, 0, 0⟩])
 (.cond (.tmp 69) (.seq (.region [⟨some 4, .move (.const (.bool false)), none⟩])
 (.ret))
 (.skip))))
 (.region [⟨some 57, .move (.tmp 5), none⟩, ⟨some 58, .bin .add (.tmp 57) (.const (.int .i64 1)), none⟩, ⟨some 5, .move (.tmp 58), none⟩]))
def L58_2 : LCode :=
 .seq (.seq (.region [⟨some 70, .move (.tmp 6), none⟩, ⟨some 71, .off 10 (.tmp 2), none⟩, ⟨some 72, .load false 1 (.tmp 71), none⟩, ⟨some 73, .len (.tmp 72), none⟩, ⟨some 74, .bin .lss (.tmp 70) (.tmp 73), none⟩])
 (.cond (.tmp 74) (.skip)
 (.exit 2)))
 (.seq (.block 3 (.seq (.draw [⟨⟨some 77, .off 10 (.tmp 2), none⟩, .pure, 0, 0⟩, ⟨⟨some 78, .load false 1 (.tmp 77), none⟩, .read, 0, 0⟩, ⟨⟨some 79, .move (.tmp 6), none⟩, .pure, 0, 0⟩, ⟨⟨some 80, .idx 1 (.tmp 78) (.tmp 79), none⟩, .pure, 0, 0⟩, ⟨⟨some 81, .load false 1 (.tmp 80), none⟩, .read, 0, 0⟩, ⟨⟨some 82, .off 10 (.tmp 3), none⟩, .pure, 0, 0⟩, ⟨⟨some 83, .load false 1 (.tmp 82), none⟩, .read, 0, 0⟩, ⟨⟨some 84, .move (.tmp 6), none⟩, .pure, 0, 0⟩, ⟨⟨some 85, .idx 1 (.tmp 83) (.tmp 84), none⟩, .pure, 0, 0⟩, ⟨⟨some 86, .load false 1 (.tmp 85), none⟩, .read, 0, 0⟩, ⟨⟨some 87, .call 101 [.tmp 81, .tmp 86], none⟩, .heavy, 0, 1⟩, ⟨⟨some 88, .un .not (.tmp 87), none⟩, .pure, 1, 1⟩])
 (.cond (.tmp 88) (.seq (.region [⟨some 4, .move (.const (.bool false)), none⟩])
 (.ret))
 (.skip))))
 (.region [⟨some 75, .move (.tmp 6), none⟩, ⟨some 76, .bin .add (.tmp 75) (.const (.int .i64 1)), none⟩, ⟨some 6, .move (.tmp 76), none⟩]))
def L58 : LCode :=
 .seq (.region [⟨some 2, .box 29 11 (.tmp 0), none⟩, ⟨some 3, .box 29 11 (.tmp 1), none⟩, ⟨some 4, .move (.const (.bool false)), none⟩])
 (.seq (.seq (.region [⟨some 7, .off 0 (.tmp 2), none⟩, ⟨some 8, .load false 1 (.tmp 7), none⟩, ⟨some 9, .off 0 (.tmp 3), none⟩, ⟨some 10, .load false 1 (.tmp 9), none⟩, ⟨some 11, .bin .neq (.tmp 8) (.tmp 10), none⟩, ⟨some 12, .move (.tmp 11), none⟩, ⟨some 13, .off 3 (.tmp 2), (some (12, false))⟩, ⟨some 14, .load false 1 (.tmp 13), (some (12, false))⟩, ⟨some 15, .off 3 (.tmp 3), (some (12, false))⟩, ⟨some 16, .load false 1 (.tmp 15), (some (12, false))⟩, ⟨some 17, .bin .neq (.tmp 14) (.tmp 16), (some (12, false))⟩, ⟨some 18, .pick (.tmp 12) (.const (.bool true)) (.tmp 17), none⟩, ⟨some 19, .move (.tmp 18), none⟩, ⟨some 20, .off 4 (.tmp 2), (some (19, false))⟩, ⟨some 21, .load true 6 (.tmp 20), (some (19, false))⟩, ⟨some 22, .off 4 (.tmp 3), (some (19, false))⟩, ⟨some 23, .load true 6 (.tmp 22), (some (19, false))⟩, ⟨some 24, .eqR true 26 (.tmp 21) (.tmp 23), (some (19, false))⟩, ⟨some 25, .pick (.tmp 19) (.const (.bool true)) (.tmp 24), none⟩, ⟨some 26, .move (.tmp 25), none⟩, ⟨some 27, .off 1 (.tmp 2), (some (26, false))⟩, ⟨some 28, .load false 1 (.tmp 27), (some (26, false))⟩, ⟨some 29, .off 1 (.tmp 3), (some (26, false))⟩, ⟨some 30, .load false 1 (.tmp 29), (some (26, false))⟩, ⟨some 31, .call 100 [.tmp 28, .tmp 30], (some (26, false))⟩, ⟨some 32, .un .not (.tmp 31), (some (26, false))⟩, ⟨some 33, .pick (.tmp 26) (.const (.bool true)) (.tmp 32), none⟩, ⟨some 34, .move (.tmp 33), none⟩, ⟨some 35, .off 2 (.tmp 2), (some (34, false))⟩, ⟨some 36, .load false 1 (.tmp 35), (some (34, false))⟩, ⟨some 37, .len (.tmp 36), (some (34, false))⟩, ⟨some 38, .off 2 (.tmp 3), (some (34, false))⟩, ⟨some 39, .load false 1 (.tmp 38), (some (34, false))⟩, ⟨some 40, .len (.tmp 39), (some (34, false))⟩, ⟨some 41, .bin .neq (.tmp 37) (.tmp 40), (some (34, false))⟩, ⟨some 42, .pick (.tmp 34) (.const (.bool true)) (.tmp 41), none⟩, ⟨some 43, .move (.tmp 42), none⟩, ⟨some 44, .off 10 (.tmp 2), (some (43, false))⟩, ⟨some 45, .load false 1 (.tmp 44), (some (43, false))⟩, ⟨some 46, .len (.tmp 45), (some (43, false))⟩, ⟨some 47, .off 10 (.tmp 3), (some (43, false))⟩, ⟨some 48, .load false 1 (.tmp 47), (some (43, false))⟩, ⟨some 49, .len (.tmp 48), (some (43, false))⟩, ⟨some 50, .bin .neq (.tmp 46) (.tmp 49), (some (43, false))⟩, ⟨some 51, .pick (.tmp 43) (.const (.bool true)) (.tmp 50), none⟩])
 (.cond (.tmp 51) (.seq (.region [⟨some 4, .move (.const (.bool false)), none⟩])
 (.ret))
 (.skip)))
 (.seq (.seq (.region [⟨some 5, .move (.const (.int .i64 0)), none⟩])
 (.block 0 (.loop L58_1)))
 (.seq (.seq (.region [⟨some 6, .move (.const (.int .i64 0)), none⟩])
 (.block 2 (.loop L58_2)))
 (.seq (.region [⟨some 4, .move (.const (.bool true)), none⟩])
 (.ret)))))
theorem light58 : Light Tryz.prog 58 2 89 L58 [.tmp 4] :=
  ⟨Tryz.f58, _, Tryz.func58, rfl, rfl, by kernel_rfl, by kernel_rfl, by decide⟩
def L59_1 : LCode :=
 .seq (.seq (.region [⟨some 11, .move (.tmp 5), none⟩, ⟨some 12, .move (.tmp 0), none⟩, ⟨some 13, .len (.tmp 12), none⟩, ⟨some 14, .bin .lss (.tmp 11) (.tmp 13), none⟩])
 (.cond (.tmp 14) (.skip)
 (.exit 0)))
 (.seq (.block 1 (.seq (.draw [⟨⟨some 17, .move (.tmp 0), none⟩, .pure, 0, 0⟩, ⟨⟨some 18, .move (.tmp 5), none⟩, .pure, 0, 0⟩, ⟨⟨some 19, .idx 2 (.tmp 17) (.tmp 18), none⟩, .pure, 0, 0⟩, ⟨⟨some 20, .load true 2 (.tmp 19), none⟩, .read, 0, 0⟩, ⟨⟨some 21, .move (.tmp 1), none⟩, .pure, 0, 0⟩, ⟨⟨some 22, .move (.tmp 5), none⟩, .pure, 0, 0⟩, ⟨⟨some 23, .idx 2 (.tmp 21) (.tmp 22), none⟩, .pure, 0, 0⟩, ⟨⟨some 24, .load true 2 (.tmp 23), none⟩, .read, 0, 0⟩, ⟨⟨some 25, .eqR true 62 (.tmp 20) (.tmp 24), none⟩, .pure, 0, 0⟩])
 (.cond (.tmp 25) (.seq (.region [⟨some 4, .move (.const (.bool false)), none⟩])
 (.ret))
 (.skip))))
 (.region [⟨some 15, .move (.tmp 5), none⟩, ⟨some 16, .bin .add (.tmp 15) (.const (.int .i64 1)), none⟩, ⟨some 5, .move (.tmp 16), none⟩]))
def L59 : LCode :=
 .seq (.region [⟨some 4, .move (.const (.bool false)), none⟩])
 (.seq (.seq (.region [⟨some 6, .move (.tmp 0), none⟩, ⟨some 7, .len (.tmp 6), none⟩, ⟨some 8, .move (.tmp 1), none⟩, ⟨some 9, .len (.tmp 8), none⟩, ⟨some 10, .bin .neq (.tmp 7) (.tmp 9), none⟩])
 (.cond (.tmp 10) (.seq (.region [⟨some 4, .move (.const (.bool false)), none⟩])
 (.ret))
 (.skip)))
 (.seq (.seq (.region [⟨some 5, .move (.const (.int .i64 0)), none⟩])
 (.block 0 (.loop L59_1)))
 (.seq (.region [⟨some 4, .move (.const (.bool true)), none⟩])
 (.ret))))
theorem light59 : Light Tryz.prog 59 2 26 L59 [.tmp 4] :=
  ⟨Tryz.f59, _, Tryz.func59, rfl, rfl, by kernel_rfl, by kernel_rfl, by decide⟩
def L62_1 : LCode :=
 .seq (.region [zi 18 (.bin .lss (.tmp 17) (.tmp 16))])
 (.seq (.cond (.tmp 18) (.skip)
 (.exit 0))
 (.seq (.block 1 (.seq (.region [zi 19 (.idx 1 (.tmp 15) (.tmp 17)), zl false 1 20 19, zm 5 20])
 (.region [zm 21 3, zm 22 5, zi 23 (.append 113 6 48 (.const (.slice none 0 0)) (.tmp 22)), zi 24 (.buildSlice 103 1 1 [.slice none 0 0] [(0, 1, .tmp 23)]), zi 25 (.append 103 1 24 (.tmp 21) (.tmp 24)), zm 3 25])))
 (.region [zi 26 (.bin .add (.tmp 17) (.const (.int .i64 1))), zm 17 26])))
def L62 : LCode :=
 .seq (.region [zi 1 (.box 29 11 (.tmp 0)), zi 2 (.new 29 11 [.int .i64 0, .slice none 0 0, .slice none 0 0, .int .i64 0, .int .i64 0, .int .i64 0, .int .i64 0, .int .i64 0, .int .i64 0, .int .i64 0, .slice none 0 0])])
 (.seq (.region [zo 1 6 1, zl false 1 7 6, zi 8 (.append 98 2 16 (.const (.slice none 0 0)) (.tmp 7)), zo 1 9 1, ⟨none, .store 1 (.tmp 9) (.tmp 8), none⟩])
 (.seq (.region [zo 2 10 1, zl false 1 11 10, zi 12 (.append 101 2 16 (.const (.slice none 0 0)) (.tmp 11)), zo 2 13 1, ⟨none, .store 1 (.tmp 13) (.tmp 12), none⟩])
 (.seq (.region [zi 3 (.move (.const (.slice none 0 0)))])
 (.seq (.seq (.region [zo 10 14 1, zl false 1 15 14, zi 16 (.len (.tmp 15)), zi 17 (.move (.const (.int .i64 0)))])
 (.block 0 (.loop L62_1)))
 (.seq (.region [zm 27 3, zo 10 28 1, ⟨none, .store 1 (.tmp 28) (.tmp 27), none⟩])
 (.seq (.region [zl true 11 29 1, ⟨none, .store 11 (.tmp 2) (.tmp 29), none⟩])
 (.ret)))))))
theorem light62 : Light Tryz.prog 62 1 30 L62 [.cell 2 true 11] :=
  ⟨Tryz.f62, _, Tryz.func62, rfl, rfl, by kernel_rfl, by kernel_rfl, by decide⟩
def L63 : LCode :=
 .seq (.region [⟨some 1, .box 26 6 (.tmp 0), none⟩, ⟨some 2, .move (.const (.int .i64 0)), none⟩, ⟨some 3, .move (.const (.int .i64 0)), none⟩])
 (.seq (.seq (.region [⟨some 4, .off 0 (.tmp 1), none⟩, ⟨some 5, .load false 1 (.tmp 4), none⟩])
 (.block 0 (.seq (.region [⟨some 7, .bin .eql (.tmp 5) (.const (.int .i64 1)), none⟩, ⟨some 6, .move (.tmp 7), none⟩])
 (.cond (.tmp 6) (.seq (.seq (.region [⟨some 8, .off 4 (.tmp 1), none⟩, ⟨some 9, .load false 1 (.tmp 8), none⟩, ⟨some 10, .bin .neq (.tmp 9) (.const (.int .i64 0)), none⟩, ⟨some 11, .move (.tmp 10), none⟩, ⟨some 12, .off 5 (.tmp 1), (some (11, false))⟩, ⟨some 13, .load false 1 (.tmp 12), (some (11, false))⟩, ⟨some 14, .bin .neq (.tmp 13) (.const (.int .i64 0)), (some (11, false))⟩, ⟨some 15, .pick (.tmp 11) (.const (.bool true)) (.tmp 14), none⟩])
 (.cond (.tmp 15) (.seq (.region [⟨some 2, .move (.const (.int .i64 0)), none⟩, ⟨some 3, .move (.const (.int .i64 152)), none⟩])
 (.ret))
 (.skip)))
 (.seq (.region [⟨some 16, .load true 6 (.tmp 1), none⟩, ⟨some 17, .call 102 [.tmp 16], none⟩, ⟨some 18, .extract (.tmp 17) 0, none⟩, ⟨some 19, .extract (.tmp 17) 1, none⟩, ⟨some 2, .move (.tmp 18), none⟩, ⟨some 3, .move (.tmp 19), none⟩])
 (.ret)))
 (.seq (.region [⟨some 21, .bin .eql (.tmp 5) (.const (.int .i64 2)), none⟩, ⟨some 20, .move (.tmp 21), none⟩])
 (.cond (.tmp 20) (.seq (.seq (.region [⟨some 22, .off 1 (.tmp 1), none⟩, ⟨some 23, .load false 1 (.tmp 22), none⟩, ⟨some 24, .bin .neq (.tmp 23) (.const (.int .i64 0)), none⟩, ⟨some 25, .move (.tmp 24), none⟩, ⟨some 26, .off 2 (.tmp 1), (some (25, false))⟩, ⟨some 27, .load false 1 (.tmp 26), (some (25, false))⟩, ⟨some 28, .bin .neq (.tmp 27) (.const (.int .i64 0)), (some (25, false))⟩, ⟨some 29, .pick (.tmp 25) (.const (.bool true)) (.tmp 28), none⟩, ⟨some 30, .move (.tmp 29), none⟩, ⟨some 31, .off 3 (.tmp 1), (some (30, false))⟩, ⟨some 32, .load false 1 (.tmp 31), (some (30, false))⟩, ⟨some 33, .bin .neq (.tmp 32) (.const (.int .i64 0)), (some (30, false))⟩, ⟨some 34, .pick (.tmp 30) (.const (.bool true)) (.tmp 33), none⟩])
 (.cond (.tmp 34) (.seq (.region [⟨some 2, .move (.const (.int .i64 0)), none⟩, ⟨some 3, .move (.const (.int .i64 152)), none⟩])
 (.ret))
 (.skip)))
 (.seq (.seq (.region [⟨some 35, .off 4 (.tmp 1), none⟩, ⟨some 36, .load false 1 (.tmp 35), none⟩, ⟨some 37, .bin .lss (.tmp 36) (.const (.int .i64 0)), none⟩, ⟨some 38, .move (.tmp 37), none⟩, ⟨some 39, .off 5 (.tmp 1), (some (38, false))⟩, ⟨some 40, .load false 1 (.tmp 39), (some (38, false))⟩, ⟨some 41, .bin .lss (.tmp 40) (.const (.int .i64 1)), (some (38, false))⟩, ⟨some 42, .pick (.tmp 38) (.const (.bool true)) (.tmp 41), none⟩, ⟨some 43, .move (.tmp 42), none⟩, ⟨some 44, .off 5 (.tmp 1), (some (43, false))⟩, ⟨some 45, .load false 1 (.tmp 44), (some (43, false))⟩, ⟨some 46, .bin .gtr (.tmp 45) (.const (.int .i64 6)), (some (43, false))⟩, ⟨some 47, .pick (.tmp 43) (.const (.bool true)) (.tmp 46), none⟩])
 (.cond (.tmp 47) (.seq (.region [⟨some 2, .move (.const (.int .i64 0)), none⟩, ⟨some 3, .move (.const (.int .i64 152)), none⟩])
 (.ret))
 (.skip)))
 (.seq (.seq (.draw [⟨⟨some 48, .off 4 (.tmp 1), none⟩, .pure, 0, 0⟩, ⟨⟨some 49, .load false 1 (.tmp 48), none⟩, .read, 0, 0⟩, ⟨⟨some 50, .off 5 (.tmp 1), none⟩, .pure, 0, 0⟩, ⟨⟨some 51, .load false 1 (.tmp 50), none⟩, .read, 0, 0⟩, ⟨⟨some 52, .bin .quo (.const (.int .i64 200)) (.tmp 51), none⟩, .pure, 0, 0⟩, ⟨⟨some 53, .bin .gtr (.tmp 49) (.tmp 52), none⟩, .pure, 0, 0⟩])
 (.cond (.tmp 53) (.seq (.region [⟨some 2, .move (.const (.int .i64 0)), none⟩, ⟨some 3, .move (.const (.int .i64 151)), none⟩])
 (.ret))
 (.skip)))
 (.seq (.region [⟨some 54, .off 4 (.tmp 1), none⟩, ⟨some 55, .load false 1 (.tmp 54), none⟩, ⟨some 56, .off 5 (.tmp 1), none⟩, ⟨some 57, .load false 1 (.tmp 56), none⟩, ⟨some 58, .bin .mul (.tmp 55) (.tmp 57), none⟩, ⟨some 2, .move (.tmp 58), none⟩, ⟨some 3, .move (.const (.int .i64 0)), none⟩])
 (.ret)))))
 (.skip)))))))
 (.seq (.region [⟨some 2, .move (.const (.int .i64 0)), none⟩, ⟨some 3, .move (.const (.int .i64 152)), none⟩])
 (.ret)))
theorem light63 : Light Tryz.prog 63 1 59 L63 [.tmp 2, .tmp 3] :=
  ⟨Tryz.f63, _, Tryz.func63, rfl, rfl, by kernel_rfl, by kernel_rfl, by decide⟩
def L64_1 : LCode :=
 .seq (.region [zi 30 (.bin .lss (.tmp 29) (.tmp 28))])
 (.seq (.cond (.tmp 30) (.skip)
 (.exit 0))
 (.seq (.block 1 (.seq (.region [zi 31 (.idx 2 (.tmp 27) (.tmp 29)), zl true 2 32 31, zi 9 (.new 101 2 [.int .i64 0, .int .i64 0]), ⟨none, .store 2 (.tmp 9) (.tmp 32), none⟩])
 (.region [zo 2 33 7, zl false 1 34 33, zo 1 35 9, zl false 1 36 35, zi 37 (.buildSlice 2 1 1 [.int .i64 0] [(0, 1, .tmp 36)]), zi 38 (.append 2 1 8 (.tmp 34) (.tmp 37)), zo 2 39 7, ⟨none, .store 1 (.tmp 39) (.tmp 38), none⟩])))
 (.region [zi 40 (.bin .add (.tmp 29) (.const (.int .i64 1))), zm 29 40])))
def L64 : LCode :=
 .seq (.region [zi 1 (.box 29 11 (.tmp 0)), zi 2 (.new 72 7 [.slice none 0 0, .slice none 0 0, .slice none 0 0, .int .i64 0, .int .i64 0, .int .i64 0, .int .i64 0]), zi 3 (.move (.const (.int .i64 0)))])
 (.seq (.seq (.region [zl true 11 10 1, zi 11 (.call 43 [.tmp 10]), zm 4 11])
 (.seq (.region [zm 12 4, zi 13 (.bin .neq (.tmp 12) (.const (.int .i64 0)))])
 (.cond (.tmp 13) (.seq (.region [zi 14 (.build [.slice none 0 0, .slice none 0 0, .slice none 0 0, .int .i64 0, .int .i64 0, .int .i64 0, .int .i64 0] []), zm 15 4, ⟨none, .store 7 (.tmp 2) (.tmp 14), none⟩, zm 3 15])
 (.ret))
 (.skip))))
 (.seq (.region [zo 0 17 1, zl false 1 18 17, zo 1 19 1, zl false 1 20 19, zi 21 (.call 84 [.tmp 18, .tmp 20]), zm 16 21, ze 22 16 0, ze 23 16 1, zm 5 22, zm 6 23])
 (.seq (.region [zm 24 5, zi 25 (.build [.slice none 0 0, .slice none 0 0, .slice none 0 0, .int .i64 0, .int .i64 0, .int .i64 0, .int .i64 0] [(0, 1, .tmp 24)]), zi 7 (.new 72 7 [.slice none 0 0, .slice none 0 0, .slice none 0 0, .int .i64 0, .int .i64 0, .int .i64 0, .int .i64 0]), ⟨none, .store 7 (.tmp 7) (.tmp 25), none⟩])
 (.seq (.seq (.region [zo 2 26 1, zl false 1 27 26, zi 28 (.len (.tmp 27)), zi 29 (.move (.const (.int .i64 0)))])
 (.block 0 (.loop L64_1)))
 (.seq (.region [zl true 7 41 7, ⟨none, .store 7 (.tmp 2) (.tmp 41), none⟩, zi 3 (.move (.const (.int .i64 0)))])
 (.ret))))))
theorem light64 : Light Tryz.prog 64 1 42 L64 [.cell 2 true 7, .tmp 3] :=
  ⟨Tryz.f64, _, Tryz.func64, rfl, rfl, by kernel_rfl, by kernel_rfl, by decide⟩
def L65 : LCode :=
 .seq (.region [zi 8 (.move (.const (.pointer none))), zi 9 (.move (.const (.int .i64 0)))])
 (.seq (.seq (.region [zm 11 0, zi 12 (.bin .lss (.tmp 11) (.const (.int .i64 1))), zm 13 12, ⟨some 14, .move (.tmp 0), (some (13, false))⟩, ⟨some 15, .bin .gtr (.tmp 14) (.const (.int .i64 3)), (some (13, false))⟩, zi 16 (.pick (.tmp 13) (.const (.bool true)) (.tmp 15))])
 (.cond (.tmp 16) (.seq (.region [zi 8 (.move (.const (.pointer none))), zi 9 (.move (.const (.int .i64 160)))])
 (.ret))
 (.skip)))
 (.seq (.seq (.region [zm 17 1, zi 18 (.bin .lss (.tmp 17) (.const (.int .i64 1))), zm 19 18, ⟨some 20, .move (.tmp 1), (some (19, false))⟩, ⟨some 21, .bin .gtr (.tmp 20) (.const (.int .i64 200)), (some (19, false))⟩, zi 22 (.pick (.tmp 19) (.const (.bool true)) (.tmp 21))])
 (.cond (.tmp 22) (.seq (.region [zi 8 (.move (.const (.pointer none))), zi 9 (.move (.const (.int .i64 161)))])
 (.ret))
 (.skip)))
 (.seq (.seq (.region [zm 23 2, zi 24 (.bin .lss (.tmp 23) (.const (.int .i64 1))), zm 25 24, ⟨some 26, .move (.tmp 2), (some (25, false))⟩, ⟨some 27, .bin .gtr (.tmp 26) (.const (.int .i64 8)), (some (25, false))⟩, zi 28 (.pick (.tmp 25) (.const (.bool true)) (.tmp 27))])
 (.cond (.tmp 28) (.seq (.region [zi 8 (.move (.const (.pointer none))), zi 9 (.move (.const (.int .i64 162)))])
 (.ret))
 (.skip)))
 (.seq (.seq (.region [zm 29 3, zi 30 (.bin .lss (.tmp 29) (.const (.int .i64 0))), zm 31 30, ⟨some 32, .move (.tmp 3), (some (31, false))⟩, ⟨some 33, .bin .gtr (.tmp 32) (.const (.int .i64 200)), (some (31, false))⟩, zi 34 (.pick (.tmp 31) (.const (.bool true)) (.tmp 33))])
 (.cond (.tmp 34) (.seq (.region [zi 8 (.move (.const (.pointer none))), zi 9 (.move (.const (.int .i64 151)))])
 (.ret))
 (.skip)))
 (.seq (.region [zm 35 3, zm 36 2, zm 37 1, zm 38 2, zi 39 (.make 3 1 8 [.int .i64 0] (.tmp 38) (.tmp 38)), zi 40 (.build [.nilFunc, .int .i64 0, .int .i64 0, .int .i64 0, .int .i64 0, .slice none 0 0] [(1, 1, .tmp 35), (2, 1, .tmp 36), (3, 1, .tmp 37), (5, 1, .tmp 39)]), zi 41 (.box 195 6 (.tmp 40)), zm 10 41])
 (.seq (.seq (.region [zm 42 0])
 (.block 0 (.seq (.region [zi 49 (.bin .eql (.tmp 42) (.const (.int .i64 1))), zm 48 49])
 (.cond (.tmp 48) (.region [zm 50 10, zm 51 10, zi 52 (.func (.func 103) [.tmp 51] []), zi 53 (.nilCheck (.tmp 50)), zo 0 54 53, ⟨none, .store 1 (.tmp 54) (.tmp 52), none⟩])
 (.seq (.region [zi 56 (.bin .eql (.tmp 42) (.const (.int .i64 2))), zm 55 56])
 (.cond (.tmp 55) (.region [zm 57 10, zm 58 10, zi 59 (.func (.func 104) [.tmp 58] []), zi 60 (.nilCheck (.tmp 57)), zo 0 61 60, ⟨none, .store 1 (.tmp 61) (.tmp 59), none⟩])
 (.region [zm 43 10, zm 44 10, zi 45 (.func (.func 105) [.tmp 44] []), zi 46 (.nilCheck (.tmp 43)), zo 0 47 46, ⟨none, .store 1 (.tmp 47) (.tmp 45), none⟩])))))))
 (.seq (.region [zm 62 10, zm 8 62, zi 9 (.move (.const (.int .i64 0)))])
 (.ret))))))))
theorem light65 : Light Tryz.prog 65 4 63 L65 [.tmp 8, .tmp 9] :=
  ⟨Tryz.f65, _, Tryz.func65, rfl, rfl, by kernel_rfl, by kernel_rfl, by decide⟩
def L66 : LCode :=
 .seq (.draw [zp (zm 3 0) 0 1, zp (zm 4 0) 0 0, zp (zi 5 (.nilCheck (.tmp 4))) 0 0, zp (zo 0 6 5) 0 0, zp (zo 0 7 6) 0 0, zr (zl false 1 8 7) 0 0, zp (zm 9 0) 0 0, zp (zi 10 (.nilCheck (.tmp 9))) 0 0, zp (zo 11 11 10) 0 0, zp (zo 7 12 11) 0 0, zr (zl false 1 13 12) 0 0, zh (zi 14 (.call 106 [.tmp 8, .tmp 13])) 0 1, zp (zm 2 14) 1 1, zp (ze 15 2 0) 1 1, zp (ze 16 2 1) 1 2, zp (zi 17 (.nilCheck (.tmp 3))) 1 1, zp (zo 24 18 17) 1 1, ⟨⟨none, .store 1 (.tmp 18) (.tmp 15), none⟩, .heavy, 1, 2⟩])
 (.region [zm 20 0, zm 21 0, zi 22 (.nilCheck (.tmp 21)), zo 11 23 22, zo 8 24 23, zl false 1 25 24, zi 26 (.call 107 [.tmp 25]), zm 19 26, ze 27 19 0, ze 28 19 1, zi 29 (.nilCheck (.tmp 20)), zo 25 30 29, ⟨none, .store 1 (.tmp 30) (.tmp 27), none⟩])
theorem light66 : Light Tryz.prog 66 1 31 L66 [] :=
  ⟨Tryz.f66, _, Tryz.func66, rfl, rfl, by kernel_rfl, by kernel_rfl, by decide⟩
def L72 : LCode :=
 .region [⟨some 4, .move (.tmp 0), none⟩, ⟨some 5, .move (.tmp 1), none⟩, ⟨some 6, .conv .u64 (.tmp 5), none⟩, ⟨some 7, .bin .shl (.tmp 6) (.const (.int .u64 1)), none⟩, ⟨some 8, .move (.tmp 1), none⟩, ⟨some 9, .bin .shr (.tmp 8) (.const (.int .u64 63)), none⟩, ⟨some 10, .conv .u64 (.tmp 9), none⟩, ⟨some 11, .bin .xor (.tmp 7) (.tmp 10), none⟩, ⟨some 12, .call 33 [.tmp 4, .tmp 11], none⟩]
theorem light72 : Light Tryz.prog 72 2 13 L72 [] :=
  ⟨Tryz.f72, _, Tryz.func72, rfl, rfl, by kernel_rfl, by kernel_rfl, by decide⟩
def L73_1 : LCode :=
 .seq (.region [⟨some 14, .bin .lss (.tmp 13) (.tmp 12), none⟩])
 (.seq (.cond (.tmp 14) (.skip)
 (.exit 0))
 (.seq (.block 1 (.seq (.region [⟨some 15, .idx 1 (.tmp 11) (.tmp 13), none⟩, ⟨some 16, .load false 1 (.tmp 15), none⟩, ⟨some 5, .move (.tmp 16), none⟩])
 (.region [⟨some 17, .move (.tmp 0), none⟩, ⟨some 18, .move (.tmp 5), none⟩, ⟨some 19, .call 72 [.tmp 17, .tmp 18], none⟩])))
 (.region [⟨some 20, .bin .add (.tmp 13) (.const (.int .i64 1)), none⟩, ⟨some 13, .move (.tmp 20), none⟩])))
def L73 : LCode :=
 .seq (.region [⟨some 6, .move (.tmp 0), none⟩, ⟨some 7, .move (.tmp 1), none⟩, ⟨some 8, .len (.tmp 7), none⟩, ⟨some 9, .conv .u64 (.tmp 8), none⟩, ⟨some 10, .call 33 [.tmp 6, .tmp 9], none⟩])
 (.seq (.region [⟨some 11, .move (.tmp 1), none⟩, ⟨some 12, .len (.tmp 11), none⟩, ⟨some 13, .move (.const (.int .i64 0)), none⟩])
 (.block 0 (.loop L73_1)))
theorem light73 : Light Tryz.prog 73 2 21 L73 [] :=
  ⟨Tryz.f73, _, Tryz.func73, rfl, rfl, by kernel_rfl, by kernel_rfl, by decide⟩
def L74_1 : LCode :=
 .seq (.region [⟨some 78, .bin .lss (.tmp 77) (.tmp 76), none⟩])
 (.seq (.cond (.tmp 78) (.skip)
 (.exit 2))
 (.seq (.block 3 (.seq (.region [⟨some 79, .idx 2 (.tmp 75) (.tmp 77), none⟩, ⟨some 80, .load true 2 (.tmp 79), none⟩, ⟨some 14, .new 222 2 [.bool false, .int .i64 0], none⟩, ⟨none, .store 2 (.tmp 14) (.tmp 80), none⟩])
 (.seq (.region [⟨some 81, .off 0 (.tmp 14), none⟩, ⟨some 82, .load false 1 (.tmp 81), none⟩])
 (.cond (.tmp 82) (.region [⟨some 83, .move (.tmp 8), none⟩, ⟨some 84, .off 1 (.tmp 14), none⟩, ⟨some 85, .load false 1 (.tmp 84), none⟩, ⟨some 86, .conv .u64 (.tmp 85), none⟩, ⟨some 87, .call 33 [.tmp 83, .tmp 86], none⟩])
 (.skip)))))
 (.region [⟨some 88, .bin .add (.tmp 77) (.const (.int .i64 1)), none⟩, ⟨some 77, .move (.tmp 88), none⟩])))
def L74_2 : LCode :=
 .seq (.region [⟨some 33, .bin .lss (.tmp 32) (.tmp 31), none⟩])
 (.seq (.cond (.tmp 33) (.skip)
 (.exit 0))
 (.seq (.block 1 (.seq (.region [⟨some 34, .idx 6 (.tmp 30) (.tmp 32), none⟩, ⟨some 35, .load true 6 (.tmp 34), none⟩, ⟨some 10, .new 113 6 [.int .i64 0, .int .i64 0, .int .i64 0, .int .i64 0, .int .i64 0, .int .i64 0], none⟩, ⟨none, .store 6 (.tmp 10) (.tmp 35), none⟩])
 (.seq (.region [⟨some 37, .off 0 (.tmp 10), none⟩, ⟨some 38, .load false 1 (.tmp 37), none⟩, ⟨some 39, .call 114 [.tmp 38], none⟩, ⟨some 36, .move (.tmp 39), none⟩, ⟨some 40, .extract (.tmp 36) 0, none⟩, ⟨some 41, .extract (.tmp 36) 1, none⟩, ⟨some 11, .new 219 8 [.bool false, .bool false, .bool false, .bool false, .bool false, .bool false, .bool false, .bool false], none⟩, ⟨none, .store 8 (.tmp 11) (.tmp 40), none⟩, ⟨some 12, .move (.tmp 41), none⟩])
 (.seq (.region [⟨some 42, .move (.tmp 8), none⟩, ⟨some 43, .off 0 (.tmp 10), none⟩, ⟨some 44, .load false 1 (.tmp 43), none⟩, ⟨some 45, .conv .u64 (.tmp 44), none⟩, ⟨some 46, .call 33 [.tmp 42, .tmp 45], none⟩])
 (.seq (.seq (.region [⟨some 47, .off 6 (.tmp 11), none⟩, ⟨some 48, .load false 1 (.tmp 47), none⟩, ⟨some 49, .move (.tmp 48), none⟩, ⟨some 50, .off 7 (.tmp 11), (some (49, false))⟩, ⟨some 51, .load false 1 (.tmp 50), (some (49, false))⟩, ⟨some 52, .pick (.tmp 49) (.const (.bool true)) (.tmp 51), none⟩, ⟨some 53, .off 1 (.tmp 10), none⟩, ⟨some 54, .load false 1 (.tmp 53), none⟩, ⟨some 55, .build [.bool false, .int .i64 0] [(0, 1, .tmp 52), (1, 1, .tmp 54)], none⟩, ⟨some 56, .off 0 (.tmp 11), none⟩, ⟨some 57, .load false 1 (.tmp 56), none⟩, ⟨some 58, .off 2 (.tmp 10), none⟩, ⟨some 59, .load false 1 (.tmp 58), none⟩, ⟨some 60, .build [.bool false, .int .i64 0] [(0, 1, .tmp 57), (1, 1, .tmp 59)], none⟩, ⟨some 61, .off 1 (.tmp 11), none⟩, ⟨some 62, .load false 1 (.tmp 61), none⟩, ⟨some 63, .off 3 (.tmp 10), none⟩, ⟨some 64, .load false 1 (.tmp 63), none⟩, ⟨some 65, .build [.bool false, .int .i64 0] [(0, 1, .tmp 62), (1, 1, .tmp 64)], none⟩, ⟨some 66, .off 2 (.tmp 11), none⟩, ⟨some 67, .load false 1 (.tmp 66), none⟩, ⟨some 68, .move (.tmp 67), none⟩, ⟨some 69, .off 3 (.tmp 11), (some (68, false))⟩, ⟨some 70, .load false 1 (.tmp 69), (some (68, false))⟩, ⟨some 71, .pick (.tmp 68) (.const (.bool true)) (.tmp 70), none⟩, ⟨some 72, .off 4 (.tmp 10), none⟩, ⟨some 73, .load false 1 (.tmp 72), none⟩, ⟨some 74, .build [.bool false, .int .i64 0] [(0, 1, .tmp 71), (1, 1, .tmp 73)], none⟩, ⟨some 75, .buildSlice 222 2 4 [.bool false, .int .i64 0] [(0, 2, .tmp 55), (2, 2, .tmp 60), (4, 2, .tmp 65), (6, 2, .tmp 74)], none⟩, ⟨some 76, .len (.tmp 75), none⟩, ⟨some 77, .move (.const (.int .i64 0)), none⟩])
 (.block 2 (.loop L74_1)))
 (.seq (.region [⟨some 89, .off 4 (.tmp 11), none⟩, ⟨some 90, .load false 1 (.tmp 89), none⟩])
 (.cond (.tmp 90) (.region [⟨some 91, .move (.tmp 8), none⟩, ⟨some 92, .off 5 (.tmp 10), none⟩, ⟨some 93, .load false 1 (.tmp 92), none⟩, ⟨some 94, .call 72 [.tmp 91, .tmp 93], none⟩])
 (.skip))))))))
 (.region [⟨some 95, .bin .add (.tmp 32) (.const (.int .i64 1)), none⟩, ⟨some 32, .move (.tmp 95), none⟩])))
def L74 : LCode :=
 .seq (.region [⟨some 4, .move (.const (.slice none 0 0)), none⟩, ⟨some 5, .move (.const (.int .i64 0)), none⟩])
 (.seq (.seq (.region [⟨some 16, .move (.tmp 0), none⟩, ⟨some 17, .move (.tmp 1), none⟩, ⟨some 18, .call 87 [.tmp 16, .tmp 17], none⟩, ⟨some 15, .move (.tmp 18), none⟩, ⟨some 19, .extract (.tmp 15) 0, none⟩, ⟨some 20, .extract (.tmp 15) 1, none⟩, ⟨some 6, .move (.tmp 19), none⟩, ⟨some 7, .move (.tmp 20), none⟩])
 (.seq (.region [⟨some 21, .move (.tmp 7), none⟩, ⟨some 22, .bin .neq (.tmp 21) (.const (.int .i64 0)), none⟩])
 (.cond (.tmp 22) (.seq (.region [⟨some 23, .move (.tmp 7), none⟩, ⟨some 4, .move (.const (.slice none 0 0)), none⟩, ⟨some 5, .move (.tmp 23), none⟩])
 (.ret))
 (.skip))))
 (.seq (.region [⟨some 24, .call 32 [], none⟩, ⟨some 8, .move (.tmp 24), none⟩])
 (.seq (.region [⟨some 25, .move (.tmp 8), none⟩, ⟨some 26, .move (.tmp 0), none⟩, ⟨some 27, .len (.tmp 26), none⟩, ⟨some 28, .conv .u64 (.tmp 27), none⟩, ⟨some 29, .call 33 [.tmp 25, .tmp 28], none⟩])
 (.seq (.seq (.region [⟨some 30, .move (.tmp 0), none⟩, ⟨some 31, .len (.tmp 30), none⟩, ⟨some 32, .move (.const (.int .i64 0)), none⟩])
 (.block 0 (.loop L74_2)))
 (.seq (.region [⟨some 96, .move (.tmp 8), none⟩, ⟨some 97, .call 38 [.tmp 96], none⟩, ⟨some 4, .move (.tmp 97), none⟩, ⟨some 5, .move (.const (.int .i64 0)), none⟩])
 (.ret))))))
theorem light74 : Light Tryz.prog 74 2 98 L74 [.tmp 4, .tmp 5] :=
  ⟨Tryz.f74, _, Tryz.func74, rfl, rfl, by kernel_rfl, by kernel_rfl, by decide⟩
def L75 : LCode :=
 .seq (.region [⟨some 4, .move (.tmp 0), none⟩, ⟨some 5, .move (.tmp 1), none⟩, ⟨some 6, .lenS (.tmp 5), none⟩, ⟨some 7, .conv .u64 (.tmp 6), none⟩, ⟨some 8, .call 33 [.tmp 4, .tmp 7], none⟩])
 (.region [⟨some 9, .move (.tmp 0), none⟩, ⟨some 10, .move (.tmp 0), none⟩, ⟨some 11, .nilCheck (.tmp 10), none⟩, ⟨some 12, .off 0 (.tmp 11), none⟩, ⟨some 13, .load false 1 (.tmp 12), none⟩, ⟨some 14, .move (.tmp 1), none⟩, ⟨some 15, .append 5 1 1 (.tmp 13) (.tmp 14), none⟩, ⟨some 16, .nilCheck (.tmp 9), none⟩, ⟨some 17, .off 0 (.tmp 16), none⟩, ⟨none, .store 1 (.tmp 17) (.tmp 15), none⟩])
theorem light75 : Light Tryz.prog 75 2 18 L75 [] :=
  ⟨Tryz.f75, _, Tryz.func75, rfl, rfl, by kernel_rfl, by kernel_rfl, by decide⟩
def L76 : LCode :=
 .seq (.seq (.region [⟨some 4, .move (.tmp 1), none⟩])
 (.cond (.tmp 4) (.seq (.region [⟨some 5, .move (.tmp 0), none⟩, ⟨some 6, .move (.tmp 0), none⟩, ⟨some 7, .nilCheck (.tmp 6), none⟩, ⟨some 8, .off 0 (.tmp 7), none⟩, ⟨some 9, .load false 1 (.tmp 8), none⟩, ⟨some 10, .buildSlice 5 1 1 [.int .u8 0] [(0, 1, .const (.int .u8 1))], none⟩, ⟨some 11, .append 5 1 1 (.tmp 9) (.tmp 10), none⟩, ⟨some 12, .nilCheck (.tmp 5), none⟩, ⟨some 13, .off 0 (.tmp 12), none⟩, ⟨none, .store 1 (.tmp 13) (.tmp 11), none⟩])
 (.ret))
 (.skip)))
 (.region [⟨some 14, .move (.tmp 0), none⟩, ⟨some 15, .move (.tmp 0), none⟩, ⟨some 16, .nilCheck (.tmp 15), none⟩, ⟨some 17, .off 0 (.tmp 16), none⟩, ⟨some 18, .load false 1 (.tmp 17), none⟩, ⟨some 19, .buildSlice 5 1 1 [.int .u8 0] [(0, 1, .const (.int .u8 0))], none⟩, ⟨some 20, .append 5 1 1 (.tmp 18) (.tmp 19), none⟩, ⟨some 21, .nilCheck (.tmp 14), none⟩, ⟨some 22, .off 0 (.tmp 21), none⟩, ⟨none, .store 1 (.tmp 22) (.tmp 20), none⟩])
theorem light76 : Light Tryz.prog 76 2 23 L76 [] :=
  ⟨Tryz.f76, _, Tryz.func76, rfl, rfl, by kernel_rfl, by kernel_rfl, by decide⟩
def L77 : LCode :=
 .seq (.region [⟨some 0, .new 157 4 [.int .u8 0, .int .u8 0, .int .u8 0, .int .u8 0], none⟩])
 (.seq (.region [⟨some 1, .build [.int .u8 0, .int .u8 0, .int .u8 0, .int .u8 0] [(0, 1, .const (.int .u8 111)), (1, 1, .const (.int .u8 117)), (2, 1, .const (.int .u8 116)), (3, 1, .const (.int .u8 114))], none⟩, ⟨none, .store 4 (.tmp 0) (.tmp 1), none⟩])
 (.ret))
theorem light77 : Light Tryz.prog 77 0 2 L77 [.cell 0 true 4] :=
  ⟨Tryz.f77, _, Tryz.func77, rfl, rfl, by kernel_rfl, by kernel_rfl, by decide⟩
def L78_1 : LCode :=
 .seq (.region [⟨some 9, .bin .lss (.tmp 8) (.tmp 7), none⟩])
 (.seq (.cond (.tmp 9) (.skip)
 (.exit 0))
 (.seq (.block 1 (.seq (.region [⟨some 10, .move (.tmp 0), none⟩, ⟨some 11, .move (.tmp 1), none⟩, ⟨some 12, .conv .u8 (.tmp 11), none⟩, ⟨some 13, .buildSlice 5 1 1 [.int .u8 0] [(0, 1, .tmp 12)], none⟩, ⟨some 14, .append 5 1 1 (.tmp 10) (.tmp 13), none⟩, ⟨some 0, .move (.tmp 14), none⟩])
 (.region [⟨some 15, .move (.tmp 1), none⟩, ⟨some 16, .bin .shr (.tmp 15) (.const (.int .u64 8)), none⟩, ⟨some 1, .move (.tmp 16), none⟩])))
 (.region [⟨some 17, .bin .add (.tmp 8) (.const (.int .i64 1)), none⟩, ⟨some 8, .move (.tmp 17), none⟩])))
def L78 : LCode :=
 .seq (.region [⟨some 6, .move (.const (.slice none 0 0)), none⟩])
 (.seq (.seq (.region [⟨some 7, .move (.tmp 2), none⟩, ⟨some 8, .move (.const (.int .i64 0)), none⟩])
 (.block 0 (.loop L78_1)))
 (.seq (.region [⟨some 18, .move (.tmp 0), none⟩, ⟨some 6, .move (.tmp 18), none⟩])
 (.ret)))
theorem light78 : Light Tryz.prog 78 3 19 L78 [.tmp 6] :=
  ⟨Tryz.f78, _, Tryz.func78, rfl, rfl, by kernel_rfl, by kernel_rfl, by decide⟩
def L79_1 : LCode :=
 .seq (.region [⟨some 9, .bin .lss (.tmp 8) (.tmp 7), none⟩])
 (.seq (.cond (.tmp 9) (.skip)
 (.exit 0))
 (.seq (.block 1 (.seq (.region [⟨some 10, .idx 1 (.tmp 6) (.tmp 8), none⟩, ⟨some 11, .load false 1 (.tmp 10), none⟩, ⟨some 5, .move (.tmp 11), none⟩])
 (.region [⟨some 12, .move (.tmp 3), none⟩, ⟨some 13, .move (.tmp 5), none⟩, ⟨some 14, .conv .u64 (.tmp 13), none⟩, ⟨some 15, .bin .xor (.tmp 12) (.tmp 14), none⟩, ⟨some 16, .bin .mul (.tmp 15) (.const (.int .u64 1099511628211)), none⟩, ⟨some 3, .move (.tmp 16), none⟩])))
 (.region [⟨some 17, .bin .add (.tmp 8) (.const (.int .i64 1)), none⟩, ⟨some 8, .move (.tmp 17), none⟩])))
def L79 : LCode :=
 .seq (.region [⟨some 2, .move (.const (.int .u64 0)), none⟩])
 (.seq (.region [⟨some 3, .move (.const (.int .u64 14695981039346656037)), none⟩])
 (.seq (.seq (.region [⟨some 6, .move (.tmp 0), none⟩, ⟨some 7, .len (.tmp 6), none⟩, ⟨some 8, .move (.const (.int .i64 0)), none⟩])
 (.block 0 (.loop L79_1)))
 (.seq (.region [⟨some 18, .move (.tmp 3), none⟩, ⟨some 2, .move (.tmp 18), none⟩])
 (.ret))))
theorem light79 : Light Tryz.prog 79 1 19 L79 [.tmp 2] :=
  ⟨Tryz.f79, _, Tryz.func79, rfl, rfl, by kernel_rfl, by kernel_rfl, by decide⟩
def L84_1 : LCode :=
 .seq (.region [⟨some 21, .bin .lss (.tmp 20) (.tmp 19), none⟩])
 (.seq (.cond (.tmp 21) (.skip)
 (.exit 0))
 (.seq (.block 1 (.seq (.region [⟨some 22, .idx 2 (.tmp 18) (.tmp 20), none⟩, ⟨some 23, .load true 2 (.tmp 22), none⟩, ⟨some 9, .new 98 2 [.int .i64 0, .int .i64 0], none⟩, ⟨none, .store 2 (.tmp 9) (.tmp 23), none⟩])
 (.seq (.seq (.region [⟨some 24, .off 0 (.tmp 9), none⟩, ⟨some 25, .load false 1 (.tmp 24), none⟩, ⟨some 26, .bin .lss (.tmp 25) (.const (.int .i64 0)), none⟩, ⟨some 27, .move (.tmp 26), none⟩, ⟨some 28, .off 0 (.tmp 9), (some (27, false))⟩, ⟨some 29, .load false 1 (.tmp 28), (some (27, false))⟩, ⟨some 30, .move (.tmp 0), (some (27, false))⟩, ⟨some 31, .bin .geq (.tmp 29) (.tmp 30), (some (27, false))⟩, ⟨some 32, .pick (.tmp 27) (.const (.bool true)) (.tmp 31), none⟩])
 (.cond (.tmp 32) (.seq (.region [⟨some 4, .move (.const (.slice none 0 0)), none⟩, ⟨some 5, .move (.const (.int .i64 131)), none⟩])
 (.ret))
 (.skip)))
 (.seq (.seq (.region [⟨some 33, .off 0 (.tmp 9), none⟩, ⟨some 34, .load false 1 (.tmp 33), none⟩, ⟨some 35, .idxArr 64 1 (.tmp 7) (.tmp 34), none⟩, ⟨some 36, .load false 1 (.tmp 35), none⟩])
 (.cond (.tmp 36) (.seq (.region [⟨some 4, .move (.const (.slice none 0 0)), none⟩, ⟨some 5, .move (.const (.int .i64 61)), none⟩])
 (.ret))
 (.skip)))
 (.seq (.region [⟨some 37, .off 0 (.tmp 9), none⟩, ⟨some 38, .load false 1 (.tmp 37), none⟩, ⟨some 39, .idxArr 64 1 (.tmp 7) (.tmp 38), none⟩, ⟨none, .store 1 (.tmp 39) (.const (.bool true)), none⟩])
 (.region [⟨some 40, .move (.tmp 6), none⟩, ⟨some 41, .off 0 (.tmp 9), none⟩, ⟨some 42, .load false 1 (.tmp 41), none⟩, ⟨some 43, .off 1 (.tmp 9), none⟩, ⟨some 44, .load false 1 (.tmp 43), none⟩, ⟨some 45, .idx 1 (.tmp 40) (.tmp 42), none⟩, ⟨none, .store 1 (.tmp 45) (.tmp 44), none⟩]))))))
 (.region [⟨some 46, .bin .add (.tmp 20) (.const (.int .i64 1)), none⟩, ⟨some 20, .move (.tmp 46), none⟩])))
def L84 : LCode :=
 .seq (.region [⟨some 4, .move (.const (.slice none 0 0)), none⟩, ⟨some 5, .move (.const (.int .i64 0)), none⟩])
 (.seq (.seq (.region [⟨some 10, .move (.tmp 0), none⟩, ⟨some 11, .bin .lss (.tmp 10) (.const (.int .i64 1)), none⟩, ⟨some 12, .move (.tmp 11), none⟩, ⟨some 13, .move (.tmp 0), (some (12, false))⟩, ⟨some 14, .bin .gtr (.tmp 13) (.const (.int .i64 64)), (some (12, false))⟩, ⟨some 15, .pick (.tmp 12) (.const (.bool true)) (.tmp 14), none⟩])
 (.cond (.tmp 15) (.seq (.region [⟨some 4, .move (.const (.slice none 0 0)), none⟩, ⟨some 5, .move (.const (.int .i64 130)), none⟩])
 (.ret))
 (.skip)))
 (.seq (.region [⟨some 16, .move (.tmp 0), none⟩, ⟨some 17, .make 2 1 8 [.int .i64 0] (.tmp 16) (.tmp 16), none⟩, ⟨some 6, .move (.tmp 17), none⟩])
 (.seq (.region [⟨some 7, .new 212 64 [.bool false, .bool false, .bool false, .bool false, .bool false, .bool false, .bool false, .bool false, .bool false, .bool false, .bool false, .bool false, .bool false, .bool false, .bool false, .bool false, .bool false, .bool false, .bool false, .bool false, .bool false, .bool false, .bool false, .bool false, .bool false, .bool false, .bool false, .bool false, .bool false, .bool false, .bool false, .bool false, .bool false, .bool false, .bool false, .bool false, .bool false, .bool false, .bool false, .bool false, .bool false, .bool false, .bool false, .bool false, .bool false, .bool false, .bool false, .bool false, .bool false, .bool false, .bool false, .bool false, .bool false, .bool false, .bool false, .bool false, .bool false, .bool false, .bool false, .bool false, .bool false, .bool false, .bool false, .bool false], none⟩])
 (.seq (.seq (.region [⟨some 18, .move (.tmp 1), none⟩, ⟨some 19, .len (.tmp 18), none⟩, ⟨some 20, .move (.const (.int .i64 0)), none⟩])
 (.block 0 (.loop L84_1)))
 (.seq (.region [⟨some 47, .move (.tmp 6), none⟩, ⟨some 4, .move (.tmp 47), none⟩, ⟨some 5, .move (.const (.int .i64 0)), none⟩])
 (.ret))))))
theorem light84 : Light Tryz.prog 84 2 48 L84 [.tmp 4, .tmp 5] :=
  ⟨Tryz.f84, _, Tryz.func84, rfl, rfl, by kernel_rfl, by kernel_rfl, by decide⟩
def L85_1 : LCode :=
 .seq (.region [⟨some 15, .bin .lss (.tmp 14) (.tmp 13), none⟩])
 (.seq (.cond (.tmp 15) (.skip)
 (.exit 0))
 (.seq (.block 1 (.seq (.region [⟨some 16, .idx 2 (.tmp 12) (.tmp 14), none⟩, ⟨some 17, .load true 2 (.tmp 16), none⟩, ⟨some 6, .new 101 2 [.int .i64 0, .int .i64 0], none⟩, ⟨none, .store 2 (.tmp 6) (.tmp 17), none⟩])
 (.seq (.seq (.region [⟨some 18, .off 0 (.tmp 6), none⟩, ⟨some 19, .load false 1 (.tmp 18), none⟩, ⟨some 20, .call 117 [.tmp 19], none⟩, ⟨some 21, .un .not (.tmp 20), none⟩])
 (.cond (.tmp 21) (.seq (.region [⟨some 2, .move (.const (.pointer none)), none⟩, ⟨some 3, .move (.const (.int .i64 140)), none⟩])
 (.ret))
 (.skip)))
 (.seq (.draw [⟨⟨some 22, .move (.tmp 4), none⟩, .pure, 0, 2⟩, ⟨⟨some 23, .move (.tmp 4), none⟩, .pure, 0, 1⟩, ⟨⟨some 24, .nilCheck (.tmp 23), none⟩, .pure, 0, 1⟩, ⟨⟨some 25, .off 0 (.tmp 24), none⟩, .pure, 0, 1⟩, ⟨⟨some 26, .load false 1 (.tmp 25), none⟩, .read, 0, 1⟩, ⟨⟨some 27, .off 0 (.tmp 6), none⟩, .pure, 0, 0⟩, ⟨⟨some 28, .load false 1 (.tmp 27), none⟩, .read, 0, 0⟩, ⟨⟨some 29, .buildSlice 99 1 1 [.int .i64 0] [(0, 1, .tmp 28)], none⟩, .heavy, 0, 1⟩, ⟨⟨some 30, .append 99 1 8 (.tmp 26) (.tmp 29), none⟩, .heavy, 1, 2⟩, ⟨⟨some 31, .nilCheck (.tmp 22), none⟩, .pure, 2, 2⟩, ⟨⟨some 32, .off 0 (.tmp 31), none⟩, .pure, 2, 2⟩, ⟨⟨none, .store 1 (.tmp 32) (.tmp 30), none⟩, .heavy, 2, 3⟩])
 (.draw [⟨⟨some 33, .move (.tmp 4), none⟩, .pure, 0, 3⟩, ⟨⟨some 34, .move (.tmp 4), none⟩, .pure, 0, 2⟩, ⟨⟨some 35, .nilCheck (.tmp 34), none⟩, .pure, 0, 2⟩, ⟨⟨some 36, .off 1 (.tmp 35), none⟩, .pure, 0, 2⟩, ⟨⟨some 37, .load false 1 (.tmp 36), none⟩, .read, 0, 2⟩, ⟨⟨some 38, .off 0 (.tmp 6), none⟩, .pure, 0, 0⟩, ⟨⟨some 39, .load false 1 (.tmp 38), none⟩, .read, 0, 0⟩, ⟨⟨some 40, .call 118 [.tmp 39], none⟩, .heavy, 0, 1⟩, ⟨⟨some 41, .buildSlice 2 1 1 [.int .i64 0] [(0, 1, .tmp 40)], none⟩, .heavy, 1, 2⟩, ⟨⟨some 42, .append 2 1 8 (.tmp 37) (.tmp 41), none⟩, .heavy, 2, 3⟩, ⟨⟨some 43, .nilCheck (.tmp 33), none⟩, .pure, 3, 3⟩, ⟨⟨some 44, .off 1 (.tmp 43), none⟩, .pure, 3, 3⟩, ⟨⟨none, .store 1 (.tmp 44) (.tmp 42), none⟩, .heavy, 3, 4⟩])))))
 (.region [⟨some 45, .bin .add (.tmp 14) (.const (.int .i64 1)), none⟩, ⟨some 14, .move (.tmp 45), none⟩])))
def L85 : LCode :=
 .seq (.region [⟨some 2, .move (.const (.pointer none)), none⟩, ⟨some 3, .move (.const (.int .i64 0)), none⟩])
 (.seq (.seq (.region [⟨some 7, .move (.tmp 0), none⟩, ⟨some 8, .len (.tmp 7), none⟩, ⟨some 9, .bin .gtr (.tmp 8) (.const (.int .i64 4)), none⟩])
 (.cond (.tmp 9) (.seq (.region [⟨some 2, .move (.const (.pointer none)), none⟩, ⟨some 3, .move (.const (.int .i64 171)), none⟩])
 (.ret))
 (.skip)))
 (.seq (.region [⟨some 10, .build [.slice none 0 0, .slice none 0 0, .int .i64 0] [], none⟩, ⟨some 11, .box 229 3 (.tmp 10), none⟩, ⟨some 4, .move (.tmp 11), none⟩])
 (.seq (.seq (.region [⟨some 12, .move (.tmp 0), none⟩, ⟨some 13, .len (.tmp 12), none⟩, ⟨some 14, .move (.const (.int .i64 0)), none⟩])
 (.block 0 (.loop L85_1)))
 (.seq (.region [⟨some 46, .move (.tmp 4), none⟩, ⟨some 2, .move (.tmp 46), none⟩, ⟨some 3, .move (.const (.int .i64 0)), none⟩])
 (.ret)))))
theorem light85 : Light Tryz.prog 85 1 47 L85 [.tmp 2, .tmp 3] :=
  ⟨Tryz.f85, _, Tryz.func85, rfl, rfl, by kernel_rfl, by kernel_rfl, by decide⟩
def L86 : LCode :=
 .seq (.region [⟨some 1, .box 26 6 (.tmp 0), none⟩, ⟨some 2, .move (.const (.int .i64 0)), none⟩])
 (.seq (.seq (.region [⟨some 3, .off 0 (.tmp 1), none⟩, ⟨some 4, .load false 1 (.tmp 3), none⟩, ⟨some 5, .bin .eql (.tmp 4) (.const (.int .i64 2)), none⟩])
 (.cond (.tmp 5) (.seq (.region [⟨some 6, .off 5 (.tmp 1), none⟩, ⟨some 7, .load false 1 (.tmp 6), none⟩, ⟨some 2, .move (.tmp 7), none⟩])
 (.ret))
 (.skip)))
 (.seq (.region [⟨some 2, .move (.const (.int .i64 1)), none⟩])
 (.ret)))
theorem light86 : Light Tryz.prog 86 1 8 L86 [.tmp 2] :=
  ⟨Tryz.f86, _, Tryz.func86, rfl, rfl, by kernel_rfl, by kernel_rfl, by decide⟩
def L87_1 : LCode :=
 .seq (.region [⟨some 21, .bin .lss (.tmp 20) (.tmp 19), none⟩])
 (.seq (.cond (.tmp 21) (.skip)
 (.exit 0))
 (.seq (.block 1 (.seq (.region [⟨some 22, .move (.tmp 20), none⟩, ⟨some 23, .idx 6 (.tmp 18) (.tmp 20), none⟩, ⟨some 24, .load true 6 (.tmp 23), none⟩, ⟨some 7, .new 113 6 [.int .i64 0, .int .i64 0, .int .i64 0, .int .i64 0, .int .i64 0, .int .i64 0], none⟩, ⟨some 6, .move (.tmp 22), none⟩, ⟨none, .store 6 (.tmp 7) (.tmp 24), none⟩])
 (.seq (.region [⟨some 25, .load true 6 (.tmp 7), none⟩, ⟨some 26, .move (.tmp 1), none⟩, ⟨some 27, .move (.tmp 0), none⟩, ⟨some 28, .len (.tmp 27), none⟩, ⟨some 29, .call 119 [.tmp 25, .tmp 26, .tmp 28], none⟩, ⟨some 8, .move (.tmp 29), none⟩])
 (.seq (.region [⟨some 30, .move (.tmp 8), none⟩, ⟨some 31, .bin .neq (.tmp 30) (.const (.int .i64 0)), none⟩])
 (.cond (.tmp 31) (.seq (.region [⟨some 32, .move (.tmp 6), none⟩, ⟨some 33, .move (.tmp 8), none⟩, ⟨some 4, .move (.tmp 32), none⟩, ⟨some 5, .move (.tmp 33), none⟩])
 (.ret))
 (.skip))))))
 (.region [⟨some 34, .bin .add (.tmp 20) (.const (.int .i64 1)), none⟩, ⟨some 20, .move (.tmp 34), none⟩])))
def L87 : LCode :=
 .seq (.region [⟨some 4, .move (.const (.int .i64 0)), none⟩, ⟨some 5, .move (.const (.int .i64 0)), none⟩])
 (.seq (.seq (.region [⟨some 10, .move (.tmp 0), none⟩, ⟨some 11, .len (.tmp 10), none⟩, ⟨some 12, .bin .eql (.tmp 11) (.const (.int .i64 0)), none⟩, ⟨some 13, .move (.tmp 12), none⟩, ⟨some 14, .move (.tmp 0), (some (13, false))⟩, ⟨some 15, .len (.tmp 14), (some (13, false))⟩, ⟨some 16, .bin .gtr (.tmp 15) (.const (.int .i64 600)), (some (13, false))⟩, ⟨some 17, .pick (.tmp 13) (.const (.bool true)) (.tmp 16), none⟩])
 (.cond (.tmp 17) (.seq (.region [⟨some 4, .move (.const (.int .i64 0)), none⟩, ⟨some 5, .move (.const (.int .i64 80)), none⟩])
 (.ret))
 (.skip)))
 (.seq (.seq (.region [⟨some 18, .move (.tmp 0), none⟩, ⟨some 19, .len (.tmp 18), none⟩, ⟨some 20, .move (.const (.int .i64 0)), none⟩])
 (.block 0 (.loop L87_1)))
 (.seq (.region [⟨some 35, .move (.tmp 0), none⟩, ⟨some 36, .len (.tmp 35), none⟩, ⟨some 37, .bin .sub (.tmp 36) (.const (.int .i64 1)), none⟩, ⟨some 9, .move (.tmp 37), none⟩])
 (.seq (.seq (.region [⟨some 38, .move (.tmp 0), none⟩, ⟨some 39, .move (.tmp 9), none⟩, ⟨some 40, .idx 6 (.tmp 38) (.tmp 39), none⟩, ⟨some 41, .load true 6 (.tmp 40), none⟩, ⟨some 42, .call 120 [.tmp 41], none⟩])
 (.cond (.tmp 42) (.seq (.region [⟨some 43, .move (.tmp 9), none⟩, ⟨some 4, .move (.tmp 43), none⟩, ⟨some 5, .move (.const (.int .i64 85)), none⟩])
 (.ret))
 (.skip)))
 (.seq (.region [⟨some 4, .move (.const (.int .i64 0)), none⟩, ⟨some 5, .move (.const (.int .i64 0)), none⟩])
 (.ret))))))
theorem light87 : Light Tryz.prog 87 2 44 L87 [.tmp 4, .tmp 5] :=
  ⟨Tryz.f87, _, Tryz.func87, rfl, rfl, by kernel_rfl, by kernel_rfl, by decide⟩
def L92_1 : LCode :=
 .seq (.seq (.region [⟨some 8, .move (.tmp 4), none⟩, ⟨some 9, .bin .geq (.tmp 8) (.const (.int .i64 0)), none⟩])
 (.cond (.tmp 9) (.skip)
 (.exit 0)))
 (.seq (.block 1 (.region [⟨some 12, .move (.tmp 3), none⟩, ⟨some 13, .bin .shl (.tmp 12) (.const (.int .u64 8)), none⟩, ⟨some 14, .move (.tmp 0), none⟩, ⟨some 15, .move (.tmp 4), none⟩, ⟨some 16, .idx 1 (.tmp 14) (.tmp 15), none⟩, ⟨some 17, .load false 1 (.tmp 16), none⟩, ⟨some 18, .conv .u64 (.tmp 17), none⟩, ⟨some 19, .bin .or (.tmp 13) (.tmp 18), none⟩, ⟨some 3, .move (.tmp 19), none⟩]))
 (.region [⟨some 10, .move (.tmp 4), none⟩, ⟨some 11, .bin .sub (.tmp 10) (.const (.int .i64 1)), none⟩, ⟨some 4, .move (.tmp 11), none⟩]))
def L92 : LCode :=
 .seq (.region [⟨some 2, .move (.const (.int .u64 0)), none⟩])
 (.seq (.region [⟨some 3, .move (.const (.int .u64 0)), none⟩])
 (.seq (.seq (.region [⟨some 5, .move (.tmp 0), none⟩, ⟨some 6, .len (.tmp 5), none⟩, ⟨some 7, .bin .sub (.tmp 6) (.const (.int .i64 1)), none⟩, ⟨some 4, .move (.tmp 7), none⟩])
 (.block 0 (.loop L92_1)))
 (.seq (.region [⟨some 20, .move (.tmp 3), none⟩, ⟨some 2, .move (.tmp 20), none⟩])
 (.ret))))
theorem light92 : Light Tryz.prog 92 1 21 L92 [.tmp 2] :=
  ⟨Tryz.f92, _, Tryz.func92, rfl, rfl, by kernel_rfl, by kernel_rfl, by decide⟩
def L93 : LCode :=
 .seq (.region [⟨some 2, .move (.const (.int .u8 0)), none⟩])
 (.seq (.seq (.draw [⟨⟨some 3, .move (.tmp 0), none⟩, .pure, 0, 0⟩, ⟨⟨some 4, .nilCheck (.tmp 3), none⟩, .pure, 0, 0⟩, ⟨⟨some 5, .off 2 (.tmp 4), none⟩, .pure, 0, 0⟩, ⟨⟨some 6, .load false 1 (.tmp 5), none⟩, .read, 0, 0⟩, ⟨⟨some 7, .bin .eql (.tmp 6) (.const (.int .i64 0)), none⟩, .pure, 0, 0⟩, ⟨⟨some 8, .move (.tmp 7), none⟩, .pure, 0, 0⟩, ⟨⟨some 9, .move (.tmp 0), (some (8, true))⟩, .pure, 0, 0⟩, ⟨⟨some 10, .nilCheck (.tmp 9), (some (8, true))⟩, .pure, 0, 0⟩, ⟨⟨some 11, .off 1 (.tmp 10), (some (8, true))⟩, .pure, 0, 0⟩, ⟨⟨some 12, .load false 1 (.tmp 11), (some (8, true))⟩, .read, 0, 0⟩, ⟨⟨some 13, .move (.tmp 0), (some (8, true))⟩, .pure, 0, 0⟩, ⟨⟨some 14, .nilCheck (.tmp 13), (some (8, true))⟩, .pure, 0, 0⟩, ⟨⟨some 15, .off 0 (.tmp 14), (some (8, true))⟩, .pure, 0, 0⟩, ⟨⟨some 16, .load false 1 (.tmp 15), (some (8, true))⟩, .read, 0, 0⟩, ⟨⟨some 17, .len (.tmp 16), (some (8, true))⟩, .pure, 0, 0⟩, ⟨⟨some 18, .bin .eql (.tmp 12) (.tmp 17), (some (8, true))⟩, .pure, 0, 0⟩, ⟨⟨some 19, .pick (.tmp 8) (.tmp 18) (.const (.bool false)), none⟩, .pure, 0, 0⟩])
 (.cond (.tmp 19) (.region [⟨some 20, .move (.tmp 0), none⟩, ⟨some 21, .call 94 [.tmp 20, .const (.int .i64 20)], none⟩])
 (.skip)))
 (.seq (.seq (.region [⟨some 22, .move (.tmp 0), none⟩, ⟨some 23, .nilCheck (.tmp 22), none⟩, ⟨some 24, .off 2 (.tmp 23), none⟩, ⟨some 25, .load false 1 (.tmp 24), none⟩, ⟨some 26, .bin .neq (.tmp 25) (.const (.int .i64 0)), none⟩])
 (.cond (.tmp 26) (.seq (.region [⟨some 2, .move (.const (.int .u8 0)), none⟩])
 (.ret))
 (.skip)))
 (.seq (.region [⟨some 27, .move (.tmp 0), none⟩, ⟨some 28, .nilCheck (.tmp 27), none⟩, ⟨some 29, .off 1 (.tmp 28), none⟩, ⟨some 30, .load false 1 (.tmp 29), none⟩, ⟨some 31, .bin .add (.tmp 30) (.const (.int .i64 1)), none⟩, ⟨some 32, .nilCheck (.tmp 27), none⟩, ⟨some 33, .off 1 (.tmp 32), none⟩, ⟨none, .store 1 (.tmp 33) (.tmp 31), none⟩])
 (.seq (.draw [⟨⟨some 34, .move (.tmp 0), none⟩, .pure, 0, 0⟩, ⟨⟨some 35, .nilCheck (.tmp 34), none⟩, .pure, 0, 0⟩, ⟨⟨some 36, .off 0 (.tmp 35), none⟩, .pure, 0, 0⟩, ⟨⟨some 37, .load false 1 (.tmp 36), none⟩, .read, 0, 0⟩, ⟨⟨some 38, .move (.tmp 0), none⟩, .pure, 0, 0⟩, ⟨⟨some 39, .nilCheck (.tmp 38), none⟩, .pure, 0, 0⟩, ⟨⟨some 40, .off 1 (.tmp 39), none⟩, .pure, 0, 0⟩, ⟨⟨some 41, .load false 1 (.tmp 40), none⟩, .read, 0, 0⟩, ⟨⟨some 42, .bin .sub (.tmp 41) (.const (.int .i64 1)), none⟩, .pure, 0, 0⟩, ⟨⟨some 43, .idx 1 (.tmp 37) (.tmp 42), none⟩, .pure, 0, 0⟩, ⟨⟨some 44, .load false 1 (.tmp 43), none⟩, .read, 0, 0⟩, ⟨⟨some 2, .move (.tmp 44), none⟩, .pure, 0, 0⟩])
 (.ret)))))
theorem light93 : Light Tryz.prog 93 1 45 L93 [.tmp 2] :=
  ⟨Tryz.f93, _, Tryz.func93, rfl, rfl, by kernel_rfl, by kernel_rfl, by decide⟩
def L94 : LCode :=
 .seq (.region [⟨some 4, .move (.tmp 0), none⟩, ⟨some 5, .nilCheck (.tmp 4), none⟩, ⟨some 6, .off 2 (.tmp 5), none⟩, ⟨some 7, .load false 1 (.tmp 6), none⟩, ⟨some 8, .bin .eql (.tmp 7) (.const (.int .i64 0)), none⟩])
 (.cond (.tmp 8) (.region [⟨some 9, .move (.tmp 0), none⟩, ⟨some 10, .move (.tmp 1), none⟩, ⟨some 11, .nilCheck (.tmp 9), none⟩, ⟨some 12, .off 2 (.tmp 11), none⟩, ⟨none, .store 1 (.tmp 12) (.tmp 10), none⟩])
 (.skip))
theorem light94 : Light Tryz.prog 94 2 13 L94 [] :=
  ⟨Tryz.f94, _, Tryz.func94, rfl, rfl, by kernel_rfl, by kernel_rfl, by decide⟩
def L95 : LCode :=
 .seq (.region [⟨some 4, .move (.const (.int .i64 0)), none⟩])
 (.seq (.region [⟨some 6, .move (.tmp 0), none⟩, ⟨some 7, .call 50 [.tmp 6], none⟩, ⟨some 5, .move (.tmp 7), none⟩])
 (.seq (.seq (.region [⟨some 8, .move (.tmp 5), none⟩, ⟨some 9, .move (.tmp 0), none⟩, ⟨some 10, .call 123 [.tmp 9], none⟩, ⟨some 11, .conv .u64 (.tmp 10), none⟩, ⟨some 12, .move (.tmp 1), none⟩, ⟨some 13, .minmax true (.tmp 12) [.const (.int .i64 1)], none⟩, ⟨some 14, .conv .u64 (.tmp 13), none⟩, ⟨some 15, .bin .quo (.tmp 11) (.tmp 14), none⟩, ⟨some 16, .bin .gtr (.tmp 8) (.tmp 15), none⟩])
 (.cond (.tmp 16) (.seq (.region [⟨some 17, .move (.tmp 0), none⟩, ⟨some 18, .call 94 [.tmp 17, .const (.int .i64 20)], none⟩])
 (.seq (.region [⟨some 4, .move (.const (.int .i64 0)), none⟩])
 (.ret)))
 (.skip)))
 (.seq (.region [⟨some 19, .move (.tmp 5), none⟩, ⟨some 20, .conv .i64 (.tmp 19), none⟩, ⟨some 4, .move (.tmp 20), none⟩])
 (.ret))))
theorem light95 : Light Tryz.prog 95 2 21 L95 [.tmp 4] :=
  ⟨Tryz.f95, _, Tryz.func95, rfl, rfl, by kernel_rfl, by kernel_rfl, by decide⟩
def L96 : LCode :=
 .seq (.region [⟨some 2, .move (.const (.int .i64 0)), none⟩])
 (.seq (.region [⟨some 4, .move (.tmp 0), none⟩, ⟨some 5, .call 50 [.tmp 4], none⟩, ⟨some 3, .move (.tmp 5), none⟩])
 (.seq (.region [⟨some 6, .move (.tmp 3), none⟩, ⟨some 7, .bin .shr (.tmp 6) (.const (.int .u64 1)), none⟩, ⟨some 8, .conv .i64 (.tmp 7), none⟩, ⟨some 9, .move (.tmp 3), none⟩, ⟨some 10, .bin .and (.tmp 9) (.const (.int .u64 1)), none⟩, ⟨some 11, .conv .i64 (.tmp 10), none⟩, ⟨some 12, .un .neg (.tmp 11), none⟩, ⟨some 13, .bin .xor (.tmp 8) (.tmp 12), none⟩, ⟨some 2, .move (.tmp 13), none⟩])
 (.ret)))
theorem light96 : Light Tryz.prog 96 1 14 L96 [.tmp 2] :=
  ⟨Tryz.f96, _, Tryz.func96, rfl, rfl, by kernel_rfl, by kernel_rfl, by decide⟩
def L97_1 : LCode :=
 .seq (.region [⟨some 9, .bin .lss (.tmp 8) (.tmp 7), none⟩])
 (.seq (.cond (.tmp 9) (.skip)
 (.exit 0))
 (.seq (.block 1 (.region [⟨some 10, .move (.tmp 4), none⟩, ⟨some 11, .move (.tmp 0), none⟩, ⟨some 12, .call 96 [.tmp 11], none⟩, ⟨some 13, .buildSlice 2 1 1 [.int .i64 0] [(0, 1, .tmp 12)], none⟩, ⟨some 14, .append 2 1 8 (.tmp 10) (.tmp 13), none⟩, ⟨some 4, .move (.tmp 14), none⟩]))
 (.region [⟨some 15, .bin .add (.tmp 8) (.const (.int .i64 1)), none⟩, ⟨some 8, .move (.tmp 15), none⟩])))
def L97 : LCode :=
 .seq (.region [⟨some 2, .move (.const (.slice none 0 0)), none⟩])
 (.seq (.region [⟨some 5, .move (.tmp 0), none⟩, ⟨some 6, .call 95 [.tmp 5, .const (.int .i64 1)], none⟩, ⟨some 3, .move (.tmp 6), none⟩])
 (.seq (.region [⟨some 4, .move (.const (.slice none 0 0)), none⟩])
 (.seq (.seq (.region [⟨some 7, .move (.tmp 3), none⟩, ⟨some 8, .move (.const (.int .i64 0)), none⟩])
 (.block 0 (.loop L97_1)))
 (.seq (.seq (.region [⟨some 16, .move (.tmp 0), none⟩, ⟨some 17, .nilCheck (.tmp 16), none⟩, ⟨some 18, .off 2 (.tmp 17), none⟩, ⟨some 19, .load false 1 (.tmp 18), none⟩, ⟨some 20, .bin .neq (.tmp 19) (.const (.int .i64 0)), none⟩])
 (.cond (.tmp 20) (.seq (.region [⟨some 2, .move (.const (.slice none 0 0)), none⟩])
 (.ret))
 (.skip)))
 (.seq (.region [⟨some 21, .move (.tmp 4), none⟩, ⟨some 2, .move (.tmp 21), none⟩])
 (.ret))))))
theorem light97 : Light Tryz.prog 97 1 22 L97 [.tmp 2] :=
  ⟨Tryz.f97, _, Tryz.func97, rfl, rfl, by kernel_rfl, by kernel_rfl, by decide⟩
def L98 : LCode :=
 .seq (.region [⟨some 2, .move (.const (.string ByteArray.empty)), none⟩])
 (.seq (.region [⟨some 4, .move (.tmp 0), none⟩, ⟨some 5, .call 95 [.tmp 4, .const (.int .i64 1)], none⟩, ⟨some 3, .move (.tmp 5), none⟩])
 (.seq (.seq (.region [⟨some 6, .move (.tmp 0), none⟩, ⟨some 7, .nilCheck (.tmp 6), none⟩, ⟨some 8, .off 2 (.tmp 7), none⟩, ⟨some 9, .load false 1 (.tmp 8), none⟩, ⟨some 10, .bin .neq (.tmp 9) (.const (.int .i64 0)), none⟩])
 (.cond (.tmp 10) (.seq (.region [⟨some 2, .move (.const (.string ByteArray.empty)), none⟩])
 (.ret))
 (.skip)))
 (.seq (.region [⟨some 11, .move (.tmp 0), none⟩, ⟨some 12, .nilCheck (.tmp 11), none⟩, ⟨some 13, .off 1 (.tmp 12), none⟩, ⟨some 14, .load false 1 (.tmp 13), none⟩, ⟨some 15, .move (.tmp 3), none⟩, ⟨some 16, .bin .add (.tmp 14) (.tmp 15), none⟩, ⟨some 17, .nilCheck (.tmp 11), none⟩, ⟨some 18, .off 1 (.tmp 17), none⟩, ⟨none, .store 1 (.tmp 18) (.tmp 16), none⟩])
 (.seq (.draw [⟨⟨some 19, .move (.tmp 0), none⟩, .pure, 0, 0⟩, ⟨⟨some 20, .nilCheck (.tmp 19), none⟩, .pure, 0, 0⟩, ⟨⟨some 21, .off 0 (.tmp 20), none⟩, .pure, 0, 0⟩, ⟨⟨some 22, .load false 1 (.tmp 21), none⟩, .read, 0, 0⟩, ⟨⟨some 23, .move (.tmp 0), none⟩, .pure, 0, 0⟩, ⟨⟨some 24, .nilCheck (.tmp 23), none⟩, .pure, 0, 0⟩, ⟨⟨some 25, .off 1 (.tmp 24), none⟩, .pure, 0, 0⟩, ⟨⟨some 26, .load false 1 (.tmp 25), none⟩, .read, 0, 0⟩, ⟨⟨some 27, .move (.tmp 3), none⟩, .pure, 0, 0⟩, ⟨⟨some 28, .bin .sub (.tmp 26) (.tmp 27), none⟩, .pure, 0, 0⟩, ⟨⟨some 29, .move (.tmp 0), none⟩, .pure, 0, 0⟩, ⟨⟨some 30, .nilCheck (.tmp 29), none⟩, .pure, 0, 0⟩, ⟨⟨some 31, .off 1 (.tmp 30), none⟩, .pure, 0, 0⟩, ⟨⟨some 32, .load false 1 (.tmp 31), none⟩, .read, 0, 0⟩, ⟨⟨some 33, .move (.tmp 0), none⟩, .pure, 0, 0⟩, ⟨⟨some 34, .nilCheck (.tmp 33), none⟩, .pure, 0, 0⟩, ⟨⟨some 35, .off 1 (.tmp 34), none⟩, .pure, 0, 0⟩, ⟨⟨some 36, .load false 1 (.tmp 35), none⟩, .read, 0, 0⟩, ⟨⟨some 37, .slice 1 (.tmp 22) (some (.tmp 28)) (some (.tmp 32)) (some (.tmp 36)), none⟩, .pure, 0, 0⟩, ⟨⟨some 38, .toStr (.tmp 37), none⟩, .read, 0, 0⟩, ⟨⟨some 2, .move (.tmp 38), none⟩, .pure, 0, 0⟩])
 (.ret)))))
theorem light98 : Light Tryz.prog 98 1 39 L98 [.tmp 2] :=
  ⟨Tryz.f98, _, Tryz.func98, rfl, rfl, by kernel_rfl, by kernel_rfl, by decide⟩
def L99_1 : LCode :=
 .seq (.region [⟨some 69, .bin .lss (.tmp 68) (.tmp 67), none⟩])
 (.seq (.cond (.tmp 69) (.skip)
 (.exit 2))
 (.seq (.block 3 (.seq (.region [⟨some 70, .idx 2 (.tmp 66) (.tmp 68), none⟩, ⟨some 71, .load true 2 (.tmp 70), none⟩, ⟨some 14, .new 237 2 [.bool false, .pointer none], none⟩, ⟨none, .store 2 (.tmp 14) (.tmp 71), none⟩])
 (.seq (.region [⟨some 72, .off 0 (.tmp 14), none⟩, ⟨some 73, .load false 1 (.tmp 72), none⟩])
 (.cond (.tmp 73) (.draw [⟨⟨some 74, .off 1 (.tmp 14), none⟩, .pure, 0, 1⟩, ⟨⟨some 75, .load false 1 (.tmp 74), none⟩, .read, 0, 1⟩, ⟨⟨some 76, .move (.tmp 6), none⟩, .pure, 0, 0⟩, ⟨⟨some 77, .call 124 [.tmp 76], none⟩, .heavy, 0, 1⟩, ⟨⟨some 78, .nilCheck (.tmp 75), none⟩, .pure, 1, 1⟩, ⟨⟨none, .store 1 (.tmp 78) (.tmp 77), none⟩, .heavy, 1, 2⟩])
 (.skip)))))
 (.region [⟨some 79, .bin .add (.tmp 68) (.const (.int .i64 1)), none⟩, ⟨some 68, .move (.tmp 79), none⟩])))
def L99_2 : LCode :=
 .seq (.region [⟨some 24, .bin .lss (.tmp 23) (.tmp 22), none⟩])
 (.seq (.cond (.tmp 24) (.skip)
 (.exit 0))
 (.seq (.block 1 (.seq (.region [⟨some 25, .move (.tmp 6), none⟩, ⟨some 26, .call 124 [.tmp 25], none⟩, ⟨some 27, .build [.int .i64 0, .int .i64 0, .int .i64 0, .int .i64 0, .int .i64 0, .int .i64 0] [(0, 1, .tmp 26)], none⟩, ⟨some 9, .new 113 6 [.int .i64 0, .int .i64 0, .int .i64 0, .int .i64 0, .int .i64 0, .int .i64 0], none⟩, ⟨none, .store 6 (.tmp 9) (.tmp 27), none⟩])
 (.seq (.region [⟨some 29, .off 0 (.tmp 9), none⟩, ⟨some 30, .load false 1 (.tmp 29), none⟩, ⟨some 31, .call 114 [.tmp 30], none⟩, ⟨some 28, .move (.tmp 31), none⟩, ⟨some 32, .extract (.tmp 28) 0, none⟩, ⟨some 33, .extract (.tmp 28) 1, none⟩, ⟨some 10, .new 219 8 [.bool false, .bool false, .bool false, .bool false, .bool false, .bool false, .bool false, .bool false], none⟩, ⟨none, .store 8 (.tmp 10) (.tmp 32), none⟩, ⟨some 11, .move (.tmp 33), none⟩])
 (.seq (.seq (.region [⟨some 34, .move (.tmp 6), none⟩, ⟨some 35, .call 51 [.tmp 34], none⟩, ⟨some 12, .move (.tmp 35), none⟩])
 (.seq (.region [⟨some 36, .move (.tmp 12), none⟩, ⟨some 37, .bin .neq (.tmp 36) (.const (.int .i64 0)), none⟩])
 (.cond (.tmp 37) (.seq (.region [⟨some 38, .move (.tmp 12), none⟩, ⟨some 4, .move (.const (.slice none 0 0)), none⟩, ⟨some 5, .move (.tmp 38), none⟩])
 (.ret))
 (.skip))))
 (.seq (.seq (.region [⟨some 39, .move (.tmp 11), none⟩, ⟨some 40, .un .not (.tmp 39), none⟩])
 (.cond (.tmp 40) (.seq (.region [⟨some 4, .move (.const (.slice none 0 0)), none⟩, ⟨some 5, .move (.const (.int .i64 21)), none⟩])
 (.ret))
 (.skip)))
 (.seq (.seq (.region [⟨some 41, .off 6 (.tmp 10), none⟩, ⟨some 42, .load false 1 (.tmp 41), none⟩, ⟨some 43, .move (.tmp 42), none⟩, ⟨some 44, .off 7 (.tmp 10), (some (43, false))⟩, ⟨some 45, .load false 1 (.tmp 44), (some (43, false))⟩, ⟨some 46, .pick (.tmp 43) (.const (.bool true)) (.tmp 45), none⟩])
 (.cond (.tmp 46) (.region [⟨some 47, .move (.tmp 6), none⟩, ⟨some 48, .call 124 [.tmp 47], none⟩, ⟨some 49, .off 1 (.tmp 9), none⟩, ⟨none, .store 1 (.tmp 49) (.tmp 48), none⟩])
 (.skip)))
 (.seq (.seq (.region [⟨some 50, .off 0 (.tmp 10), none⟩, ⟨some 51, .load false 1 (.tmp 50), none⟩, ⟨some 52, .off 2 (.tmp 9), none⟩, ⟨some 53, .build [.bool false, .pointer none] [(0, 1, .tmp 51), (1, 1, .tmp 52)], none⟩, ⟨some 54, .off 1 (.tmp 10), none⟩, ⟨some 55, .load false 1 (.tmp 54), none⟩, ⟨some 56, .off 3 (.tmp 9), none⟩, ⟨some 57, .build [.bool false, .pointer none] [(0, 1, .tmp 55), (1, 1, .tmp 56)], none⟩, ⟨some 58, .off 2 (.tmp 10), none⟩, ⟨some 59, .load false 1 (.tmp 58), none⟩, ⟨some 60, .move (.tmp 59), none⟩, ⟨some 61, .off 3 (.tmp 10), (some (60, false))⟩, ⟨some 62, .load false 1 (.tmp 61), (some (60, false))⟩, ⟨some 63, .pick (.tmp 60) (.const (.bool true)) (.tmp 62), none⟩, ⟨some 64, .off 4 (.tmp 9), none⟩, ⟨some 65, .build [.bool false, .pointer none] [(0, 1, .tmp 63), (1, 1, .tmp 64)], none⟩, ⟨some 66, .buildSlice 237 2 3 [.bool false, .pointer none] [(0, 2, .tmp 53), (2, 2, .tmp 57), (4, 2, .tmp 65)], none⟩, ⟨some 67, .len (.tmp 66), none⟩, ⟨some 68, .move (.const (.int .i64 0)), none⟩])
 (.block 2 (.loop L99_1)))
 (.seq (.seq (.region [⟨some 80, .off 4 (.tmp 10), none⟩, ⟨some 81, .load false 1 (.tmp 80), none⟩])
 (.cond (.tmp 81) (.region [⟨some 82, .move (.tmp 6), none⟩, ⟨some 83, .call 96 [.tmp 82], none⟩, ⟨some 84, .off 5 (.tmp 9), none⟩, ⟨none, .store 1 (.tmp 84) (.tmp 83), none⟩])
 (.skip)))
 (.region [⟨some 85, .move (.tmp 8), none⟩, ⟨some 86, .load true 6 (.tmp 9), none⟩, ⟨some 87, .buildSlice 113 6 1 [.int .i64 0, .int .i64 0, .int .i64 0, .int .i64 0, .int .i64 0, .int .i64 0] [(0, 6, .tmp 86)], none⟩, ⟨some 88, .append 113 6 48 (.tmp 85) (.tmp 87), none⟩, ⟨some 8, .move (.tmp 88), none⟩])))))))))
 (.region [⟨some 89, .bin .add (.tmp 23) (.const (.int .i64 1)), none⟩, ⟨some 23, .move (.tmp 89), none⟩])))
def L99 : LCode :=
 .seq (.region [⟨some 4, .move (.const (.slice none 0 0)), none⟩, ⟨some 5, .move (.const (.int .i64 0)), none⟩])
 (.seq (.region [⟨some 18, .move (.tmp 0), none⟩, ⟨some 19, .call 49 [.tmp 18], none⟩, ⟨some 6, .move (.tmp 19), none⟩])
 (.seq (.region [⟨some 20, .move (.tmp 6), none⟩, ⟨some 21, .call 95 [.tmp 20, .const (.int .i64 1)], none⟩, ⟨some 7, .move (.tmp 21), none⟩])
 (.seq (.region [⟨some 8, .move (.const (.slice none 0 0)), none⟩])
 (.seq (.seq (.region [⟨some 22, .move (.tmp 7), none⟩, ⟨some 23, .move (.const (.int .i64 0)), none⟩])
 (.block 0 (.loop L99_2)))
 (.seq (.seq (.region [⟨some 90, .move (.tmp 6), none⟩, ⟨some 91, .call 57 [.tmp 90], none⟩, ⟨some 15, .move (.tmp 91), none⟩])
 (.seq (.region [⟨some 92, .move (.tmp 15), none⟩, ⟨some 93, .bin .neq (.tmp 92) (.const (.int .i64 0)), none⟩])
 (.cond (.tmp 93) (.seq (.region [⟨some 94, .move (.tmp 15), none⟩, ⟨some 4, .move (.const (.slice none 0 0)), none⟩, ⟨some 5, .move (.tmp 94), none⟩])
 (.ret))
 (.skip))))
 (.seq (.seq (.region [⟨some 96, .move (.tmp 8), none⟩, ⟨some 97, .move (.tmp 1), none⟩, ⟨some 98, .call 87 [.tmp 96, .tmp 97], none⟩, ⟨some 95, .move (.tmp 98), none⟩, ⟨some 99, .extract (.tmp 95) 0, none⟩, ⟨some 100, .extract (.tmp 95) 1, none⟩, ⟨some 16, .move (.tmp 99), none⟩, ⟨some 17, .move (.tmp 100), none⟩])
 (.seq (.region [⟨some 101, .move (.tmp 17), none⟩, ⟨some 102, .bin .neq (.tmp 101) (.const (.int .i64 0)), none⟩])
 (.cond (.tmp 102) (.seq (.region [⟨some 103, .move (.tmp 17), none⟩, ⟨some 4, .move (.const (.slice none 0 0)), none⟩, ⟨some 5, .move (.tmp 103), none⟩])
 (.ret))
 (.skip))))
 (.seq (.region [⟨some 104, .move (.tmp 8), none⟩, ⟨some 4, .move (.tmp 104), none⟩, ⟨some 5, .move (.const (.int .i64 0)), none⟩])
 (.ret))))))))
theorem light99 : Light Tryz.prog 99 2 105 L99 [.tmp 4, .tmp 5] :=
  ⟨Tryz.f99, _, Tryz.func99, rfl, rfl, by kernel_rfl, by kernel_rfl, by decide⟩
def L100_1 : LCode :=
 .seq (.seq (.region [⟨some 11, .move (.tmp 5), none⟩, ⟨some 12, .move (.tmp 0), none⟩, ⟨some 13, .len (.tmp 12), none⟩, ⟨some 14, .bin .lss (.tmp 11) (.tmp 13), none⟩])
 (.cond (.tmp 14) (.skip)
 (.exit 0)))
 (.seq (.block 1 (.seq (.draw [⟨⟨some 17, .move (.tmp 0), none⟩, .pure, 0, 0⟩, ⟨⟨some 18, .move (.tmp 5), none⟩, .pure, 0, 0⟩, ⟨⟨some 19, .idx 2 (.tmp 17) (.tmp 18), none⟩, .pure, 0, 0⟩, ⟨⟨some 20, .load true 2 (.tmp 19), none⟩, .read, 0, 0⟩, ⟨⟨some 21, .move (.tmp 1), none⟩, .pure, 0, 0⟩, ⟨⟨some 22, .move (.tmp 5), none⟩, .pure, 0, 0⟩, ⟨⟨some 23, .idx 2 (.tmp 21) (.tmp 22), none⟩, .pure, 0, 0⟩, ⟨⟨some 24, .load true 2 (.tmp 23), none⟩, .read, 0, 0⟩, ⟨⟨some 25, .eqR true 98 (.tmp 20) (.tmp 24), none⟩, .pure, 0, 0⟩])
 (.cond (.tmp 25) (.seq (.region [⟨some 4, .move (.const (.bool false)), none⟩])
 (.ret))
 (.skip))))
 (.region [⟨some 15, .move (.tmp 5), none⟩, ⟨some 16, .bin .add (.tmp 15) (.const (.int .i64 1)), none⟩, ⟨some 5, .move (.tmp 16), none⟩]))
def L100 : LCode :=
 .seq (.region [⟨some 4, .move (.const (.bool false)), none⟩])
 (.seq (.seq (.region [⟨some 6, .move (.tmp 0), none⟩, ⟨some 7, .len (.tmp 6), none⟩, ⟨some 8, .move (.tmp 1), none⟩, ⟨some 9, .len (.tmp 8), none⟩, ⟨some 10, .bin .neq (.tmp 7) (.tmp 9), none⟩])
 (.cond (.tmp 10) (.seq (.region [⟨some 4, .move (.const (.bool false)), none⟩])
 (.ret))
 (.skip)))
 (.seq (.seq (.region [⟨some 5, .move (.const (.int .i64 0)), none⟩])
 (.block 0 (.loop L100_1)))
 (.seq (.region [⟨some 4, .move (.const (.bool true)), none⟩])
 (.ret))))
theorem light100 : Light Tryz.prog 100 2 26 L100 [.tmp 4] :=
  ⟨Tryz.f100, _, Tryz.func100, rfl, rfl, by kernel_rfl, by kernel_rfl, by decide⟩
def L101_1 : LCode :=
 .seq (.seq (.region [⟨some 11, .move (.tmp 5), none⟩, ⟨some 12, .move (.tmp 0), none⟩, ⟨some 13, .len (.tmp 12), none⟩, ⟨some 14, .bin .lss (.tmp 11) (.tmp 13), none⟩])
 (.cond (.tmp 14) (.skip)
 (.exit 0)))
 (.seq (.block 1 (.seq (.draw [⟨⟨some 17, .move (.tmp 0), none⟩, .pure, 0, 0⟩, ⟨⟨some 18, .move (.tmp 5), none⟩, .pure, 0, 0⟩, ⟨⟨some 19, .idx 6 (.tmp 17) (.tmp 18), none⟩, .pure, 0, 0⟩, ⟨⟨some 20, .load true 6 (.tmp 19), none⟩, .read, 0, 0⟩, ⟨⟨some 21, .move (.tmp 1), none⟩, .pure, 0, 0⟩, ⟨⟨some 22, .move (.tmp 5), none⟩, .pure, 0, 0⟩, ⟨⟨some 23, .idx 6 (.tmp 21) (.tmp 22), none⟩, .pure, 0, 0⟩, ⟨⟨some 24, .load true 6 (.tmp 23), none⟩, .read, 0, 0⟩, ⟨⟨some 25, .eqR true 113 (.tmp 20) (.tmp 24), none⟩, .pure, 0, 0⟩])
 (.cond (.tmp 25) (.seq (.region [⟨some 4, .move (.const (.bool false)), none⟩])
 (.ret))
 (.skip))))
 (.region [⟨some 15, .move (.tmp 5), none⟩, ⟨some 16, .bin .add (.tmp 15) (.const (.int .i64 1)), none⟩, ⟨some 5, .move (.tmp 16), none⟩]))
def L101 : LCode :=
 .seq (.region [⟨some 4, .move (.const (.bool false)), none⟩])
 (.seq (.seq (.region [⟨some 6, .move (.tmp 0), none⟩, ⟨some 7, .len (.tmp 6), none⟩, ⟨some 8, .move (.tmp 1), none⟩, ⟨some 9, .len (.tmp 8), none⟩, ⟨some 10, .bin .neq (.tmp 7) (.tmp 9), none⟩])
 (.cond (.tmp 10) (.seq (.region [⟨some 4, .move (.const (.bool false)), none⟩])
 (.ret))
 (.skip)))
 (.seq (.seq (.region [⟨some 5, .move (.const (.int .i64 0)), none⟩])
 (.block 0 (.loop L101_1)))
 (.seq (.region [⟨some 4, .move (.const (.bool true)), none⟩])
 (.ret))))
theorem light101 : Light Tryz.prog 101 2 26 L101 [.tmp 4] :=
  ⟨Tryz.f101, _, Tryz.func101, rfl, rfl, by kernel_rfl, by kernel_rfl, by decide⟩
def L102 : LCode :=
 .seq (.region [⟨some 1, .box 26 6 (.tmp 0), none⟩, ⟨some 2, .move (.const (.int .i64 0)), none⟩, ⟨some 3, .move (.const (.int .i64 0)), none⟩])
 (.seq (.seq (.region [⟨some 8, .off 3 (.tmp 1), none⟩, ⟨some 9, .load false 1 (.tmp 8), none⟩, ⟨some 10, .bin .eql (.tmp 9) (.const (.int .i64 0)), none⟩])
 (.cond (.tmp 10) (.seq (.region [⟨some 2, .move (.const (.int .i64 0)), none⟩, ⟨some 3, .move (.const (.int .i64 150)), none⟩])
 (.ret))
 (.skip)))
 (.seq (.draw [⟨⟨some 11, .off 2 (.tmp 1), none⟩, .pure, 0, 0⟩, ⟨⟨some 12, .load false 1 (.tmp 11), none⟩, .read, 0, 0⟩, ⟨⟨some 13, .conv .u64 (.tmp 12), none⟩, .pure, 0, 0⟩, ⟨⟨some 14, .off 1 (.tmp 1), none⟩, .pure, 0, 0⟩, ⟨⟨some 15, .load false 1 (.tmp 14), none⟩, .read, 0, 0⟩, ⟨⟨some 16, .conv .u64 (.tmp 15), none⟩, .pure, 0, 0⟩, ⟨⟨some 17, .bin .sub (.tmp 13) (.tmp 16), none⟩, .pure, 0, 0⟩, ⟨⟨some 18, .off 3 (.tmp 1), none⟩, .pure, 0, 0⟩, ⟨⟨some 19, .load false 1 (.tmp 18), none⟩, .read, 0, 0⟩, ⟨⟨some 20, .conv .u64 (.tmp 19), none⟩, .pure, 0, 0⟩, ⟨⟨some 4, .move (.tmp 17), none⟩, .pure, 0, 0⟩, ⟨⟨some 5, .move (.tmp 20), none⟩, .pure, 0, 0⟩])
 (.seq (.region [⟨some 21, .off 1 (.tmp 1), none⟩, ⟨some 22, .load false 1 (.tmp 21), none⟩, ⟨some 23, .off 2 (.tmp 1), none⟩, ⟨some 24, .load false 1 (.tmp 23), none⟩, ⟨some 25, .bin .geq (.tmp 22) (.tmp 24), none⟩, ⟨some 6, .move (.tmp 25), none⟩])
 (.seq (.seq (.region [⟨some 26, .off 3 (.tmp 1), none⟩, ⟨some 27, .load false 1 (.tmp 26), none⟩, ⟨some 28, .bin .lss (.tmp 27) (.const (.int .i64 0)), none⟩])
 (.cond (.tmp 28) (.draw [⟨⟨some 29, .move (.tmp 4), none⟩, .pure, 0, 0⟩, ⟨⟨some 30, .un .neg (.tmp 29), none⟩, .pure, 0, 0⟩, ⟨⟨some 31, .move (.tmp 5), none⟩, .pure, 0, 0⟩, ⟨⟨some 32, .un .neg (.tmp 31), none⟩, .pure, 0, 0⟩, ⟨⟨some 33, .off 1 (.tmp 1), none⟩, .pure, 0, 0⟩, ⟨⟨some 34, .load false 1 (.tmp 33), none⟩, .read, 0, 0⟩, ⟨⟨some 35, .off 2 (.tmp 1), none⟩, .pure, 0, 0⟩, ⟨⟨some 36, .load false 1 (.tmp 35), none⟩, .read, 0, 0⟩, ⟨⟨some 37, .bin .leq (.tmp 34) (.tmp 36), none⟩, .pure, 0, 0⟩, ⟨⟨some 4, .move (.tmp 30), none⟩, .pure, 0, 0⟩, ⟨⟨some 5, .move (.tmp 32), none⟩, .pure, 0, 0⟩, ⟨⟨some 6, .move (.tmp 37), none⟩, .pure, 0, 0⟩])
 (.skip)))
 (.seq (.seq (.region [⟨some 38, .move (.tmp 6), none⟩])
 (.cond (.tmp 38) (.seq (.region [⟨some 2, .move (.const (.int .i64 0)), none⟩, ⟨some 3, .move (.const (.int .i64 0)), none⟩])
 (.ret))
 (.skip)))
 (.seq (.region [⟨some 39, .move (.tmp 4), none⟩, ⟨some 40, .bin .sub (.tmp 39) (.const (.int .u64 1)), none⟩, ⟨some 41, .move (.tmp 5), none⟩, ⟨some 42, .bin .quo (.tmp 40) (.tmp 41), none⟩, ⟨some 43, .bin .add (.tmp 42) (.const (.int .u64 1)), none⟩, ⟨some 7, .move (.tmp 43), none⟩])
 (.seq (.seq (.region [⟨some 44, .move (.tmp 7), none⟩, ⟨some 45, .bin .gtr (.tmp 44) (.const (.int .u64 200)), none⟩])
 (.cond (.tmp 45) (.seq (.region [⟨some 2, .move (.const (.int .i64 0)), none⟩, ⟨some 3, .move (.const (.int .i64 151)), none⟩])
 (.ret))
 (.skip)))
 (.seq (.region [⟨some 46, .move (.tmp 7), none⟩, ⟨some 47, .conv .i64 (.tmp 46), none⟩, ⟨some 2, .move (.tmp 47), none⟩, ⟨some 3, .move (.const (.int .i64 0)), none⟩])
 (.ret)))))))))
theorem light102 : Light Tryz.prog 102 1 48 L102 [.tmp 2, .tmp 3] :=
  ⟨Tryz.f102, _, Tryz.func102, rfl, rfl, by kernel_rfl, by kernel_rfl, by decide⟩
def L103 : LCode :=
 .seq (.region [zi 4 (.new 201 2 [.int .i64 0, .int .i64 0])])
 (.seq (.draw [zp (zm 6 0) 0 0, zp (zi 7 (.nilCheck (.tmp 6))) 0 0, zp (zo 5 8 7) 0 0, zr (zl false 1 9 8) 0 0, zp (zm 10 1) 0 0, zp (zi 11 (.idx 1 (.tmp 9) (.tmp 10))) 0 0, zr (zl false 1 12 11) 0 0, zp (zm 13 0) 0 0, zp (zi 14 (.nilCheck (.tmp 13))) 0 0, zp (zo 2 15 14) 0 0, zr (zl false 1 16 15) 0 0, zp (zi 17 (.bin .mul (.tmp 12) (.tmp 16))) 0 0, zp (zm 18 1) 0 0, zp (zi 19 (.bin .add (.tmp 17) (.tmp 18))) 0 0, zp (zm 20 0) 0 0, zp (zi 21 (.nilCheck (.tmp 20))) 0 0, zp (zo 3 22 21) 0 0, zr (zl false 1 23 22) 0 0, zp (zi 24 (.bin .mul (.tmp 19) (.tmp 23))) 0 0, zp (zm 5 24) 0 0])
 (.seq (.seq (.region [zm 25 5, zm 26 0, zi 27 (.nilCheck (.tmp 26)), zo 1 28 27, zl false 1 29 28, zi 30 (.bin .geq (.tmp 25) (.tmp 29))])
 (.cond (.tmp 30) (.seq (.region [zi 31 (.build [.int .i64 0, .int .i64 0] []), ⟨none, .store 2 (.tmp 4) (.tmp 31), none⟩])
 (.ret))
 (.skip)))
 (.seq (.region [zm 32 0, zi 33 (.nilCheck (.tmp 32)), zo 5 34 33, zl false 1 35 34, zm 36 1, zi 37 (.idx 1 (.tmp 35) (.tmp 36)), zl false 1 38 37, zi 39 (.bin .add (.tmp 38) (.const (.int .i64 1))), zi 40 (.idx 1 (.tmp 35) (.tmp 36)), ⟨none, .store 1 (.tmp 40) (.tmp 39), none⟩])
 (.seq (.draw [zp (zm 41 5) 0 0, zp (zm 42 0) 0 0, zp (zi 43 (.nilCheck (.tmp 42))) 0 0, zp (zo 1 44 43) 0 0, zr (zl false 1 45 44) 0 0, zp (zm 46 5) 0 0, zp (zm 47 0) 0 0, zp (zi 48 (.nilCheck (.tmp 47))) 0 0, zp (zo 3 49 48) 0 0, zr (zl false 1 50 49) 0 0, zp (zi 51 (.bin .add (.tmp 46) (.tmp 50))) 0 0, zp (zi 52 (.minmax false (.tmp 45) [.tmp 51])) 0 0, zp (zi 53 (.build [.int .i64 0, .int .i64 0] [(0, 1, .tmp 41), (1, 1, .tmp 52)])) 0 0, ⟨⟨none, .store 2 (.tmp 4) (.tmp 53), none⟩, .heavy, 0, 1⟩])
 (.ret)))))
theorem light103 : Light Tryz.prog 103 2 54 L103 [.cell 4 true 2] :=
  ⟨Tryz.f103, _, Tryz.func103, rfl, rfl, by kernel_rfl, by kernel_rfl, by decide⟩
def L104 : LCode :=
 .seq (.region [zi 4 (.new 201 2 [.int .i64 0, .int .i64 0])])
 (.seq (.region [zm 5 0, zm 6 0, zi 7 (.nilCheck (.tmp 6)), zo 3 8 7, zl false 1 9 8, zi 10 (.call 125 [.tmp 5, .tmp 9]), ⟨none, .store 2 (.tmp 4) (.tmp 10), none⟩])
 (.ret))
theorem light104 : Light Tryz.prog 104 2 11 L104 [.cell 4 true 2] :=
  ⟨Tryz.f104, _, Tryz.func104, rfl, rfl, by kernel_rfl, by kernel_rfl, by decide⟩
def L105 : LCode :=
 .seq (.region [zi 4 (.new 201 2 [.int .i64 0, .int .i64 0])])
 (.seq (.draw [zp (zm 6 0) 0 0, zp (zi 7 (.nilCheck (.tmp 6))) 0 0, zp (zo 1 8 7) 0 0, zr (zl false 1 9 8) 0 0, zp (zm 10 0) 0 0, zp (zi 11 (.nilCheck (.tmp 10))) 0 0, zp (zo 4 12 11) 0 0, zr (zl false 1 13 12) 0 0, zp (zi 14 (.bin .sub (.tmp 9) (.tmp 13))) 0 0, zp (zm 5 14) 0 0])
 (.seq (.draw [zp (zm 15 0) 0 0, zp (zm 16 0) 0 0, zp (zi 17 (.nilCheck (.tmp 16))) 0 0, zp (zo 3 18 17) 0 0, zr (zl false 1 19 18) 0 0, zp (zm 20 5) 0 0, zp (zm 21 0) 0 0, zp (zi 22 (.nilCheck (.tmp 21))) 0 0, zp (zo 2 23 22) 0 0, zr (zl false 1 24 23) 0 0, zp (zi 25 (.bin .mul (.const (.int .i64 2)) (.tmp 24))) 0 0, zp (zi 26 (.bin .add (.tmp 20) (.tmp 25))) 0 0, zp (zi 27 (.bin .sub (.tmp 26) (.const (.int .i64 1)))) 0 0, zp (zm 28 0) 0 0, zp (zi 29 (.nilCheck (.tmp 28))) 0 0, zp (zo 2 30 29) 0 0, zr (zl false 1 31 30) 0 0, zp (zi 32 (.bin .mul (.const (.int .i64 2)) (.tmp 31))) 0 0, zp (zi 33 (.bin .quo (.tmp 27) (.tmp 32))) 0 0, zp (zi 34 (.minmax true (.tmp 19) [.tmp 33])) 0 0, zh (zi 35 (.call 125 [.tmp 15, .tmp 34])) 0 1, ⟨⟨none, .store 2 (.tmp 4) (.tmp 35), none⟩, .heavy, 1, 2⟩])
 (.ret)))
theorem light105 : Light Tryz.prog 105 2 36 L105 [.cell 4 true 2] :=
  ⟨Tryz.f105, _, Tryz.func105, rfl, rfl, by kernel_rfl, by kernel_rfl, by decide⟩
def L106 : LCode :=
 .seq (.region [zi 4 (.move (.const (.pointer none))), zi 5 (.move (.const (.int .i64 0)))])
 (.seq (.seq (.region [zm 8 0, zi 9 (.bin .lss (.tmp 8) (.const (.int .i64 1))), zm 10 9, ⟨some 11, .move (.tmp 0), (some (10, false))⟩, ⟨some 12, .bin .gtr (.tmp 11) (.const (.int .i64 64)), (some (10, false))⟩, zi 13 (.pick (.tmp 10) (.const (.bool true)) (.tmp 12))])
 (.cond (.tmp 13) (.seq (.region [zi 4 (.move (.const (.pointer none))), zi 5 (.move (.const (.int .i64 130)))])
 (.ret))
 (.skip)))
 (.seq (.region [zm 15 1, zi 16 (.call 126 [.tmp 15]), zm 14 16, ze 17 14 0, ze 18 14 1, zm 6 17, zm 7 18])
 (.seq (.seq (.region [zm 19 7, zi 20 (.bin .neq (.tmp 19) (.const (.int .i64 0)))])
 (.cond (.tmp 20) (.seq (.region [zm 21 7, zi 4 (.move (.const (.pointer none))), zm 5 21])
 (.ret))
 (.skip)))
 (.seq (.alts [[zp (zm 22 6) 0 3, zp (zm 23 1) 0 0, zh (zi 24 (.make 2 1 8 [.int .i64 0] (.tmp 23) (.tmp 23))) 0 1, zp (zi 25 (.build [.pointer none, .slice none 0 0] [(0, 1, .tmp 22), (1, 1, .tmp 24)])) 1 3, zp (zm 26 0) 0 1, zh (zi 27 (.make 325 1 24 [.slice none 0 0] (.tmp 26) (.tmp 26))) 1 2, zh (zi 28 (.makeMap)) 2 3, zp (zi 29 (.build [.pointer none, .slice none 0 0, .slice none 0 0, .map none] [(0, 2, .tmp 25), (2, 1, .tmp 27), (3, 1, .tmp 28)])) 3 3, zh (zi 30 (.box 247 4 (.tmp 29))) 3 4, zp (zm 4 30) 4 4, zp (zi 5 (.move (.const (.int .i64 0)))) 4 4], [zp (zm 22 6) 0 3, zp (zm 23 1) 0 0, zh (zi 24 (.make 2 1 8 [.int .i64 0] (.tmp 23) (.tmp 23))) 0 1, zp (zi 25 (.build [.pointer none, .slice none 0 0] [(0, 1, .tmp 22), (1, 1, .tmp 24)])) 1 3, zp (zm 26 0) 0 2, zh (zi 28 (.makeMap)) 1 2, zh (zi 27 (.make 325 1 24 [.slice none 0 0] (.tmp 26) (.tmp 26))) 2 3, zp (zi 29 (.build [.pointer none, .slice none 0 0, .slice none 0 0, .map none] [(0, 2, .tmp 25), (2, 1, .tmp 27), (3, 1, .tmp 28)])) 3 3, zh (zi 30 (.box 247 4 (.tmp 29))) 3 4, zp (zm 4 30) 4 4, zp (zi 5 (.move (.const (.int .i64 0)))) 4 4], [zp (zm 22 6) 0 3, zp (zm 23 1) 0 1, zp (zm 26 0) 0 0, zh (zi 27 (.make 325 1 24 [.slice none 0 0] (.tmp 26) (.tmp 26))) 0 1, zh (zi 24 (.make 2 1 8 [.int .i64 0] (.tmp 23) (.tmp 23))) 1 2, zp (zi 25 (.build [.pointer none, .slice none 0 0] [(0, 1, .tmp 22), (1, 1, .tmp 24)])) 2 3, zh (zi 28 (.makeMap)) 2 3, zp (zi 29 (.build [.pointer none, .slice none 0 0, .slice none 0 0, .map none] [(0, 2, .tmp 25), (2, 1, .tmp 27), (3, 1, .tmp 28)])) 3 3, zh (zi 30 (.box 247 4 (.tmp 29))) 3 4, zp (zm 4 30) 4 4, zp (zi 5 (.move (.const (.int .i64 0)))) 4 4], [zp (zm 22 6) 0 3, zp (zm 23 1) 0 2, zp (zm 26 0) 0 0, zh (zi 27 (.make 325 1 24 [.slice none 0 0] (.tmp 26) (.tmp 26))) 0 1, zh (zi 28 (.makeMap)) 1 2, zh (zi 24 (.make 2 1 8 [.int .i64 0] (.tmp 23) (.tmp 23))) 2 3, zp (zi 25 (.build [.pointer none, .slice none 0 0] [(0, 1, .tmp 22), (1, 1, .tmp 24)])) 3 3, zp (zi 29 (.build [.pointer none, .slice none 0 0, .slice none 0 0, .map none] [(0, 2, .tmp 25), (2, 1, .tmp 27), (3, 1, .tmp 28)])) 3 3, zh (zi 30 (.box 247 4 (.tmp 29))) 3 4, zp (zm 4 30) 4 4, zp (zi 5 (.move (.const (.int .i64 0)))) 4 4], [zp (zm 22 6) 0 3, zp (zm 23 1) 0 1, zp (zm 26 0) 0 2, zh (zi 28 (.makeMap)) 0 1, zh (zi 24 (.make 2 1 8 [.int .i64 0] (.tmp 23) (.tmp 23))) 1 2, zp (zi 25 (.build [.pointer none, .slice none 0 0] [(0, 1, .tmp 22), (1, 1, .tmp 24)])) 2 3, zh (zi 27 (.make 325 1 24 [.slice none 0 0] (.tmp 26) (.tmp 26))) 2 3, zp (zi 29 (.build [.pointer none, .slice none 0 0, .slice none 0 0, .map none] [(0, 2, .tmp 25), (2, 1, .tmp 27), (3, 1, .tmp 28)])) 3 3, zh (zi 30 (.box 247 4 (.tmp 29))) 3 4, zp (zm 4 30) 4 4, zp (zi 5 (.move (.const (.int .i64 0)))) 4 4], [zp (zm 22 6) 0 3, zp (zm 23 1) 0 2, zp (zm 26 0) 0 1, zh (zi 28 (.makeMap)) 0 1, zh (zi 27 (.make 325 1 24 [.slice none 0 0] (.tmp 26) (.tmp 26))) 1 2, zh (zi 24 (.make 2 1 8 [.int .i64 0] (.tmp 23) (.tmp 23))) 2 3, zp (zi 25 (.build [.pointer none, .slice none 0 0] [(0, 1, .tmp 22), (1, 1, .tmp 24)])) 3 3, zp (zi 29 (.build [.pointer none, .slice none 0 0, .slice none 0 0, .map none] [(0, 2, .tmp 25), (2, 1, .tmp 27), (3, 1, .tmp 28)])) 3 3, zh (zi 30 (.box 247 4 (.tmp 29))) 3 4, zp (zm 4 30) 4 4, zp (zi 5 (.move (.const (.int .i64 0)))) 4 4]])
 (.ret)))))
theorem lightX106 : LightX Tryz.prog 106 2 31 L106 [.tmp 4, .tmp 5] :=
  ⟨Tryz.f106, _, Tryz.func106, rfl, rfl, by kernel_rfl, by kernel_rfl, by decide⟩
def L107 : LCode :=
 .seq (.region [zi 2 (.move (.const (.pointer none))), zi 3 (.move (.const (.int .i64 0)))])
 (.seq (.seq (.region [zm 4 0, zi 5 (.bin .lss (.tmp 4) (.const (.int .i64 1))), zm 6 5, ⟨some 7, .move (.tmp 0), (some (6, false))⟩, ⟨some 8, .bin .gtr (.tmp 7) (.const (.int .i64 512)), (some (6, false))⟩, zi 9 (.pick (.tmp 6) (.const (.bool true)) (.tmp 8))])
 (.cond (.tmp 9) (.seq (.region [zi 2 (.move (.const (.pointer none))), zi 3 (.move (.const (.int .i64 161)))])
 (.ret))
 (.skip)))
 (.seq (.region [zm 10 0, zi 11 (.build [.int .i64 0, .slice none 0 0] [(0, 1, .tmp 10)]), zi 12 (.box 250 2 (.tmp 11)), zm 2 12, zi 3 (.move (.const (.int .i64 0)))])
 (.ret)))
theorem light107 : Light Tryz.prog 107 1 13 L107 [.tmp 2, .tmp 3] :=
  ⟨Tryz.f107, _, Tryz.func107, rfl, rfl, by kernel_rfl, by kernel_rfl, by decide⟩
def L114 : LCode :=
 .seq (.region [⟨some 2, .new 219 8 [.bool false, .bool false, .bool false, .bool false, .bool false, .bool false, .bool false, .bool false], none⟩, ⟨some 3, .move (.const (.bool false)), none⟩])
 (.seq (.seq (.region [⟨some 4, .move (.tmp 0), none⟩])
 (.block 0 (.seq (.region [⟨some 6, .bin .eql (.tmp 4) (.const (.int .i64 1)), none⟩, ⟨some 5, .move (.tmp 6), none⟩])
 (.cond (.tmp 5) (.seq (.region [⟨some 7, .build [.bool false, .bool false, .bool false, .bool false, .bool false, .bool false, .bool false, .bool false] [], none⟩, ⟨none, .store 8 (.tmp 2) (.tmp 7), none⟩, ⟨some 3, .move (.const (.bool true)), none⟩])
 (.ret))
 (.seq (.region [⟨some 9, .bin .eql (.tmp 4) (.const (.int .i64 2)), none⟩, ⟨some 8, .move (.tmp 9), none⟩])
 (.cond (.tmp 8) (.seq (.region [⟨some 10, .build [.bool false, .bool false, .bool false, .bool false, .bool false, .bool false, .bool false, .bool false] [(0, 1, .const (.bool true)), (4, 1, .const (.bool true))], none⟩, ⟨none, .store 8 (.tmp 2) (.tmp 10), none⟩, ⟨some 3, .move (.const (.bool true)), none⟩])
 (.ret))
 (.seq (.region [⟨some 12, .bin .eql (.tmp 4) (.const (.int .i64 3)), none⟩, ⟨some 11, .move (.tmp 12), none⟩])
 (.cond (.tmp 11) (.seq (.region [⟨some 13, .build [.bool false, .bool false, .bool false, .bool false, .bool false, .bool false, .bool false, .bool false] [(0, 1, .const (.bool true)), (1, 1, .const (.bool true))], none⟩, ⟨none, .store 8 (.tmp 2) (.tmp 13), none⟩, ⟨some 3, .move (.const (.bool true)), none⟩])
 (.ret))
 (.seq (.region [⟨some 15, .bin .eql (.tmp 4) (.const (.int .i64 4)), none⟩, ⟨some 14, .move (.tmp 15), none⟩])
 (.cond (.tmp 14) (.seq (.region [⟨some 16, .build [.bool false, .bool false, .bool false, .bool false, .bool false, .bool false, .bool false, .bool false] [(0, 1, .const (.bool true)), (1, 1, .const (.bool true)), (6, 1, .const (.bool true))], none⟩, ⟨none, .store 8 (.tmp 2) (.tmp 16), none⟩, ⟨some 3, .move (.const (.bool true)), none⟩])
 (.ret))
 (.seq (.region [⟨some 18, .bin .eql (.tmp 4) (.const (.int .i64 5)), none⟩, ⟨some 17, .move (.tmp 18), none⟩])
 (.cond (.tmp 17) (.seq (.region [⟨some 19, .build [.bool false, .bool false, .bool false, .bool false, .bool false, .bool false, .bool false, .bool false] [(0, 1, .const (.bool true)), (1, 1, .const (.bool true)), (2, 1, .const (.bool true)), (7, 1, .const (.bool true))], none⟩, ⟨none, .store 8 (.tmp 2) (.tmp 19), none⟩, ⟨some 3, .move (.const (.bool true)), none⟩])
 (.ret))
 (.seq (.seq (.region [⟨some 21, .bin .eql (.tmp 4) (.const (.int .i64 6)), none⟩, ⟨some 20, .move (.tmp 21), none⟩])
 (.cond (.tmp 20) (.skip)
 (.region [⟨some 22, .bin .eql (.tmp 4) (.const (.int .i64 7)), none⟩, ⟨some 20, .move (.tmp 22), none⟩])))
 (.cond (.tmp 20) (.seq (.region [⟨some 23, .build [.bool false, .bool false, .bool false, .bool false, .bool false, .bool false, .bool false, .bool false] [(0, 1, .const (.bool true)), (1, 1, .const (.bool true)), (4, 1, .const (.bool true))], none⟩, ⟨none, .store 8 (.tmp 2) (.tmp 23), none⟩, ⟨some 3, .move (.const (.bool true)), none⟩])
 (.ret))
 (.seq (.region [⟨some 25, .bin .eql (.tmp 4) (.const (.int .i64 8)), none⟩, ⟨some 24, .move (.tmp 25), none⟩])
 (.cond (.tmp 24) (.seq (.region [⟨some 26, .build [.bool false, .bool false, .bool false, .bool false, .bool false, .bool false, .bool false, .bool false] [(0, 1, .const (.bool true)), (3, 1, .const (.bool true))], none⟩, ⟨none, .store 8 (.tmp 2) (.tmp 26), none⟩, ⟨some 3, .move (.const (.bool true)), none⟩])
 (.ret))
 (.seq (.seq (.region [⟨some 28, .bin .eql (.tmp 4) (.const (.int .i64 9)), none⟩, ⟨some 27, .move (.tmp 28), none⟩])
 (.cond (.tmp 27) (.skip)
 (.region [⟨some 29, .bin .eql (.tmp 4) (.const (.int .i64 13)), none⟩, ⟨some 27, .move (.tmp 29), none⟩])))
 (.cond (.tmp 27) (.seq (.region [⟨some 30, .build [.bool false, .bool false, .bool false, .bool false, .bool false, .bool false, .bool false, .bool false] [(0, 1, .const (.bool true))], none⟩, ⟨none, .store 8 (.tmp 2) (.tmp 30), none⟩, ⟨some 3, .move (.const (.bool true)), none⟩])
 (.ret))
 (.seq (.region [⟨some 32, .bin .eql (.tmp 4) (.const (.int .i64 10)), none⟩, ⟨some 31, .move (.tmp 32), none⟩])
 (.cond (.tmp 31) (.seq (.region [⟨some 33, .build [.bool false, .bool false, .bool false, .bool false, .bool false, .bool false, .bool false, .bool false] [(4, 1, .const (.bool true)), (5, 1, .const (.bool true))], none⟩, ⟨none, .store 8 (.tmp 2) (.tmp 33), none⟩, ⟨some 3, .move (.const (.bool true)), none⟩])
 (.ret))
 (.seq (.seq (.region [⟨some 35, .bin .eql (.tmp 4) (.const (.int .i64 11)), none⟩, ⟨some 34, .move (.tmp 35), none⟩])
 (.cond (.tmp 34) (.skip)
 (.region [⟨some 36, .bin .eql (.tmp 4) (.const (.int .i64 12)), none⟩, ⟨some 34, .move (.tmp 36), none⟩])))
 (.cond (.tmp 34) (.seq (.region [⟨some 37, .build [.bool false, .bool false, .bool false, .bool false, .bool false, .bool false, .bool false, .bool false] [(0, 1, .const (.bool true)), (4, 1, .const (.bool true)), (5, 1, .const (.bool true))], none⟩, ⟨none, .store 8 (.tmp 2) (.tmp 37), none⟩, ⟨some 3, .move (.const (.bool true)), none⟩])
 (.ret))
 (.skip)))))))))))))))))))))))
 (.seq (.region [⟨some 38, .build [.bool false, .bool false, .bool false, .bool false, .bool false, .bool false, .bool false, .bool false] [], none⟩, ⟨none, .store 8 (.tmp 2) (.tmp 38), none⟩, ⟨some 3, .move (.const (.bool false)), none⟩])
 (.ret)))
theorem light114 : Light Tryz.prog 114 1 39 L114 [.cell 2 true 8, .tmp 3] :=
  ⟨Tryz.f114, _, Tryz.func114, rfl, rfl, by kernel_rfl, by kernel_rfl, by decide⟩
def L117 : LCode :=
 .seq (.region [⟨some 2, .move (.const (.bool false)), none⟩])
 (.seq (.region [⟨some 3, .move (.tmp 0), none⟩, ⟨some 4, .bin .geq (.tmp 3) (.const (.int .i64 1)), none⟩, ⟨some 5, .move (.tmp 4), none⟩, ⟨some 6, .move (.tmp 0), (some (5, true))⟩, ⟨some 7, .bin .leq (.tmp 6) (.const (.int .i64 7)), (some (5, true))⟩, ⟨some 8, .pick (.tmp 5) (.tmp 7) (.const (.bool false)), none⟩, ⟨some 2, .move (.tmp 8), none⟩])
 (.ret))
theorem light117 : Light Tryz.prog 117 1 9 L117 [.tmp 2] :=
  ⟨Tryz.f117, _, Tryz.func117, rfl, rfl, by kernel_rfl, by kernel_rfl, by decide⟩
def L118 : LCode :=
 .seq (.region [⟨some 2, .move (.const (.int .i64 0)), none⟩])
 (.seq (.seq (.region [⟨some 3, .move (.tmp 0), none⟩])
 (.block 0 (.seq (.region [⟨some 5, .bin .eql (.tmp 3) (.const (.int .i64 2)), none⟩, ⟨some 4, .move (.tmp 5), none⟩])
 (.cond (.tmp 4) (.seq (.region [⟨some 2, .move (.const (.int .i64 1)), none⟩])
 (.ret))
 (.seq (.region [⟨some 7, .bin .eql (.tmp 3) (.const (.int .i64 3)), none⟩, ⟨some 6, .move (.tmp 7), none⟩])
 (.cond (.tmp 6) (.seq (.region [⟨some 2, .move (.const (.int .i64 9223372036854775807)), none⟩])
 (.ret))
 (.seq (.region [⟨some 9, .bin .eql (.tmp 3) (.const (.int .i64 4)), none⟩, ⟨some 8, .move (.tmp 9), none⟩])
 (.cond (.tmp 8) (.seq (.region [⟨some 2, .move (.const (.int .i64 (-9223372036854775808))), none⟩])
 (.ret))
 (.seq (.region [⟨some 11, .bin .eql (.tmp 3) (.const (.int .i64 5)), none⟩, ⟨some 10, .move (.tmp 11), none⟩])
 (.cond (.tmp 10) (.seq (.region [⟨some 2, .move (.const (.int .i64 (-1))), none⟩])
 (.ret))
 (.skip)))))))))))
 (.seq (.region [⟨some 2, .move (.const (.int .i64 0)), none⟩])
 (.ret)))
theorem light118 : Light Tryz.prog 118 1 12 L118 [.tmp 2] :=
  ⟨Tryz.f118, _, Tryz.func118, rfl, rfl, by kernel_rfl, by kernel_rfl, by decide⟩
def L119 : LCode :=
 .seq (.region [⟨some 3, .box 113 6 (.tmp 0), none⟩, ⟨some 6, .move (.const (.int .i64 0)), none⟩])
 (.seq (.region [⟨some 10, .off 0 (.tmp 3), none⟩, ⟨some 11, .load false 1 (.tmp 10), none⟩, ⟨some 12, .call 114 [.tmp 11], none⟩, ⟨some 9, .move (.tmp 12), none⟩, ⟨some 13, .extract (.tmp 9) 0, none⟩, ⟨some 14, .extract (.tmp 9) 1, none⟩, ⟨some 7, .new 219 8 [.bool false, .bool false, .bool false, .bool false, .bool false, .bool false, .bool false, .bool false], none⟩, ⟨none, .store 8 (.tmp 7) (.tmp 13), none⟩, ⟨some 8, .move (.tmp 14), none⟩])
 (.seq (.block 0 (.seq (.region [⟨some 16, .move (.tmp 8), none⟩, ⟨some 17, .un .not (.tmp 16), none⟩, ⟨some 15, .move (.tmp 17), none⟩])
 (.cond (.tmp 15) (.seq (.region [⟨some 6, .move (.const (.int .i64 81)), none⟩])
 (.ret))
 (.seq (.seq (.region [⟨some 19, .off 7 (.tmp 7), none⟩, ⟨some 20, .load false 1 (.tmp 19), none⟩, ⟨some 21, .move (.tmp 20), none⟩, ⟨some 22, .off 1 (.tmp 3), (some (21, true))⟩, ⟨some 23, .load false 1 (.tmp 22), (some (21, true))⟩, ⟨some 24, .bin .lss (.tmp 23) (.const (.int .i64 1)), (some (21, true))⟩, ⟨some 25, .move (.tmp 24), (some (21, true))⟩, ⟨some 26, .off 1 (.tmp 3), (some (25, false))⟩, ⟨some 27, .load false 1 (.tmp 26), (some (25, false))⟩, ⟨some 28, .bin .gtr (.tmp 27) (.const (.int .i64 18)), (some (25, false))⟩, ⟨some 29, .pick (.tmp 25) (.const (.bool true)) (.tmp 28), (some (21, true))⟩, ⟨some 30, .pick (.tmp 21) (.tmp 29) (.const (.bool false)), none⟩, ⟨some 18, .move (.tmp 30), none⟩])
 (.cond (.tmp 18) (.skip)
 (.region [⟨some 31, .off 6 (.tmp 7), none⟩, ⟨some 32, .load false 1 (.tmp 31), none⟩, ⟨some 33, .move (.tmp 32), none⟩, ⟨some 34, .off 1 (.tmp 3), (some (33, true))⟩, ⟨some 35, .load false 1 (.tmp 34), (some (33, true))⟩, ⟨some 36, .bin .lss (.tmp 35) (.const (.int .i64 19)), (some (33, true))⟩, ⟨some 37, .move (.tmp 36), (some (33, true))⟩, ⟨some 38, .off 1 (.tmp 3), (some (37, false))⟩, ⟨some 39, .load false 1 (.tmp 38), (some (37, false))⟩, ⟨some 40, .bin .gtr (.tmp 39) (.const (.int .i64 21)), (some (37, false))⟩, ⟨some 41, .pick (.tmp 37) (.const (.bool true)) (.tmp 40), (some (33, true))⟩, ⟨some 42, .pick (.tmp 33) (.tmp 41) (.const (.bool false)), none⟩, ⟨some 18, .move (.tmp 42), none⟩])))
 (.cond (.tmp 18) (.seq (.region [⟨some 6, .move (.const (.int .i64 81)), none⟩])
 (.ret))
 (.seq (.seq (.region [⟨some 44, .off 0 (.tmp 7), none⟩, ⟨some 45, .load false 1 (.tmp 44), none⟩, ⟨some 46, .move (.tmp 45), none⟩, ⟨some 47, .off 2 (.tmp 3), (some (46, true))⟩, ⟨some 48, .load false 1 (.tmp 47), (some (46, true))⟩, ⟨some 49, .call 151 [.const (.bool true), .tmp 48], (some (46, true))⟩, ⟨some 50, .un .not (.tmp 49), (some (46, true))⟩, ⟨some 51, .pick (.tmp 46) (.tmp 50) (.const (.bool false)), none⟩, ⟨some 43, .move (.tmp 51), none⟩])
 (.cond (.tmp 43) (.skip)
 (.seq (.region [⟨some 52, .off 1 (.tmp 7), none⟩, ⟨some 53, .load false 1 (.tmp 52), none⟩, ⟨some 54, .move (.tmp 53), none⟩, ⟨some 55, .off 3 (.tmp 3), (some (54, true))⟩, ⟨some 56, .load false 1 (.tmp 55), (some (54, true))⟩, ⟨some 57, .call 151 [.const (.bool true), .tmp 56], (some (54, true))⟩, ⟨some 58, .un .not (.tmp 57), (some (54, true))⟩, ⟨some 59, .pick (.tmp 54) (.tmp 58) (.const (.bool false)), none⟩, ⟨some 43, .move (.tmp 59), none⟩])
 (.cond (.tmp 43) (.skip)
 (.region [⟨some 60, .off 2 (.tmp 7), none⟩, ⟨some 61, .load false 1 (.tmp 60), none⟩, ⟨some 62, .move (.tmp 61), none⟩, ⟨some 63, .off 4 (.tmp 3), (some (62, true))⟩, ⟨some 64, .load false 1 (.tmp 63), (some (62, true))⟩, ⟨some 65, .call 151 [.const (.bool true), .tmp 64], (some (62, true))⟩, ⟨some 66, .un .not (.tmp 65), (some (62, true))⟩, ⟨some 67, .pick (.tmp 62) (.tmp 66) (.const (.bool false)), none⟩, ⟨some 43, .move (.tmp 67), none⟩])))))
 (.cond (.tmp 43) (.seq (.region [⟨some 6, .move (.const (.int .i64 82)), none⟩])
 (.ret))
 (.seq (.seq (.region [⟨some 69, .off 0 (.tmp 7), none⟩, ⟨some 70, .load false 1 (.tmp 69), none⟩, ⟨some 71, .un .not (.tmp 70), none⟩, ⟨some 72, .move (.tmp 71), none⟩, ⟨some 73, .off 2 (.tmp 3), (some (72, true))⟩, ⟨some 74, .load false 1 (.tmp 73), (some (72, true))⟩, ⟨some 75, .bin .neq (.tmp 74) (.const (.int .i64 0)), (some (72, true))⟩, ⟨some 76, .pick (.tmp 72) (.tmp 75) (.const (.bool false)), none⟩, ⟨some 68, .move (.tmp 76), none⟩])
 (.cond (.tmp 68) (.skip)
 (.seq (.region [⟨some 77, .off 1 (.tmp 7), none⟩, ⟨some 78, .load false 1 (.tmp 77), none⟩, ⟨some 79, .un .not (.tmp 78), none⟩, ⟨some 80, .move (.tmp 79), none⟩, ⟨some 81, .off 3 (.tmp 3), (some (80, true))⟩, ⟨some 82, .load false 1 (.tmp 81), (some (80, true))⟩, ⟨some 83, .bin .neq (.tmp 82) (.const (.int .i64 0)), (some (80, true))⟩, ⟨some 84, .pick (.tmp 80) (.tmp 83) (.const (.bool false)), none⟩, ⟨some 68, .move (.tmp 84), none⟩])
 (.cond (.tmp 68) (.skip)
 (.seq (.region [⟨some 85, .off 2 (.tmp 7), none⟩, ⟨some 86, .load false 1 (.tmp 85), none⟩, ⟨some 87, .un .not (.tmp 86), none⟩, ⟨some 88, .move (.tmp 87), none⟩, ⟨some 89, .off 3 (.tmp 7), (some (88, true))⟩, ⟨some 90, .load false 1 (.tmp 89), (some (88, true))⟩, ⟨some 91, .un .not (.tmp 90), (some (88, true))⟩, ⟨some 92, .pick (.tmp 88) (.tmp 91) (.const (.bool false)), none⟩, ⟨some 93, .move (.tmp 92), none⟩, ⟨some 94, .off 4 (.tmp 3), (some (93, true))⟩, ⟨some 95, .load false 1 (.tmp 94), (some (93, true))⟩, ⟨some 96, .bin .neq (.tmp 95) (.const (.int .i64 0)), (some (93, true))⟩, ⟨some 97, .pick (.tmp 93) (.tmp 96) (.const (.bool false)), none⟩, ⟨some 68, .move (.tmp 97), none⟩])
 (.cond (.tmp 68) (.skip)
 (.seq (.region [⟨some 98, .off 4 (.tmp 7), none⟩, ⟨some 99, .load false 1 (.tmp 98), none⟩, ⟨some 100, .un .not (.tmp 99), none⟩, ⟨some 101, .move (.tmp 100), none⟩, ⟨some 102, .off 5 (.tmp 3), (some (101, true))⟩, ⟨some 103, .load false 1 (.tmp 102), (some (101, true))⟩, ⟨some 104, .bin .neq (.tmp 103) (.const (.int .i64 0)), (some (101, true))⟩, ⟨some 105, .pick (.tmp 101) (.tmp 104) (.const (.bool false)), none⟩, ⟨some 68, .move (.tmp 105), none⟩])
 (.cond (.tmp 68) (.skip)
 (.region [⟨some 106, .off 6 (.tmp 7), none⟩, ⟨some 107, .load false 1 (.tmp 106), none⟩, ⟨some 108, .un .not (.tmp 107), none⟩, ⟨some 109, .move (.tmp 108), none⟩, ⟨some 110, .off 7 (.tmp 7), (some (109, true))⟩, ⟨some 111, .load false 1 (.tmp 110), (some (109, true))⟩, ⟨some 112, .un .not (.tmp 111), (some (109, true))⟩, ⟨some 113, .pick (.tmp 109) (.tmp 112) (.const (.bool false)), none⟩, ⟨some 114, .move (.tmp 113), none⟩, ⟨some 115, .off 1 (.tmp 3), (some (114, true))⟩, ⟨some 116, .load false 1 (.tmp 115), (some (114, true))⟩, ⟨some 117, .bin .neq (.tmp 116) (.const (.int .i64 0)), (some (114, true))⟩, ⟨some 118, .pick (.tmp 114) (.tmp 117) (.const (.bool false)), none⟩, ⟨some 68, .move (.tmp 118), none⟩])))))))))
 (.cond (.tmp 68) (.seq (.region [⟨some 6, .move (.const (.int .i64 83)), none⟩])
 (.ret))
 (.seq (.region [⟨some 120, .off 3 (.tmp 7), none⟩, ⟨some 121, .load false 1 (.tmp 120), none⟩, ⟨some 122, .move (.tmp 121), none⟩, ⟨some 123, .off 4 (.tmp 3), (some (122, true))⟩, ⟨some 124, .load false 1 (.tmp 123), (some (122, true))⟩, ⟨some 125, .bin .lss (.tmp 124) (.const (.int .i64 0)), (some (122, true))⟩, ⟨some 126, .move (.tmp 125), (some (122, true))⟩, ⟨some 127, .off 4 (.tmp 3), (some (126, false))⟩, ⟨some 128, .load false 1 (.tmp 127), (some (126, false))⟩, ⟨some 129, .move (.tmp 1), (some (126, false))⟩, ⟨some 130, .minmax false (.tmp 129) [.const (.int .i64 4)], (some (126, false))⟩, ⟨some 131, .bin .geq (.tmp 128) (.tmp 130), (some (126, false))⟩, ⟨some 132, .pick (.tmp 126) (.const (.bool true)) (.tmp 131), (some (122, true))⟩, ⟨some 133, .pick (.tmp 122) (.tmp 132) (.const (.bool false)), none⟩, ⟨some 119, .move (.tmp 133), none⟩])
 (.cond (.tmp 119) (.seq (.region [⟨some 6, .move (.const (.int .i64 63)), none⟩])
 (.ret))
 (.seq (.region [⟨some 135, .off 5 (.tmp 7), none⟩, ⟨some 136, .load false 1 (.tmp 135), none⟩, ⟨some 137, .move (.tmp 136), none⟩, ⟨some 138, .off 5 (.tmp 3), (some (137, true))⟩, ⟨some 139, .load false 1 (.tmp 138), (some (137, true))⟩, ⟨some 140, .bin .lss (.tmp 139) (.const (.int .i64 0)), (some (137, true))⟩, ⟨some 141, .move (.tmp 140), (some (137, true))⟩, ⟨some 142, .off 5 (.tmp 3), (some (141, false))⟩, ⟨some 143, .load false 1 (.tmp 142), (some (141, false))⟩, ⟨some 144, .move (.tmp 2), (some (141, false))⟩, ⟨some 145, .bin .geq (.tmp 143) (.tmp 144), (some (141, false))⟩, ⟨some 146, .pick (.tmp 141) (.const (.bool true)) (.tmp 145), (some (137, true))⟩, ⟨some 147, .pick (.tmp 137) (.tmp 146) (.const (.bool false)), none⟩, ⟨some 134, .move (.tmp 147), none⟩])
 (.cond (.tmp 134) (.seq (.region [⟨some 6, .move (.const (.int .i64 84)), none⟩])
 (.ret))
 (.skip))))))))))))))
 (.seq (.region [⟨some 6, .move (.const (.int .i64 0)), none⟩])
 (.ret))))
theorem light119 : Light Tryz.prog 119 3 148 L119 [.tmp 6] :=
  ⟨Tryz.f119, _, Tryz.func119, rfl, rfl, by kernel_rfl, by kernel_rfl, by decide⟩
def L120 : LCode :=
 .seq (.region [⟨some 1, .box 113 6 (.tmp 0), none⟩, ⟨some 2, .move (.const (.bool false)), none⟩])
 (.seq (.region [⟨some 3, .off 0 (.tmp 1), none⟩, ⟨some 4, .load false 1 (.tmp 3), none⟩, ⟨some 5, .bin .neq (.tmp 4) (.const (.int .i64 1)), none⟩, ⟨some 6, .move (.tmp 5), none⟩, ⟨some 7, .off 0 (.tmp 1), (some (6, true))⟩, ⟨some 8, .load false 1 (.tmp 7), (some (6, true))⟩, ⟨some 9, .bin .neq (.tmp 8) (.const (.int .i64 10)), (some (6, true))⟩, ⟨some 10, .pick (.tmp 6) (.tmp 9) (.const (.bool false)), none⟩, ⟨some 11, .move (.tmp 10), none⟩, ⟨some 12, .off 0 (.tmp 1), (some (11, true))⟩, ⟨some 13, .load false 1 (.tmp 12), (some (11, true))⟩, ⟨some 14, .bin .neq (.tmp 13) (.const (.int .i64 13)), (some (11, true))⟩, ⟨some 15, .pick (.tmp 11) (.tmp 14) (.const (.bool false)), none⟩, ⟨some 2, .move (.tmp 15), none⟩])
 (.ret))
theorem light120 : Light Tryz.prog 120 1 16 L120 [.tmp 2] :=
  ⟨Tryz.f120, _, Tryz.func120, rfl, rfl, by kernel_rfl, by kernel_rfl, by decide⟩
def L123 : LCode :=
 .seq (.region [⟨some 2, .move (.const (.int .i64 0)), none⟩])
 (.seq (.seq (.region [⟨some 3, .move (.tmp 0), none⟩, ⟨some 4, .nilCheck (.tmp 3), none⟩, ⟨some 5, .off 2 (.tmp 4), none⟩, ⟨some 6, .load false 1 (.tmp 5), none⟩, ⟨some 7, .bin .neq (.tmp 6) (.const (.int .i64 0)), none⟩])
 (.cond (.tmp 7) (.seq (.region [⟨some 2, .move (.const (.int .i64 0)), none⟩])
 (.ret))
 (.skip)))
 (.seq (.draw [⟨⟨some 8, .move (.tmp 0), none⟩, .pure, 0, 0⟩, ⟨⟨some 9, .nilCheck (.tmp 8), none⟩, .pure, 0, 0⟩, ⟨⟨some 10, .off 0 (.tmp 9), none⟩, .pure, 0, 0⟩, ⟨⟨some 11, .load false 1 (.tmp 10), none⟩, .read, 0, 0⟩, ⟨⟨some 12, .len (.tmp 11), none⟩, .pure, 0, 0⟩, ⟨⟨some 13, .move (.tmp 0), none⟩, .pure, 0, 0⟩, ⟨⟨some 14, .nilCheck (.tmp 13), none⟩, .pure, 0, 0⟩, ⟨⟨some 15, .off 1 (.tmp 14), none⟩, .pure, 0, 0⟩, ⟨⟨some 16, .load false 1 (.tmp 15), none⟩, .read, 0, 0⟩, ⟨⟨some 17, .bin .sub (.tmp 12) (.tmp 16), none⟩, .pure, 0, 0⟩, ⟨⟨some 2, .move (.tmp 17), none⟩, .pure, 0, 0⟩])
 (.ret)))
theorem light123 : Light Tryz.prog 123 1 18 L123 [.tmp 2] :=
  ⟨Tryz.f123, _, Tryz.func123, rfl, rfl, by kernel_rfl, by kernel_rfl, by decide⟩
def L124 : LCode :=
 .seq (.region [⟨some 2, .move (.const (.int .i64 0)), none⟩])
 (.seq (.region [⟨some 3, .move (.tmp 0), none⟩, ⟨some 4, .call 50 [.tmp 3], none⟩, ⟨some 5, .minmax false (.tmp 4) [.const (.int .u64 256)], none⟩, ⟨some 6, .conv .i64 (.tmp 5), none⟩, ⟨some 2, .move (.tmp 6), none⟩])
 (.ret))
theorem light124 : Light Tryz.prog 124 1 7 L124 [.tmp 2] :=
  ⟨Tryz.f124, _, Tryz.func124, rfl, rfl, by kernel_rfl, by kernel_rfl, by decide⟩
def L125 : LCode :=
 .seq (.region [zi 4 (.new 201 2 [.int .i64 0, .int .i64 0])])
 (.seq (.region [zm 6 0, zi 7 (.nilCheck (.tmp 6)), zo 4 8 7, zl false 1 9 8, zm 5 9])
 (.seq (.region [zm 10 0, zm 11 0, zi 12 (.nilCheck (.tmp 11)), zo 1 13 12, zl false 1 14 13, zm 15 5, zm 16 1, zi 17 (.bin .add (.tmp 15) (.tmp 16)), zi 18 (.minmax false (.tmp 14) [.tmp 17]), zi 19 (.nilCheck (.tmp 10)), zo 4 20 19, ⟨none, .store 1 (.tmp 20) (.tmp 18), none⟩])
 (.seq (.region [zm 21 5, zm 22 0, zi 23 (.nilCheck (.tmp 22)), zo 4 24 23, zl false 1 25 24, zi 26 (.build [.int .i64 0, .int .i64 0] [(0, 1, .tmp 21), (1, 1, .tmp 25)]), ⟨none, .store 2 (.tmp 4) (.tmp 26), none⟩])
 (.ret))))
theorem light125 : Light Tryz.prog 125 2 27 L125 [.cell 4 true 2] :=
  ⟨Tryz.f125, _, Tryz.func125, rfl, rfl, by kernel_rfl, by kernel_rfl, by decide⟩
def L126_1 : LCode :=
 .seq (.seq (.region [zm 18 5, zi 19 (.bin .geq (.tmp 18) (.const (.int .i64 0)))])
 (.cond (.tmp 19) (.skip)
 (.exit 0)))
 (.seq (.block 1 (.region [zm 22 4, zm 23 4, zi 24 (.nilCheck (.tmp 23)), zo 0 25 24, zl false 1 26 25, zm 27 5, zi 28 (.buildSlice 3 1 1 [.int .i64 0] [(0, 1, .tmp 27)]), zi 29 (.append 3 1 8 (.tmp 26) (.tmp 28)), zi 30 (.nilCheck (.tmp 22)), zo 0 31 30, ⟨none, .store 1 (.tmp 31) (.tmp 29), none⟩]))
 (.region [zm 20 5, zi 21 (.bin .sub (.tmp 20) (.const (.int .i64 1))), zm 5 21]))
def L126 : LCode :=
 .seq (.region [zi 2 (.move (.const (.pointer none))), zi 3 (.move (.const (.int .i64 0)))])
 (.seq (.seq (.region [zm 6 0, zi 7 (.bin .lss (.tmp 6) (.const (.int .i64 1))), zm 8 7, ⟨some 9, .move (.tmp 0), (some (8, false))⟩, ⟨some 10, .bin .gtr (.tmp 9) (.const (.int .i64 512)), (some (8, false))⟩, zi 11 (.pick (.tmp 8) (.const (.bool true)) (.tmp 10))])
 (.cond (.tmp 11) (.seq (.region [zi 2 (.move (.const (.pointer none))), zi 3 (.move (.const (.int .i64 161)))])
 (.ret))
 (.skip)))
 (.seq (.region [zm 12 0, zi 13 (.make 4 1 1 [.bool false] (.tmp 12) (.tmp 12)), zi 14 (.build [.slice none 0 0, .slice none 0 0] [(1, 1, .tmp 13)]), zi 15 (.box 284 2 (.tmp 14)), zm 4 15])
 (.seq (.seq (.region [zm 16 0, zi 17 (.bin .sub (.tmp 16) (.const (.int .i64 1))), zm 5 17])
 (.block 0 (.loop L126_1)))
 (.seq (.region [zm 32 4, zm 2 32, zi 3 (.move (.const (.int .i64 0)))])
 (.ret)))))
theorem light126 : Light Tryz.prog 126 1 33 L126 [.tmp 2, .tmp 3] :=
  ⟨Tryz.f126, _, Tryz.func126, rfl, rfl, by kernel_rfl, by kernel_rfl, by decide⟩
def L151 : LCode :=
 .seq (.region [⟨some 4, .move (.const (.bool false)), none⟩])
 (.seq (.region [⟨some 5, .move (.tmp 0), none⟩, ⟨some 6, .move (.tmp 5), none⟩, ⟨some 7, .move (.tmp 1), (some (6, true))⟩, ⟨some 8, .bin .geq (.tmp 7) (.const (.int .i64 0)), (some (6, true))⟩, ⟨some 9, .pick (.tmp 6) (.tmp 8) (.const (.bool false)), none⟩, ⟨some 10, .move (.tmp 9), none⟩, ⟨some 11, .move (.tmp 1), (some (10, true))⟩, ⟨some 12, .bin .lss (.tmp 11) (.const (.int .i64 16)), (some (10, true))⟩, ⟨some 13, .pick (.tmp 10) (.tmp 12) (.const (.bool false)), none⟩, ⟨some 14, .move (.tmp 13), none⟩, ⟨some 15, .move (.tmp 0), (some (14, false))⟩, ⟨some 16, .un .not (.tmp 15), (some (14, false))⟩, ⟨some 17, .move (.tmp 16), (some (14, false))⟩, ⟨some 18, .move (.tmp 1), (some (17, true))⟩, ⟨some 19, .bin .eql (.tmp 18) (.const (.int .i64 0)), (some (17, true))⟩, ⟨some 20, .pick (.tmp 17) (.tmp 19) (.const (.bool false)), (some (14, false))⟩, ⟨some 21, .pick (.tmp 14) (.const (.bool true)) (.tmp 20), none⟩, ⟨some 4, .move (.tmp 21), none⟩])
 (.ret))
theorem light151 : Light Tryz.prog 151 2 22 L151 [.tmp 4] :=
  ⟨Tryz.f151, _, Tryz.func151, rfl, rfl, by kernel_rfl, by kernel_rfl, by decide⟩
end Go.Proofs.YtnomffikflfilaaGreat
