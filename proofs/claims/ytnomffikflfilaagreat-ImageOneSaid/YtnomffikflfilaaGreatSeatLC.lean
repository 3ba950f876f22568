/-
  The light code of functions of this seat: printed by a program of this session (wip/tools/lightgen.py); each is held against the program by the kernel.
-/
import Derived.Test.YtnomffikflfilaaGreatSeatLB
import Derived.KernelRfl
import Derived.Test.YtnomffikflfilaaGreatProg
set_option maxRecDepth 100000
namespace Go.Proofs.YtnomffikflfilaaGreat
open Go.Ot
def L3 : LCode :=
 .seq (.region [⟨some 1, .box 35 23 (.tmp 0), none⟩, ⟨some 2, .move (.const (.bool false)), none⟩])
 (.seq (.seq (.region [⟨some 7, .load true 23 (.tmp 1), none⟩, ⟨some 8, .call 9 [.tmp 7, .const (.int .i64 50000)], none⟩])
 (.cond (.tmp 8) (.seq (.region [⟨some 2, .move (.const (.bool true)), none⟩])
 (.ret))
 (.skip)))
 (.seq (.region [⟨some 10, .load true 23 (.tmp 1), none⟩, ⟨some 11, .call 11 [.tmp 10], none⟩, ⟨some 12, .call 10 [.tmp 11], none⟩, ⟨some 9, .move (.tmp 12), none⟩, ⟨some 13, .extract (.tmp 9) 0, none⟩, ⟨some 14, .extract (.tmp 9) 1, none⟩, ⟨some 3, .move (.tmp 13), none⟩, ⟨some 4, .move (.tmp 14), none⟩])
 (.seq (.region [⟨some 16, .off 0 (.tmp 1), none⟩, ⟨some 17, .load true 11 (.tmp 16), none⟩, ⟨some 18, .off 11 (.tmp 1), none⟩, ⟨some 19, .load true 11 (.tmp 18), none⟩, ⟨some 20, .off 22 (.tmp 1), none⟩, ⟨some 21, .load false 1 (.tmp 20), none⟩, ⟨some 22, .call 12 [.tmp 17, .tmp 19, .tmp 21], none⟩, ⟨some 15, .move (.tmp 22), none⟩, ⟨some 23, .extract (.tmp 15) 0, none⟩, ⟨some 24, .extract (.tmp 15) 1, none⟩, ⟨some 5, .move (.tmp 23), none⟩, ⟨some 6, .move (.tmp 24), none⟩])
 (.seq (.draw [⟨⟨some 25, .move (.tmp 3), none⟩, .pure, 0, 0⟩, ⟨⟨some 26, .toStr (.tmp 25), none⟩, .read, 0, 0⟩, ⟨⟨some 27, .move (.tmp 5), none⟩, .pure, 0, 0⟩, ⟨⟨some 28, .toStr (.tmp 27), none⟩, .read, 0, 0⟩, ⟨⟨some 29, .bin .eql (.tmp 26) (.tmp 28), none⟩, .pure, 0, 0⟩, ⟨⟨some 30, .move (.tmp 29), none⟩, .pure, 0, 0⟩, ⟨⟨some 31, .move (.tmp 4), (some (30, true))⟩, .pure, 0, 0⟩, ⟨⟨some 32, .move (.tmp 6), (some (30, true))⟩, .pure, 0, 0⟩, ⟨⟨some 33, .bin .eql (.tmp 31) (.tmp 32), (some (30, true))⟩, .pure, 0, 0⟩, ⟨⟨some 34, .pick (.tmp 30) (.tmp 33) (.const (.bool false)), none⟩, .pure, 0, 0⟩, ⟨⟨some 35, .move (.tmp 34), none⟩, .pure, 0, 0⟩, ⟨⟨some 36, .load true 23 (.tmp 1), (some (35, true))⟩, .read, 0, 0⟩, ⟨⟨some 37, .call 11 [.tmp 36], (some (35, true))⟩, .heavy, 0, 1⟩, ⟨⟨some 38, .call 13 [.tmp 37], (some (35, true))⟩, .heavy, 1, 2⟩, ⟨⟨some 39, .off 0 (.tmp 1), (some (35, true))⟩, .pure, 0, 2⟩, ⟨⟨some 40, .load true 11 (.tmp 39), (some (35, true))⟩, .read, 0, 2⟩, ⟨⟨some 41, .off 11 (.tmp 1), (some (35, true))⟩, .pure, 0, 2⟩, ⟨⟨some 42, .load true 11 (.tmp 41), (some (35, true))⟩, .read, 0, 2⟩, ⟨⟨some 43, .off 22 (.tmp 1), (some (35, true))⟩, .pure, 0, 2⟩, ⟨⟨some 44, .load false 1 (.tmp 43), (some (35, true))⟩, .read, 0, 2⟩, ⟨⟨some 45, .call 14 [.tmp 40, .tmp 42, .tmp 44], (some (35, true))⟩, .heavy, 2, 3⟩, ⟨⟨some 46, .bin .eql (.tmp 38) (.tmp 45), (some (35, true))⟩, .pure, 3, 3⟩, ⟨⟨some 47, .pick (.tmp 35) (.tmp 46) (.const (.bool false)), none⟩, .pure, 3, 3⟩, ⟨⟨some 48, .move (.tmp 47), none⟩, .pure, 3, 3⟩, ⟨⟨some 49, .call 15 [], (some (48, true))⟩, .heavy, 3, 4⟩, ⟨⟨some 50, .pick (.tmp 48) (.tmp 49) (.const (.bool false)), none⟩, .pure, 4, 4⟩, ⟨⟨some 2, .move (.tmp 50), none⟩, .pure, 4, 4⟩])
 (.ret)))))
def K4_6 : LCode := .ret
def K4_5 : LCode :=
 .seq (.draw [⟨⟨some 28, .move (.tmp 6), none⟩, .pure, 0, 0⟩, ⟨⟨some 29, .bin .eql (.tmp 28) (.const (.int .i64 0)), none⟩, .pure, 0, 0⟩, ⟨⟨some 30, .move (.tmp 29), none⟩, .pure, 0, 0⟩, ⟨⟨some 31, .load true 23 (.tmp 5), (some (30, true))⟩, .read, 0, 1⟩, ⟨⟨some 32, .load true 23 (.tmp 1), (some (30, true))⟩, .read, 0, 0⟩, ⟨⟨some 33, .call 11 [.tmp 32], (some (30, true))⟩, .heavy, 0, 1⟩, ⟨⟨some 34, .call 17 [.tmp 31, .tmp 33], (some (30, true))⟩, .heavy, 1, 2⟩, ⟨⟨some 35, .pick (.tmp 30) (.tmp 34) (.const (.bool false)), none⟩, .pure, 2, 2⟩, ⟨⟨some 36, .move (.tmp 35), none⟩, .pure, 2, 2⟩, ⟨⟨some 37, .call 15 [], (some (36, true))⟩, .heavy, 2, 3⟩, ⟨⟨some 38, .pick (.tmp 36) (.tmp 37) (.const (.bool false)), none⟩, .pure, 3, 3⟩, ⟨⟨some 2, .move (.tmp 38), none⟩, .pure, 3, 3⟩])
 K4_6
def K4_4 : LCode :=
 .seq (.region [⟨some 24, .move (.tmp 3), none⟩, ⟨some 25, .call 16 [.tmp 24], none⟩, ⟨some 23, .move (.tmp 25), none⟩, ⟨some 26, .extract (.tmp 23) 0, none⟩, ⟨some 27, .extract (.tmp 23) 1, none⟩, ⟨some 5, .new 42 23 [.int .i64 0, .slice none 0 0, .slice none 0 0, .int .i64 0, .int .i64 0, .int .i64 0, .int .i64 0, .int .i64 0, .int .i64 0, .int .i64 0, .slice none 0 0, .int .i64 0, .int .i64 0, .int .i64 0, .int .i64 0, .int .i64 0, .int .i64 0, .int .i64 0, .int .i64 0, .int .i64 0, .int .i64 0, .bool false, .slice none 0 0], none⟩, ⟨none, .store 23 (.tmp 5) (.tmp 26), none⟩, ⟨some 6, .move (.tmp 27), none⟩])
 K4_5
def K4_3 : LCode :=
 .seq (.seq (.region [⟨some 15, .move (.tmp 4), none⟩, ⟨some 16, .bin .neq (.tmp 15) (.const (.int .i64 0)), none⟩])
 (.cond (.tmp 16) (.seq (.region [⟨some 17, .move (.tmp 3), none⟩, ⟨some 18, .len (.tmp 17), none⟩, ⟨some 19, .bin .eql (.tmp 18) (.const (.int .i64 0)), none⟩, ⟨some 20, .move (.tmp 19), none⟩, ⟨some 21, .call 15 [], (some (20, true))⟩, ⟨some 22, .pick (.tmp 20) (.tmp 21) (.const (.bool false)), none⟩, ⟨some 2, .move (.tmp 22), none⟩])
 (.ret))
 (.skip)))
 K4_4
def K4_2 : LCode :=
 .seq (.region [⟨some 10, .load true 23 (.tmp 1), none⟩, ⟨some 11, .call 11 [.tmp 10], none⟩, ⟨some 12, .call 10 [.tmp 11], none⟩, ⟨some 9, .move (.tmp 12), none⟩, ⟨some 13, .extract (.tmp 9) 0, none⟩, ⟨some 14, .extract (.tmp 9) 1, none⟩, ⟨some 3, .move (.tmp 13), none⟩, ⟨some 4, .move (.tmp 14), none⟩])
 K4_3
def K4_1 : LCode :=
 .seq (.seq (.region [⟨some 7, .load true 23 (.tmp 1), none⟩, ⟨some 8, .call 9 [.tmp 7, .const (.int .i64 50000)], none⟩])
 (.cond (.tmp 8) (.seq (.region [⟨some 2, .move (.const (.bool true)), none⟩])
 (.ret))
 (.skip)))
 K4_2
def K4_0 : LCode :=
 .seq (.region [⟨some 1, .box 35 23 (.tmp 0), none⟩, ⟨some 2, .move (.const (.bool false)), none⟩])
 K4_1
def L4 : LCode := K4_0
def K5_10 : LCode := .ret
def K5_9 : LCode :=
 .seq (.region [⟨some 60, .move (.tmp 11), none⟩, ⟨some 61, .bin .eql (.tmp 60) (.const (.int .i64 0)), none⟩, ⟨some 62, .move (.tmp 61), none⟩, ⟨some 63, .move (.tmp 10), (some (62, true))⟩, ⟨some 64, .toStr (.tmp 63), (some (62, true))⟩, ⟨some 65, .move (.tmp 5), (some (62, true))⟩, ⟨some 66, .toStr (.tmp 65), (some (62, true))⟩, ⟨some 67, .bin .eql (.tmp 64) (.tmp 66), (some (62, true))⟩, ⟨some 68, .pick (.tmp 62) (.tmp 67) (.const (.bool false)), none⟩, ⟨some 69, .move (.tmp 68), none⟩, ⟨some 70, .load true 23 (.tmp 8), (some (69, true))⟩, ⟨some 71, .call 13 [.tmp 70], (some (69, true))⟩, ⟨some 72, .bin .eql (.tmp 71) (.const (.int .i64 0)), (some (69, true))⟩, ⟨some 73, .pick (.tmp 69) (.tmp 72) (.const (.bool false)), none⟩, ⟨some 74, .move (.tmp 73), none⟩, ⟨some 75, .call 15 [], (some (74, true))⟩, ⟨some 76, .pick (.tmp 74) (.tmp 75) (.const (.bool false)), none⟩, ⟨some 4, .move (.tmp 76), none⟩])
 K5_10
def K5_8 : LCode :=
 .seq (.region [⟨some 56, .load true 23 (.tmp 8), none⟩, ⟨some 57, .call 10 [.tmp 56], none⟩, ⟨some 55, .move (.tmp 57), none⟩, ⟨some 58, .extract (.tmp 55) 0, none⟩, ⟨some 59, .extract (.tmp 55) 1, none⟩, ⟨some 10, .move (.tmp 58), none⟩, ⟨some 11, .move (.tmp 59), none⟩])
 K5_9
def K5_7 : LCode :=
 .seq (.seq (.region [⟨some 47, .move (.tmp 9), none⟩, ⟨some 48, .bin .neq (.tmp 47) (.const (.int .i64 0)), none⟩])
 (.cond (.tmp 48) (.seq (.region [⟨some 49, .load true 23 (.tmp 8), none⟩, ⟨some 50, .build [.int .i64 0, .slice none 0 0, .slice none 0 0, .int .i64 0, .int .i64 0, .int .i64 0, .int .i64 0, .int .i64 0, .int .i64 0, .int .i64 0, .slice none 0 0, .int .i64 0, .int .i64 0, .int .i64 0, .int .i64 0, .int .i64 0, .int .i64 0, .int .i64 0, .int .i64 0, .int .i64 0, .int .i64 0, .bool false, .slice none 0 0] [], none⟩, ⟨some 51, .call 17 [.tmp 49, .tmp 50], none⟩, ⟨some 52, .move (.tmp 51), none⟩, ⟨some 53, .call 15 [], (some (52, true))⟩, ⟨some 54, .pick (.tmp 52) (.tmp 53) (.const (.bool false)), none⟩, ⟨some 4, .move (.tmp 54), none⟩])
 (.ret))
 (.skip)))
 K5_8
def K5_6 : LCode :=
 .seq (.seq (.region [⟨some 34, .move (.tmp 7), none⟩, ⟨some 35, .bin .neq (.tmp 34) (.const (.int .i64 0)), none⟩])
 (.cond (.tmp 35) (.seq (.region [⟨some 36, .move (.tmp 9), none⟩, ⟨some 37, .move (.tmp 7), none⟩, ⟨some 38, .bin .eql (.tmp 36) (.tmp 37), none⟩, ⟨some 39, .move (.tmp 38), none⟩, ⟨some 40, .load true 23 (.tmp 8), (some (39, true))⟩, ⟨some 41, .build [.int .i64 0, .slice none 0 0, .slice none 0 0, .int .i64 0, .int .i64 0, .int .i64 0, .int .i64 0, .int .i64 0, .int .i64 0, .int .i64 0, .slice none 0 0, .int .i64 0, .int .i64 0, .int .i64 0, .int .i64 0, .int .i64 0, .int .i64 0, .int .i64 0, .int .i64 0, .int .i64 0, .int .i64 0, .bool false, .slice none 0 0] [], (some (39, true))⟩, ⟨some 42, .call 17 [.tmp 40, .tmp 41], (some (39, true))⟩, ⟨some 43, .pick (.tmp 39) (.tmp 42) (.const (.bool false)), none⟩, ⟨some 44, .move (.tmp 43), none⟩, ⟨some 45, .call 15 [], (some (44, true))⟩, ⟨some 46, .pick (.tmp 44) (.tmp 45) (.const (.bool false)), none⟩, ⟨some 4, .move (.tmp 46), none⟩])
 (.ret))
 (.skip)))
 K5_7
def K5_5 : LCode :=
 .seq (.region [⟨some 30, .move (.tmp 5), none⟩, ⟨some 31, .call 16 [.tmp 30], none⟩, ⟨some 29, .move (.tmp 31), none⟩, ⟨some 32, .extract (.tmp 29) 0, none⟩, ⟨some 33, .extract (.tmp 29) 1, none⟩, ⟨some 8, .new 42 23 [.int .i64 0, .slice none 0 0, .slice none 0 0, .int .i64 0, .int .i64 0, .int .i64 0, .int .i64 0, .int .i64 0, .int .i64 0, .int .i64 0, .slice none 0 0, .int .i64 0, .int .i64 0, .int .i64 0, .int .i64 0, .int .i64 0, .int .i64 0, .int .i64 0, .int .i64 0, .int .i64 0, .int .i64 0, .bool false, .slice none 0 0], none⟩, ⟨none, .store 23 (.tmp 8) (.tmp 32), none⟩, ⟨some 9, .move (.tmp 33), none⟩])
 K5_6
def K5_4 : LCode :=
 .seq (.region [⟨some 25, .move (.tmp 5), none⟩, ⟨some 26, .call 19 [.tmp 25], none⟩, ⟨some 24, .move (.tmp 26), none⟩, ⟨some 27, .extract (.tmp 24) 0, none⟩, ⟨some 28, .extract (.tmp 24) 1, none⟩, ⟨some 6, .move (.tmp 27), none⟩, ⟨some 7, .move (.tmp 28), none⟩])
 K5_5
def K5_3 : LCode :=
 .seq (.seq (.region [⟨some 18, .move (.tmp 1), none⟩])
 (.cond (.tmp 18) (.region [⟨some 20, .move (.tmp 0), none⟩, ⟨some 21, .call 18 [.tmp 20], none⟩, ⟨some 19, .move (.tmp 21), none⟩, ⟨some 22, .extract (.tmp 19) 0, none⟩, ⟨some 23, .extract (.tmp 19) 1, none⟩, ⟨some 5, .move (.tmp 22), none⟩])
 (.skip)))
 K5_4
def K5_2 : LCode :=
 .seq (.region [⟨some 15, .buildSlice 5 1 0 [.int .u8 0] [], none⟩, ⟨some 16, .move (.tmp 0), none⟩, ⟨some 17, .append 5 1 1 (.tmp 15) (.tmp 16), none⟩, ⟨some 5, .move (.tmp 17), none⟩])
 K5_3
def K5_1 : LCode :=
 .seq (.seq (.region [⟨some 12, .move (.tmp 0), none⟩, ⟨some 13, .len (.tmp 12), none⟩, ⟨some 14, .bin .gtr (.tmp 13) (.const (.int .i64 20000)), none⟩])
 (.cond (.tmp 14) (.seq (.region [⟨some 4, .move (.const (.bool true)), none⟩])
 (.ret))
 (.skip)))
 K5_2
def K5_0 : LCode :=
 .seq (.region [⟨some 4, .move (.const (.bool false)), none⟩])
 K5_1
def L5 : LCode := K5_0
theorem light5 : Light Tryz.prog 5 2 77 L5 [.tmp 4] :=
  ⟨Tryz.f5, _, Tryz.func5, rfl, rfl, by kernel_rfl, by kernel_rfl, by decide⟩
def L18 : LCode :=
 .seq (.region [⟨some 2, .move (.const (.slice none 0 0)), none⟩, ⟨some 3, .move (.const (.int .i64 0)), none⟩])
 (.seq (.seq (.region [⟨some 5, .move (.tmp 0), none⟩, ⟨some 6, .len (.tmp 5), none⟩, ⟨some 7, .bin .gtr (.tmp 6) (.const (.int .i64 1048576)), none⟩])
 (.cond (.tmp 7) (.seq (.region [⟨some 2, .move (.const (.slice none 0 0)), none⟩, ⟨some 3, .move (.const (.int .i64 23)), none⟩])
 (.ret))
 (.skip)))
 (.seq (.region [⟨some 8, .buildSlice 5 1 4 [.int .u8 0] [(0, 1, .const (.int .u8 111)), (1, 1, .const (.int .u8 117)), (2, 1, .const (.int .u8 116)), (3, 1, .const (.int .u8 114))], none⟩, ⟨some 9, .mark (.tmp 8), none⟩, ⟨some 4, .move (.tmp 9), none⟩])
 (.seq (.region [⟨some 10, .move (.tmp 4), none⟩, ⟨some 11, .move (.tmp 0), none⟩, ⟨some 12, .len (.tmp 11), none⟩, ⟨some 13, .conv .u64 (.tmp 12), none⟩, ⟨some 14, .call 60 [.tmp 13, .const (.int .i64 4)], none⟩, ⟨some 15, .append 5 1 1 (.tmp 10) (.tmp 14), none⟩, ⟨some 4, .move (.tmp 15), none⟩])
 (.seq (.region [⟨some 16, .move (.tmp 4), none⟩, ⟨some 17, .move (.tmp 0), none⟩, ⟨some 18, .call 61 [.tmp 17], none⟩, ⟨some 19, .call 60 [.tmp 18, .const (.int .i64 8)], none⟩, ⟨some 20, .append 5 1 1 (.tmp 16) (.tmp 19), none⟩, ⟨some 4, .move (.tmp 20), none⟩])
 (.seq (.region [⟨some 21, .move (.tmp 4), none⟩, ⟨some 22, .move (.tmp 0), none⟩, ⟨some 23, .append 5 1 1 (.tmp 21) (.tmp 22), none⟩, ⟨some 2, .move (.tmp 23), none⟩, ⟨some 3, .move (.const (.int .i64 0)), none⟩])
 (.ret))))))
theorem light18 : Light Tryz.prog 18 1 24 L18 [.tmp 2, .tmp 3] :=
  ⟨Tryz.f18, _, Tryz.func18, rfl, rfl, by kernel_rfl, by kernel_rfl, by decide⟩
def L19 : LCode :=
 .seq (.region [⟨some 2, .move (.const (.slice none 0 0)), none⟩, ⟨some 3, .move (.const (.int .i64 0)), none⟩])
 (.seq (.seq (.region [⟨some 6, .move (.tmp 0), none⟩, ⟨some 7, .len (.tmp 6), none⟩, ⟨some 8, .bin .lss (.tmp 7) (.const (.int .i64 16)), none⟩])
 (.cond (.tmp 8) (.seq (.region [⟨some 2, .move (.const (.slice none 0 0)), none⟩, ⟨some 3, .move (.const (.int .i64 20)), none⟩])
 (.ret))
 (.skip)))
 (.seq (.region [⟨some 10, .move (.tmp 0), none⟩, ⟨some 11, .slice 1 (.tmp 10) (some (.const (.int .i64 16))) none none, none⟩, ⟨some 12, .call 18 [.tmp 11], none⟩, ⟨some 9, .move (.tmp 12), none⟩, ⟨some 13, .extract (.tmp 9) 0, none⟩, ⟨some 14, .extract (.tmp 9) 1, none⟩, ⟨some 4, .move (.tmp 13), none⟩, ⟨some 5, .move (.tmp 14), none⟩])
 (.seq (.seq (.draw [⟨⟨some 15, .move (.tmp 5), none⟩, .pure, 0, 0⟩, ⟨⟨some 16, .bin .neq (.tmp 15) (.const (.int .i64 0)), none⟩, .pure, 0, 0⟩, ⟨⟨some 17, .move (.tmp 16), none⟩, .pure, 0, 0⟩, ⟨⟨some 18, .move (.tmp 0), (some (17, false))⟩, .pure, 0, 0⟩, ⟨⟨some 19, .slice 1 (.tmp 18) none (some (.const (.int .i64 8))) none, (some (17, false))⟩, .pure, 0, 0⟩, ⟨⟨some 20, .toStr (.tmp 19), (some (17, false))⟩, .read, 0, 0⟩, ⟨⟨some 21, .move (.tmp 4), (some (17, false))⟩, .pure, 0, 0⟩, ⟨⟨some 22, .slice 1 (.tmp 21) none (some (.const (.int .i64 8))) none, (some (17, false))⟩, .pure, 0, 0⟩, ⟨⟨some 23, .toStr (.tmp 22), (some (17, false))⟩, .read, 0, 0⟩, ⟨⟨some 24, .bin .neq (.tmp 20) (.tmp 23), (some (17, false))⟩, .pure, 0, 0⟩, ⟨⟨some 25, .pick (.tmp 17) (.const (.bool true)) (.tmp 24), none⟩, .pure, 0, 0⟩])
 (.cond (.tmp 25) (.seq (.region [⟨some 2, .move (.const (.slice none 0 0)), none⟩, ⟨some 3, .move (.const (.int .i64 21)), none⟩])
 (.ret))
 (.skip)))
 (.seq (.seq (.region [⟨some 26, .move (.tmp 0), none⟩, ⟨some 27, .toStr (.tmp 26), none⟩, ⟨some 28, .move (.tmp 4), none⟩, ⟨some 29, .toStr (.tmp 28), none⟩, ⟨some 30, .bin .neq (.tmp 27) (.tmp 29), none⟩])
 (.cond (.tmp 30) (.seq (.region [⟨some 2, .move (.const (.slice none 0 0)), none⟩, ⟨some 3, .move (.const (.int .i64 22)), none⟩])
 (.ret))
 (.skip)))
 (.seq (.region [⟨some 31, .buildSlice 5 1 0 [.int .u8 0] [], none⟩, ⟨some 32, .move (.tmp 0), none⟩, ⟨some 33, .slice 1 (.tmp 32) (some (.const (.int .i64 16))) none none, none⟩, ⟨some 34, .append 5 1 1 (.tmp 31) (.tmp 33), none⟩, ⟨some 2, .move (.tmp 34), none⟩, ⟨some 3, .move (.const (.int .i64 0)), none⟩])
 (.ret))))))
theorem light19 : Light Tryz.prog 19 1 35 L19 [.tmp 2, .tmp 3] :=
  ⟨Tryz.f19, _, Tryz.func19, rfl, rfl, by kernel_rfl, by kernel_rfl, by decide⟩
def L60_1 : LCode :=
 .seq (.seq (.region [⟨some 7, .move (.tmp 6), none⟩, ⟨some 8, .move (.tmp 1), none⟩, ⟨some 9, .bin .lss (.tmp 7) (.tmp 8), none⟩])
 (.cond (.tmp 9) (.skip)
 (.exit 0)))
 (.seq (.block 1 (.seq (.region [⟨some 12, .move (.tmp 5), none⟩, ⟨some 13, .move (.tmp 0), none⟩, ⟨some 14, .bin .rem (.tmp 13) (.const (.int .u64 256)), none⟩, ⟨some 15, .conv .u8 (.tmp 14), none⟩, ⟨some 16, .buildSlice 5 1 1 [.int .u8 0] [(0, 1, .tmp 15)], none⟩, ⟨some 17, .append 5 1 1 (.tmp 12) (.tmp 16), none⟩, ⟨some 5, .move (.tmp 17), none⟩])
 (.region [⟨some 18, .move (.tmp 0), none⟩, ⟨some 19, .bin .quo (.tmp 18) (.const (.int .u64 256)), none⟩, ⟨some 0, .move (.tmp 19), none⟩])))
 (.region [⟨some 10, .move (.tmp 6), none⟩, ⟨some 11, .bin .add (.tmp 10) (.const (.int .i64 1)), none⟩, ⟨some 6, .move (.tmp 11), none⟩]))
def L60 : LCode :=
 .seq (.region [⟨some 4, .move (.const (.slice none 0 0)), none⟩])
 (.seq (.region [⟨some 5, .move (.const (.slice none 0 0)), none⟩])
 (.seq (.seq (.region [⟨some 6, .move (.const (.int .i64 0)), none⟩])
 (.block 0 (.loop L60_1)))
 (.seq (.region [⟨some 20, .move (.tmp 5), none⟩, ⟨some 4, .move (.tmp 20), none⟩])
 (.ret))))
theorem light60 : Light Tryz.prog 60 2 21 L60 [.tmp 4] :=
  ⟨Tryz.f60, _, Tryz.func60, rfl, rfl, by kernel_rfl, by kernel_rfl, by decide⟩
def L61_1 : LCode :=
 .seq (.seq (.region [⟨some 5, .move (.tmp 4), none⟩, ⟨some 6, .move (.tmp 0), none⟩, ⟨some 7, .len (.tmp 6), none⟩, ⟨some 8, .bin .lss (.tmp 5) (.tmp 7), none⟩])
 (.cond (.tmp 8) (.skip)
 (.exit 0)))
 (.seq (.block 1 (.seq (.region [⟨some 11, .move (.tmp 3), none⟩, ⟨some 12, .move (.tmp 0), none⟩, ⟨some 13, .move (.tmp 4), none⟩, ⟨some 14, .idx 1 (.tmp 12) (.tmp 13), none⟩, ⟨some 15, .load false 1 (.tmp 14), none⟩, ⟨some 16, .conv .u64 (.tmp 15), none⟩, ⟨some 17, .bin .xor (.tmp 11) (.tmp 16), none⟩, ⟨some 3, .move (.tmp 17), none⟩])
 (.region [⟨some 18, .move (.tmp 3), none⟩, ⟨some 19, .bin .mul (.tmp 18) (.const (.int .u64 1099511628211)), none⟩, ⟨some 3, .move (.tmp 19), none⟩])))
 (.region [⟨some 9, .move (.tmp 4), none⟩, ⟨some 10, .bin .add (.tmp 9) (.const (.int .i64 1)), none⟩, ⟨some 4, .move (.tmp 10), none⟩]))
def L61 : LCode :=
 .seq (.region [⟨some 2, .move (.const (.int .u64 0)), none⟩])
 (.seq (.region [⟨some 3, .move (.const (.int .u64 14695981039346656037)), none⟩])
 (.seq (.seq (.region [⟨some 4, .move (.const (.int .i64 0)), none⟩])
 (.block 0 (.loop L61_1)))
 (.seq (.region [⟨some 20, .move (.tmp 3), none⟩, ⟨some 2, .move (.tmp 20), none⟩])
 (.ret))))
theorem light61 : Light Tryz.prog 61 1 21 L61 [.tmp 2] :=
  ⟨Tryz.f61, _, Tryz.func61, rfl, rfl, by kernel_rfl, by kernel_rfl, by decide⟩
def L89_1 : LCode :=
 .seq (.seq (.region [⟨some 7, .move (.tmp 3), none⟩, ⟨some 8, .move (.tmp 0), none⟩, ⟨some 9, .len (.tmp 8), none⟩, ⟨some 10, .bin .lss (.tmp 7) (.tmp 9), none⟩])
 (.cond (.tmp 10) (.skip)
 (.exit 0)))
 (.seq (.block 1 (.seq (.region [⟨some 13, .move (.tmp 0), none⟩, ⟨some 14, .move (.tmp 3), none⟩, ⟨some 15, .idx 2 (.tmp 13) (.tmp 14), none⟩, ⟨some 16, .off 0 (.tmp 15), none⟩, ⟨some 17, .load false 1 (.tmp 16), none⟩, ⟨some 18, .call 122 [.tmp 17], none⟩, ⟨some 19, .un .not (.tmp 18), none⟩])
 (.cond (.tmp 19) (.seq (.region [⟨some 2, .move (.const (.int .i64 140)), none⟩])
 (.ret))
 (.skip))))
 (.region [⟨some 11, .move (.tmp 3), none⟩, ⟨some 12, .bin .add (.tmp 11) (.const (.int .i64 1)), none⟩, ⟨some 3, .move (.tmp 12), none⟩]))
def L89 : LCode :=
 .seq (.region [⟨some 2, .move (.const (.int .i64 0)), none⟩])
 (.seq (.seq (.region [⟨some 4, .move (.tmp 0), none⟩, ⟨some 5, .len (.tmp 4), none⟩, ⟨some 6, .bin .gtr (.tmp 5) (.const (.int .i64 4)), none⟩])
 (.cond (.tmp 6) (.seq (.region [⟨some 2, .move (.const (.int .i64 171)), none⟩])
 (.ret))
 (.skip)))
 (.seq (.seq (.region [⟨some 3, .move (.const (.int .i64 0)), none⟩])
 (.block 0 (.loop L89_1)))
 (.seq (.region [⟨some 2, .move (.const (.int .i64 0)), none⟩])
 (.ret))))
theorem light89 : Light Tryz.prog 89 1 20 L89 [.tmp 2] :=
  ⟨Tryz.f89, _, Tryz.func89, rfl, rfl, by kernel_rfl, by kernel_rfl, by decide⟩
def L122 : LCode :=
 .seq (.region [⟨some 2, .move (.const (.bool false)), none⟩])
 (.seq (.region [⟨some 3, .move (.tmp 0), none⟩, ⟨some 4, .bin .geq (.tmp 3) (.const (.int .i64 1)), none⟩, ⟨some 5, .move (.tmp 4), none⟩, ⟨some 6, .move (.tmp 0), (some (5, true))⟩, ⟨some 7, .bin .leq (.tmp 6) (.const (.int .i64 7)), (some (5, true))⟩, ⟨some 8, .pick (.tmp 5) (.tmp 7) (.const (.bool false)), none⟩, ⟨some 2, .move (.tmp 8), none⟩])
 (.ret))
theorem light122 : Light Tryz.prog 122 1 9 L122 [.tmp 2] :=
  ⟨Tryz.f122, _, Tryz.func122, rfl, rfl, by kernel_rfl, by kernel_rfl, by decide⟩
end Go.Proofs.YtnomffikflfilaaGreat
