/-
  The light code of functions of this seat: printed by a program of this session (wip/tools/lightgen.py); each is held against the program by the kernel.
-/
import Derived.Test.YtnomffikflfilaaGreatSeatLB
import Derived.KernelRfl
import Derived.Test.YtnomffikflfilaaGreatProg
set_option maxRecDepth 100000
namespace Go.Proofs.YtnomffikflfilaaGreat
open Go.Ot
def L3 : LCode :=
 .seq (.region [⟨some 1, .box 35 23 (.tmp 0), none⟩, ⟨some 2, .move (.const (.bool false)), none⟩])
 (.seq (.seq (.region [⟨some 7, .load true 23 (.tmp 1), none⟩, ⟨some 8, .call 9 [.tmp 7, .const (.int .i64 50000)], none⟩])
 (.cond (.tmp 8) (.seq (.region [⟨some 2, .move (.const (.bool true)), none⟩])
 (.ret))
 (.skip)))
 (.seq (.region [⟨some 10, .load true 23 (.tmp 1), none⟩, ⟨some 11, .call 11 [.tmp 10], none⟩, ⟨some 12, .call 10 [.tmp 11], none⟩, ⟨some 9, .move (.tmp 12), none⟩, ⟨some 13, .extract (.tmp 9) 0, none⟩, ⟨some 14, .extract (.tmp 9) 1, none⟩, ⟨some 3, .move (.tmp 13), none⟩, ⟨some 4, .move (.tmp 14), none⟩])
 (.seq (.region [⟨some 16, .off 0 (.tmp 1), none⟩, ⟨some 17, .load true 11 (.tmp 16), none⟩, ⟨some 18, .off 11 (.tmp 1), none⟩, ⟨some 19, .load true 11 (.tmp 18), none⟩, ⟨some 20, .off 22 (.tmp 1), none⟩, ⟨some 21, .load false 1 (.tmp 20), none⟩, ⟨some 22, .call 12 [.tmp 17, .tmp 19, .tmp 21], none⟩, ⟨some 15, .move (.tmp 22), none⟩, ⟨some 23, .extract (.tmp 15) 0, none⟩, ⟨some 24, .extract (.tmp 15) 1, none⟩, ⟨some 5, .move (.tmp 23), none⟩, ⟨some 6, .move (.tmp 24), none⟩])
 (.seq (.draw [⟨⟨some 25, .move (.tmp 3), none⟩, .pure, 0, 0⟩, ⟨⟨some 26, .toStr (.tmp 25), none⟩, .read, 0, 0⟩, ⟨⟨some 27, .move (.tmp 5), none⟩, .pure, 0, 0⟩, ⟨⟨some 28, .toStr (.tmp 27), none⟩, .read, 0, 0⟩, ⟨⟨some 29, .bin .eql (.tmp 26) (.tmp 28), none⟩, .pure, 0, 0⟩, ⟨⟨some 30, .move (.tmp 29), none⟩, .pure, 0, 0⟩, ⟨⟨some 31, .move (.tmp 4), (some (30, true))⟩, .pure, 0, 0⟩, ⟨⟨some 32, .move (.tmp 6), (some (30, true))⟩, .pure, 0, 0⟩, ⟨⟨some 33, .bin .eql (.tmp 31) (.tmp 32), (some (30, true))⟩, .pure, 0, 0⟩, ⟨⟨some 34, .pick (.tmp 30) (.tmp 33) (.const (.bool false)), none⟩, .pure, 0, 0⟩, ⟨⟨some 35, .move (.tmp 34), none⟩, .pure, 0, 0⟩, ⟨⟨some 36, .load true 23 (.tmp 1), (some (35, true))⟩, .read, 0, 0⟩, ⟨⟨some 37, .call 11 [.tmp 36], (some (35, true))⟩, .heavy, 0, 1⟩, ⟨⟨some 38, .call 13 [.tmp 37], (some (35, true))⟩, .heavy, 1, 2⟩, ⟨⟨some 39, .off 0 (.tmp 1), (some (35, true))⟩, .pure, 0, 2⟩, ⟨⟨some 40, .load true 11 (.tmp 39), (some (35, true))⟩, .read, 0, 2⟩, ⟨⟨some 41, .off 11 (.tmp 1), (some (35, true))⟩, .pure, 0, 2⟩, ⟨⟨some 42, .load true 11 (.tmp 41), (some (35, true))⟩, .read, 0, 2⟩, ⟨⟨some 43, .off 22 (.tmp 1), (some (35, true))⟩, .pure, 0, 2⟩, ⟨⟨some 44, .load false 1 (.tmp 43), (some (35, true))⟩, .read, 0, 2⟩, ⟨⟨some 45, .call 14 [.tmp 40, .tmp 42, .tmp 44], (some (35, true))⟩, .heavy, 2, 3⟩, ⟨⟨some 46, .bin .eql (.tmp 38) (.tmp 45), (some (35, true))⟩, .pure, 3, 3⟩, ⟨⟨some 47, .pick (.tmp 35) (.tmp 46) (.const (.bool false)), none⟩, .pure, 3, 3⟩, ⟨⟨some 48, .move (.tmp 47), none⟩, .pure, 3, 3⟩, ⟨⟨some 49, .call 15 [], (some (48, true))⟩, .heavy, 3, 4⟩, ⟨⟨some 50, .pick (.tmp 48) (.tmp 49) (.const (.bool false)), none⟩, .pure, 4, 4⟩, ⟨⟨some 2, .move (.tmp 50), none⟩, .pure, 4, 4⟩])
 (.ret)))))
def K4_6 : LCode := .ret
def K4_5 : LCode :=
 .seq (.draw [⟨⟨some 28, .move (.tmp 6), none⟩, .pure, 0, 0⟩, ⟨⟨some 29, .bin .eql (.tmp 28) (.const (.int .i64 0)), none⟩, .pure, 0, 0⟩, ⟨⟨some 30, .move (.tmp 29), none⟩, .pure, 0, 0⟩, ⟨⟨some 31, .load true 23 (.tmp 5), (some (30, true))⟩, .read, 0, 1⟩, ⟨⟨some 32, .load true 23 (.tmp 1), (some (30, true))⟩, .read, 0, 0⟩, ⟨⟨some 33, .call 11 [.tmp 32], (some (30, true))⟩, .heavy, 0, 1⟩, ⟨⟨some 34, .call 17 [.tmp 31, .tmp 33], (some (30, true))⟩, .heavy, 1, 2⟩, ⟨⟨some 35, .pick (.tmp 30) (.tmp 34) (.const (.bool false)), none⟩, .pure, 2, 2⟩, ⟨⟨some 36, .move (.tmp 35), none⟩, .pure, 2, 2⟩, ⟨⟨some 37, .call 15 [], (some (36, true))⟩, .heavy, 2, 3⟩, ⟨⟨some 38, .pick (.tmp 36) (.tmp 37) (.const (.bool false)), none⟩, .pure, 3, 3⟩, ⟨⟨some 2, .move (.tmp 38), none⟩, .pure, 3, 3⟩])
 K4_6
def K4_4 : LCode :=
 .seq (.region [⟨some 24, .move (.tmp 3), none⟩, ⟨some 25, .call 16 [.tmp 24], none⟩, ⟨some 23, .move (.tmp 25), none⟩, ⟨some 26, .extract (.tmp 23) 0, none⟩, ⟨some 27, .extract (.tmp 23) 1, none⟩, ⟨some 5, .new 42 23 [.int .i64 0, .slice none 0 0, .slice none 0 0, .int .i64 0, .int .i64 0, .int .i64 0, .int .i64 0, .int .i64 0, .int .i64 0, .int .i64 0, .slice none 0 0, .int .i64 0, .int .i64 0, .int .i64 0, .int .i64 0, .int .i64 0, .int .i64 0, .int .i64 0, .int .i64 0, .int .i64 0, .int .i64 0, .bool false, .slice none 0 0], none⟩, ⟨none, .store 23 (.tmp 5) (.tmp 26), none⟩, ⟨some 6, .move (.tmp 27), none⟩])
 K4_5
def K4_3 : LCode :=
 .seq (.seq (.region [⟨some 15, .move (.tmp 4), none⟩, ⟨some 16, .bin .neq (.tmp 15) (.const (.int .i64 0)), none⟩])
 (.cond (.tmp 16) (.seq (.region [⟨some 17, .move (.tmp 3), none⟩, ⟨some 18, .len (.tmp 17), none⟩, ⟨some 19, .bin .eql (.tmp 18) (.const (.int .i64 0)), none⟩, ⟨some 20, .move (.tmp 19), none⟩, ⟨some 21, .call 15 [], (some (20, true))⟩, ⟨some 22, .pick (.tmp 20) (.tmp 21) (.const (.bool false)), none⟩, ⟨some 2, .move (.tmp 22), none⟩])
 (.ret))
 (.skip)))
 K4_4
def K4_2 : LCode :=
 .seq (.region [⟨some 10, .load true 23 (.tmp 1), none⟩, ⟨some 11, .call 11 [.tmp 10], none⟩, ⟨some 12, .call 10 [.tmp 11], none⟩, ⟨some 9, .move (.tmp 12), none⟩, ⟨some 13, .extract (.tmp 9) 0, none⟩, ⟨some 14, .extract (.tmp 9) 1, none⟩, ⟨some 3, .move (.tmp 13), none⟩, ⟨some 4, .move (.tmp 14), none⟩])
 K4_3
def K4_1 : LCode :=
 .seq (.seq (.region [⟨some 7, .load true 23 (.tmp 1), none⟩, ⟨some 8, .call 9 [.tmp 7, .const (.int .i64 50000)], none⟩])
 (.cond (.tmp 8) (.seq (.region [⟨some 2, .move (.const (.bool true)), none⟩])
 (.ret))
 (.skip)))
 K4_2
def K4_0 : LCode :=
 .seq (.region [⟨some 1, .box 35 23 (.tmp 0), none⟩, ⟨some 2, .move (.const (.bool false)), none⟩])
 K4_1
def L4 : LCode := K4_0
theorem light4 : Light Tryz.prog 4 1 39 L4 [.tmp 2] :=
  ⟨Tryz.f4, _, Tryz.func4, rfl, rfl, by kernel_rfl, by kernel_rfl, by decide⟩
def L89_1 : LCode :=
 .seq (.seq (.region [⟨some 7, .move (.tmp 3), none⟩, ⟨some 8, .move (.tmp 0), none⟩, ⟨some 9, .len (.tmp 8), none⟩, ⟨some 10, .bin .lss (.tmp 7) (.tmp 9), none⟩])
 (.cond (.tmp 10) (.skip)
 (.exit 0)))
 (.seq (.block 1 (.seq (.region [⟨some 13, .move (.tmp 0), none⟩, ⟨some 14, .move (.tmp 3), none⟩, ⟨some 15, .idx 2 (.tmp 13) (.tmp 14), none⟩, ⟨some 16, .off 0 (.tmp 15), none⟩, ⟨some 17, .load false 1 (.tmp 16), none⟩, ⟨some 18, .call 122 [.tmp 17], none⟩, ⟨some 19, .un .not (.tmp 18), none⟩])
 (.cond (.tmp 19) (.seq (.region [⟨some 2, .move (.const (.int .i64 140)), none⟩])
 (.ret))
 (.skip))))
 (.region [⟨some 11, .move (.tmp 3), none⟩, ⟨some 12, .bin .add (.tmp 11) (.const (.int .i64 1)), none⟩, ⟨some 3, .move (.tmp 12), none⟩]))
def L89 : LCode :=
 .seq (.region [⟨some 2, .move (.const (.int .i64 0)), none⟩])
 (.seq (.seq (.region [⟨some 4, .move (.tmp 0), none⟩, ⟨some 5, .len (.tmp 4), none⟩, ⟨some 6, .bin .gtr (.tmp 5) (.const (.int .i64 4)), none⟩])
 (.cond (.tmp 6) (.seq (.region [⟨some 2, .move (.const (.int .i64 171)), none⟩])
 (.ret))
 (.skip)))
 (.seq (.seq (.region [⟨some 3, .move (.const (.int .i64 0)), none⟩])
 (.block 0 (.loop L89_1)))
 (.seq (.region [⟨some 2, .move (.const (.int .i64 0)), none⟩])
 (.ret))))
theorem light89 : Light Tryz.prog 89 1 20 L89 [.tmp 2] :=
  ⟨Tryz.f89, _, Tryz.func89, rfl, rfl, by kernel_rfl, by kernel_rfl, by decide⟩
def L122 : LCode :=
 .seq (.region [⟨some 2, .move (.const (.bool false)), none⟩])
 (.seq (.region [⟨some 3, .move (.tmp 0), none⟩, ⟨some 4, .bin .geq (.tmp 3) (.const (.int .i64 1)), none⟩, ⟨some 5, .move (.tmp 4), none⟩, ⟨some 6, .move (.tmp 0), (some (5, true))⟩, ⟨some 7, .bin .leq (.tmp 6) (.const (.int .i64 7)), (some (5, true))⟩, ⟨some 8, .pick (.tmp 5) (.tmp 7) (.const (.bool false)), none⟩, ⟨some 2, .move (.tmp 8), none⟩])
 (.ret))
theorem light122 : Light Tryz.prog 122 1 9 L122 [.tmp 2] :=
  ⟨Tryz.f122, _, Tryz.func122, rfl, rfl, by kernel_rfl, by kernel_rfl, by decide⟩
end Go.Proofs.YtnomffikflfilaaGreat
