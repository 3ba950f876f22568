/-
  The light code of functions of this seat: printed by a program of this session (wip/tools/lightgen.py); each is held against the program by the kernel.
-/
import Derived.Test.YthclcdboialfnaaOtT
import Derived.KernelRfl
import Derived.Test.YthclcdboialfnaaProg
set_option maxRecDepth 100000
namespace Go.Proofs.Ythclcdboialfnaa
open Go.Ot

/-! ### function 30: (*outrider/ver.Store).Ages -/
def L30_1 : LCode :=
 .seq (.region [⟨some 10, .nextM (.tmp 9), none⟩,
  ⟨some 11, .extract (.tmp 10) 0, none⟩])
 (.seq (.cond (.tmp 11) (.skip)
 (.exit 0))
 (.block 1 (.seq (.region [⟨some 12, .entryM (.tmp 9), none⟩,
  ⟨some 13, .extract (.tmp 12) 0, none⟩,
  ⟨some 4, .move (.tmp 13), none⟩])
 (.region [⟨some 14, .move (.tmp 3), none⟩,
  ⟨some 15, .move (.tmp 4), none⟩,
  ⟨some 16, .buildSlice 3 1 1 [.int .i64 0] [(0, 1, .tmp 15)], none⟩,
  ⟨some 17, .append 3 1 8 (.tmp 14) (.tmp 16), none⟩,
  ⟨some 3, .move (.tmp 17), none⟩]))))
def L30 : LCode :=
 .seq (.region [⟨some 2, .move (.const (.slice none 0 0)), none⟩])
 (.seq (.region [⟨some 3, .move (.const (.slice none 0 0)), none⟩])
 (.seq (.seq (.region [⟨some 5, .move (.tmp 0), none⟩,
  ⟨some 6, .nilCheck (.tmp 5), none⟩,
  ⟨some 7, .off 3 (.tmp 6), none⟩,
  ⟨some 8, .load false 1 (.tmp 7), none⟩,
  ⟨some 9, .rangeM (.tmp 8), none⟩])
 (.block 0 (.loop L30_1)))
 (.seq (.region [⟨some 18, .move (.tmp 3), none⟩,
  ⟨some 19, .call 39 [.tmp 18], none⟩])
 (.seq (.region [⟨some 20, .move (.tmp 3), none⟩,
  ⟨some 2, .move (.tmp 20), none⟩])
 (.ret)))))
theorem light30 : Light Try.prog 30 1 21 L30 [.tmp 2] :=
  ⟨Try.f30, _, Try.func30, rfl, rfl, by kernel_rfl, by kernel_rfl, by decide⟩

/-! ### function 39: sort.Ints -/
def L39 : LCode :=
 .region [⟨some 2, .move (.tmp 0), none⟩,
  ⟨some 3, .call 40 [.tmp 2], none⟩]
theorem light39 : Light Try.prog 39 1 4 L39 [] :=
  ⟨Try.f39, _, Try.func39, rfl, rfl, by kernel_rfl, by kernel_rfl, by decide⟩

/-! ### function 40: slices.Sort[[]int,int] -/
def L40 : LCode :=
 .seq (.region [⟨some 3, .move (.tmp 0), none⟩,
  ⟨some 4, .len (.tmp 3), none⟩,
  ⟨some 2, .move (.tmp 4), none⟩])
 (.region [⟨some 5, .move (.tmp 0), none⟩,
  ⟨some 6, .move (.tmp 2), none⟩,
  ⟨some 7, .move (.tmp 2), none⟩,
  ⟨some 8, .conv .u64 (.tmp 7), none⟩,
  ⟨some 9, .call 42 [.tmp 8], none⟩,
  ⟨some 10, .call 41 [.tmp 5, .const (.int .i64 0), .tmp 6, .tmp 9], none⟩])
theorem light40 : Light Try.prog 40 1 11 L40 [] :=
  ⟨Try.f40, _, Try.func40, rfl, rfl, by kernel_rfl, by kernel_rfl, by decide⟩

/-! ### function 41: slices.pdqsortOrdered[int] -/
def L41_1 : LCode :=
 .block 1 (.seq (.region [⟨some 19, .move (.tmp 2), none⟩,
  ⟨some 20, .move (.tmp 1), none⟩,
  ⟨some 21, .bin .sub (.tmp 19) (.tmp 20), none⟩,
  ⟨some 10, .move (.tmp 21), none⟩])
 (.seq (.seq (.region [⟨some 22, .move (.tmp 10), none⟩,
  ⟨some 23, .bin .leq (.tmp 22) (.const (.int .i64 12)), none⟩])
 (.cond (.tmp 23) (.seq (.region [⟨some 24, .move (.tmp 0), none⟩,
  ⟨some 25, .move (.tmp 1), none⟩,
  ⟨some 26, .move (.tmp 2), none⟩,
  ⟨some 27, .call 43 [.tmp 24, .tmp 25, .tmp 26], none⟩])
 (.ret))
 (.skip)))
 (.seq (.seq (.region [⟨some 28, .move (.tmp 3), none⟩,
  ⟨some 29, .bin .eql (.tmp 28) (.const (.int .i64 0)), none⟩])
 (.cond (.tmp 29) (.seq (.region [⟨some 30, .move (.tmp 0), none⟩,
  ⟨some 31, .move (.tmp 1), none⟩,
  ⟨some 32, .move (.tmp 2), none⟩,
  ⟨some 33, .call 44 [.tmp 30, .tmp 31, .tmp 32], none⟩])
 (.ret))
 (.skip)))
 (.seq (.seq (.region [⟨some 34, .move (.tmp 8), none⟩,
  ⟨some 35, .un .not (.tmp 34), none⟩])
 (.cond (.tmp 35) (.seq (.region [⟨some 36, .move (.tmp 0), none⟩,
  ⟨some 37, .move (.tmp 1), none⟩,
  ⟨some 38, .move (.tmp 2), none⟩,
  ⟨some 39, .call 45 [.tmp 36, .tmp 37, .tmp 38], none⟩])
 (.region [⟨some 40, .move (.tmp 3), none⟩,
  ⟨some 41, .bin .sub (.tmp 40) (.const (.int .i64 1)), none⟩,
  ⟨some 3, .move (.tmp 41), none⟩]))
 (.skip)))
 (.seq (.region [⟨some 43, .move (.tmp 0), none⟩,
  ⟨some 44, .move (.tmp 1), none⟩,
  ⟨some 45, .move (.tmp 2), none⟩,
  ⟨some 46, .call 46 [.tmp 43, .tmp 44, .tmp 45], none⟩,
  ⟨some 42, .move (.tmp 46), none⟩,
  ⟨some 47, .extract (.tmp 42) 0, none⟩,
  ⟨some 48, .extract (.tmp 42) 1, none⟩,
  ⟨some 11, .move (.tmp 47), none⟩,
  ⟨some 12, .move (.tmp 48), none⟩])
 (.seq (.seq (.region [⟨some 49, .move (.tmp 12), none⟩,
  ⟨some 50, .bin .eql (.tmp 49) (.const (.int .i64 2)), none⟩])
 (.cond (.tmp 50) (.seq (.region [⟨some 51, .move (.tmp 0), none⟩,
  ⟨some 52, .move (.tmp 1), none⟩,
  ⟨some 53, .move (.tmp 2), none⟩,
  ⟨some 54, .call 47 [.tmp 51, .tmp 52, .tmp 53], none⟩])
 (.seq (.region [⟨some 55, .move (.tmp 2), none⟩,
  ⟨some 56, .bin .sub (.tmp 55) (.const (.int .i64 1)), none⟩,
  ⟨some 57, .move (.tmp 11), none⟩,
  ⟨some 58, .move (.tmp 1), none⟩,
  ⟨some 59, .bin .sub (.tmp 57) (.tmp 58), none⟩,
  ⟨some 60, .bin .sub (.tmp 56) (.tmp 59), none⟩,
  ⟨some 11, .move (.tmp 60), none⟩])
 (.region [⟨some 12, .move (.const (.int .i64 1)), none⟩])))
 (.skip)))
 (.seq (.seq (.region [⟨some 61, .move (.tmp 8), none⟩,
  ⟨some 62, .move (.tmp 61), none⟩,
  ⟨some 63, .move (.tmp 9), (some (62, true))⟩,
  ⟨some 64, .pick (.tmp 62) (.tmp 63) (.const (.bool false)), none⟩,
  ⟨some 65, .move (.tmp 64), none⟩,
  ⟨some 66, .move (.tmp 12), (some (65, true))⟩,
  ⟨some 67, .bin .eql (.tmp 66) (.const (.int .i64 1)), (some (65, true))⟩,
  ⟨some 68, .pick (.tmp 65) (.tmp 67) (.const (.bool false)), none⟩])
 (.cond (.tmp 68) (.seq (.region [⟨some 69, .move (.tmp 0), none⟩,
  ⟨some 70, .move (.tmp 1), none⟩,
  ⟨some 71, .move (.tmp 2), none⟩,
  ⟨some 72, .call 48 [.tmp 69, .tmp 70, .tmp 71], none⟩])
 (.cond (.tmp 72) (.ret)
 (.skip)))
 (.skip)))
 (.seq (.seq (.draw [⟨⟨some 73, .move (.tmp 1), none⟩, .pure, 0, 0⟩,
  ⟨⟨some 74, .bin .gtr (.tmp 73) (.const (.int .i64 0)), none⟩, .pure, 0, 0⟩,
  ⟨⟨some 75, .move (.tmp 74), none⟩, .pure, 0, 0⟩,
  ⟨⟨some 76, .move (.tmp 0), (some (75, true))⟩, .pure, 0, 0⟩,
  ⟨⟨some 77, .move (.tmp 1), (some (75, true))⟩, .pure, 0, 0⟩,
  ⟨⟨some 78, .bin .sub (.tmp 77) (.const (.int .i64 1)), (some (75, true))⟩, .pure, 0, 0⟩,
  ⟨⟨some 79, .idx 1 (.tmp 76) (.tmp 78), (some (75, true))⟩, .pure, 0, 0⟩,
  ⟨⟨some 80, .load false 1 (.tmp 79), (some (75, true))⟩, .read, 0, 0⟩,
  ⟨⟨some 81, .move (.tmp 0), (some (75, true))⟩, .pure, 0, 0⟩,
  ⟨⟨some 82, .move (.tmp 11), (some (75, true))⟩, .pure, 0, 0⟩,
  ⟨⟨some 83, .idx 1 (.tmp 81) (.tmp 82), (some (75, true))⟩, .pure, 0, 0⟩,
  ⟨⟨some 84, .load false 1 (.tmp 83), (some (75, true))⟩, .read, 0, 0⟩,
  ⟨⟨some 85, .call 49 [.tmp 80, .tmp 84], (some (75, true))⟩, .heavy, 0, 1⟩,
  ⟨⟨some 86, .un .not (.tmp 85), (some (75, true))⟩, .pure, 1, 1⟩,
  ⟨⟨some 87, .pick (.tmp 75) (.tmp 86) (.const (.bool false)), none⟩, .pure, 1, 1⟩])
 (.cond (.tmp 87) (.seq (.region [⟨some 88, .move (.tmp 0), none⟩,
  ⟨some 89, .move (.tmp 1), none⟩,
  ⟨some 90, .move (.tmp 2), none⟩,
  ⟨some 91, .move (.tmp 11), none⟩,
  ⟨some 92, .call 50 [.tmp 88, .tmp 89, .tmp 90, .tmp 91], none⟩,
  ⟨some 13, .move (.tmp 92), none⟩])
 (.seq (.region [⟨some 93, .move (.tmp 13), none⟩,
  ⟨some 1, .move (.tmp 93), none⟩])
 (.exit 1)))
 (.skip)))
 (.seq (.region [⟨some 95, .move (.tmp 0), none⟩,
  ⟨some 96, .move (.tmp 1), none⟩,
  ⟨some 97, .move (.tmp 2), none⟩,
  ⟨some 98, .move (.tmp 11), none⟩,
  ⟨some 99, .call 51 [.tmp 95, .tmp 96, .tmp 97, .tmp 98], none⟩,
  ⟨some 94, .move (.tmp 99), none⟩,
  ⟨some 100, .extract (.tmp 94) 0, none⟩,
  ⟨some 101, .extract (.tmp 94) 1, none⟩,
  ⟨some 14, .move (.tmp 100), none⟩,
  ⟨some 15, .move (.tmp 101), none⟩])
 (.seq (.region [⟨some 102, .move (.tmp 15), none⟩,
  ⟨some 9, .move (.tmp 102), none⟩])
 (.seq (.region [⟨some 103, .move (.tmp 14), none⟩,
  ⟨some 104, .move (.tmp 1), none⟩,
  ⟨some 105, .bin .sub (.tmp 103) (.tmp 104), none⟩,
  ⟨some 106, .move (.tmp 2), none⟩,
  ⟨some 107, .move (.tmp 14), none⟩,
  ⟨some 108, .bin .sub (.tmp 106) (.tmp 107), none⟩,
  ⟨some 16, .move (.tmp 105), none⟩,
  ⟨some 17, .move (.tmp 108), none⟩])
 (.seq (.region [⟨some 109, .move (.tmp 10), none⟩,
  ⟨some 110, .bin .quo (.tmp 109) (.const (.int .i64 8)), none⟩,
  ⟨some 18, .move (.tmp 110), none⟩])
 (.seq (.region [⟨some 111, .move (.tmp 16), none⟩,
  ⟨some 112, .move (.tmp 17), none⟩,
  ⟨some 113, .bin .lss (.tmp 111) (.tmp 112), none⟩])
 (.cond (.tmp 113) (.seq (.region [⟨some 114, .move (.tmp 16), none⟩,
  ⟨some 115, .move (.tmp 18), none⟩,
  ⟨some 116, .bin .geq (.tmp 114) (.tmp 115), none⟩,
  ⟨some 8, .move (.tmp 116), none⟩])
 (.seq (.region [⟨some 117, .move (.tmp 0), none⟩,
  ⟨some 118, .move (.tmp 1), none⟩,
  ⟨some 119, .move (.tmp 14), none⟩,
  ⟨some 120, .move (.tmp 3), none⟩,
  ⟨some 121, .call 41 [.tmp 117, .tmp 118, .tmp 119, .tmp 120], none⟩])
 (.region [⟨some 122, .move (.tmp 14), none⟩,
  ⟨some 123, .bin .add (.tmp 122) (.const (.int .i64 1)), none⟩,
  ⟨some 1, .move (.tmp 123), none⟩])))
 (.seq (.region [⟨some 124, .move (.tmp 17), none⟩,
  ⟨some 125, .move (.tmp 18), none⟩,
  ⟨some 126, .bin .geq (.tmp 124) (.tmp 125), none⟩,
  ⟨some 8, .move (.tmp 126), none⟩])
 (.seq (.region [⟨some 127, .move (.tmp 0), none⟩,
  ⟨some 128, .move (.tmp 14), none⟩,
  ⟨some 129, .bin .add (.tmp 128) (.const (.int .i64 1)), none⟩,
  ⟨some 130, .move (.tmp 2), none⟩,
  ⟨some 131, .move (.tmp 3), none⟩,
  ⟨some 132, .call 41 [.tmp 127, .tmp 129, .tmp 130, .tmp 131], none⟩])
 (.region [⟨some 133, .move (.tmp 14), none⟩,
  ⟨some 2, .move (.tmp 133), none⟩])))))))))))))))))
def L41 : LCode :=
 .seq (.region [⟨some 8, .move (.const (.bool true)), none⟩])
 (.seq (.region [⟨some 9, .move (.const (.bool true)), none⟩])
 (.block 0 (.loop L41_1)))
theorem light41 : Light Try.prog 41 4 134 L41 [] :=
  ⟨Try.f41, _, Try.func41, rfl, rfl, by kernel_rfl, by kernel_rfl, by decide⟩

/-! ### function 42: math/bits.Len -/
def L42 : LCode :=
 .seq (.region [⟨some 2, .move (.const (.int .i64 0)), none⟩])
 (.seq (.cond (.const (.bool false)) (.seq (.region [⟨some 3, .move (.tmp 0), none⟩,
  ⟨some 4, .conv .u32 (.tmp 3), none⟩,
  ⟨some 5, .call 52 [.tmp 4], none⟩,
  ⟨some 2, .move (.tmp 5), none⟩])
 (.ret))
 (.skip))
 (.seq (.region [⟨some 6, .move (.tmp 0), none⟩,
  ⟨some 7, .call 53 [.tmp 6], none⟩,
  ⟨some 2, .move (.tmp 7), none⟩])
 (.ret)))
theorem light42 : Light Try.prog 42 1 8 L42 [.tmp 2] :=
  ⟨Try.f42, _, Try.func42, rfl, rfl, by kernel_rfl, by kernel_rfl, by decide⟩

/-! ### function 43: slices.insertionSortOrdered[int] -/
def L43_1 : LCode :=
 .seq (.seq (.draw [⟨⟨some 16, .move (.tmp 7), none⟩, .pure, 0, 0⟩,
  ⟨⟨some 17, .move (.tmp 1), none⟩, .pure, 0, 0⟩,
  ⟨⟨some 18, .bin .gtr (.tmp 16) (.tmp 17), none⟩, .pure, 0, 0⟩,
  ⟨⟨some 19, .move (.tmp 18), none⟩, .pure, 0, 0⟩,
  ⟨⟨some 20, .move (.tmp 0), (some (19, true))⟩, .pure, 0, 0⟩,
  ⟨⟨some 21, .move (.tmp 7), (some (19, true))⟩, .pure, 0, 0⟩,
  ⟨⟨some 22, .idx 1 (.tmp 20) (.tmp 21), (some (19, true))⟩, .pure, 0, 0⟩,
  ⟨⟨some 23, .load false 1 (.tmp 22), (some (19, true))⟩, .read, 0, 0⟩,
  ⟨⟨some 24, .move (.tmp 0), (some (19, true))⟩, .pure, 0, 0⟩,
  ⟨⟨some 25, .move (.tmp 7), (some (19, true))⟩, .pure, 0, 0⟩,
  ⟨⟨some 26, .bin .sub (.tmp 25) (.const (.int .i64 1)), (some (19, true))⟩, .pure, 0, 0⟩,
  ⟨⟨some 27, .idx 1 (.tmp 24) (.tmp 26), (some (19, true))⟩, .pure, 0, 0⟩,
  ⟨⟨some 28, .load false 1 (.tmp 27), (some (19, true))⟩, .read, 0, 0⟩,
  ⟨⟨some 29, .call 49 [.tmp 23, .tmp 28], (some (19, true))⟩, .heavy, 0, 1⟩,
  ⟨⟨some 30, .pick (.tmp 19) (.tmp 29) (.const (.bool false)), none⟩, .pure, 1, 1⟩])
 (.cond (.tmp 30) (.skip)
 (.exit 2)))
 (.seq (.block 3 (.draw [⟨⟨some 33, .move (.tmp 0), none⟩, .pure, 0, 0⟩,
  ⟨⟨some 34, .move (.tmp 7), none⟩, .pure, 0, 0⟩,
  ⟨⟨some 35, .move (.tmp 0), none⟩, .pure, 0, 1⟩,
  ⟨⟨some 36, .move (.tmp 7), none⟩, .pure, 0, 1⟩,
  ⟨⟨some 37, .bin .sub (.tmp 36) (.const (.int .i64 1)), none⟩, .pure, 0, 1⟩,
  ⟨⟨some 38, .move (.tmp 0), none⟩, .pure, 0, 0⟩,
  ⟨⟨some 39, .move (.tmp 7), none⟩, .pure, 0, 0⟩,
  ⟨⟨some 40, .bin .sub (.tmp 39) (.const (.int .i64 1)), none⟩, .pure, 0, 0⟩,
  ⟨⟨some 41, .idx 1 (.tmp 38) (.tmp 40), none⟩, .pure, 0, 0⟩,
  ⟨⟨some 42, .load false 1 (.tmp 41), none⟩, .read, 0, 0⟩,
  ⟨⟨some 43, .move (.tmp 0), none⟩, .pure, 0, 0⟩,
  ⟨⟨some 44, .move (.tmp 7), none⟩, .pure, 0, 0⟩,
  ⟨⟨some 45, .idx 1 (.tmp 43) (.tmp 44), none⟩, .pure, 0, 0⟩,
  ⟨⟨some 46, .load false 1 (.tmp 45), none⟩, .read, 0, 0⟩,
  ⟨⟨some 47, .idx 1 (.tmp 33) (.tmp 34), none⟩, .pure, 0, 0⟩,
  ⟨⟨none, .store 1 (.tmp 47) (.tmp 42), none⟩, .heavy, 0, 1⟩,
  ⟨⟨some 48, .idx 1 (.tmp 35) (.tmp 37), none⟩, .pure, 1, 1⟩,
  ⟨⟨none, .store 1 (.tmp 48) (.tmp 46), none⟩, .heavy, 1, 2⟩]))
 (.region [⟨some 31, .move (.tmp 7), none⟩,
  ⟨some 32, .bin .sub (.tmp 31) (.const (.int .i64 1)), none⟩,
  ⟨some 7, .move (.tmp 32), none⟩]))
def L43_2 : LCode :=
 .seq (.seq (.region [⟨some 10, .move (.tmp 6), none⟩,
  ⟨some 11, .move (.tmp 2), none⟩,
  ⟨some 12, .bin .lss (.tmp 10) (.tmp 11), none⟩])
 (.cond (.tmp 12) (.skip)
 (.exit 0)))
 (.seq (.block 1 (.seq (.region [⟨some 15, .move (.tmp 6), none⟩,
  ⟨some 7, .move (.tmp 15), none⟩])
 (.block 2 (.loop L43_1))))
 (.region [⟨some 13, .move (.tmp 6), none⟩,
  ⟨some 14, .bin .add (.tmp 13) (.const (.int .i64 1)), none⟩,
  ⟨some 6, .move (.tmp 14), none⟩]))
def L43 : LCode :=
 .seq (.region [⟨some 8, .move (.tmp 1), none⟩,
  ⟨some 9, .bin .add (.tmp 8) (.const (.int .i64 1)), none⟩,
  ⟨some 6, .move (.tmp 9), none⟩])
 (.block 0 (.loop L43_2))
theorem light43 : Light Try.prog 43 3 49 L43 [] :=
  ⟨Try.f43, _, Try.func43, rfl, rfl, by kernel_rfl, by kernel_rfl, by decide⟩

/-! ### function 53: math/bits.Len64 -/
def L53 : LCode :=
 .seq (.region [⟨some 2, .move (.const (.int .i64 0)), none⟩])
 (.seq (.seq (.region [⟨some 3, .move (.tmp 0), none⟩,
  ⟨some 4, .bin .geq (.tmp 3) (.const (.int .u64 4294967296)), none⟩])
 (.cond (.tmp 4) (.seq (.region [⟨some 5, .move (.tmp 0), none⟩,
  ⟨some 6, .bin .shr (.tmp 5) (.const (.int .u64 32)), none⟩,
  ⟨some 0, .move (.tmp 6), none⟩])
 (.region [⟨some 2, .move (.const (.int .i64 32)), none⟩]))
 (.skip)))
 (.seq (.seq (.region [⟨some 7, .move (.tmp 0), none⟩,
  ⟨some 8, .bin .geq (.tmp 7) (.const (.int .u64 65536)), none⟩])
 (.cond (.tmp 8) (.seq (.region [⟨some 9, .move (.tmp 0), none⟩,
  ⟨some 10, .bin .shr (.tmp 9) (.const (.int .u64 16)), none⟩,
  ⟨some 0, .move (.tmp 10), none⟩])
 (.region [⟨some 11, .move (.tmp 2), none⟩,
  ⟨some 12, .bin .add (.tmp 11) (.const (.int .i64 16)), none⟩,
  ⟨some 2, .move (.tmp 12), none⟩]))
 (.skip)))
 (.seq (.seq (.region [⟨some 13, .move (.tmp 0), none⟩,
  ⟨some 14, .bin .geq (.tmp 13) (.const (.int .u64 256)), none⟩])
 (.cond (.tmp 14) (.seq (.region [⟨some 15, .move (.tmp 0), none⟩,
  ⟨some 16, .bin .shr (.tmp 15) (.const (.int .u64 8)), none⟩,
  ⟨some 0, .move (.tmp 16), none⟩])
 (.region [⟨some 17, .move (.tmp 2), none⟩,
  ⟨some 18, .bin .add (.tmp 17) (.const (.int .i64 8)), none⟩,
  ⟨some 2, .move (.tmp 18), none⟩]))
 (.skip)))
 (.seq (.region [⟨some 19, .move (.tmp 2), none⟩,
  ⟨some 20, .move (.tmp 0), none⟩,
  ⟨some 21, .conv .u8 (.tmp 20), none⟩,
  ⟨some 22, .idxStr (.const (.string ⟨#[0, 1, 2, 2, 3, 3, 3, 3, 4, 4, 4, 4, 4, 4, 4, 4, 5, 5, 5, 5, 5, 5, 5, 5, 5, 5, 5, 5, 5, 5, 5, 5, 6, 6, 6, 6, 6, 6, 6, 6, 6, 6, 6, 6, 6, 6, 6, 6, 6, 6, 6, 6, 6, 6, 6, 6, 6, 6, 6, 6, 6, 6, 6, 6, 7, 7, 7, 7, 7, 7, 7, 7, 7, 7, 7, 7, 7, 7, 7, 7, 7, 7, 7, 7, 7, 7, 7, 7, 7, 7, 7, 7, 7, 7, 7, 7, 7, 7, 7, 7, 7, 7, 7, 7, 7, 7, 7, 7, 7, 7, 7, 7, 7, 7, 7, 7, 7, 7, 7, 7, 7, 7, 7, 7, 7, 7, 7, 7, 8, 8, 8, 8, 8, 8, 8, 8, 8, 8, 8, 8, 8, 8, 8, 8, 8, 8, 8, 8, 8, 8, 8, 8, 8, 8, 8, 8, 8, 8, 8, 8, 8, 8, 8, 8, 8, 8, 8, 8, 8, 8, 8, 8, 8, 8, 8, 8, 8, 8, 8, 8, 8, 8, 8, 8, 8, 8, 8, 8, 8, 8, 8, 8, 8, 8, 8, 8, 8, 8, 8, 8, 8, 8, 8, 8, 8, 8, 8, 8, 8, 8, 8, 8, 8, 8, 8, 8, 8, 8, 8, 8, 8, 8, 8, 8, 8, 8, 8, 8, 8, 8, 8, 8, 8, 8, 8, 8, 8, 8, 8, 8, 8, 8, 8, 8, 8, 8, 8, 8, 8, 8, 8, 8, 8, 8, 8, 8]⟩)) (.tmp 21), none⟩,
  ⟨some 23, .conv .i64 (.tmp 22), none⟩,
  ⟨some 24, .bin .add (.tmp 19) (.tmp 23), none⟩,
  ⟨some 2, .move (.tmp 24), none⟩])
 (.ret)))))
theorem light53 : Light Try.prog 53 1 25 L53 [.tmp 2] :=
  ⟨Try.f53, _, Try.func53, rfl, rfl, by kernel_rfl, by kernel_rfl, by decide⟩

end Go.Proofs.Ythclcdboialfnaa
