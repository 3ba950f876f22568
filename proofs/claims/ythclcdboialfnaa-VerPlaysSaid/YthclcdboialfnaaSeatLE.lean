/-
  Chapter 21: the parts of function 14's code, each with a name of its own (printed by wip/tools/cutcode.py).
-/
import Derived.Test.YthclcdboialfnaaSeatL
namespace Go.Proofs.Ythclcdboialfnaa
open Go.Ot
def L14d : LCode :=
 .seq (.region [⟨some 144, .load true 3 (.tmp 4), none⟩,
  ⟨some 145, .off 1 (.tmp 5), none⟩,
  ⟨some 146, .load false 1 (.tmp 145), none⟩,
  ⟨some 147, .off 2 (.tmp 5), none⟩,
  ⟨some 148, .load false 1 (.tmp 147), none⟩,
  ⟨some 149, .off 3 (.tmp 5), none⟩,
  ⟨some 150, .load false 1 (.tmp 149), none⟩,
  ⟨some 151, .call 28 [.tmp 144, .tmp 146, .tmp 148, .tmp 150], none⟩,
  ⟨some 143, .move (.tmp 151), none⟩,
  ⟨some 152, .extract (.tmp 143) 0, none⟩,
  ⟨some 153, .extract (.tmp 143) 1, none⟩,
  ⟨some 18, .new 40 3 [.int .i64 0, .int .i64 0, .slice none 0 0], none⟩,
  ⟨none, .store 3 (.tmp 18) (.tmp 152), none⟩,
  ⟨some 19, .move (.tmp 153), none⟩])
 (.seq (.draw [⟨⟨some 154, .load true 3 (.tmp 18), none⟩, .read, 0, 1⟩,
  ⟨⟨some 155, .move (.tmp 0), none⟩, .pure, 0, 0⟩,
  ⟨⟨some 156, .off 1 (.tmp 5), none⟩, .pure, 0, 0⟩,
  ⟨⟨some 157, .load false 1 (.tmp 156), none⟩, .read, 0, 0⟩,
  ⟨⟨some 158, .off 2 (.tmp 5), none⟩, .pure, 0, 0⟩,
  ⟨⟨some 159, .load false 1 (.tmp 158), none⟩, .read, 0, 0⟩,
  ⟨⟨some 160, .off 3 (.tmp 5), none⟩, .pure, 0, 0⟩,
  ⟨⟨some 161, .load false 1 (.tmp 160), none⟩, .read, 0, 0⟩,
  ⟨⟨some 162, .call 8 [.tmp 155, .tmp 157, .tmp 159, .tmp 161], none⟩, .heavy, 0, 1⟩,
  ⟨⟨some 163, .move (.tmp 19), none⟩, .pure, 0, 2⟩,
  ⟨⟨some 164, .bin .eql (.tmp 162) (.tmp 163), none⟩, .pure, 1, 2⟩,
  ⟨⟨none, .store 3 (.tmp 6) (.tmp 154), none⟩, .heavy, 1, 2⟩,
  ⟨⟨some 7, .move (.tmp 164), none⟩, .pure, 2, 2⟩])
 (.ret))
def L14k3 : LCode :=
 .seq (.region [⟨some 26, .move (.tmp 0), none⟩,
  ⟨some 27, .off 1 (.tmp 5), none⟩,
  ⟨some 28, .load false 1 (.tmp 27), none⟩,
  ⟨some 29, .off 2 (.tmp 5), none⟩,
  ⟨some 30, .load false 1 (.tmp 29), none⟩,
  ⟨some 31, .call 11 [.tmp 26, .tmp 28, .tmp 30], none⟩,
  ⟨some 25, .move (.tmp 31), none⟩,
  ⟨some 32, .extract (.tmp 25) 0, none⟩,
  ⟨some 33, .extract (.tmp 25) 1, none⟩,
  ⟨some 8, .new 33 2 [.int .i64 0, .int .i64 0], none⟩,
  ⟨none, .store 2 (.tmp 8) (.tmp 32), none⟩,
  ⟨some 9, .move (.tmp 33), none⟩])
 (.seq (.region [⟨some 35, .load true 3 (.tmp 4), none⟩,
  ⟨some 36, .off 1 (.tmp 5), none⟩,
  ⟨some 37, .load false 1 (.tmp 36), none⟩,
  ⟨some 38, .off 2 (.tmp 5), none⟩,
  ⟨some 39, .load false 1 (.tmp 38), none⟩,
  ⟨some 40, .call 24 [.tmp 35, .tmp 37, .tmp 39], none⟩,
  ⟨some 34, .move (.tmp 40), none⟩,
  ⟨some 41, .extract (.tmp 34) 0, none⟩,
  ⟨some 42, .extract (.tmp 34) 1, none⟩,
  ⟨some 10, .new 71 3 [.int .i64 0, .int .i64 0, .int .i64 0], none⟩,
  ⟨none, .store 3 (.tmp 10) (.tmp 41), none⟩,
  ⟨some 11, .move (.tmp 42), none⟩])
 (.seq (.draw [⟨⟨some 43, .load true 3 (.tmp 4), none⟩, .read, 0, 0⟩,
  ⟨⟨some 44, .move (.tmp 9), none⟩, .pure, 0, 0⟩,
  ⟨⟨some 45, .move (.tmp 11), none⟩, .pure, 0, 0⟩,
  ⟨⟨some 46, .eqB false (.tmp 44) (.tmp 45), none⟩, .pure, 0, 0⟩,
  ⟨⟨some 47, .move (.tmp 46), none⟩, .pure, 0, 0⟩,
  ⟨⟨some 48, .off 0 (.tmp 8), (some (47, true))⟩, .pure, 0, 0⟩,
  ⟨⟨some 49, .load false 1 (.tmp 48), (some (47, true))⟩, .read, 0, 0⟩,
  ⟨⟨some 50, .off 1 (.tmp 10), (some (47, true))⟩, .pure, 0, 0⟩,
  ⟨⟨some 51, .load false 1 (.tmp 50), (some (47, true))⟩, .read, 0, 0⟩,
  ⟨⟨some 52, .bin .eql (.tmp 49) (.tmp 51), (some (47, true))⟩, .pure, 0, 0⟩,
  ⟨⟨some 53, .pick (.tmp 47) (.tmp 52) (.const (.bool false)), none⟩, .pure, 0, 0⟩,
  ⟨⟨some 54, .move (.tmp 53), none⟩, .pure, 0, 0⟩,
  ⟨⟨some 55, .off 1 (.tmp 8), (some (54, true))⟩, .pure, 0, 1⟩,
  ⟨⟨some 56, .load false 1 (.tmp 55), (some (54, true))⟩, .read, 0, 1⟩,
  ⟨⟨some 57, .off 2 (.tmp 10), (some (54, true))⟩, .pure, 0, 1⟩,
  ⟨⟨some 58, .load false 1 (.tmp 57), (some (54, true))⟩, .read, 0, 1⟩,
  ⟨⟨some 59, .bin .eql (.tmp 56) (.tmp 58), (some (54, true))⟩, .pure, 0, 1⟩,
  ⟨⟨some 60, .pick (.tmp 54) (.tmp 59) (.const (.bool false)), none⟩, .pure, 0, 1⟩,
  ⟨⟨none, .store 3 (.tmp 6) (.tmp 43), none⟩, .heavy, 0, 1⟩,
  ⟨⟨some 7, .move (.tmp 60), none⟩, .pure, 1, 1⟩])
 (.ret)))
def L14k4 : LCode :=
 .seq (.region [⟨some 64, .move (.tmp 0), none⟩,
  ⟨some 65, .off 1 (.tmp 5), none⟩,
  ⟨some 66, .load false 1 (.tmp 65), none⟩,
  ⟨some 67, .off 2 (.tmp 5), none⟩,
  ⟨some 68, .load false 1 (.tmp 67), none⟩,
  ⟨some 69, .call 25 [.tmp 64, .tmp 66, .tmp 68], none⟩,
  ⟨some 63, .move (.tmp 69), none⟩,
  ⟨some 70, .extract (.tmp 63) 0, none⟩,
  ⟨some 71, .extract (.tmp 63) 1, none⟩,
  ⟨some 12, .move (.tmp 70), none⟩,
  ⟨some 13, .move (.tmp 71), none⟩])
 (.seq (.region [⟨some 72, .load true 3 (.tmp 4), none⟩,
  ⟨some 73, .off 1 (.tmp 5), none⟩,
  ⟨some 74, .load false 1 (.tmp 73), none⟩,
  ⟨some 75, .off 2 (.tmp 5), none⟩,
  ⟨some 76, .load false 1 (.tmp 75), none⟩,
  ⟨some 77, .call 26 [.tmp 72, .tmp 74, .tmp 76], none⟩,
  ⟨some 14, .move (.tmp 77), none⟩])
 (.seq (.seq (.region [⟨some 78, .move (.tmp 14), none⟩,
  ⟨some 79, .bin .lss (.tmp 78) (.const (.int .i64 0)), none⟩])
 (.cond (.tmp 79) (.seq (.region [⟨some 80, .load true 3 (.tmp 4), none⟩,
  ⟨some 81, .move (.tmp 13), none⟩,
  ⟨some 82, .un .not (.tmp 81), none⟩,
  ⟨some 83, .move (.tmp 82), none⟩,
  ⟨some 84, .move (.tmp 12), (some (83, true))⟩,
  ⟨some 85, .bin .eql (.tmp 84) (.const (.int .i64 0)), (some (83, true))⟩,
  ⟨some 86, .pick (.tmp 83) (.tmp 85) (.const (.bool false)), none⟩,
  ⟨none, .store 3 (.tmp 6) (.tmp 80), none⟩,
  ⟨some 7, .move (.tmp 86), none⟩])
 (.ret))
 (.skip)))
 (.seq (.draw [⟨⟨some 87, .load true 3 (.tmp 4), none⟩, .read, 0, 0⟩,
  ⟨⟨some 88, .move (.tmp 13), none⟩, .pure, 0, 0⟩,
  ⟨⟨some 89, .move (.tmp 88), none⟩, .pure, 0, 0⟩,
  ⟨⟨some 90, .move (.tmp 12), (some (89, true))⟩, .pure, 0, 1⟩,
  ⟨⟨some 91, .off 2 (.tmp 4), (some (89, true))⟩, .pure, 0, 1⟩,
  ⟨⟨some 92, .load false 1 (.tmp 91), (some (89, true))⟩, .read, 0, 1⟩,
  ⟨⟨some 93, .move (.tmp 14), (some (89, true))⟩, .pure, 0, 1⟩,
  ⟨⟨some 94, .idx 3 (.tmp 92) (.tmp 93), (some (89, true))⟩, .pure, 0, 1⟩,
  ⟨⟨some 95, .off 2 (.tmp 94), (some (89, true))⟩, .pure, 0, 1⟩,
  ⟨⟨some 96, .load false 1 (.tmp 95), (some (89, true))⟩, .read, 0, 1⟩,
  ⟨⟨some 97, .bin .eql (.tmp 90) (.tmp 96), (some (89, true))⟩, .pure, 0, 1⟩,
  ⟨⟨some 98, .pick (.tmp 89) (.tmp 97) (.const (.bool false)), none⟩, .pure, 0, 1⟩,
  ⟨⟨none, .store 3 (.tmp 6) (.tmp 87), none⟩, .heavy, 0, 1⟩,
  ⟨⟨some 7, .move (.tmp 98), none⟩, .pure, 1, 1⟩])
 (.ret))))
def L14k5 : LCode :=
 .seq (.region [⟨some 101, .load true 3 (.tmp 4), none⟩,
  ⟨some 102, .off 1 (.tmp 5), none⟩,
  ⟨some 103, .load false 1 (.tmp 102), none⟩,
  ⟨some 104, .off 2 (.tmp 5), none⟩,
  ⟨some 105, .load false 1 (.tmp 104), none⟩,
  ⟨some 106, .call 26 [.tmp 101, .tmp 103, .tmp 105], none⟩,
  ⟨some 107, .bin .geq (.tmp 106) (.const (.int .i64 0)), none⟩,
  ⟨some 15, .move (.tmp 107), none⟩])
 (.seq (.seq (.region [⟨some 108, .move (.tmp 15), none⟩])
 (.cond (.tmp 108) (.region [⟨some 110, .load true 3 (.tmp 4), none⟩,
  ⟨some 111, .off 1 (.tmp 5), none⟩,
  ⟨some 112, .load false 1 (.tmp 111), none⟩,
  ⟨some 113, .off 2 (.tmp 5), none⟩,
  ⟨some 114, .load false 1 (.tmp 113), none⟩,
  ⟨some 115, .call 27 [.tmp 110, .tmp 112, .tmp 114], none⟩,
  ⟨some 109, .move (.tmp 115), none⟩,
  ⟨some 116, .extract (.tmp 109) 0, none⟩,
  ⟨some 117, .extract (.tmp 109) 1, none⟩,
  ⟨none, .store 3 (.tmp 4) (.tmp 116), none⟩])
 (.skip)))
 (.seq (.draw [⟨⟨some 118, .load true 3 (.tmp 4), none⟩, .read, 0, 1⟩,
  ⟨⟨some 119, .move (.tmp 0), none⟩, .pure, 0, 0⟩,
  ⟨⟨some 120, .off 1 (.tmp 5), none⟩, .pure, 0, 0⟩,
  ⟨⟨some 121, .load false 1 (.tmp 120), none⟩, .read, 0, 0⟩,
  ⟨⟨some 122, .off 2 (.tmp 5), none⟩, .pure, 0, 0⟩,
  ⟨⟨some 123, .load false 1 (.tmp 122), none⟩, .read, 0, 0⟩,
  ⟨⟨some 124, .call 9 [.tmp 119, .tmp 121, .tmp 123], none⟩, .heavy, 0, 1⟩,
  ⟨⟨some 125, .move (.tmp 15), none⟩, .pure, 0, 2⟩,
  ⟨⟨some 126, .eqB false (.tmp 124) (.tmp 125), none⟩, .pure, 1, 2⟩,
  ⟨⟨none, .store 3 (.tmp 6) (.tmp 118), none⟩, .heavy, 1, 2⟩,
  ⟨⟨some 7, .move (.tmp 126), none⟩, .pure, 2, 2⟩])
 (.ret)))
def L14k6 : LCode :=
 .seq (.region [⟨some 130, .load true 3 (.tmp 4), none⟩,
  ⟨some 131, .off 2 (.tmp 5), none⟩,
  ⟨some 132, .load false 1 (.tmp 131), none⟩,
  ⟨some 133, .call 27 [.tmp 130, .const (.int .i64 (-1)), .tmp 132], none⟩,
  ⟨some 129, .move (.tmp 133), none⟩,
  ⟨some 134, .extract (.tmp 129) 0, none⟩,
  ⟨some 135, .extract (.tmp 129) 1, none⟩,
  ⟨some 16, .new 40 3 [.int .i64 0, .int .i64 0, .slice none 0 0], none⟩,
  ⟨none, .store 3 (.tmp 16) (.tmp 134), none⟩,
  ⟨some 17, .move (.tmp 135), none⟩])
 (.seq (.draw [⟨⟨some 136, .load true 3 (.tmp 16), none⟩, .read, 0, 1⟩,
  ⟨⟨some 137, .move (.tmp 0), none⟩, .pure, 0, 0⟩,
  ⟨⟨some 138, .off 2 (.tmp 5), none⟩, .pure, 0, 0⟩,
  ⟨⟨some 139, .load false 1 (.tmp 138), none⟩, .read, 0, 0⟩,
  ⟨⟨some 140, .call 10 [.tmp 137, .tmp 139], none⟩, .heavy, 0, 1⟩,
  ⟨⟨some 141, .move (.tmp 17), none⟩, .pure, 0, 2⟩,
  ⟨⟨some 142, .bin .eql (.tmp 140) (.tmp 141), none⟩, .pure, 1, 2⟩,
  ⟨⟨none, .store 3 (.tmp 6) (.tmp 136), none⟩, .heavy, 1, 2⟩,
  ⟨⟨some 7, .move (.tmp 142), none⟩, .pure, 2, 2⟩])
 (.ret))
theorem L14_eq : L14 =
 .seq (.region [⟨some 4, .box 40 3 (.tmp 1), none⟩,
  ⟨some 5, .box 28 4 (.tmp 2), none⟩,
  ⟨some 6, .new 40 3 [.int .i64 0, .int .i64 0, .slice none 0 0], none⟩,
  ⟨some 7, .move (.const (.bool false)), none⟩])
 (.seq (.seq (.region [⟨some 20, .off 0 (.tmp 5), none⟩,
  ⟨some 21, .load false 1 (.tmp 20), none⟩,
  ⟨some 22, .call 7 [.tmp 21], none⟩])
 (.block 0 (.seq (.region [⟨some 24, .bin .eql (.tmp 22) (.const (.int .i64 3)), none⟩,
  ⟨some 23, .move (.tmp 24), none⟩])
 (.cond (.tmp 23) (L14k3)
 (.seq (.region [⟨some 62, .bin .eql (.tmp 22) (.const (.int .i64 4)), none⟩,
  ⟨some 61, .move (.tmp 62), none⟩])
 (.cond (.tmp 61) (L14k4)
 (.seq (.region [⟨some 100, .bin .eql (.tmp 22) (.const (.int .i64 5)), none⟩,
  ⟨some 99, .move (.tmp 100), none⟩])
 (.cond (.tmp 99) (L14k5)
 (.seq (.region [⟨some 128, .bin .eql (.tmp 22) (.const (.int .i64 6)), none⟩,
  ⟨some 127, .move (.tmp 128), none⟩])
 (.cond (.tmp 127) (L14k6)
 (.skip)))))))))))
 (L14d)) := rfl
end Go.Proofs.Ythclcdboialfnaa
