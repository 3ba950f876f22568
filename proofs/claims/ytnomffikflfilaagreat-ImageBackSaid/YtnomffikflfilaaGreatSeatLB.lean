/-
  The light code of functions of this seat: printed by a program of this session (wip/tools/lightgen.py); each is held against the program by the kernel.
-/
import Derived.Test.YtnomffikflfilaaGreatSeatL
import Derived.KernelRfl
import Derived.Test.YtnomffikflfilaaGreatProg
set_option maxRecDepth 100000
namespace Go.Proofs.YtnomffikflfilaaGreat
open Go.Ot
def L149_1 : LCode :=
 .seq (.seq (.region [⟨some 6, .move (.tmp 5), none⟩, ⟨some 7, .move (.tmp 0), none⟩, ⟨some 8, .lenS (.tmp 7), none⟩, ⟨some 9, .bin .lss (.tmp 6) (.tmp 8), none⟩])
 (.cond (.tmp 9) (.skip)
 (.exit 0)))
 (.seq (.block 1 (.seq (.region [⟨some 12, .move (.tmp 0), none⟩, ⟨some 13, .move (.tmp 5), none⟩, ⟨some 14, .idxStr (.tmp 12) (.tmp 13), none⟩, ⟨some 15, .move (.tmp 1), none⟩, ⟨some 16, .bin .eql (.tmp 14) (.tmp 15), none⟩])
 (.cond (.tmp 16) (.seq (.region [⟨some 4, .move (.const (.bool true)), none⟩])
 (.ret))
 (.skip))))
 (.region [⟨some 10, .move (.tmp 5), none⟩, ⟨some 11, .bin .add (.tmp 10) (.const (.int .i64 1)), none⟩, ⟨some 5, .move (.tmp 11), none⟩]))
def L149 : LCode :=
 .seq (.region [⟨some 4, .move (.const (.bool false)), none⟩])
 (.seq (.seq (.region [⟨some 5, .move (.const (.int .i64 0)), none⟩])
 (.block 0 (.loop L149_1)))
 (.seq (.region [⟨some 4, .move (.const (.bool false)), none⟩])
 (.ret)))
theorem light149 : Light Tryz.prog 149 2 17 L149 [.tmp 4] :=
  ⟨Tryz.f149, _, Tryz.func149, rfl, rfl, by kernel_rfl, by kernel_rfl, by decide⟩
def L150 : LCode :=
 .seq (.region [⟨some 2, .move (.const (.bool false)), none⟩])
 (.seq (.region [⟨some 3, .move (.tmp 0), none⟩, ⟨some 4, .bin .lss (.tmp 3) (.const (.int .i64 0)), none⟩, ⟨some 5, .move (.tmp 4), none⟩, ⟨some 6, .move (.tmp 0), (some (5, false))⟩, ⟨some 7, .bin .gtr (.tmp 6) (.const (.int .i64 15)), (some (5, false))⟩, ⟨some 8, .pick (.tmp 5) (.const (.bool true)) (.tmp 7), none⟩, ⟨some 2, .move (.tmp 8), none⟩])
 (.ret))
theorem light150 : Light Tryz.prog 150 1 9 L150 [.tmp 2] :=
  ⟨Tryz.f150, _, Tryz.func150, rfl, rfl, by kernel_rfl, by kernel_rfl, by decide⟩
end Go.Proofs.YtnomffikflfilaaGreat
