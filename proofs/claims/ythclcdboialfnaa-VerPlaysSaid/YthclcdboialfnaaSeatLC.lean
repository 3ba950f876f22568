/-
  The table of this seat's light functions: printed by a program of this session (wip/tools/tabgen.py).
-/
import Derived.Test.YthclcdboialfnaaOtZj
import Derived.Test.YthclcdboialfnaaSeatLB
namespace Go.Proofs.Ythclcdboialfnaa
open Go.Ot
def tab : List (Nat × FnE) := [(30, ⟨false, 1, 21, L30, [.tmp 2]⟩),
  (39, ⟨false, 1, 4, L39, []⟩),
  (40, ⟨false, 1, 11, L40, []⟩),
  (41, ⟨false, 4, 134, L41, []⟩),
  (42, ⟨false, 1, 8, L42, [.tmp 2]⟩),
  (43, ⟨false, 3, 49, L43, []⟩),
  (53, ⟨false, 1, 25, L53, [.tmp 2]⟩)]
theorem tabOk : TabOk Try.prog tab := ⟨light30, ⟨light39, ⟨light40, ⟨light41, ⟨light42, ⟨light43, ⟨light53, trivial⟩⟩⟩⟩⟩⟩⟩
end Go.Proofs.Ythclcdboialfnaa
