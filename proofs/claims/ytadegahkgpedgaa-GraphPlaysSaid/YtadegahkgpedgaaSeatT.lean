/-
  The table of this seat's light functions: printed by a program of this session (wip/tools/tabgen.py).
-/
import Derived.Test.YtadegahkgpedgaaOtZj
import Derived.Test.YtadegahkgpedgaaSeatL
namespace Go.Proofs.Ytadegahkgpedgaa
open Go.Ot
def tab : List (Nat × FnE) := [(3, ⟨false, 1, 88, L3, [.tmp 2]⟩),
  (4, ⟨false, 2, 169, L4, [.tmp 4]⟩),
  (5, ⟨false, 3, 163, L5, [.tmp 6]⟩),
  (6, ⟨false, 1, 13, L6, [.tmp 2, .tmp 3]⟩),
  (7, ⟨false, 0, 67, L7, [.tmp 0]⟩),
  (8, ⟨false, 3, 68, L8, [.tmp 6]⟩),
  (9, ⟨false, 1, 8, L9, [.tmp 2]⟩),
  (10, ⟨false, 2, 46, L10, [.tmp 4]⟩),
  (11, ⟨false, 2, 54, L11, [.tmp 4]⟩),
  (12, ⟨false, 1, 13, L12, [.cell 2 true 2, .tmp 3]⟩),
  (13, ⟨false, 3, 50, L13, [.cell 6 true 2, .tmp 7]⟩),
  (14, ⟨false, 1, 8, L14, [.tmp 2]⟩),
  (15, ⟨false, 2, 18, L15, [.tmp 4]⟩),
  (16, ⟨false, 2, 48, L16, [.tmp 4]⟩),
  (17, ⟨false, 3, 18, L17, [.tmp 6]⟩),
  (18, ⟨false, 3, 33, L18, [.tmp 6]⟩),
  (19, ⟨false, 2, 26, L19, [.tmp 4]⟩),
  (20, ⟨false, 2, 33, L20, [.tmp 4]⟩),
  (21, ⟨false, 2, 48, L21, [.tmp 4]⟩),
  (22, ⟨false, 1, 58, L22, [.tmp 2]⟩),
  (23, ⟨false, 2, 33, L23, [.tmp 4, .tmp 5]⟩),
  (24, ⟨false, 1, 5, L24, [.tmp 2]⟩),
  (25, ⟨false, 1, 15, L25, [.tmp 2]⟩),
  (26, ⟨false, 2, 12, L26, []⟩),
  (27, ⟨false, 2, 52, L27, [.cell 4 true 2, .tmp 5]⟩),
  (28, ⟨false, 3, 39, L28, [.cell 6 true 2, .tmp 7]⟩),
  (29, ⟨false, 1, 61, L29, [.tmp 2]⟩),
  (30, ⟨false, 2, 18, L30, [.tmp 4]⟩),
  (31, ⟨false, 2, 26, L31, [.tmp 4]⟩),
  (32, ⟨false, 3, 15, L32, [.tmp 4]⟩),
  (33, ⟨false, 2, 24, L33, [.tmp 4]⟩),
  (34, ⟨false, 3, 48, L34, [.tmp 6]⟩),
  (35, ⟨false, 2, 23, L35, []⟩),
  (53, ⟨false, 3, 16, L53, [.tmp 6]⟩),
  (54, ⟨false, 1, 23, L54, [.tmp 2]⟩),
  (55, ⟨false, 2, 13, L55, []⟩),
  (56, ⟨false, 3, 20, L56, []⟩)]
theorem tabOk : TabOk Try.prog tab := ⟨light3, ⟨light4, ⟨light5, ⟨light6, ⟨light7, ⟨light8, ⟨light9, ⟨light10, ⟨light11, ⟨light12, ⟨light13, ⟨light14, ⟨light15, ⟨light16, ⟨light17, ⟨light18, ⟨light19, ⟨light20, ⟨light21, ⟨light22, ⟨light23, ⟨light24, ⟨light25, ⟨light26, ⟨light27, ⟨light28, ⟨light29, ⟨light30, ⟨light31, ⟨light32, ⟨light33, ⟨light34, ⟨light35, ⟨light53, ⟨light54, ⟨light55, ⟨light56, trivial⟩⟩⟩⟩⟩⟩⟩⟩⟩⟩⟩⟩⟩⟩⟩⟩⟩⟩⟩⟩⟩⟩⟩⟩⟩⟩⟩⟩⟩⟩⟩⟩⟩⟩⟩⟩⟩
end Go.Proofs.Ytadegahkgpedgaa
