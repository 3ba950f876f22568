/-
  Chapter 23: GraphPlays at every input.
-/
import Derived.Test.YtadegahkgpedgaaSeatU
import Derived.Test.YtadegahkgpedgaaSeatAA
namespace Go.Proofs.Ytadegahkgpedgaa
open Go.Ot Go.ChangeShapes Go.WideShapes Go.ChangeAt Go.RowKit
set_option maxRecDepth 100000 in
theorem plays_U {H : Heap} (hw : H.WF) {room : Int} (_ : -9223372036854775808 ≤ room ∧ room ≤ 9223372036854775807) {x0 : Value} (h0 : Rd Try.prog H 4 33 [x0]) {age : Int} (_ : -9223372036854775808 ≤ age ∧ age ≤ 9223372036854775807) : ∃ v H', T Try.prog 5 [iv room, x0, iv age] H v H' ∧ v = .bool true := by
  obtain ⟨l, hl⟩ := rd_ops h0
  exact plays_T hw hl room age
end Go.Proofs.Ytadegahkgpedgaa
