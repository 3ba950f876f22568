/-
  Chapter 26: the example of the chapter, run.
-/
import Derived.Test.YtnomffikflfilaaGreatSeatT
namespace Go.Proofs.YtnomffikflfilaaGreat
open Go.Ot
theorem hm : Tryz.prog.follows .mixedOrders = true := by kernel_rfl
theorem alive_T (H : Heap) : T Tryz.prog 15 [] H (.bool true) H := T_trueG (k := 100000) (n := 100) hm tabOk (specNil _) (by kernel_rfl) H
end Go.Proofs.YtnomffikflfilaaGreat
