/-
  Chapter 29: the example of the chapter, run.
-/
import Derived.Test.YtfmcnojojknkfaaSeatT
namespace Go.Proofs.Ytfmcnojojknkfaa
open Go.Ot
theorem hm : Try.prog.follows .mixedOrders = true := by kernel_rfl
theorem alive_T (H : Heap) : T Try.prog 12 [] H (.bool true) H := T_trueG (k := 100000) (n := 100) hm tabOk (specNil _) (by kernel_rfl) H
end Go.Proofs.Ytfmcnojojknkfaa
