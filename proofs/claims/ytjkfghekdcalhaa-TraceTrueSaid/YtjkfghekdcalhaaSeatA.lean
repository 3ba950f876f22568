/-
  Chapter 27: the example of the chapter, run.
-/
import Derived.Test.YtjkfghekdcalhaaSeatT
namespace Go.Proofs.Ytjkfghekdcalhaa
open Go.Ot
theorem hm : Try.prog.follows .mixedOrders = true := by kernel_rfl
theorem alive_T (H : Heap) : T Try.prog 8 [] H (.bool true) H := T_true (k := 100000) (n := 100) hm tabOk (specNil _) (by kernel_rfl) H
end Go.Proofs.Ytjkfghekdcalhaa
