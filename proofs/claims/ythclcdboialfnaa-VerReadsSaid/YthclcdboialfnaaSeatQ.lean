/-
  Chapter 21: the kind of a call.
-/
import Derived.Test.YthclcdboialfnaaSeatO
namespace Go.Proofs.Ythclcdboialfnaa
open Go.Ot Go.RowKit
set_option linter.unusedSimpArgs false
set_option linter.unusedVariables false
theorem kind_T {H : Heap} (n : Int) : ∃ v, T Try.prog 7 [iv n] H v H ∧ ∃ k, v = iv k ∧ k = n % 7 := by
  have h1 := Int.tmod_lt_of_pos n (show (0 : Int) < 7 by omega)
  have h2 := Int.tmod_lt_of_pos (-n) (show (0 : Int) < 7 by omega)
  rw [Int.neg_tmod] at h2
  have w2 : IntKind.i64.wrap (n.tmod 7 + 7) = n.tmod 7 + 7 := w64 _ (by omega)
  have e1 : (n.tmod 7 + 7).tmod 7 = n % 7 := by
    have := Int.mul_tdiv_add_tmod n 7
    rw [Int.tmod_eq_emod_of_nonneg (by omega)]
    omega
  refine ⟨iv (n % 7), T_eq hm light7 ?_, _, rfl, rfl⟩
  simp [L7, sBin_rem, w2, e1]
end Go.Proofs.Ythclcdboialfnaa
