/-
  Chapter 19: the example of the chapter, run; small numbers' functions.
-/
import Derived.Test.YtimaohinaobfnaaSeatT
namespace Go.Proofs.Ytimaohinaobfnaa
open Go.Ot
set_option linter.unusedSimpArgs false
set_option linter.unusedVariables false
theorem hm : Try.prog.follows .mixedOrders = true := by kernel_rfl
theorem alive_T (H : Heap) : T Try.prog 7 [] H (.bool true) H := T_true (k := 100000) (n := 100) hm tabOk (specNil _) (by kernel_rfl) H
abbrev iv (n : Int) : Value := .int .i64 n
theorem far_T {H : Heap} {a b : Int} (hb : 0 ≤ b ∧ b ≤ 1000000000) : T Try.prog 17 [iv a, iv b] H (.bool (decide (b < a ∨ a < -b))) H := by
  refine T_eq hm light17 ?_
  have e : IntKind.i64.wrap (-b) = -b := w64 _ (by omega)
  by_cases h : b < a
  · simp [L17, h]
  · by_cases h2 : a < -b
    · simp [L17, h, h2, e]
    · simp [L17, h, h2, e]
theorem tdiv_bound {a b : Int} (hb : 0 < b) (ha : -4611686018427387904 ≤ a ∧ a ≤ 4611686018427387904) : -4611686018427387904 ≤ a.tdiv b ∧ a.tdiv b ≤ 4611686018427387904 := by
  have h1 := Int.natAbs_tdiv_le_natAbs a b
  omega
theorem floor_T {H : Heap} {a b : Int} (ha : -4611686018427387904 ≤ a ∧ a ≤ 4611686018427387904) (hb : 0 < b ∧ b ≤ 4611686018427387904) : ∃ q, T Try.prog 16 [iv a, iv b] H (.tuple #[iv q, iv (a % b), iv 0]) H := by
  have hq := tdiv_bound hb.1 ha
  have e1 : IntKind.i64.wrap (a.tdiv b) = a.tdiv b := w64 _ (by omega)
  have hb0 : ¬ b = 0 := by omega
  have hb1 : ¬ b < 0 := by omega
  have hr := Int.tmod_lt_of_pos a hb.1
  have hr2 : -b < a.tmod b := by
    have := Int.lt_tmod_of_pos a hb.1
    omega
  have hdm := Int.mul_tdiv_add_tmod a b
  by_cases h0 : a.tmod b < 0
  · have e2 : IntKind.i64.wrap (a.tdiv b - 1) = a.tdiv b - 1 := w64 _ (by omega)
    have e3 : IntKind.i64.wrap (a.tmod b + b) = a.tmod b + b := w64 _ (by omega)
    have e4 : a % b = a.tmod b + b := by
      have : a = (a.tmod b + b) + b * (a.tdiv b - 1) := by grind
      rw [this, Int.add_mul_emod_self_left]
      have h2 : ((a.tmod b + b) + b * (a.tdiv b - 1)) = a := this.symm
      rw [h2]
      exact Int.emod_eq_of_lt (by omega) (by omega)
    refine ⟨a.tdiv b - 1, T_eq hm light16 ?_⟩
    have h1 : (a.tmod b != 0) = true := by simp; omega
    simp [L16, sBin_quo, sBin_rem, hb0, e1, h0, h1, hb1, e2, e3, e4]
  · have e4 : a % b = a.tmod b := by
      have : a = a.tmod b + b * a.tdiv b := by grind
      have h2 : a % b = (a.tmod b + b * a.tdiv b) % b := congrArg (· % b) this
      rw [h2, Int.add_mul_emod_self_left]
      exact Int.emod_eq_of_lt (by omega) (by omega)
    refine ⟨a.tdiv b, T_eq hm light16 ?_⟩
    by_cases h1 : a.tmod b = 0
    · simp [L16, sBin_quo, sBin_rem, hb0, e1, h1, e4]
    · have h1' : (a.tmod b != 0) = true := by simp [h1]
      simp [L16, sBin_quo, sBin_rem, hb0, e1, h0, h1', hb1, e4]
theorem size_T {H : Heap} {a : Int} (ha : -4611686018427387904 ≤ a ∧ a ≤ 4611686018427387904) : T Try.prog 30 [iv a] H (.int .u64 a.natAbs) H := by
  refine T_eq hm light30 ?_
  by_cases h0 : a < 0
  · have e1 : IntKind.u64.wrap (-IntKind.u64.wrap a) = (a.natAbs : Int) := by
      simp [IntKind.wrap, IntKind.bits, IntKind.signed]; omega
    simp [L30, h0, e1]
  · have e1 : IntKind.u64.wrap a = (a.natAbs : Int) := by
      simp [IntKind.wrap, IntKind.bits, IntKind.signed]; omega
    simp [L30, h0, e1]
end Go.Proofs.Ytimaohinaobfnaa
