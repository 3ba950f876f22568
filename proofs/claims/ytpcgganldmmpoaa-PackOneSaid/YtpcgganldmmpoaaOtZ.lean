/-
  Part Z: numbers from 0 on compared as such; more of bits.
-/
import Derived.Test.YtpcgganldmmpoaaOtY
set_option linter.unusedVariables false
set_option linter.unusedSimpArgs false
namespace Go.Ot
open Go.RowKit
@[simp] theorem beqN (a b : Nat) : ((a : Int) == (b : Int)) = decide (a = b) := by
  by_cases h : a = b
  · subst h; simp
  · have : ¬ (a : Int) = (b : Int) := by omega
    simp [h, this]
@[simp] theorem beqL (a n : Nat) : ((a : Int) == (no_index (OfNat.ofNat n) : Int)) = decide (a = OfNat.ofNat n) := beqN a n
@[simp] theorem bneN (a b : Nat) : ((a : Int) != (b : Int)) = !decide (a = b) := by simp only [bne, beqN]
@[simp] theorem bneL (a n : Nat) : ((a : Int) != (no_index (OfNat.ofNat n) : Int)) = !decide (a = OfNat.ofNat n) := bneN a n
@[simp] theorem ltNL (a n : Nat) : ((a : Int) < (no_index (OfNat.ofNat n) : Int)) = (a < OfNat.ofNat n) := propext Int.ofNat_lt
@[simp] theorem ltLN (a n : Nat) : ((no_index (OfNat.ofNat n) : Int) < (a : Int)) = (OfNat.ofNat n < a) := propext Int.ofNat_lt
@[simp] theorem leNL (a n : Nat) : ((a : Int) ≤ (no_index (OfNat.ofNat n) : Int)) = (a ≤ OfNat.ofNat n) := propext Int.ofNat_le
@[simp] theorem leLN (a n : Nat) : ((no_index (OfNat.ofNat n) : Int) ≤ (a : Int)) = (OfNat.ofNat n ≤ a) := propext Int.ofNat_le
theorem and_u8 (a b : Nat) (ha : a < 256) (hb : b < 256) : IntKind.u8.wrap ((BitVec.ofInt IntKind.u8.bits (a : Int) &&& BitVec.ofInt IntKind.u8.bits (b : Int)).toNat : Int) = ((a &&& b : Nat) : Int) := by
  rw [BitVec.toNat_and, bits_u8 a ha, bits_u8 b hb, wu8_mod, Nat.mod_eq_of_lt (Nat.lt_of_le_of_lt Nat.and_le_left ha)]
theorem and_u64 (a b : Nat) (ha : a < 18446744073709551616) (hb : b < 18446744073709551616) : IntKind.u64.wrap ((BitVec.ofInt IntKind.u64.bits (a : Int) &&& BitVec.ofInt IntKind.u64.bits (b : Int)).toNat : Int) = ((a &&& b : Nat) : Int) := by
  rw [BitVec.toNat_and, bits_u64 a ha, bits_u64 b hb, wu64_mod, Nat.mod_eq_of_lt (Nat.lt_of_le_of_lt Nat.and_le_left ha)]
end Go.Ot
