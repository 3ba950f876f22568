/-
  Chapter 14: the operations by which numbers are joined; what stands in a heap of them.
-/
import Derived.Test.YtbocmkjcpjfecaaOtZ
import Derived.Test.YtbocmkjcpjfecaaSeatL
namespace Go.Proofs.Ytbocmkjcpjfecaa
open Go.Ot
set_option linter.unusedSimpArgs false
set_option linter.unusedVariables false
theorem hm : Try.prog.follows .mixedOrders = true := by kernel_rfl
abbrev ptr (p : Nat) : Value := .pointer (some ⟨p, 0, none⟩)
abbrev sl (b n : Nat) : Value := .slice (some ⟨b, 0, none⟩) n 0
abbrev iv (n : Int) : Value := .int .i64 n
def ci (l : List Int) : List Value := l.map iv
theorem ci_append (a b : List Int) : ci (a ++ b) = ci a ++ ci b := by simp [ci]
theorem ci_len (a : List Int) : (ci a).length = a.length := by simp [ci]
def okI (n : Int) : Prop := -9223372036854775808 ≤ n ∧ n ≤ 9223372036854775807
def right (op : Int) : Bool := decide (1 ≤ op) && decide (op ≤ 7)
theorem right_T {H : Heap} (op : Int) : T Try.prog 7 [iv op] H (.bool (right op)) H := by
  refine T_eq hm light7 ?_
  by_cases h1 : 1 ≤ op <;> by_cases h2 : op ≤ 7 <;> simp [L7, right, h1, h2]
theorem rightR_T {H : Heap} (op : Int) : T Try.prog 8 [iv op] H (.bool (right op)) H := by
  refine T_eq hm light8 ?_
  by_cases h1 : 1 ≤ op <;> by_cases h2 : op ≤ 7 <;> simp [L8, right, h1, h2]
def zeroV (op : Int) : Int := if op = 2 then 1 else if op = 3 then 9223372036854775807 else if op = 4 then -9223372036854775808 else if op = 5 then -1 else 0
theorem zero_T {H : Heap} (op : Int) : T Try.prog 9 [iv op] H (iv (zeroV op)) H := by
  refine T_eq hm light9 ?_
  by_cases h2 : op = 2
  · subst h2; simp [L9, zeroV]
  by_cases h3 : op = 3
  · subst h3; simp [L9, zeroV]
  by_cases h4 : op = 4
  · subst h4; simp [L9, zeroV]
  by_cases h5 : op = 5
  · subst h5; simp [L9, zeroV]
  simp [L9, zeroV, h2, h3, h4, h5]
def bitsI (n : Int) : BitVec 64 := BitVec.ofInt 64 n
def joinV (op a b : Int) : Int :=
  if op = 1 then IntKind.i64.wrap (a + b) else if op = 2 then IntKind.i64.wrap (a * b) else if op = 3 then (if b < a then b else a) else if op = 4 then (if a < b then b else a)
  else if op = 5 then IntKind.i64.wrap (bitsI a &&& bitsI b).toNat else if op = 6 then IntKind.i64.wrap (bitsI a ||| bitsI b).toNat else if op = 7 then IntKind.i64.wrap (bitsI a ^^^ bitsI b).toNat else 0
theorem join_T {H : Heap} (op a b : Int) : T Try.prog 11 [iv op, iv a, iv b] H (iv (joinV op a b)) H := by
  refine T_eq hm light11 ?_
  by_cases h1 : op = 1
  · subst h1; simp [L11, joinV]
  by_cases h2 : op = 2
  · subst h2; simp [L11, joinV]
  by_cases h3 : op = 3
  · subst h3; simp [L11, joinV, sMM, sMinMax]
  by_cases h4 : op = 4
  · subst h4; simp [L11, joinV, sMM, sMinMax]
  by_cases h5 : op = 5
  · subst h5; simp [L11, joinV, sBin_and]; rfl
  by_cases h6 : op = 6
  · subst h6; simp [L11, joinV, sBin_or]; rfl
  by_cases h7 : op = 7
  · subst h7; simp [L11, joinV, sBin_xor]; rfl
  simp [L11, joinV, h1, h2, h3, h4, h5, h6, h7]
end Go.Proofs.Ytbocmkjcpjfecaa
