/-
  RedLaws answers true at every operation and three numbers.
-/
import Derived.Test.YtbocmkjcpjfecaaSeatD
namespace Go.Proofs.Ytbocmkjcpjfecaa
open Go.Ot Go.ChangeShapes Go.WideShapes Go.ChangeAt Go.RowKit
set_option linter.unusedSimpArgs false
set_option linter.unusedVariables false
theorem wrap64 (n : Int) : okI (IntKind.i64.wrap n) := by
  unfold okI
  simp only [IntKind.wrap, IntKind.bits, IntKind.signed]
  simp
  split <;> omega
theorem wrap_mod (n : Int) : ∃ q : Int, IntKind.i64.wrap n = n + q * 18446744073709551616 := by
  simp only [IntKind.wrap, IntKind.bits, IntKind.signed]
  simp
  split
  · exact ⟨-(n / 18446744073709551616) - 1, by omega⟩
  · exact ⟨-(n / 18446744073709551616), by omega⟩
theorem wrap_eq {n m : Int} (h : ∃ q : Int, n = m + q * 18446744073709551616) : IntKind.i64.wrap n = IntKind.i64.wrap m := by
  obtain ⟨q, rfl⟩ := h
  simp only [IntKind.wrap, IntKind.bits, IntKind.signed]
  simp
theorem wrap_ok {n : Int} (h : okI n) : IntKind.i64.wrap n = n := w64 _ h
theorem bits_wrap (b : BitVec 64) : bitsI (IntKind.i64.wrap (b.toNat : Int)) = b := by
  apply BitVec.eq_of_toNat_eq
  have hb := b.isLt
  obtain ⟨q, hq⟩ := wrap_mod (b.toNat : Int)
  rw [bitsI, hq, BitVec.toNat_ofInt]
  have : ((b.toNat : Int) + q * 18446744073709551616) % ((2 ^ 64 : Nat) : Int) = b.toNat := by
    rw [show ((2 ^ 64 : Nat) : Int) = 18446744073709551616 from rfl]; omega
  rw [this]; rfl
theorem bits_back {n : Int} (h : okI n) : IntKind.i64.wrap ((bitsI n).toNat : Int) = n := by
  unfold okI at h
  have e : ((bitsI n).toNat : Int) = n % 18446744073709551616 := by
    rw [bitsI, BitVec.toNat_ofInt, show ((2 ^ 64 : Nat) : Int) = 18446744073709551616 from rfl]
    exact Int.toNat_of_nonneg (Int.emod_nonneg _ (by decide))
  rw [e]
  have e2 : IntKind.i64.wrap (n % 18446744073709551616) = IntKind.i64.wrap n := wrap_eq ⟨-(n / 18446744073709551616), by omega⟩
  rw [e2, wrap_ok h]
theorem join_ok (op a b : Int) (ha : okI a) (hb : okI b) : okI (joinV op a b) := by
  unfold joinV
  split; exact wrap64 _
  split; exact wrap64 _
  split; (split <;> assumption)
  split; (split <;> assumption)
  split; exact wrap64 _
  split; exact wrap64 _
  split; exact wrap64 _
  exact ⟨by decide, by decide⟩
theorem join_none (op a b : Int) (h : right op = false) : joinV op a b = 0 := by
  have : ¬ (1 ≤ op ∧ op ≤ 7) := by simpa [right] using h
  unfold joinV
  rw [if_neg (by omega), if_neg (by omega), if_neg (by omega), if_neg (by omega), if_neg (by omega), if_neg (by omega), if_neg (by omega)]
theorem right_cases {op : Int} (h : right op = true) : op = 1 ∨ op = 2 ∨ op = 3 ∨ op = 4 ∨ op = 5 ∨ op = 6 ∨ op = 7 := by
  simp [right] at h; omega
theorem join5 (a b : Int) : joinV 5 a b = IntKind.i64.wrap (bitsI a &&& bitsI b).toNat := rfl
theorem join6 (a b : Int) : joinV 6 a b = IntKind.i64.wrap (bitsI a ||| bitsI b).toNat := rfl
theorem join7 (a b : Int) : joinV 7 a b = IntKind.i64.wrap (bitsI a ^^^ bitsI b).toNat := rfl
theorem join_comm (op a b : Int) : joinV op a b = joinV op b a := by
  cases h : right op with
  | false => rw [join_none _ _ _ h, join_none _ _ _ h]
  | true =>
    rcases right_cases h with rfl | rfl | rfl | rfl | rfl | rfl | rfl
    · simp [joinV, Int.add_comm]
    · simp [joinV, Int.mul_comm]
    · simp only [joinV]; simp; split <;> split <;> omega
    · simp only [joinV]; simp; split <;> split <;> omega
    · simp [joinV, BitVec.and_comm]
    · simp [joinV, BitVec.or_comm]
    · simp [joinV, BitVec.xor_comm]
theorem join_assoc (op a b c : Int) : joinV op (joinV op a b) c = joinV op a (joinV op b c) := by
  cases h : right op with
  | false => rw [join_none _ _ _ h, join_none _ _ _ h]
  | true =>
    rcases right_cases h with rfl | rfl | rfl | rfl | rfl | rfl | rfl
    · simp only [joinV]; simp
      obtain ⟨q, hq⟩ := wrap_mod (a + b)
      obtain ⟨r, hr⟩ := wrap_mod (b + c)
      rw [hq, hr]
      exact wrap_eq ⟨q - r, by omega⟩
    · simp only [joinV]; simp
      obtain ⟨q, hq⟩ := wrap_mod (a * b)
      obtain ⟨r, hr⟩ := wrap_mod (b * c)
      rw [hq, hr]
      refine wrap_eq ⟨q * c - a * r, ?_⟩
      rw [Int.add_mul, Int.mul_add, Int.sub_mul, Int.mul_assoc a b c, Int.mul_assoc q, Int.mul_comm 18446744073709551616 c, ← Int.mul_assoc q c, ← Int.mul_assoc a r]
      omega
    · simp only [joinV]; simp; split <;> split <;> (try split) <;> (try split) <;> omega
    · simp only [joinV]; simp; split <;> split <;> (try split) <;> (try split) <;> omega
    · rw [join5, join5, join5, join5, bits_wrap, bits_wrap, BitVec.and_assoc]
    · rw [join6, join6, join6, join6, bits_wrap, bits_wrap, BitVec.or_assoc]
    · rw [join7, join7, join7, join7, bits_wrap, bits_wrap, BitVec.xor_assoc]
theorem join_zero (op a : Int) (h : right op = true) (ha : okI a) : joinV op a (zeroV op) = a := by
  have ha' := ha
  unfold okI at ha'
  rcases right_cases h with rfl | rfl | rfl | rfl | rfl | rfl | rfl
  · simp [joinV, zeroV, wrap_ok ha]
  · simp [joinV, zeroV, wrap_ok ha]
  · simp [joinV, zeroV]; omega
  · simp [joinV, zeroV]; omega
  · rw [join5, show zeroV 5 = -1 from rfl, show bitsI (-1) = BitVec.allOnes 64 by rfl, BitVec.and_allOnes]
    exact bits_back ha
  · rw [join6, show zeroV 6 = 0 from rfl, show bitsI 0 = 0#64 by rfl, BitVec.or_zero]
    exact bits_back ha
  · rw [join7, show zeroV 7 = 0 from rfl, show bitsI 0 = 0#64 by rfl, BitVec.xor_zero]
    exact bits_back ha
theorem laws_T {H : Heap} (hw : H.WF) (op a b c : Int) (ha : okI a) (hb : okI b) (hc : okI c) : ∃ v H', T Try.prog 4 [.agg [iv op, iv a, iv b, iv c].toArray] H v H' ∧ v = .bool true := by
  refine T_by hm light4 ?_
  have hnB := hw.next_ge
  have w1 : (H.new 29 4 [iv op, iv a, iv b, iv c]).WF := WF_new hw _ _ _
  obtain ⟨H1, hH1⟩ : ∃ H1, H1 = H.new 29 4 [iv op, iv a, iv b, iv c] := ⟨_, rfl⟩
  rw [← hH1] at w1
  have l1 : ∀ off, H1.load ⟨H.next, off, none⟩ = [iv op, iv a, iv b, iv c][off]? := fun off => by
    rw [load_at (k := ⟨29, 4, [iv op, iv a, iv b, iv c]⟩) (by rw [hH1]; simpa using hnB) (by rw [hH1]; simp)]
  obtain ⟨v, H2, T2, rfl⟩ := alive_T w1
  simp [L4]
  rw [← hH1]
  simp [l1]
  refine goT_of (right_T _) ?_
  cases hr : right op with
  | false =>
    simp
    refine goT_of (join_T _ _ _) ?_
    rw [join_none _ _ _ hr]
    simp
    refine goT_of T2 ?_
    simp
  | true =>
    have z1 := join_zero op a hr ha
    have z2 : joinV op (zeroV op) a = a := (join_comm _ _ _).trans z1
    have z3 := join_comm op a b
    have z4 := join_assoc op a b c
    simp
    refine goT_of (join_T op a b) ?_
    simp
    refine goT_of (join_T op b a) ?_
    simp [z3]
    refine goT_of (join_T op a b) ?_
    simp
    refine goT_of (join_T _ _ _) ?_
    simp
    refine goT_of (join_T op b c) ?_
    simp
    refine goT_of (join_T _ _ _) ?_
    simp [z4]
    refine goT_of (zero_T _) ?_
    simp
    refine goT_of (join_T _ _ _) ?_
    simp [z1]
    refine goT_of (zero_T _) ?_
    simp
    refine goT_of (join_T _ _ _) ?_
    simp [z2]
    refine goT_of T2 ?_
    simp
end Go.Proofs.Ytbocmkjcpjfecaa
