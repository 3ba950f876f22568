/-
  Chapter 25: the document's numbers: halves, sums, products.
-/
import Derived.Test.YtmdlfenileiaeaaSeatF
namespace Go.Proofs.Ytmdlfenileiaeaa
open Go.Ot Go.RowKit
set_option linter.unusedSimpArgs false
set_option linter.unusedVariables false
def okI (n : Int) : Prop := -9223372036854775808 ≤ n ∧ n ≤ 9223372036854775807
theorem wrap_mod (n : Int) : ∃ q : Int, IntKind.i64.wrap n = n + q * 18446744073709551616 := by
  simp only [IntKind.wrap, IntKind.bits, IntKind.signed]
  simp
  split
  · exact ⟨-(n / 18446744073709551616) - 1, by omega⟩
  · exact ⟨-(n / 18446744073709551616), by omega⟩
theorem wrap_eq {n m : Int} (h : ∃ q : Int, n = m + q * 18446744073709551616) : IntKind.i64.wrap n = IntKind.i64.wrap m := by
  obtain ⟨q, rfl⟩ := h
  simp only [IntKind.wrap, IntKind.bits, IntKind.signed]
  simp
theorem wrap_ok {n : Int} (h : okI n) : IntKind.i64.wrap n = n := w64 _ h
/-- A word as a number from 0 on. -/
def un (a : Int) : Nat := (a % 18446744073709551616).toNat
theorem un_int (a : Int) : ((un a : Nat) : Int) = a % 18446744073709551616 := Int.toNat_of_nonneg (Int.emod_nonneg _ (by decide))
theorem un_lt (a : Int) : un a < 18446744073709551616 := by have := un_int a; omega
theorem conv_un (a : Int) : IntKind.u64.wrap a = ((un a : Nat) : Int) := by
  rw [un_int]; simp [IntKind.wrap, IntKind.bits, IntKind.signed]

theorem wrap_un (a : Int) (h : okI a) : IntKind.i64.wrap ((un a : Nat) : Int) = a := by
  rw [un_int, wrap_eq (m := a) ⟨-(a / 18446744073709551616), by omega⟩, wrap_ok h]
theorem half_T {H : Heap} (a : Int) : T Try.prog 79 [iv a] H (.tuple #[uv (un a % 4294967296), uv (un a / 4294967296)]) H := by
  refine T_eq hm light79 ?_
  obtain ⟨u, hu⟩ : ∃ u, u = un a := ⟨_, rfl⟩
  have hlt := un_lt a
  have e0 := conv_un a
  rw [← hu] at hlt e0 ⊢
  have e1 : sBin .and (.int .u64 (u : Int)) (.int .u64 4294967295) = some (uv (u % 4294967296)) := by
    rw [sBin_and]
    have := and_u64 u 4294967295 hlt (by decide)
    rw [show u &&& 4294967295 = u % 4294967296 from Nat.and_two_pow_sub_one_eq_mod u 32] at this
    exact congrArg (fun z => some (Value.int .u64 z)) this
  have e2 : sBin .shr (.int .u64 (u : Int)) (.int .u64 32) = some (uv (u / 4294967296)) := shr_nat .u64 .u64 u 32 (by decide)
  simp [L79, e0, e1, e2, packV]
theorem whole_T {H : Heap} (lo hi : Nat) (hl : lo < 18446744073709551616) : T Try.prog 80 [uv lo, uv hi] H (iv (IntKind.i64.wrap ((hi % 4294967296 * 4294967296 + lo % 4294967296 : Nat) : Int))) H := by
  refine T_eq hm light80 ?_
  obtain ⟨q, hq⟩ : ∃ q, q = hi % 4294967296 := ⟨_, rfl⟩
  obtain ⟨r, hr⟩ : ∃ r, r = lo % 4294967296 := ⟨_, rfl⟩
  have hql : q < 4294967296 := by omega
  have hrl : r < 4294967296 := by omega
  have e1 : sBin .and (.int .u64 (lo : Int)) (.int .u64 4294967295) = some (uv r) := by
    rw [sBin_and]
    have := and_u64 lo 4294967295 hl (by decide)
    rw [show lo &&& 4294967295 = r by rw [hr]; exact Nat.and_two_pow_sub_one_eq_mod lo 32] at this
    exact congrArg (fun z => some (Value.int .u64 z)) this
  have e2 : sBin .shl (.int .u64 (hi : Int)) (.int .u64 32) = some (uv (q * 4294967296)) := by
    rw [show (32 : Int) = ((32 : Nat) : Int) from rfl, shl_u64 .u64 hi 32 (by decide)]
    rw [show hi * 2 ^ 32 % 18446744073709551616 = q * 4294967296 by rw [hq]; omega]
  obtain ⟨s, hs⟩ : ∃ s, s = q * 4294967296 := ⟨_, rfl⟩
  have e3 : sBin .or (.int .u64 (s : Int)) (.int .u64 (r : Int)) = some (uv (s + r)) := by
    rw [sBin_or, or_u64 s r (by omega) (by omega)]
    have h := Nat.two_pow_add_eq_or_of_lt (i := 32) hrl q
    rw [hs, show q * 4294967296 = 2 ^ 32 * q by rw [Nat.mul_comm], ← h]
  rw [← hq, ← hr]
  rw [← hs] at e2 ⊢
  obtain ⟨w, hw⟩ : ∃ w, w = s + r := ⟨_, rfl⟩
  rw [← hw] at e3 ⊢
  simp [L80, e1, e2, e3]
theorem add_T1 {H : Heap} (a b : Int) : T Try.prog 71 [iv a, iv b] H (iv (IntKind.i64.wrap (a + b))) H := by
  refine T_eq hm light71 ?_
  have ha := un_int a
  have hb := un_int b
  obtain ⟨al, hal⟩ : ∃ x, x = un a % 4294967296 := ⟨_, rfl⟩
  obtain ⟨ah, hah⟩ : ∃ x, x = un a / 4294967296 := ⟨_, rfl⟩
  obtain ⟨bl, hbl⟩ : ∃ x, x = un b % 4294967296 := ⟨_, rfl⟩
  obtain ⟨bh, hbh⟩ : ∃ x, x = un b / 4294967296 := ⟨_, rfl⟩
  have hla := un_lt a
  have hlb := un_lt b
  have T1 := half_T (H := H) a
  have T2 := half_T (H := H) b
  rw [← hal, ← hah] at T1
  rw [← hbl, ← hbh] at T2
  obtain ⟨lo, hlo⟩ : ∃ x, x = al + bl := ⟨_, rfl⟩
  obtain ⟨c, hc⟩ : ∃ x, x = lo / 4294967296 := ⟨_, rfl⟩
  obtain ⟨h1, hh1⟩ : ∃ x, x = ah + bh := ⟨_, rfl⟩
  obtain ⟨h2, hh2⟩ : ∃ x, x = h1 + c := ⟨_, rfl⟩
  have e1 : IntKind.u64.wrap ((al : Int) + (bl : Int)) = (lo : Int) := by rw [wu64 _ (by omega)]; omega
  have e2 : IntKind.u64.wrap ((ah : Int) + (bh : Int)) = (h1 : Int) := by rw [wu64 _ (by omega)]; omega
  have e3 : sBin .shr (.int .u64 (lo : Int)) (.int .u64 32) = some (uv c) := by rw [hc]; exact shr_nat .u64 .u64 lo 32 (by decide)
  have e4 : IntKind.u64.wrap ((h1 : Int) + (c : Int)) = (h2 : Int) := by rw [wu64 _ (by omega)]; omega
  have T3 := whole_T (H := H) lo h2 (by omega)
  have e5 : IntKind.i64.wrap ((h2 % 4294967296 * 4294967296 + lo % 4294967296 : Nat) : Int) = IntKind.i64.wrap (a + b) := by
    refine wrap_eq ?_
    refine ⟨(-((h2 / 4294967296 : Nat) : Int)) - a / 18446744073709551616 - b / 18446744073709551616, ?_⟩
    omega
  rw [e5] at T3
  simp [L71]
  refine goT_of T1 ?_
  simp
  refine goT_of T2 ?_
  simp [e1, e2, e3, e4]
  refine goT_of T3 ?_
  simp
def bitV (a : Int) (i : Nat) : Bool := (un a).testBit i
theorem bit_T {H : Heap} (a : Int) (i : Nat) (hi : i < 64) : T Try.prog 81 [iv a, iv i] H (.bool (bitV a i)) H := by
  refine T_eq hm light81 ?_
  obtain ⟨u, hu⟩ : ∃ u, u = un a := ⟨_, rfl⟩
  have hlt := un_lt a
  have e0 := conv_un a
  unfold bitV
  rw [← hu] at hlt e0 ⊢
  have e1 : IntKind.u64.wrap (i : Int) = (i : Int) := wu64 _ (by omega)
  obtain ⟨q, hq⟩ : ∃ q, q = u / 2 ^ i := ⟨_, rfl⟩
  have hql : q ≤ u := by rw [hq]; exact Nat.div_le_self _ _
  have e2 : sBin .shr (.int .u64 (u : Int)) (.int .u64 (i : Int)) = some (uv q) := by rw [hq]; exact shr_nat .u64 .u64 u i hi
  obtain ⟨r, hr⟩ : ∃ r, r = q % 2 := ⟨_, rfl⟩
  have e3 : sBin .and (.int .u64 (q : Int)) (.int .u64 1) = some (uv r) := by
    rw [sBin_and]
    have := and_u64 q 1 (by omega) (by decide)
    rw [show q &&& 1 = r by rw [hr]; exact Nat.and_two_pow_sub_one_eq_mod q 1] at this
    exact congrArg (fun z => some (Value.int .u64 z)) this
  simp [L81, e0, e1, e2, e3]
  rw [Nat.testBit_eq_decide_div_mod_eq, ← hq, ← hr]
def InvM (H : Heap) (a b : Int) (k : Nat) (t : Tm) (H1 : Heap) : Prop :=
  ∃ i : Nat, i + k = 64 ∧ t 0 = iv (IntKind.i64.wrap (a * 2 ^ i)) ∧ t 1 = iv b ∧ t 5 = iv (IntKind.i64.wrap (a * ((un b % 2 ^ i : Nat) : Int))) ∧ t 6 = iv i ∧ H1 = H
theorem wrap_add (x y : Int) : IntKind.i64.wrap (IntKind.i64.wrap x + IntKind.i64.wrap y) = IntKind.i64.wrap (x + y) := by
  obtain ⟨q, hq⟩ := wrap_mod x
  obtain ⟨r, hr⟩ := wrap_mod y
  rw [hq, hr]; exact wrap_eq ⟨q + r, by omega⟩
theorem mod_step (u i : Nat) : u % 2 ^ (i + 1) = u % 2 ^ i + (if u.testBit i then 2 ^ i else 0) := by
  rw [Nat.mod_pow_succ, Nat.testBit_eq_decide_div_mod_eq]
  have : u / 2 ^ i % 2 < 2 := Nat.mod_lt _ (by decide)
  by_cases h : u / 2 ^ i % 2 = 1
  · simp [h]
  · have h0 : u / 2 ^ i % 2 = 0 := by omega
    simp [h0]
theorem mul_T {H : Heap} (a b : Int) (ha : okI a) : T Try.prog 72 [iv a, iv b] H (iv (IntKind.i64.wrap (a * b))) H := by
  refine T_eq hm light72 ?_
  simp [L72]
  refine loop_at (InvM H a b) 64 ?_ ?_
  · refine ⟨0, rfl, by simp [wrap_ok ha], by simp, ?_, by simp, rfl⟩
    simp [Nat.mod_one]
  · rintro k t H1 ⟨i, hik, t0, t1, t5, t6, rfl⟩
    cases k with
    | zero =>
      have e0 : i = 64 := by omega
      subst e0
      have e1 : IntKind.i64.wrap (a * ((un b % 2 ^ 64 : Nat) : Int)) = IntKind.i64.wrap (a * b) := by
        rw [show (2 : Nat) ^ 64 = 18446744073709551616 from rfl, Nat.mod_eq_of_lt (un_lt b)]
        refine wrap_eq ⟨-(a * (b / 18446744073709551616)), ?_⟩
        have h1 := un_int b
        have h2 : ((un b : Nat) : Int) = b - b / 18446744073709551616 * 18446744073709551616 := by omega
        rw [h2, Int.mul_sub, Int.neg_mul, ← Int.mul_assoc]
        omega
      rw [e1] at t5
      simp [L72_1, t5, t6]
    | succ k =>
      have hi : i < 64 := by omega
      have e3 : IntKind.i64.wrap ((i : Int) + 1) = ((i + 1 : Nat) : Int) := by rw [w64 _ (by omega)]; omega
      obtain ⟨i1, hi1⟩ : ∃ i1, i1 = i + 1 := ⟨_, rfl⟩
      rw [← hi1] at e3
      obtain ⟨x, hx⟩ : ∃ x, x = IntKind.i64.wrap (a * 2 ^ i) := ⟨_, rfl⟩
      obtain ⟨y, hy⟩ : ∃ y, y = IntKind.i64.wrap (a * ((un b % 2 ^ i : Nat) : Int)) := ⟨_, rfl⟩
      rw [← hx] at t0
      rw [← hy] at t5
      have ex : IntKind.i64.wrap (x + x) = IntKind.i64.wrap (a * 2 ^ i1) := by
        rw [hx, wrap_add, hi1]
        congr 1
        rw [Int.pow_succ, ← Int.mul_assoc]; omega
      have fin : IntKind.i64.wrap (a * ((un b % 2 ^ i1 : Nat) : Int)) = if bitV b i then IntKind.i64.wrap (y + x) else y := by
        rw [hi1, mod_step]
        unfold bitV
        by_cases hb : (un b).testBit i = true
        · rw [if_pos hb, if_pos hb, hx, hy, wrap_add]
          congr 1
          push_cast
          rw [Int.mul_add]
        · rw [if_neg hb, if_neg hb, Nat.add_zero, ← hy]
      simp [L72_1, t0, t1, t5, t6, hi]
      refine goT_of (bit_T b i hi) ?_
      cases hb : bitV b i with
      | true =>
        rw [hb, if_pos rfl] at fin
        simp at fin
        simp [t0, t5, t6]
        refine goT_of (add_T1 _ _) ?_
        simp [t0]
        refine goT_of (add_T1 _ _) ?_
        simp [t6, e3]
        exact ⟨k, Nat.lt_succ_self k, i1, by omega, by simp [ex], by simp [t1], by simp [fin], by simp, rfl⟩
      | false =>
        rw [hb] at fin
        simp at fin
        simp [t0, t5, t6]
        refine goT_of (add_T1 _ _) ?_
        simp [t6, e3]
        exact ⟨k, Nat.lt_succ_self k, i1, by omega, by simp [ex], by simp [t1], by simp [t5, fin], by simp, rfl⟩
end Go.Proofs.Ytmdlfenileiaeaa
