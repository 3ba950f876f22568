/-
  Chapter 27: numbers by halves; a long division; numbers as texts.
-/
import Derived.Test.YtjkfghekdcalhaaSeatA
namespace Go.Proofs.Ytjkfghekdcalhaa
open Go.Ot
set_option linter.unusedSimpArgs false
set_option linter.unusedVariables false
abbrev iv (n : Int) : Value := .int .i64 n
abbrev uv (n : Nat) : Value := .int .u64 (n : Int)
theorem and_mask (x : Nat) (hx : x < 18446744073709551616) : sBin .and (uv x) (.int .u64 4294967295) = some (uv (x % 4294967296)) := by
  rw [sBin_and]
  congr 2
  have e : (BitVec.ofInt IntKind.u64.bits (x : Int) &&& BitVec.ofInt IntKind.u64.bits 4294967295).toNat = x % 4294967296 := by
    rw [BitVec.toNat_and]
    rw [bits_u64 x hx, show (4294967295 : Int) = ((4294967295 : Nat) : Int) from rfl, bits_u64 4294967295 (by decide)]
    exact Nat.and_two_pow_sub_one_eq_mod x 32
  rw [e, wu64 _ (by omega)]
theorem and_one (x : Nat) (hx : x < 18446744073709551616) : sBin .and (uv x) (.int .u64 1) = some (uv (x % 2)) := by
  rw [sBin_and]
  congr 2
  have e : (BitVec.ofInt IntKind.u64.bits (x : Int) &&& BitVec.ofInt IntKind.u64.bits 1).toNat = x % 2 := by
    rw [BitVec.toNat_and]
    rw [bits_u64 x hx, show (1 : Int) = ((1 : Nat) : Int) from rfl, bits_u64 1 (by decide)]
    exact Nat.and_two_pow_sub_one_eq_mod x 1
  rw [e, wu64 _ (by omega)]
theorem or_sum (a b i : Nat) (hb : b < 2 ^ i) : (a * 2 ^ i) ||| b = a * 2 ^ i + b := by
  rw [← Nat.shiftLeft_eq, Nat.shiftLeft_add_eq_or_of_lt hb]
def hi32 (a : Int) : Nat := (a % 18446744073709551616).toNat / 4294967296
def lo32 (a : Int) : Nat := (a % 18446744073709551616).toNat % 4294967296
theorem half_T {H : Heap} (a : Int) : T Try.prog 68 [iv a] H (.tuple #[uv (lo32 a), uv (hi32 a)]) H := by
  refine T_eq hm light68 ?_
  obtain ⟨u, hu⟩ : ∃ u : Nat, u = (a % 18446744073709551616).toNat := ⟨_, rfl⟩
  have e : IntKind.u64.wrap a = (u : Int) := by simp [IntKind.wrap, IntKind.bits, IntKind.signed]; omega
  have hlt : u < 18446744073709551616 := by omega
  have h1 := and_mask u hlt
  have h2 := shr_nat .u64 .u64 u 32 (by decide)
  simp only [Nat.reducePow] at h2
  have h2' : sBin .shr (uv u) (.int .u64 32) = some (uv (u / 4294967296)) := h2
  simp [L68, e, h1, h2', lo32, hi32, ← hu]
theorem whole_T {H : Heap} (lo hi : Nat) (hl : lo < 18446744073709551616) (hh : hi < 18446744073709551616) : T Try.prog 69 [uv lo, uv hi] H (iv (IntKind.i64.wrap ((hi % 4294967296 * 4294967296 + lo % 4294967296 : Nat) : Int))) H := by
  refine T_eq hm light69 ?_
  have h1 := and_mask lo hl
  have h2 := shl_u64 .u64 hi 32 (by decide)
  have e2 : hi * 2 ^ 32 % 18446744073709551616 = hi % 4294967296 * 2 ^ 32 := by omega
  rw [e2] at h2
  have h2' : sBin .shl (uv hi) (.int .u64 32) = some (uv (hi % 4294967296 * 2 ^ 32)) := h2
  have h3 : sBin .or (uv (hi % 4294967296 * 2 ^ 32)) (uv (lo % 4294967296)) = some (uv (hi % 4294967296 * 4294967296 + lo % 4294967296)) := by
    rw [sBin_or, or_u64 _ _ (by omega) (by omega), or_sum _ _ 32 (by omega)]
  simp only [Nat.reducePow] at h2' h3
  simp [L69, h1, h2', h3]
theorem wrap_add {a b : Int} : IntKind.i64.wrap (((hi32 a + hi32 b + (lo32 a + lo32 b) / 4294967296) % 4294967296 * 4294967296 + (lo32 a + lo32 b) % 4294967296 : Nat) : Int) = IntKind.i64.wrap (a + b) := by
  simp only [hi32, lo32, IntKind.wrap, IntKind.bits, IntKind.signed]
  simp
  omega
theorem add_T {H : Heap} (a b : Int) : T Try.prog 64 [iv a, iv b] H (iv (IntKind.i64.wrap (a + b))) H := by
  refine T_eq hm light64 ?_
  have ha : hi32 a < 4294967296 ∧ lo32 a < 4294967296 := by unfold hi32 lo32; omega
  have hb : hi32 b < 4294967296 ∧ lo32 b < 4294967296 := by unfold hi32 lo32; omega
  obtain ⟨la, hla⟩ : ∃ x, x = lo32 a := ⟨_, rfl⟩
  obtain ⟨lb, hlb⟩ : ∃ x, x = lo32 b := ⟨_, rfl⟩
  obtain ⟨h_a, hha⟩ : ∃ x, x = hi32 a := ⟨_, rfl⟩
  obtain ⟨h_b, hhb⟩ : ∃ x, x = hi32 b := ⟨_, rfl⟩
  have w := wrap_add (a := a) (b := b)
  have Ta := half_T (H := H) a
  have Tb := half_T (H := H) b
  rw [← hla, ← hlb, ← hha, ← hhb] at w
  rw [← hla, ← hha] at Ta
  rw [← hlb, ← hhb] at Tb
  obtain ⟨l, hl⟩ : ∃ l, l = la + lb := ⟨_, rfl⟩
  obtain ⟨h0, hh0⟩ : ∃ l, l = h_a + h_b := ⟨_, rfl⟩
  obtain ⟨q, hq⟩ : ∃ q, q = l / 4294967296 := ⟨_, rfl⟩
  obtain ⟨h1, hh1⟩ : ∃ l, l = h0 + q := ⟨_, rfl⟩
  have e1 : IntKind.u64.wrap ((la : Int) + lb) = (l : Int) := by rw [wu64 _ (by omega)]; omega
  have e2 : IntKind.u64.wrap ((h_a : Int) + h_b) = (h0 : Int) := by rw [wu64 _ (by omega)]; omega
  have e3 : sBin .shr (uv l) (.int .u64 32) = some (uv q) := by rw [hq]; exact shr_nat .u64 .u64 l 32 (by decide)
  have e4 : IntKind.u64.wrap ((h0 : Int) + q) = (h1 : Int) := by rw [wu64 _ (by omega)]; omega
  have Tw := whole_T (H := H) l h1 (by omega) (by omega)
  rw [← hl, ← hh0, ← hq, ← hh1] at w
  rw [w] at Tw
  simp only [uv] at Ta Tb e3 Tw
  simp [L64]
  refine goT_of Ta ?_
  simp
  refine goT_of Tb ?_
  simp [e1, e2, e3, e4]
  refine goT_of Tw ?_
  simp
theorem wrap_com {a : Int} : IntKind.i64.wrap (((4294967295 - hi32 a) % 4294967296 * 4294967296 + (4294967295 - lo32 a) % 4294967296 : Nat) : Int) = IntKind.i64.wrap (-a - 1) := by
  simp only [hi32, lo32, IntKind.wrap, IntKind.bits, IntKind.signed]
  simp
  omega
theorem com_T {H : Heap} (a : Int) : T Try.prog 65 [iv a] H (iv (IntKind.i64.wrap (-a - 1))) H := by
  refine T_eq hm light65 ?_
  have ha : hi32 a < 4294967296 ∧ lo32 a < 4294967296 := by unfold hi32 lo32; omega
  obtain ⟨la, hla⟩ : ∃ x, x = lo32 a := ⟨_, rfl⟩
  obtain ⟨h_a, hha⟩ : ∃ x, x = hi32 a := ⟨_, rfl⟩
  have w := wrap_com (a := a)
  have Ta := half_T (H := H) a
  rw [← hla, ← hha] at w Ta ha
  obtain ⟨l, hl⟩ : ∃ l, l = 4294967295 - la := ⟨_, rfl⟩
  obtain ⟨h0, hh0⟩ : ∃ l, l = 4294967295 - h_a := ⟨_, rfl⟩
  have e1 : IntKind.u64.wrap (4294967295 - (la : Int)) = (l : Int) := by rw [wu64 _ (by omega)]; omega
  have e2 : IntKind.u64.wrap (4294967295 - (h_a : Int)) = (h0 : Int) := by rw [wu64 _ (by omega)]; omega
  have Tw := whole_T (H := H) l h0 (by omega) (by omega)
  rw [← hl, ← hh0] at w
  rw [w] at Tw
  simp only [uv] at Ta Tw
  simp [L65]
  refine goT_of Ta ?_
  simp [e1, e2]
  refine goT_of Tw ?_
  simp
theorem neg_T {H : Heap} (a : Int) : T Try.prog 54 [iv a] H (iv (IntKind.i64.wrap (-a))) H := by
  refine T_eq hm light54 ?_
  have e : IntKind.i64.wrap (IntKind.i64.wrap (-a - 1) + 1) = IntKind.i64.wrap (-a) := by
    simp only [IntKind.wrap, IntKind.bits, IntKind.signed]
    simp
    omega
  have Ta := add_T (H := H) (IntKind.i64.wrap (-a - 1)) 1
  rw [e] at Ta
  simp [L54]
  refine goT_of (com_T a) ?_
  simp
  refine goT_of Ta ?_
  simp
theorem size_T {H : Heap} {a : Int} (ha : -9223372036854775808 ≤ a ∧ a ≤ 9223372036854775807) : T Try.prog 38 [iv a] H (uv a.natAbs) H := by
  refine T_eq hm light38 ?_
  by_cases h0 : a < 0
  · have e1 : IntKind.u64.wrap (-IntKind.u64.wrap a) = (a.natAbs : Int) := by
      simp [IntKind.wrap, IntKind.bits, IntKind.signed]; omega
    simp [L38, h0, e1]
  · have e1 : IntKind.u64.wrap a = (a.natAbs : Int) := by
      simp [IntKind.wrap, IntKind.bits, IntKind.signed]; omega
    simp [L38, h0, e1]
theorem refSize_T {H : Heap} {a : Int} (ha : -9223372036854775808 ≤ a ∧ a ≤ 9223372036854775807) : T Try.prog 39 [iv a] H (uv a.natAbs) H := by
  refine T_eq hm light39 ?_
  by_cases h0 : a < 0
  · have e1 : IntKind.u64.wrap (IntKind.i64.wrap (-a)) = (a.natAbs : Int) := by
      simp [IntKind.wrap, IntKind.bits, IntKind.signed]; omega
    simp [L39, h0]
    refine goT_of (neg_T a) ?_
    simp [e1]
  · have e1 : IntKind.u64.wrap a = (a.natAbs : Int) := by
      simp [IntKind.wrap, IntKind.bits, IntKind.signed]; omega
    simp [L39, h0, e1]
def InvLg (H : Heap) (a : Nat) (k : Nat) (t : Tm) (H1 : Heap) : Prop :=
  k ≤ 64 ∧ t 0 = uv a ∧ t 1 = .int .u64 10 ∧ t 6 = uv (a / 2 ^ k / 10) ∧ t 7 = uv (a / 2 ^ k % 10) ∧ t 8 = iv ((k : Int) - 1) ∧ H = H1
theorem long_T {H : Heap} (a : Nat) (ha : a < 18446744073709551616) : T Try.prog 40 [uv a, .int .u64 10] H (.tuple #[uv (a / 10), uv (a % 10)]) H := by
  refine T_eq hm light40 ?_
  simp [L40]
  refine loop_at (InvLg H a) 64 ?_ ?_
  · have h1 : a / 2 ^ 64 = 0 := Nat.div_eq_of_lt (by omega)
    exact ⟨by omega, by simp, by simp, by simp [h1], by simp [h1], by simp, rfl⟩
  · rintro k t H1 ⟨hk, t0, t1, t6, t7, t8, rfl⟩
    cases k with
    | zero =>
      simp only [Nat.pow_zero, Nat.div_one] at t6 t7
      have e : ¬ (0 : Int) ≤ -1 := by omega
      simp [L40_1, t8, t6, t7]
    | succ j =>
      obtain ⟨A, hA⟩ : ∃ A, A = a / 2 ^ (j + 1) := ⟨_, rfl⟩
      obtain ⟨B, hB⟩ : ∃ B, B = a / 2 ^ j := ⟨_, rfl⟩
      have hAB : A = B / 2 := by rw [hA, hB, Nat.div_div_eq_div_mul, Nat.pow_succ]
      have hBlt : B < 18446744073709551616 := by rw [hB]; exact Nat.lt_of_le_of_lt (Nat.div_le_self _ _) ha
      rw [← hA] at t6 t7
      obtain ⟨q, hq⟩ : ∃ q, q = A / 10 := ⟨_, rfl⟩
      obtain ⟨r, hr⟩ : ∃ r, r = A % 10 := ⟨_, rfl⟩
      rw [← hq] at t6
      rw [← hr] at t7
      have hj : (((j + 1 : Nat) : Int) - 1) = (j : Int) := by omega
      rw [hj] at t8
      have hj0 : (0 : Int) ≤ (j : Int) := by omega
      have c1 : sBin .shr (uv r) (.int .u64 63) = some (uv 0) := by
        have := shr_nat .u64 .u64 r 63 (by decide)
        rw [show r / 2 ^ 63 = 0 from Nat.div_eq_of_lt (by omega)] at this
        exact this
      have c2 : sBin .shl (uv r) (.int .u64 1) = some (uv (2 * r)) := by
        have := shl_u64 .u64 r 1 (by decide)
        rw [show r * 2 ^ 1 % 18446744073709551616 = 2 * r by omega] at this
        exact this
      have c3 : IntKind.u64.wrap (j : Int) = (j : Int) := wu64 _ (by omega)
      have c4 : sBin .shr (uv a) (.int .u64 (j : Int)) = some (uv B) := by rw [hB]; exact shr_nat .u64 .u64 a j (by simp [IntKind.bits]; omega)
      have c5 := and_one B hBlt
      obtain ⟨m, hm'⟩ : ∃ m, m = B % 2 := ⟨_, rfl⟩
      rw [← hm'] at c5
      obtain ⟨r2, hr2⟩ : ∃ r2, r2 = 2 * r + m := ⟨_, rfl⟩
      have c6 : sBin .or (uv (2 * r)) (uv m) = some (uv r2) := by
        rw [sBin_or, or_u64 _ _ (by omega) (by omega), show 2 * r = r * 2 ^ 1 by omega, or_sum r m 1 (by omega), hr2]
        congr 3
        omega
      have c7 : sBin .shl (uv q) (.int .u64 1) = some (uv (2 * q)) := by
        have := shl_u64 .u64 q 1 (by decide)
        rw [show q * 2 ^ 1 % 18446744073709551616 = 2 * q by omega] at this
        exact this
      have c8 : sBin .or (uv (2 * q)) (.int .u64 1) = some (uv (2 * q + 1)) := by
        rw [show (Value.int .u64 1) = uv 1 from rfl, sBin_or, or_u64 _ _ (by omega) (by omega), show 2 * q = q * 2 ^ 1 by omega, or_sum q 1 1 (by omega)]
      have c9 : IntKind.i64.wrap ((j : Int) - 1) = (j : Int) - 1 := w64 _ (by omega)
      have hB10 : B = 10 * (2 * q) + r2 := by omega
      obtain ⟨q2, hq2⟩ : ∃ q2, q2 = 2 * q := ⟨_, rfl⟩
      obtain ⟨q3, hq3⟩ : ∃ q3, q3 = 2 * q + 1 := ⟨_, rfl⟩
      obtain ⟨r1, hr1⟩ : ∃ r1, r1 = 2 * r := ⟨_, rfl⟩
      rw [← hr1] at c2 c6
      rw [← hq2] at c7
      rw [← hq2, show q2 + 1 = q3 by omega] at c8
      simp only [uv] at c1 c2 c4 c5 c6 c7 c8 t0 t6 t7
      by_cases hge : 10 ≤ r2
      · have hge' : (10 : Int) ≤ (r2 : Int) := by omega
        obtain ⟨r3, hr3⟩ : ∃ r3, r3 = r2 - 10 := ⟨_, rfl⟩
        have c10 : IntKind.u64.wrap ((r2 : Int) - 10) = (r3 : Int) := by rw [wu64 _ (by omega)]; omega
        simp [L40_1, t0, t1, t6, t7, t8, hj0, c1, c2, c3, c4, c5, c6, c7, c8, c9, c10, hge']
        refine ⟨j, Nat.lt_succ_self j, by omega, by simp [t0], by simp [t1], ?_, ?_, by simp, rfl⟩
        · rw [← hB, show B / 10 = q3 by omega]; simp
        · rw [← hB, show B % 10 = r3 by omega]; simp
      · have hge' : ¬ (10 : Int) ≤ (r2 : Int) := by omega
        simp [L40_1, t0, t1, t6, t7, t8, hj0, c1, c2, c3, c4, c5, c6, c7, c8, c9, hge']
        refine ⟨j, Nat.lt_succ_self j, by omega, by simp [t0], by simp [t1], ?_, ?_, by simp, rfl⟩
        · rw [← hB, show B / 10 = q2 by omega]; simp
        · rw [← hB, show B % 10 = r2 by omega]; simp
end Go.Proofs.Ytjkfghekdcalhaa
