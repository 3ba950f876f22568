/-
  Chapter 29: numbers as texts, by both (carried over from chapter 27).
-/
import Derived.Test.YtfmcnojojknkfaaSeatBA
namespace Go.Proofs.Ytfmcnojojknkfaa
open Go.Ot Go.RowKit
set_option linter.unusedSimpArgs false
set_option linter.unusedVariables false
theorem and_mask (x : Nat) (hx : x < 18446744073709551616) : sBin .and (uv x) (.int .u64 4294967295) = some (uv (x % 4294967296)) := by
  rw [sBin_and]
  congr 2
  have e : (BitVec.ofInt IntKind.u64.bits (x : Int) &&& BitVec.ofInt IntKind.u64.bits 4294967295).toNat = x % 4294967296 := by
    rw [BitVec.toNat_and]
    rw [bits_u64 x hx, show (4294967295 : Int) = ((4294967295 : Nat) : Int) from rfl, bits_u64 4294967295 (by decide)]
    exact Nat.and_two_pow_sub_one_eq_mod x 32
  rw [e, wu64 _ (by omega)]
theorem and_one (x : Nat) (hx : x < 18446744073709551616) : sBin .and (uv x) (.int .u64 1) = some (uv (x % 2)) := by
  rw [sBin_and]
  congr 2
  have e : (BitVec.ofInt IntKind.u64.bits (x : Int) &&& BitVec.ofInt IntKind.u64.bits 1).toNat = x % 2 := by
    rw [BitVec.toNat_and]
    rw [bits_u64 x hx, show (1 : Int) = ((1 : Nat) : Int) from rfl, bits_u64 1 (by decide)]
    exact Nat.and_two_pow_sub_one_eq_mod x 1
  rw [e, wu64 _ (by omega)]
theorem or_sum (a b i : Nat) (hb : b < 2 ^ i) : (a * 2 ^ i) ||| b = a * 2 ^ i + b := by
  rw [← Nat.shiftLeft_eq, Nat.shiftLeft_add_eq_or_of_lt hb]
def hi32 (a : Int) : Nat := (a % 18446744073709551616).toNat / 4294967296
def lo32 (a : Int) : Nat := (a % 18446744073709551616).toNat % 4294967296
theorem half_T {H : Heap} (a : Int) : T Try.prog 83 [iv a] H (.tuple #[uv (lo32 a), uv (hi32 a)]) H := by
  refine T_eq hm light83 ?_
  obtain ⟨u, hu⟩ : ∃ u : Nat, u = (a % 18446744073709551616).toNat := ⟨_, rfl⟩
  have e : IntKind.u64.wrap a = (u : Int) := by simp [IntKind.wrap, IntKind.bits, IntKind.signed]; omega
  have hlt : u < 18446744073709551616 := by omega
  have h1 := and_mask u hlt
  have h2 := shr_nat .u64 .u64 u 32 (by decide)
  simp only [Nat.reducePow] at h2
  have h2' : sBin .shr (uv u) (.int .u64 32) = some (uv (u / 4294967296)) := h2
  simp [L83, e, h1, h2', lo32, hi32, ← hu]
theorem whole_T {H : Heap} (lo hi : Nat) (hl : lo < 18446744073709551616) (hh : hi < 18446744073709551616) : T Try.prog 84 [uv lo, uv hi] H (iv (IntKind.i64.wrap ((hi % 4294967296 * 4294967296 + lo % 4294967296 : Nat) : Int))) H := by
  refine T_eq hm light84 ?_
  have h1 := and_mask lo hl
  have h2 := shl_u64 .u64 hi 32 (by decide)
  have e2 : hi * 2 ^ 32 % 18446744073709551616 = hi % 4294967296 * 2 ^ 32 := by omega
  rw [e2] at h2
  have h2' : sBin .shl (uv hi) (.int .u64 32) = some (uv (hi % 4294967296 * 2 ^ 32)) := h2
  have h3 : sBin .or (uv (hi % 4294967296 * 2 ^ 32)) (uv (lo % 4294967296)) = some (uv (hi % 4294967296 * 4294967296 + lo % 4294967296)) := by
    rw [sBin_or, or_u64 _ _ (by omega) (by omega), or_sum _ _ 32 (by omega)]
  simp only [Nat.reducePow] at h2' h3
  simp [L84, h1, h2', h3]
theorem wrap_add {a b : Int} : IntKind.i64.wrap (((hi32 a + hi32 b + (lo32 a + lo32 b) / 4294967296) % 4294967296 * 4294967296 + (lo32 a + lo32 b) % 4294967296 : Nat) : Int) = IntKind.i64.wrap (a + b) := by
  simp only [hi32, lo32, IntKind.wrap, IntKind.bits, IntKind.signed]
  simp
  omega
theorem add_T {H : Heap} (a b : Int) : T Try.prog 77 [iv a, iv b] H (iv (IntKind.i64.wrap (a + b))) H := by
  refine T_eq hm light77 ?_
  have ha : hi32 a < 4294967296 ∧ lo32 a < 4294967296 := by unfold hi32 lo32; omega
  have hb : hi32 b < 4294967296 ∧ lo32 b < 4294967296 := by unfold hi32 lo32; omega
  obtain ⟨la, hla⟩ : ∃ x, x = lo32 a := ⟨_, rfl⟩
  obtain ⟨lb, hlb⟩ : ∃ x, x = lo32 b := ⟨_, rfl⟩
  obtain ⟨h_a, hha⟩ : ∃ x, x = hi32 a := ⟨_, rfl⟩
  obtain ⟨h_b, hhb⟩ : ∃ x, x = hi32 b := ⟨_, rfl⟩
  have w := wrap_add (a := a) (b := b)
  have Ta := half_T (H := H) a
  have Tb := half_T (H := H) b
  rw [← hla, ← hlb, ← hha, ← hhb] at w
  rw [← hla, ← hha] at Ta
  rw [← hlb, ← hhb] at Tb
  obtain ⟨l, hl⟩ : ∃ l, l = la + lb := ⟨_, rfl⟩
  obtain ⟨h0, hh0⟩ : ∃ l, l = h_a + h_b := ⟨_, rfl⟩
  obtain ⟨q, hq⟩ : ∃ q, q = l / 4294967296 := ⟨_, rfl⟩
  obtain ⟨h1, hh1⟩ : ∃ l, l = h0 + q := ⟨_, rfl⟩
  have e1 : IntKind.u64.wrap ((la : Int) + lb) = (l : Int) := by rw [wu64 _ (by omega)]; omega
  have e2 : IntKind.u64.wrap ((h_a : Int) + h_b) = (h0 : Int) := by rw [wu64 _ (by omega)]; omega
  have e3 : sBin .shr (uv l) (.int .u64 32) = some (uv q) := by rw [hq]; exact shr_nat .u64 .u64 l 32 (by decide)
  have e4 : IntKind.u64.wrap ((h0 : Int) + q) = (h1 : Int) := by rw [wu64 _ (by omega)]; omega
  have Tw := whole_T (H := H) l h1 (by omega) (by omega)
  rw [← hl, ← hh0, ← hq, ← hh1] at w
  rw [w] at Tw
  simp only [uv] at Ta Tb e3 Tw
  simp [L77]
  refine goT_of Ta ?_
  simp
  refine goT_of Tb ?_
  simp [e1, e2, e3, e4]
  refine goT_of Tw ?_
  simp
theorem wrap_com {a : Int} : IntKind.i64.wrap (((4294967295 - hi32 a) % 4294967296 * 4294967296 + (4294967295 - lo32 a) % 4294967296 : Nat) : Int) = IntKind.i64.wrap (-a - 1) := by
  simp only [hi32, lo32, IntKind.wrap, IntKind.bits, IntKind.signed]
  simp
  omega
theorem com_T {H : Heap} (a : Int) : T Try.prog 78 [iv a] H (iv (IntKind.i64.wrap (-a - 1))) H := by
  refine T_eq hm light78 ?_
  have ha : hi32 a < 4294967296 ∧ lo32 a < 4294967296 := by unfold hi32 lo32; omega
  obtain ⟨la, hla⟩ : ∃ x, x = lo32 a := ⟨_, rfl⟩
  obtain ⟨h_a, hha⟩ : ∃ x, x = hi32 a := ⟨_, rfl⟩
  have w := wrap_com (a := a)
  have Ta := half_T (H := H) a
  rw [← hla, ← hha] at w Ta ha
  obtain ⟨l, hl⟩ : ∃ l, l = 4294967295 - la := ⟨_, rfl⟩
  obtain ⟨h0, hh0⟩ : ∃ l, l = 4294967295 - h_a := ⟨_, rfl⟩
  have e1 : IntKind.u64.wrap (4294967295 - (la : Int)) = (l : Int) := by rw [wu64 _ (by omega)]; omega
  have e2 : IntKind.u64.wrap (4294967295 - (h_a : Int)) = (h0 : Int) := by rw [wu64 _ (by omega)]; omega
  have Tw := whole_T (H := H) l h0 (by omega) (by omega)
  rw [← hl, ← hh0] at w
  rw [w] at Tw
  simp only [uv] at Ta Tw
  simp [L78]
  refine goT_of Ta ?_
  simp [e1, e2]
  refine goT_of Tw ?_
  simp
theorem neg_T {H : Heap} (a : Int) : T Try.prog 71 [iv a] H (iv (IntKind.i64.wrap (-a))) H := by
  refine T_eq hm light71 ?_
  have e : IntKind.i64.wrap (IntKind.i64.wrap (-a - 1) + 1) = IntKind.i64.wrap (-a) := by
    simp only [IntKind.wrap, IntKind.bits, IntKind.signed]
    simp
    omega
  have Ta := add_T (H := H) (IntKind.i64.wrap (-a - 1)) 1
  rw [e] at Ta
  simp [L71]
  refine goT_of (com_T a) ?_
  simp
  refine goT_of Ta ?_
  simp
theorem size_T {H : Heap} {a : Int} (ha : -9223372036854775808 ≤ a ∧ a ≤ 9223372036854775807) : T Try.prog 53 [iv a] H (uv a.natAbs) H := by
  refine T_eq hm light53 ?_
  by_cases h0 : a < 0
  · have e1 : IntKind.u64.wrap (-IntKind.u64.wrap a) = (a.natAbs : Int) := by
      simp [IntKind.wrap, IntKind.bits, IntKind.signed]; omega
    simp [L53, h0, e1]
  · have e1 : IntKind.u64.wrap a = (a.natAbs : Int) := by
      simp [IntKind.wrap, IntKind.bits, IntKind.signed]; omega
    simp [L53, h0, e1]
theorem refSize_T {H : Heap} {a : Int} (ha : -9223372036854775808 ≤ a ∧ a ≤ 9223372036854775807) : T Try.prog 54 [iv a] H (uv a.natAbs) H := by
  refine T_eq hm light54 ?_
  by_cases h0 : a < 0
  · have e1 : IntKind.u64.wrap (IntKind.i64.wrap (-a)) = (a.natAbs : Int) := by
      simp [IntKind.wrap, IntKind.bits, IntKind.signed]; omega
    simp [L54, h0]
    refine goT_of (neg_T a) ?_
    simp [e1]
  · have e1 : IntKind.u64.wrap a = (a.natAbs : Int) := by
      simp [IntKind.wrap, IntKind.bits, IntKind.signed]; omega
    simp [L54, h0, e1]
def InvLg (H : Heap) (a : Nat) (k : Nat) (t : Tm) (H1 : Heap) : Prop :=
  k ≤ 64 ∧ t 0 = uv a ∧ t 1 = .int .u64 10 ∧ t 6 = uv (a / 2 ^ k / 10) ∧ t 7 = uv (a / 2 ^ k % 10) ∧ t 8 = iv ((k : Int) - 1) ∧ H = H1
theorem long_T {H : Heap} (a : Nat) (ha : a < 18446744073709551616) : T Try.prog 55 [uv a, .int .u64 10] H (.tuple #[uv (a / 10), uv (a % 10)]) H := by
  refine T_eq hm light55 ?_
  simp [L55]
  refine loop_at (InvLg H a) 64 ?_ ?_
  · have h1 : a / 2 ^ 64 = 0 := Nat.div_eq_of_lt (by omega)
    exact ⟨by omega, by simp, by simp, by simp [h1], by simp [h1], by simp, rfl⟩
  · rintro k t H1 ⟨hk, t0, t1, t6, t7, t8, rfl⟩
    cases k with
    | zero =>
      simp only [Nat.pow_zero, Nat.div_one] at t6 t7
      have e : ¬ (0 : Int) ≤ -1 := by omega
      simp [L55_1, t8, t6, t7]
    | succ j =>
      obtain ⟨A, hA⟩ : ∃ A, A = a / 2 ^ (j + 1) := ⟨_, rfl⟩
      obtain ⟨B, hB⟩ : ∃ B, B = a / 2 ^ j := ⟨_, rfl⟩
      have hAB : A = B / 2 := by rw [hA, hB, Nat.div_div_eq_div_mul, Nat.pow_succ]
      have hBlt : B < 18446744073709551616 := by rw [hB]; exact Nat.lt_of_le_of_lt (Nat.div_le_self _ _) ha
      rw [← hA] at t6 t7
      obtain ⟨q, hq⟩ : ∃ q, q = A / 10 := ⟨_, rfl⟩
      obtain ⟨r, hr⟩ : ∃ r, r = A % 10 := ⟨_, rfl⟩
      rw [← hq] at t6
      rw [← hr] at t7
      have hj : (((j + 1 : Nat) : Int) - 1) = (j : Int) := by omega
      rw [hj] at t8
      have hj0 : (0 : Int) ≤ (j : Int) := by omega
      have c1 : sBin .shr (uv r) (.int .u64 63) = some (uv 0) := by
        have := shr_nat .u64 .u64 r 63 (by decide)
        rw [show r / 2 ^ 63 = 0 from Nat.div_eq_of_lt (by omega)] at this
        exact this
      have c2 : sBin .shl (uv r) (.int .u64 1) = some (uv (2 * r)) := by
        have := shl_u64 .u64 r 1 (by decide)
        rw [show r * 2 ^ 1 % 18446744073709551616 = 2 * r by omega] at this
        exact this
      have c3 : IntKind.u64.wrap (j : Int) = (j : Int) := wu64 _ (by omega)
      have c4 : sBin .shr (uv a) (.int .u64 (j : Int)) = some (uv B) := by rw [hB]; exact shr_nat .u64 .u64 a j (by simp [IntKind.bits]; omega)
      have c5 := and_one B hBlt
      obtain ⟨m, hm'⟩ : ∃ m, m = B % 2 := ⟨_, rfl⟩
      rw [← hm'] at c5
      obtain ⟨r2, hr2⟩ : ∃ r2, r2 = 2 * r + m := ⟨_, rfl⟩
      have c6 : sBin .or (uv (2 * r)) (uv m) = some (uv r2) := by
        rw [sBin_or, or_u64 _ _ (by omega) (by omega), show 2 * r = r * 2 ^ 1 by omega, or_sum r m 1 (by omega), hr2]
        congr 3
        omega
      have c7 : sBin .shl (uv q) (.int .u64 1) = some (uv (2 * q)) := by
        have := shl_u64 .u64 q 1 (by decide)
        rw [show q * 2 ^ 1 % 18446744073709551616 = 2 * q by omega] at this
        exact this
      have c8 : sBin .or (uv (2 * q)) (.int .u64 1) = some (uv (2 * q + 1)) := by
        rw [show (Value.int .u64 1) = uv 1 from rfl, sBin_or, or_u64 _ _ (by omega) (by omega), show 2 * q = q * 2 ^ 1 by omega, or_sum q 1 1 (by omega)]
      have c9 : IntKind.i64.wrap ((j : Int) - 1) = (j : Int) - 1 := w64 _ (by omega)
      have hB10 : B = 10 * (2 * q) + r2 := by omega
      obtain ⟨q2, hq2⟩ : ∃ q2, q2 = 2 * q := ⟨_, rfl⟩
      obtain ⟨q3, hq3⟩ : ∃ q3, q3 = 2 * q + 1 := ⟨_, rfl⟩
      obtain ⟨r1, hr1⟩ : ∃ r1, r1 = 2 * r := ⟨_, rfl⟩
      rw [← hr1] at c2 c6
      rw [← hq2] at c7
      rw [← hq2, show q2 + 1 = q3 by omega] at c8
      simp only [uv] at c1 c2 c4 c5 c6 c7 c8 t0 t6 t7
      by_cases hge : 10 ≤ r2
      · have hge' : (10 : Int) ≤ (r2 : Int) := by omega
        obtain ⟨r3, hr3⟩ : ∃ r3, r3 = r2 - 10 := ⟨_, rfl⟩
        have c10 : IntKind.u64.wrap ((r2 : Int) - 10) = (r3 : Int) := by rw [wu64 _ (by omega)]; omega
        simp [L55_1, t0, t1, t6, t7, t8, hj0, c1, c2, c3, c4, c5, c6, c7, c8, c9, c10, hge']
        refine ⟨j, Nat.lt_succ_self j, by omega, by simp [t0], by simp [t1], ?_, ?_, by simp, rfl⟩
        · rw [← hB, show B / 10 = q3 by omega]; simp
        · rw [← hB, show B % 10 = r3 by omega]; simp
      · have hge' : ¬ (10 : Int) ≤ (r2 : Int) := by omega
        simp [L55_1, t0, t1, t6, t7, t8, hj0, c1, c2, c3, c4, c5, c6, c7, c8, c9, hge']
        refine ⟨j, Nat.lt_succ_self j, by omega, by simp [t0], by simp [t1], ?_, ?_, by simp, rfl⟩
        · rw [← hB, show B / 10 = q2 by omega]; simp
        · rw [← hB, show B % 10 = r2 by omega]; simp
/-- A text of bytes. -/
def strB (l : List Nat) : ByteArray := strOfNums (l.map fun (b : Nat) => (b : Int))
theorem strB_size (l : List Nat) : (strB l).size = l.length := by simp [strB, strOfNums_size]
theorem strB_append (a b : List Nat) : strB a ++ strB b = strB (a ++ b) := by
  apply ByteArray.ext
  apply Array.toList_inj.1
  simp [strB, strOfNums]
theorem strB_nil : strB [] = ByteArray.empty := rfl
theorem byteNums_bv (l : List Nat) : byteNums (l.map bv) = some (l.map fun (b : Nat) => (b : Int)) := by
  have : l.map bv = (l.map fun (b : Nat) => (b : Int)).map (Value.int .u8) := by simp [List.map_map, Function.comp_def]
  rw [this, byteNums_map]
def decF : Nat → Nat → List Nat
  | 0, _ => []
  | f + 1, u => (if u / 10 = 0 then [] else decF f (u / 10)) ++ [48 + u % 10]
/-- Decimal digits. -/
def decN (u : Nat) : List Nat := decF 20 u
def decI (a : Int) : List Nat := if a < 0 then 45 :: decN a.natAbs else decN a.natAbs
theorem decF_len : ∀ (f u : Nat), (decF f u).length ≤ f
  | 0, _ => by simp [decF]
  | f + 1, u => by
    simp only [decF, List.length_append, List.length_singleton]
    split
    · simp
    · have := decF_len f (u / 10); omega
theorem decI_len (a : Int) : (decI a).length ≤ 21 := by
  have := decF_len 20 a.natAbs
  unfold decI decN
  split <;> simp <;> omega
theorem decF_byte : ∀ (f u : Nat), ∀ d ∈ decF f u, d < 128
  | 0, _, d, h => by simp [decF] at h
  | f + 1, u, d, h => by
    simp only [decF, List.mem_append, List.mem_singleton] at h
    rcases h with h | h
    · split at h
      · cases h
      · exact decF_byte f _ d h
    · omega
theorem rep_set (k : Nat) (z d : Value) (S : List Value) : (List.replicate (k + 1) z ++ S).set k d = List.replicate k z ++ (d :: S) := by
  rw [List.set_append_left _ _ (by simp)]
  rw [List.replicate_succ', List.set_append_right _ _ (by simp)]
  simp
def InvTx (H : Heap) (n : Int) (u0 : Nat) (k : Nat) (t : Tm) (H1 : Heap) : Prop :=
  ∃ (u : Nat) (S : List Nat), k + S.length = 20 ∧ t 0 = iv n ∧ t 3 = .pointer (some ⟨H.next, 0, none⟩) ∧ t 4 = iv k ∧ t 5 = uv u ∧ H1 = H.new 136 20 (List.replicate k (.int .u8 0) ++ S.map bv) ∧
    decF k u ++ S = decN u0 ∧ 1 ≤ k ∧ u < 10 ^ (k - 1) ∧ (k = 20 ∨ u ≠ 0)
theorem text_fin {H : Heap} (hw : H.WF) (j : Nat) (S : List Nat) (h : j + S.length = 20) :
    sSliceArr 20 1 (.pointer (some ⟨H.next, 0, none⟩)) (some (iv j)) none none = some (.slice (some ⟨H.next, j, none⟩) S.length 1) ∧
    sToStr (H.new 136 20 (List.replicate j (.int .u8 0) ++ S.map bv)) (.slice (some ⟨H.next, j, none⟩) S.length 1) = some (.string (strB S)) := by
  have hnB := hw.next_ge
  constructor
  · have e : 20 - j = S.length := by omega
    simp [sSliceArr, bnd, add_own, e]
    omega
  · have fin : (H.new 136 20 (List.replicate j (.int .u8 0) ++ S.map bv)).loadN ⟨H.next, j, none⟩ 0 S.length = some (S.map bv) := by
      rw [loadN_at (k := ⟨136, 20, List.replicate j (.int .u8 0) ++ S.map bv⟩) (by simpa using hnB) (by simp) (by simp)]
      simp only [Nat.add_zero]
      rw [List.drop_left' (by simp), List.take_of_length_le (by simp)]
    simp only [sToStr, fin, Option.bind_some, byteNums_bv, Option.map_some]
    rfl
theorem text_T {H : Heap} (hw : H.WF) {n : Int} (hn : -9223372036854775808 ≤ n ∧ n ≤ 9223372036854775807) : ∃ H', T Try.prog 31 [iv n] H (.string (strB (decI n))) H' ∧ ∀ b, b < H.next → H'.blk b = H.blk b := by
  have : ∃ v H', T Try.prog 31 [iv n] H v H' ∧ v = .string (strB (decI n)) ∧ ∀ b, b < H.next → H'.blk b = H.blk b := by
    refine T_by hm light31 ?_
    have hnB := hw.next_ge
    have hsz := size_T (H := H.new 136 20 (List.replicate 20 (.int .u8 0))) hn
    simp only [List.replicate] at hsz
    simp [L31]
    refine goT_of hsz ?_
    simp
    refine loop_at (InvTx H n n.natAbs) 20 ?_ ?_
    · exact ⟨n.natAbs, [], rfl, by simp, by simp, by simp, by simp, by simp [List.replicate], by simp [decN], by omega, by omega, .inl rfl⟩
    · rintro k t H1 ⟨u, S, hk, t0, t3, t4, t5, rfl, hdec, hk1, hu, hk20⟩
      obtain ⟨i, hki⟩ : ∃ i, k = i + 2 := by
        rcases k with - | - | i
        · omega
        · exfalso; simp at hu; omega
        · exact ⟨i, rfl⟩
      obtain ⟨j, hj⟩ : ∃ j : Nat, j = i + 1 := ⟨_, rfl⟩
      have hkj : k = j + 1 := by omega
      have hi : i ≤ 18 := by omega
      have hu2 : u < 18446744073709551616 := by
        have : (10 : Nat) ^ (k - 1) ≤ 10 ^ 19 := Nat.pow_le_pow_right (by decide) (by omega)
        omega
      have c1 : IntKind.i64.wrap ((k : Int) - 1) = (j : Int) := by rw [w64 _ (by omega)]; omega
      have c2 : sBin .rem (uv u) (.int .u64 10) = some (uv (u % 10)) := rem_nat .u64 u 10 (by decide)
      have c3 : sBin .quo (uv u) (.int .u64 10) = some (uv (u / 10)) := quo_u64 u 10 (by decide) hu2
      have hidx : sIdxArr 20 1 (.pointer (some ⟨H.next, 0, none⟩)) (iv (j : Int)) = some (.pointer (some ⟨H.next, j, none⟩)) := by
        have : 0 ≤ (j : Int) ∧ (j : Int) < 20 := by omega
        simp only [sIdxArr, this, and_self, if_true, decide_true]
        simp [add_own]
        omega
      obtain ⟨d, hd⟩ : ∃ d, d = 48 + u % 10 := ⟨_, rfl⟩
      obtain ⟨m, hm'⟩ : ∃ m, m = u % 10 := ⟨_, rfl⟩
      obtain ⟨q, hq⟩ : ∃ q, q = u / 10 := ⟨_, rfl⟩
      rw [← hm'] at c2 hd
      rw [← hq] at c3
      have c4 : IntKind.u64.wrap (48 + (m : Int)) = (d : Int) := by rw [wu64 _ (by omega)]; omega
      have c5 : IntKind.u8.wrap (d : Int) = (d : Int) := wu8 _ (by omega)
      have hst : (H.new 136 20 (List.replicate k (.int .u8 0) ++ S.map bv)).store ⟨H.next, j, none⟩ (bv d) = some (H.new 136 20 (List.replicate j (.int .u8 0) ++ (d :: S).map bv)) := by
        rw [hkj, store_own (k := ⟨136, 20, List.replicate (j + 1) (.int .u8 0) ++ S.map bv⟩) (by simpa using hnB) (by simp), if_pos (by simp; omega)]
        simp only [rep_set, new_put, List.map_cons]
      obtain ⟨HA, hHA⟩ : ∃ HA, HA = H.new 136 20 (List.replicate k (.int .u8 0) ++ S.map bv) := ⟨_, rfl⟩
      obtain ⟨HB, hHB⟩ : ∃ HB, HB = H.new 136 20 (List.replicate j (.int .u8 0) ++ (d :: S).map bv) := ⟨_, rfl⟩
      rw [← hHA, ← hHB] at hst
      rw [← hHA]
      simp only [uv, bv] at c2 c3 hst t5
      have hdec2 : decF (j + 1) u = (if q = 0 then [] else decF j q) ++ [d] := by rw [hd, hm', hq]; rfl
      rw [hkj, hdec2] at hdec
      by_cases hq0 : q = 0
      · have hS : d :: S = decN n.natAbs := by rw [← hdec, if_pos hq0]; simp
        have hq0' : (q : Int) = 0 := by omega
        rw [hq0'] at c3
        have hlen : (d :: S).length + j = 20 := by simp; omega
        have fin := @text_fin H hw
        by_cases hneg : n < 0
        · have c6 : IntKind.i64.wrap ((j : Int) - 1) = (i : Int) := by rw [w64 _ (by omega)]; omega
          have hidx2 : sIdxArr 20 1 (.pointer (some ⟨H.next, 0, none⟩)) (iv i) = some (.pointer (some ⟨H.next, i, none⟩)) := by
            have : 0 ≤ (i : Int) ∧ (i : Int) < 20 := by omega
            simp [sIdxArr, this, add_own]
          obtain ⟨HC, hHC⟩ : ∃ HC, HC = H.new 136 20 (List.replicate i (.int .u8 0) ++ (45 :: d :: S).map bv) := ⟨_, rfl⟩
          have hst2 : HB.store ⟨H.next, i, none⟩ (.int .u8 45) = some HC := by
            rw [hHB, hj, hHC, store_own (k := ⟨136, 20, List.replicate (i + 1) (.int .u8 0) ++ (d :: S).map bv⟩) (by simpa using hnB) (by simp), if_pos (by simp; omega)]
            simp only [rep_set, new_put, List.map_cons]
            rfl
          obtain ⟨f1, f2⟩ := fin i (45 :: d :: S) (by simp only [List.length_cons] at hlen ⊢; omega)
          rw [← hHC] at f2
          simp only [List.length_cons] at f1 f2
          simp [L31_1, t0, t3, t4, t5, c1, c2, c3, c4, c5, hidx, hst, hneg, c6, hidx2, hst2, f1, f2]
          constructor
          · rw [decI, if_pos hneg, hS]
          · intro b hb
            rw [hHC]
            simp [Heap.new, Nat.ne_of_lt hb]
        · obtain ⟨f1, f2⟩ := fin j (d :: S) (by omega)
          rw [← hHB] at f2
          simp only [List.length_cons] at f1 f2
          simp [L31_1, t0, t3, t4, t5, c1, c2, c3, c4, c5, hidx, hst, hneg, f1, f2]
          constructor
          · rw [decI, if_neg hneg, hS]
          · intro b hb
            rw [hHB]
            simp [Heap.new, Nat.ne_of_lt hb]
      · have hq0' : ¬ (q : Int) = 0 := by omega
        simp [L31_1, t0, t3, t4, t5, c1, c2, c3, c4, c5, hidx, hst, hq0', hq0]
        rw [if_neg hq0] at hdec
        refine ⟨j, by omega, q, d :: S, by simp; omega, by simp [t0], by simp [t3], by simp, by simp, hHB, by simpa using hdec, by omega, ?_, .inr hq0⟩
        have e : k - 1 = (j - 1) + 1 := by omega
        rw [e, Nat.pow_succ] at hu
        omega
  obtain ⟨v, H', hT, rfl, hk⟩ := this
  exact ⟨H', hT, hk⟩
theorem strB_add (a b : List Nat) (h : a.length + b.length ≤ 9223372036854775807) : sBin .add (.string (strB a)) (.string (strB b)) = some (.string (strB (a ++ b))) := by
  have e : sBin .add (.string (strB a)) (.string (strB b)) = if (strB a).size + (strB b).size ≤ 9223372036854775807 then some (.string (strB a ++ strB b)) else none := rfl
  rw [e, if_pos (by rw [strB_size, strB_size]; exact h), strB_append]
theorem str_eql (a b : ByteArray) : sBin .eql (.string a) (.string b) = some (.bool (a.toList == b.toList)) := rfl
theorem strB_eql (S : List Nat) : sBin .eql (.string (strB S)) (.string ByteArray.empty) = some (.bool S.isEmpty) := by
  rw [str_eql, ByteArray.toList_eq, ByteArray.toList_eq]
  cases S <;> simp [strB, strOfNums] <;> rfl
def InvRt (H : Heap) (n : Int) (u0 : Nat) (k : Nat) (t : Tm) (H1 : Heap) : Prop :=
  ∃ (u : Nat) (S : List Nat), k + S.length = 20 ∧ t 0 = iv n ∧ t 3 = uv u ∧ t 4 = .string (strB S) ∧ H.next ≤ H1.next ∧ H1.WF ∧ (∀ b, b < H.next → H1.blk b = H.blk b) ∧
    (if u = 0 ∧ S ≠ [] then [] else decF k u) ++ S = decN u0 ∧ u < 10 ^ (k - 1) ∧ (k = 20 → S = [])
theorem one_str {H : Heap} (hw : H.WF) (ty d k : Nat) : sToStr (H.new ty 1 [bv d]) (.slice (some ⟨H.next, 0, none⟩) 1 k) = some (.string (strB [d])) := by
  have hnB := hw.next_ge
  have : (H.new ty 1 [bv d]).loadN ⟨H.next, 0, none⟩ 0 1 = some [bv d] := by
    rw [loadN_at (k := ⟨ty, 1, [bv d]⟩) (by simpa using hnB) (by simp) (by simp)]
    simp
  simp only [sToStr, this, Option.bind_some]
  have h2 := byteNums_bv [d]
  simp only [List.map_cons, List.map_nil] at h2
  simp only [h2, Option.map_some]
  rfl
theorem refText_T {H : Heap} (hw : H.WF) {n : Int} (hn : -9223372036854775808 ≤ n ∧ n ≤ 9223372036854775807) : ∃ H', T Try.prog 32 [iv n] H (.string (strB (decI n))) H' ∧ ∀ b, b < H.next → H'.blk b = H.blk b := by
  have : ∃ v H', T Try.prog 32 [iv n] H v H' ∧ v = .string (strB (decI n)) ∧ ∀ b, b < H.next → H'.blk b = H.blk b := by
    refine T_by hm light32 ?_
    simp [L32]
    refine goT_of (refSize_T hn) ?_
    simp
    refine loop_at (InvRt H n n.natAbs) 20 ?_ ?_
    · exact ⟨n.natAbs, [], rfl, by simp, by simp, by simp [strB_nil], Nat.le_refl _, hw, fun _ _ => rfl, by simp [decN], by omega, fun _ => rfl⟩
    · rintro k t H1 ⟨u, S, hk, t0, t3, t4, hn1, hw1, hkeep, hdec, hu, hkS⟩
      have hu2 : u < 18446744073709551616 := by
        have : (10 : Nat) ^ (k - 1) ≤ 10 ^ 19 := Nat.pow_le_pow_right (by decide) (by omega)
        omega
      by_cases hfin : u = 0 ∧ S ≠ []
      · obtain ⟨rfl, hS⟩ := hfin
        rw [if_pos ⟨rfl, hS⟩] at hdec
        have hne : S.isEmpty = false := by simpa using hS
        have c7 : sBin .add (.string ⟨#[45]⟩) (.string (strB S)) = some (.string (strB (45 :: S))) := strB_add [45] S (by simp; omega)
        by_cases hneg : n < 0
        · simp [L32_1, t0, t3, t4, strB_eql, c7, hne, hneg]
          exact ⟨by rw [decI, if_pos hneg, ← hdec]; rfl, hkeep⟩
        · simp [L32_1, t0, t3, t4, strB_eql, hne, hneg]
          exact ⟨by rw [decI, if_neg hneg, ← hdec]; rfl, hkeep⟩
      · rw [if_neg hfin] at hdec
        have hnB1 := hw1.next_ge
        have hgo : S.isEmpty = true ∨ 0 < u := by
          by_cases h : u = 0
          · left; simp at hfin; simp [hfin h]
          · right; omega
        have hl := long_T (H := H1) u hu2
        obtain ⟨d, hd⟩ : ∃ d, d = 48 + u % 10 := ⟨_, rfl⟩
        obtain ⟨m, hm'⟩ : ∃ m, m = u % 10 := ⟨_, rfl⟩
        obtain ⟨q, hq⟩ : ∃ q, q = u / 10 := ⟨_, rfl⟩
        rw [← hm'] at hd hl
        rw [← hq] at hl
        have c4 : IntKind.u64.wrap (48 + (m : Int)) = (d : Int) := by rw [wu64 _ (by omega)]; omega
        have c5 : IntKind.u8.wrap (d : Int) = (d : Int) := wu8 _ (by omega)
        have hz : zerosA [Value.int .u8 0] 1 = [.int .u8 0] := rfl
        have c7 := one_str hw1 5 d 0
        have c8 : sBin .add (.string (strB [d])) (.string (strB S)) = some (.string (strB (d :: S))) := strB_add [d] S (by simp; omega)
        simp only [bv] at c7
        have hk1 : 1 ≤ k := by
          rcases k with - | k
          · simp at hu
            subst hu
            simp at hfin
            subst hfin
            simp at hk
          · omega
        have hgoal : ∀ t2 : Tm, t2 0 = t 0 → t2 3 = uv q → t2 4 = .string (strB (d :: S)) → ∃ m, m < k ∧ InvRt H n n.natAbs m t2 (rdy (H1.new 5 1 [bv d])) := by
          intro t2 h0 h3 h4
          obtain ⟨j, rfl⟩ : ∃ j, k = j + 1 := ⟨k - 1, by omega⟩
          refine ⟨j, by omega, q, d :: S, by simp; omega, by rw [h0, t0], h3, h4, by simp; omega, WF_new hw1 _ _ _, ?_, ?_, ?_, by omega⟩
          · intro b hb
            rw [← hkeep b hb]
            simp [Heap.new]
            omega
          · have hdec2 : decF (j + 1) u = (if q = 0 then [] else decF j q) ++ [d] := by rw [hd, hm', hq]; rfl
            rw [hdec2] at hdec
            simpa using hdec
          · rcases j with - | j
            · simp at hu
              subst hu
              simp at hfin
              subst hfin
              simp at hk
            · simp only [Nat.add_sub_cancel, Nat.pow_succ] at hu ⊢
              omega
        by_cases hup : 0 < u
        · simp [L32_1, t0, t3, t4, hup]
          refine goT_of hl ?_
          simp [c4, c5, hz, c7, c8, t4]
          exact hgoal _ (by simp) (by simp) (by simp)
        · have hS : S.isEmpty = true := by simpa [hup] using hgo
          simp [L32_1, t0, t3, t4, hup, strB_eql, hS]
          refine goT_of hl ?_
          simp [c4, c5, hz, c7, c8, t4]
          exact hgoal _ (by simp) (by simp) (by simp)
  obtain ⟨v, H', hT, rfl, hk⟩ := this
  exact ⟨H', hT, hk⟩
theorem textK {H : Heap} (hw : H.WF) {n : Int} (hn : -9223372036854775808 ≤ n ∧ n ≤ 9223372036854775807) : T Try.prog 31 [iv n] H (.string (strB (decI n))) H := by
  obtain ⟨H', h, hk⟩ := text_T hw hn
  exact T_forget h hk rfl
theorem refTextK {H : Heap} (hw : H.WF) {n : Int} (hn : -9223372036854775808 ≤ n ∧ n ≤ 9223372036854775807) : T Try.prog 32 [iv n] H (.string (strB (decI n))) H := by
  obtain ⟨H', h, hk⟩ := refText_T hw hn
  exact T_forget h hk rfl
end Go.Proofs.Ytfmcnojojknkfaa
