/-
  The document joins (carried over from another chapter's proof).
-/
import Derived.Test.YtjpdoflmjokplaaSeatH
namespace Go.Proofs.Ytjpdoflmjokplaa
open Go.Ot Go.RowKit
set_option linter.unusedSimpArgs false
set_option linter.unusedVariables false
def foldV (op : Int) (l : List Int) : Int := l.foldl (joinV op) (zeroV op)
theorem wrap64 (n : Int) : okI (IntKind.i64.wrap n) := by
  unfold okI
  simp only [IntKind.wrap, IntKind.bits, IntKind.signed]
  simp
  split <;> omega
theorem wrap_mod (n : Int) : ∃ q : Int, IntKind.i64.wrap n = n + q * 18446744073709551616 := by
  simp only [IntKind.wrap, IntKind.bits, IntKind.signed]
  simp
  split
  · exact ⟨-(n / 18446744073709551616) - 1, by omega⟩
  · exact ⟨-(n / 18446744073709551616), by omega⟩
theorem wrap_eq {n m : Int} (h : ∃ q : Int, n = m + q * 18446744073709551616) : IntKind.i64.wrap n = IntKind.i64.wrap m := by
  obtain ⟨q, rfl⟩ := h
  simp only [IntKind.wrap, IntKind.bits, IntKind.signed]
  simp
theorem wrap_ok {n : Int} (h : okI n) : IntKind.i64.wrap n = n := w64 _ h
theorem bits_wrap (b : BitVec 64) : bitsI (IntKind.i64.wrap (b.toNat : Int)) = b := by
  apply BitVec.eq_of_toNat_eq
  have hb := b.isLt
  obtain ⟨q, hq⟩ := wrap_mod (b.toNat : Int)
  rw [bitsI, hq, BitVec.toNat_ofInt]
  have : ((b.toNat : Int) + q * 18446744073709551616) % ((2 ^ 64 : Nat) : Int) = b.toNat := by
    rw [show ((2 ^ 64 : Nat) : Int) = 18446744073709551616 from rfl]; omega
  rw [this]; rfl
theorem bits_back {n : Int} (h : okI n) : IntKind.i64.wrap ((bitsI n).toNat : Int) = n := by
  unfold okI at h
  have e : ((bitsI n).toNat : Int) = n % 18446744073709551616 := by
    rw [bitsI, BitVec.toNat_ofInt, show ((2 ^ 64 : Nat) : Int) = 18446744073709551616 from rfl]
    exact Int.toNat_of_nonneg (Int.emod_nonneg _ (by decide))
  rw [e]
  have e2 : IntKind.i64.wrap (n % 18446744073709551616) = IntKind.i64.wrap n := wrap_eq ⟨-(n / 18446744073709551616), by omega⟩
  rw [e2, wrap_ok h]
theorem join_ok (op a b : Int) (ha : okI a) (hb : okI b) : okI (joinV op a b) := by
  unfold joinV
  split; exact wrap64 _
  split; exact wrap64 _
  split; (split <;> assumption)
  split; (split <;> assumption)
  split; exact wrap64 _
  split; exact wrap64 _
  split; exact wrap64 _
  exact ⟨by decide, by decide⟩
theorem join_none (op a b : Int) (h : right op = false) : joinV op a b = 0 := by
  have : ¬ (1 ≤ op ∧ op ≤ 7) := by simpa [right] using h
  unfold joinV
  rw [if_neg (by omega), if_neg (by omega), if_neg (by omega), if_neg (by omega), if_neg (by omega), if_neg (by omega), if_neg (by omega)]
theorem right_cases {op : Int} (h : right op = true) : op = 1 ∨ op = 2 ∨ op = 3 ∨ op = 4 ∨ op = 5 ∨ op = 6 ∨ op = 7 := by
  simp [right] at h; omega
theorem join5 (a b : Int) : joinV 5 a b = IntKind.i64.wrap (bitsI a &&& bitsI b).toNat := rfl
theorem join6 (a b : Int) : joinV 6 a b = IntKind.i64.wrap (bitsI a ||| bitsI b).toNat := rfl
theorem join7 (a b : Int) : joinV 7 a b = IntKind.i64.wrap (bitsI a ^^^ bitsI b).toNat := rfl
theorem join_comm (op a b : Int) : joinV op a b = joinV op b a := by
  cases h : right op with
  | false => rw [join_none _ _ _ h, join_none _ _ _ h]
  | true =>
    rcases right_cases h with rfl | rfl | rfl | rfl | rfl | rfl | rfl
    · simp [joinV, Int.add_comm]
    · simp [joinV, Int.mul_comm]
    · simp only [joinV]; simp; split <;> split <;> omega
    · simp only [joinV]; simp; split <;> split <;> omega
    · simp [joinV, BitVec.and_comm]
    · simp [joinV, BitVec.or_comm]
    · simp [joinV, BitVec.xor_comm]
theorem join_assoc (op a b c : Int) : joinV op (joinV op a b) c = joinV op a (joinV op b c) := by
  cases h : right op with
  | false => rw [join_none _ _ _ h, join_none _ _ _ h]
  | true =>
    rcases right_cases h with rfl | rfl | rfl | rfl | rfl | rfl | rfl
    · simp only [joinV]; simp
      obtain ⟨q, hq⟩ := wrap_mod (a + b)
      obtain ⟨r, hr⟩ := wrap_mod (b + c)
      rw [hq, hr]
      exact wrap_eq ⟨q - r, by omega⟩
    · simp only [joinV]; simp
      obtain ⟨q, hq⟩ := wrap_mod (a * b)
      obtain ⟨r, hr⟩ := wrap_mod (b * c)
      rw [hq, hr]
      refine wrap_eq ⟨q * c - a * r, ?_⟩
      rw [Int.add_mul, Int.mul_add, Int.sub_mul, Int.mul_assoc a b c, Int.mul_assoc q, Int.mul_comm 18446744073709551616 c, ← Int.mul_assoc q c, ← Int.mul_assoc a r]
      omega
    · simp only [joinV]; simp; split <;> split <;> (try split) <;> (try split) <;> omega
    · simp only [joinV]; simp; split <;> split <;> (try split) <;> (try split) <;> omega
    · rw [join5, join5, join5, join5, bits_wrap, bits_wrap, BitVec.and_assoc]
    · rw [join6, join6, join6, join6, bits_wrap, bits_wrap, BitVec.or_assoc]
    · rw [join7, join7, join7, join7, bits_wrap, bits_wrap, BitVec.xor_assoc]
theorem join_zero (op a : Int) (h : right op = true) (ha : okI a) : joinV op a (zeroV op) = a := by
  have ha' := ha
  unfold okI at ha'
  rcases right_cases h with rfl | rfl | rfl | rfl | rfl | rfl | rfl
  · simp [joinV, zeroV, wrap_ok ha]
  · simp [joinV, zeroV, wrap_ok ha]
  · simp [joinV, zeroV]; omega
  · simp [joinV, zeroV]; omega
  · rw [join5, show zeroV 5 = -1 from rfl, show bitsI (-1) = BitVec.allOnes 64 by rfl, BitVec.and_allOnes]
    exact bits_back ha
  · rw [join6, show zeroV 6 = 0 from rfl, show bitsI 0 = 0#64 by rfl, BitVec.or_zero]
    exact bits_back ha
  · rw [join7, show zeroV 7 = 0 from rfl, show bitsI 0 = 0#64 by rfl, BitVec.xor_zero]
    exact bits_back ha
abbrev uv (n : Nat) : Value := .int .u64 (n : Int)
/-- A word as a number from 0 on. -/
def un (a : Int) : Nat := (a % 18446744073709551616).toNat
theorem un_int (a : Int) : ((un a : Nat) : Int) = a % 18446744073709551616 := Int.toNat_of_nonneg (Int.emod_nonneg _ (by decide))
theorem un_lt (a : Int) : un a < 18446744073709551616 := by have := un_int a; omega
theorem conv_un (a : Int) : IntKind.u64.wrap a = ((un a : Nat) : Int) := by
  rw [un_int]; simp [IntKind.wrap, IntKind.bits, IntKind.signed]
theorem bits_un (a : Int) : (bitsI a).toNat = un a := by
  have h : ((bitsI a).toNat : Int) = a % 18446744073709551616 := by
    rw [bitsI, BitVec.toNat_ofInt, show ((2 ^ 64 : Nat) : Int) = 18446744073709551616 from rfl]
    exact Int.toNat_of_nonneg (Int.emod_nonneg _ (by decide))
  have := un_int a; omega
theorem wrap_un (a : Int) (h : okI a) : IntKind.i64.wrap ((un a : Nat) : Int) = a := by
  rw [un_int, wrap_eq (m := a) ⟨-(a / 18446744073709551616), by omega⟩, wrap_ok h]
theorem half_T {H : Heap} (a : Int) : T Try.prog 72 [iv a] H (.tuple #[uv (un a % 4294967296), uv (un a / 4294967296)]) H := by
  refine T_eq hm light72 ?_
  obtain ⟨u, hu⟩ : ∃ u, u = un a := ⟨_, rfl⟩
  have hlt := un_lt a
  have e0 := conv_un a
  rw [← hu] at hlt e0 ⊢
  have e1 : sBin .and (.int .u64 (u : Int)) (.int .u64 4294967295) = some (uv (u % 4294967296)) := by
    rw [sBin_and]
    have := and_u64 u 4294967295 hlt (by decide)
    rw [show u &&& 4294967295 = u % 4294967296 from Nat.and_two_pow_sub_one_eq_mod u 32] at this
    exact congrArg (fun z => some (Value.int .u64 z)) this
  have e2 : sBin .shr (.int .u64 (u : Int)) (.int .u64 32) = some (uv (u / 4294967296)) := shr_nat .u64 .u64 u 32 (by decide)
  simp [L72, e0, e1, e2, packV]
theorem whole_T {H : Heap} (lo hi : Nat) (hl : lo < 18446744073709551616) : T Try.prog 73 [uv lo, uv hi] H (iv (IntKind.i64.wrap ((hi % 4294967296 * 4294967296 + lo % 4294967296 : Nat) : Int))) H := by
  refine T_eq hm light73 ?_
  obtain ⟨q, hq⟩ : ∃ q, q = hi % 4294967296 := ⟨_, rfl⟩
  obtain ⟨r, hr⟩ : ∃ r, r = lo % 4294967296 := ⟨_, rfl⟩
  have hql : q < 4294967296 := by omega
  have hrl : r < 4294967296 := by omega
  have e1 : sBin .and (.int .u64 (lo : Int)) (.int .u64 4294967295) = some (uv r) := by
    rw [sBin_and]
    have := and_u64 lo 4294967295 hl (by decide)
    rw [show lo &&& 4294967295 = r by rw [hr]; exact Nat.and_two_pow_sub_one_eq_mod lo 32] at this
    exact congrArg (fun z => some (Value.int .u64 z)) this
  have e2 : sBin .shl (.int .u64 (hi : Int)) (.int .u64 32) = some (uv (q * 4294967296)) := by
    rw [show (32 : Int) = ((32 : Nat) : Int) from rfl, shl_u64 .u64 hi 32 (by decide)]
    rw [show hi * 2 ^ 32 % 18446744073709551616 = q * 4294967296 by rw [hq]; omega]
  obtain ⟨s, hs⟩ : ∃ s, s = q * 4294967296 := ⟨_, rfl⟩
  have e3 : sBin .or (.int .u64 (s : Int)) (.int .u64 (r : Int)) = some (uv (s + r)) := by
    rw [sBin_or, or_u64 s r (by omega) (by omega)]
    have h := Nat.two_pow_add_eq_or_of_lt (i := 32) hrl q
    rw [hs, show q * 4294967296 = 2 ^ 32 * q by rw [Nat.mul_comm], ← h]
  rw [← hq, ← hr]
  rw [← hs] at e2 ⊢
  obtain ⟨w, hw⟩ : ∃ w, w = s + r := ⟨_, rfl⟩
  rw [← hw] at e3 ⊢
  simp [L73, e1, e2, e3]
theorem add_T1 {H : Heap} (a b : Int) : T Try.prog 62 [iv a, iv b] H (iv (IntKind.i64.wrap (a + b))) H := by
  refine T_eq hm light62 ?_
  have ha := un_int a
  have hb := un_int b
  obtain ⟨al, hal⟩ : ∃ x, x = un a % 4294967296 := ⟨_, rfl⟩
  obtain ⟨ah, hah⟩ : ∃ x, x = un a / 4294967296 := ⟨_, rfl⟩
  obtain ⟨bl, hbl⟩ : ∃ x, x = un b % 4294967296 := ⟨_, rfl⟩
  obtain ⟨bh, hbh⟩ : ∃ x, x = un b / 4294967296 := ⟨_, rfl⟩
  have hla := un_lt a
  have hlb := un_lt b
  have T1 := half_T (H := H) a
  have T2 := half_T (H := H) b
  rw [← hal, ← hah] at T1
  rw [← hbl, ← hbh] at T2
  obtain ⟨lo, hlo⟩ : ∃ x, x = al + bl := ⟨_, rfl⟩
  obtain ⟨c, hc⟩ : ∃ x, x = lo / 4294967296 := ⟨_, rfl⟩
  obtain ⟨h1, hh1⟩ : ∃ x, x = ah + bh := ⟨_, rfl⟩
  obtain ⟨h2, hh2⟩ : ∃ x, x = h1 + c := ⟨_, rfl⟩
  have e1 : IntKind.u64.wrap ((al : Int) + (bl : Int)) = (lo : Int) := by rw [wu64 _ (by omega)]; omega
  have e2 : IntKind.u64.wrap ((ah : Int) + (bh : Int)) = (h1 : Int) := by rw [wu64 _ (by omega)]; omega
  have e3 : sBin .shr (.int .u64 (lo : Int)) (.int .u64 32) = some (uv c) := by rw [hc]; exact shr_nat .u64 .u64 lo 32 (by decide)
  have e4 : IntKind.u64.wrap ((h1 : Int) + (c : Int)) = (h2 : Int) := by rw [wu64 _ (by omega)]; omega
  have T3 := whole_T (H := H) lo h2 (by omega)
  have e5 : IntKind.i64.wrap ((h2 % 4294967296 * 4294967296 + lo % 4294967296 : Nat) : Int) = IntKind.i64.wrap (a + b) := by
    refine wrap_eq ?_
    refine ⟨(-((h2 / 4294967296 : Nat) : Int)) - a / 18446744073709551616 - b / 18446744073709551616, ?_⟩
    omega
  rw [e5] at T3
  simp [L62]
  refine goT_of T1 ?_
  simp
  refine goT_of T2 ?_
  simp [e1, e2, e3, e4]
  refine goT_of T3 ?_
  simp
def bitV (a : Int) (i : Nat) : Bool := (un a).testBit i
theorem bit_T {H : Heap} (a : Int) (i : Nat) (hi : i < 64) : T Try.prog 75 [iv a, iv i] H (.bool (bitV a i)) H := by
  refine T_eq hm light75 ?_
  obtain ⟨u, hu⟩ : ∃ u, u = un a := ⟨_, rfl⟩
  have hlt := un_lt a
  have e0 := conv_un a
  unfold bitV
  rw [← hu] at hlt e0 ⊢
  have e1 : IntKind.u64.wrap (i : Int) = (i : Int) := wu64 _ (by omega)
  obtain ⟨q, hq⟩ : ∃ q, q = u / 2 ^ i := ⟨_, rfl⟩
  have hql : q ≤ u := by rw [hq]; exact Nat.div_le_self _ _
  have e2 : sBin .shr (.int .u64 (u : Int)) (.int .u64 (i : Int)) = some (uv q) := by rw [hq]; exact shr_nat .u64 .u64 u i hi
  obtain ⟨r, hr⟩ : ∃ r, r = q % 2 := ⟨_, rfl⟩
  have e3 : sBin .and (.int .u64 (q : Int)) (.int .u64 1) = some (uv r) := by
    rw [sBin_and]
    have := and_u64 q 1 (by omega) (by decide)
    rw [show q &&& 1 = r by rw [hr]; exact Nat.and_two_pow_sub_one_eq_mod q 1] at this
    exact congrArg (fun z => some (Value.int .u64 z)) this
  simp [L75, e0, e1, e2, e3]
  rw [Nat.testBit_eq_decide_div_mod_eq, ← hq, ← hr]
def InvM (H : Heap) (a b : Int) (k : Nat) (t : Tm) (H1 : Heap) : Prop :=
  ∃ i : Nat, i + k = 64 ∧ t 0 = iv (IntKind.i64.wrap (a * 2 ^ i)) ∧ t 1 = iv b ∧ t 5 = iv (IntKind.i64.wrap (a * ((un b % 2 ^ i : Nat) : Int))) ∧ t 6 = iv i ∧ H1 = H
theorem wrap_add (x y : Int) : IntKind.i64.wrap (IntKind.i64.wrap x + IntKind.i64.wrap y) = IntKind.i64.wrap (x + y) := by
  obtain ⟨q, hq⟩ := wrap_mod x
  obtain ⟨r, hr⟩ := wrap_mod y
  rw [hq, hr]; exact wrap_eq ⟨q + r, by omega⟩
theorem mod_step (u i : Nat) : u % 2 ^ (i + 1) = u % 2 ^ i + (if u.testBit i then 2 ^ i else 0) := by
  rw [Nat.mod_pow_succ, Nat.testBit_eq_decide_div_mod_eq]
  have : u / 2 ^ i % 2 < 2 := Nat.mod_lt _ (by decide)
  by_cases h : u / 2 ^ i % 2 = 1
  · simp [h]
  · have h0 : u / 2 ^ i % 2 = 0 := by omega
    simp [h0]
theorem mul_T {H : Heap} (a b : Int) (ha : okI a) : T Try.prog 64 [iv a, iv b] H (iv (IntKind.i64.wrap (a * b))) H := by
  refine T_eq hm light64 ?_
  simp [L64]
  refine loop_at (InvM H a b) 64 ?_ ?_
  · refine ⟨0, rfl, by simp [wrap_ok ha], by simp, ?_, by simp, rfl⟩
    simp [Nat.mod_one]
  · rintro k t H1 ⟨i, hik, t0, t1, t5, t6, rfl⟩
    cases k with
    | zero =>
      have e0 : i = 64 := by omega
      subst e0
      have e1 : IntKind.i64.wrap (a * ((un b % 2 ^ 64 : Nat) : Int)) = IntKind.i64.wrap (a * b) := by
        rw [show (2 : Nat) ^ 64 = 18446744073709551616 from rfl, Nat.mod_eq_of_lt (un_lt b)]
        refine wrap_eq ⟨-(a * (b / 18446744073709551616)), ?_⟩
        have h1 := un_int b
        have h2 : ((un b : Nat) : Int) = b - b / 18446744073709551616 * 18446744073709551616 := by omega
        rw [h2, Int.mul_sub, Int.neg_mul, ← Int.mul_assoc]
        omega
      rw [e1] at t5
      simp [L64_1, t5, t6]
    | succ k =>
      have hi : i < 64 := by omega
      have e3 : IntKind.i64.wrap ((i : Int) + 1) = ((i + 1 : Nat) : Int) := by rw [w64 _ (by omega)]; omega
      obtain ⟨i1, hi1⟩ : ∃ i1, i1 = i + 1 := ⟨_, rfl⟩
      rw [← hi1] at e3
      obtain ⟨x, hx⟩ : ∃ x, x = IntKind.i64.wrap (a * 2 ^ i) := ⟨_, rfl⟩
      obtain ⟨y, hy⟩ : ∃ y, y = IntKind.i64.wrap (a * ((un b % 2 ^ i : Nat) : Int)) := ⟨_, rfl⟩
      rw [← hx] at t0
      rw [← hy] at t5
      have ex : IntKind.i64.wrap (x + x) = IntKind.i64.wrap (a * 2 ^ i1) := by
        rw [hx, wrap_add, hi1]
        congr 1
        rw [Int.pow_succ, ← Int.mul_assoc]; omega
      have fin : IntKind.i64.wrap (a * ((un b % 2 ^ i1 : Nat) : Int)) = if bitV b i then IntKind.i64.wrap (y + x) else y := by
        rw [hi1, mod_step]
        unfold bitV
        by_cases hb : (un b).testBit i = true
        · rw [if_pos hb, if_pos hb, hx, hy, wrap_add]
          congr 1
          push_cast
          rw [Int.mul_add]
        · rw [if_neg hb, if_neg hb, Nat.add_zero, ← hy]
      simp [L64_1, t0, t1, t5, t6, hi]
      refine goT_of (bit_T b i hi) ?_
      cases hb : bitV b i with
      | true =>
        rw [hb, if_pos rfl] at fin
        simp at fin
        simp [t0, t5, t6]
        refine goT_of (add_T1 _ _) ?_
        simp [t0]
        refine goT_of (add_T1 _ _) ?_
        simp [t6, e3]
        exact ⟨k, Nat.lt_succ_self k, i1, by omega, by simp [ex], by simp [t1], by simp [fin], by simp, rfl⟩
      | false =>
        rw [hb] at fin
        simp at fin
        simp [t0, t5, t6]
        refine goT_of (add_T1 _ _) ?_
        simp [t6, e3]
        exact ⟨k, Nat.lt_succ_self k, i1, by omega, by simp [ex], by simp [t1], by simp [t5, fin], by simp, rfl⟩
/-- Up from a bit on two numbers are one. -/
def InvB (H : Heap) (a b : Int) (k : Nat) (t : Tm) (H1 : Heap) : Prop :=
  k ≤ 64 ∧ t 0 = iv a ∧ t 1 = iv b ∧ t 5 = iv ((k : Int) - 1) ∧ un a / 2 ^ k = un b / 2 ^ k ∧ H1 = H
theorem un_order {a b : Int} (ha : okI a) (hb : okI b) (hs : (a < 0) ↔ (b < 0)) : a < b ↔ un a < un b := by
  unfold okI at ha hb
  have h1 := un_int a
  have h2 := un_int b
  omega
theorem below_T {H : Heap} (a b : Int) (ha : okI a) (hb : okI b) : T Try.prog 71 [iv a, iv b] H (.bool (decide (a < b))) H := by
  refine T_eq hm light71 ?_
  by_cases hs : (a < 0) ↔ (b < 0)
  case neg =>
    by_cases ha0 : a < 0
    · have hb0 : ¬ b < 0 := fun h => hs ⟨fun _ => h, fun _ => ha0⟩
      have : a < b := by omega
      simp [L71, ha0, hb0, this]
    · have hb0 : b < 0 := by
        by_cases h : b < 0
        · exact h
        · exact absurd ⟨fun h1 => absurd h1 ha0, fun h1 => absurd h1 h⟩ hs
      have : ¬ a < b := by omega
      simp [L71, ha0, hb0, this]
  have e : decide (a < 0) = decide (b < 0) := by simp [hs]
  simp [L71, e]
  refine loop_at (InvB H a b) 64 ?_ ?_
  · exact ⟨Nat.le_refl _, by simp, by simp, by simp, by rw [Nat.div_eq_of_lt (un_lt a), Nat.div_eq_of_lt (un_lt b)], rfl⟩
  · rintro k t H1 ⟨hk, t0, t1, t5, heq, rfl⟩
    have hord := un_order ha hb hs
    cases k with
    | zero =>
      simp at heq
      have hn : ¬ a < b := by rw [hord]; omega
      simp [L71_1, t5, hn]
    | succ i =>
      have e5 : ((i : Int) + 1 - 1) = i := by omega
      have e4 : IntKind.i64.wrap ((i : Int) - 1) = (i : Int) - 1 := w64 _ (by omega)
      have ba : un a / 2 ^ (i + 1) = un a / 2 ^ i / 2 := by rw [Nat.pow_succ, Nat.div_div_eq_div_mul]
      have bb : un b / 2 ^ (i + 1) = un b / 2 ^ i / 2 := by rw [Nat.pow_succ, Nat.div_div_eq_div_mul]
      have ta : bitV a i = decide (un a / 2 ^ i % 2 = 1) := Nat.testBit_eq_decide_div_mod_eq
      have tb : bitV b i = decide (un b / 2 ^ i % 2 = 1) := Nat.testBit_eq_decide_div_mod_eq
      have da := Nat.div_add_mod (un a) (2 ^ i)
      have db := Nat.div_add_mod (un b) (2 ^ i)
      have ma := Nat.mod_lt (un a) (Nat.pow_pos (n := i) (show 0 < 2 by decide))
      have mb := Nat.mod_lt (un b) (Nat.pow_pos (n := i) (show 0 < 2 by decide))
      obtain ⟨U, hU⟩ : ∃ U, U = 2 ^ i := ⟨_, rfl⟩
      obtain ⟨qa, hqa⟩ : ∃ q, q = un a / 2 ^ i := ⟨_, rfl⟩
      obtain ⟨qb, hqb⟩ : ∃ q, q = un b / 2 ^ i := ⟨_, rfl⟩
      rw [ba, bb, ← hqa, ← hqb] at heq
      rw [← hqa] at ta
      rw [← hqb] at tb
      rw [← hqa, ← hU] at da
      rw [← hqb, ← hU] at db
      rw [← hU] at ma mb
      have hi0 : (0 : Int) ≤ (i : Int) := by omega
      simp [L71_1, t0, t1, t5, e5, hi0]
      refine goT_of (bit_T a i (by omega)) ?_
      simp [t1, t5, e5]
      refine goT_of (bit_T b i (by omega)) ?_
      by_cases hd : qa = qb
      · have e6 : bitV a i = bitV b i := by rw [ta, tb, hd]
        simp [e6, t5, e5, e4]
        exact ⟨i, Nat.lt_succ_self i, by omega, by simp [t0], by simp [t1], by simp, by rw [← hqa, ← hqb, hd], rfl⟩
      · rcases Nat.lt_or_gt_of_ne hd with h | h
        · have h1 : bitV a i = false := by rw [ta]; simp; omega
          have h2 : bitV b i = true := by rw [tb]; simp; omega
          have hlt : a < b := by
            rw [hord]
            have : U * (qa + 1) ≤ U * qb := Nat.mul_le_mul_left _ h
            rw [Nat.mul_add] at this
            omega
          simp [h1, h2, t1, t5, e5]
          refine goT_of (bit_T b i (by omega)) ?_
          simp [h2, hlt]
        · have h1 : bitV a i = true := by rw [ta]; simp; omega
          have h2 : bitV b i = false := by rw [tb]; simp; omega
          have hlt : ¬ a < b := by
            rw [hord]
            have : U * (qb + 1) ≤ U * qa := Nat.mul_le_mul_left _ h
            rw [Nat.mul_add] at this
            omega
          simp [h1, h2, t1, t5, e5]
          refine goT_of (bit_T b i (by omega)) ?_
          simp [h2, hlt]
def logB (op : Int) (x y : Bool) : Bool := if op = 8 then x != y else if op = 7 then x || y else x && y
def logU (op : Int) (x y : Nat) : Nat := if op = 8 then x ^^^ y else if op = 7 then x ||| y else x &&& y
theorem logU_bit (op : Int) (x y i : Nat) : (logU op x y).testBit i = logB op (x.testBit i) (y.testBit i) := by
  unfold logU logB
  split
  · rw [Nat.testBit_xor]
  · split
    · rw [Nat.testBit_or]
    · rw [Nat.testBit_and]
theorem logU_lt (op : Int) (x y : Nat) (hx : x < 18446744073709551616) (hy : y < 18446744073709551616) : logU op x y < 18446744073709551616 := by
  unfold logU
  split
  · exact Nat.xor_lt_two_pow (n := 64) hx hy
  · split
    · exact Nat.or_lt_two_pow (n := 64) hx hy
    · exact Nat.lt_of_le_of_lt Nat.and_le_left hx
def InvL (H : Heap) (op a b : Int) (k : Nat) (t : Tm) (H1 : Heap) : Prop :=
  ∃ i : Nat, i + k = 64 ∧ t 0 = iv op ∧ t 1 = iv a ∧ t 2 = iv b ∧ t 7 = uv (logU op (un a) (un b) % 2 ^ i) ∧ t 8 = iv i ∧ H1 = H
theorem logic_T {H : Heap} (op a b : Int) : T Try.prog 68 [iv op, iv a, iv b] H (iv (IntKind.i64.wrap ((logU op (un a) (un b) : Nat) : Int))) H := by
  refine T_eq hm light68 ?_
  have hlt := logU_lt op _ _ (un_lt a) (un_lt b)
  simp [L68]
  refine loop_at (InvL H op a b) 64 ?_ ?_
  · exact ⟨0, rfl, by simp, by simp, by simp, by simp [Nat.mod_one], by simp, rfl⟩
  · rintro k t H1 ⟨i, hik, t0, t1, t2, t7, t8, rfl⟩
    cases k with
    | zero =>
      have e0 : i = 64 := by omega
      subst e0
      rw [Nat.mod_eq_of_lt (show logU op (un a) (un b) < 2 ^ 64 from hlt)] at t7
      simp [L68_1, t7, t8]
    | succ k =>
      have hi : i < 64 := by omega
      have e3 : IntKind.i64.wrap ((i : Int) + 1) = ((i + 1 : Nat) : Int) := by rw [w64 _ (by omega)]; omega
      obtain ⟨i1, hi1⟩ : ∃ i1, i1 = i + 1 := ⟨_, rfl⟩
      rw [← hi1] at e3
      have hst := mod_step (logU op (un a) (un b)) i
      have hbit := logU_bit op (un a) (un b) i
      obtain ⟨w, hw⟩ : ∃ w, w = logU op (un a) (un b) % 2 ^ i := ⟨_, rfl⟩
      obtain ⟨w1, hw1⟩ : ∃ w, w = logU op (un a) (un b) % 2 ^ (i + 1) := ⟨_, rfl⟩
      have hwl : w < 2 ^ i := by rw [hw]; exact Nat.mod_lt _ (Nat.pow_pos (by decide))
      rw [← hw] at t7 hst
      rw [← hw1, hbit] at hst
      change w1 = w + (if logB op (bitV a i) (bitV b i) = true then 2 ^ i else 0) at hst
      obtain ⟨U, hU⟩ : ∃ U, U = 2 ^ i := ⟨_, rfl⟩
      have hUl : U ≤ 9223372036854775808 := by rw [hU, show 9223372036854775808 = 2 ^ 63 from rfl]; exact Nat.pow_le_pow_right (by decide) (by omega)
      rw [← hU] at hst hwl
      have c1 : IntKind.u64.wrap (i : Int) = (i : Int) := wu64 _ (by omega)
      have c2 : sBin .shl (.int .u64 1) (.int .u64 (i : Int)) = some (uv U) := by
        have := shl_u64 .u64 1 i hi
        rw [show 1 * 2 ^ i % 18446744073709551616 = U by rw [Nat.one_mul, ← hU, Nat.mod_eq_of_lt (by omega)]] at this
        exact this
      have c3 : sBin .or (.int .u64 (w : Int)) (.int .u64 (U : Int)) = some (uv (w + U)) := by
        rw [sBin_or, or_u64 w U (by omega) (by omega)]
        have h := Nat.two_pow_add_eq_or_of_lt (i := i) (show w < 2 ^ i by rw [← hU]; exact hwl) 1
        rw [Nat.mul_one, ← hU] at h
        rw [Nat.or_comm, ← h, Nat.add_comm]
      obtain ⟨w2, hw2⟩ : ∃ w2, w2 = w + U := ⟨_, rfl⟩
      rw [← hw2] at c3
      have hB : ∀ x y, logB op x y = if op = 8 then x != y else if op = 7 then x || y else x && y := fun _ _ => rfl
      have e2 : w1 = logU op (un a) (un b) % 2 ^ i1 := by rw [hi1]; exact hw1
      have fin : ∀ t' : Tm, t' 0 = iv op → t' 1 = iv a → t' 2 = iv b → t' 7 = uv w1 → t' 8 = iv i1 → ∃ m, m < k + 1 ∧ InvL H1 op a b m t' H1 :=
        fun t' h0 h1 h2 h7 h8 => ⟨k, Nat.lt_succ_self k, i1, by omega, h0, h1, h2, by rw [h7, e2], h8, rfl⟩
      simp [L68_1, t0, t1, t2, t7, t8, hi]
      refine goT_of (bit_T a i hi) ?_
      simp [t2, t8]
      refine goT_of (bit_T b i hi) ?_
      by_cases h8 : op = 8
      · subst h8
        cases hx : bitV a i <;> cases hy : bitV b i <;> simp [hx, hy, logB] at hst <;> simp [t0, t7, t8, c1, c2, c3, e3] <;> refine fin _ ?_ ?_ ?_ ?_ ?_ <;> simp [t0, t1, t2, t7, hst, hw2]
      · by_cases h7 : op = 7
        · subst h7
          cases hx : bitV a i <;> cases hy : bitV b i <;> simp [hx, hy, logB] at hst <;> simp [t0, t7, t8, c1, c2, c3, e3] <;> refine fin _ ?_ ?_ ?_ ?_ ?_ <;> simp [t0, t1, t2, t7, hst, hw2]
        · cases hx : bitV a i <;> cases hy : bitV b i <;> simp [hx, hy, logB, h8, h7] at hst <;> simp [t0, t7, t8, c1, c2, c3, e3, h8, h7] <;> refine fin _ ?_ ?_ ?_ ?_ ?_ <;> simp [t0, t1, t2, t7, hst, hw2]

theorem two_join {H : Heap} (op a b : Int) (ha : okI a) (hb : okI b) (ho : 1 ≤ op ∧ op ≤ 7) :
    T Try.prog 59 [iv ([1, 3, 17, 18, 6, 7, 8].getD (op - 1).toNat 0), iv a, iv b] H (.tuple #[iv (joinV op a b), .bool true]) H := by
  refine T_eq hm light59 ?_
  have h : op = 1 ∨ op = 2 ∨ op = 3 ∨ op = 4 ∨ op = 5 ∨ op = 6 ∨ op = 7 := by omega
  rcases h with rfl | rfl | rfl | rfl | rfl | rfl | rfl
  · simp [L59]
    refine goT_of (add_T1 _ _) ?_
    simp [packV, joinV]
  · simp [L59]
    refine goT_of (mul_T a b ha) ?_
    simp [packV, joinV]
  · simp [L59]
    refine goT_of (below_T b a hb ha) ?_
    by_cases hlt : b < a <;> simp [packV, joinV, hlt]
  · simp [L59]
    refine goT_of (below_T a b ha hb) ?_
    by_cases hlt : a < b <;> simp [packV, joinV, hlt]
  · simp [L59]
    refine goT_of (logic_T _ _ _) ?_
    simp [packV, joinV, logU, bits_un]
  · simp [L59]
    refine goT_of (logic_T _ _ _) ?_
    simp [packV, joinV, logU, bits_un]
  · simp [L59]
    refine goT_of (logic_T _ _ _) ?_
    simp [packV, joinV, logU, bits_un]
theorem two_T {H : Heap} (hw : H.WF) (op : Int) (ho : 1 ≤ op ∧ op ≤ 7) : ∃ v H', T Try.prog 60 [iv op] H v H' ∧ v = iv ([1, 3, 17, 18, 6, 7, 8].getD (op - 1).toNat 0) ∧ Same H H' [] := by
  refine T_by hm light60 ?_
  have hnB := hw.next_ge
  have z7 : zerosA [.int .i64 0] 7 = [iv 0, iv 0, iv 0, iv 0, iv 0, iv 0, iv 0] := rfl
  obtain ⟨H1, hH1⟩ : ∃ H1, H1 = H.new 109 1 [iv 1, iv 3, iv 17, iv 18, iv 6, iv 7, iv 8] := ⟨_, rfl⟩
  have l1 : ∀ off, H1.load ⟨H.next, off, none⟩ = [iv 1, iv 3, iv 17, iv 18, iv 6, iv 7, iv 8][off]? := fun off => by
    rw [load_at (k := ⟨109, 1, [iv 1, iv 3, iv 17, iv 18, iv 6, iv 7, iv 8]⟩) (by rw [hH1]; simpa using hnB) (by rw [hH1]; simp)]
  have s1 : Same H H1 [] := fun b hb _ => by rw [hH1]; simp [show b ≠ H.next by omega]
  have e1 : IntKind.i64.wrap (op - 1) = op - 1 := w64 _ (by omega)
  have h : op = 1 ∨ op = 2 ∨ op = 3 ∨ op = 4 ∨ op = 5 ∨ op = 6 ∨ op = 7 := by omega
  simp [L60, z7]
  rw [← hH1]
  rcases h with rfl | rfl | rfl | rfl | rfl | rfl | rfl <;> simp [e1, l1, s1]
theorem joinR_T {H : Heap} (hw : H.WF) (op a b : Int) (ha : okI a) (hb : okI b) : ∃ v H', T Try.prog 57 [iv op, iv a, iv b] H v H' ∧ v = iv (joinV op a b) ∧ Same H H' [] := by
  refine T_by hm light57 ?_
  simp [L57]
  refine goT_of (rightR_T _) ?_
  cases hr : right op with
  | false => simp [join_none op a b hr, Same.refl]
  | true =>
    have ho : 1 ≤ op ∧ op ≤ 7 := by simpa [right] using hr
    obtain ⟨v, H1, T1, rfl, s1⟩ := two_T hw op ho
    obtain ⟨w, hw'⟩ : ∃ w, w = [1, 3, 17, 18, 6, 7, 8].getD (op - 1).toNat (0 : Int) := ⟨_, rfl⟩
    have T2 := two_join (H := H1) op a b ha hb ho
    rw [← hw'] at T1 T2
    simp
    refine goT_of T1 ?_
    simp
    refine goT_of T2 ?_
    simp [s1]
theorem zeroR_T {H : Heap} (hw : H.WF) (op : Int) : ∃ v H', T Try.prog 61 [iv op] H v H' ∧ v = iv (zeroV op) ∧ Same H H' [] := by
  refine T_by hm light61 ?_
  have hnB := hw.next_ge
  have z7 : zerosA [.int .i64 0] 7 = [iv 0, iv 0, iv 0, iv 0, iv 0, iv 0, iv 0] := rfl
  obtain ⟨H1, hH1⟩ : ∃ H1, H1 = H.new 2 1 [iv 0, iv 1, iv 9223372036854775807, iv (-9223372036854775808), iv (-1), iv 0, iv 0] := ⟨_, rfl⟩
  have l1 : ∀ off, H1.load ⟨H.next, off, none⟩ = [iv 0, iv 1, iv 9223372036854775807, iv (-9223372036854775808), iv (-1), iv 0, iv 0][off]? := fun off => by
    rw [load_at (k := ⟨2, 1, [iv 0, iv 1, iv 9223372036854775807, iv (-9223372036854775808), iv (-1), iv 0, iv 0]⟩) (by rw [hH1]; simpa using hnB) (by rw [hH1]; simp)]
  have s1 : Same H H1 [] := fun b hb _ => by rw [hH1]; simp [show b ≠ H.next by omega]
  simp [L61, z7]
  rw [← hH1]
  refine goT_of (rightR_T _) ?_
  cases hr : right op with
  | false =>
    have hz : zeroV op = 0 := by
      have : ¬ (1 ≤ op ∧ op ≤ 7) := by simpa [right] using hr
      unfold zeroV
      rw [if_neg (by omega), if_neg (by omega), if_neg (by omega), if_neg (by omega)]
    simp [hz, s1]
  | true =>
    rcases right_cases hr with rfl | rfl | rfl | rfl | rfl | rfl | rfl <;> simp [l1, s1, zeroV]
theorem fold_ok (op : Int) (l : List Int) (h : ∀ n ∈ l, okI n) : ∀ a, okI a → okI (l.foldl (joinV op) a) := by
  induction l with
  | nil => intro a ha; exact ha
  | cons b l ih => intro a ha; exact ih (fun n hn => h n (by simp [hn])) _ (join_ok _ _ _ ha (h b (by simp)))
theorem zero_ok (op : Int) : okI (zeroV op) := by
  unfold zeroV okI
  split; decide
  split; decide
  split; decide
  split <;> decide
def InvG (H : Heap) (op : Int) (x : Value) (l : List Int) (k : Nat) (t : Tm) (H1 : Heap) : Prop :=
  ∃ i a, i + k = l.length ∧ t 0 = iv op ∧ t 5 = iv a ∧ t 1 = x ∧ t 6 = iv i ∧ okI a ∧ (l.drop i).foldl (joinV op) a = foldV op l ∧ H1.WF ∧ H1.base = H.base ∧ H.next ≤ H1.next ∧ Same H H1 []
theorem foldR_T {H : Heap} (hw : H.WF) (op : Int) {x : Value} {l : List Int} (hx : Ints H .i64 x l) (hn : ∀ n ∈ l, okI n) (hl : l.length ≤ 1000000) : ∃ v H', T Try.prog 58 [iv op, x] H v H' ∧ v = iv (foldV op l) ∧ Same H H' [] := by
  refine T_by hm light58 ?_
  obtain ⟨xa, xc, hxl⟩ := hx.len
  obtain ⟨v1, H1, T1, rfl, s1⟩ := zeroR_T hw op
  simp [L58]
  refine goT_of T1 ?_
  simp
  refine loop_at (InvG H op x l) l.length ?_ ?_
  · exact ⟨0, zeroV op, by omega, by simp, by simp, by simp, by simp, zero_ok op, rfl, T1.grow.wf hw, T1.1, T1.grow.next, s1⟩
  · rintro k t H1 ⟨i, a, hik, t0, t5, t1, t6, ha, hf, w1, b1, n1, s1⟩
    cases k with
    | zero =>
      have e0 : i = l.length := by omega
      subst e0
      simp at hf
      rw [hxl] at t1
      simp [L58_1, t5, t1, t6, hf]
      exact s1
    | succ k =>
      have hi : i < l.length := by omega
      obtain ⟨b, off, c, hxs, l1⟩ := (hx.keep hw b1 (fun b hb => s1 b hb (by simp))).at hi
      have e3 : IntKind.i64.wrap ((i : Int) + 1) = ((i + 1 : Nat) : Int) := by rw [w64 _ (by omega)]; omega
      obtain ⟨i1, hi1⟩ : ∃ i1, i1 = i + 1 := ⟨_, rfl⟩
      rw [← hi1] at e3
      obtain ⟨v2, H2, T2, rfl, s2⟩ := joinR_T w1 op a l[i] ha (hn _ (List.getElem_mem hi))
      simp [L58_1, t0, t5, t1, t6, hxs, hi, l1]
      refine goT_of T2 ?_
      simp [t6, e3]
      refine ⟨k, Nat.lt_succ_self k, i1, joinV op a l[i], by omega, by simp [t0], by simp, by simp [t1, hxs], by simp, join_ok _ _ _ ha (hn _ (List.getElem_mem hi)), ?_, T2.grow.wf w1, T2.1.trans b1, Nat.le_trans n1 T2.grow.next, s1.next n1 s2 (by simp)⟩
      rw [← hf, List.drop_eq_getElem_cons hi, hi1]; rfl
theorem fold_turn (op : Int) (a b : List Int) (z : Int) : (a ++ b).foldl (joinV op) z = (b ++ a).foldl (joinV op) z := by
  refine List.Perm.foldl_eq' List.perm_append_comm ?_ z
  intro x _ y _ c
  rw [join_assoc, join_assoc, join_comm op x y]
end Go.Proofs.Ytjpdoflmjokplaa
