/-
  Chapter 19: Euclid's steps and Bezout's numbers.
-/
import Derived.Test.YtimaohinaobfnaaSeatA
namespace Go.Proofs.Ytimaohinaobfnaa
open Go.Ot
set_option linter.unusedSimpArgs false
set_option linter.unusedVariables false
theorem abs_sub_opp {x y : Int} (h : x * y ≤ 0) : (x - y).natAbs = x.natAbs + y.natAbs := by
  by_cases hx : 0 < x
  · by_cases hy : 0 < y
    · have := Int.mul_pos hx hy; omega
    · omega
  · by_cases hx0 : x = 0
    · subst hx0; omega
    · by_cases hy : y < 0
      · have := Int.mul_pos_of_neg_of_neg (show x < 0 by omega) hy; omega
      · omega
theorem tmod_between (r s : Int) : (0 ≤ r → 0 ≤ r.tmod s ∧ r.tmod s ≤ r) ∧ (r ≤ 0 → r ≤ r.tmod s ∧ r.tmod s ≤ 0) := by
  have hn := Int.natAbs_tmod r s
  have hle : r.natAbs % s.natAbs ≤ r.natAbs := Nat.mod_le _ _
  constructor
  · intro h
    have := Int.tmod_nonneg s h
    omega
  · intro h
    have h2 := Int.tmod_nonneg s (show 0 ≤ -r by omega)
    rw [Int.neg_tmod] at h2
    omega
theorem pos_of_mul {a b : Int} (h : a * b ≤ 0) (hb : 0 < b) : a ≤ 0 := by
  by_cases ha : 0 < a
  · have := Int.mul_pos ha hb; omega
  · omega
theorem nonneg_of_mul {a b : Int} (h : a * b ≤ 0) (hb : b < 0) : 0 ≤ a := by
  by_cases ha : a < 0
  · have := Int.mul_pos_of_neg_of_neg ha hb; omega
  · omega
theorem mul_np {a b : Int} (ha : 0 ≤ a) (hb : b ≤ 0) : a * b ≤ 0 := by
  have := Int.mul_nonneg ha (show 0 ≤ -b by omega)
  rw [Int.mul_neg] at this
  omega
theorem mul_pp {a b : Int} (ha : a ≤ 0) (hb : b ≤ 0) : 0 ≤ a * b := by
  have := Int.mul_nonneg (show 0 ≤ -a by omega) (show 0 ≤ -b by omega)
  rw [Int.neg_mul_neg] at this
  exact this
theorem q_nonneg {q s : Int} (h : 0 ≤ q * s) (hs : 0 < s) : 0 ≤ q := by
  by_cases hq : q < 0
  · have := Int.mul_pos (show 0 < -q by omega) hs
    rw [Int.neg_mul] at this; omega
  · omega
theorem q_nonpos {q s : Int} (h : q * s ≤ 0) (hs : 0 < s) : q ≤ 0 := pos_of_mul h hs
theorem sq_nonneg (u : Int) : 0 ≤ u * u := by
  by_cases h : 0 ≤ u
  · exact Int.mul_nonneg h h
  · exact mul_pp (by omega) (by omega)
/-- One of Euclid's steps. -/
theorem euclid_step {r s x u : Int} {B : Nat} (hs : s ≠ 0) (hB : x.natAbs * s.natAbs + u.natAbs * r.natAbs = B) (hsign : x * u * (r * s) ≤ 0) :
    u.natAbs * (r.tmod s).natAbs + (x - r.tdiv s * u).natAbs * s.natAbs = B ∧ u * (x - r.tdiv s * u) * (s * r.tmod s) ≤ 0 ∧ (r.tdiv s * u).natAbs ≤ (x - r.tdiv s * u).natAbs := by
  have hdm := Int.mul_tdiv_add_tmod r s
  have hb := tmod_between r s
  obtain ⟨q, hq⟩ : ∃ q, q = r.tdiv s := ⟨_, rfl⟩
  obtain ⟨m, hm⟩ : ∃ m, m = r.tmod s := ⟨_, rfl⟩
  rw [← hq, ← hm] at hdm
  rw [← hm] at hb
  rw [← hq, ← hm]
  have hqs : q * s = r - m := by grind
  -- the signs
  have key : (0 ≤ r * s → 0 ≤ q ∧ x * u ≤ 0 ∨ r = 0) ∧ (r * s < 0 → q ≤ 0 ∧ 0 ≤ x * u) := by
    constructor
    · intro h
      by_cases hr : r = 0
      · exact .inr hr
      · left
        have hrs : 0 < r * s := by
          have : r * s ≠ 0 := Int.mul_ne_zero hr hs
          omega
        refine ⟨?_, pos_of_mul hsign hrs⟩
        by_cases hs0 : 0 < s
        · have hr0 : 0 < r := by
            by_cases h0 : r < 0
            · have := mul_np (show 0 ≤ s by omega) (show r ≤ 0 by omega); rw [Int.mul_comm] at this; omega
            · omega
          exact q_nonneg (by have := hb.1 (by omega); omega) hs0
        · have hr0 : r < 0 := by
            by_cases h0 : 0 < r
            · have := mul_np (show 0 ≤ r by omega) (show s ≤ 0 by omega); omega
            · omega
          have h1 : q * s ≤ 0 := by have := hb.2 (by omega); omega
          have h2 : 0 ≤ q * (-s) := by rw [Int.mul_neg]; omega
          exact q_nonneg h2 (by omega)
    · intro h
      refine ⟨?_, nonneg_of_mul hsign h⟩
      by_cases hs0 : 0 < s
      · have hr0 : r < 0 := by
          by_cases h0 : 0 ≤ r
          · have := Int.mul_nonneg h0 (show 0 ≤ s by omega); omega
          · omega
        exact q_nonpos (by have := hb.2 (by omega); omega) hs0
      · have hr0 : 0 < r := by
          by_cases h0 : r ≤ 0
          · have := mul_pp h0 (show s ≤ 0 by omega); omega
          · omega
        have h1 : 0 ≤ q * s := by have := hb.1 (by omega); omega
        have h2 : q * (-s) ≤ 0 := by rw [Int.mul_neg]; omega
        exact q_nonpos h2 (by omega)
  have hr0 : r = 0 → q = 0 ∧ m = 0 := by
    intro h
    subst h
    have h1 := hb.1 (Int.le_refl 0)
    have hm0 : m = 0 := by omega
    refine ⟨?_, hm0⟩
    have : q * s = 0 := by omega
    rcases Int.mul_eq_zero.1 this with h | h
    · exact h
    · exact absurd h hs
  have hxq : x * (q * u) ≤ 0 := by
    have e : x * (q * u) = q * (x * u) := by grind
    rw [e]
    by_cases h : 0 ≤ r * s
    · rcases key.1 h with ⟨h1, h2⟩ | h1
      · exact mul_np h1 h2
      · rw [(hr0 h1).1]; simp
    · obtain ⟨h1, h2⟩ := key.2 (by omega)
      rw [Int.mul_comm]; exact mul_np h2 h1
  have habs := abs_sub_opp hxq
  rw [Int.natAbs_mul] at habs
  have hrabs : r.natAbs = q.natAbs * s.natAbs + m.natAbs := by
    rw [← Int.natAbs_mul, hqs]
    by_cases h : 0 ≤ r
    · have := hb.1 h; omega
    · have := hb.2 (by omega); omega
  refine ⟨?_, ?_, ?_⟩
  · rw [habs, ← hB, hrabs]
    grind
  · have e : u * (x - q * u) * (s * m) = (x * u - q * (u * u)) * (s * m) := by grind
    rw [e]
    have hu := sq_nonneg u
    by_cases h : 0 ≤ r * s
    · rcases key.1 h with ⟨h1, h2⟩ | h1
      · have h3 : x * u - q * (u * u) ≤ 0 := by have := Int.mul_nonneg h1 hu; omega
        have h4 : 0 ≤ s * m := by
          by_cases hs0 : 0 ≤ s
          · by_cases hr : 0 ≤ r
            · exact Int.mul_nonneg hs0 (hb.1 hr).1
            · have := mul_np hs0 (show r ≤ 0 by omega); rw [Int.mul_comm] at this
              have hz : r * s = 0 := by omega
              rcases Int.mul_eq_zero.1 hz with h5 | h5
              · omega
              · exact absurd h5 hs
          · by_cases hr : 0 < r
            · have := mul_np (show 0 ≤ r by omega) (show s ≤ 0 by omega)
              have hz : r * s = 0 := by omega
              rcases Int.mul_eq_zero.1 hz with h5 | h5
              · omega
              · exact absurd h5 hs
            · exact mul_pp (by omega) (hb.2 (by omega)).2
        rw [Int.mul_comm]; exact mul_np h4 h3
      · rw [(hr0 h1).2]; simp
    · obtain ⟨h1, h2⟩ := key.2 (by omega)
      have h3 : 0 ≤ x * u - q * (u * u) := by have := mul_np hu h1; rw [Int.mul_comm] at this; omega
      have h4 : s * m ≤ 0 := by
        by_cases hs0 : 0 ≤ s
        · by_cases hr : 0 ≤ r
          · have := Int.mul_nonneg hr hs0; omega
          · exact mul_np hs0 (hb.2 (by omega)).2
        · by_cases hr : 0 ≤ r
          · rw [Int.mul_comm]; exact mul_np (hb.1 hr).1 (by omega)
          · have := mul_pp (show r ≤ 0 by omega) (show s ≤ 0 by omega); omega
      exact mul_np h3 h4
  · rw [habs, Int.natAbs_mul]; omega
def InvSt (H : Heap) (a b : Int) (k : Nat) (t : Tm) (H1 : Heap) : Prop :=
  ∃ r s x u k1 k2 : Int, s.natAbs = k ∧ t 6 = iv r ∧ t 7 = iv s ∧ t 8 = iv x ∧ t 9 = iv u ∧ H1 = H ∧ r = a * x + b * k1 ∧ s = a * u + b * k2 ∧ (∀ d : Int, d ∣ r → d ∣ s → d ∣ a ∧ d ∣ b) ∧
    x.natAbs * s.natAbs + u.natAbs * r.natAbs = b.natAbs ∧ x * u * (r * s) ≤ 0 ∧ x.natAbs ≤ b.natAbs ∧ u.natAbs ≤ b.natAbs ∧ r.natAbs ≤ 1048576 ∧ s.natAbs ≤ 1048576
def StepsV (a b : Int) (v : Value) : Prop := ∃ x g k : Int, v = .tuple #[iv x, iv g] ∧ 0 < g ∧ g ∣ a ∧ g ∣ b ∧ a * x + b * k = g ∧ x.natAbs ≤ 1048576 ∧ g ≤ 1048576
theorem steps_T {H : Heap} {a b : Int} (ha : a.natAbs ≤ 1048576) (hb : b.natAbs ≤ 1048576) (hb0 : b ≠ 0) :
    ∃ v H', T Try.prog 29 [iv a, iv b] H v H' ∧ H' = H ∧ StepsV a b v := by
  refine T_by hm light29 ?_
  simp [L29]
  refine loop_at (InvSt H a b) b.natAbs ?_ ?_
  · exact ⟨a, b, 1, 0, 0, 1, rfl, by simp, by simp, by simp, by simp, rfl, by omega, by omega, fun d h1 h2 => ⟨h1, h2⟩, by simp, by simp, by simp; omega, by simp, ha, hb⟩
  · rintro k t H1 ⟨r, s, x, u, k1, k2, hk, t6, t7, t8, t9, rfl, hr, hs, hd, hB, hsg, hx, hu, hrb, hsb⟩
    by_cases h0 : s = 0
    · subst h0
      have hr0 : r ≠ 0 := by
        intro h; subst h; simp at hB; omega
      have hdd := hd r (Int.dvd_refl r) (Int.dvd_zero r)
      by_cases hneg : r < 0
      · have e1 : IntKind.i64.wrap (-r) = -r := w64 _ (by omega)
        have e2 : IntKind.i64.wrap (-x) = -x := w64 _ (by omega)
        simp [L29_1, t6, t7, t8, hneg, e1, e2]
        exact ⟨-x, -r, -k1, rfl, by omega, (Int.neg_dvd).2 hdd.1, (Int.neg_dvd).2 hdd.2, by grind, by omega, by omega⟩
      · simp [L29_1, t6, t7, t8, hneg]
        exact ⟨x, r, k1, rfl, by omega, hdd.1, hdd.2, by omega, by omega, by omega⟩
    · have h0' : (s != 0) = true := by simp [h0]
      obtain ⟨n1, n2, n3⟩ := euclid_step h0 hB hsg
      have hq := Int.natAbs_tdiv_le_natAbs r s
      have hdm := Int.mul_tdiv_add_tmod r s
      have hmb := Int.natAbs_tmod r s
      have hlt : r.natAbs % s.natAbs < s.natAbs := Nat.mod_lt _ (by omega)
      have hbt := tmod_between r s
      have hu' : (x - r.tdiv s * u).natAbs ≤ b.natAbs := by
        have h1 : (x - r.tdiv s * u).natAbs * 1 ≤ (x - r.tdiv s * u).natAbs * s.natAbs := Nat.mul_le_mul_left _ (by omega)
        omega
      have e1 : IntKind.i64.wrap (r.tdiv s) = r.tdiv s := w64 _ (by omega)
      have hqs : r.tdiv s * s = r - r.tmod s := by grind
      have hrm : -1048576 ≤ r - r.tmod s ∧ r - r.tmod s ≤ 1048576 := by
        by_cases h : 0 ≤ r
        · have := hbt.1 h; omega
        · have := hbt.2 (by omega); omega
      have e2 : IntKind.i64.wrap (r.tdiv s * s) = r.tdiv s * s := w64 _ (by omega)
      have e3 : IntKind.i64.wrap (r - r.tdiv s * s) = r.tmod s := by
        rw [hqs, w64 _ (by omega)]; omega
      have e4 : IntKind.i64.wrap (r.tdiv s * u) = r.tdiv s * u := w64 _ (by omega)
      have e5 : IntKind.i64.wrap (x - r.tdiv s * u) = x - r.tdiv s * u := w64 _ (by omega)
      simp [L29_1, t6, t7, t8, t9, h0', sBin_quo, h0, e1, e2, e3, e4, e5]
      refine ⟨(r.tmod s).natAbs, by omega, s, r.tmod s, u, x - r.tdiv s * u, k2, k1 - r.tdiv s * k2, rfl, by simp, by simp, by simp, by simp, rfl, hs, ?_, ?_, ?_, ?_, hu, hu', hsb, by omega⟩
      · have : r.tmod s = r - s * r.tdiv s := by omega
        rw [this]; grind
      · intro d h1 h2
        refine hd d ?_ h1
        have : r = s * r.tdiv s + r.tmod s := by omega
        rw [this]
        exact Int.dvd_add (Int.dvd_mul_of_dvd_left h1) h2
      · exact n1
      · exact n2
end Go.Proofs.Ytimaohinaobfnaa
