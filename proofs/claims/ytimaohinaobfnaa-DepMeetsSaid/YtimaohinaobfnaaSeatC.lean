/-
  Chapter 19: Bezout's numbers; where two rows of numbers meet.
-/
import Derived.Test.YtimaohinaobfnaaSeatB
namespace Go.Proofs.Ytimaohinaobfnaa
open Go.Ot
set_option linter.unusedSimpArgs false
set_option linter.unusedVariables false
def BezV (a b : Int) (v : Value) : Prop := ∃ u w g k : Int, v = .tuple #[iv u, iv w, iv g, iv 0] ∧ 0 < g ∧ g ∣ a ∧ g ∣ b ∧ a * u + b * k = g ∧ u.natAbs ≤ 1048576 ∧ g ≤ 1048576
theorem bezout_T {H : Heap} {a b : Int} (ha : a.natAbs ≤ 1048576) (hb : b.natAbs ≤ 1048576) (h0 : a ≠ 0 ∨ b ≠ 0) : ∃ v H', T Try.prog 15 [iv a, iv b] H v H' ∧ H' = H ∧ BezV a b v := by
  refine T_by hm light15 ?_
  have a1 : ¬ a < -2147483648 := by omega
  have a2 : ¬ 2147483648 < a := by omega
  have b1 : ¬ b < -2147483648 := by omega
  have b2 : ¬ 2147483648 < b := by omega
  by_cases hb0 : b = 0
  · subst hb0
    have ha0 : a ≠ 0 := by simpa using h0
    by_cases hn : a < 0
    · have e1 : IntKind.i64.wrap (-a) = -a := w64 _ (by omega)
      simp [L15, a1, a2, hn, e1]
      exact ⟨-1, 0, -a, 0, rfl, by omega, (Int.neg_dvd).2 (Int.dvd_refl a), Int.dvd_zero _, by omega, by omega, by omega⟩
    · have hp : 0 < a := by omega
      simp [L15, a1, a2, hn, hp]
      exact ⟨1, 0, a, 0, rfl, by omega, Int.dvd_refl a, Int.dvd_zero _, by omega, by omega, by omega⟩
  · have hb0' : (b == 0) = false := by simp [hb0]
    obtain ⟨v, H1, T1, rfl, x, g, k, rfl, g0, ga, gb, hk, hx, hg⟩ := steps_T (H := H) ha hb hb0
    have hgb : g ∣ (b.natAbs : Int) := Int.dvd_natAbs.2 gb
    obtain ⟨m, hm1⟩ := hgb
    have hm0 : 0 < m := by
      by_cases hmm : m ≤ 0
      · have := mul_np (show 0 ≤ g by omega) hmm; omega
      · omega
    have hmle : m ≤ 1048576 := by
      have : 1 * m ≤ g * m := Int.mul_le_mul_of_nonneg_right (by omega) (by omega)
      omega
    have ew : IntKind.i64.wrap (b.natAbs : Int) = (b.natAbs : Int) := w64 _ (by omega)
    have eq0 : ((b.natAbs : Int)).tdiv g = m := by
      rw [hm1, Int.tdiv_eq_ediv_of_nonneg (by omega)]
      exact Int.mul_ediv_cancel_left m (by omega)
    have em : IntKind.i64.wrap m = m := w64 _ (by omega)
    have gn : ¬ g = 0 := by omega
    obtain ⟨q, Tf⟩ := floor_T (H := H1) (a := x) (b := m) (by omega) (by omega)
    obtain ⟨x1, hx1⟩ : ∃ x1, x1 = x % m := ⟨_, rfl⟩
    rw [← hx1] at Tf
    have hx1b : 0 ≤ x1 ∧ x1 < m := by rw [hx1]; exact ⟨Int.emod_nonneg _ (by omega), Int.emod_lt_of_pos _ hm0⟩
    have hax : (a * x1).natAbs ≤ 1099511627776 := by
      rw [Int.natAbs_mul]
      calc a.natAbs * x1.natAbs ≤ 1048576 * 1048576 := Nat.mul_le_mul ha (by omega)
        _ = 1099511627776 := rfl
    have e1 : IntKind.i64.wrap (a * x1) = a * x1 := w64 _ (by omega)
    have e2 : IntKind.i64.wrap (g - a * x1) = g - a * x1 := w64 _ (by omega)
    simp [L15, a1, a2, b1, b2, hb0']
    refine goT_of T1 ?_
    simp
    refine goT_of (size_T (by omega)) ?_
    have eq0' : ((b.natAbs : Int)).tdiv g = m := eq0
    simp [ew, sBin_quo, gn, eq0', em]
    refine goT_of Tf ?_
    simp [e1, e2, sBin_quo, hb0]
    obtain ⟨a', ha'⟩ := ga
    obtain ⟨t, ht⟩ : ∃ t, t = x / m := ⟨_, rfl⟩
    have hxt : x1 = x - m * t := by
      have := Int.mul_ediv_add_emod x m
      rw [hx1, ht]; omega
    have hσ : ∃ σ : Int, (b.natAbs : Int) = b * σ := by
      by_cases h : 0 ≤ b
      · exact ⟨1, by omega⟩
      · exact ⟨-1, by omega⟩
    obtain ⟨σ, hσ⟩ := hσ
    refine ⟨x1, _, g, k + a' * σ * t, rfl, g0, ⟨a', ha'⟩, gb, ?_, by omega, hg⟩
    have h1 : a * m = a' * (b * σ) := by rw [← hσ, hm1, ha']; grind
    rw [hxt]
    grind
/-- Do they meet at unlike places? -/
def meets (a x b y n : Int) : Prop := ∃ p q : Int, 0 ≤ p ∧ p < n ∧ 0 ≤ q ∧ q < n ∧ p ≠ q ∧ a + p * x = b + q * y
open Classical in
noncomputable def meetB (a x b y n : Int) : Bool := decide (meets a x b y n)
theorem meetB_true {a x b y n : Int} (h : meets a x b y n) : meetB a x b y n = true := by simp [meetB, h]
theorem meetB_false {a x b y n : Int} (h : ¬ meets a x b y n) : meetB a x b y n = false := by simp [meetB, h]
theorem meets_swap (a x b y n : Int) : meets a x b y n ↔ meets b y a x n :=
  ⟨fun ⟨p, q, h1, h2, h3, h4, h5, h6⟩ => ⟨q, p, h3, h4, h1, h2, h5.symm, h6.symm⟩, fun ⟨p, q, h1, h2, h3, h4, h5, h6⟩ => ⟨q, p, h3, h4, h1, h2, h5.symm, h6.symm⟩⟩
theorem meetB_swap (a x b y n : Int) : meetB a x b y n = meetB b y a x n := by
  by_cases h : meets a x b y n
  · rw [meetB_true h, meetB_true ((meets_swap _ _ _ _ _).1 h)]
  · rw [meetB_false h, meetB_false (fun h2 => h ((meets_swap _ _ _ _ _).2 h2))]
def inB (z : Int) : Prop := -1048576 ≤ z ∧ z ≤ 1048576
theorem mulB {z w : Int} {A B : Nat} (hz : z.natAbs ≤ A) (hw : w.natAbs ≤ B) : (z * w).natAbs ≤ A * B := by
  rw [Int.natAbs_mul]; exact Nat.mul_le_mul hz hw
/-- In the row: the same row again, by steps. -/
theorem prog_mod {p0 s p : Int} (hs : 0 < s) (h0 : 0 ≤ p0 ∧ p0 < s) (hp : 0 ≤ p) (hd : s ∣ p - p0) : ∃ j : Nat, p = p0 + s * j := by
  obtain ⟨c, hc⟩ := hd
  have hc0 : 0 ≤ c := by
    by_cases h : c < 0
    · have := Int.mul_le_mul_of_nonneg_left (show c ≤ -1 by omega) (show 0 ≤ s by omega)
      omega
    · omega
  exact ⟨c.toNat, by rw [Int.toNat_of_nonneg hc0]; omega⟩
end Go.Proofs.Ytimaohinaobfnaa
