/-
  Chapter 25: ScriptFair, ScriptRounds.
-/
import Derived.Test.YtmdlfenileiaeaaSeatK
namespace Go.Proofs.Ytmdlfenileiaeaa
open Go.Ot Go.RowKit
set_option linter.unusedSimpArgs false
set_option linter.unusedVariables false
theorem rounds_fair {w : Int} {wn : Nat} (hw : w = (wn : Int)) (h1 : 1 ≤ w) (h8 : w ≤ 8) : ∀ m, roundsP w (fairL wn m) = ⟨m / wn, 0, fun k => decide (k < m % wn)⟩
  | 0 => by simp [fairL, roundsP, rs0]
  | m + 1 => by
    have hwn : 0 < wn := by omega
    rw [fairL_snoc]
    have e1 : roundsP w (fairL wn m ++ [fairE wn m]) = stepR w (roundsP w (fairL wn m)) (fairE wn m) := by simp [roundsP]
    rw [e1, rounds_fair hw h1 h8 m]
    have hm : m % wn < wn := Nat.mod_lt _ hwn
    have hin : inW w (fairE wn m) = true := by rw [inW_iff]; simp [fairE]; omega
    have hadd : addS (fun k => decide (k < m % wn)) (fairE wn m).1.toNat = fun k => decide (k < m % wn + 1) := by
      funext k
      have : (fairE wn m).1.toNat = m % wn := by simp only [fairE]; rfl
      rw [this]
      simp only [addS]
      rw [Bool.eq_iff_iff]
      simp
      omega
    unfold stepR
    rw [if_neg (by simp [fairE]), if_pos hin]
    simp only [hadd]
    have hdm := Nat.div_add_mod m wn
    by_cases hf : m % wn + 1 = wn
    · have hfull : full w (fun k => decide (k < m % wn + 1)) = true := by
        rw [full_iff]; intro j hj; simp; omega
      rw [if_pos hfull]
      have e2 : m + 1 = wn * (m / wn + 1) := by rw [Nat.mul_add, Nat.mul_one]; omega
      have e3 : (m + 1) / wn = m / wn + 1 := by rw [e2, Nat.mul_div_cancel_left _ hwn]
      have e4 : (m + 1) % wn = 0 := by rw [e2, Nat.mul_mod_right]
      rw [e3, e4]
      simp
    · have hfull : ¬ full w (fun k => decide (k < m % wn + 1)) = true := by
        rw [full_iff]; intro h
        have := h (m % wn + 1) (by omega)
        simp at this
      rw [if_neg hfull]
      have e2 : m + 1 = wn * (m / wn) + (m % wn + 1) := by omega
      have e3 : (m + 1) / wn = m / wn := by
        rw [e2, Nat.mul_add_div hwn, Nat.div_eq_of_lt (a := m % wn + 1) (by omega), Nat.add_zero]
      have e4 : (m + 1) % wn = m % wn + 1 := by
        rw [e2, Nat.mul_add_mod, Nat.mod_eq_of_lt (a := m % wn + 1) (by omega)]
      rw [e3, e4]
def InvFa (H1 : Heap) (y : Value) (w : Int) (n : Nat) (k : Nat) (t : Tm) (H : Heap) : Prop :=
  ∃ i : Nat, i + k = n ∧ t 0 = iv w ∧ t 5 = y ∧ t 9 = iv i ∧ H = H1
theorem fairlaw_N {H : Heap} (hw : H.WF) (w n : Int) (hn : -9223372036854775808 ≤ n ∧ n ≤ 9223372036854775807) : TN Try.prog 5 [iv w, iv n] H (fun o H' => o = .ret (.bool true) ∧ On H H') := by
  refine N_by hm light5 ?_
  simp [L5]
  refine goN_of (fair_N hw w n hn) ?_
  rintro r H1 ⟨y, rfl, row⟩ w1' b1 n1'
  obtain ⟨ay, hy⟩ := row.own.len
  have hnt : notTup y = true := by rw [hy]; rfl
  have aT := alive_T w1'
  obtain ⟨wn, hwn⟩ : ∃ wn, wn = w.toNat := ⟨_, rfl⟩
  rw [← hwn] at hy row
  rw [fairL_len] at hy
  have on := row.on
  have none_ : (w < 1 ∨ 8 < w ∨ n < 1) → y = .slice ay 0 0 := by
    intro h
    rw [hy, fairN, if_pos h, Nat.zero_mul]
  by_cases w1 : w < 1
  · rw [none_ (.inl w1)]
    simp [w1]
    refine goN_T aT ?_
    simp
    exact on
  by_cases w8 : 8 < w
  · rw [none_ (.inr (.inl w8))]
    simp [w1, w8]
    refine goN_T aT ?_
    simp
    exact on
  by_cases n1 : n < 1
  · rw [none_ (.inr (.inr n1))]
    simp [w1, w8, n1]
    refine goN_T aT ?_
    simp
    exact on
  obtain ⟨q, hq⟩ : ∃ q, q = fairN w n := ⟨_, rfl⟩
  rw [← hq] at hy row
  have hqv : q = (min n (40000 / w)).toNat := by rw [hq, fairN, if_neg (by omega)]
  have hd : 40000 / w ≤ 40000 := Int.ediv_le_self _ (by decide)
  have hd0 : 0 ≤ 40000 / w := Int.ediv_nonneg (by decide) (by omega)
  have sq : sBin .quo (.int .i64 40000) (iv w) = some (iv (40000 / w)) := by
    rw [sBin_quo, if_neg (by omega), Int.tdiv_eq_ediv_of_nonneg (by decide), w64 _ (by omega)]
  have ewn : w = (wn : Int) := by omega
  have hqw : q * wn ≤ 40000 := by
    have h1 : (40000 / w) * w ≤ 40000 := Int.ediv_mul_le _ (by omega)
    have h2 : (q : Int) * w ≤ (40000 / w) * w := Int.mul_le_mul_of_nonneg_right (by omega) (by omega)
    have : ((q * wn : Nat) : Int) = (q : Int) * w := by rw [Int.natCast_mul, ewn]
    omega
  have ry : Rl H1 y (fairL wn (q * wn)) := Own.rl row.own
  have rT := rounds_T w1' ry (by rw [fairL_len]; omega) w
  rw [rounds_fair ewn (by omega) (by omega)] at rT
  simp only at rT
  rw [Nat.mul_div_cancel _ (by omega)] at rT
  have hqi : (q : Int) * w = ((q * wn : Nat) : Int) := by rw [Int.natCast_mul, ewn]
  obtain ⟨N, hN⟩ : ∃ N, N = q * wn := ⟨_, rfl⟩
  rw [← hN] at hqi hy ry hqw
  have wm : IntKind.i64.wrap ((q : Int) * w) = (N : Int) := by rw [hqi, w64 _ (by omega)]
  have cont : ∀ t : Tm, t 0 = iv w → t 5 = y → t 9 = iv (0 : Int) → wpN Try.prog (.loop L5_1) (blockA 0 (thenA (wpN Try.prog ((LCode.region [⟨some 79, .call 11 [], none⟩, ⟨some 4, .move (.tmp 79), none⟩]).seq .ret) (EndN (fun o H' => o = .ret (.bool true) ∧ On H H') [.tmp 4])) (EndN (fun o H' => o = .ret (.bool true) ∧ On H H') [.tmp 4]))) t (rdy H1) := by
    intro t t0 t5 t9
    refine loopN_at (InvFa H1 y w N) N ?_ ?_
    · exact ⟨0, by omega, t0, t5, t9, rfl⟩
    · rintro k t G ⟨i, hik, t0, t5, t9, rfl⟩
      cases k with
      | zero =>
        have e1 : ¬ ((i : Int) < N) := by omega
        rw [hy] at t5
        simp [L5_1, t9, t5, e1]
        refine goN_T aT ?_
        simp
        exact on
      | succ k =>
        have e1 : ((i : Int) < N) := by omega
        have hil : i < (fairL wn N).length := by rw [fairL_len]; omega
        have hiN0 : i < N := by omega
        have e4 : IntKind.i64.wrap ((i : Int) + 1) = ((i + 1 : Nat) : Int) := by rw [w64 _ (by omega)]; omega
        obtain ⟨iN, hiN⟩ : ∃ m : Nat, m = i + 1 := ⟨_, rfl⟩
        rw [← hiN] at e4
        obtain ⟨b, off, c, hyb, _, f1, f2⟩ := ry.get hil
        rw [fairL_len] at hyb
        have hg : (fairL wn N)[i] = fairE wn i := by simp [fairL]
        rw [hg] at f1 f2
        simp only [fairE] at f1 f2
        have sr : sBin .rem (iv i) (iv w) = some (iv ((i % wn : Nat) : Int)) := by
          rw [sBin_rem, if_neg (by omega), ewn]
          have : Int.tmod (i : Int) (wn : Int) = ((i % wn : Nat) : Int) := by
            rw [Int.tmod_eq_emod_of_nonneg (by omega)]; exact (Int.natCast_emod i wn).symm
          rw [this]
        obtain ⟨mm, hmm⟩ : ∃ mm : Nat, mm = i % wn := ⟨_, rfl⟩
        rw [← hmm] at f1 sr
        have t5' := t5
        rw [hyb] at t5
        simp [L5_1, t9, t5, e1, hiN0, f1, f2, t0, sr, e4]
        exact ⟨k, by omega, iN, by omega, by simp [t0], by simp [t5'], by simp, rfl⟩
  have hq0 : 40000 / w < n ∨ ¬ 40000 / w < n := by omega
  rcases hq0 with hb | hb
  · have eq1 : 40000 / w = (q : Int) := by omega
    rw [eq1] at sq
    have hb' : (q : Int) < n := by omega
    simp [w1, w8, n1, sq, hb', hnt]
    refine goN_T rT ?_
    simp [hy, wm]
    rw [← hy]
    exact cont _ (by simp) (by simp) (by simp)
  · have eq1 : n = (q : Int) := by omega
    simp [w1, w8, n1, sq, hb, hnt]
    refine goN_T rT ?_
    subst eq1
    simp [hy, wm]
    rw [← hy]
    exact cont _ (by simp) (by simp) (by simp)
theorem T_of_N {f : FuncId} {args : List Value} {H : Heap} (h : TN Try.prog f args H (fun o H' => o = .ret (.bool true) ∧ On H H')) : T Try.prog f args H (.bool true) H := by
  refine TN.one rfl (Nat.le_refl _) id ?_
  refine (h.forget (Q' := fun o => o = .ret (.bool true)) ?_).mono (fun o H' h _ _ _ => ⟨h.2, h.1⟩)
  rintro o H' ⟨rfl, on⟩
  exact ⟨rfl, on.keep, rfl⟩
theorem fairlaw_T {H : Heap} (hw : H.WF) {w n : Int} (_ : -9223372036854775808 ≤ w ∧ w ≤ 9223372036854775807) (hn : -9223372036854775808 ≤ n ∧ n ≤ 9223372036854775807) : ∃ v H', T Try.prog 5 [iv w, iv n] H v H' ∧ v = .bool true :=
  ⟨_, _, T_of_N (fairlaw_N hw w n hn), rfl⟩
end Go.Proofs.Ytmdlfenileiaeaa
