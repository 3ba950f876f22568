/-
  Chapter 25: ScriptBounds, the law.
-/
import Derived.Test.YtmdlfenileiaeaaSeatBJ
namespace Go.Proofs.Ytmdlfenileiaeaa
open Go.Ot Go.ChangeShapes Go.WideShapes Go.ChangeAt Go.RowKit
open R14 (Twos)
open I8 (In rowI)
set_option linter.unusedSimpArgs false
set_option linter.unusedVariables false
/-- A bound, where all is well: exact as far as the document's, above it behind that. -/
theorem bound_eq {J : Jb} {C : Cfg} {ab : Int} (hab : okW ab) (h : ab ≤ 1048576) : boundV J C ab = refBoundV J C ab := by
  unfold boundV refBoundV
  by_cases hv : validE J = 0
  · have hv' : ¬ (validE J ≠ 0) := fun g => g hv
    rw [if_neg hv', if_neg hv']
    by_cases hr : rightE C = 0
    · have hr' : ¬ (rightE C ≠ 0) := fun g => g hr
      rw [if_neg hr', if_neg hr']
      obtain ⟨fn, hc0⟩ := fine_of hv hr
      obtain ⟨n0, n200, f1, f4, r0, r9, w1, w8, v1, v32⟩ := fn
      obtain ⟨n, hn⟩ : ∃ n, n = (cntP J.S).1 := ⟨_, rfl⟩
      rw [← hn] at n0 n200 ⊢
      have b1 : n * (C.retry + 3) ≤ 200 * 12 := Int.mul_le_mul n200 (by omega) (by omega) (by omega)
      have b1' : 0 ≤ n * (C.retry + 3) := Int.mul_nonneg n0 (by omega)
      rw [plusV_small (a := J.fuel) (b := 3) (by omega) (by omega) (by omega), timesV_small (a := n) (b := C.retry + 3) n0 (by omega) (by omega)]
      obtain ⟨pr, hpr⟩ : ∃ pr, pr = n * (C.retry + 3) := ⟨_, rfl⟩
      obtain ⟨one, hone⟩ : ∃ one, one = J.fuel + 3 := ⟨_, rfl⟩
      rw [← hpr] at b1 b1' ⊢
      rw [← hone]
      have b2 : pr * one ≤ 2400 * 4003 := Int.mul_le_mul (by omega) (by omega) (by omega) (by omega)
      have b2' : 0 ≤ pr * one := Int.mul_nonneg (by omega) (by omega)
      rw [timesV_small (a := pr) (b := one) (by omega) (by omega) (by omega)]
      have hm : 0 ≤ mx0 ab ∧ mx0 ab ≤ 1048576 := by unfold mx0; split <;> omega
      have b3 : mx0 ab * one ≤ 1048576 * 4003 := Int.mul_le_mul (by omega) (by omega) (by omega) (by omega)
      have b3' : 0 ≤ mx0 ab * one := Int.mul_nonneg (by omega) (by omega)
      have e3 : timesV ab one = mx0 ab * one := by
        have : timesV ab one = timesV (mx0 ab) one := by
          unfold timesV
          have : mx0 (mx0 ab) = mx0 ab := by unfold mx0; split <;> simp_all
          rw [this]
        rw [this]
        exact timesV_small (by omega) (by omega) (by omega)
      rw [e3, plusV_small (by omega) (by omega) (by omega), Int.add_mul]
    · rw [if_pos hr, if_pos hr]
  · rw [if_pos hv, if_pos hv]
theorem bound_big {J : Jb} {C : Cfg} {ab : Int} (hab : okW ab) (h : 1048576 < ab) (hE : (refBoundV J C 1048576).2 = 0) : (refBoundV J C 1048576).1 < (boundV J C ab).1 ∧ (4611686018427387904 ≤ ab → (boundV J C ab).1 = 9223372036854775807) := by
  rw [refBoundV_2] at hE
  have hv : validE J = 0 := by
    by_cases hv : validE J = 0
    · exact hv
    · rw [if_pos hv] at hE; exact absurd hE hv
  rw [if_neg (by simp [hv])] at hE
  have hr : rightE C = 0 := hE
  unfold boundV refBoundV
  have hv' : ¬ (validE J ≠ 0) := fun g => g hv
  have hr' : ¬ (rightE C ≠ 0) := fun g => g hr
  rw [if_neg hv', if_neg hv', if_neg hr', if_neg hr']
  obtain ⟨fn, hc0⟩ := fine_of hv hr
  obtain ⟨n0, n200, f1, f4, r0, r9, w1, w8, v1, v32⟩ := fn
  unfold okW at hab
  obtain ⟨n, hn⟩ : ∃ n, n = (cntP J.S).1 := ⟨_, rfl⟩
  rw [← hn] at n0 n200 ⊢
  have b1 : n * (C.retry + 3) ≤ 200 * 12 := Int.mul_le_mul n200 (by omega) (by omega) (by omega)
  have b1' : 0 ≤ n * (C.retry + 3) := Int.mul_nonneg n0 (by omega)
  simp only
  rw [plusV_small (a := J.fuel) (b := 3) (by omega) (by omega) (by omega), timesV_small (a := n) (b := C.retry + 3) n0 (by omega) (by omega)]
  obtain ⟨pr, hpr⟩ : ∃ pr, pr = n * (C.retry + 3) := ⟨_, rfl⟩
  obtain ⟨one, hone⟩ : ∃ one, one = J.fuel + 3 := ⟨_, rfl⟩
  rw [← hpr] at b1 b1' ⊢
  rw [← hone]
  have b2 : pr * one ≤ 2400 * 4003 := Int.mul_le_mul (by omega) (by omega) (by omega) (by omega)
  have b2' : 0 ≤ pr * one := Int.mul_nonneg (by omega) (by omega)
  rw [timesV_small (a := pr) (b := one) (by omega) (by omega) (by omega)]
  have e1 : mx0 1048576 = 1048576 := by decide
  have b4 : (1048576 : Int) * one ≤ 1048576 * 4003 := Int.mul_le_mul (by omega) (by omega) (by omega) (by omega)
  have e4 : (pr + mx0 1048576) * one = pr * one + 1048576 * one := by rw [e1, Int.add_mul]
  rw [e4]
  have hma : mx0 ab = ab := by unfold mx0; rw [if_neg (by omega)]
  have hmo : mx0 one = one := by unfold mx0; rw [if_neg (by omega)]
  obtain ⟨po, hpo⟩ : ∃ po, po = pr * one := ⟨_, rfl⟩
  rw [← hpo] at b2 b2' ⊢
  have hmp : mx0 po = po := by unfold mx0; rw [if_neg (by omega)]
  -- the aborts' part
  have tv : 1048576 * one < timesV ab one ∧ timesV ab one ≤ 9223372036854775807 ∧ (4611686018427387904 ≤ ab → timesV ab one = 9223372036854775807) := by
    unfold timesV
    rw [hma, hmo]
    split
    · refine ⟨by omega, by omega, fun _ => rfl⟩
    · rename_i hno
      have hle : ¬ 9223372036854775807 / ab < one := fun g => hno ⟨by omega, g⟩
      have hmul := (Int.le_ediv_iff_mul_le (a := one) (b := 9223372036854775807) (c := ab) (by omega)).1 (by omega)
      refine ⟨?_, by rw [Int.mul_comm]; exact hmul, fun hbig => ?_⟩
      · exact Int.mul_lt_mul_of_pos_right h (by omega)
      · exfalso
        have : one * ab ≥ 4 * 4611686018427387904 := Int.mul_le_mul (by omega) hbig (by omega) (by omega)
        omega
  obtain ⟨tt, htt⟩ : ∃ tt, tt = timesV ab one := ⟨_, rfl⟩
  rw [← htt] at tv ⊢
  obtain ⟨t1, t2, t3⟩ := tv
  have t0 : 0 ≤ tt := by
    have : 0 ≤ (1048576 : Int) * one := Int.mul_nonneg (by decide) (by omega)
    omega
  have hmt : mx0 tt = tt := by unfold mx0; rw [if_neg (by omega)]
  unfold plusV
  rw [hmp, hmt]
  split
  · exact ⟨by omega, fun _ => rfl⟩
  · refine ⟨by omega, fun hbig => ?_⟩
    have := t3 hbig
    omega
def L7t : LCode := seqR1 (seqR1 (seqR1 (seqR1 (seqR1 (seqR1 L7)))))
theorem L7_eq : L7 = .seq (seqL1 L7) (.seq (seqL1 (seqR1 L7)) (.seq (seqL1 (seqR1 (seqR1 L7))) (.seq (seqL1 (seqR1 (seqR1 (seqR1 L7)))) (.seq (seqL1 (seqR1 (seqR1 (seqR1 (seqR1 L7))))) (.seq (seqL1 (seqR1 (seqR1 (seqR1 (seqR1 (seqR1 L7)))))) L7t))))) := rfl
theorem bounds_N {H : Heap} (hw : H.WF) {J : Jb} (ok : Jb0 H J) (C : Cfg) {a : Option Addr} {n c : Nat} (ab : Int) (hab : okW ab) : TN Try.prog 7 [.agg (runC J C (.slice a n c)).toArray, iv ab] H (fun o H' => o = .ret (.bool true) ∧ On H H') := by
  refine N_by hm light7 ?_
  obtain ⟨G, hG⟩ : ∃ G, G = H.new 55 23 (runC J C (.slice a n c)) := ⟨_, rfl⟩
  have onG : On H G := by rw [hG]; exact (On.refl hw).new _ _ _
  have vG : Vr G H.next 55 23 (runC J C (.slice a n c)) := by rw [hG]; exact Vr.mk' hw _ _ _
  have rl := RL.of vG
  have okG := ok.on hw onG
  have gT := great24_T onG.wf okG C (a := a) (n := n) (c := c) 1073741824
  obtain ⟨gb, hgb⟩ : ∃ gb, gb = (greatV J || decide ((1073741824 : Int) < (n : Int))) := ⟨_, rfl⟩
  rw [← hgb] at gT
  rw [L7_eq]
  simp [L7, seqL1, seqR1, ← hG, rl.lA]
  refine goN_T gT ?_
  cases gb with
  | true =>
    simp
    exact onG
  | false =>
    have hg : greatV J = false := by
      cases h : greatV J with
      | false => rfl
      | true => rw [h] at hgb; cases hgb
    unfold greatV at hg
    simp only [Bool.or_eq_false_iff, decide_eq_false_iff_not] at hg
    have okJ : JbOk G J := ⟨okG.xc, okG.xr, okG.xk, ok.S, by omega, by omega, by omega, ok.kinds⟩
    simp [rl.lJ, rl.lC]
    refine goN_T (quick_T onG.wf okJ C) ?_
    simp [rl.lJ, rl.lC]
    refine goN_of (refQuick_N onG.wf okJ C) ?_
    rintro r G2 ⟨rfl, on2⟩ w2 _ _
    have onG2 := onG.trans on2
    have rl2 := RL.of (vG.on onG.wf on2)
    have okJ2 := okJ.on onG.wf on2
    have bT := bound_T w2 okJ2 C ab hab
    simp [rl2.lJ, rl2.lC]
    refine goN_T bT ?_
    by_cases hbig : 1048576 < ab
    · have rN := refBound_N w2 okJ2 C 1048576 (by decide)
      have e2 : (boundV J C ab).2 = (refBoundV J C 1048576).2 := by rw [boundV_2, refBoundV_2]
      have big := fun hE => bound_big (J := J) (C := C) hab hbig hE
      have z1 : (boundV J C ab).2 ≠ 0 → (boundV J C ab).1 = 0 := by
        intro h
        unfold boundV at h ⊢
        split
        · rfl
        · rename_i h1
          rw [if_neg h1] at h
          split
          · rfl
          · rename_i h2
            rw [if_neg h2] at h
            exact absurd rfl h
      obtain ⟨A, hA⟩ : ∃ x, x = boundV J C ab := ⟨_, rfl⟩
      obtain ⟨B, hB⟩ : ∃ x, x = refBoundV J C 1048576 := ⟨_, rfl⟩
      rw [← hA, ← hB] at e2 big
      rw [← hA] at z1
      rw [← hB] at rN
      rw [← hA]
      obtain ⟨A1, A2⟩ := A
      obtain ⟨B1, B2⟩ := B
      simp only at e2 big z1 rN
      subst e2
      simp [L7t, seqR1, L7, hbig, rl2.lJ, rl2.lC]
      refine goN_of rN ?_
      rintro r G3 ⟨rfl, on3⟩ w3 _ _
      have onG3 := onG2.trans on3
      have aT := alive_T w3
      by_cases h0 : A2 = 0
      · obtain ⟨q1, q2⟩ := big h0
        have h0b : (A2 != 0) = false := by simpa using h0
        by_cases h62 : ab < 4611686018427387904
        · simp [h0, q1, h62]
          refine goN_T aT ?_
          simp
          exact onG3
        · have q3 := q2 (by omega)
          rw [q3] at q1
          simp [h0, q1, h62, q3]
          refine goN_T aT ?_
          simp
          exact onG3
      · have h0b : (A2 != 0) = true := by simpa using h0
        have z := z1 h0
        by_cases h62 : ab < 4611686018427387904
        · simp [h0, h0b, z, h62]
          refine goN_T aT ?_
          simp
          exact onG3
        · simp [h0, h0b, z, h62]
          refine goN_T aT ?_
          simp
          exact onG3
    · have rN := refBound_N w2 okJ2 C ab (by omega)
      rw [← bound_eq hab (by omega)] at rN
      simp [L7t, seqR1, L7, hbig, rl2.lJ, rl2.lC]
      refine goN_of rN ?_
      rintro r G3 ⟨rfl, on3⟩ w3 _ _
      have onG3 := onG2.trans on3
      simp
      refine goN_T (alive_T w3) ?_
      simp
      exact onG3
end Go.Proofs.Ytmdlfenileiaeaa
