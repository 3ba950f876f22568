/-
  Chapter 19: the document's Meet; the law.
-/
import Derived.Test.YtimaohinaobfnaaSeatD
namespace Go.Proofs.Ytimaohinaobfnaa
open Go.Ot
set_option linter.unusedSimpArgs false
set_option linter.unusedVariables false
theorem far_inB {H : Heap} (a : Int) : T Try.prog 17 [iv a, iv 1048576] H (.bool (!decide (inB a))) H := by
  have h := far_T (H := H) (a := a) (b := 1048576) (by omega)
  have e : decide ((1048576 : Int) < a ∨ a < -1048576) = !decide (inB a) := by
    unfold inB
    by_cases h : -1048576 ≤ a ∧ a ≤ 1048576
    · simp [h]
    · simp only [h, decide_false, Bool.not_false, decide_eq_true_eq]; omega
  rw [e] at h
  exact h
def Fr (a x b y n : Int) (t : Tm) : Prop := t 0 = iv a ∧ t 1 = iv x ∧ t 2 = iv b ∧ t 3 = iv y ∧ t 4 = iv n
def Inv61 (H : Heap) (a x b y n p : Int) (k : Nat) (t : Tm) (H1 : Heap) : Prop :=
  ∃ q : Int, (n - q).toNat = k ∧ 0 ≤ q ∧ t 12 = iv q ∧ t 11 = iv p ∧ Fr a x b y n t ∧ H = H1 ∧ ∀ q', 0 ≤ q' → q' < q → q' < n → ¬ (p ≠ q' ∧ a + p * x = b + q' * y)
theorem inner_L {H : Heap} {a x b y n p : Int} (hb : inB a ∧ inB x ∧ inB b ∧ inB y) (hn : n ≤ 200) (hp : 0 ≤ p ∧ p < n) {t : Tm} {Q : Post} (h12 : t 12 = iv 0) (h11 : t 11 = iv p) (hF : Fr a x b y n t)
    (Qe : ∀ t2, t2 11 = iv p → Fr a x b y n t2 → ¬ sol a x b y n p → Q (.exit 2) t2 (rdy H)) (Qr : ∀ t2, t2 10 = .bool true → meets a x b y n → Q .ret t2 (rdy H)) : wpA Try.prog (.loop L6_1) Q t (rdy H) := by
  obtain ⟨ba, bx, bb, by'⟩ := hb
  simp only [inB] at ba bx bb by'
  refine loop_at (Inv61 H a x b y n p) (n - 0).toNat ?_ ?_
  · exact ⟨0, rfl, by omega, h12, h11, hF, rfl, fun q' h1 h2 => by omega⟩
  · rintro k t2 H1 ⟨q, hk, hq0, t12, t11, ⟨t0, t1, t2', t3, t4⟩, rfl, hno⟩
    by_cases hqn : q < n
    · have hpx := mulB (show p.natAbs ≤ 200 by omega) (show x.natAbs ≤ 1048576 by omega)
      have hqy := mulB (show q.natAbs ≤ 200 by omega) (show y.natAbs ≤ 1048576 by omega)
      have v1 : IntKind.i64.wrap (p * x) = p * x := w64 _ (by omega)
      have v2 : IntKind.i64.wrap (a + p * x) = a + p * x := w64 _ (by omega)
      have v3 : IntKind.i64.wrap (q * y) = q * y := w64 _ (by omega)
      have v4 : IntKind.i64.wrap (b + q * y) = b + q * y := w64 _ (by omega)
      have v5 : IntKind.i64.wrap (q + 1) = q + 1 := w64 _ (by omega)
      have fin : ¬ (p ≠ q ∧ a + p * x = b + q * y) → ∀ t3 : Tm, t3 12 = iv (q + 1) → t3 11 = iv p → Fr a x b y n t3 → ∃ m, m < k ∧ Inv61 H a x b y n p m t3 H := by
        intro hno2 t3 e12 e11 eF
        refine ⟨(n - (q + 1)).toNat, by omega, q + 1, rfl, by omega, e12, e11, eF, rfl, fun q' h1 h2 h3 => ?_⟩
        by_cases h : q' = q
        · subst h; exact hno2
        · exact hno q' h1 (by omega) h3
      by_cases hpq : p = q
      · have hpq' : (p != q) = false := by simp [hpq]
        simp [L6_1, t12, t11, t0, t1, t2', t3, t4, hqn, hpq', v5]
        refine fin (fun h => h.1 hpq) _ ?_ ?_ ⟨?_, ?_, ?_, ?_, ?_⟩ <;> simp [t11, t0, t1, t2', t3, t4]
      · have hpq' : (p != q) = true := by simp [hpq]
        by_cases he : a + p * x = b + q * y
        · simp [L6_1, t12, t11, t0, t1, t2', t3, t4, hqn, hpq', v1, v2, v3, v4, he]
          refine Qr _ ?_ ⟨p, q, hp.1, hp.2, hq0, hqn, hpq, he⟩
          simp
        · have he' : (a + p * x == b + q * y) = false := by simp [he]
          simp [L6_1, t12, t11, t0, t1, t2', t3, t4, hqn, hpq', v1, v2, v3, v4, he', v5]
          refine fin (fun h => he h.2) _ ?_ ?_ ⟨?_, ?_, ?_, ?_, ?_⟩ <;> simp [t11, t0, t1, t2', t3, t4]
    · simp [L6_1, t12, t4, hqn]
      refine Qe _ ?_ ⟨?_, ?_, ?_, ?_, ?_⟩ ?_
      any_goals (simp [t11, t0, t1, t2', t3, t4]; done)
      rintro ⟨q', h1, h2, h3, h4⟩
      exact hno q' h1 (by omega) h2 ⟨h3, h4⟩
def Inv62 (H : Heap) (a x b y n : Int) (k : Nat) (t : Tm) (H1 : Heap) : Prop :=
  ∃ p : Int, (n - p).toNat = k ∧ 0 ≤ p ∧ t 11 = iv p ∧ Fr a x b y n t ∧ H = H1 ∧ ∀ p', 0 ≤ p' → p' < p → p' < n → ¬ sol a x b y n p'
theorem refMeet_T {H : Heap} {a x b y n : Int} : T Try.prog 6 [iv a, iv x, iv b, iv y, iv n] H (.bool (meetF a x b y n)) H := by
  refine T_eq hm light6 ?_
  simp [L6]
  refine goT_of (far_inB a) ?_
  by_cases ba : inB a
  case neg =>
    rw [meetF_far (fun h => ba h.1.1)]
    simp [ba]
  simp [ba]
  refine goT_of (far_inB x) ?_
  by_cases bx : inB x
  case neg =>
    rw [meetF_far (fun h => bx h.1.2.1)]
    simp [bx]
  simp [bx]
  refine goT_of (far_inB b) ?_
  by_cases bb : inB b
  case neg =>
    rw [meetF_far (fun h => bb h.1.2.2.1)]
    simp [bb]
  simp [bb]
  refine goT_of (far_inB y) ?_
  by_cases by' : inB y
  case neg =>
    rw [meetF_far (fun h => by' h.1.2.2.2)]
    simp [by']
  by_cases hn : 200 < n
  · rw [meetF_far (fun h => by have := h.2; omega)]
    simp [by', hn]
  rw [meetF_near ⟨⟨ba, bx, bb, by'⟩, by omega⟩]
  simp [by', hn]
  refine loop_at (Inv62 H a x b y n) (n - 0).toNat ?_ ?_
  · exact ⟨0, rfl, by omega, by simp, ⟨by simp, by simp, by simp, by simp, by simp⟩, rfl, fun q' h1 h2 => by omega⟩
  · rintro k t2 H1 ⟨p, hk, hp0, t11, ⟨t0, t1, t2', t3, t4⟩, rfl, hno⟩
    by_cases hpn : p < n
    · have v5 : IntKind.i64.wrap (p + 1) = p + 1 := w64 _ (by omega)
      simp [L6_2, t11, t4, hpn]
      refine inner_L ⟨ba, bx, bb, by'⟩ (by omega) ⟨hp0, hpn⟩ (by simp) (by simp [t11]) ⟨by simp [t0], by simp [t1], by simp [t2'], by simp [t3], by simp [t4]⟩ (fun t9 g11 gF gs => ?_) (fun t9 g10 gm => ?_)
      · obtain ⟨f0, f1, f2, f3, f4⟩ := gF
        simp [g11, v5]
        refine ⟨(n - (p + 1)).toNat, by omega, p + 1, rfl, by omega, by simp, ⟨by simp [f0], by simp [f1], by simp [f2], by simp [f3], by simp [f4]⟩, rfl, fun p' h1 h2 h3 => ?_⟩
        by_cases h : p' = p
        · subst h; exact gs
        · exact hno p' h1 (by omega) h3
      · simp [g10, meetB_true gm]
    · have : meetB a x b y n = false := meetB_false (fun ⟨p', q', h1, h2, h3, h4, h5, h6⟩ => hno p' h1 (by omega) h2 ⟨q', h3, h4, h5, h6⟩)
      simp [L6_2, t11, t4, hpn, this]
theorem meetF_swap (a x b y n : Int) : meetF a x b y n = meetF b y a x n := by
  by_cases h : (inB a ∧ inB x ∧ inB b ∧ inB y) ∧ n ≤ 200
  · rw [meetF_near h, meetF_near ⟨⟨h.1.2.2.1, h.1.2.2.2, h.1.1, h.1.2.1⟩, h.2⟩, meetB_swap]
  · rw [meetF_far h, meetF_far (fun h2 => h ⟨⟨h2.1.2.2.1, h2.1.2.2.2, h2.1.1, h2.1.2.1⟩, h2.2⟩)]
theorem meetsLaw_T {H : Heap} (hw : H.WF) (a x b y n : Int) : ∃ v H', T Try.prog 3 [.agg #[iv a, iv x, iv b, iv y, iv n]] H v H' ∧ v = .bool true := by
  refine T_by hm light3 ?_
  obtain ⟨H1, hH1⟩ : ∃ H1, H1 = H.new 23 5 [iv a, iv x, iv b, iv y, iv n] := ⟨_, rfl⟩
  have w1 : H1.WF := by rw [hH1]; exact WF_new hw _ _ _
  have ld : ∀ j, H1.load ⟨H.next, j, none⟩ = [iv a, iv x, iv b, iv y, iv n][j]? := fun j => by rw [hH1]; exact new_load hw 23 5 _ j
  have ld0 := ld 0
  have ld1 := ld 1
  have ld2 := ld 2
  have ld3 := ld 3
  have ld4 := ld 4
  have ms := meetF_swap a x b y n
  simp [L3]
  rw [← hH1]
  simp [ld0, ld1, ld2, ld3, ld4]
  refine goT_of (meet_T w1) ?_
  simp [ld0, ld1, ld2, ld3, ld4]
  refine goT_of refMeet_T ?_
  simp [ld0, ld1, ld2, ld3, ld4]
  refine goT_of (meet_T w1) ?_
  simp [ld0, ld1, ld2, ld3, ld4]
  refine goT_of (meet_T w1) ?_
  simp [ld0, ld1, ld2, ld3, ld4, ms]
  refine goT_of (alive_T H1) ?_
  simp
theorem c1_2 : Try.prog.cellsOf 2 = 1 := by kernel_rfl
theorem c5_23 : Try.prog.cellsOf 23 = 5 := by kernel_rfl
theorem c1_3 : Try.prog.cellsOf 3 = 1 := by kernel_rfl
set_option maxRecDepth 100000 in
theorem meets_U {H : Heap} (hw : H.WF) {cs : List Value} (h : Rd Try.prog H 3 23 cs) : ∃ v H', T Try.prog 3 [.agg cs.toArray] H v H' ∧ v = .bool true := by
  have hl : cs.length = 5 := (rd_len Try.underlying23 h).trans c5_23
  match cs, hl with
  | [w0, w1, w2, w3, w4], _ =>
    have f0 := rd_field Try.underlying23 h 0 rfl c1_2
    have f1 := rd_field Try.underlying23 h 1 rfl c1_2
    have f2 := rd_field Try.underlying23 h 2 rfl c1_2
    have f3 := rd_field Try.underlying23 h 3 rfl c1_2
    have f4 := rd_field Try.underlying23 h 4 rfl c1_3
    obtain ⟨a, e0, _⟩ := rd_int Try.underlying2 f0
    obtain ⟨x, e1, _⟩ := rd_int Try.underlying2 f1
    obtain ⟨b, e2, _⟩ := rd_int Try.underlying2 f2
    obtain ⟨y, e3, _⟩ := rd_int Try.underlying2 f3
    obtain ⟨n, e4, _⟩ := rd_int Try.underlying3 f4
    simp at e0 e1 e2 e3 e4
    subst e0 e1 e2 e3 e4
    exact meetsLaw_T hw a x b y n
end Go.Proofs.Ytimaohinaobfnaa
