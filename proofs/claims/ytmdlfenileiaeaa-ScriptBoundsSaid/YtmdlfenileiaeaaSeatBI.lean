/-
  Chapter 25: Quick, by both; what is too great.
-/
import Derived.Test.YtmdlfenileiaeaaSeatBH
namespace Go.Proofs.Ytmdlfenileiaeaa
open Go.Ot Go.RowKit
open R14 (Twos)
open I8 (In rowI)
set_option linter.unusedSimpArgs false
set_option linter.unusedVariables false
def mnV (a b : Int) : Int := if b < a then b else a
def quickV (J : Jb) (C : Cfg) : Int × Int :=
  if validE J ≠ 0 then (0, validE J) else if rightE C ≠ 0 then (0, rightE C) else
    ((((cntP J.S).1 + mnV C.workers C.window - 1) / mnV C.workers C.window) * (J.fuel + (2 * mnV C.workers C.window + 3)), 0)
theorem boundV_2 (J : Jb) (C : Cfg) (ab : Int) : (boundV J C ab).2 = if validE J ≠ 0 then validE J else rightE C := by
  unfold boundV
  split
  · rfl
  · split
    · rfl
    · rename_i h; simpa using Eq.symm (by simpa using h)
theorem refBoundV_2 (J : Jb) (C : Cfg) (ab : Int) : (refBoundV J C ab).2 = if validE J ≠ 0 then validE J else rightE C := by
  unfold refBoundV
  split
  · rfl
  · split
    · rfl
    · rename_i h; simpa using Eq.symm (by simpa using h)
theorem way_q {n p tm : Int} (hp : 0 < p) : tm * p < n ↔ tm < (n + p - 1) / p := by
  have := Int.le_ediv_iff_mul_le (a := tm + 1) (b := n + p - 1) hp
  rw [Int.add_mul, Int.one_mul] at this
  omega
theorem quick_T {H : Heap} (hw : H.WF) {J : Jb} (ok : JbOk H J) (C : Cfg) : T Try.prog 18 [.agg (jobC J).toArray, .agg (cfgC C).toArray] H (.tuple #[iv (quickV J C).1, iv (quickV J C).2]) H := by
  obtain ⟨V, hV⟩ : ∃ V : Value, V = .tuple #[iv (quickV J C).1, iv (quickV J C).2] := ⟨_, rfl⟩
  rw [← hV]
  refine T_seen hm light18 (by rw [hV]; rfl) ?_
  obtain ⟨G, hG⟩ : ∃ G, G = H.new 50 11 (jobC J) := ⟨_, rfl⟩
  have onG : On H G := by rw [hG]; exact (On.refl hw).new _ _ _
  have vG : Vr G H.next 50 11 (jobC J) := by rw [hG]; exact Vr.mk' hw _ _ _
  have nG : G.next = H.next + 1 := by rw [hG]; simp
  obtain ⟨K, hK⟩ : ∃ K, K = G.new 53 11 (cfgC C) := ⟨_, rfl⟩
  have onK : On H K := by rw [hK]; exact onG.new _ _ _
  have vJ : Vr K H.next 50 11 (jobC J) := by rw [hK]; exact vG.new onG.wf _ _ _
  have vC : Vr K (H.next + 1) 53 11 (cfgC C) := by rw [hK, ← nG]; exact Vr.mk' onG.wf _ _ _
  have okK := ok.on hw onK
  have jl := JL.of vJ
  have c0 : K.load ⟨H.next + 1, 0, none⟩ = some (iv C.workers) := vC.load 0
  have c1 : K.load ⟨H.next + 1, 1, none⟩ = some (iv C.window) := vC.load 1
  have cA : K.loadN ⟨H.next + 1, 0, none⟩ 0 11 = some (cfgC C) := vC.loadA rfl
  have fin := onK.keep
  have bT := bound_T onK.wf okK C 0 (by unfold okW; omega)
  have b2 := boundV_2 J C 0
  obtain ⟨x, hx⟩ : ∃ x, x = (boundV J C 0).1 := ⟨_, rfl⟩
  rw [← hx, b2] at bT
  unfold quickV at hV
  simp [L18, ← hG, ← hK, nG, jl.lA, cA]
  refine goT_of bT ?_
  by_cases hv : validE J = 0
  · rw [if_neg (by simp [hv])] at hV ⊢
    by_cases hr : rightE C = 0
    · rw [if_neg (by simp [hr])] at hV
      obtain ⟨fn, hc0⟩ := fine_of hv hr
      obtain ⟨n0, n200, f1, f4, r0, r9, w1, w8, v1, v32⟩ := fn
      rw [hr]
      simp [jl.lS]
      refine goT_of (count_T onK.wf J.S ok.S) ?_
      have mm : sMM false (iv C.workers) [iv C.window] = some (iv (mnV C.workers C.window)) := by simp [sMM, sMinMax, mnV]
      have hwd : 1 ≤ mnV C.workers C.window ∧ mnV C.workers C.window ≤ 8 := by unfold mnV; split <;> omega
      obtain ⟨wd, hwd'⟩ : ∃ wd, wd = mnV C.workers C.window := ⟨_, rfl⟩
      rw [← hwd'] at mm hwd hV
      obtain ⟨n, hn⟩ : ∃ n, n = (cntP J.S).1 := ⟨_, rfl⟩
      rw [← hn] at n0 n200 hV ⊢
      have a1 : IntKind.i64.wrap (n + wd) = n + wd := w64 _ (by omega)
      have a2 : IntKind.i64.wrap (n + wd - 1) = n + wd - 1 := w64 _ (by omega)
      have qd : (n + wd - 1) / wd ≤ n + wd - 1 := Int.ediv_le_self _ (by omega)
      have qd0 : 0 ≤ (n + wd - 1) / wd := Int.ediv_nonneg (by omega) (by omega)
      have sq : sBin .quo (iv (n + wd - 1)) (iv wd) = some (iv ((n + wd - 1) / wd)) := by
        rw [sBin_quo, if_neg (by omega), Int.tdiv_eq_ediv_of_nonneg (by omega), w64 _ (by omega)]
      obtain ⟨q, hq⟩ : ∃ q, q = (n + wd - 1) / wd := ⟨_, rfl⟩
      rw [← hq] at sq qd qd0 hV
      have m1 : IntKind.i64.wrap (2 * wd) = 2 * wd := w64 _ (by omega)
      have m2 : IntKind.i64.wrap (2 * wd + 3) = 2 * wd + 3 := w64 _ (by omega)
      have pT := plus_T (H := K) J.fuel (2 * wd + 3) (by unfold okW; omega) (by unfold okW; omega)
      rw [plusV_small (by omega) (by omega) (by omega)] at pT
      obtain ⟨s, hs⟩ : ∃ s, s = J.fuel + (2 * wd + 3) := ⟨_, rfl⟩
      rw [← hs] at pT hV
      have tT := timesG_T (H := K) q s (by unfold okW; omega) (by unfold okW; omega)
      have hqs : q * s ≤ 208 * 5000 := Int.mul_le_mul (by omega) (by omega) (by omega) (by omega)
      rw [timesV_small (by omega) (by omega) (by omega)] at tT
      simp [c0, c1, mm, a1, a2, sq, jl.l3, m1, m2]
      refine goT_of pT ?_
      simp [jl.l3]
      refine goT_of tT ?_
      simp [jl.l3, hV]
      exact fin
    · rw [if_pos hr] at hV
      have hrb : (rightE C != 0) = true := by simpa using hr
      simp [hrb, hr, hV]
      exact fin
  · rw [if_pos hv] at hV ⊢
    have hvb : (validE J != 0) = true := by simpa using hv
    simp [hvb, hv, hV]
    exact fin
def InvQk (H : Heap) (q : Int) (p8 : Value) (wd : Int) (P3 : Value) (k : Nat) (t : Tm) (H1 : Heap) : Prop :=
  ∃ i : Nat, (i : Int) + k = q ∧ t 2 = P3 ∧ t 8 = p8 ∧ t 10 = iv wd ∧ t 11 = iv i ∧ H1 = H
def L19t : LCode := seqR1 (seqR1 (seqR1 (seqR1 (seqR1 (seqR1 (seqR1 L19))))))
theorem L19_eq : L19 = .seq (seqL1 L19) (.seq (seqL1 (seqR1 L19)) (.seq (seqL1 (seqR1 (seqR1 L19))) (.seq (seqL1 (seqR1 (seqR1 (seqR1 L19)))) (.seq (seqL1 (seqR1 (seqR1 (seqR1 (seqR1 L19))))) (.seq (seqL1 (seqR1 (seqR1 (seqR1 (seqR1 (seqR1 L19)))))) (.seq (seqL1 (seqR1 (seqR1 (seqR1 (seqR1 (seqR1 (seqR1 L19))))))) L19t)))))) := rfl
theorem refQuick_N {H : Heap} (hw : H.WF) {J : Jb} (ok : JbOk H J) (C : Cfg) : TN Try.prog 19 [.agg (jobC J).toArray, .agg (cfgC C).toArray] H (fun o H' => o = .ret (.tuple #[iv (quickV J C).1, iv (quickV J C).2]) ∧ On H H') := by
  refine N_by hm light19 ?_
  obtain ⟨V, hV⟩ : ∃ V : Value, V = .tuple #[iv (quickV J C).1, iv (quickV J C).2] := ⟨_, rfl⟩
  rw [← hV]
  obtain ⟨G, hG⟩ : ∃ G, G = H.new 50 11 (jobC J) := ⟨_, rfl⟩
  have onG : On H G := by rw [hG]; exact (On.refl hw).new _ _ _
  have vG : Vr G H.next 50 11 (jobC J) := by rw [hG]; exact Vr.mk' hw _ _ _
  have nG : G.next = H.next + 1 := by rw [hG]; simp
  obtain ⟨K, hK⟩ : ∃ K, K = G.new 53 11 (cfgC C) := ⟨_, rfl⟩
  have onK : On H K := by rw [hK]; exact onG.new _ _ _
  have vJ : Vr K H.next 50 11 (jobC J) := by rw [hK]; exact vG.new onG.wf _ _ _
  have vC : Vr K (H.next + 1) 53 11 (cfgC C) := by rw [hK, ← nG]; exact Vr.mk' onG.wf _ _ _
  have okK := ok.on hw onK
  have jl := JL.of vJ
  have cA : K.loadN ⟨H.next + 1, 0, none⟩ 0 11 = some (cfgC C) := vC.loadA rfl
  have bN := refBound_N onK.wf okK C 0 (by decide)
  have b2 := refBoundV_2 J C 0
  obtain ⟨x, hx⟩ : ∃ x, x = (refBoundV J C 0).1 := ⟨_, rfl⟩
  rw [← hx, b2] at bN
  unfold quickV at hV
  rw [L19_eq]
  simp [L19, seqL1, seqR1, ← hG, ← hK, nG, jl.lA, cA]
  refine goN_of bN ?_
  rintro r H1 ⟨rfl, on1⟩ w1' _ _
  have onH1 := onK.trans on1
  have jl1 := JL.of (vJ.on onK.wf on1)
  by_cases hv : validE J = 0
  · rw [if_neg (by simp [hv])] at hV
    by_cases hr : rightE C = 0
    · rw [if_neg (by simp [hr])] at hV
      obtain ⟨fn, hc0⟩ := fine_of hv hr
      obtain ⟨n0, n200, f1, f4, r0, r9, w1, w8, v1, v32⟩ := fn
      simp [hv, hr, jl1.lS]
      refine goN_of (tasks_N w1' J.S ok.S) ?_
      rintro r H2 ⟨y, m, cells, rfl, row2, hm2⟩ w2 _ _
      have on2 := on1.trans row2.on
      have onH2 := onK.trans on2
      have jl2 := JL.of (vJ.on onK.wf on2)
      have vC2 := vC.on onK.wf on2
      have c0 : H2.load ⟨H.next + 1, 0, none⟩ = some (iv C.workers) := vC2.load 0
      have c1 : H2.load ⟨H.next + 1, 1, none⟩ = some (iv C.window) := vC2.load 1
      obtain ⟨ay, hy⟩ := row2.own.len
      have hnt : notTup y = true := by rw [hy]; rfl
      have hwd : 1 ≤ mnV C.workers C.window ∧ mnV C.workers C.window ≤ 8 := by unfold mnV; split <;> omega
      obtain ⟨wd, hwd'⟩ : ∃ wd, wd = mnV C.workers C.window := ⟨_, rfl⟩
      rw [← hwd'] at hwd hV
      rw [← hm2] at n0 n200 hV
      have qd : ((m : Int) + wd - 1) / wd ≤ (m : Int) + wd - 1 := Int.ediv_le_self _ (by omega)
      have qd0 : 0 ≤ ((m : Int) + wd - 1) / wd := Int.ediv_nonneg (by omega) (by omega)
      have wq : ∀ tm : Int, tm * wd < (m : Int) ↔ tm < ((m : Int) + wd - 1) / wd := fun tm => way_q (by omega)
      obtain ⟨q, hq⟩ : ∃ q, q = ((m : Int) + wd - 1) / wd := ⟨_, rfl⟩
      rw [← hq] at qd qd0 hV
      simp only [← hq] at wq
      have tail : ∀ tt : Tm, tt 2 = ptr H.next → tt 8 = y → tt 10 = iv wd → tt 11 = iv 0 → wpN Try.prog L19t (EndN (fun o H' => o = .ret V ∧ On H H') [.tmp 4, .tmp 5]) tt (rdy H2) := by
        intro tt u2 u8 u10 u11
        simp [L19t, seqR1, L19]
        refine loopN_at (InvQk H2 q y wd (ptr H.next)) q.toNat ?_ ?_
        · exact ⟨0, by omega, u2, u8, u10, u11, rfl⟩
        · rintro k t H3 ⟨i, hik, t2, t8, t10, t11, rfl⟩
          have hprod := wq (i : Int)
          have ib : (i : Int) * wd ≤ 208 * 8 := Int.mul_le_mul (by omega) (by omega) (by omega) (by omega)
          have ib0 : 0 ≤ (i : Int) * wd := Int.mul_nonneg (by omega) (by omega)
          obtain ⟨pr, hpr⟩ : ∃ pr, pr = (i : Int) * wd := ⟨_, rfl⟩
          rw [← hpr] at hprod ib ib0
          have wi : IntKind.i64.wrap ((i : Int) * wd) = pr := by rw [← hpr, w64 _ (by omega)]
          have t8' := t8
          rw [hy] at t8
          cases k with
          | zero =>
            have e1 : ¬ pr < (m : Int) := by rw [hprod]; omega
            have eiq : (i : Int) = q := by omega
            have m1 : IntKind.i64.wrap (2 * wd) = 2 * wd := w64 _ (by omega)
            have a1 : IntKind.i64.wrap (J.fuel + 2 * wd) = J.fuel + 2 * wd := w64 _ (by omega)
            have a2 : IntKind.i64.wrap (J.fuel + 2 * wd + 3) = J.fuel + (2 * wd + 3) := by rw [w64 _ (by omega)]; omega
            obtain ⟨s, hs⟩ : ∃ s, s = J.fuel + (2 * wd + 3) := ⟨_, rfl⟩
            rw [← hs] at a2 hV
            have hqs : q * s ≤ 208 * 5000 := Int.mul_le_mul (by omega) (by omega) (by omega) (by omega)
            have hqs0 : 0 ≤ q * s := Int.mul_nonneg (by omega) (by omega)
            have wf : IntKind.i64.wrap (q * s) = q * s := w64 _ (by omega)
            rw [eiq] at t11 wi
            simp [L19_1, t11, t10, wi, t8, e1, t2, jl2.l3, m1, a1, a2, wf, hV]
            exact onH2
          | succ k =>
            have e1 : pr < (m : Int) := by rw [hprod]; omega
            have e4 : IntKind.i64.wrap ((i : Int) + 1) = ((i + 1 : Nat) : Int) := by rw [w64 _ (by omega)]; omega
            obtain ⟨iN, hiN⟩ : ∃ n : Nat, n = i + 1 := ⟨_, rfl⟩
            rw [← hiN] at e4
            simp [L19_1, t11, t10, wi, t8, e1, e4]
            exact ⟨k, by omega, iN, by omega, by simp [t2], by simp [t8', hy], by simp [t10], by simp, rfl⟩
      by_cases hlt : C.window < C.workers
      · have e0 : wd = C.window := by rw [hwd']; unfold mnV; rw [if_pos hlt]
        rw [e0] at tail
        simp [hnt, c0, c1, hlt]
        exact tail _ (by simp) (by simp) (by simp) (by simp)
      · have e0 : wd = C.workers := by rw [hwd']; unfold mnV; rw [if_neg hlt]
        rw [e0] at tail
        simp [hnt, c0, c1, hlt]
        exact tail _ (by simp) (by simp) (by simp) (by simp)
    · rw [if_pos hr] at hV
      have hrb : (rightE C != 0) = true := by simpa using hr
      simp [hv, hrb, hr, hV]
      exact onH1
  · rw [if_pos hv] at hV
    have hvb : (validE J != 0) = true := by simpa using hv
    simp [hvb, hv, hV]
    exact onH1
end Go.Proofs.Ytmdlfenileiaeaa
