/-
  Chapter 21: the law of what an age reads, its second loop.
-/
import Derived.Test.YthclcdboialfnaaSeatS
namespace Go.Proofs.Ythclcdboialfnaa
open Go.Ot Go.RowKit
set_option linter.unusedSimpArgs false
set_option linter.unusedVariables false
def InvR3 (HB : Heap) (x : Value) (l : List Cl) (a : Nat) (age : Int) (p q i : Nat) (bst vl : Int) (f : Bool) (g : Int) (k : Nat) (t : Tm) (H1 : Heap) : Prop :=
  ∃ j gn, j + k = l.length ∧ i < j ∧ t 0 = x ∧ t 1 = iv a ∧ t 2 = iv age ∧ t 7 = ptr p ∧ t 9 = iv bst ∧ t 10 = iv vl ∧ t 11 = .bool f ∧ t 14 = iv i ∧ t 15 = ptr q ∧ t 16 = .bool gn ∧ t 17 = iv j ∧
    On HB H1 ∧ (gn = true ↔ ∃ m, i < m ∧ m < j ∧ kills (l.getD m default) a g)
theorem round3 {HB : Heap} (hw : HB.WF) {x : Value} {l : List Cl} (hx : Rc HB x l) (hl : l.length ≤ 120) {a : Nat} {age : Int} {p q i : Nat} {bst vl : Int} {f : Bool} {o : Cl} (vq : Vr HB q 28 4 (orow o)) {Q : Post}
    (hQ : ∀ t H1, InvR3 HB x l a age p q i bst vl f o.g 0 t H1 → Q .normal t (rdy H1))
    (k : Nat) (t : Tm) (H1 : Heap) (h : InvR3 HB x l a age p q i bst vl f o.g k t H1) : wpN Try.prog L3_2 (thenA (fun t' H' => ∃ m, m < k ∧ InvR3 HB x l a age p q i bst vl f o.g m t' H') (blockA 4 Q)) t (rdy H1) := by
  obtain ⟨j, gn, hik, hij, t0, t1, t2, t7, t9, t10, t11, t14, t15, t16, t17, on, hg⟩ := h
  obtain ⟨ax, cx, hxl⟩ := hx.len
  have t0' := t0
  rw [hxl] at t0'
  cases k with
  | zero =>
    have e0 : j = l.length := by omega
    simp [L3_2, t0', t17, e0]
    exact hQ _ _ ⟨j, gn, by omega, hij, by simp [t0], by simp [t1], by simp [t2], by simp [t7], by simp [t9], by simp [t10], by simp [t11], by simp [t14], by simp [t15], by simp [t16], by simp [t17, e0], on, hg⟩
  | succ k =>
    have hi : j < l.length := by omega
    have hiI : (j : Int) < (l.length : Int) := by omega
    obtain ⟨b, off, c, hxb, ld⟩ := (hx.on hw on).get hi
    obtain ⟨y, hy⟩ : ∃ y, y = l[j] := ⟨_, rfl⟩
    rw [← hy] at ld
    have t0' := t0.trans hxb
    have stn := new_storeA on.wf 28 4 [iv 0, iv 0, iv 0, iv 0] (orow y) rfl rfl (by decide)
    have vq1 := vq.on hw on
    obtain ⟨HA, hHA⟩ : ∃ HA, HA = H1.new 28 4 (orow y) := ⟨_, rfl⟩
    have onA : On H1 HA := by rw [hHA]; exact (On.refl on.wf).new _ _ _
    have vA : Vr HA H1.next 28 4 (orow y) := by rw [hHA]; exact Vr.mk' on.wf _ _ _
    rw [← hHA] at stn
    have onHA := on.trans onA
    have vqA := vq1.on on.wf onA
    have d0 : HA.load ⟨H1.next, 0, none⟩ = some (iv y.k) := vA.load 0
    have d1 : HA.load ⟨H1.next, 1, none⟩ = some (iv y.w) := vA.load 1
    have d2 : HA.load ⟨H1.next, 2, none⟩ = some (iv y.g) := vA.load 2
    have f2 : HA.load ⟨q, 2, none⟩ = some (iv o.g) := vqA.load 2
    obtain ⟨kv, kT, kk, rfl, hkk⟩ := kind_T (H := HA) y.k
    have w1 : IntKind.i64.wrap ((j : Int) + 1) = ((j + 1 : Nat) : Int) := by rw [w64 _ (by omega)]; omega
    have hyd : l.getD j default = y := by simp [List.getD, hi, hy]
    have fin : ∀ (t' : Tm) (gn' : Bool), t' 0 = x → t' 1 = iv a → t' 2 = iv age → t' 7 = ptr p → t' 9 = iv bst → t' 10 = iv vl → t' 11 = .bool f → t' 14 = iv i → t' 15 = ptr q → t' 16 = .bool gn' → t' 17 = iv ((j + 1 : Nat) : Int) → (gn' = true ↔ gn = true ∨ kills y a o.g) → ∃ m, m < k + 1 ∧ InvR3 HB x l a age p q i bst vl f o.g m t' HA := by
      intro t' gn' q0 q1 q2 q7 q9 q10 q11 q14 q15 q16 q17 hgn
      refine ⟨k, by omega, j + 1, gn', by omega, by omega, q0, q1, q2, q7, q9, q10, q11, q14, q15, q16, q17, onHA, ?_⟩
      rw [hgn, hg]
      constructor
      · rintro (⟨m, h1, h2, h3⟩ | h)
        · exact ⟨m, h1, by omega, h3⟩
        · exact ⟨j, hij, by omega, by rw [hyd]; exact h⟩
      · rintro ⟨m, h1, h2, h3⟩
        by_cases e : m = j
        · rw [e, hyd] at h3; exact .inr h3
        · exact .inl ⟨m, h1, by omega, h3⟩
    cases gn with
    | true =>
      simp [L3_2, t0', t17, hi, hiI, ld, stn, t16, w1]
      exact fin _ true (by simp [t0]) (by simp [t1]) (by simp [t2]) (by simp [t7]) (by simp [t9]) (by simp [t10]) (by simp [t11]) (by simp [t14]) (by simp [t15]) (by simp) (by simp) (by simp)
    | false =>
      by_cases ag : y.g = o.g
      · by_cases c6 : kk = 6
        · simp [L3_2, t0', t17, hi, hiI, ld, stn, t16, w1, d2, t15, f2, ag, d0]
          refine goN_T kT ?_
          simp [c6, w1, t17]
          exact fin _ true (by simp [t0]) (by simp [t1]) (by simp [t2]) (by simp [t7]) (by simp [t9]) (by simp [t10]) (by simp [t11]) (by simp [t14]) (by simp [t15]) (by simp) (by simp) (by simp; exact ⟨ag, .inl (by omega)⟩)
        · have n6 : (kk == 6) = false := by simp; omega
          by_cases c5 : kk = 5
          · by_cases wa : y.w = a
            · simp [L3_2, t0', t17, hi, hiI, ld, stn, t16, w1, d2, t15, f2, ag, d0]
              refine goN_T kT ?_
              simp [n6, d0]
              refine goN_T kT ?_
              simp [c5, d1, t1, wa, w1, t17]
              exact fin _ true (by simp [t0]) (by simp [t1]) (by simp [t2]) (by simp [t7]) (by simp [t9]) (by simp [t10]) (by simp [t11]) (by simp [t14]) (by simp [t15]) (by simp) (by simp) (by simp; exact ⟨ag, .inr ⟨by omega, wa⟩⟩)
            · have nwa : (y.w == (a : Int)) = false := by simp; exact wa
              simp [L3_2, t0', t17, hi, hiI, ld, stn, t16, w1, d2, t15, f2, ag, d0]
              refine goN_T kT ?_
              simp [n6, d0]
              refine goN_T kT ?_
              simp [c5, d1, t1, nwa, w1, t17]
              exact fin _ false (by simp [t0]) (by simp [t1]) (by simp [t2]) (by simp [t7]) (by simp [t9]) (by simp [t10]) (by simp [t11]) (by simp [t14]) (by simp [t15]) (by simp) (by simp) (by simp; intro hk; unfold kills at hk; omega)
          · have n5 : (kk == 5) = false := by simp; omega
            simp [L3_2, t0', t17, hi, hiI, ld, stn, t16, w1, d2, t15, f2, ag, d0]
            refine goN_T kT ?_
            simp [n6, d0]
            refine goN_T kT ?_
            simp [n5, w1, t17]
            exact fin _ false (by simp [t0]) (by simp [t1]) (by simp [t2]) (by simp [t7]) (by simp [t9]) (by simp [t10]) (by simp [t11]) (by simp [t14]) (by simp [t15]) (by simp) (by simp) (by simp; intro hk; unfold kills at hk; omega)
      · have nag : (y.g == o.g) = false := by simp; exact ag
        simp [L3_2, t0', t17, hi, hiI, ld, stn, t16, w1, d2, t15, f2, nag]
        exact fin _ false (by simp [t0]) (by simp [t1]) (by simp [t2]) (by simp [t7]) (by simp [t9]) (by simp [t10]) (by simp [t11]) (by simp [t14]) (by simp [t15]) (by simp) (by simp) (by simp; intro hk; unfold kills at hk; omega)
def InvR2 (HB : Heap) (x : Value) (l : List Cl) (a : Nat) (age : Int) (p : Nat) (k : Nat) (t : Tm) (H1 : Heap) : Prop :=
  ∃ i bst vl f, i + k = l.length ∧ t 0 = x ∧ t 1 = iv a ∧ t 2 = iv age ∧ t 7 = ptr p ∧ t 9 = iv bst ∧ t 10 = iv vl ∧ t 11 = .bool f ∧ t 14 = iv i ∧ On HB H1 ∧ Best l a age i bst vl f
theorem round2 {HB : Heap} (hw : HB.WF) {x : Value} {l : List Cl} (hx : Rc HB x l) (hl : l.length ≤ 120) {a : Nat} {age : Int} {p : Nat} {Q : Post}
    (hQ : ∀ t H1, InvR2 HB x l a age p 0 t H1 → Q .normal t (rdy H1))
    (k : Nat) (t : Tm) (H1 : Heap) (h : InvR2 HB x l a age p k t H1) : wpN Try.prog L3_3 (thenA (fun t' H' => ∃ m, m < k ∧ InvR2 HB x l a age p m t' H') (blockA 2 Q)) t (rdy H1) := by
  obtain ⟨i, bst, vl, f, hik, t0, t1, t2, t7, t9, t10, t11, t14, on, hB⟩ := h
  obtain ⟨ax, cx, hxl⟩ := hx.len
  have t0' := t0
  rw [hxl] at t0'
  cases k with
  | zero =>
    have e0 : i = l.length := by omega
    simp [L3_3, t0', t14, e0]
    exact hQ _ _ ⟨i, bst, vl, f, by omega, by simp [t0], by simp [t1], by simp [t2], by simp [t7], by simp [t9], by simp [t10], by simp [t11], by simp [t14, e0], on, hB⟩
  | succ k =>
    have hi : i < l.length := by omega
    have hiI : (i : Int) < (l.length : Int) := by omega
    obtain ⟨b, off, c, hxb, ld⟩ := (hx.on hw on).get hi
    obtain ⟨y, hy⟩ : ∃ y, y = l[i] := ⟨_, rfl⟩
    rw [← hy] at ld
    have t0' := t0.trans hxb
    have stn := new_storeA on.wf 28 4 [iv 0, iv 0, iv 0, iv 0] (orow y) rfl rfl (by decide)
    obtain ⟨HA, hHA⟩ : ∃ HA, HA = H1.new 28 4 (orow y) := ⟨_, rfl⟩
    have onA : On H1 HA := by rw [hHA]; exact (On.refl on.wf).new _ _ _
    have vA : Vr HA H1.next 28 4 (orow y) := by rw [hHA]; exact Vr.mk' on.wf _ _ _
    rw [← hHA] at stn
    have onHA := on.trans onA
    have d0 : HA.load ⟨H1.next, 0, none⟩ = some (iv y.k) := vA.load 0
    have d1 : HA.load ⟨H1.next, 1, none⟩ = some (iv y.w) := vA.load 1
    have d2 : HA.load ⟨H1.next, 2, none⟩ = some (iv y.g) := vA.load 2
    obtain ⟨kv, kT, kk, rfl, hkk⟩ := kind_T (H := HA) y.k
    have w1 : IntKind.i64.wrap ((i : Int) + 1) = ((i + 1 : Nat) : Int) := by rw [w64 _ (by omega)]; omega
    have hyd : l.getD i default = y := by simp [List.getD, hi, hy]
    have fin : ∀ (t' : Tm) (H2 : Heap) (b' v' : Int) (f' : Bool), t' 0 = x → t' 1 = iv a → t' 2 = iv age → t' 7 = ptr p → t' 9 = iv b' → t' 10 = iv v' → t' 11 = .bool f' → t' 14 = iv ((i + 1 : Nat) : Int) → On HA H2 → Best l a age (i + 1) b' v' f' → ∃ m, m < k + 1 ∧ InvR2 HB x l a age p m t' H2 :=
      fun t' H2 b' v' f' q0 q1 q2 q7 q9 q10 q11 q14 o2 hb => ⟨k, by omega, i + 1, b', v', f', by omega, q0, q1, q2, q7, q9, q10, q11, q14, onHA.trans o2, hb⟩
    by_cases c3 : 3 ≤ kk
    · simp [L3_3, t0', t14, hi, hiI, ld, stn, d0]
      refine goN_T kT ?_
      simp [c3, t14, w1]
      exact fin _ _ bst vl f (by simp [t0]) (by simp [t1]) (by simp [t2]) (by simp [t7]) (by simp [t9]) (by simp [t10]) (by simp [t11]) (by simp) (On.refl onA.wf) (hB.skip (.inl fun hl => by have := hl.1; rw [hyd] at this; omega))
    by_cases ca : y.w = a
    case neg =>
      have nca : (y.w != (a : Int)) = true := by simp; exact ca
      simp [L3_3, t0', t14, hi, hiI, ld, stn, d0]
      refine goN_T kT ?_
      simp [c3, d1, t1, nca, t14, w1]
      exact fin _ _ bst vl f (by simp [t0]) (by simp [t1]) (by simp [t2]) (by simp [t7]) (by simp [t9]) (by simp [t10]) (by simp [t11]) (by simp) (On.refl onA.wf) (hB.skip (.inl fun hl => by have := hl.2.1; rw [hyd] at this; exact ca this))
    have nca : (y.w != (a : Int)) = false := by simp [ca]
    by_cases c0 : y.g < 0
    · simp [L3_3, t0', t14, hi, hiI, ld, stn, d0]
      refine goN_T kT ?_
      simp [c3, d1, t1, nca, d2, c0, t14, w1]
      exact fin _ _ bst vl f (by simp [t0]) (by simp [t1]) (by simp [t2]) (by simp [t7]) (by simp [t9]) (by simp [t10]) (by simp [t11]) (by simp) (On.refl onA.wf) (hB.skip (.inl fun hl => by have := hl.2.2.1; rw [hyd] at this; omega))
    by_cases cg : age ≤ y.g
    · simp [L3_3, t0', t14, hi, hiI, ld, stn, d0]
      refine goN_T kT ?_
      simp [c3, d1, t1, nca, d2, c0, t2, cg, t14, w1]
      exact fin _ _ bst vl f (by simp [t0]) (by simp [t1]) (by simp [t2]) (by simp [t7]) (by simp [t9]) (by simp [t10]) (by simp [t11]) (by simp) (On.refl onA.wf) (hB.skip (.inl fun hl => by have := hl.2.2.2.1; rw [hyd] at this; omega))
    by_cases cf : f = true ∧ y.g < bst
    · obtain ⟨cf1, cf2⟩ := cf
      rw [cf1] at t11 hB
      simp [L3_3, t0', t14, hi, hiI, ld, stn, d0]
      refine goN_T kT ?_
      simp [c3, d1, t1, nca, d2, c0, t2, cg, t11, t9, cf2, t14, w1]
      exact fin _ _ bst vl true (by simp [t0]) (by simp [t1]) (by simp [t2]) (by simp [t7]) (by simp [t9]) (by simp [t10]) (by simp [t11]) (by simp) (On.refl onA.wf) (hB.skip (.inr ⟨rfl, by rw [hyd]; exact cf2⟩))
    have hxA := hx.on hw onHA
    have i3 : ∀ t1' : Tm, t1' 0 = x → t1' 1 = iv a → t1' 2 = iv age → t1' 7 = ptr p → t1' 9 = iv bst → t1' 10 = iv vl → t1' 11 = .bool f → t1' 14 = iv i → t1' 15 = ptr H1.next → t1' 16 = .bool false → t1' 17 = iv ((i + 1 : Nat) : Int) → InvR3 HA x l a age p H1.next i bst vl f y.g (l.length - (i + 1)) t1' HA :=
      fun t1' q0 q1 q2 q7 q9 q10 q11 q14 q15 q16 q17 => ⟨i + 1, false, by omega, by omega, q0, q1, q2, q7, q9, q10, q11, q14, q15, q16, q17, On.refl onA.wf, by simp; intro m m1 m2; omega⟩
    cases f with
    | true =>
      have cb : ¬ y.g < bst := fun e => cf ⟨rfl, e⟩
      simp [L3_3, t0', t14, hi, hiI, ld, stn, d0]
      refine goN_T kT ?_
      simp [c3, d1, t1, nca, d2, c0, t2, cg, t11, t9, cb, t14, w1]
      refine loopN_at (InvR3 HA x l a age p H1.next i bst vl true y.g) _ (i3 _ (by simp [t0]) (by simp [t1]) (by simp [t2]) (by simp [t7]) (by simp [t9]) (by simp [t10]) (by simp [t11]) (by simp [t14]) (by simp) (by simp) (by simp)) ?_
      refine round3 onA.wf hxA hl vA ?_
      rintro t3 H3 ⟨j, gn, hjk, hij, q0, q1, q2, q7, q9, q10, q11, q14, q15, q16, q17, on3, hgn⟩
      have ej : j = l.length := by omega
      subst ej
      have v3 := vA.on onA.wf on3
      have g2 : H3.load ⟨H1.next, 2, none⟩ = some (iv y.g) := v3.load 2
      have g3 : H3.load ⟨H1.next, 3, none⟩ = some (iv y.v) := v3.load 3
      cases gn with
      | true =>
        simp [q16, q14, w1]
        obtain ⟨m, m1, m2, m3⟩ := hgn.1 rfl
        refine fin _ _ bst vl true (by simp [q0]) (by simp [q1]) (by simp [q2]) (by simp [q7]) (by simp [q9]) (by simp [q10]) (by simp [q11]) (by simp) on3 (hB.skip (.inl fun hl => ?_))
        have := hl.2.2.2.2 m m1 m2
        rw [hyd] at this
        exact this m3
      | false =>
        have hlive : live l a age i := by
          refine ⟨by rw [hyd]; omega, by rw [hyd]; exact ca, by rw [hyd]; omega, by rw [hyd]; omega, fun m m1 m2 m3 => ?_⟩
          rw [hyd] at m3
          exact absurd (hgn.2 ⟨m, m1, m2, m3⟩) (by simp)
        have tk := hB.take hlive (fun hf => by
          rw [hyd]
          refine Int.not_lt.1 fun hlt => ?_
          exact cf ⟨hf, hlt⟩)
        rw [hyd] at tk
        simp [q16, q14, q15, g2, g3, w1]
        exact fin _ _ y.g y.v true (by simp [q0]) (by simp [q1]) (by simp [q2]) (by simp [q7]) (by simp) (by simp) (by simp) (by simp) on3 tk
    | false =>
      simp [L3_3, t0', t14, hi, hiI, ld, stn, d0]
      refine goN_T kT ?_
      simp [c3, d1, t1, nca, d2, c0, t2, cg, t11, t14, w1]
      refine loopN_at (InvR3 HA x l a age p H1.next i bst vl false y.g) _ (i3 _ (by simp [t0]) (by simp [t1]) (by simp [t2]) (by simp [t7]) (by simp [t9]) (by simp [t10]) (by simp [t11]) (by simp [t14]) (by simp) (by simp) (by simp)) ?_
      refine round3 onA.wf hxA hl vA ?_
      rintro t3 H3 ⟨j, gn, hjk, hij, q0, q1, q2, q7, q9, q10, q11, q14, q15, q16, q17, on3, hgn⟩
      have ej : j = l.length := by omega
      subst ej
      have v3 := vA.on onA.wf on3
      have g2 : H3.load ⟨H1.next, 2, none⟩ = some (iv y.g) := v3.load 2
      have g3 : H3.load ⟨H1.next, 3, none⟩ = some (iv y.v) := v3.load 3
      cases gn with
      | true =>
        simp [q16, q14, w1]
        obtain ⟨m, m1, m2, m3⟩ := hgn.1 rfl
        refine fin _ _ bst vl false (by simp [q0]) (by simp [q1]) (by simp [q2]) (by simp [q7]) (by simp [q9]) (by simp [q10]) (by simp [q11]) (by simp) on3 (hB.skip (.inl fun hl => ?_))
        have := hl.2.2.2.2 m m1 m2
        rw [hyd] at this
        exact this m3
      | false =>
        have hlive : live l a age i := by
          refine ⟨by rw [hyd]; omega, by rw [hyd]; exact ca, by rw [hyd]; omega, by rw [hyd]; omega, fun m m1 m2 m3 => ?_⟩
          rw [hyd] at m3
          exact absurd (hgn.2 ⟨m, m1, m2, m3⟩) (by simp)
        have tk := hB.take hlive (fun hf => by
          rw [hyd]
          refine Int.not_lt.1 fun hlt => ?_
          exact cf ⟨hf, hlt⟩)
        rw [hyd] at tk
        simp [q16, q14, q15, g2, g3, w1]
        exact fin _ _ y.g y.v true (by simp [q0]) (by simp [q1]) (by simp [q2]) (by simp [q7]) (by simp) (by simp) (by simp) (by simp) on3 tk
end Go.Proofs.Ythclcdboialfnaa
