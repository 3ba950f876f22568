/-
  Chapter 21: the law of what an age reads.
-/
import Derived.Test.YthclcdboialfnaaSeatR
namespace Go.Proofs.Ythclcdboialfnaa
open Go.Ot Go.RowKit
set_option linter.unusedSimpArgs false
set_option linter.unusedVariables false
def InvR1 (H : Heap) (x : Value) (l : List Cl) (a : Nat) (age : Int) (p : Nat) (k : Nat) (t : Tm) (H1 : Heap) : Prop :=
  ∃ i D, i + k = l.length ∧ t 0 = x ∧ t 1 = iv a ∧ t 2 = iv age ∧ t 7 = ptr p ∧ t 9 = iv 0 ∧ t 10 = iv 0 ∧ t 11 = .bool false ∧ t 12 = iv i ∧
    On H H1 ∧ (∀ b, Mine p D b → H.next ≤ b) ∧ ST H1 p D ∧ PL D 64 512 ∧ 512 ≤ D.fr.length + i ∧ cont D = play 64 l i
theorem On.fm {H H1 H2 : Heap} {p : Nat} {D D' : SD} (o : On H H1) (f : Fm H1 H2 p D D') (hm : ∀ b, Mine p D b → H.next ≤ b) : On H H2 ∧ ∀ b, Mine p D' b → H.next ≤ b := by
  obtain ⟨h1, h2⟩ := f.old (n := H.next) o.next hm
  exact ⟨⟨f.wf, f.base.trans o.base, Nat.le_trans o.next f.next, fun b hb => by rw [h1 b hb, o.keep b hb]⟩, h2⟩
theorem round1 {H : Heap} (hw : H.WF) {x : Value} {l : List Cl} (hx : Rc H x l) (hl : l.length ≤ 120) {a : Nat} {age : Int} {p : Nat} {Q : Post} (hQ : ∀ t H1, InvR1 H x l a age p 0 t H1 → Q .normal t (rdy H1))
    (k : Nat) (t : Tm) (H1 : Heap) (h : InvR1 H x l a age p k t H1) : wpN Try.prog L3_1 (thenA (fun t' H' => ∃ m, m < k ∧ InvR1 H x l a age p m t' H') (blockA 0 Q)) t (rdy H1) := by
  obtain ⟨i, D, hik, t0, t1, t2, t7, t9, t10, t11, t12, on, hm1, st, pl, fl, hc⟩ := h
  obtain ⟨ax, cx, hxl⟩ := hx.len
  have t0' := t0
  rw [hxl] at t0'
  cases k with
  | zero =>
    have e0 : i = l.length := by omega
    simp [L3_1, t0', t12, e0]
    exact hQ _ _ ⟨i, D, by omega, by simp [t0], by simp [t1], by simp [t2], by simp [t7], by simp [t9], by simp [t10], by simp [t11], by simp [t12, e0], on, hm1, st, pl, fl, hc⟩
  | succ k =>
    have hi : i < l.length := by omega
    have hiI : (i : Int) < (l.length : Int) := by omega
    obtain ⟨b, off, c, hxb, ld⟩ := (hx.on hw on).get hi
    obtain ⟨o, ho⟩ : ∃ o, o = l[i] := ⟨_, rfl⟩
    rw [← ho] at ld
    have t0' := t0.trans hxb
    have stn := new_storeA on.wf 28 4 [iv 0, iv 0, iv 0, iv 0] (orow o) rfl rfl (by decide)
    obtain ⟨HA, hHA⟩ : ∃ HA, HA = H1.new 28 4 (orow o) := ⟨_, rfl⟩
    have onA : On H1 HA := by rw [hHA]; exact (On.refl on.wf).new _ _ _
    have vA : Vr HA H1.next 28 4 (orow o) := by rw [hHA]; exact Vr.mk' on.wf _ _ _
    rw [← hHA] at stn
    have onHA := on.trans onA
    have stA := st.on on.wf onA
    have d0 : HA.load ⟨H1.next, 0, none⟩ = some (iv o.k) := vA.load 0
    have d1 : HA.load ⟨H1.next, 1, none⟩ = some (iv o.w) := vA.load 1
    have d2 : HA.load ⟨H1.next, 2, none⟩ = some (iv o.g) := vA.load 2
    have d3 : HA.load ⟨H1.next, 3, none⟩ = some (iv o.v) := vA.load 3
    obtain ⟨kv, kT, kk, rfl, hkk⟩ := kind_T (H := HA) o.k
    have w1 : IntKind.i64.wrap ((i : Int) + 1) = ((i + 1 : Nat) : Int) := by rw [w64 _ (by omega)]; omega
    have pS : play 64 l (i + 1) = stepC 64 (cont D) o := by
      rw [play, hc]
      simp [List.getD, hi, ho]
    -- what becomes of the heap behind the calls
    have fin : ∀ (t' : Tm) (H2 : Heap) (D2 : SD), t' 0 = x → t' 1 = iv a → t' 2 = iv age → t' 7 = ptr p → t' 9 = iv 0 → t' 10 = iv 0 → t' 11 = .bool false → t' 12 = iv ((i + 1 : Nat) : Int) → Fm HA H2 p D D2 → ST H2 p D2 → PL D2 64 512 → D.fr.length ≤ D2.fr.length + 1 → cont D2 = stepC 64 (cont D) o → ∃ m, m < k + 1 ∧ InvR1 H x l a age p m t' H2 := by
      intro t' H2 D2 q0 q1 q2 q7 q9 q10 q11 q12 fm st2 pl2 fl2 c2
      obtain ⟨f1, f2⟩ := onHA.fm fm hm1
      exact ⟨k, by omega, i + 1, D2, by omega, q0, q1, q2, q7, q9, q10, q11, q12, f1, f2, st2, pl2, by omega, by rw [c2, pS]⟩
    by_cases c3 : kk < 3
    · have hs : stepC 64 (cont D) o = putF (cont D) 64 o.w o.g o.v := by unfold stepC; rw [if_pos (by omega)]
      obtain ⟨e, H2, D2, pT, _, st2, pl2, fm2, fl2, hc2⟩ := put_T onA.wf stA pl (by omega) o.w o.g o.v
      have w0 : Fm HA H2 p D D2 := fm2
      have oldA : ∀ b, b < HA.next → ¬ Mine p D b → H2.blk b = HA.blk b := fm2.keep
      have nm : ¬ Mine p D H1.next := fun hM => by have := st.lt on.wf hM; omega
      have vB : Vr H2 H1.next 28 4 (orow o) := vA.keep fm2.base (fm2.keep _ (onA.wf.lt vA.bq) nm)
      have d0' : H2.load ⟨H1.next, 0, none⟩ = some (iv o.k) := vB.load 0
      obtain ⟨kv, kT2, kk2, rfl, hkk2⟩ := kind_T (H := H2) o.k
      have e2 : kk2 = kk := by omega
      subst e2
      have n5 : (kk2 == 5) = false := by simp; omega
      have n6 : (kk2 == 6) = false := by simp; omega
      simp [L3_1, t0', t12, hi, hiI, ld, stn, d0]
      refine goN_T kT ?_
      simp [c3, t7, d1, d2, d3]
      refine goN_T pT ?_
      simp [d0']
      refine goN_T kT2 ?_
      simp [n5, d0']
      refine goN_T kT2 ?_
      simp [n6, t12, w1]
      exact fin _ _ D2 (by simp [t0]) (by simp [t1]) (by simp [t2]) (by simp [t7]) (by simp [t9]) (by simp [t10]) (by simp [t11]) (by simp) fm2 st2 pl2 fl2 (by rw [hs]; funext b g; exact hc2 b g)
    · by_cases c5 : kk = 5
      · have hs : stepC 64 (cont D) o = dropF (cont D) 64 o.w o.g := by unfold stepC; rw [if_neg (by omega), if_pos (by omega)]
        obtain ⟨r, H2, D2, pT, _, st2, pl2, fm2, fl2, hc2⟩ := drop_T onA.wf stA pl o.w o.g
        have nm : ¬ Mine p D H1.next := fun hM => by have := st.lt on.wf hM; omega
        have vB : Vr H2 H1.next 28 4 (orow o) := vA.keep fm2.base (fm2.keep _ (onA.wf.lt vA.bq) nm)
        have d0' : H2.load ⟨H1.next, 0, none⟩ = some (iv o.k) := vB.load 0
        obtain ⟨kv, kT2, kk2, rfl, hkk2⟩ := kind_T (H := H2) o.k
        have e2 : kk2 = kk := by omega
        subst e2
        have n6 : (kk2 == 6) = false := by simp; omega
        simp [L3_1, t0', t12, hi, hiI, ld, stn, d0]
        refine goN_T kT ?_
        simp [c3, d0]
        refine goN_T kT ?_
        simp [c5, t7, d1, d2, d3]
        refine goN_T pT ?_
        simp [d0']
        refine goN_T kT2 ?_
        simp [n6, t12, w1]
        refine fin _ _ D2 (by simp [t0]) (by simp [t1]) (by simp [t2]) (by simp [t7]) (by simp [t9]) (by simp [t10]) (by simp [t11]) (by simp) fm2 st2 pl2 (by omega) (by rw [hs]; funext b g; exact hc2 b g)
      · have n5 : (kk == 5) = false := by simp; omega
        by_cases c6 : kk = 6
        · have hs : stepC 64 (cont D) o = fun b g => if g = o.g then none else cont D b g := by unfold stepC; rw [if_neg (by omega), if_neg (by omega), if_pos (by omega)]
          obtain ⟨r, H2, pT, rfl, D2, st2, pl2, fm2, fl2, hc2⟩ := dropall_T onA.wf stA pl o.g
          simp [L3_1, t0', t12, hi, hiI, ld, stn, d0]
          refine goN_T kT ?_
          simp [c3, d0]
          refine goN_T kT ?_
          simp [n5, d0]
          refine goN_T kT ?_
          simp [c6, t7, d1, d2, d3]
          refine goN_T pT ?_
          simp [t12, w1]
          refine fin _ _ D2 (by simp [t0]) (by simp [t1]) (by simp [t2]) (by simp [t7]) (by simp [t9]) (by simp [t10]) (by simp [t11]) (by simp) fm2 st2 pl2 (by omega) (by rw [hs]; funext b g; exact hc2 b g)
        · have n6 : (kk == 6) = false := by simp; omega
          have hs : stepC 64 (cont D) o = cont D := by unfold stepC; rw [if_neg (by omega), if_neg (by omega), if_neg (by omega)]
          simp [L3_1, t0', t12, hi, hiI, ld, stn, d0]
          refine goN_T kT ?_
          simp [c3, d0]
          refine goN_T kT ?_
          simp [n5, d0]
          refine goN_T kT ?_
          simp [n6, t12, w1]
          exact fin _ _ D (by simp [t0]) (by simp [t1]) (by simp [t2]) (by simp [t7]) (by simp [t9]) (by simp [t10]) (by simp [t11]) (by simp) (Fm.refl onA.wf p D) stA pl (by omega) hs.symm
end Go.Proofs.Ythclcdboialfnaa
