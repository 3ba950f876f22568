/-
  Chapter 26: the program's Rounds.
-/
import Derived.Test.YtnomffikflfilaaGreatSeatCB
namespace Go.Proofs.YtnomffikflfilaaGreat
open Go.Ot Go.RowKit
set_option linter.unusedSimpArgs false
set_option linter.unusedVariables false
def cells8 (s : Nat → Bool) : List Value := (List.range 8).map (fun j => .bool (s j))
theorem cells8_len (s : Nat → Bool) : (cells8 s).length = 8 := by simp [cells8]
theorem cells8_get (s : Nat → Bool) {j : Nat} (hj : j < 8) : (cells8 s)[j]? = some (.bool (s j)) := by simp [cells8, hj]
theorem cells8_set (s : Nat → Bool) {j : Nat} (hj : j < 8) : (cells8 s).set j (.bool true) = cells8 (addS s j) := by
  apply List.ext_getElem?
  intro i
  by_cases hi : i < 8
  · by_cases h : j = i
    · subst h
      rw [List.getElem?_set_self (by rw [cells8_len]; exact hj), cells8_get _ hi]
      simp [addS]
    · rw [List.getElem?_set_ne h, cells8_get _ hi, cells8_get _ hi]
      simp [addS, Ne.symm h]
  · rw [List.getElem?_eq_none (by rw [List.length_set, cells8_len]; omega), List.getElem?_eq_none (by rw [cells8_len]; omega)]
def InvRo (H : Heap) (x : Value) (l : List Ent) (w : Int) (k : Nat) (t : Tm) (H1 : Heap) : Prop :=
  ∃ i q, i + k = l.length ∧ t 1 = iv w ∧ t 12 = x ∧ t 13 = iv l.length ∧ t 14 = iv i ∧ t 6 = iv (roundsP w (l.take i)).r ∧ t 7 = iv (roundsP w (l.take i)).a ∧ t 8 = iv (cnt w (roundsP w (l.take i)).s) ∧ t 9 = ptr q ∧
    On H H1 ∧ H.next ≤ q ∧ Vr H1 q 146 8 (cells8 (roundsP w (l.take i)).s) ∧ (1 ≤ w → full w (roundsP w (l.take i)).s = false)
theorem rounds_T {H : Heap} (hw : H.WF) {x : Value} {l : List Ent} (hx : Rl H x l) (hl : l.length ≤ 1000000) (w : Int) :
    T Tryz.prog 29 [x, iv w] H (.tuple #[iv (roundsP w l).r, iv (roundsP w l).a]) H := by
  obtain ⟨V, hV⟩ : ∃ V : Value, V = .tuple #[iv (roundsP w l).r, iv (roundsP w l).a] := ⟨_, rfl⟩
  rw [← hV]
  refine T_seen hm light29 (by rw [hV]; rfl) ?_
  obtain ⟨a0, c0, hx0⟩ := hx.len
  have hn0 : H.new 146 8 [.bool false, .bool false, .bool false, .bool false, .bool false, .bool false, .bool false, .bool false] = H.new 146 8 (cells8 fun _ => false) := rfl
  obtain ⟨H0', hH0⟩ : ∃ H0', H0' = H.new 146 8 (cells8 fun _ => false) := ⟨_, rfl⟩
  have on0 : On H H0' := by rw [hH0]; exact (On.refl hw).new _ _ _
  have V0 : Vr H0' H.next 146 8 (cells8 fun _ => false) := by rw [hH0]; exact Vr.mk' hw _ _ _
  rw [hx0]
  simp [L29, hn0, ← hH0]
  rw [← hx0]
  refine loop_at (InvRo H x l w) l.length ?_ ?_
  · refine ⟨0, H.next, by omega, by simp, by simp, by simp, by simp, by simp [roundsP, rs0], by simp [roundsP, rs0], ?_, by simp, on0, Nat.le_refl _, V0, fun h => full_zero h⟩
    have : cnt w (roundsP w []).s = 0 := by simp [cnt, roundsP, rs0]
    simp [this]
  · rintro k t H1 ⟨i, q, hik, t1, t12, t13, t14, t6, t7, t8, t9, on, hq, V1, hnf⟩
    obtain ⟨S, hS⟩ : ∃ S, S = roundsP w (l.take i) := ⟨_, rfl⟩
    rw [← hS] at t6 t7 t8 V1 hnf
    cases k with
    | zero =>
      have e1 : ¬ ((i : Int) < l.length) := by omega
      have ei : l.take i = l := List.take_of_length_le (by omega)
      rw [ei] at hS
      rw [← hS] at hV
      simp [L29_1, t14, t13, e1, t6, t7]
      exact ⟨hV.symm, on.keep⟩
    | succ k =>
      have hil : i < l.length := by omega
      have e1 : ((i : Int) < l.length) := by omega
      have e4 : IntKind.i64.wrap ((i : Int) + 1) = ((i + 1 : Nat) : Int) := by rw [w64 _ (by omega)]; omega
      obtain ⟨iN, hiN⟩ : ∃ n : Nat, n = i + 1 := ⟨_, rfl⟩
      have hSt : roundsP w (l.take iN) = stepR w S l[i] := by rw [hiN, hS]; exact rounds_take w l hil
      obtain ⟨e, he⟩ : ∃ e, e = l[i] := ⟨_, rfl⟩
      have hSle : S.r ≤ i ∧ S.a ≤ i := by
        have := rounds_le w (l.take i)
        rw [← hS, List.length_take] at this
        omega
      have hcl := cnt_le w S.s
      rw [← hiN] at e4
      obtain ⟨b, off, c, hxb, ldx, _, _⟩ := (hx.on hw on).get hil
      rw [← he] at ldx hSt
      have t12' := t12
      rw [hxb] at t12
      have st := new_storeA on.wf 62 2 [iv 0, .bool false] (erow e) rfl rfl (by decide)
      have VE : Vr (H1.new 62 2 (erow e)) H1.next 62 2 (erow e) := Vr.mk' on.wf _ _ _
      have V2 := V1.new on.wf 62 2 (erow e)
      have on2 : On H (H1.new 62 2 (erow e)) := on.new _ _ _
      have hqn : q < H1.next := on.wf.lt V1.bq
      obtain ⟨H2, hH2⟩ : ∃ H2, H2 = H1.new 62 2 (erow e) := ⟨_, rfl⟩
      rw [← hH2] at st VE V2 on2
      obtain ⟨p, hp⟩ : ∃ p, p = H1.next := ⟨_, rfl⟩
      rw [← hp] at st VE hqn
      have f0 : H2.load ⟨p, 0, none⟩ = some (iv e.1) := VE.load 0
      have f1 : H2.load ⟨p, 1, none⟩ = some (.bool e.2) := VE.load 1
      by_cases hab : e.2 = true
      · have wA : IntKind.i64.wrap ((S.a : Int) + 1) = ((S.a + 1 : Nat) : Int) := by rw [w64 _ (by omega)]; omega
        have hst : stepR w S e = ⟨S.r, S.a + 1, S.s⟩ := by unfold stepR; rw [if_pos hab]
        rw [hst] at hSt
        rw [hab] at f1
        obtain ⟨aN, haN⟩ : ∃ n : Nat, n = S.a + 1 := ⟨_, rfl⟩
        rw [← haN] at wA hSt
        simp [L29_1, t14, t13, e1, t12, hil, ldx, st, f1, t7, wA, e4, ← hp]
        exact ⟨k, by omega, iN, q, by omega, by simp [t1], by simp [t12'], by simp [t13], by simp, by simp [t6, hSt], by simp [hSt], by simp [t8, hSt], by simp [t9], on2, hq, by rw [hSt]; exact V2, by rw [hSt]; exact hnf⟩
      · have hab' : e.2 = false := by simpa using hab
        rw [hab'] at f1
        have stay : stepR w S e = S → ∀ tt : Tm, tt 1 = iv w → tt 12 = x → tt 13 = iv l.length → tt 14 = iv iN → tt 6 = iv S.r → tt 7 = iv S.a → tt 8 = iv (cnt w S.s) → tt 9 = ptr q → ∃ m, m < k + 1 ∧ InvRo H x l w m tt H2 := by
          intro h tt u1 u12 u13 u14 u6 u7 u8 u9
          rw [h] at hSt
          exact ⟨k, by omega, iN, q, by omega, u1, u12, u13, u14, by rw [u6, hSt], by rw [u7, hSt], by rw [u8, hSt], u9, on2, hq, by rw [hSt]; exact V2, by rw [hSt]; exact hnf⟩
        have hst0 : inW w e = false → stepR w S e = S := by intro h; unfold stepR; rw [hab', h]; simp
        by_cases w1 : w < 1
        · simp [L29_1, t14, t13, e1, t12, hil, ldx, st, f1, f0, t1, w1, e4, ← hp]
          exact stay (hst0 (by rw [Bool.eq_false_iff, Ne, inW_iff]; omega)) _ (by simp [t1]) (by simp [t12']) (by simp [t13]) (by simp) (by simp [t6]) (by simp [t7]) (by simp [t8]) (by simp [t9])
        by_cases w8 : 8 < w
        · simp [L29_1, t14, t13, e1, t12, hil, ldx, st, f1, f0, t1, w1, w8, e4, ← hp]
          exact stay (hst0 (by rw [Bool.eq_false_iff, Ne, inW_iff]; omega)) _ (by simp [t1]) (by simp [t12']) (by simp [t13]) (by simp) (by simp [t6]) (by simp [t7]) (by simp [t8]) (by simp [t9])
        by_cases e0 : e.1 < 0
        · simp [L29_1, t14, t13, e1, t12, hil, ldx, st, f1, f0, t1, w1, w8, e0, e4, ← hp]
          exact stay (hst0 (by rw [Bool.eq_false_iff, Ne, inW_iff]; omega)) _ (by simp [t1]) (by simp [t12']) (by simp [t13]) (by simp) (by simp [t6]) (by simp [t7]) (by simp [t8]) (by simp [t9])
        by_cases ew : w ≤ e.1
        · simp [L29_1, t14, t13, e1, t12, hil, ldx, st, f1, f0, t1, w1, w8, e0, ew, e4, ← hp]
          exact stay (hst0 (by rw [Bool.eq_false_iff, Ne, inW_iff]; omega)) _ (by simp [t1]) (by simp [t12']) (by simp [t13]) (by simp) (by simp [t6]) (by simp [t7]) (by simp [t8]) (by simp [t9])
        have hin : inW w e = true := by rw [inW_iff]; omega
        obtain ⟨j, hj⟩ : ∃ j, j = e.1.toNat := ⟨_, rfl⟩
        have ej : e.1 = (j : Int) := by omega
        have hj8 : j < 8 := by omega
        have hjw : j < w.toNat := by omega
        rw [ej] at f0 e0 ew
        have ix : sIdxArr 8 1 (ptr q) (iv j) = some (.pointer (some ⟨q, j, none⟩)) := by
          have c1 : (0 : Int) ≤ j ∧ (j : Int) < 8 := by omega
          simp [sIdxArr, c1, add_own, hj8]
        have ldj : H2.load ⟨q, j, none⟩ = some (.bool (S.s j)) := by rw [V2.load j, cells8_get _ hj8]
        by_cases hs : S.s j = true
        · rw [hs] at ldj
          have hst : stepR w S e = S := by
            unfold stepR
            rw [hab', hin, ← hj, addS_same _ hs, hnf (by omega)]
            simp
          simp [L29_1, t14, t13, e1, t12, hil, ldx, st, f1, f0, t1, w1, w8, e0, ew, t9, ix, ldj, e4, ← hp]
          exact stay hst _ (by simp [t1]) (by simp [t12']) (by simp [t13]) (by simp) (by simp [t6]) (by simp [t7]) (by simp [t8]) (by simp [t9])
        · have hs' : S.s j = false := by simpa using hs
          rw [hs'] at ldj
          have hca := cnt_add w S.s hs' hjw
          have hcf := cnt_full w (addS S.s j)
          have hcl2 := cnt_le w (addS S.s j)
          obtain ⟨s2, hs2⟩ : ∃ s2, s2 = addS S.s j := ⟨_, rfl⟩
          rw [← hs2] at hca hcf hcl2
          have stj : H2.store ⟨q, j, none⟩ (.bool true) = some (H2.put q (cells8 s2)) := by
            rw [V2.store j _ (by rw [cells8_len]; exact hj8), cells8_set _ hj8, hs2]
          have V3 := V2.put (cells8 s2)
          have on3 : On H (H2.put q (cells8 s2)) := on2.put hq _
          have VE3 := VE.beside (show p ≠ q by omega) (cells8 s2)
          obtain ⟨H3, hH3⟩ : ∃ H3, H3 = H2.put q (cells8 s2) := ⟨_, rfl⟩
          rw [← hH3] at stj V3 on3 VE3
          have wC : IntKind.i64.wrap ((cnt w S.s : Int) + 1) = (cnt w s2 : Int) := by rw [w64 _ (by omega)]; omega
          obtain ⟨cN, hcN⟩ : ∃ cN, cN = cnt w s2 := ⟨_, rfl⟩
          rw [← hcN] at wC
          by_cases hf : full w s2 = true
          · have hcw : ((cN : Int) == w) = true := by have := hcf.2 hf; simp; omega
            have hst : stepR w S e = ⟨S.r + 1, S.a, fun _ => false⟩ := by
              unfold stepR
              rw [hab', hin, ← hj, ← hs2, hf]
              simp
            rw [hst] at hSt
            have wR : IntKind.i64.wrap ((S.r : Int) + 1) = ((S.r + 1 : Nat) : Int) := by rw [w64 _ (by omega)]; omega
            obtain ⟨rN, hrN⟩ : ∃ n : Nat, n = S.r + 1 := ⟨_, rfl⟩
            rw [← hrN] at wR hSt
            have sa : sSliceArr 8 1 (ptr q) none none none = some (.slice (some ⟨q, 0, none⟩) 8 1) := by simp [sSliceArr, bnd, add_own]
            have cl : sClear H3 1 [.bool false] (.slice (some ⟨q, 0, none⟩) 8 1) = some (H3.put q (cells8 fun _ => false)) := by
              have h8 : zerosA [.bool false] (8 * 1) = cells8 fun _ => false := rfl
              have := V3.storeA (m := 8) (by decide) (cells8 fun _ => false) (cells8_len _) (cells8_len _)
              rw [sStore_agg _ _ _ _ (cells8_len _) (by decide)] at this
              simp only [sClear, h8]
              rw [if_neg (by decide)]
              exact this
            simp [L29_1, t14, t13, e1, t12, hil, ldx, st, f1, f0, t1, w1, w8, e0, ew, t9, ix, ldj, e4, ← hp, stj, t8, wC, hcw, t6, wR, sa, cl]
            refine ⟨k, by omega, iN, q, by omega, by simp [t1], by simp [t12'], by simp [t13], by simp, by simp [hSt], by simp [t7, hSt], ?_, by simp [t9], on3.put hq _, hq, by rw [hSt]; exact V3.put _, fun h => by rw [hSt]; exact full_zero h⟩
            rw [hSt]
            simp [cnt]
          · have hf' : full w s2 = false := by simpa using hf
            have hcw : ((cN : Int) == w) = false := by
              have : cN ≠ w.toNat := fun h => hf (hcf.1 (by omega))
              simp; omega
            have hst : stepR w S e = ⟨S.r, S.a, s2⟩ := by
              unfold stepR
              rw [hab', hin, ← hj, ← hs2, hf']
              simp
            rw [hst] at hSt
            simp [L29_1, t14, t13, e1, t12, hil, ldx, st, f1, f0, t1, w1, w8, e0, ew, t9, ix, ldj, e4, ← hp, stj, t8, wC, hcw]
            exact ⟨k, by omega, iN, q, by omega, by simp [t1], by simp [t12'], by simp [t13], by simp, by simp [t6, hSt], by simp [t7, hSt], by simp [hSt, hcN], by simp [t9], on3, hq, by rw [hSt]; exact V3, fun h => by rw [hSt]; exact hf'⟩
end Go.Proofs.YtnomffikflfilaaGreat
