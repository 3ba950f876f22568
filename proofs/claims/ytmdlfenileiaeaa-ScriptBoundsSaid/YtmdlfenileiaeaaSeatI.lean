/-
  Chapter 25: the document's Rounds.
-/
import Derived.Test.YtmdlfenileiaeaaSeatH
namespace Go.Proofs.Ytmdlfenileiaeaa
open Go.Ot Go.RowKit
set_option linter.unusedSimpArgs false
set_option linter.unusedVariables false
def pickB (m : List Ent) (n : Int) : Bool := m.any fun e => decide (e.1 = n) && !e.2
theorem pickB_snoc (m : List Ent) (e : Ent) (n : Int) : pickB (m ++ [e]) n = (pickB m n || (decide (e.1 = n) && !e.2)) := by simp [pickB]
def InvPk (H : Heap) (x : Value) (l : List Ent) (n : Int) (k : Nat) (t : Tm) (H1 : Heap) : Prop :=
  ∃ i, i + k = l.length ∧ t 0 = x ∧ t 1 = iv n ∧ t 5 = iv i ∧ H1 = H ∧ pickB (l.take i) n = false
theorem picked_T {H : Heap} {x : Value} {l : List Ent} (hx : Rl H x l) (hl : l.length ≤ 1000000) (n : Int) : T Try.prog 27 [x, iv n] H (.bool (pickB l n)) H := by
  obtain ⟨B, hB⟩ : ∃ B, B = pickB l n := ⟨_, rfl⟩
  rw [← hB]
  refine T_eq hm light27 ?_
  obtain ⟨a0, c0, hx0⟩ := hx.len
  rw [hx0]
  simp [L27]
  rw [← hx0]
  refine loop_at (InvPk H x l n) l.length ?_ ?_
  · exact ⟨0, by omega, by simp, by simp, by simp, rfl, by simp [pickB]⟩
  · rintro k t H1 ⟨i, hik, t0, t1, t5, rfl, hp⟩
    cases k with
    | zero =>
      have e1 : ¬ ((i : Int) < l.length) := by omega
      rw [List.take_of_length_le (by omega)] at hp
      rw [hp] at hB
      rw [hx0] at t0
      simp [L27_1, t5, t0, e1, hB]
    | succ k =>
      have hil : i < l.length := by omega
      have e1 : ((i : Int) < l.length) := by omega
      have e4 : IntKind.i64.wrap ((i : Int) + 1) = ((i + 1 : Nat) : Int) := by rw [w64 _ (by omega)]; omega
      obtain ⟨iN, hiN⟩ : ∃ n : Nat, n = i + 1 := ⟨_, rfl⟩
      rw [← hiN] at e4
      obtain ⟨b, off, c, hxb, _, l1, l2⟩ := hx.get hil
      have t0' := t0
      rw [hxb] at t0
      have hnx : pickB (l.take iN) n = (decide (l[i].1 = n) && !l[i].2) := by
        rw [hiN, List.take_add_one, List.getElem?_eq_getElem hil, Option.toList_some, pickB_snoc, hp, Bool.false_or]
      have yes : pickB (l.take iN) n = true → B = true := by
        intro h
        rw [hB]
        unfold pickB at h ⊢
        rw [List.any_eq_true] at h ⊢
        obtain ⟨e, he, h2⟩ := h
        exact ⟨e, List.mem_of_mem_take he, h2⟩
      obtain ⟨e, he⟩ : ∃ e, e = l[i] := ⟨_, rfl⟩
      rw [← he] at l1 l2 hnx
      by_cases h1 : e.1 = n
      · by_cases h2 : e.2 = true
        · rw [h2] at l2
          rw [h1] at l1
          have hno : pickB (l.take iN) n = false := by rw [hnx, h2]; simp
          simp [L27_1, t5, t0, t1, e1, hil, l1, l2, e4]
          exact ⟨k, by omega, iN, by omega, by simp [t0'], by simp [t1], by simp, rfl, hno⟩
        · have h2' : e.2 = false := by simpa using h2
          rw [h2'] at l2
          rw [h1] at l1
          have hB := yes (by rw [hnx, h1, h2']; simp)
          simp [L27_1, t5, t0, t1, e1, hil, l1, l2, e4, hB]
      · have hno : pickB (l.take iN) n = false := by rw [hnx]; simp [h1]
        have h1' : (e.1 == n) = false := by simpa using h1
        simp [L27_1, t5, t0, t1, e1, hil, l1, h1', e4]
        exact ⟨k, by omega, iN, by omega, by simp [t0'], by simp [t1], by simp, rfl, hno⟩
/-- What the document keeps: the entries since the last round's end. -/
def Win (w : Int) (l : List Ent) (i fr : Nat) (s : Nat → Bool) : Prop := fr ≤ i ∧ ∀ j, w ≤ 8 → j < w.toNat → pickB ((l.drop fr).take (i - fr)) (j : Int) = s j
def InvAl (H : Heap) (x : Value) (l : List Ent) (w : Int) (wn i fr r a : Nat) (m : List Ent) (k : Nat) (t : Tm) (H1 : Heap) : Prop :=
  ∃ j : Nat, j + k = wn ∧ t 0 = x ∧ t 1 = iv w ∧ t 6 = iv a ∧ t 7 = iv r ∧ t 8 = iv fr ∧ t 9 = iv i ∧ t 10 = .bool ((List.range j).all fun j => pickB m (j : Int)) ∧ t 11 = iv j ∧ H1 = H
def InvRr (H : Heap) (x : Value) (l : List Ent) (w : Int) (k : Nat) (t : Tm) (H1 : Heap) : Prop :=
  ∃ i fr : Nat, i + k = l.length ∧ t 0 = x ∧ t 1 = iv w ∧ t 9 = iv i ∧ t 7 = iv (roundsP w (l.take i)).r ∧ t 6 = iv (roundsP w (l.take i)).a ∧ t 8 = iv fr ∧ Win w l i fr (roundsP w (l.take i)).s ∧ (1 ≤ w → full w (roundsP w (l.take i)).s = false) ∧ H1 = H
theorem refRounds_T {H : Heap} {x : Value} {l : List Ent} (hx : Rl H x l) (hl : l.length ≤ 1000000) (w : Int) :
    T Try.prog 13 [x, iv w] H (.tuple #[iv (roundsP w l).r, iv (roundsP w l).a]) H := by
  obtain ⟨V, hV⟩ : ∃ V : Value, V = .tuple #[iv (roundsP w l).r, iv (roundsP w l).a] := ⟨_, rfl⟩
  rw [← hV]
  refine T_eq hm light13 ?_
  obtain ⟨a0, c0, hx0⟩ := hx.len
  rw [hx0]
  simp [L13]
  rw [← hx0]
  refine loop_at (InvRr H x l w) l.length ?_ ?_
  · refine ⟨0, 0, by omega, by simp, by simp, by simp, by simp [roundsP, rs0], by simp [roundsP, rs0], by simp, ⟨Nat.le_refl _, fun j _ _ => by simp [roundsP, rs0, pickB]⟩, fun h => full_zero h, rfl⟩
  · rintro k t H1 ⟨i, fr, hik, t0, t1, t9, t7, t6, t8, hwin, hnf, rfl⟩
    obtain ⟨S, hS⟩ : ∃ S, S = roundsP w (l.take i) := ⟨_, rfl⟩
    rw [← hS] at t6 t7 hwin hnf
    cases k with
    | zero =>
      have e1 : ¬ ((i : Int) < l.length) := by omega
      have ei : l.take i = l := List.take_of_length_le (by omega)
      rw [ei] at hS
      rw [← hS] at hV
      rw [hx0] at t0
      simp [L13_2, t9, t0, e1, t6, t7, hV]
    | succ k =>
      have hil : i < l.length := by omega
      have e1 : ((i : Int) < l.length) := by omega
      have e4 : IntKind.i64.wrap ((i : Int) + 1) = ((i + 1 : Nat) : Int) := by rw [w64 _ (by omega)]; omega
      obtain ⟨iN, hiN⟩ : ∃ n : Nat, n = i + 1 := ⟨_, rfl⟩
      have hSt : roundsP w (l.take iN) = stepR w S l[i] := by rw [hiN, hS]; exact rounds_take w l hil
      obtain ⟨e, he⟩ : ∃ e, e = l[i] := ⟨_, rfl⟩
      have hSle : S.r ≤ i ∧ S.a ≤ i := by
        have := rounds_le w (l.take i)
        rw [← hS, List.length_take] at this
        omega
      rw [← hiN] at e4
      obtain ⟨b, off, c, hxb, _, l1, l2⟩ := hx.get hil
      rw [← he] at hSt l1 l2
      have t0' := t0
      rw [hxb] at t0
      obtain ⟨hfr, hwin⟩ := hwin
      have hsn : (l.drop fr).take (iN - fr) = (l.drop fr).take (i - fr) ++ [e] := by
        rw [show iN - fr = (i - fr) + 1 by omega, List.take_add_one, List.getElem?_drop, show fr + (i - fr) = i by omega, List.getElem?_eq_getElem hil, he]; rfl
      by_cases hab : e.2 = true
      · have wA : IntKind.i64.wrap ((S.a : Int) + 1) = ((S.a + 1 : Nat) : Int) := by rw [w64 _ (by omega)]; omega
        have hst : stepR w S e = ⟨S.r, S.a + 1, S.s⟩ := by unfold stepR; rw [if_pos hab]
        rw [hst] at hSt
        rw [hab] at l2
        obtain ⟨aN, haN⟩ : ∃ n : Nat, n = S.a + 1 := ⟨_, rfl⟩
        rw [← haN] at wA hSt
        simp [L13_2, t9, t0, e1, hil, l2, t6, wA, e4]
        exact ⟨k, by omega, iN, fr, by omega, by simp [t0'], by simp [t1], by simp, by simp [t7, hSt], by simp [hSt], by simp [t8], ⟨by omega, fun j h8 hj => by rw [hsn, pickB_snoc, hab, hSt]; simpa using hwin j h8 hj⟩, by rw [hSt]; exact hnf, rfl⟩
      · have hab' : e.2 = false := by simpa using hab
        rw [hab'] at l2
        have stay : stepR w S e = S → (∀ j, w ≤ 8 → j < w.toNat → pickB ((l.drop fr).take (iN - fr)) (j : Int) = S.s j) → ∀ tt : Tm, tt 0 = x → tt 1 = iv w → tt 9 = iv iN → tt 7 = iv S.r → tt 6 = iv S.a → tt 8 = iv fr → ∃ m, m < k + 1 ∧ InvRr H1 x l w m tt H1 := by
          intro h hj tt u0 u1 u9 u7 u6 u8
          rw [h] at hSt
          exact ⟨k, by omega, iN, fr, by omega, u0, u1, u9, by rw [u7, hSt], by rw [u6, hSt], u8, ⟨by omega, by rw [hSt]; exact hj⟩, by rw [hSt]; exact hnf, rfl⟩
        have same : (∀ j : Nat, w ≤ 8 → j < w.toNat → ¬ e.1 = (j : Int)) → ∀ j, w ≤ 8 → j < w.toNat → pickB ((l.drop fr).take (iN - fr)) (j : Int) = S.s j := by
          intro h j h8 hj
          rw [hsn, pickB_snoc, hwin j h8 hj]
          simp [h j h8 hj]
        have hst0 : inW w e = false → stepR w S e = S := by intro h; unfold stepR; rw [hab', h]; simp
        by_cases w1 : w < 1
        · simp [L13_2, t9, t0, e1, hil, l2, t1, w1, e4]
          exact stay (hst0 (by rw [Bool.eq_false_iff, Ne, inW_iff]; omega)) (same (fun j h8 hj => by omega)) _ (by simp [t0']) (by simp [t1]) (by simp) (by simp [t7]) (by simp [t6]) (by simp [t8])
        by_cases w8 : 8 < w
        · have hst : stepR w S e = S := hst0 (by rw [Bool.eq_false_iff, Ne, inW_iff]; omega)
          simp [L13_2, t9, t0, e1, hil, l2, t1, w1, w8, e4]
          exact stay hst (same (fun j h8 hj => by omega)) _ (by simp [t0']) (by simp [t1]) (by simp) (by simp [t7]) (by simp [t6]) (by simp [t8])
        obtain ⟨y, hy, ry⟩ := Rl.part hx (i := fr) (j := i) hfr (by omega)
        have pT := picked_T ry (by rw [List.length_take, List.length_drop]; omega) e.1
        rw [hxb] at hy
        simp [L13_2, t9, t0, e1, hil, l1, l2, t1, w1, w8, t8, e4, hy]
        refine goT_of pT ?_
        have hn := hnf (by omega)
        by_cases hp : pickB ((l.drop fr).take (i - fr)) e.1 = true
        · have hwin2 : ∀ j, w ≤ 8 → j < w.toNat → pickB ((l.drop fr).take (iN - fr)) (j : Int) = S.s j := by
            intro j h8 hj
            rw [hsn, pickB_snoc, ← hwin j h8 hj]
            by_cases hej : e.1 = (j : Int)
            · rw [hej] at hp; simp [hp]
            · simp [hej]
          have hst : stepR w S e = S := by
            by_cases hin : inW w e = true
            · obtain ⟨_, _, q1, q2⟩ := (inW_iff w e).1 hin
              have := hwin e.1.toNat (by omega) (by omega)
              rw [show ((e.1.toNat : Nat) : Int) = e.1 by omega, hp] at this
              unfold stepR
              rw [hab', hin, addS_same _ this.symm, hn]
              simp
            · exact hst0 (by simpa using hin)
          simp [hp, e4, t9]
          exact stay hst hwin2 _ (by simp [t0']) (by simp [t1]) (by simp) (by simp [t7]) (by simp [t6]) (by simp [t8])
        · have hp' : pickB ((l.drop fr).take (i - fr)) e.1 = false := by simpa using hp
          obtain ⟨wn, hwn⟩ : ∃ wn : Nat, wn = w.toNat := ⟨_, rfl⟩
          have ewn : w = (wn : Int) := by omega
          obtain ⟨y2, hy2, ry2⟩ := Rl.part hx (i := fr) (j := iN) (by omega) (by omega)
          have ln2 : ((l.drop fr).take (iN - fr)).length ≤ 1000000 := by rw [List.length_take, List.length_drop]; omega
          rw [hxb] at hy2
          simp [hp']
          refine loop_at (InvAl H1 x l w wn i fr S.r S.a ((l.drop fr).take (iN - fr))) wn ?_ ?_
          · exact ⟨0, by omega, by simp [t0'], by simp [t1], by simp [t6], by simp [t7], by simp [t8], by simp [t9], by simp, by simp, rfl⟩
          · rintro k2 tt H2 ⟨j, hjk, u0, u1, u6, u7, u8, u9, u10, u11, rfl⟩
            obtain ⟨m, hm'⟩ : ∃ m, m = (l.drop fr).take (iN - fr) := ⟨_, rfl⟩
            rw [← hm'] at u10 ry2 ln2 hsn stay same ⊢
            cases k2 with
            | zero =>
              have c1 : ¬ ((j : Int) < w) := by omega
              have ej : j = w.toNat := by omega
              have u0' := u0
              rw [hxb] at u0
              by_cases hin : inW w e = true
              · obtain ⟨_, _, q1, q2⟩ := (inW_iff w e).1 hin
                have hall : ∀ j, j < w.toNat → pickB m (j : Int) = addS S.s e.1.toNat j := by
                  intro j hj
                  rw [hsn, pickB_snoc, hwin j (by omega) hj, hab']
                  unfold addS
                  congr 1
                  by_cases h : e.1 = (j : Int)
                  · simp [h]
                  · have : ¬ j = e.1.toNat := by omega
                    simp [h, this]
                have hful : ((List.range j).all fun j => pickB m (j : Int)) = full w (addS S.s e.1.toNat) := by
                  rw [Bool.eq_iff_iff, full_iff, List.all_eq_true, ej]
                  constructor
                  · intro h j hj; rw [← hall j hj]; exact h j (List.mem_range.2 hj)
                  · intro h j hj; rw [hall j (List.mem_range.1 hj)]; exact h j (List.mem_range.1 hj)
                rw [hful] at u10
                by_cases hf : full w (addS S.s e.1.toNat) = true
                · have hst : stepR w S e = ⟨S.r + 1, S.a, fun _ => false⟩ := by unfold stepR; rw [hab', hin, hf]; simp
                  rw [hst] at hSt
                  rw [hf] at u10
                  have wR : IntKind.i64.wrap ((S.r : Int) + 1) = ((S.r + 1 : Nat) : Int) := by rw [w64 _ (by omega)]; omega
                  obtain ⟨rN, hrN⟩ : ∃ n : Nat, n = S.r + 1 := ⟨_, rfl⟩
                  rw [← hrN] at wR hSt
                  simp [L13_1, u11, u1, c1, u10, u7, wR, u9, e4]
                  refine ⟨k, by omega, iN, iN, by omega, by simp [u0'], by simp [u1], by simp, by simp [hSt], by simp [u6, hSt], by simp, ⟨Nat.le_refl _, fun j _ _ => by simp [hSt, pickB]⟩, fun h => by rw [hSt]; exact full_zero h, rfl⟩
                · have hf' : full w (addS S.s e.1.toNat) = false := by simpa using hf
                  have hst : stepR w S e = ⟨S.r, S.a, addS S.s e.1.toNat⟩ := by unfold stepR; rw [hab', hin, hf']; simp
                  rw [hst] at hSt
                  rw [hf'] at u10
                  simp [L13_1, u11, u1, c1, u10, u9, e4]
                  refine ⟨k, by omega, iN, fr, by omega, by simp [u0'], by simp [u1], by simp, by simp [u7, hSt], by simp [u6, hSt], by simp [u8], ⟨by omega, fun j _ hj => by rw [← hm', hall j hj, hSt]⟩, fun h => by rw [hSt]; exact hf', rfl⟩
              · have hin' : inW w e = false := by simpa using hin
                have hsm := same (fun j h8 hj h => hin ((inW_iff w e).2 ⟨by omega, h8, by omega, by omega⟩))
                have hful : ((List.range j).all fun j => pickB m (j : Int)) = false := by
                  rw [← hn, Bool.eq_iff_iff, full_iff, List.all_eq_true, ej]
                  constructor
                  · intro h j hj; rw [← hsm j (by omega) hj]; exact h j (List.mem_range.2 hj)
                  · intro h j hj; rw [hsm j (by omega) (List.mem_range.1 hj)]; exact h j (List.mem_range.1 hj)
                rw [hful] at u10
                simp [L13_1, u11, u1, c1, u10, u9, e4]
                exact stay (hst0 hin') hsm _ (by simp [u0']) (by simp [u1]) (by simp) (by simp [u7]) (by simp [u6]) (by simp [u8])
            | succ k2 =>
              have c1 : ((j : Int) < w) := by omega
              have e5 : IntKind.i64.wrap ((j : Int) + 1) = ((j + 1 : Nat) : Int) := by rw [w64 _ (by omega)]; omega
              obtain ⟨jN, hjN⟩ : ∃ n : Nat, n = j + 1 := ⟨_, rfl⟩
              rw [← hjN] at e5
              have u0' := u0
              rw [hxb] at u0
              obtain ⟨al, hal⟩ : ∃ al, al = (List.range j).all fun j => pickB m (j : Int) := ⟨_, rfl⟩
              rw [← hal] at u10
              have hnx : ((List.range jN).all fun j => pickB m (j : Int)) = (al && pickB m (j : Int)) := by rw [hjN, List.range_succ, List.all_append, ← hal]; simp
              have pT2 := picked_T ry2 ln2 (j : Int)
              cases al with
              | false =>
                simp [L13_1, u11, u1, c1, u10, e5]
                exact ⟨k2, by omega, jN, by omega, by simp [u0'], by simp [u1], by simp [u6], by simp [u7], by simp [u8], by simp [u9], by simp [hnx], by simp, rfl⟩
              | true =>
                simp [L13_1, u11, u1, c1, u10, u0, u8, u9, e4, hy2, e5]
                refine goT_of pT2 ?_
                simp [u11, e5]
                exact ⟨k2, by omega, jN, by omega, by simp [u0'], by simp [u1], by simp [u6], by simp [u7], by simp [u8], by simp [u9], by simp [hnx], by simp, rfl⟩
end Go.Proofs.Ytmdlfenileiaeaa
