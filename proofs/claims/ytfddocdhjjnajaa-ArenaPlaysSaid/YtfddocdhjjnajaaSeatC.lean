/-
  ArenaFills answers true at every number.
-/
import Derived.Test.YtfddocdhjjnajaaSeatB
namespace Go.Proofs.Ytfddocdhjjnajaa
open Go.Ot
set_option linter.unusedSimpArgs false
set_option linter.unusedVariables false
def U (n : Nat) (f : Nat → Bool) : List Bool := (List.range n).map f
theorem U_len (n : Nat) (f : Nat → Bool) : (U n f).length = n := by simp [U]
theorem U_set (n : Nat) (f : Nat → Bool) (i : Nat) (b : Bool) : (U n f).set i b = U n (fun j => if j = i then b else f j) := by
  apply List.ext_getElem
  · simp [U]
  · intro j h1 h2
    simp [U, List.getElem_set]
    by_cases h : i = j
    · subst h; simp
    · simp [h, Ne.symm h]
theorem U_eq (n : Nat) {f g : Nat → Bool} (h : ∀ j, j < n → f j = g j) : U n f = U n g := by
  unfold U
  exact List.map_congr_left fun j hj => h j (by simpa using hj)
theorem U_used (n : Nat) (f : Nat → Bool) (i : Nat) (h : i < n) : usedB (U n f) (i : Int) = f i := by
  simp [usedB, U, h]
theorem rep_U (n : Nat) (b : Bool) : List.replicate n b = U n (fun _ => b) := by
  apply List.ext_getElem <;> simp [U]
def InvA (n p : Nat) (i : Nat) (t : Tm) (H1 : Heap) : Prop :=
  ∃ fb ub, i ≤ n ∧ t 0 = .int .i64 n ∧ t 3 = ptr p ∧ t 5 = .int .i64 ((n - i : Nat)) ∧ H1.WF ∧ AR H1 p fb ub (frI n (n - i)) (U n (fun j => decide (j < n - i)))
def InvB (n p : Nat) (i : Nat) (t : Tm) (H1 : Heap) : Prop :=
  ∃ fb ub, i ≤ n ∧ t 0 = .int .i64 n ∧ t 3 = ptr p ∧ t 9 = .int .i64 200 ∧ t 10 = .int .i64 ((n - i : Nat)) ∧ H1.WF ∧ AR H1 p fb ub ((List.range (n - i)).map (fun (k : Nat) => (k : Int))) (U n (fun j => decide (n - i ≤ j)))
def InvC (n p : Nat) (i : Nat) (t : Tm) (H1 : Heap) : Prop :=
  ∃ fb ub, i ≤ n ∧ t 9 = .int .i64 200 ∧ t 3 = ptr p ∧ t 11 = .int .i64 ((i : Int) - 1) ∧ H1.WF ∧ AR H1 p fb ub ((List.range i).map (fun (k : Nat) => (k : Int))) (U n (fun j => decide (i ≤ j)))
theorem fills_T {H : Heap} (hw : H.WF) {n : Int} (hn : -9223372036854775808 ≤ n ∧ n ≤ 9223372036854775807) : ∃ v H', T Try.prog 4 [.int .i64 n] H v H' ∧ v = .bool true := by
  refine T_by hm light4 ?_
  by_cases hb : n < 1 ∨ 512 < n
  · simp [L4]
    refine goT_of (new_bad hb) ?_
    obtain ⟨v, H1, T1, rfl, _⟩ := alive_T hw
    by_cases h1 : n < 1
    · simp [h1]
      exact goT_of T1 (by simp)
    · have h2 : 512 < n := by omega
      simp [h1, h2]
      exact goT_of T1 (by simp)
  · have hn1 : 1 ≤ n ∧ n ≤ 512 := by omega
    obtain ⟨v1, H1, T1, p, fb, ub, rfl, A1, S1, hp, hf, hu⟩ := new_T hw hn1
    have w1 := T1.grow.wf hw
    obtain ⟨m, rfl⟩ : ∃ m : Nat, n = m := ⟨n.toNat, by omega⟩
    simp only [Int.toNat_natCast] at A1
    simp [L4]
    refine goT_of T1 ?_
    simp
    refine loop_at (InvA m p) m ?_ ?_
    · exact ⟨fb, ub, Nat.le_refl _, by simp, by simp, by simp, w1, by simpa [rep_U] using A1⟩
    · rintro i t H2 ⟨fb, ub, hle, t0, t3, t5, w2, A2⟩
      cases i with
      | succ i =>
        have e1 : m - (i + 1) < m := by omega
        have e2 : m - i = m - (i + 1) + 1 := by omega
        rw [frI_step _ _ e1] at A2
        obtain ⟨v3, H3, T3, rfl, A3, S3⟩ := take_T A2 (by rw [U_len]; omega) (by rw [frI_len]; omega)
        have e3 : IntKind.i64.wrap (((m - (i + 1) : Nat) : Int) + 1) = ((m - i : Nat) : Int) := by rw [w64 _ (by omega)]; omega
        have e4 : ((m - (i + 1) : Nat) : Int) < (m : Int) := by omega
        simp [L4_1, t0, t3, t5, e4]
        refine goT_of T3 ?_
        simp [t5, e3]
        refine ⟨i, Nat.lt_succ_self i, fb, ub, by omega, by simp [t0], by simp [t3], by simp, T3.grow.wf w2, ?_⟩
        rw [Int.toNat_natCast, U_set, ← e2] at A3
        rw [U_eq m (g := fun j => if j = m - (i + 1) then true else decide (j < m - (i + 1)))]
        · exact A3
        · intro j hj
          by_cases h : j = m - (i + 1)
          · simp [h]; omega
          · simp [h]; omega
      | zero =>
        simp [L4_1, t0, t3, t5]
        have A2' : AR H2 p fb ub [] (U m (fun j => decide (j < m))) := by simpa [frI] using A2
        refine goT_of (take_none A2') ?_
        simp
        refine loop_at (InvB m p) m ?_ ?_
        · refine ⟨fb, ub, Nat.le_refl _, by simp [t0], by simp [t3], by simp, by simp, w2, ?_⟩
          rw [Nat.sub_self]
          rw [U_eq m (g := fun j => decide (j < m))]
          · simpa using A2'
          · intro j hj; simp [hj]
        · rintro i t H3 ⟨fb, ub, hle, t0, t3, t9, t10, w3, A3⟩
          cases i with
          | succ i =>
            have e1 : m - (i + 1) < m := by omega
            have e2 : m - i = m - (i + 1) + 1 := by omega
            obtain ⟨v4, H4, T4, rfl, fb', hf', A4, S4⟩ := back_T w3 A3 (by simp; omega) (i := ((m - (i + 1) : Nat) : Int)) (by rw [U_used _ _ _ e1]; simp)
            have e3 : IntKind.i64.wrap (((m - (i + 1) : Nat) : Int) + 1) = ((m - i : Nat) : Int) := by rw [w64 _ (by omega)]; omega
            have e4 : ((m - (i + 1) : Nat) : Int) < (m : Int) := by omega
            simp [L4_2, t0, t3, t10, e4]
            refine goT_of T4 ?_
            simp [t10, e3]
            refine ⟨i, Nat.lt_succ_self i, fb', ub, by omega, by simp [t0], by simp [t3], by simp [t9], by simp, T4.grow.wf w3, ?_⟩
            rw [Int.toNat_natCast, U_set] at A4
            rw [U_eq m (g := fun j => if j = m - (i + 1) then false else decide (m - (i + 1) ≤ j)), e2, List.range_succ, List.map_append]
            · exact A4
            · intro j hj
              by_cases h : j = m - (i + 1)
              · simp [h]; omega
              · simp [h]; omega
          | zero =>
            have e5 : IntKind.i64.wrap ((m : Int) - 1) = (m : Int) - 1 := w64 _ (by omega)
            simp [L4_2, t0, t3, t10, e5]
            refine loop_at (InvC m p) m ?_ ?_
            · exact ⟨fb, ub, Nat.le_refl _, by simp [t9], by simp [t3], by simp, w3, by simpa using A3⟩
            · rintro i t H4 ⟨fb, ub, hle, t9, t3, t11, w4, A4⟩
              cases i with
              | succ i =>
                have e1 : i < m := by omega
                rw [List.range_succ, List.map_append] at A4
                obtain ⟨v5, H5, T5, rfl, A5, S5⟩ := take_T A4 (by rw [U_len]; simp; omega) (by simp; omega)
                have e3 : IntKind.i64.wrap ((i : Int) - 1) = (i : Int) - 1 := w64 _ (by omega)
                have e4 : ((i : Int) + 1 - 1) = i := by omega
                simp [L4_3, t3, t11, e4]
                refine goT_of T5 ?_
                simp [t11, e4, e3]
                refine ⟨i, Nat.lt_succ_self i, fb, ub, by omega, by simp [t9], by simp [t3], by simp, T5.grow.wf w4, ?_⟩
                rw [Int.toNat_natCast, U_set] at A5
                rw [U_eq m (g := fun j => if j = i then true else decide (i + 1 ≤ j))]
                · exact A5
                · intro j hj
                  by_cases h : j = i
                  · simp [h]
                  · simp [h]; omega
              | zero =>
                simp [L4_3, t3, t11, t9]
                obtain ⟨v, H6, T6, rfl, _⟩ := alive_T w4
                exact goT_of T6 (by simp)
end Go.Proofs.Ytfddocdhjjnajaa
