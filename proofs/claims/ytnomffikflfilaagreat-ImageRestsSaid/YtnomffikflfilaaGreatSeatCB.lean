/-
  Chapter 26: rounds, in plain: how many a row of entries has.
-/
import Derived.Test.YtnomffikflfilaaGreatSeatCA
namespace Go.Proofs.YtnomffikflfilaaGreat
open Go.Ot Go.RowKit
set_option linter.unusedSimpArgs false
set_option linter.unusedVariables false
def inW (w : Int) (e : Ent) : Bool := decide (1 ≤ w) && decide (w ≤ 8) && decide (0 ≤ e.1) && decide (e.1 < w)
structure RS where
  r : Nat
  a : Nat
  s : Nat → Bool
def full (w : Int) (s : Nat → Bool) : Bool := (List.range w.toNat).all s
def addS (s : Nat → Bool) (j : Nat) : Nat → Bool := fun i => s i || decide (i = j)
def stepR (w : Int) (S : RS) (e : Ent) : RS :=
  if e.2 then ⟨S.r, S.a + 1, S.s⟩ else if inW w e then (if full w (addS S.s e.1.toNat) then ⟨S.r + 1, S.a, fun _ => false⟩ else ⟨S.r, S.a, addS S.s e.1.toNat⟩) else S
def rs0 : RS := ⟨0, 0, fun _ => false⟩
def roundsP (w : Int) (l : List Ent) : RS := l.foldl (stepR w) rs0
def cnt (w : Int) (s : Nat → Bool) : Nat := (List.range w.toNat).countP s
theorem full_iff (w : Int) (s : Nat → Bool) : full w s = true ↔ ∀ j, j < w.toNat → s j = true := by
  simp [full]
theorem cnt_full (w : Int) (s : Nat → Bool) : cnt w s = w.toNat ↔ full w s = true := by
  unfold cnt full
  have := List.countP_eq_length (p := s) (l := List.range w.toNat)
  rw [List.length_range] at this
  rw [this, List.all_eq_true]
theorem cnt_le (w : Int) (s : Nat → Bool) : cnt w s ≤ w.toNat := by
  unfold cnt
  have := List.countP_le_length (p := s) (l := List.range w.toNat)
  rwa [List.length_range] at this
theorem countP_add (s : Nat → Bool) {j : Nat} (hj : s j = false) : ∀ n, (List.range n).countP (addS s j) = (List.range n).countP s + (if j < n then 1 else 0)
  | 0 => by simp
  | n + 1 => by
    rw [List.range_succ, List.countP_append, List.countP_append, countP_add s hj n]
    by_cases h1 : n = j
    · subst h1
      simp [addS, hj]
    · have e : addS s j n = s n := by simp [addS, h1]
      have c : (List.countP (addS s j) [n]) = (List.countP s [n]) := by simp [List.countP_cons, e]
      rw [c]
      by_cases h2 : j < n
      · rw [if_pos h2, if_pos (by omega)]; omega
      · rw [if_neg h2, if_neg (by omega)]; omega
theorem cnt_add (w : Int) (s : Nat → Bool) {j : Nat} (hj : s j = false) (h : j < w.toNat) : cnt w (addS s j) = cnt w s + 1 := by
  unfold cnt
  rw [countP_add s hj, if_pos h]
theorem addS_same (s : Nat → Bool) {j : Nat} (hj : s j = true) : addS s j = s := by
  funext i
  unfold addS
  by_cases h : i = j
  · subst h; simp [hj]
  · simp [h]
theorem inW_iff (w : Int) (e : Ent) : inW w e = true ↔ 1 ≤ w ∧ w ≤ 8 ∧ 0 ≤ e.1 ∧ e.1 < w := by simp [inW, and_assoc]
/-! ### not full -/
theorem step_not {w : Int} (hw : 1 ≤ w) {S : RS} (h : full w S.s = false) (e : Ent) : full w (stepR w S e).s = false := by
  unfold stepR
  split
  · exact h
  · split
    · split
      · rw [Bool.eq_false_iff]
        intro hf
        have := (full_iff w _).1 hf 0 (by omega)
        cases this
      · rename_i hf
        simpa using hf
    · exact h
theorem full_zero {w : Int} (hw : 1 ≤ w) : full w (fun _ => false) = false := by
  rw [Bool.eq_false_iff]
  intro hf
  have := (full_iff w _).1 hf 0 (by omega)
  cases this
/-! ### two runs beside one another -/
def Beside (w : Int) (A B : RS) (r0 a0 : Nat) : Prop :=
  A.a = B.a + a0 ∧ ((A.r = B.r + r0 ∧ ∀ j, B.s j = true → A.s j = true) ∨ (A.r = B.r + r0 + 1 ∧ ∀ j, A.s j = true → B.s j = true))
theorem beside_step {w : Int} {A B : RS} {r0 a0 : Nat} (h : Beside w A B r0 a0) (e : Ent) : Beside w (stepR w A e) (stepR w B e) r0 a0 := by
  obtain ⟨h1, h2⟩ := h
  unfold stepR
  by_cases he : e.2 = true
  · rw [if_pos he, if_pos he]
    exact ⟨by show A.a + 1 = B.a + 1 + a0; omega, h2⟩
  · rw [if_neg he, if_neg he]
    by_cases hi : inW w e = true
    · rw [if_pos hi, if_pos hi]
      obtain ⟨j, hj⟩ : ∃ j, j = e.1.toNat := ⟨_, rfl⟩
      rw [← hj]
      have mono : ∀ {s s' : Nat → Bool}, (∀ i, s i = true → s' i = true) → ∀ i, addS s j i = true → addS s' j i = true := by
        intro s s' hs i hi
        simp only [addS, Bool.or_eq_true] at hi ⊢
        rcases hi with hi | hi
        · exact .inl (hs i hi)
        · exact .inr hi
      have fmono : ∀ {s s' : Nat → Bool}, (∀ i, s i = true → s' i = true) → full w s = true → full w s' = true := by
        intro s s' hs hf
        rw [full_iff] at hf ⊢
        exact fun i hi => hs i (hf i hi)
      rcases h2 with ⟨h2, h3⟩ | ⟨h2, h3⟩
      · have m := mono h3
        by_cases fB : full w (addS B.s j) = true
        · have fA := fmono m fB
          rw [if_pos fB, if_pos fA]
          exact ⟨h1, .inl ⟨by show A.r + 1 = B.r + 1 + r0; omega, fun _ h => h⟩⟩
        · rw [if_neg fB]
          by_cases fA : full w (addS A.s j) = true
          · rw [if_pos fA]
            exact ⟨h1, .inr ⟨by show A.r + 1 = B.r + r0 + 1; omega, fun _ h => by cases h⟩⟩
          · rw [if_neg fA]
            exact ⟨h1, .inl ⟨h2, m⟩⟩
      · have m := mono h3
        by_cases fA : full w (addS A.s j) = true
        · have fB := fmono m fA
          rw [if_pos fB, if_pos fA]
          exact ⟨h1, .inr ⟨by show A.r + 1 = B.r + 1 + r0 + 1; omega, fun _ h => h⟩⟩
        · rw [if_neg fA]
          by_cases fB : full w (addS B.s j) = true
          · rw [if_pos fB]
            exact ⟨h1, .inl ⟨by show A.r = B.r + 1 + r0; omega, fun _ h => by cases h⟩⟩
          · rw [if_neg fB]
            exact ⟨h1, .inr ⟨h2, m⟩⟩
    · rw [if_neg hi, if_neg hi]
      exact ⟨h1, h2⟩
theorem beside_fold {w : Int} {r0 a0 : Nat} : ∀ (l : List Ent) (A B : RS), Beside w A B r0 a0 → Beside w (l.foldl (stepR w) A) (l.foldl (stepR w) B) r0 a0
  | [], _, _, h => h
  | e :: l, A, B, h => beside_fold l _ _ (beside_step h e)
theorem rounds_append (w : Int) (l m : List Ent) : (roundsP w (l ++ m)).a = (roundsP w l).a + (roundsP w m).a ∧ (roundsP w l).r + (roundsP w m).r ≤ (roundsP w (l ++ m)).r ∧ (roundsP w (l ++ m)).r ≤ (roundsP w l).r + (roundsP w m).r + 1 := by
  have h : Beside w (roundsP w l) rs0 (roundsP w l).r (roundsP w l).a := ⟨by show (roundsP w l).a = 0 + _; omega, .inl ⟨by show (roundsP w l).r = 0 + _; omega, fun _ h => by cases h⟩⟩
  have := beside_fold m _ _ h
  have e : roundsP w (l ++ m) = m.foldl (stepR w) (roundsP w l) := by unfold roundsP; rw [List.foldl_append]
  rw [e]
  obtain ⟨q1, q2⟩ := this
  refine ⟨?_, ?_⟩
  · rw [q1]; exact Nat.add_comm _ _
  · have e2 : roundsP w m = m.foldl (stepR w) rs0 := rfl
    rw [e2]
    rcases q2 with ⟨q, _⟩ | ⟨q, _⟩ <;> omega
theorem step_le (w : Int) (S : RS) (e : Ent) : (stepR w S e).r ≤ S.r + 1 ∧ (stepR w S e).a ≤ S.a + 1 := by
  unfold stepR
  repeat' split
  all_goals (constructor <;> first | omega | (simp only; omega))
theorem fold_le (w : Int) : ∀ (l : List Ent) (S : RS), (l.foldl (stepR w) S).r ≤ S.r + l.length ∧ (l.foldl (stepR w) S).a ≤ S.a + l.length
  | [], S => by simp
  | e :: l, S => by
    have h1 := step_le w S e
    have h2 := fold_le w l (stepR w S e)
    simp only [List.foldl_cons, List.length_cons]
    omega
theorem rounds_le (w : Int) (l : List Ent) : (roundsP w l).r ≤ l.length ∧ (roundsP w l).a ≤ l.length := by
  have := fold_le w l rs0
  simpa [rs0, roundsP] using this
theorem rounds_take (w : Int) (l : List Ent) {i : Nat} (hi : i < l.length) : roundsP w (l.take (i + 1)) = stepR w (roundsP w (l.take i)) l[i] := by
  unfold roundsP
  rw [List.take_add_one, List.foldl_append]
  simp [hi]
end Go.Proofs.YtnomffikflfilaaGreat
