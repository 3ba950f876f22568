/-
  Chapter 22: the example of the chapter.
-/
import Derived.Test.YtjpdoflmjokplaaSeatB
namespace Go.Proofs.Ytjpdoflmjokplaa
open Go.Ot
set_option linter.unusedSimpArgs false
set_option linter.unusedVariables false
theorem alive_T {H : Heap} (hw : H.WF) : ∃ v H', T Try.prog 9 [] H v H' ∧ v = .bool true := by
  refine T_by hm light9 ?_
  obtain ⟨v1, H1, T1, rfl, n1, s1, hq, L1⟩ := lnew_T hw 1 1 1 (by omega) (by omega) (by omega)
  have w1 := T1.grow.wf hw
  obtain ⟨v2, H2, T2, rfl, x2, L2⟩ := note_T w1 L1 (3, 7, -1) (by decide)
  have e2 : noteC [] (3, 7, -1) ((1 : Nat) : Int) = 0 := by decide
  have f2 : noteL [] (3, 7, -1) ((1 : Nat) : Int) = [(3, 7, -1)] := by decide
  rw [e2] at T2
  rw [f2] at L2
  obtain ⟨v3, H3, T3, rfl, x3, L3⟩ := note_T L2.wf L2.lg (4, 0, 2) (by decide)
  have e3 : noteC [(3, 7, -1)] (4, 0, 2) ((1 : Nat) : Int) = 200 := by decide
  have f3 : noteL [(3, 7, -1)] (4, 0, 2) ((1 : Nat) : Int) = [(3, 7, -1)] := by decide
  rw [e3] at T3
  rw [f3] at L3
  obtain ⟨v4, H4, T4, rfl, x4, L4⟩ := note_T L3.wf L3.lg (3, 8, 2) (by decide)
  have e4 : noteC [(3, 7, -1)] (3, 8, 2) ((1 : Nat) : Int) = 61 := by decide
  have f4 : noteL [(3, 7, -1)] (3, 8, 2) ((1 : Nat) : Int) = [(3, 7, -1)] := by decide
  rw [e4] at T4
  rw [f4] at L4
  obtain ⟨v5, H5, T5, rfl, y5, L5⟩ := write_T L4.wf L4.lg 3 9 (by decide)
  have e5 : writeC [] 3 ((1 : Nat) : Int) = 0 := by decide
  have f5 : writeL [] 3 9 ((1 : Nat) : Int) = [(3, 9)] := by decide
  rw [e5] at T5
  rw [f5] at L5
  obtain ⟨v6, H6, T6, rfl, y6, L6⟩ := write_T L5.wf L5.lg 3 10 (by decide)
  have e6 : writeC [(3, 9)] 3 ((1 : Nat) : Int) = 0 := by decide
  have f6 : writeL [(3, 9)] 3 10 ((1 : Nat) : Int) = [(3, 10)] := by decide
  rw [e6] at T6
  rw [f6] at L6
  obtain ⟨v7, H7, T7, rfl, y7, L7⟩ := write_T L6.wf L6.lg 5 1 (by decide)
  have e7 : writeC [(3, 10)] 5 ((1 : Nat) : Int) = 200 := by decide
  have f7 : writeL [(3, 10)] 5 1 ((1 : Nat) : Int) = [(3, 10)] := by decide
  rw [e7] at T7
  rw [f7] at L7
  have hnB7 := L7.wf.next_ge
  obtain ⟨H8, hH8⟩ : ∃ H8, H8 = H7.new 2 1 [iv 0, iv 0, iv 0, iv 7] := ⟨_, rfl⟩
  have w8 : H8.WF := by rw [hH8]; exact WF_new L7.wf _ _ _
  have i8 : Ints H8 .i64 (.slice (some ⟨H7.next, 0, none⟩) 4 0) [0, 0, 0, 7] := by
    refine (Own.mk (ety := 2) (n := 4) (cells := [0, 0, 0, 7].map (.int .i64)) rfl ?_ ?_).ints
    · rw [hH8]; simpa using hnB7
    · rw [hH8]; simp
  have G8 := L7.lg.keep L7.wf (H' := H8) (by rw [hH8]; rfl) (fun b hb => by rw [hH8]; simp [show b ≠ H7.next by omega])
  obtain ⟨v9, H9, T9, rfl, s9⟩ := holds_T w8 G8 i8 (by decide)
  have w9 := T9.grow.wf w8
  have e9 : holdsV [(3, 7, -1)] [0, 0, 0, 7] = true := by decide
  rw [e9] at T9
  have hnB9 := w9.next_ge
  obtain ⟨H10, hH10⟩ : ∃ H10, H10 = H9.new 2 1 [iv 0, iv 0, iv 0, iv 8] := ⟨_, rfl⟩
  have w10 : H10.WF := by rw [hH10]; exact WF_new w9 _ _ _
  have i10 : Ints H10 .i64 (.slice (some ⟨H9.next, 0, none⟩) 4 0) [0, 0, 0, 8] := by
    refine (Own.mk (ety := 2) (n := 4) (cells := [0, 0, 0, 8].map (.int .i64)) rfl ?_ ?_).ints
    · rw [hH10]; simpa using hnB9
    · rw [hH10]; simp
  have G9 := G8.keep w8 (H' := H9) T9.1 (fun b hb => s9 b hb (by simp))
  have G10 := G9.keep w9 (H' := H10) (by rw [hH10]; rfl) (fun b hb => by rw [hH10]; simp [show b ≠ H9.next by omega])
  obtain ⟨v11, H11, T11, rfl, s11⟩ := holds_T w10 G10 i10 (by decide)
  have e11 : holdsV [(3, 7, -1)] [0, 0, 0, 8] = false := by decide
  rw [e11] at T11
  have z14 : zerosA [.int .i64 0] 4 = [iv 0, iv 0, iv 0, iv 0] := rfl
  simp [L9]
  refine goT_of T1 ?_
  simp [fitsNil, isNil]
  refine goT_of T2 ?_
  simp
  refine goT_of T3 ?_
  simp
  refine goT_of T4 ?_
  simp
  refine goT_of T5 ?_
  simp
  refine goT_of T6 ?_
  simp
  refine goT_of T7 ?_
  simp [z14]
  rw [← hH8]
  refine goT_of T9 ?_
  simp [z14]
  rw [← hH10]
  refine goT_of T11 ?_
  simp
end Go.Proofs.Ytjpdoflmjokplaa
