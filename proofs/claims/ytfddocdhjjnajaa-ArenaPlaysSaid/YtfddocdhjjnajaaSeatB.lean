/-
  The example of the chapter 20 holds: alive answers true.
-/
import Derived.Test.YtfddocdhjjnajaaSeatA
namespace Go.Proofs.Ytfddocdhjjnajaa
open Go.Ot
set_option linter.unusedSimpArgs false
set_option linter.unusedVariables false
theorem alive_T {H : Heap} (hw : H.WF) : ∃ v H', T Try.prog 7 [] H v H' ∧ v = .bool true ∧ Same H H' [] := by
  refine T_by hm light7 ?_
  simp [L7]
  obtain ⟨v1, H1, T1, p, fb, ub, rfl, A1, S1, hp, hf, hu⟩ := new_T hw (n := 3) (by omega)
  refine goT_of T1 ?_
  simp
  have A1' : AR H1 p fb ub ([2, 1] ++ [0]) [false, false, false] := A1
  obtain ⟨v2, H2, T2, rfl, A2, S2⟩ := take_T A1' (by simp) (by simp)
  refine goT_of T2 ?_
  simp
  have A2' : AR H2 p fb ub ([2] ++ [1]) [true, false, false] := A2
  obtain ⟨v3, H3, T3, rfl, A3, S3⟩ := take_T A2' (by simp) (by simp)
  refine goT_of T3 ?_
  simp
  have w1 := T1.grow.wf hw
  have w2 := T2.grow.wf w1
  have w3 := T3.grow.wf w2
  have A3' : AR H3 p fb ub [2] [true, true, false] := A3
  obtain ⟨v4, H4, T4, rfl, fb', hf', A4, S4⟩ := back_T w3 A3' (by simp) (i := 0) (by decide)
  refine goT_of T4 ?_
  simp
  have A4' : AR H4 p fb' ub ([2] ++ [0]) [false, true, false] := A4
  obtain ⟨v5, H5, T5, rfl, A5, S5⟩ := take_T A4' (by simp) (by simp)
  refine goT_of T5 ?_
  simp
  have A5' : AR H5 p fb' ub [2] [true, true, false] := A5
  refine goT_of (live_T A5' (by simp) (by simp)) ?_
  simp
  refine goT_of (free_T A5') ?_
  simp
  refine goT_of (back_no A5' (i := 7) (by decide)) ?_
  simp
  have n1 := T1.grow.next
  have n2 := T2.grow.next
  have n3 := T3.grow.next
  have n4 := T4.grow.next
  refine (((S1.next n1 S2 ?_).next (by omega) S3 ?_).next (by omega) S4 ?_).next (by omega) S5 ?_ <;> simp <;> omega
end Go.Proofs.Ytfddocdhjjnajaa
