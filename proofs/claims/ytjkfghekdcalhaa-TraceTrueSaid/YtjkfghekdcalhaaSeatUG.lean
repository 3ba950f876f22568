/-
  TraceTrue: for every input the call returns true and each argument reads afterwards as it read before. No condition.
-/
import Derived.Test.YtjkfghekdcalhaaSeatUD
import Derived.Test.YtjkfghekdcalhaaOtZ
import Derived.Test.YtjkfghekdcalhaaRows
namespace Go.Proofs.Ytjkfghekdcalhaa.traceTrue
open Go.Ot Go.ChangeShapes Go.WideShapes Go.ChangeAt Go.RowKit
set_option linter.unusedVariables false
theorem own : ownKnob Try.prog.godebug = none := by kernel_rfl
theorem laidOut : laidOutB Try.prog = true := by kernel_rfl
set_option maxRecDepth 100000 in
theorem lifted (os : Os) (started : os.Started) (H : Type) (enc : TypeId × Value → H) :
    ReturnsInHanded {} Try.checked os 4 .any (Rows.traceTrueSpec.pre6 enc Try.prog Try.f4 Rows.traceTrueRow.domain false) (Rows.traceTrueSpec.post enc Try.prog Try.f4 false true false false) := by
  refine law_lifted (C := Try.checked) (fn := Try.f4) (tb := 4) own started (by kernel_rfl) Try.func4
    (ChangeSpec.witness6 (enc := enc) (C := Try.checked) false ⟨#[], #[.agg #[.int .i64 0,.slice none 0 0,.slice none 0 0,.int .i64 0,.int .i64 0,.int .i64 0,.int .i64 0,.int .i64 0,.int .i64 0,.int .i64 0,.slice none 0 0], .slice none 0 0], []⟩ 8 (by kernel_rfl) (by kernel_rfl) (by kernel_rfl) (by kernel_rfl)) rfl ?_ rfl Try.underlying4 laidOut ?_ ?_
  · rintro ds hds
    match ds, hds with
    | [d0, d1], _ => rfl
  · rw [Try.params4]
    intro t ht
    simp at ht
    rcases ht with rfl | rfl
    all_goals exact ⟨by kernel_rfl, of_decide_eq_true (by kernel_rfl)⟩
  · intro W base args ds p hval hA hsz
    rw [Try.params4] at hA hval
    obtain ⟨v0, vs0, d0, ds0, p0, q0, hargs, rfl, rfl, h0, r0⟩ := trodAll_cons hA
    obtain ⟨v1, vs1, d1, ds1, p1, q1, rfl, rfl, rfl, h1, r1⟩ := trodAll_cons r0
    obtain ⟨rfl, rfl, rfl⟩ := trodAll_nil r1
    obtain rfl : args = #[v0, v1] := by cases args; simp_all
    obtain ⟨x0, hx0, rx0⟩ := open_struct 7 Try.underlying29 (by kernel_rfl) (hval 0 29 v0 rfl rfl) h0
    obtain ⟨x1, hx1, rx1⟩ := open_slice 4 Try.underlying30 (by kernel_rfl) (hval 1 30 v1 rfl rfl) h1
    obtain ⟨v, H1, hT, rfl⟩ := true_U (H0_wf W) hx0 hx1
    exact calls_of_T hT (.cons rx0 (.cons rx1 .nil))
theorem over : Rows.traceTrueRow.holds Try.pinned (OpenSpec.ofChange Rows.traceTrueSpec) :=
  OpenClaim.holds_of_wide 4 Try.f4 rfl rfl rfl rfl rfl rfl rfl ⟨rfl, rfl, rfl, rfl, rfl⟩ rfl rfl rfl rfl rfl (by kernel_rfl) Try.func4 (by kernel_rfl)
    (of_decide_eq_true (by kernel_rfl)) (by unfold Func.isWrapper; first | (rw [if_pos (by decide +kernel)]; kernel_rfl) | (rw [if_neg (by decide +kernel)]; exact ⟨rfl, rfl⟩))
    (fun os started H enc _ => lifted os started H enc)
theorem proved : Rows.TraceTrueSaid := over
end Go.Proofs.Ytjkfghekdcalhaa.traceTrue
