/-
  ImageOne: for every input the call returns true and each argument reads afterwards as it read before. No condition.
-/
import Derived.Test.YtnomffikflfilaaGreatSeatRP
import Derived.Test.YtnomffikflfilaaGreatOtZ
import Derived.Test.YtnomffikflfilaaGreatRows
namespace Go.Proofs.YtnomffikflfilaaGreat.imageOne
open Go.Ot Go.ChangeShapes Go.WideShapes Go.ChangeAt Go.RowKit
set_option linter.unusedVariables false
theorem own : ownKnob Tryz.prog.godebug = none := by kernel_rfl
theorem laidOut : laidOutB Tryz.prog = true := by kernel_rfl
set_option maxRecDepth 100000 in
theorem lifted (os : Os) (started : os.Started) (H : Type) (enc : TypeId × Value → H) :
    ReturnsInHanded {} Tryz.checked os 5 .any (Rows.imageOneSpec.pre6 enc Tryz.prog Tryz.f5 Rows.imageOneRow.domain false) (Rows.imageOneSpec.post enc Tryz.prog Tryz.f5 false true false false) := by
  refine law_lifted (C := Tryz.checked) (fn := Tryz.f5) (tb := 4) own started (by kernel_rfl) Tryz.func5
    (ChangeSpec.witness6 (enc := enc) (C := Tryz.checked) false ⟨#[], #[.slice none 0 0, .bool false], []⟩ 8 (by kernel_rfl) (by kernel_rfl) (by kernel_rfl) (by kernel_rfl)) rfl ?_ rfl Tryz.underlying4 laidOut ?_ ?_
  · rintro ds hds
    match ds, hds with
    | [d0, d1], _ => rfl
  · rw [Tryz.params5]
    intro t ht
    simp at ht
    rcases ht with rfl | rfl
    all_goals exact ⟨by kernel_rfl, of_decide_eq_true (by kernel_rfl)⟩
  · intro W base args ds p hval hA hsz
    rw [Tryz.params5] at hA hval
    obtain ⟨v0, vs0, d0, ds0, p0, q0, hargs, rfl, rfl, h0, r0⟩ := trodAll_cons hA
    obtain ⟨v1, vs1, d1, ds1, p1, q1, rfl, rfl, rfl, h1, r1⟩ := trodAll_cons r0
    obtain ⟨rfl, rfl, rfl⟩ := trodAll_nil r1
    obtain rfl : args = #[v0, v1] := by cases args; simp_all
    obtain ⟨x0, xs0, hx0, rx0, wx0, dx0⟩ := open_slice_ints Tryz.underlying37 Tryz.underlying5 (by kernel_rfl) (hval 0 37 v0 rfl rfl) h0
    obtain ⟨a1, rfl, rfl, rfl⟩ := open_bool Tryz.underlying4 (hval 1 4 v1 rfl rfl) h1
    obtain ⟨v, H1, hT, rfl⟩ := E8.imgOne_T (H0_wf W) hx0.ofB wx0 a1
    exact calls_of_T hT (.cons rx0 (.cons rfl .nil))
theorem over : Rows.imageOneRow.holds Tryz.pinned (OpenSpec.ofChange Rows.imageOneSpec) :=
  OpenClaim.holds_of_wide 5 Tryz.f5 rfl rfl rfl rfl rfl rfl rfl ⟨rfl, rfl, rfl, rfl, rfl⟩ rfl rfl rfl rfl rfl (by kernel_rfl) Tryz.func5 (by kernel_rfl)
    (of_decide_eq_true (by kernel_rfl)) (by unfold Func.isWrapper; first | (rw [if_pos (by decide +kernel)]; kernel_rfl) | (rw [if_neg (by decide +kernel)]; exact ⟨rfl, rfl⟩))
    (fun os started H enc _ => lifted os started H enc)
theorem proved : Rows.ImageOneSaid := over
end Go.Proofs.YtnomffikflfilaaGreat.imageOne
