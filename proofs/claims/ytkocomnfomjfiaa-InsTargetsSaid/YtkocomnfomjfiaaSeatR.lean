/-
  Chapter 8: InsTargets answers true at every input.
-/
import Derived.Test.YtkocomnfomjfiaaSeatQ
namespace Go.Proofs.Ytkocomnfomjfiaa
open Go.Ot Go.ChangeShapes Go.WideShapes Go.ChangeAt Go.RowKit
set_option linter.unusedSimpArgs false
set_option linter.unusedVariables false
def InvEq (x y : Value) (r : List Int) (H0 : Heap) (k : Nat) (t : Tm) (H1 : Heap) : Prop :=
  ∃ j : Nat, j + k = r.length ∧ t 5 = x ∧ t 6 = y ∧ t 7 = iv j ∧ H1 = H0
theorem targetsLaw_T {H : Heap} (hw : H.WF) {xl : Value} {l : List In} (hx : Rws H 6 xl (l.map rowI)) (hk : ∀ a ∈ l, okI a.kind) (at' : Int) : ∃ v H', T Try.prog 7 [xl, iv at'] H v H' ∧ v = .bool true := by
  refine T_by hm light7 ?_
  obtain ⟨xa, xc, hxl⟩ := hx.len
  rw [List.length_map] at hxl
  by_cases h1 : 1000 < l.length
  · rw [hxl]; simp [L7, h1]
  obtain ⟨v2, H2, T2, g2⟩ := targets_T hw hx at' (by omega)
  obtain ⟨v3, H3, T3, g3⟩ := targetsR_T g2.wf (hx.keep hw g2.base (fun b hb => g2.same b hb (by simp))) hk at' (by omega)
  obtain ⟨v6, H6, T6, rfl⟩ := alive_T g3.wf
  have i2 : Ints H3 .i64 v2 (tgtV l at') := (Own.ints g2.own).keep g2.wf g3.base (fun b hb => g3.same b hb (by simp))
  have i3 : Ints H3 .i64 v3 (tgtV l at') := Own.ints g3.own
  have hr : (tgtV l at').length ≤ 2 := by
    unfold tgtV
    split
    · simp
    · split
      · simp
      · exact tlv_len _ _ _
  obtain ⟨r, hre⟩ : ∃ r, r = tgtV l at' := ⟨_, rfl⟩
  rw [← hre] at i2 i3 hr
  obtain ⟨a2, c2, hv2⟩ := i2.len
  obtain ⟨a3, c3, hv3⟩ := i3.len
  rw [hxl] at T2 T3 ⊢
  simp [L7, h1]
  refine goT_of T2 ?_
  simp
  refine goT_of T3 ?_
  simp [hv2, hv3]
  rw [← hv2, ← hv3]
  refine loop_at (InvEq v2 v3 r H3) r.length ?_ ?_
  · exact ⟨0, by omega, by simp [hv2], by simp [hv3], by simp, rfl⟩
  · rintro k t H1 ⟨j, hjk, t5, t6, t7, rfl⟩
    cases k with
    | zero =>
      have ej : j = r.length := by omega
      subst ej
      rw [hv2] at t5
      simp [L7_1, t5, t6, t7]
      refine goT_of T6 ?_
      simp
    | succ k =>
      have hj : j < r.length := by omega
      obtain ⟨b, off, c, hx2, ld2⟩ := i2.at hj
      obtain ⟨b', off', c', hx3, ld3⟩ := i3.at hj
      have e4 : IntKind.i64.wrap ((j : Int) + 1) = ((j + 1 : Nat) : Int) := by rw [w64 _ (by omega)]; omega
      obtain ⟨j1, hj1⟩ : ∃ j1, j1 = j + 1 := ⟨_, rfl⟩
      rw [← hj1] at e4
      have t5' := t5
      have t6' := t6
      rw [hx2] at t5'
      rw [hx3] at t6'
      simp [L7_1, t5', t6', t7, hj, ld2, ld3, e4]
      exact ⟨k, Nat.lt_succ_self k, j1, by omega, by simp [t5], by simp [t6], by simp, rfl⟩
theorem targets_U {H : Heap} (hw : H.WF) {x : Value} (h0 : Rd Try.prog H 4 32 [x]) {at' : Int} (_ : -9223372036854775808 ≤ at' ∧ at' ≤ 9223372036854775807) :
    ∃ v H', T Try.prog 7 [x, iv at'] H v H' ∧ v = .bool true := by
  obtain ⟨l, hx, hk, _⟩ := rd_ins h0
  exact targetsLaw_T hw hx hk at'
end Go.Proofs.Ytkocomnfomjfiaa
