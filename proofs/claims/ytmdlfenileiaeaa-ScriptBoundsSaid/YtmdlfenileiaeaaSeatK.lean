/-
  Chapter 25: the examples.
-/
import Derived.Test.YtmdlfenileiaeaaSeatJ
namespace Go.Proofs.Ytmdlfenileiaeaa
open Go.Ot Go.RowKit
set_option linter.unusedSimpArgs false
set_option linter.unusedVariables false
def s1 : ByteArray := ⟨#[48, 32, 49, 42, 50, 32, 33, 48]⟩
def s2 : ByteArray := ⟨#[40, 49]⟩
def l1 : List Ent := [(0, false), (1, false), (1, false), (0, true)]
theorem parse1 : parseP (bts s1) = .ok l1 8 := by kernel_rfl
theorem parse2 : parseP (bts s2) = .err 250 2 := by kernel_rfl
theorem alive_N {H : Heap} (hw : H.WF) : TN Try.prog 11 [] H (fun o H' => o = .ret (.bool true) ∧ On H H') := by
  refine N_by hm light11 ?_
  have p1 := parse_N hw s1
  rw [parse1] at p1
  simp only [s1] at p1
  simp [L11]
  refine goN_of p1 ?_
  rintro r H1 ⟨y, rfl, row1⟩ w1 _ _
  have p2 := parse_N w1 s2
  rw [parse2] at p2
  simp only [s2] at p2
  simp
  refine goN_of p2 ?_
  rintro r H2 ⟨rfl, on2⟩ w2 _ _
  have on := row1.on.trans on2
  have ry : Rl H2 y l1 := (Own.rl row1.own).on w1 on2
  have rT := rounds_T w2 ry (by decide) 2
  have hr : (roundsP 2 l1).r = 1 ∧ (roundsP 2 l1).a = 1 := by constructor <;> kernel_rfl
  rw [hr.1, hr.2] at rT
  obtain ⟨b, off, c, hy, ld, _, _⟩ := ry.get (i := 3) (by decide)
  obtain ⟨ay, cy, hy'⟩ := ry.len
  have hnt : notTup y = true := by rw [hy]; rfl
  simp [hnt]
  refine goN_T rT ?_
  have fN := fair_N w2 2 3 (by decide)
  have hl4 : l1.length = 4 := rfl
  rw [hl4] at hy
  have ev : l1[3] = ((0 : Int), true) := rfl
  rw [ev] at ld
  simp [hy, ld]
  refine goE_of (by rfl) (by rfl) (eqN (0, true) (0, true)) ?_
  simp
  refine goN_of fN ?_
  rintro r H3 ⟨z, rfl, row3⟩ w3 _ _
  obtain ⟨az, hz⟩ := row3.own.len
  have h6 : (fairL (2 : Int).toNat (fairN 2 3 * (2 : Int).toNat)).length = 6 := by kernel_rfl
  rw [h6] at hz
  simp [hz]
  exact on.trans row3.on
theorem alive_T {H : Heap} (hw : H.WF) : T Try.prog 11 [] H (.bool true) H := by
  refine TN.one rfl (Nat.le_refl _) id ?_
  refine ((alive_N hw).forget (Q' := fun o => o = .ret (.bool true)) ?_).mono (fun o H' h _ _ _ => ⟨h.2, h.1⟩)
  rintro o H' ⟨rfl, on⟩
  exact ⟨rfl, on.keep, rfl⟩
end Go.Proofs.Ytmdlfenileiaeaa
