/-
  Chapter 21: what Older answers, by what the store holds.
-/
import Derived.Test.YthclcdboialfnaaSeatN
namespace Go.Proofs.Ythclcdboialfnaa
open Go.Ot Go.RowKit
set_option linter.unusedSimpArgs false
set_option linter.unusedVariables false
def olderW : Option (Int × Int) → Value
  | none => .tuple #[.agg #[iv 0, iv 0], .bool false]
  | some (q, v) => .tuple #[.agg #[iv q, iv v], .bool true]
theorem older_TT {H : Heap} (hw : H.WF) {p W R : Nat} {D : SD} (h : ST H p D) (pl : PL D W R) {a : Nat} (ha : a < W) (age : Int) :
    ∃ r, T Try.prog 11 [ptr p, iv a, iv age] H (olderW r) H ∧ (∀ q v, r = some (q, v) → q < age ∧ cont D a q = some v ∧ ∀ g, g < age → (cont D a g).isSome = true → g ≤ q) ∧ (r = none → ∀ g, g < age → cont D a g = none) := by
  have hx : a < D.xs.length := by rw [pl.hW]; omega
  have hc : a < D.ch.length := by rw [pl.hch]; omega
  obtain ⟨i, hP, hT⟩ := older_T hw h pl hx hc age
  have low : ∀ g, g < age → (cont D a g).isSome = true → ∃ j, ∃ hj : j < D.ch[a].length, j < i ∧ D.ch[a][j].1 = g := by
    intro g hg hs
    obtain ⟨v, hv⟩ := Option.isSome_iff_exists.1 hs
    obtain ⟨_, q, hq, e, _⟩ := (cont_iff pl).1 hv
    obtain ⟨j, hj, rfl⟩ := List.mem_iff_getElem.1 hq
    refine ⟨j, hj, ?_, e⟩
    refine Nat.lt_of_not_le fun hle => ?_
    have := hP.hi j hj hle
    omega
  by_cases hi0 : i = 0
  · refine ⟨none, ?_, fun q v e => by (cases e), fun _ g hg => ?_⟩
    · have : olderV D D.ch[a] i = olderW none := by unfold olderV; rw [if_pos hi0]; rfl
      rw [← this]; exact hT
    · by_cases hs : (cont D a g).isSome = true
      · obtain ⟨j, _, hj, _⟩ := low g hg hs
        omega
      · simpa using hs
  · have hle := hP.le
    have hj : i - 1 < D.ch[a].length := by omega
    have hgd : D.ch[a].getD (i - 1) (0, 0) = D.ch[a][i - 1] := by simp [List.getD, hj]
    refine ⟨some (D.ch[a][i - 1].1, D.vals.getD D.ch[a][i - 1].2.toNat 0), ?_, fun q v e => ?_, fun e => by (cases e)⟩
    · have : olderV D D.ch[a] i = olderW (some (D.ch[a][i - 1].1, D.vals.getD D.ch[a][i - 1].2.toNat 0)) := by unfold olderV; rw [if_neg hi0, hgd]; rfl
      rw [← this]; exact hT
    · simp only [Option.some.injEq, Prod.mk.injEq] at e
      obtain ⟨rfl, rfl⟩ := e
      refine ⟨hP.lo _ hj (by omega), (cont_iff pl).2 ⟨hc, _, List.getElem_mem hj, rfl, rfl⟩, fun g hg hs => ?_⟩
      obtain ⟨j, hj2, hji, rfl⟩ := low g hg hs
      by_cases e : j = i - 1
      · subst e; omega
      · have := List.pairwise_iff_getElem.1 (pl.rise a hc) j (i - 1) hj2 hj (by omega)
        omega
end Go.Proofs.Ythclcdboialfnaa
