/-
  Chapter 21: DropAll.
-/
import Derived.Test.YthclcdboialfnaaSeatI
namespace Go.Proofs.Ythclcdboialfnaa
open Go.Ot Go.RowKit
set_option linter.unusedSimpArgs false
set_option linter.unusedVariables false
def manyF (f : Nat → Int → Option Int) (age : Int) (i : Nat) : Nat := ((List.range i).filter fun b => (f b age).isSome).length
theorem manyF_succ (f : Nat → Int → Option Int) (age : Int) (i : Nat) : manyF f age (i + 1) = manyF f age i + if (f i age).isSome then 1 else 0 := by
  unfold manyF
  rw [List.range_succ, List.filter_append, List.length_append]
  congr 1
  by_cases h : (f i age).isSome = true
  · rw [if_pos h]; simp [h]
  · rw [if_neg h]; simp [h]
theorem manyF_le (f : Nat → Int → Option Int) (age : Int) (i : Nat) : manyF f age i ≤ i := by
  unfold manyF
  have := List.length_filter_le (fun b => (f b age).isSome) (List.range i)
  simpa using this
def InvDA (H : Heap) (p W R : Nat) (D0 : SD) (age : Int) (k : Nat) (t : Tm) (H1 : Heap) : Prop :=
  ∃ i D, i + k = W ∧ t 0 = ptr p ∧ t 1 = iv age ∧ t 5 = iv (manyF (cont D0) age i) ∧ t 11 = iv W ∧ t 12 = iv i ∧ ST H1 p D ∧ PL D W R ∧ Fm H H1 p D0 D ∧ D.fr.length = D0.fr.length + manyF (cont D0) age i ∧ ∀ b g, cont D b g = if b < i ∧ g = age then none else cont D0 b g
theorem dropall_T {H : Heap} (hw : H.WF) {p W R : Nat} {D : SD} (h : ST H p D) (pl : PL D W R) (age : Int) :
    ∃ v H', T Try.prog 10 [ptr p, iv age] H v H' ∧ v = iv (manyF (cont D) age W) ∧ ∃ D', ST H' p D' ∧ PL D' W R ∧ Fm H H' p D D' ∧ D'.fr.length = D.fr.length + manyF (cont D) age W ∧ ∀ b g, cont D' b g = if g = age then none else cont D b g := by
  refine T_by hm light10 ?_
  have hW1 := pl.W1
  have hxl := pl.hW
  have l2 := h.l2
  rw [hxl] at l2
  simp [L10, l2]
  refine loop_at (InvDA H p W R D age) W ?_ ?_
  · refine ⟨0, D, by omega, by simp, by simp, by simp [manyF], by simp, by simp, h, pl, Fm.refl hw p D, by simp [manyF], fun b g => by simp⟩
  · rintro k t H1 ⟨i, D1, hik, t0, t1, t5, t11, t12, st, pl1, fm, fl, hc⟩
    have hmi := manyF_le (cont D) age i
    cases k with
    | zero =>
      have e0 : i = W := by omega
      subst e0
      simp [L10_1, t5, t11, t12, packV]
      refine ⟨D1, st, pl1, fm, fl, fun b g => ?_⟩
      rw [hc]
      by_cases hg : g = age
      · by_cases hb : b < i
        · rw [if_pos ⟨hb, hg⟩, if_pos hg]
        · rw [if_neg (fun x => hb x.1), if_pos hg]
          refine Option.eq_none_iff_forall_ne_some.2 fun w hw' => ?_
          obtain ⟨h1, _⟩ := (cont_iff pl).1 hw'
          rw [pl.hch] at h1
          exact hb h1
      · rw [if_neg (fun x => hg x.2), if_neg hg]
    | succ k =>
      have hi : i < W := by omega
      have hiI : (i : Int) < (W : Int) := by omega
      obtain ⟨r, H2, D2, dT, hr, st2, pl2, fm2, fl2, hc2⟩ := drop_T fm.wf st pl1 (i : Int) age
      have w1 : IntKind.i64.wrap ((i : Int) + 1) = ((i + 1 : Nat) : Int) := by rw [w64 _ (by omega)]; omega
      have w5 : IntKind.i64.wrap ((manyF (cont D) age i : Int) + 1) = ((manyF (cont D) age i + 1 : Nat) : Int) := by rw [w64 _ (by omega)]; omega
      have hci : cont D1 i age = cont D i age := by rw [hc, if_neg (by omega)]
      have hcc : ∀ b g, cont D2 b g = if b < i + 1 ∧ g = age then none else cont D b g := by
        intro b g
        rw [hc2]
        unfold dropF
        simp only [Int.toNat_natCast]
        by_cases hg : b = i ∧ g = age
        · rw [if_pos (by omega), if_pos (by omega)]
        · rw [if_neg (by omega), hc]
          by_cases hb : b < i ∧ g = age
          · rw [if_pos hb, if_pos (by omega)]
          · rw [if_neg hb, if_neg (by omega)]
      have ms := manyF_succ (cont D) age i
      simp [L10_1, t0, t1, t5, t11, t12, hi]
      refine goT_of dT ?_
      cases r with
      | true =>
        have hs := (hr.1 rfl).2.2
        simp only [Int.toNat_natCast] at hs
        rw [hci] at hs
        rw [if_pos hs] at ms
        rw [if_pos rfl] at fl2
        simp [t0, t1, t5, t11, t12, w1, w5]
        refine ⟨k, by omega, i + 1, D2, by omega, by simp [t0], by simp [t1], by simp [ms], by simp [t11], by simp, st2, pl2, fm.trans fm2, by omega, hcc⟩
      | false =>
        have hs : ¬ (cont D i age).isSome = true := by
          intro x
          rw [← hci] at x
          exact absurd (hr.2 ⟨by omega, by omega, by simpa using x⟩) (by simp)
        rw [if_neg hs] at ms
        rw [if_neg (by simp)] at fl2
        simp [t0, t1, t5, t11, t12, w1, w5]
        refine ⟨k, by omega, i + 1, D2, by omega, by simp [t0], by simp [t1], by simp [ms, t5], by simp [t11], by simp, st2, pl2, fm.trans fm2, by omega, hcc⟩
end Go.Proofs.Ythclcdboialfnaa
