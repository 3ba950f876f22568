/-
  Chapter 26: plays; which may be; how many rounds are left: ImageRests.
-/
import Derived.Test.YtnomffikflfilaaGreatSeatCE
import Derived.Test.YtnomffikflfilaaGreatSeatA
namespace Go.Proofs.YtnomffikflfilaaGreat
open Go.Ot Go.RowKit
open R14 (Twos)
set_option linter.unusedSimpArgs false
set_option linter.unusedVariables false
def playE (J : Jb) (C : Cfg) (n : Nat) : Int := if validE J ≠ 0 then validE J else if rightE C ≠ 0 then rightE C else if 40000 < n then 251 else 0
theorem iright_T {H : Heap} (hw : H.WF) {J : Jb} (ok : JbOk H J) (C : Cfg) (a : Option Addr) (n c : Nat) : T Tryz.prog 13 [.agg (runC J C (.slice a n c)).toArray] H (iv (playE J C n)) H := by
  obtain ⟨E, hE⟩ : ∃ E, E = playE J C n := ⟨_, rfl⟩
  rw [← hE]
  unfold playE at hE
  refine T_seen hm light13 rfl ?_
  obtain ⟨HA, hHA⟩ : ∃ HA, HA = H.new 42 23 (runC J C (.slice a n c)) := ⟨_, rfl⟩
  have onA : On H HA := by rw [hHA]; exact (On.refl hw).new _ _ _
  have vA : Vr HA H.next 42 23 (runC J C (.slice a n c)) := by rw [hHA]; exact Vr.mk' hw _ _ _
  have rl := RL.of vA
  have lJ := rl.lJ
  have lC := rl.lC
  have l22 := rl.l22
  have vT := valid_T onA.wf (ok.on hw onA)
  have rT := right_T onA.wf C
  have fin := onA.keep
  by_cases hv : validE J = 0
  · rw [hv] at vT
    rw [if_neg (by simpa using hv)] at hE
    by_cases hr : rightE C = 0
    · rw [hr] at rT
      rw [if_neg (by simpa using hr)] at hE
      by_cases hn : 40000 < n
      · have hnI : (40000 : Int) < (n : Int) := by omega
        rw [if_pos hn] at hE
        simp [L13, ← hHA, lJ]
        refine goT_of vT ?_
        simp [lC]
        refine goT_of rT ?_
        simp [l22, hn, hnI, hE]
        exact fin
      · have hnI : ¬ (40000 : Int) < (n : Int) := by omega
        rw [if_neg hn] at hE
        simp [L13, ← hHA, lJ]
        refine goT_of vT ?_
        simp [lC]
        refine goT_of rT ?_
        simp [l22, hn, hnI, hE]
        exact fin
    · rw [if_pos hr] at hE
      have e1 : (rightE C != 0) = true := bne_iff_ne.2 hr
      simp [L13, ← hHA, lJ]
      refine goT_of vT ?_
      simp [lC]
      refine goT_of rT ?_
      simp [e1, hE]
      exact fin
  · rw [if_pos hv] at hE
    have e1 : (validE J != 0) = true := bne_iff_ne.2 hv
    simp [L13, ← hHA, lJ]
    refine goT_of vT ?_
    simp [e1, hE]
    exact fin
end Go.Proofs.YtnomffikflfilaaGreat
