/-
  Chapter 26: plays; which may be; how many rounds are left: ImageRests.
-/
import Derived.Test.YtnomffikflfilaaGreatSeatCE
import Derived.Test.YtnomffikflfilaaGreatSeatA
namespace Go.Proofs.YtnomffikflfilaaGreat
open Go.Ot Go.RowKit
open R14 (Twos)
set_option linter.unusedSimpArgs false
set_option linter.unusedVariables false
theorem ok_of {H : Heap} {J : Jb} (h : Jb0 H J) (hg : greatV J = false) : JbOk H J := by
  simp [greatV] at hg
  exact ⟨h.xc, h.xr, h.xk, h.S, by omega, by omega, by omega, h.kinds⟩
theorem play_E {H : Heap} (hw : H.WF) (J : Jb) (C : Cfg) (a : Option Addr) (n c : Nat) : TE Tryz.prog 11 [.agg (runC J C (.slice a n c)).toArray] H (fun o H' => o = .ret (.agg (runC J C (.slice a n c)).toArray) ∧ On H H') := by
  refine TE_by hm light11 ?_
  obtain ⟨HA, hHA⟩ : ∃ HA, HA = H.new 35 23 (runC J C (.slice a n c)) := ⟨_, rfl⟩
  have onA : On H HA := by rw [hHA]; exact (On.refl hw).new _ _ _
  have vA : Vr HA H.next 35 23 (runC J C (.slice a n c)) := by rw [hHA]; exact Vr.mk' hw _ _ _
  have nA : HA.next = H.next + 1 := by rw [hHA]; rfl
  obtain ⟨Z, hZ⟩ : ∃ Z : List Value, Z = [iv 0, .slice none 0 0, .slice none 0 0, iv 0, iv 0, iv 0, iv 0, iv 0, iv 0, iv 0, .slice none 0 0, iv 0, iv 0, iv 0, iv 0, iv 0, iv 0, iv 0, iv 0, iv 0, iv 0, .bool false, .slice none 0 0] := ⟨_, rfl⟩
  obtain ⟨HB, hHB⟩ : ∃ HB, HB = HA.new 42 23 [iv 0, .slice none 0 0, .slice none 0 0, iv 0, iv 0, iv 0, iv 0, iv 0, iv 0, iv 0, .slice none 0 0, iv 0, iv 0, iv 0, iv 0, iv 0, iv 0, iv 0, iv 0, iv 0, iv 0, .bool false, .slice none 0 0] := ⟨_, rfl⟩
  have onB : On HA HB := by rw [hHB]; exact (On.refl onA.wf).new _ _ _
  have vB : Vr HB (H.next + 1) 42 23 Z := by rw [hHB, ← nA, hZ]; exact Vr.mk' onA.wf _ _ _
  have rl := RL.of (vA.on onA.wf onB)
  have onHB := onA.trans onB
  have sB := vB.storeA (m := 23) (by decide) (runC J C (.slice a n c)) rfl (by rw [hZ]; rfl)
  obtain ⟨HC, hHC⟩ : ∃ HC, HC = HB.put (H.next + 1) (runC J C (.slice a n c)) := ⟨_, rfl⟩
  have ldC : HC.loadN ⟨H.next + 1, 0, none⟩ 0 23 = some (runC J C (.slice a n c)) := by rw [hHC]; exact (vB.put _).loadA rfl
  rw [← hHC] at sB
  have hHA2 : H.new 35 23 (runC J C (.slice a n c)) = HA := hHA.symm
  have lJ := rl.lJ
  have lC := rl.lC
  have l22 := rl.l22
  simp [L11, hHA2, ← hHB, nA, lJ, lC, l22, sB, ldC]
  rw [hHC]
  exact onHB.put (by omega) _
def playE (J : Jb) (C : Cfg) (n : Nat) : Int := if validE J ≠ 0 then validE J else if rightE C ≠ 0 then rightE C else if 40000 < n then 251 else 0
theorem iright_T {H : Heap} (hw : H.WF) {J : Jb} (ok : JbOk H J) (C : Cfg) (a : Option Addr) (n c : Nat) : T Tryz.prog 13 [.agg (runC J C (.slice a n c)).toArray] H (iv (playE J C n)) H := by
  obtain ⟨E, hE⟩ : ∃ E, E = playE J C n := ⟨_, rfl⟩
  rw [← hE]
  unfold playE at hE
  refine T_seen hm light13 rfl ?_
  obtain ⟨HA, hHA⟩ : ∃ HA, HA = H.new 42 23 (runC J C (.slice a n c)) := ⟨_, rfl⟩
  have onA : On H HA := by rw [hHA]; exact (On.refl hw).new _ _ _
  have vA : Vr HA H.next 42 23 (runC J C (.slice a n c)) := by rw [hHA]; exact Vr.mk' hw _ _ _
  have rl := RL.of vA
  have lJ := rl.lJ
  have lC := rl.lC
  have l22 := rl.l22
  have vT := valid_T onA.wf (ok.on hw onA)
  have rT := right_T onA.wf C
  have fin := onA.keep
  by_cases hv : validE J = 0
  · rw [hv] at vT
    rw [if_neg (by simpa using hv)] at hE
    by_cases hr : rightE C = 0
    · rw [hr] at rT
      rw [if_neg (by simpa using hr)] at hE
      by_cases hn : 40000 < n
      · have hnI : (40000 : Int) < (n : Int) := by omega
        rw [if_pos hn] at hE
        simp [L13, ← hHA, lJ]
        refine goT_of vT ?_
        simp [lC]
        refine goT_of rT ?_
        simp [l22, hn, hnI, hE]
        exact fin
      · have hnI : ¬ (40000 : Int) < (n : Int) := by omega
        rw [if_neg hn] at hE
        simp [L13, ← hHA, lJ]
        refine goT_of vT ?_
        simp [lC]
        refine goT_of rT ?_
        simp [l22, hn, hnI, hE]
        exact fin
    · rw [if_pos hr] at hE
      have e1 : (rightE C != 0) = true := bne_iff_ne.2 hr
      simp [L13, ← hHA, lJ]
      refine goT_of vT ?_
      simp [lC]
      refine goT_of rT ?_
      simp [e1, hE]
      exact fin
  · rw [if_pos hv] at hE
    have e1 : (validE J != 0) = true := bne_iff_ne.2 hv
    simp [L13, ← hHA, lJ]
    refine goT_of vT ?_
    simp [e1, hE]
    exact fin
end Go.Proofs.YtnomffikflfilaaGreat
