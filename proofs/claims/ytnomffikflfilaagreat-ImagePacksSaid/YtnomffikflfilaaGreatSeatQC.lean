/-
  Chapter 26: the document's image: numbers behind bytes, a play's first fault.
-/
import Derived.Test.YtnomffikflfilaaGreatSeatQB
namespace Go.Proofs.YtnomffikflfilaaGreat
open Go.Ot Go.RowKit
open E8 (encU zz encU_len zz_lt encU_b uintR_T intR_T OG Bs bc)
open R14 (Twos)
set_option linter.unusedSimpArgs false
set_option linter.unusedVariables false
abbrev nilS : Value := .slice none 0 0
abbrev OwB (G : Heap) (bs : List Nat) (y : Value) : Prop := Own G 5 1 bs.length (bc bs) y
theorem OG.onN {H H1 : Heap} {bs : List Nat} {y : Value} (g : OG H H1 nilS bs y) : On H H1 := ⟨g.wf, g.base, g.next, E8.OG.olds g⟩
theorem OG.onF {H0 H H1 : Heap} {bs bs0 : List Nat} {y0 y : Value} (g0 : OG H0 H nilS bs0 y0) (g : OG H H1 y0 bs y) : On H0 H1 := OG.onN (g0.trans g)
theorem ub_T {G : Heap} {bs : List Nat} {y : Value} (hw : G.WF) (o : OwB G bs y) {n : Nat} (hn : n < 9223372036854775808) (hl : bs.length ≤ 1000000000) :
    ∃ v G', T Tryz.prog 39 [y, iv n] G v G' ∧ OG G G' y (bs ++ encU n) v := by
  refine T_by hm light39 ?_
  have e : IntKind.u64.wrap (n : Int) = (n : Int) := wu64 _ (by omega)
  obtain ⟨v1, H1, T1, g1⟩ := uintR_T hw (n := n) (by omega)
  have hel := encU_len 9 n (by omega)
  obtain ⟨a, HA, ap, g2⟩ := E8.OG.catX (Og.refl hw o) g1 (by omega)
  simp [L39, e]
  refine goT_of T1 ?_
  simp [ap]
  exact g2
theorem sb_T {G : Heap} {bs : List Nat} {y : Value} (hw : G.WF) (o : OwB G bs y) {n : Int} (hn : okW n) (hl : bs.length ≤ 1000000000) :
    ∃ v G', T Tryz.prog 40 [y, iv n] G v G' ∧ OG G G' y (bs ++ encU (zz n)) v := by
  refine T_by hm light40 ?_
  obtain ⟨v1, H1, T1, g1⟩ := intR_T hw hn
  have hz := zz_lt hn
  have hel := encU_len 9 (zz n) (by omega)
  obtain ⟨a, HA, ap, g2⟩ := E8.OG.catX (Og.refl hw o) g1 (by omega)
  simp [L40]
  refine goT_of T1 ?_
  simp [ap]
  exact g2
theorem fb_T {G : Heap} {bs : List Nat} {y : Value} (hw : G.WF) (o : OwB G bs y) (b : Bool) (hl : bs.length ≤ 1000000000) :
    ∃ v G', T Tryz.prog 42 [y, .bool b] G v G' ∧ OG G G' y (bs ++ [if b then 1 else 0]) v := by
  refine T_by hm light42 ?_
  obtain ⟨HA, hap, g⟩ := E8.OG.push hw o (if b then 1 else 0) (by omega)
  cases b with
  | true =>
    simp at hap
    simp [L42, zerosA, hap]
    exact g
  | false =>
    simp at hap
    simp [L42, zerosA, hap]
    exact g
theorem right26_T {H : Heap} (hw : H.WF) {J : Jb} (ok : JbOk H J) (C : Cfg) (a : Option Addr) (n c : Nat) : T Tryz.prog 14 [.agg (jobC J).toArray, .agg (cfgC C).toArray, .slice a n c] H (iv (playE J C n)) H := by
  obtain ⟨E, hE⟩ : ∃ E, E = playE J C n := ⟨_, rfl⟩
  rw [← hE]
  unfold playE at hE
  refine T_seen hm light14 rfl ?_
  obtain ⟨HA, hHA⟩ : ∃ HA, HA = H.new 29 11 (jobC J) := ⟨_, rfl⟩
  have onA : On H HA := by rw [hHA]; exact (On.refl hw).new _ _ _
  have vA : Vr HA H.next 29 11 (jobC J) := by rw [hHA]; exact Vr.mk' hw _ _ _
  obtain ⟨HB, hHB⟩ : ∃ HB, HB = HA.new 32 11 (cfgC C) := ⟨_, rfl⟩
  have onB : On HA HB := by rw [hHB]; exact (On.refl onA.wf).new _ _ _
  have vB : Vr HB HA.next 32 11 (cfgC C) := by rw [hHB]; exact Vr.mk' onA.wf _ _ _
  have vA2 := vA.on onA.wf onB
  have onH := onA.trans onB
  have lJ := vA2.loadA (m := 11) rfl
  have lC := vB.loadA (m := 11) rfl
  have nA : HA.next = H.next + 1 := by rw [hHA]; rfl
  have vT := refValid_T onH.wf (ok.on hw onH)
  have rT := refRight_T onH.wf C
  have fin := onH.keep
  have hHA2 : H.new 29 11 [iv J.words, J.xc, J.xr, iv J.fuel, iv J.S.kind, iv J.S.lo, iv J.S.hi, iv J.S.step, iv J.S.items, iv J.S.stages, J.xk] = HA := hHA.symm
  have hHB2 : HA.new 32 11 [iv C.workers, iv C.window, iv C.policy, iv C.chunk, iv C.reads, iv C.writes, iv C.outs, iv C.arena, iv C.edges, iv C.retry, .bool C.force] = HB := hHB.symm
  rw [nA] at lC
  by_cases hv : validE J = 0
  · rw [hv] at vT
    rw [if_neg (by simpa using hv)] at hE
    by_cases hr : rightE C = 0
    · rw [hr] at rT
      rw [if_neg (by simpa using hr)] at hE
      by_cases hn : 40000 < n
      · have hnI : (40000 : Int) < (n : Int) := by omega
        rw [if_pos hn] at hE
        simp [L14, hHA2, hHB2, nA, lJ]
        refine goT_of vT ?_
        simp [lC]
        refine goT_of rT ?_
        simp [hn, hnI, hE]
        exact fin
      · have hnI : ¬ (40000 : Int) < (n : Int) := by omega
        rw [if_neg hn] at hE
        simp [L14, hHA2, hHB2, nA, lJ]
        refine goT_of vT ?_
        simp [lC]
        refine goT_of rT ?_
        simp [hn, hnI, hE]
        exact fin
    · rw [if_pos hr] at hE
      have e1 : (rightE C == 0) = false := by simp [hr]
      simp [L14, hHA2, hHB2, nA, lJ]
      refine goT_of vT ?_
      simp [lC]
      refine goT_of rT ?_
      simp [e1, hE]
      exact fin
  · rw [if_pos hv] at hE
    have e1 : (validE J == 0) = false := by simp [hv]
    simp [L14, hHA2, hHB2, nA, lJ]
    refine goT_of vT ?_
    simp [e1, hE]
    exact fin
end Go.Proofs.YtnomffikflfilaaGreat
