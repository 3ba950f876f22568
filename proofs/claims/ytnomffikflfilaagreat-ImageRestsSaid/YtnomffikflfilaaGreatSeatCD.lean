/-
  Chapter 26: which configs may be, by both.
-/
import Derived.Test.YtnomffikflfilaaGreatSeatCC
namespace Go.Proofs.YtnomffikflfilaaGreat
open Go.Ot Go.RowKit
open R14 (Twos)
set_option linter.unusedSimpArgs false
set_option linter.unusedVariables false
structure Cfg where
  workers : Int
  window : Int
  policy : Int
  chunk : Int
  reads : Int
  writes : Int
  outs : Int
  arena : Int
  edges : Int
  retry : Int
  force : Bool
abbrev cfgC (C : Cfg) : List Value := [iv C.workers, iv C.window, iv C.policy, iv C.chunk, iv C.reads, iv C.writes, iv C.outs, iv C.arena, iv C.edges, iv C.retry, .bool C.force]
def outV (n lo hi : Int) : Bool := decide (n < lo) || decide (hi < n)
def manyV (C : Cfg) : Bool := outV C.window 1 32 || outV C.reads 1 64 || outV C.writes 1 64 || outV C.outs 1 64 || outV C.arena 1 512 || outV C.edges 1 512
def rightE (C : Cfg) : Int := if outV C.workers 1 8 = true then 162 else if outV C.policy 1 3 = true then 160 else if outV C.chunk 1 200 = true then 161 else if manyV C = true ∨ outV C.retry 0 9 = true then 172 else 0
def prs (C : Cfg) : List (Int × Int) := [(C.window, 32), (C.reads, 64), (C.writes, 64), (C.outs, 64), (C.arena, 512), (C.edges, 512)]
theorem prs_many (C : Cfg) : manyV C = (prs C).any fun q => outV q.1 1 q.2 := by
  simp [manyV, prs, Bool.or_assoc]
def InvRg (G : Heap) (C : Cfg) (p : Nat) (y : Value) (k : Nat) (t : Tm) (H1 : Heap) : Prop :=
  ∃ i : Nat, i + k = 6 ∧ t 1 = ptr p ∧ t 47 = y ∧ t 48 = iv (6 : Nat) ∧ t 49 = iv i ∧ On G H1 ∧ ((prs C).take i).any (fun q => outV q.1 1 q.2) = false
theorem right_T {H : Heap} (hw : H.WF) (C : Cfg) : T Tryz.prog 44 [.agg (cfgC C).toArray] H (iv (rightE C)) H := by
  obtain ⟨E, hE⟩ : ∃ E, E = rightE C := ⟨_, rfl⟩
  rw [← hE]
  refine T_seen hm light44 rfl ?_
  have vr : Vr (H.new 32 11 (cfgC C)) H.next 32 11 (cfgC C) := Vr.mk' hw _ _ _
  have on : On H (H.new 32 11 (cfgC C)) := (On.refl hw).new _ _ _
  obtain ⟨G, hG⟩ : ∃ G, G = H.new 32 11 (cfgC C) := ⟨_, rfl⟩
  have nG : G.next = H.next + 1 := by rw [hG]; simp
  rw [← hG] at vr on
  have l0 : G.load ⟨H.next, 0, none⟩ = some (iv C.workers) := vr.load 0
  have l1 : G.load ⟨H.next, 1, none⟩ = some (iv C.window) := vr.load 1
  have l2 : G.load ⟨H.next, 2, none⟩ = some (iv C.policy) := vr.load 2
  have l3 : G.load ⟨H.next, 3, none⟩ = some (iv C.chunk) := vr.load 3
  have l4 : G.load ⟨H.next, 4, none⟩ = some (iv C.reads) := vr.load 4
  have l5 : G.load ⟨H.next, 5, none⟩ = some (iv C.writes) := vr.load 5
  have l6 : G.load ⟨H.next, 6, none⟩ = some (iv C.outs) := vr.load 6
  have l7 : G.load ⟨H.next, 7, none⟩ = some (iv C.arena) := vr.load 7
  have l8 : G.load ⟨H.next, 8, none⟩ = some (iv C.edges) := vr.load 8
  unfold rightE at hE
  by_cases a1 : C.workers < 1
  · rw [if_pos (by simp [outV, a1])] at hE
    simp [L44, ← hG, l0, a1, hE]
    exact on.keep
  by_cases a2 : 8 < C.workers
  · rw [if_pos (by simp [outV, a2])] at hE
    simp [L44, ← hG, l0, a1, a2, hE]
    exact on.keep
  rw [if_neg (by simp [outV, a1, a2])] at hE
  by_cases b1 : C.policy < 1
  · rw [if_pos (by simp [outV, b1])] at hE
    simp [L44, ← hG, l0, a1, a2, l2, b1, hE]
    exact on.keep
  by_cases b2 : 3 < C.policy
  · rw [if_pos (by simp [outV, b2])] at hE
    simp [L44, ← hG, l0, a1, a2, l2, b1, b2, hE]
    exact on.keep
  rw [if_neg (by simp [outV, b1, b2])] at hE
  by_cases c1 : C.chunk < 1
  · rw [if_pos (by simp [outV, c1])] at hE
    simp [L44, ← hG, l0, a1, a2, l2, b1, b2, l3, c1, hE]
    exact on.keep
  by_cases c2 : 200 < C.chunk
  · rw [if_pos (by simp [outV, c2])] at hE
    simp [L44, ← hG, l0, a1, a2, l2, b1, b2, l3, c1, c2, hE]
    exact on.keep
  rw [if_neg (by simp [outV, c1, c2])] at hE
  have hz : zerosA [iv 0, iv 0] 12 = [iv 0, iv 0, iv 0, iv 0, iv 0, iv 0, iv 0, iv 0, iv 0, iv 0, iv 0, iv 0] := rfl
  obtain ⟨rowc, hrow⟩ : ∃ r, r = [iv C.window, iv 32, iv C.reads, iv 64, iv C.writes, iv 64, iv C.outs, iv 64, iv C.arena, iv 512, iv C.edges, iv 512] := ⟨_, rfl⟩
  obtain ⟨HB, hHB⟩ : ∃ HB, HB = G.new 171 2 rowc := ⟨_, rfl⟩
  have VB : Vr HB G.next 171 2 rowc := by rw [hHB]; exact Vr.mk' on.wf _ _ _
  have onB : On G HB := by rw [hHB]; exact (On.refl on.wf).new _ _ _
  obtain ⟨y, hy⟩ : ∃ y : Value, y = .slice (some ⟨G.next, 0, none⟩) 6 0 := ⟨_, rfl⟩
  have tw : Twos HB y (prs C) := by
    refine .inr ⟨G.next, 0, 0, hy, fun i hi => ?_⟩
    have hi6 : i < 6 := hi
    rw [VB.load, VB.load, hrow]
    match i, hi6 with
    | 0, _ => exact ⟨rfl, rfl⟩
    | 1, _ => exact ⟨rfl, rfl⟩
    | 2, _ => exact ⟨rfl, rfl⟩
    | 3, _ => exact ⟨rfl, rfl⟩
    | 4, _ => exact ⟨rfl, rfl⟩
    | 5, _ => exact ⟨rfl, rfl⟩
  rw [hrow] at hHB
  simp [L44, ← hG, l0, a1, a2, l2, b1, b2, l3, c1, c2, l1, l4, l5, l6, l7, l8, hz, ← hHB]
  refine loop_at (InvRg HB C H.next y) 6 ?_ ?_
  · exact ⟨0, by omega, by simp, by simp [hy, nG], by simp, by simp, On.refl onB.wf, by simp⟩
  · rintro k t H1 ⟨i, hik, t1, t47, t48, t49, on1, hno⟩
    have onH := (on.trans onB).trans on1
    cases k with
    | zero =>
      have ei : i = 6 := by omega
      subst ei
      have hm0 : manyV C = false := by rw [prs_many]; exact hno
      have l9 : H1.load ⟨H.next, 9, none⟩ = some (iv C.retry) := (vr.on on.wf (onB.trans on1)).load 9
      by_cases d1 : C.retry < 0
      · rw [if_pos (.inr (by simp [outV, d1]))] at hE
        simp [L44_1, t49, t48, t1, l9, d1, hE]
        exact onH.keep
      · by_cases d2 : 9 < C.retry
        · rw [if_pos (.inr (by simp [outV, d2]))] at hE
          simp [L44_1, t49, t48, t1, l9, d1, d2, hE]
          exact onH.keep
        · rw [if_neg (by simp [outV, d1, d2, hm0])] at hE
          simp [L44_1, t49, t48, t1, l9, d1, d2, hE]
          exact onH.keep
    | succ k =>
      have hi6 : i < 6 := by omega
      have hil : i < (prs C).length := hi6
      have e1 : (i : Int) < 6 := by omega
      have e4 : IntKind.i64.wrap ((i : Int) + 1) = ((i + 1 : Nat) : Int) := by rw [w64 _ (by omega)]; omega
      obtain ⟨iN, hiN⟩ : ∃ n : Nat, n = i + 1 := ⟨_, rfl⟩
      rw [← hiN] at e4
      obtain ⟨b, off, c, hxb, ldx, _⟩ := twos_rws (tw.keep onB.wf on1.base on1.keep) hil
      have hxb : y = .slice (some ⟨b, off, none⟩) 6 c := hxb
      have htk : (prs C).take iN = (prs C).take i ++ [(prs C)[i]] := by rw [hiN, List.take_succ_eq_append_getElem hil]
      have hany : ((prs C).take iN).any (fun q => outV q.1 1 q.2) = outV (prs C)[i].1 1 (prs C)[i].2 := by rw [htk, List.any_append, hno]; simp
      have hbad : outV (prs C)[i].1 1 (prs C)[i].2 = true → E = 172 := by
        intro h
        have hmv : manyV C = true := by
          rw [prs_many, List.any_eq_true]
          exact ⟨(prs C)[i], List.getElem_mem _, h⟩
        rw [hE, if_pos (.inl hmv)]
      obtain ⟨e, he⟩ : ∃ e, e = (prs C)[i] := ⟨_, rfl⟩
      rw [← he] at ldx hany hbad
      have t47' := t47
      rw [hxb] at t47
      have st := new_storeA on1.wf 171 2 [iv 0, iv 0] [iv e.1, iv e.2] rfl rfl (by decide)
      have VE : Vr (H1.new 171 2 [iv e.1, iv e.2]) H1.next 171 2 [iv e.1, iv e.2] := Vr.mk' on1.wf _ _ _
      have on2 : On HB (H1.new 171 2 [iv e.1, iv e.2]) := on1.new _ _ _
      obtain ⟨H2, hH2⟩ : ∃ H2, H2 = H1.new 171 2 [iv e.1, iv e.2] := ⟨_, rfl⟩
      rw [← hH2] at st VE on2
      obtain ⟨p, hp⟩ : ∃ p, p = H1.next := ⟨_, rfl⟩
      rw [← hp] at st VE
      have f0 : H2.load ⟨p, 0, none⟩ = some (iv e.1) := VE.load 0
      have f1 : H2.load ⟨p, 1, none⟩ = some (iv e.2) := VE.load 1
      have ix0 : sIdxArr 2 1 (ptr p) (iv 0) = some (.pointer (some ⟨p, 0, none⟩)) := by simp [sIdxArr, add_own]
      have ix1 : sIdxArr 2 1 (ptr p) (iv 1) = some (.pointer (some ⟨p, 1, none⟩)) := by simp [sIdxArr, add_own]
      have onH2 := (on.trans onB).trans on2
      by_cases d1 : e.1 < 1
      · have := hbad (by simp [outV, d1])
        simp [L44_1, t49, t48, e1, hi6, t47, ldx, st, ← hp, ix0, f0, d1, this]
        exact onH2.keep
      · by_cases d2 : e.2 < e.1
        · have := hbad (by simp [outV, d2])
          simp [L44_1, t49, t48, e1, hi6, t47, ldx, st, ← hp, ix0, f0, d1, ix1, f1, d2, this]
          exact onH2.keep
        · simp [L44_1, t49, t48, e1, hi6, t47, ldx, st, ← hp, ix0, f0, d1, ix1, f1, d2, e4]
          exact ⟨k, by omega, iN, by omega, by simp [t1], by simp [t47', hxb], by simp [t48], by simp, on2, by rw [hany]; simp [outV, d1, d2]⟩
end Go.Proofs.YtnomffikflfilaaGreat
