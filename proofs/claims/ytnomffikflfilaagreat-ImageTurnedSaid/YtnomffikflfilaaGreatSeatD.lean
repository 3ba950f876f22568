/-
  Chapter 26: plays; which may be; how many rounds are left: ImageRests.
-/
import Derived.Test.YtnomffikflfilaaGreatSeatCE
import Derived.Test.YtnomffikflfilaaGreatSeatA
namespace Go.Proofs.YtnomffikflfilaaGreat
open Go.Ot Go.RowKit
open R14 (Twos)
set_option linter.unusedSimpArgs false
set_option linter.unusedVariables false
theorem ok_of {H : Heap} {J : Jb} (h : Jb0 H J) (hg : greatV J = false) : JbOk H J := by
  simp [greatV] at hg
  exact ⟨h.xc, h.xr, h.xk, h.S, by omega, by omega, by omega, h.kinds⟩
theorem play_E {H : Heap} (hw : H.WF) (J : Jb) (C : Cfg) (a : Option Addr) (n c : Nat) : TE Tryz.prog 11 [.agg (runC J C (.slice a n c)).toArray] H (fun o H' => o = .ret (.agg (runC J C (.slice a n c)).toArray) ∧ On H H') := by
  refine TE_by hm light11 ?_
  obtain ⟨HA, hHA⟩ : ∃ HA, HA = H.new 35 23 (runC J C (.slice a n c)) := ⟨_, rfl⟩
  have onA : On H HA := by rw [hHA]; exact (On.refl hw).new _ _ _
  have vA : Vr HA H.next 35 23 (runC J C (.slice a n c)) := by rw [hHA]; exact Vr.mk' hw _ _ _
  have nA : HA.next = H.next + 1 := by rw [hHA]; rfl
  obtain ⟨Z, hZ⟩ : ∃ Z : List Value, Z = [iv 0, .slice none 0 0, .slice none 0 0, iv 0, iv 0, iv 0, iv 0, iv 0, iv 0, iv 0, .slice none 0 0, iv 0, iv 0, iv 0, iv 0, iv 0, iv 0, iv 0, iv 0, iv 0, iv 0, .bool false, .slice none 0 0] := ⟨_, rfl⟩
  obtain ⟨HB, hHB⟩ : ∃ HB, HB = HA.new 42 23 [iv 0, .slice none 0 0, .slice none 0 0, iv 0, iv 0, iv 0, iv 0, iv 0, iv 0, iv 0, .slice none 0 0, iv 0, iv 0, iv 0, iv 0, iv 0, iv 0, iv 0, iv 0, iv 0, iv 0, .bool false, .slice none 0 0] := ⟨_, rfl⟩
  have onB : On HA HB := by rw [hHB]; exact (On.refl onA.wf).new _ _ _
  have vB : Vr HB (H.next + 1) 42 23 Z := by rw [hHB, ← nA, hZ]; exact Vr.mk' onA.wf _ _ _
  have rl := RL.of (vA.on onA.wf onB)
  have onHB := onA.trans onB
  have sB := vB.storeA (m := 23) (by decide) (runC J C (.slice a n c)) rfl (by rw [hZ]; rfl)
  obtain ⟨HC, hHC⟩ : ∃ HC, HC = HB.put (H.next + 1) (runC J C (.slice a n c)) := ⟨_, rfl⟩
  have ldC : HC.loadN ⟨H.next + 1, 0, none⟩ 0 23 = some (runC J C (.slice a n c)) := by rw [hHC]; exact (vB.put _).loadA rfl
  rw [← hHC] at sB
  have hHA2 : H.new 35 23 (runC J C (.slice a n c)) = HA := hHA.symm
  have lJ := rl.lJ
  have lC := rl.lC
  have l22 := rl.l22
  simp [L11, hHA2, ← hHB, nA, lJ, lC, l22, sB, ldC]
  rw [hHC]
  exact onHB.put (by omega) _
/-- What is wrong with a play first. -/
def playE (J : Jb) (C : Cfg) (n : Nat) : Int := if validE J ≠ 0 then validE J else if rightE C ≠ 0 then rightE C else if 40000 < n then 251 else 0
theorem iright_T {H : Heap} (hw : H.WF) {J : Jb} (ok : JbOk H J) (C : Cfg) (a : Option Addr) (n c : Nat) : T Tryz.prog 13 [.agg (runC J C (.slice a n c)).toArray] H (iv (playE J C n)) H := by
  obtain ⟨E, hE⟩ : ∃ E, E = playE J C n := ⟨_, rfl⟩
  rw [← hE]
  unfold playE at hE
  refine T_seen hm light13 rfl ?_
  obtain ⟨HA, hHA⟩ : ∃ HA, HA = H.new 42 23 (runC J C (.slice a n c)) := ⟨_, rfl⟩
  have onA : On H HA := by rw [hHA]; exact (On.refl hw).new _ _ _
  have vA : Vr HA H.next 42 23 (runC J C (.slice a n c)) := by rw [hHA]; exact Vr.mk' hw _ _ _
  have rl := RL.of vA
  have lJ := rl.lJ
  have lC := rl.lC
  have l22 := rl.l22
  have vT := valid_T onA.wf (ok.on hw onA)
  have rT := right_T onA.wf C
  have fin := onA.keep
  by_cases hv : validE J = 0
  · rw [hv] at vT
    rw [if_neg (by simpa using hv)] at hE
    by_cases hr : rightE C = 0
    · rw [hr] at rT
      rw [if_neg (by simpa using hr)] at hE
      by_cases hn : 40000 < n
      · have hnI : (40000 : Int) < (n : Int) := by omega
        rw [if_pos hn] at hE
        simp [L13, ← hHA, lJ]
        refine goT_of vT ?_
        simp [lC]
        refine goT_of rT ?_
        simp [l22, hn, hnI, hE]
        exact fin
      · have hnI : ¬ (40000 : Int) < (n : Int) := by omega
        rw [if_neg hn] at hE
        simp [L13, ← hHA, lJ]
        refine goT_of vT ?_
        simp [lC]
        refine goT_of rT ?_
        simp [l22, hn, hnI, hE]
        exact fin
    · rw [if_pos hr] at hE
      have e1 : (rightE C != 0) = true := bne_iff_ne.2 hr
      simp [L13, ← hHA, lJ]
      refine goT_of vT ?_
      simp [lC]
      refine goT_of rT ?_
      simp [e1, hE]
      exact fin
  · rw [if_pos hv] at hE
    have e1 : (validE J != 0) = true := bne_iff_ne.2 hv
    simp [L13, ← hHA, lJ]
    refine goT_of vT ?_
    simp [e1, hE]
    exact fin
theorem bound_ok {J : Jb} {C : Cfg} {ab : Int} (hab : okW ab) (h : playE J C 0 = 0) : 0 ≤ (boundV J C ab).1 ∧ (boundV J C ab).1 ≤ 9223372036854775807 ∧ (boundV J C ab).2 = 0 := by
  unfold playE at h
  split at h
  · rename_i h1; exact absurd h h1
  rename_i h1
  split at h
  · rename_i h2; exact absurd h h2
  rename_i h2
  have hv : validE J = 0 := by simpa using h1
  have hr : rightE C = 0 := by simpa using h2
  obtain ⟨fn, hc0⟩ := fine_of hv hr
  obtain ⟨n0, n200, f1, f4, r0, r9, w1, w8, v1, v32⟩ := fn
  unfold boundV
  rw [if_neg h1, if_neg h2]
  have p1 : okW (plusV J.fuel 3) := by
    have := plusV_ok (a := J.fuel) (b := 3) ⟨by omega, by omega⟩ ⟨by omega, by omega⟩
    exact ⟨by omega, by omega⟩
  have t1 : okW (timesV (cntP J.S).1 (C.retry + 3)) := by
    have := timesV_ok (a := (cntP J.S).1) (b := C.retry + 3) ⟨by omega, by omega⟩ ⟨by omega, by omega⟩
    exact ⟨by omega, by omega⟩
  have t2 := timesV_ok t1 p1
  have t3 := timesV_ok hab p1
  have q := plusV_ok (a := timesV (timesV (cntP J.S).1 (C.retry + 3)) (plusV J.fuel 3)) (b := timesV ab (plusV J.fuel 3)) ⟨by omega, by omega⟩ ⟨by omega, by omega⟩
  exact ⟨q.1, q.2, rfl⟩
/-- How many rounds are left. -/
def restV (J : Jb) (C : Cfg) (l : List Ent) : Int × Int :=
  if playE J C l.length ≠ 0 then (0, playE J C l.length) else (mx0 ((boundV J C (roundsP C.workers l).a).1 - (roundsP C.workers l).r), 0)
theorem rest_T {H : Heap} (hw : H.WF) {J : Jb} (ok : JbOk H J) (C : Cfg) {a : Option Addr} {c : Nat} {l : List Ent} (hx : Rl H (.slice a l.length c) l) (hl : l.length ≤ 400) : T Tryz.prog 28 [.agg (runC J C (.slice a l.length c)).toArray] H (.tuple #[iv (restV J C l).1, iv (restV J C l).2]) H := by
  obtain ⟨E, hE⟩ : ∃ E, E = restV J C l := ⟨_, rfl⟩
  rw [← hE]
  unfold restV at hE
  refine T_seen hm light28 rfl ?_
  obtain ⟨HA, hHA⟩ : ∃ HA, HA = H.new 42 23 (runC J C (.slice a l.length c)) := ⟨_, rfl⟩
  have onA : On H HA := by rw [hHA]; exact (On.refl hw).new _ _ _
  have vA : Vr HA H.next 42 23 (runC J C (.slice a l.length c)) := by rw [hHA]; exact Vr.mk' hw _ _ _
  have rl := RL.of vA
  have lJ := rl.lJ
  have lC := rl.lC
  have l22 := rl.l22
  have lA := rl.lA
  have okA := ok.on hw onA
  have iT := iright_T onA.wf okA C a l.length c
  have fin := onA.keep
  have lW : HA.load ⟨H.next, 11, none⟩ = some (iv C.workers) := vA.load 11
  by_cases hp : playE J C l.length = 0
  · rw [if_neg (by simpa using hp)] at hE
    rw [hp] at iT
    have hp0 : playE J C 0 = 0 := by
      unfold playE at hp ⊢
      split at hp
      · rename_i h; rw [if_pos h]; exact hp
      · rename_i h
        rw [if_neg h]
        split at hp
        · rename_i h2; rw [if_pos h2]; exact hp
        · rename_i h2; rw [if_neg h2]; rfl
    have rT := rounds_T onA.wf (hx.on hw onA) (by omega) C.workers
    obtain ⟨r1, r2⟩ := rounds_le C.workers l
    obtain ⟨R, hR⟩ : ∃ R, R = roundsP C.workers l := ⟨_, rfl⟩
    rw [← hR] at rT r1 r2 hE
    have hab : okW (R.a : Int) := ⟨by omega, by omega⟩
    have bT := bound_T onA.wf okA C (R.a : Int) hab
    obtain ⟨b1, b2, b3⟩ := bound_ok hab hp0
    obtain ⟨B, hB⟩ : ∃ B, B = (boundV J C (R.a : Int)).1 := ⟨_, rfl⟩
    rw [← hB] at bT b1 b2 hE
    rw [b3] at bT
    have e1 : IntKind.i64.wrap (B - (R.r : Int)) = B - R.r := w64 _ (by omega)
    simp [L28, ← hHA, lA]
    refine goT_of iT ?_
    simp [l22, lW]
    refine goT_of rT ?_
    simp [lJ, lC]
    refine goT_of bT ?_
    simp [e1, hE]
    refine ⟨?_, fin⟩
    unfold mx0
    split <;> split <;> omega
  · rw [if_pos hp] at hE
    have e1 : (playE J C l.length != 0) = true := bne_iff_ne.2 hp
    simp [L28, ← hHA, lA]
    refine goT_of iT ?_
    simp [e1, hE]
    exact fin
theorem rests_T {H : Heap} (hw : H.WF) {J : Jb} (jb : Jb0 H J) (C : Cfg) {a : Option Addr} {c : Nat} {l : List Ent} (hx : Rl H (.slice a l.length c) l) : T Tryz.prog 8 [.agg (runC J C (.slice a l.length c)).toArray] H (.bool true) H := by
  refine T_seen hm light8 rfl ?_
  obtain ⟨HA, hHA⟩ : ∃ HA, HA = H.new 35 23 (runC J C (.slice a l.length c)) := ⟨_, rfl⟩
  have onA : On H HA := by rw [hHA]; exact (On.refl hw).new _ _ _
  have vA : Vr HA H.next 35 23 (runC J C (.slice a l.length c)) := by rw [hHA]; exact Vr.mk' hw _ _ _
  have rl := RL.of vA
  have lA := rl.lA
  have wA := onA.wf
  have gT := great24_T wA (jb.on hw onA) C (a := a) (n := l.length) (c := c) 400
  obtain ⟨g, hg⟩ : ∃ g, g = (greatV J || decide ((400 : Int) < (l.length : Int))) := ⟨_, rfl⟩
  rw [← hg] at gT
  cases g with
  | true =>
    simp [L8, ← hHA, lA]
    refine goT_of gT ?_
    simp
    exact onA.keep
  | false =>
  have hg' := hg.symm
  simp only [Bool.or_eq_false_iff, decide_eq_false_iff_not] at hg'
  obtain ⟨hgJ, hl⟩ := hg'
  have hl : l.length ≤ 400 := by omega
  have ok := ok_of jb hgJ
  have okA := ok.on hw onA
  have hxA := hx.on hw onA
  have pA := play_E wA J C a l.length c
  obtain ⟨R0, hR0⟩ : ∃ R, R = restV J C l := ⟨_, rfl⟩
  simp [L8, ← hHA, lA]
  refine goT_of gT ?_
  simp [lA]
  refine goA_of wA pA ?_
  rintro o H1 ⟨rfl, on1⟩ w1 b1 n1
  have rT := rest_T w1 (okA.on wA on1) C (hxA.on wA on1) hl
  have lA1 : H1.loadN ⟨H.next, 0, none⟩ 0 23 = some (runC J C (.slice a l.length c)) := (RL.of (vA.on wA on1)).lA
  have pB := play_E w1 J C a l.length c
  rw [← hR0] at rT
  refine goT_of rT ?_
  simp [lA1]
  refine goA_of w1 pB ?_
  rintro o H2 ⟨rfl, on2⟩ w2 b2 n2
  have onA2 := on1.trans on2
  have ok2 := okA.on wA onA2
  have iT := iright_T w2 ok2 C a l.length c
  have rl2 := RL.of (vA.on wA onA2)
  have lA2 := rl2.lA
  have onH2 := onA.trans onA2
  refine goT_of iT ?_
  unfold restV at hR0
  by_cases hp : playE J C l.length = 0
  · rw [if_neg (by simpa using hp)] at hR0
    rw [hp]
    have hp0 : playE J C 0 = 0 := by
      unfold playE at hp ⊢
      split at hp
      · rename_i h; rw [if_pos h]; exact hp
      · rename_i h
        rw [if_neg h]
        split at hp
        · rename_i h2; rw [if_pos h2]; exact hp
        · rename_i h2; rw [if_neg h2]; rfl
    have lJ := rl2.lJ
    have lC := rl2.lC
    have l22 := rl2.l22
    have lW : H2.load ⟨H.next, 11, none⟩ = some (iv C.workers) := (vA.on wA onA2).load 11
    have roT := rounds_T w2 (hxA.on wA onA2) (by omega) C.workers
    obtain ⟨r1, r2⟩ := rounds_le C.workers l
    obtain ⟨R, hR⟩ : ∃ R, R = roundsP C.workers l := ⟨_, rfl⟩
    rw [← hR] at roT r1 r2 hR0
    have hab : okW (R.a : Int) := ⟨by omega, by omega⟩
    have bT := bound_T w2 ok2 C (R.a : Int) hab
    obtain ⟨b1', b2', b3⟩ := bound_ok hab hp0
    obtain ⟨B, hB⟩ : ∃ B, B = (boundV J C (R.a : Int)).1 := ⟨_, rfl⟩
    rw [← hB] at bT b1' b2' hR0
    rw [b3] at bT
    have al := alive_T H2
    simp [l22, lW]
    refine goT_of roT ?_
    simp [lJ, lC]
    refine goT_of bT ?_
    by_cases hlt : B < R.r
    · have e2 : mx0 (B - R.r) = 0 := by unfold mx0; rw [if_pos (by omega)]
      simp [hlt, hR0, e2]
      refine goT_of al ?_
      simp
      exact onH2.keep
    · have e1 : IntKind.i64.wrap (B - (R.r : Int)) = B - R.r := w64 _ (by omega)
      have e2 : mx0 (B - R.r) = B - R.r := by unfold mx0; rw [if_neg (by omega)]
      simp [hlt, hR0, e2, e1]
      refine goT_of al ?_
      simp
      exact onH2.keep
  · rw [if_pos hp] at hR0
    have e1 : (playE J C l.length != 0) = true := bne_iff_ne.2 hp
    have pC := play_E w2 J C a l.length c
    simp [e1, lA2]
    refine goA_of w2 pC ?_
    rintro o H3 ⟨rfl, on3⟩ w3 b3 n3
    have onA3 := onA2.trans on3
    have iT3 := iright_T w3 (okA.on wA onA3) C a l.length c
    have al := alive_T H3
    have onH3 := onA.trans onA3
    refine goT_of iT3 ?_
    simp [hR0]
    refine goT_of al ?_
    simp
    exact onH3.keep
set_option maxRecDepth 100000 in
theorem rd_run2 {H : Heap} (ds : List Value) (h : Rd Tryz.prog H 7 35 ds) : ∃ (J : Jb) (C : Cfg) (a : Option Addr) (c : Nat) (l : List Ent), ds = runC J C (.slice a l.length c) ∧ Jb0 H J ∧ Rl H (.slice a l.length c) l := by
  obtain ⟨J, C, a, n, c, rfl, hJ⟩ := rd_run ds h
  have c33 : Tryz.prog.cellsOf 33 = 1 := by kernel_rfl
  have g2 := rd_field Tryz.underlying35 h 2 rfl c33
  have g2 : Rd Tryz.prog H (3 + 3) 33 [.slice a n c] := g2
  obtain ⟨l, hl, _⟩ := rd_ents (m := 3) g2
  obtain ⟨a', c', he⟩ := hl.len
  simp only [Value.slice.injEq] at he
  obtain ⟨_, rfl, _⟩ := he
  exact ⟨J, C, a, c, l, rfl, hJ, hl⟩
set_option maxRecDepth 100000 in
theorem rests_U {H : Heap} (hw : H.WF) {cs : List Value} (h0 : Rd Tryz.prog H 7 35 cs) : ∃ v H', T Tryz.prog 8 [.agg cs.toArray] H v H' ∧ v = .bool true := by
  obtain ⟨J, C, a, c, l, rfl, hJ, hl⟩ := rd_run2 cs h0
  exact ⟨_, _, rests_T hw hJ C hl, rfl⟩
end Go.Proofs.YtnomffikflfilaaGreat
