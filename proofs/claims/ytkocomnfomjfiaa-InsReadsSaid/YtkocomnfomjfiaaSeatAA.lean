/-
  Chapter 8: a text taken up, by the program.
-/
import Derived.Test.YtkocomnfomjfiaaSeatZ
namespace Go.Proofs.Ytkocomnfomjfiaa
open Go.Ot Go.RowKit
set_option linter.unusedSimpArgs false
set_option linter.unusedVariables false
theorem a22_0 : A22 0 = .region [⟨some 24, .bin .lss (.tmp 23) (.tmp 22), none⟩] := rfl
theorem a22_1 : A22 1 = .cond (.tmp 24) (.skip) (.exit 0) := rfl
theorem a22_2 : A22 2 = .region [⟨some 25, .move (.tmp 6), none⟩, ⟨some 26, .call 39 [.tmp 25], none⟩, ⟨some 27, .build [.int .i64 0, .int .i64 0, .int .i64 0, .int .i64 0, .int .i64 0, .int .i64 0] [(0, 1, .tmp 26)], none⟩, ⟨some 9, .new 25 6 [.int .i64 0, .int .i64 0, .int .i64 0, .int .i64 0, .int .i64 0, .int .i64 0], none⟩, ⟨none, .store 6 (.tmp 9) (.tmp 27), none⟩] := rfl
theorem a22_3 : A22 3 = .region [⟨some 29, .off 0 (.tmp 9), none⟩, ⟨some 30, .load false 1 (.tmp 29), none⟩, ⟨some 31, .call 26 [.tmp 30], none⟩, ⟨some 28, .move (.tmp 31), none⟩, ⟨some 32, .extract (.tmp 28) 0, none⟩, ⟨some 33, .extract (.tmp 28) 1, none⟩, ⟨some 10, .new 53 8 [.bool false, .bool false, .bool false, .bool false, .bool false, .bool false, .bool false, .bool false], none⟩, ⟨none, .store 8 (.tmp 10) (.tmp 32), none⟩, ⟨some 11, .move (.tmp 33), none⟩] := rfl
theorem a22_4 : A22 4 = .seq (.region [⟨some 34, .move (.tmp 6), none⟩, ⟨some 35, .call 40 [.tmp 34], none⟩, ⟨some 12, .move (.tmp 35), none⟩]) (.seq (.region [⟨some 36, .move (.tmp 12), none⟩, ⟨some 37, .bin .neq (.tmp 36) (.const (.int .i64 0)), none⟩]) (.cond (.tmp 37) (.seq (.region [⟨some 38, .move (.tmp 12), none⟩, ⟨some 4, .move (.const (.slice none 0 0)), none⟩, ⟨some 5, .move (.tmp 38), none⟩]) (.ret)) (.skip))) := rfl
theorem a22_5 : A22 5 = .seq (.region [⟨some 39, .move (.tmp 11), none⟩, ⟨some 40, .un .not (.tmp 39), none⟩]) (.cond (.tmp 40) (.seq (.region [⟨some 4, .move (.const (.slice none 0 0)), none⟩, ⟨some 5, .move (.const (.int .i64 21)), none⟩]) (.ret)) (.skip)) := rfl
theorem a22_10 : A22 10 = .region [⟨some 89, .bin .add (.tmp 23) (.const (.int .i64 1)), none⟩, ⟨some 23, .move (.tmp 89), none⟩] := rfl
def InvDc (H : Heap) (p : Nat) (xr : Value) (b : List Nat) (cells : Int) (n : Nat) (want : Nat × List In × List Nat × Nat) (k : Nat) (t : Tm) (G : Heap) : Prop :=
  ∃ (i : Nat) (l : List Nat) (f : Nat) (acc : List In) (y : Value), i + k = n ∧ acc.length = i ∧ t 1 = iv cells ∧ t 6 = ptr p ∧ t 8 = y ∧ t 22 = iv (n : Nat) ∧ t 23 = iv (i : Nat) ∧ Rn H G p xr b l f ∧
    Own G 25 6 acc.length (acc.map rowI).flatten y ∧ (∀ c, blkOf y = some c → H.next ≤ c) ∧ loopS 256 k l f acc = want
def DecQ (H : Heap) (r : List In × Int) (v : Value) (H' : Heap) : Prop := ∃ y, v = .tuple #[y, iv r.2] ∧ Rws H' 6 y (r.1.map rowI) ∧ Same H H' []
theorem round_w {H G : Heap} {p : Nat} {xr y : Value} {b l : List Nat} {f i n k : Nat} {cells : Int} {acc : List In} {want : Nat × List In × List Nat × Nat} (hin : i + (k + 1) = n) (hn : n ≤ 1000000) (hacc : acc.length = i) {t : Tm} (t1 : t 1 = iv cells) (t6 : t 6 = ptr p) (t8 : t 8 = y) (t22 : t 22 = iv (n : Nat)) (t23 : t 23 = iv (i : Nat))
    (R : Rn H G p xr b l f) (own : Own G 25 6 acc.length (acc.map rowI).flatten y) (yn : ∀ c, blkOf y = some c → H.next ≤ c) (hw : loopS 256 (k + 1) l f acc = want) {Q : Post} {K : Tm → Heap → Prop}
    (hR : ∀ (t' : Tm) (G' : Heap) (e : Nat), want = (e, [], l, f) → e ≠ 0 → G'.base = H.base → Same H G' [p] → t' 4 = .slice none 0 0 → t' 5 = iv (e : Int) → Q .ret t' (rdy G'))
    (hN : ∀ t' G', (∃ m, m < k + 1 ∧ InvDc H p xr b cells n want m t' G') → K t' (rdy G')) : wpA Try.prog L22_2 (thenA K Q) t (rdy G) := by
  have hwG := R.wf
  have hnH := R.next
  have hpp := R.hp
  have hi : (i : Int) < (n : Int) := by omega
  have hi' : i < n := by omega
  have T1 := rsmall_T R.rs
  have R1 := R.step (rdP 256 l f).2.2 (rdP_suf 256 l f)
  have O1 : ∀ q, q ≠ p → (G.put p (rsC xr b (rdP 256 l f).2.1 (rdP 256 l f).2.2)).blk q = G.blk q := fun q h => by simp [h]
  unfold loopS at hw
  obtain ⟨kk, hkk⟩ : ∃ kk, kk = (rdP 256 l f).1 := ⟨_, rfl⟩
  obtain ⟨l1, hl1⟩ : ∃ l1, l1 = (rdP 256 l f).2.1 := ⟨_, rfl⟩
  obtain ⟨f1, hf1⟩ : ∃ f1, f1 = (rdP 256 l f).2.2 := ⟨_, rfl⟩
  have hrd : rdP 256 l f = (kk, l1, f1) := by rw [hkk, hl1, hf1]
  rw [hrd] at T1 R1 O1 hw
  simp only at T1 R1 O1 hw
  obtain ⟨G1, hG1⟩ : ∃ G1, G1 = G.put p (rsC xr b l1 f1) := ⟨_, rfl⟩
  rw [← hG1] at T1 R1 O1
  have n1 : G1.next = G.next := by rw [hG1]; simp
  have st2 := new_storeA R1.wf 25 6 [.int .i64 0, .int .i64 0, .int .i64 0, .int .i64 0, .int .i64 0, .int .i64 0] (rowI (newI kk)) rfl rfl (by decide)
  obtain ⟨G2, hG2⟩ : ∃ G2, G2 = G1.new 25 6 (rowI (newI kk)) := ⟨_, rfl⟩
  have R2 : Rn H G2 p xr b l1 f1 := by rw [hG2]; exact R1.new _ _ _
  have V2 : Vr G2 G1.next 25 6 (rowI (newI kk)) := by rw [hG2]; exact Vr.mk' R1.wf _ _ _
  have n2 : G2.next = G.next + 1 := by rw [hG2]; simp [n1]
  have O2 : ∀ q, q < G.next → q ≠ p → G2.blk q = G.blk q := fun q h1 h2 => by rw [hG2]; simp [show q ≠ G1.next by omega]; exact O1 q h2
  rw [← hG2] at st2
  have lk2 : G2.load ⟨G1.next, 0, none⟩ = some (iv kk) := V2.load 0
  obtain ⟨v3, G3, T3, rfl, s3⟩ := shape_T R2.wf kk
  have R3 := R2.call T3 s3
  have n3 := T3.grow.next
  have V3 : Vr G3 G1.next 25 6 (rowI (newI kk)) := V2.keep T3.1 (s3 _ (by omega) (by simp))
  obtain ⟨sh, hsh⟩ : ∃ sh, sh = shp kk := ⟨_, rfl⟩
  obtain ⟨va, hva⟩ : ∃ va, va = valid kk := ⟨_, rfl⟩
  rw [← hsh, ← hva] at T3
  rw [← hsh, ← hva] at hw
  have st4 := new_storeA R3.wf 53 8 [.bool false, .bool false, .bool false, .bool false, .bool false, .bool false, .bool false, .bool false] (rowS sh) rfl rfl (by decide)
  obtain ⟨G4, hG4⟩ : ∃ G4, G4 = G3.new 53 8 (rowS sh) := ⟨_, rfl⟩
  have R4 : Rn H G4 p xr b l1 f1 := by rw [hG4]; exact R3.new _ _ _
  have V4 : Vr G4 G1.next 25 6 (rowI (newI kk)) := by rw [hG4]; exact V3.new R3.wf _ _ _
  have S4 : Vr G4 G3.next 53 8 (rowS sh) := by rw [hG4]; exact Vr.mk' R3.wf _ _ _
  rw [← hG4] at st4
  have O4 : ∀ q, q < G.next → q ≠ p → G4.blk q = G.blk q := fun q h1 h2 => by rw [hG4]; simp [show q ≠ G3.next by omega]; rw [s3 q (by omega) (by simp)]; exact O2 q h1 h2
  have T5 := fail_S R4.rs
  rw [L22_2_eq]
  simp [a22_0, a22_1, a22_2, a22_3, t22, t23, t6, hi']
  refine goT_of T1 ?_
  have st2' : sStore (G1.new 25 6 [.int .i64 0, .int .i64 0, .int .i64 0, .int .i64 0, .int .i64 0, .int .i64 0]) 6 (.pointer (some ⟨G1.next, 0, none⟩)) (.agg #[.int .i64 (kk : Int), .int .i64 0, .int .i64 0, .int .i64 0, .int .i64 0, .int .i64 0]) = some G2 := st2
  simp [st2', lk2]
  refine goT_of T3 ?_
  simp [st4]
  rw [a22_4]
  simp [t6]
  refine goT_of T5 ?_
  by_cases hf0 : f1 = 0
  case neg =>
    have hf0' : ((f1 : Int) != 0) = true := bne_iff_ne.2 (by omega)
    rw [if_pos hf0] at hw
    simp [hf0]
    exact hR _ G4 f1 hw.symm hf0 R4.base R4.same (by simp) (by simp)
  subst hf0
  rw [if_neg (by simp : ¬ (0 : Nat) ≠ 0)] at hw
  simp [a22_5]
  cases va with
  | false =>
    rw [if_pos rfl] at hw
    simp
    exact hR _ G4 21 hw.symm (by decide) R4.base R4.same (by simp) (by simp)
  | true =>
    rw [if_neg (by simp)] at hw
    simp
    have n4 : G3.next < G4.next := by rw [hG4]; simp
    have hs1 : G3.next ≠ p := by omega
    have hs2 : G3.next ≠ G1.next := by omega
    refine op_w (s0 := (newI kk, l1, 0)) R4 (by omega) V4 S4 (by simp [t6]) (by simp) (by simp) (fun ta Ga Ka Ra Va Oa => ?_)
    have Sa := Oa.vr R4.wf S4 hs1 hs2
    rw [thenA_normal, wpA_seq]
    refine tab_w Ra (by omega) Va Sa (by rw [Ka.k6]; simp [t6]) (by rw [Ka.k9]; simp) (by rw [Ka.k10]; simp) (fun tb Gb Kb Rb Vb Ob => ?_)
    have Sb := Ob.vr Ra.wf Sa hs1 hs2
    have Kb' := Ka.trans Kb
    rw [thenA_normal, wpA_seq]
    refine k_w Rb (by omega) Vb Sb (by rw [Kb'.k6]; simp [t6]) (by rw [Kb'.k9]; simp) (by rw [Kb'.k10]; simp) (fun tc Gc Kc Rc Vc Oc => ?_)
    have Kc' := Kb'.trans Kc
    have Oc' := (Oa.trans Ob).trans Oc
    rw [thenA_normal]
    have ownc : Own Gc 25 6 acc.length (acc.map rowI).flatten y := own.keep (B_eq (Oc'.base.trans (R4.base.trans R.base.symm))) (fun c hc => by
      have h1 := own.lt hwG hc
      have h2 := yn c hc
      rw [Oc'.old c (by omega) (by omega) (by omega)]
      exact O4 c h1 (by omega))
    have hps : partsS 256 sh (newI kk, l1, 0) = stK sh.k (it3 256 sh 3 (stU 256 (sh.one || sh.two) setOp (newI kk, l1, 0))) := rfl
    rw [hps] at hw
    obtain ⟨fs, hfs⟩ : ∃ fs, fs = stK sh.k (it3 256 sh 3 (stU 256 (sh.one || sh.two) setOp (newI kk, l1, 0))) := ⟨_, rfl⟩
    rw [← hfs] at hw Rc Vc
    refine app_w Rc Vc ownc yn (by omega) (by rw [Kc'.k8]; simp [t8]) (by rw [Kc'.k9]; simp) (fun td Gd yd d0 d1 d6 d8 d22 d23 Rd' ownd ynd => ?_)
    have e3 : IntKind.i64.wrap ((i : Int) + 1) = ((i + 1 : Nat) : Int) := by rw [w64 _ (by omega)]; omega
    obtain ⟨i1, hi1⟩ : ∃ i1, i1 = i + 1 := ⟨_, rfl⟩
    rw [← hi1] at e3
    have f23 : td 23 = iv (i : Nat) := by rw [d23, Kc'.k23]; simp [t23]
    simp [a22_10, f23, e3]
    refine hN _ _ ⟨k, Nat.lt_succ_self k, i1, fs.2.1, fs.2.2, acc ++ [fs.1], yd, by omega, by simp [hacc, hi1], ?_, ?_, ?_, ?_, by simp, Rd', ownd, ynd, hw⟩
    · simp [d1, Kc'.k1, t1]
    · simp [d6, Kc'.k6, t6]
    · simp [d8]
    · simp [d22, Kc'.k22, t22]
theorem rows_rws {H : Heap} {l : List In} {y : Value} (own : Own H 25 6 l.length (l.map rowI).flatten y) : Rws H 6 y (l.map rowI) := by
  refine Own.rws (ety := 25) (by intro r hr; obtain ⟨q, _, rfl⟩ := List.mem_map.1 hr; rfl) ?_
  simpa using own
theorem decode_T {H : Heap} (hw : H.WF) {x : Value} {b : List Nat} (hx : Bs H x b) (hlt : ∀ c ∈ b, c < 256) (hlen : b.length ≤ 1000000) (cells : Int) :
    ∃ v H', T Try.prog 22 [x, iv cells] H v H' ∧ DecQ H (decS 256 b cells) v H' := by
  refine T_by hm light22 ?_
  obtain ⟨v1, HB, T1, p, xr, rfl, hrd, hpn, wB, bB, sB, hxlt, hxge⟩ := read_T2 hw hx hlt (by omega)
  have rsB : RS HB p xr b b 0 := ⟨by simpa using hrd, List.suffix_refl _⟩
  have nB := T1.grow.next
  have T2 := rcount_T rsB 1 (by unfold okI2; omega)
  have RC := (Rn.refl wB rsB hxlt).step (countS b 0 1).2.2 (countS_suf b 0 1)
  have hsm : (countS b 0 1).1 ≤ b.length := by
    by_cases h : (countS b 0 1).2.2 = 0
    · exact Nat.le_trans (countS_le b 0 1 h) (countS_suf b 0 1).length_le
    · have : (countS b 0 1).1 = 0 := by
        unfold countS at h ⊢
        split
        · rfl
        · rename_i h1
          rw [if_neg h1] at h
          exact uS_fail b 0 h
      omega
  unfold decS
  obtain ⟨n, hn⟩ : ∃ n, n = (countS b 0 1).1 := ⟨_, rfl⟩
  obtain ⟨l1, hl1⟩ : ∃ l1, l1 = (countS b 0 1).2.1 := ⟨_, rfl⟩
  obtain ⟨f1, hf1⟩ : ∃ f1, f1 = (countS b 0 1).2.2 := ⟨_, rfl⟩
  rw [← hn, ← hl1, ← hf1] at T2 ⊢
  rw [← hl1, ← hf1] at RC
  rw [← hn] at hsm
  obtain ⟨want, hwant⟩ : ∃ want, want = loopS 256 n l1 f1 [] := ⟨_, rfl⟩
  rw [← hwant]
  obtain ⟨G0, hG0⟩ : ∃ G0, G0 = HB.put p (rsC xr b l1 f1) := ⟨_, rfl⟩
  rw [← hG0] at T2 RC
  have smH : ∀ G : Heap, Same HB G [p] → Same H G [] := fun G h c hc _ => (h c (by omega) (by simp; omega)).trans (sB c hc (by simp))
  obtain ⟨r, hr⟩ : ∃ r, r = endS cells want := ⟨_, rfl⟩
  rw [← hr]
  simp [L22]
  refine goT_of T1 ?_
  simp
  refine goT_of T2 ?_
  simp
  refine loop_at (InvDc HB p xr b cells n want) n ?_ ?_
  · exact ⟨0, l1, f1, [], .slice none 0 0, by omega, rfl, by simp, by simp, by simp, by simp, by simp, RC, by simpa using Own.nil G0 25 6, by simp, hwant.symm⟩
  · rintro k t G ⟨i, l, f, acc, y, hik, hacc, t1, t6, t8, t22, t23, R, own, yn, hw3⟩
    cases k with
    | succ k =>
      refine round_w hik (by omega) hacc t1 t6 t8 t22 t23 R own yn hw3 (fun t' G' e he h0 hb hsm' h4 h5 => ?_) (fun t' G' h => h)
      have hre : r = ([], (e : Int)) := by rw [hr, he]; unfold endS; rw [if_pos h0]
      subst hre
      simp [h4, h5, packV]
      exact ⟨_, rfl, .inl ⟨rfl, rfl⟩, smH G' hsm'⟩
    | zero =>
      have ei : i = n := by omega
      subst ei
      have hw4 : want = (0, acc, l, f) := hw3.symm
      have T3 := rend_T R.rs
      have hrw := rows_rws own
      obtain ⟨v4, G4, T4, rfl, s4⟩ := check_T R.wf hrw cells
      have hrw4 : Rws G4 6 y (acc.map rowI) := hrw.keep R.wf T4.1 (fun c hc => s4 c hc (by simp))
      obtain ⟨e1, he1⟩ : ∃ e1, e1 = endN l f := ⟨_, rfl⟩
      obtain ⟨e2, he2⟩ : ∃ e2, e2 = (checkV acc cells).2 := ⟨_, rfl⟩
      rw [← he1] at T3
      rw [← he2] at T4
      have hr2 : r = if e1 ≠ 0 then ([], (e1 : Int)) else if e2 ≠ 0 then ([], e2) else (acc, 0) := by
        rw [hr, hw4]
        unfold endS
        simp only
        rw [if_neg (by simp : ¬ (0 : Nat) ≠ 0), ← he1, ← he2]
      have hn4 := R.next
      have sm4 : Same H G4 [] := fun c hc hc2 => (s4 c (by omega) (by simp)).trans (smH G R.same c hc hc2)
      obtain ⟨ya, hya⟩ := own.len
      by_cases h1 : e1 = 0
      case neg =>
        rw [if_pos h1] at hr2
        subst hr2
        rw [L22_2_eq]
        simp [a22_0, a22_1, t22, t23, t6]
        refine goT_of T3 ?_
        simp [h1, packV]
        exact ⟨_, rfl, .inl ⟨rfl, rfl⟩, smH G R.same⟩
      subst h1
      rw [if_neg (by simp : ¬ (0 : Nat) ≠ 0)] at hr2
      by_cases h2 : e2 = 0
      case neg =>
        have h2' : (e2 != 0) = true := by simp [h2]
        rw [if_pos h2] at hr2
        subst hr2
        rw [L22_2_eq]
        simp [a22_0, a22_1, t22, t23, t6]
        refine goT_of T3 ?_
        simp [t1, t8]
        refine goT_of T4 ?_
        simp [h2', packV]
        exact ⟨_, rfl, .inl ⟨rfl, rfl⟩, sm4⟩
      rw [if_neg (by simpa using h2)] at hr2
      have h2' : (e2 != 0) = false := by simp [h2]
      subst hr2
      rw [L22_2_eq]
      simp [a22_0, a22_1, t22, t23, t6]
      refine goT_of T3 ?_
      simp [t1, t8]
      refine goT_of T4 ?_
      have hny : notTup y = true := by rw [hya]; rfl
      simp [h2', packV, t8, hny]
      exact ⟨_, rfl, hrw4, sm4⟩
end Go.Proofs.Ytkocomnfomjfiaa
