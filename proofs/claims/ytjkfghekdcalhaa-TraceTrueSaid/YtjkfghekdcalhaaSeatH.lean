/-
  Chapter 27: an event, whatever it is.
-/
import Derived.Test.YtjkfghekdcalhaaSeatG
namespace Go.Proofs.Ytjkfghekdcalhaa
open Go.Ot Go.RowKit
open R14 (Twos ci joinV addN ontoN)
set_option linter.unusedSimpArgs false
set_option linter.unusedVariables false
set_option maxHeartbeats 4000000 in
theorem event_N {H0 H : Heap} (hw0 : H0.WF) {p : Nat} {ow : Nat → Nat} {J : Jb} {n : Int} {wh : Bool} {S : BS} {pt : List Value} {xm xo xr : Value} (B : BK H0 H p ow J n wh S pt xm xo xr) (ok : JbOk H0 J) {k : Nat} (sok : SOk J k S) (hk : k ≤ 300) (hv : validE J = 0) (hn : n ≤ 200) (hnc : n = (cntP J.S).1) (x : Ev) :
    TE Try.prog 28 [ptr p, .agg (evC x).toArray] H (EvQ H0 p J n wh (stepE wh J n S x)) := by
  refine TE_by hm light28 ?_
  have hw := B.on.wf
  obtain ⟨HA, hHA⟩ : ∃ HA, HA = H.new 58 6 (evC x) := ⟨_, rfl⟩
  obtain ⟨vx, hvx⟩ : ∃ vx, vx = H.next := ⟨_, rfl⟩
  have A : EA H0 HA p (ow2 ow vx 7777) J n wh S pt xm xo xr vx x := by
    rw [hHA, hvx]
    exact ⟨B.grow ((On.refl hw).new _ _ _) (fun b hb => by unfold ow2; rw [if_neg (by omega)]), Vr.mk' hw _ _ _, by unfold ow2; rw [if_pos rfl]⟩
  have hHA2 : H.new 58 6 [iv x.kind, iv x.who, iv x.age, iv x.at', iv x.value, iv x.from'] = HA := hHA.symm
  have L := BL.of A.bk.vp A.bk.pl
  have wA := A.bk.on.wf
  have a0 : HA.load ⟨vx, 0, none⟩ = some (iv x.kind) := A.v.load 0
  have a1 : HA.load ⟨vx, 1, none⟩ = some (iv x.who) := A.v.load 1
  have a2 : HA.load ⟨vx, 2, none⟩ = some (iv x.age) := A.v.load 2
  have a3 : HA.load ⟨vx, 3, none⟩ = some (iv x.at') := A.v.load 3
  have a4 : HA.load ⟨vx, 4, none⟩ = some (iv x.value) := A.v.load 4
  have a5 : HA.load ⟨vx, 5, none⟩ = some (iv x.from') := A.v.load 5
  have aA : HA.loadN ⟨vx, 0, none⟩ 0 6 = some [iv x.kind, iv x.who, iv x.age, iv x.at', iv x.value, iv x.from'] := A.v.loadA rfl
  have lT := lean_T wA x
  have z2 : zerosA [iv 0, iv 0] 2 = [iv 0, iv 0] := rfl
  have z1 : zerosA [iv 0] 1 = [iv 0] := rfl
  obtain ⟨R, hR⟩ : ∃ R, R = stepE wh J n S x := ⟨_, rfl⟩
  rw [← hR]
  unfold stepE at hR
  obtain ⟨f1, hf1⟩ : ∃ b, b = (S.fo != 0) := ⟨_, rfl⟩
  have lf := L.lf
  have lc := L.lc
  have l11 := L.l11
  cases f1 with
  | true =>
    rw [if_pos (.inl (by simpa using hf1.symm))] at hR
    subst hR
    simp [L28, hHA2, ← hvx, lf, ← hf1]
    exact ⟨A.bk.on, .inl ⟨rfl, rfl⟩⟩
  | false =>
  have f0 : ¬ S.fo ≠ 0 := by simpa using hf1.symm
  by_cases g1 : x.age < S.count
  · rw [if_pos (.inr (.inl g1))] at hR
    subst hR
    simp [L28, hHA2, ← hvx, lf, ← hf1, a2, lc, g1]
    exact ⟨A.bk.on, .inl ⟨rfl, rfl⟩⟩
  by_cases g2 : n ≤ x.age
  · rw [if_pos (.inr (.inr (.inl g2)))] at hR
    subst hR
    simp [L28, hHA2, ← hvx, lf, ← hf1, a2, lc, g1, l11, g2]
    exact ⟨A.bk.on, .inl ⟨rfl, rfl⟩⟩
  cases hl : leanV x with
  | false =>
    rw [if_pos (.inr (.inr (.inr hl)))] at hR
    subst hR
    rw [hl] at lT
    simp [L28, hHA2, ← hvx, lf, ← hf1, a2, lc, g1, l11, g2, aA]
    refine goT_of lT ?_
    simp
    exact ⟨A.bk.on, .inl ⟨rfl, rfl⟩⟩
  | true =>
  rw [if_neg (by simp [f0, g1, g2, hl])] at hR
  rw [hl] at lT
  obtain ⟨a, ha⟩ : ∃ a : Nat, x.age = a := ⟨x.age.toNat, by omega⟩
  have ha' : x.age.toNat = a := by omega
  rw [ha'] at hR
  have h200 : a < 200 := by omega
  have ix : sIdxArr 200 1 (.pointer (some ⟨p, 12, none⟩)) (iv x.age) = some (.pointer (some ⟨p, 12 + a, none⟩)) := by
    rw [ha]
    have c1 : (0 : Int) ≤ a ∧ (a : Int) < 200 := by omega
    simp [sIdxArr, c1, add_own, h200]
  have lt := L.lt a h200
  simp [L28, hHA2, ← hvx, lf, ← hf1, a2, lc, g1, l11, g2, aA]
  refine goT_of lT ?_
  have nB : (HA.new 109 4 [.slice none 0 0, .slice none 0 0, .slice none 0 0, .slice none 0 0]).load ⟨vx, 2, none⟩ = some (iv x.age) := (A.v.on wA ((On.refl wA).new _ _ _)).load 2
  have stB := begin_S A h200
  by_cases h1 : x.kind = 1
  · have e1 : (x.kind == 1) = true := by simp [h1]
    obtain ⟨HD, sD, onD, vD, bD⟩ := stB
    have d1 : HD.load ⟨vx, 1, none⟩ = some (iv x.who) := vD.load 1
    rcases A.bk.tr a h200 with ⟨ht, hp⟩ | ⟨t, q, yr, yw, yo, yi, ht, hp, T⟩
    · rw [hp] at lt
      unfold stepR at hR
      rw [if_pos h1] at hR
      by_cases w0 : 0 ≤ x.who
      · by_cases w8 : x.who < 8
        · rw [if_pos ⟨ht, w0, w8⟩] at hR
          simp [ix, lt, a0, e1, a2, nB, sD, d1, w0, w8]
          exact ⟨onD, .inr ⟨_, _, _, _, _, _, hR, rfl, bD ht⟩⟩
        · rw [if_neg (by simp [w8])] at hR
          simp [ix, lt, a0, e1, a2, nB, sD, d1, w0, w8]
          exact ⟨onD, .inl ⟨hR, rfl⟩⟩
      · rw [if_neg (by simp [w0])] at hR
        simp [ix, lt, a0, e1, a2, nB, sD, d1, w0]
        exact ⟨onD, .inl ⟨hR, rfl⟩⟩
    · rw [hp] at lt
      unfold stepR at hR
      rw [if_pos h1, if_neg (by rw [ht]; simp)] at hR
      simp [ix, lt, a0, e1, a2, nB, sD]
      exact ⟨onD, .inl ⟨hR, rfl⟩⟩
  have e1 : (x.kind == 1) = false := by simp [h1]
  unfold stepR at hR
  rw [if_neg h1] at hR
  rcases A.bk.tr a h200 with ⟨ht, hp⟩ | ⟨t, q, yr, yw, yo, yi, ht, hp, T⟩
  · rw [hp] at lt
    rw [ht] at hR
    simp [ix, lt, a0, a2, e1]
    exact ⟨A.bk.on, .inl ⟨hR, rfl⟩⟩
  rw [hp] at lt
  rw [ht] at hR
  simp only at hR
  have tok := sok.tr a t ht
  by_cases h2 : x.kind = 2
  · have e2 : (x.kind == 2) = true := by simp [h2]
    rw [if_pos h2] at hR
    obtain ⟨HC, HD, ap, sD, q1, q2, AD⟩ := push_r A h200 hp T (x.at', x.value) (by have := tok.lr; omega)
    have wd := word_T (BL.of AD.bk.vp AD.bk.pl) x.at'
    have d3 : HD.load ⟨vx, 3, none⟩ = some (iv x.at') := AD.v.load 3
    have d5 : HD.load ⟨vx, 5, none⟩ = some (iv x.from') := AD.v.load 5
    have d2 : HD.load ⟨vx, 2, none⟩ = some (iv x.age) := AD.v.load 2
    simp [ix, lt, a0, a2, z2, e1, e2, q1, q2, a3, a4, ap, sD, d3]
    refine goT_of wd ?_
    by_cases w0 : wordB J.words x.at' = true
    · by_cases w1 : -1 ≤ x.from'
      · by_cases w2 : x.from' < x.age
        · rw [if_pos ⟨w0, w1, w2⟩] at hR
          simp [w0, d5, d2, w1, w2]
          exact ⟨AD.bk.on, .inr ⟨_, _, _, _, _, _, hR, rfl, AD.bk⟩⟩
        · rw [if_neg (by simp [w2])] at hR
          simp [w0, d5, d2, w1, w2]
          exact ⟨AD.bk.on, .inl ⟨hR, rfl⟩⟩
      · rw [if_neg (by simp [w1])] at hR
        simp [w0, d5, d2, w1]
        exact ⟨AD.bk.on, .inl ⟨hR, rfl⟩⟩
    · rw [if_neg (by simp [w0])] at hR
      have w0' : wordB J.words x.at' = false := by simpa using w0
      simp [w0']
      exact ⟨AD.bk.on, .inl ⟨hR, rfl⟩⟩
  have e2 : (x.kind == 2) = false := by simp [h2]
  rw [if_neg h2] at hR
  by_cases h3 : x.kind = 3
  · have e3 : (x.kind == 3) = true := by simp [h3]
    rw [if_pos h3] at hR
    obtain ⟨HC, HD, ap, sD, q1, q2, AD⟩ := push_w A h200 hp T (x.at', x.value) (by have := tok.lw; omega)
    have wd := word_T (BL.of AD.bk.vp AD.bk.pl) x.at'
    have d3 : HD.load ⟨vx, 3, none⟩ = some (iv x.at') := AD.v.load 3
    simp [ix, lt, a0, a2, z2, e1, e2, e3, q1, q2, a3, a4, ap, sD, d3]
    refine goT_of wd ?_
    by_cases w0 : wordB J.words x.at' = true
    · rw [if_pos w0] at hR
      simp [w0]
      exact ⟨AD.bk.on, .inr ⟨_, _, _, _, _, _, hR, rfl, AD.bk⟩⟩
    · rw [if_neg w0] at hR
      have w0' : wordB J.words x.at' = false := by simpa using w0
      simp [w0']
      exact ⟨AD.bk.on, .inl ⟨hR, rfl⟩⟩
  have e3 : (x.kind == 3) = false := by simp [h3]
  rw [if_neg h3] at hR
  by_cases h4 : x.kind = 4
  · have e4 : (x.kind == 4) = true := by simp [h4]
    rw [if_pos h4] at hR
    obtain ⟨HC, HD, ap, sD, q1, q2, AD⟩ := push_o A h200 hp T x.value (by have := tok.lo; omega)
    simp [ix, lt, a0, a2, z1, e1, e2, e3, e4, q1, q2, a3, a4, ap, sD]
    exact ⟨AD.bk.on, .inr ⟨_, _, _, _, _, _, hR, rfl, AD.bk⟩⟩
  have e4 : (x.kind == 4) = false := by simp [h4]
  rw [if_neg h4] at hR
  by_cases h5 : x.kind = 5
  · have e5 : (x.kind == 5) = true := by simp [h5]
    rw [if_pos h5] at hR
    obtain ⟨HC, HD, ap, sD, q1, q2, AD⟩ := push_n A h200 hp T (x.at', x.value) (by have := tok.ln; omega)
    have LD := BL.of AD.bk.vp AD.bk.pl
    have d3 : HD.load ⟨vx, 3, none⟩ = some (iv x.at') := AD.v.load 3
    have l2 := LD.l2
    obtain ⟨ar, cr, her⟩ := ok.xr.len
    rw [her] at l2
    unfold wordB at hR
    by_cases w0 : 0 ≤ x.at'
    · by_cases w1 : x.at' < J.reds.length
      · rw [if_pos (by simp [w0, w1])] at hR
        simp [ix, lt, a0, a2, z2, e1, e2, e3, e4, e5, q1, q2, a3, a4, ap, sD, d3, l2, w0, w1]
        exact ⟨AD.bk.on, .inr ⟨_, _, _, _, _, _, hR, rfl, AD.bk⟩⟩
      · rw [if_neg (by simp [w1])] at hR
        simp [ix, lt, a0, a2, z2, e1, e2, e3, e4, e5, q1, q2, a3, a4, ap, sD, d3, l2, w0, w1]
        exact ⟨AD.bk.on, .inl ⟨hR, rfl⟩⟩
    · rw [if_neg (by simp [w0])] at hR
      simp [ix, lt, a0, a2, z2, e1, e2, e3, e4, e5, q1, q2, a3, a4, ap, sD, d3, w0]
      exact ⟨AD.bk.on, .inl ⟨hR, rfl⟩⟩
  have e5 : (x.kind == 5) = false := by simp [h5]
  rw [if_neg h5] at hR
  by_cases h6 : x.kind = 6
  · have e6 : (x.kind == 6) = true := by simp [h6]
    rw [if_pos h6] at hR
    obtain ⟨HD, sD, bD⟩ := abort_S A h200 hp T
    simp [ix, lt, a0, a2, e1, e2, e3, e4, e5, e6, sD]
    exact ⟨bD.on, .inr ⟨_, _, _, _, _, _, hR, rfl, bD⟩⟩
  have e6 : (x.kind == 6) = false := by simp [h6]
  rw [if_neg h6] at hR
  by_cases h7 : x.kind = 7
  · have e7 : (x.kind == 7) = true := by simp [h7]
    rw [if_pos h7] at hR
    have cN := commit_N hw0 A.bk ok sok hk hv hnc (by omega) ha h200 ht hp T
    rw [← hR] at cN
    simp [ix, lt, a0, a2, e1, e2, e3, e4, e5, e6, e7, aA]
    refine goA_of wA cN ?_
    rintro o H1 ⟨on1, h⟩ w1 b1 n1
    rcases h with ⟨hS, rfl⟩ | ⟨S', ow', pt', xm', xo', xr', hS, rfl, b'⟩
    · simp
      exact ⟨on1, .inl ⟨hS, rfl⟩⟩
    · simp
      exact ⟨on1, .inr ⟨_, _, _, _, _, _, hS, rfl, b'⟩⟩
  have e7 : (x.kind == 7) = false := by simp [h7]
  rw [if_neg h7] at hR
  by_cases h8 : x.kind = 8
  · have e8 : (x.kind == 8) = true := by simp [h8]
    rw [if_pos h8] at hR
    have cN := fault_N hw0 A.bk ok sok hk hv hnc (by omega) ha h200 ht hp T
    rw [← hR] at cN
    simp [ix, lt, a0, a2, e1, e2, e3, e4, e5, e6, e7, e8, aA]
    refine goA_of wA cN ?_
    rintro o H1 ⟨on1, h⟩ w1 b1 n1
    rcases h with ⟨hS, rfl⟩ | ⟨S', ow', pt', xm', xo', xr', hS, rfl, b'⟩
    · simp
      exact ⟨on1, .inl ⟨hS, rfl⟩⟩
    · simp
      exact ⟨on1, .inr ⟨_, _, _, _, _, _, hS, rfl, b'⟩⟩
  have e8 : (x.kind == 8) = false := by simp [h8]
  rw [if_neg h8] at hR
  simp [ix, lt, a0, a2, e1, e2, e3, e4, e5, e6, e7, e8]
  exact ⟨A.bk.on, .inl ⟨hR, rfl⟩⟩
end Go.Proofs.Ytjkfghekdcalhaa
