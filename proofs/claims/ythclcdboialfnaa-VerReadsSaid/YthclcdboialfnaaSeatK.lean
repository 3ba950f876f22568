/-
  Chapter 21: New.
-/
import Derived.Test.YthclcdboialfnaaSeatJ
namespace Go.Proofs.Ythclcdboialfnaa
open Go.Ot Go.RowKit
set_option linter.unusedSimpArgs false
set_option linter.unusedVariables false
theorem N_byX {P : Program} (hm : P.follows .mixedOrders = true) {f : FuncId} {n : Nat} {lc : LCode} {lr : List LRes} {args : List Value} (hL : LightX P f args.length n lc lr) {H : Heap} {Q : Value → Heap → Prop}
    (h : wpA P lc (EndA Q lr) (initT args) (rdy H)) : TN P f args H fun o H' => ∃ v, o = .ret v ∧ Q v H' := by
  intro ρ w args' hR hargs
  refine (calls_of_wpAX hm hL h hR hargs).mono ?_
  rintro en w' ⟨v, v', H1, ρ', hq, rfl, hb, hle, hr, hR'⟩
  exact ⟨.ret v, H1, ρ', ⟨v, rfl, hq⟩, by simpa [endR] using hr, hb, hle, hR'⟩
theorem mkST {H1 HF : Heap} (hw1 : H1.WF) {pa fb ub vb cb mb p W R : Nat} (hW : 1 ≤ W ∧ W ≤ 64) (hR : 1 ≤ R ∧ R ≤ 512) (ar : AR H1 pa fb ub (frI R 0) (List.replicate R false)) (hb : HF.B = H1.B) (keep : ∀ b, b < H1.next → HF.blk b = H1.blk b)
    (n1 : H1.next ≤ vb) (n2 : H1.next ≤ cb) (n3 : H1.next ≤ mb) (n4 : H1.next ≤ p) (k1 : HF.blk vb = some ⟨2, 1, List.replicate R (iv 0)⟩) (k2 : HF.blk cb = some ⟨66, 1, List.replicate W (.slice none 0 0)⟩) (k3 : HF.blk mb = some ⟨0, 0, mcells 0 []⟩)
    (k4 : HF.blk p = some ⟨60, 4, [ptr pa, sl vb R, sl cb W, .map (some mb)]⟩) {n0 : Nat} (m1 : n0 ≤ pa) (m2 : n0 ≤ fb) (m3 : n0 ≤ ub) (m4 : n0 ≤ H1.next) {X : Prop} (hX : X) :
    ∃ D, ST HF p D ∧ PL D W R ∧ D.fr.length = R ∧ (∀ b g, cont D b g = none) ∧ (∀ b, Mine p D b → n0 ≤ b) ∧ X := by
  have hnB := hw1.next_ge
  have fl := frI_len R 0
  refine ⟨⟨pa, fb, ub, vb, cb, mb, frI R 0, List.replicate R false, List.replicate R 0, List.replicate W (.slice none 0 0), List.replicate W []⟩, ?_, ?_, by simpa using fl, ?_, ?_, hX⟩
  · refine ⟨by rw [hb]; omega, by simpa using k4, ar.keep hb (keep _ (hw1.lt ar.bp)) (keep _ (ar.ltf hw1)) (keep _ (hw1.lt ar.bu)), (by rw [hb]; omega : ¬ vb < HF.B), by simpa using k1, (by rw [hb]; omega : ¬ cb < HF.B), k2, (by rw [hb]; omega : ¬ mb < HF.B), ⟨0, [], k3, by intro e he; simp at he⟩, by simp, fun i h1 h2 => .inl (by simp), fun i j hi hj b hij h1 => ?_⟩
    simp only [List.getElem_replicate] at h1
    cases h1
  · refine ⟨by simp, by simp, by simp, by simp, by omega, by omega, fun a h => by simp [Rise], fun a h => by simp, ⟨fun _ => none, fun a h q hq => by simp at hq⟩, fun t ht => ?_, ?_, by simp [frI_len]⟩
    · simp only [frI, List.mem_map, List.mem_reverse, List.mem_range'_1] at ht
      obtain ⟨m, hm, rfl⟩ := ht
      refine ⟨by omega, by omega, ?_⟩
      simp only [List.getD, List.getElem?_replicate]
      split <;> rfl
    · refine List.pairwise_map.2 ?_
      refine List.Pairwise.imp (R := fun a b : Nat => a ≠ b) (fun h e => h (Int.ofNat.inj e)) ?_
      rw [List.pairwise_reverse]
      exact (List.nodup_range' (s := 0) (n := R - 0)).imp (fun h e => h e.symm)
  · intro b g
    unfold cont
    by_cases h : b < W
    · simp [List.getD, h]
    · simp [List.getD, h]
  · intro b hb
    rcases hb with rfl | rfl | rfl | rfl | rfl | rfl | rfl | ⟨x, hx, hb⟩
    · omega
    · exact m1
    · exact m2
    · exact m3
    · exact Nat.le_trans m4 n1
    · exact Nat.le_trans m4 n2
    · exact Nat.le_trans m4 n3
    · simp only [List.mem_replicate] at hx
      rw [hx.2] at hb
      cases hb
theorem new_N {H : Heap} (hw : H.WF) {W R : Nat} (hW : 1 ≤ W ∧ W ≤ 64) (hR : 1 ≤ R ∧ R ≤ 512) :
    TN Try.prog 6 [iv W, iv R] H fun o H' => ∃ v, o = .ret v ∧ ∃ p D, v = .tuple #[ptr p, iv 0] ∧ ST H' p D ∧ PL D W R ∧ D.fr.length = R ∧ (∀ b g, cont D b g = none) ∧ (∀ b, Mine p D b → H.next ≤ b) ∧ ∀ b, b < H.next → H'.blk b = H.blk b := by
  refine N_byX hm lightX6 ?_
  have h1 : ¬ (W : Int) < 1 := by omega
  have h2 : ¬ (64 : Int) < (W : Int) := by omega
  obtain ⟨v, H1, tN, pa, fb, ub, rfl, ar, sm, q1, q2, q3⟩ := new_T hw (n := (R : Int)) (by omega)
  simp [L6, h1, h2]
  refine goT_of tN ?_
  have r1 : (R : Int) ≤ 9223372036854775807 := by omega
  have r2 : (R : Int) ≤ 140737488355328 := by omega
  have w1 : (W : Int) ≤ 9223372036854775807 := by omega
  have w2 : (W : Int) ≤ 140737488355328 := by omega
  have r3 : R * 8 ≤ 140737488355328 := by omega
  have w3 : W * 24 ≤ 140737488355328 := by omega
  have r4 : 8 * (R : Int) ≤ 140737488355328 := by omega
  have w4 : 24 * (W : Int) ≤ 140737488355328 := by omega
  have cm : ∀ b, (Value.map (some b)).cells = #[.map (some b)] := fun _ => rfl
  have tm : ∀ b, notTup (Value.map (some b)) = true := fun _ => rfl
  have hw1 := tN.2.2.1 hw
  have hn1 := tN.2.1
  have hnB := hw1.next_ge
  have ok : ∀ b, b < H.next → H1.blk b = H.blk b := fun b hb => sm b hb (by simp)
  simp only [Int.toNat_natCast] at ar
  simp [sMake, r1, r2, w1, w2, r3, w3, r4, w4, cm, tm, zerosA_one, packV]
  have e1 : ∀ b, b < H1.next → b ≠ H1.next ∧ b ≠ H1.next + 1 ∧ b ≠ H1.next + 1 + 1 ∧ b ≠ H1.next + 1 + 1 + 1 := fun b hb => by omega
  have f1 : H1.next ≠ H1.next + 1 := by omega
  have f2 : H1.next ≠ H1.next + 1 + 1 := by omega
  have f3 : H1.next ≠ H1.next + 1 + 1 + 1 := by omega
  have f4 : H1.next + 1 ≠ H1.next + 1 + 1 := by omega
  have f5 : H1.next + 1 ≠ H1.next + 1 + 1 + 1 := by omega
  have f6 : H1.next + 1 + 1 ≠ H1.next + 1 + 1 + 1 := by omega
  refine ⟨?_, ?_, ?_, ?_, ?_, ?_⟩
  · refine mkST hw1 hW hR ar (vb := H1.next) (cb := (H1.next + 1)) (mb := (H1.next + 1 + 1)) (by simp) (fun b hb => by simp [e1 b hb]) (by omega) (by omega) (by omega) (by omega) (by simp [f1, f2, f3, f4, f5, f6]) (by simp [f1, f2, f3, f4, f5, f6]) (by simp [f1, f2, f3, f4, f5, f6]) (by simp [f1, f2, f3, f4, f5, f6]) q1 q2 q3 hn1 (fun b hb => ?_)
    have hb1 := e1 b (by omega)
    simp [hb1, ok b hb]
  · refine mkST hw1 hW hR ar (vb := H1.next) (cb := (H1.next + 1 + 1)) (mb := (H1.next + 1)) (by simp) (fun b hb => by simp [e1 b hb]) (by omega) (by omega) (by omega) (by omega) (by simp [f1, f2, f3, f4, f5, f6]) (by simp [f1, f2, f3, f4, f5, f6]) (by simp [f1, f2, f3, f4, f5, f6]) (by simp [f1, f2, f3, f4, f5, f6]) q1 q2 q3 hn1 (fun b hb => ?_)
    have hb1 := e1 b (by omega)
    simp [hb1, ok b hb]
  · refine mkST hw1 hW hR ar (vb := (H1.next + 1)) (cb := H1.next) (mb := (H1.next + 1 + 1)) (by simp) (fun b hb => by simp [e1 b hb]) (by omega) (by omega) (by omega) (by omega) (by simp [f1, f2, f3, f4, f5, f6]) (by simp [f1, f2, f3, f4, f5, f6]) (by simp [f1, f2, f3, f4, f5, f6]) (by simp [f1, f2, f3, f4, f5, f6]) q1 q2 q3 hn1 (fun b hb => ?_)
    have hb1 := e1 b (by omega)
    simp [hb1, ok b hb]
  · refine mkST hw1 hW hR ar (vb := (H1.next + 1 + 1)) (cb := H1.next) (mb := (H1.next + 1)) (by simp) (fun b hb => by simp [e1 b hb]) (by omega) (by omega) (by omega) (by omega) (by simp [f1, f2, f3, f4, f5, f6]) (by simp [f1, f2, f3, f4, f5, f6]) (by simp [f1, f2, f3, f4, f5, f6]) (by simp [f1, f2, f3, f4, f5, f6]) q1 q2 q3 hn1 (fun b hb => ?_)
    have hb1 := e1 b (by omega)
    simp [hb1, ok b hb]
  · refine mkST hw1 hW hR ar (vb := (H1.next + 1)) (cb := (H1.next + 1 + 1)) (mb := H1.next) (by simp) (fun b hb => by simp [e1 b hb]) (by omega) (by omega) (by omega) (by omega) (by simp [f1, f2, f3, f4, f5, f6]) (by simp [f1, f2, f3, f4, f5, f6]) (by simp [f1, f2, f3, f4, f5, f6]) (by simp [f1, f2, f3, f4, f5, f6]) q1 q2 q3 hn1 (fun b hb => ?_)
    have hb1 := e1 b (by omega)
    simp [hb1, ok b hb]
  · refine mkST hw1 hW hR ar (vb := (H1.next + 1 + 1)) (cb := (H1.next + 1)) (mb := H1.next) (by simp) (fun b hb => by simp [e1 b hb]) (by omega) (by omega) (by omega) (by omega) (by simp [f1, f2, f3, f4, f5, f6]) (by simp [f1, f2, f3, f4, f5, f6]) (by simp [f1, f2, f3, f4, f5, f6]) (by simp [f1, f2, f3, f4, f5, f6]) q1 q2 q3 hn1 (fun b hb => ?_)
    have hb1 := e1 b (by omega)
    simp [hb1, ok b hb]
end Go.Proofs.Ythclcdboialfnaa
