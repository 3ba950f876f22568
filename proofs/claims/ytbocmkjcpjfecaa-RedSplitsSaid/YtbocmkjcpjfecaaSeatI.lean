/-
  The document's joining, and RedJoins.
-/
import Derived.Test.YtbocmkjcpjfecaaSeatH
namespace Go.Proofs.Ytbocmkjcpjfecaa
open Go.Ot Go.RowKit
set_option linter.unusedSimpArgs false
set_option linter.unusedVariables false
theorem two_join {H : Heap} (op a b : Int) (ha : okI a) (hb : okI b) (ho : 1 ≤ op ∧ op ≤ 7) :
    T Try.prog 21 [iv ([1, 3, 17, 18, 6, 7, 8].getD (op - 1).toNat 0), iv a, iv b] H (.tuple #[iv (joinV op a b), .bool true]) H := by
  refine T_eq hm light21 ?_
  have h : op = 1 ∨ op = 2 ∨ op = 3 ∨ op = 4 ∨ op = 5 ∨ op = 6 ∨ op = 7 := by omega
  rcases h with rfl | rfl | rfl | rfl | rfl | rfl | rfl
  · simp [L21]
    refine goT_of (add_T1 _ _) ?_
    simp [packV, joinV]
  · simp [L21]
    refine goT_of (mul_T a b ha) ?_
    simp [packV, joinV]
  · simp [L21]
    refine goT_of (below_T b a hb ha) ?_
    by_cases hlt : b < a <;> simp [packV, joinV, hlt]
  · simp [L21]
    refine goT_of (below_T a b ha hb) ?_
    by_cases hlt : a < b <;> simp [packV, joinV, hlt]
  · simp [L21]
    refine goT_of (logic_T _ _ _) ?_
    simp [packV, joinV, logU, bits_un]
  · simp [L21]
    refine goT_of (logic_T _ _ _) ?_
    simp [packV, joinV, logU, bits_un]
  · simp [L21]
    refine goT_of (logic_T _ _ _) ?_
    simp [packV, joinV, logU, bits_un]
theorem two_T {H : Heap} (hw : H.WF) (op : Int) (ho : 1 ≤ op ∧ op ≤ 7) : ∃ v H', T Try.prog 22 [iv op] H v H' ∧ v = iv ([1, 3, 17, 18, 6, 7, 8].getD (op - 1).toNat 0) ∧ Same H H' [] := by
  refine T_by hm light22 ?_
  have hnB := hw.next_ge
  have z7 : zerosA [.int .i64 0] 7 = [iv 0, iv 0, iv 0, iv 0, iv 0, iv 0, iv 0] := rfl
  obtain ⟨H1, hH1⟩ : ∃ H1, H1 = H.new 54 1 [iv 1, iv 3, iv 17, iv 18, iv 6, iv 7, iv 8] := ⟨_, rfl⟩
  have l1 : ∀ off, H1.load ⟨H.next, off, none⟩ = [iv 1, iv 3, iv 17, iv 18, iv 6, iv 7, iv 8][off]? := fun off => by
    rw [load_at (k := ⟨54, 1, [iv 1, iv 3, iv 17, iv 18, iv 6, iv 7, iv 8]⟩) (by rw [hH1]; simpa using hnB) (by rw [hH1]; simp)]
  have s1 : Same H H1 [] := fun b hb _ => by rw [hH1]; simp [show b ≠ H.next by omega]
  have e1 : IntKind.i64.wrap (op - 1) = op - 1 := w64 _ (by omega)
  have h : op = 1 ∨ op = 2 ∨ op = 3 ∨ op = 4 ∨ op = 5 ∨ op = 6 ∨ op = 7 := by omega
  simp [L22, z7]
  rw [← hH1]
  rcases h with rfl | rfl | rfl | rfl | rfl | rfl | rfl <;> simp [e1, l1, s1]
theorem joinR_T {H : Heap} (hw : H.WF) (op a b : Int) (ha : okI a) (hb : okI b) : ∃ v H', T Try.prog 12 [iv op, iv a, iv b] H v H' ∧ v = iv (joinV op a b) ∧ Same H H' [] := by
  refine T_by hm light12 ?_
  simp [L12]
  refine goT_of (rightR_T _) ?_
  cases hr : right op with
  | false => simp [join_none op a b hr, Same.refl]
  | true =>
    have ho : 1 ≤ op ∧ op ≤ 7 := by simpa [right] using hr
    obtain ⟨v, H1, T1, rfl, s1⟩ := two_T hw op ho
    obtain ⟨w, hw'⟩ : ∃ w, w = [1, 3, 17, 18, 6, 7, 8].getD (op - 1).toNat (0 : Int) := ⟨_, rfl⟩
    have T2 := two_join (H := H1) op a b ha hb ho
    rw [← hw'] at T1 T2
    simp
    refine goT_of T1 ?_
    simp
    refine goT_of T2 ?_
    simp [s1]
theorem zeroR_T {H : Heap} (hw : H.WF) (op : Int) : ∃ v H', T Try.prog 10 [iv op] H v H' ∧ v = iv (zeroV op) ∧ Same H H' [] := by
  refine T_by hm light10 ?_
  have hnB := hw.next_ge
  have z7 : zerosA [.int .i64 0] 7 = [iv 0, iv 0, iv 0, iv 0, iv 0, iv 0, iv 0] := rfl
  obtain ⟨H1, hH1⟩ : ∃ H1, H1 = H.new 2 1 [iv 0, iv 1, iv 9223372036854775807, iv (-9223372036854775808), iv (-1), iv 0, iv 0] := ⟨_, rfl⟩
  have l1 : ∀ off, H1.load ⟨H.next, off, none⟩ = [iv 0, iv 1, iv 9223372036854775807, iv (-9223372036854775808), iv (-1), iv 0, iv 0][off]? := fun off => by
    rw [load_at (k := ⟨2, 1, [iv 0, iv 1, iv 9223372036854775807, iv (-9223372036854775808), iv (-1), iv 0, iv 0]⟩) (by rw [hH1]; simpa using hnB) (by rw [hH1]; simp)]
  have s1 : Same H H1 [] := fun b hb _ => by rw [hH1]; simp [show b ≠ H.next by omega]
  simp [L10, z7]
  rw [← hH1]
  refine goT_of (rightR_T _) ?_
  cases hr : right op with
  | false =>
    have hz : zeroV op = 0 := by
      have : ¬ (1 ≤ op ∧ op ≤ 7) := by simpa [right] using hr
      unfold zeroV
      rw [if_neg (by omega), if_neg (by omega), if_neg (by omega), if_neg (by omega)]
    simp [hz, s1]
  | true =>
    rcases right_cases hr with rfl | rfl | rfl | rfl | rfl | rfl | rfl <;> simp [l1, s1, zeroV]
theorem joins_T {H : Heap} (hw : H.WF) {op a b : Int} (ho : okI op) (ha : okI a) (hb : okI b) : ∃ v H', T Try.prog 3 [iv op, iv a, iv b] H v H' ∧ v = .bool true := by
  refine T_by hm light3 ?_
  obtain ⟨v1, H1, T1, rfl, s1⟩ := zeroR_T hw op
  obtain ⟨v2, H2, T2, rfl, s2⟩ := joinR_T (T1.grow.wf hw) op a b ha hb
  obtain ⟨v3, H3, T3, rfl⟩ := alive_T (T2.grow.wf (T1.grow.wf hw))
  simp [L3]
  refine goT_of (right_T _) ?_
  simp
  refine goT_of (rightR_T _) ?_
  simp
  refine goT_of (zero_T _) ?_
  simp
  refine goT_of T1 ?_
  simp
  refine goT_of (join_T _ _ _) ?_
  simp
  refine goT_of T2 ?_
  simp
  refine goT_of T3 ?_
  simp
end Go.Proofs.Ytbocmkjcpjfecaa
