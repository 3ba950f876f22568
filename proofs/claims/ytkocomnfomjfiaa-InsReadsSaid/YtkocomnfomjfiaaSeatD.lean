/-
  Chapter 8: which instruction may be, by the document: part by part.
-/
import Derived.Test.YtkocomnfomjfiaaSeatC
namespace Go.Proofs.Ytkocomnfomjfiaa
open Go.Ot Go.RowKit
set_option linter.unusedSimpArgs false
set_option linter.unusedVariables false
theorem wpO_app (P : Program) : ∀ (l1 l2 : List LIns) (Q : Tm → Heap → Prop) (t : Tm) (H : Heap), wpO P (l1 ++ l2) Q t H = wpO P l1 (fun t H => wpO P l2 Q t H) t H
  | [], l2, Q, t, H => rfl
  | i :: l1, l2, Q, t, H => by
    simp only [List.cons_append, wpO, wpO_app P l1 l2]
def hasB (s : ByteArray) (c : Nat) : Bool := s.data.toList.any fun b => b.toNat == c
def InvH (H : Heap) (s : ByteArray) (c : Nat) (k : Nat) (t : Tm) (H1 : Heap) : Prop :=
  ∃ i : Nat, i + k = s.size ∧ t 0 = .string s ∧ t 1 = .int .u8 (c : Int) ∧ t 5 = iv i ∧ H1 = H ∧ (s.data.toList.take i).any (fun b => b.toNat == c) = false
theorem has_T {H : Heap} (s : ByteArray) (c : Nat) (hs : s.size ≤ 1000000) : T Try.prog 29 [.string s, .int .u8 (c : Int)] H (.bool (hasB s c)) H := by
  refine T_eq hm light29 ?_
  simp [L29]
  refine loop_at (InvH H s c) s.size ?_ ?_
  · exact ⟨0, by omega, by simp, by simp, by simp, rfl, by simp⟩
  · rintro k t H1 ⟨i, hik, t0, t1, t5, rfl, hno⟩
    have hsz : s.size = s.data.toList.length := by rw [Array.length_toList]; rfl
    cases k with
    | zero =>
      have e0 : i = s.size := by omega
      subst e0
      rw [hsz, List.take_length] at hno
      simp [L29_1, t0, t5, hasB, hno]
    | succ k =>
      have hi : i < s.size := by omega
      have e3 : IntKind.i64.wrap ((i : Int) + 1) = ((i + 1 : Nat) : Int) := by rw [w64 _ (by omega)]; omega
      obtain ⟨i1, hi1⟩ : ∃ i1, i1 = i + 1 := ⟨_, rfl⟩
      rw [← hi1] at e3
      have hl : i < s.data.toList.length := by omega
      obtain ⟨w, hw⟩ : ∃ w : Nat, w = (s.data.toList[i]).toNat := ⟨_, rfl⟩
      have ix : sIdxStr (.string s) (iv i) = some (.int .u8 (w : Int)) := by
        simp only [sIdxStr]
        rw [dif_pos ⟨by omega, by simpa using hi⟩, hw]
        simp
        rfl
      by_cases hc : w = c
      · have hyes : hasB s c = true := by
          unfold hasB
          rw [List.any_eq_true]
          exact ⟨_, List.getElem_mem hl, by rw [← hw, hc]; simp⟩
        simp [L29_1, t0, t1, t5, hi, ix, hc, hyes]
      · simp [L29_1, t0, t1, t5, hi, ix, hc, e3]
        refine ⟨k, Nat.lt_succ_self k, i1, by omega, by simp [t0], by simp [t1], by simp, rfl, ?_⟩
        rw [hi1, List.take_succ_eq_append_getElem hl, List.any_append, hno]
        have hz : (s.data.toList[i].toNat == c) = false := by rw [← hw]; simp [hc]
        simp only [List.any_cons, List.any_nil, hz, Bool.or_false]
theorem bad_T {H : Heap} (n : Int) : T Try.prog 30 [iv n] H (.bool (badR n)) H := by
  refine T_eq hm light30 ?_
  by_cases h1 : n < 0
  · simp [L30, badR, h1]
  · by_cases h2 : 15 < n <;> simp [L30, badR, h1, h2]
/-- What stands where, while the document judges. -/
structure O2 (H : Heap) (t : Tm) (bx : Nat) (x : In) (ps : ByteArray) (cells long : Int) : Prop where
  t3 : t 3 = ptr bx
  t7 : t 7 = .string ps
  t1 : t 1 = iv cells
  t2 : t 2 = iv long
  lx : ∀ j, H.load ⟨bx, j, none⟩ = (rowI x)[j]?
  sz : ps.size ≤ 1000000
def G1a : List LIns := [⟨some 11, .move (.tmp 7), none⟩, ⟨some 12, .bin .eql (.tmp 11) (.const (.string ⟨#[63]⟩)), none⟩, ⟨some 13, .move (.tmp 12), none⟩]
theorem q1a {H : Heap} {t : Tm} {bx : Nat} {x : In} {ps : ByteArray} {cells long : Int} (h : O2 H t bx x ps cells long) {K : Tm → Heap → Prop}
    (hK : ∀ t' : Tm, O2 H t' bx x ps cells long → t' 13 = .bool (ps.toList == [63]) → K t' (rdy H)) : wpO Try.prog G1a K t (rdy H) := by
  obtain ⟨t3, t7, t1, t2, lx, sz⟩ := h
  have lx0 := lx
  simp only [rowI] at lx
  unfold G1a
  by_cases hq : ps.toList = [63]
  · simp [t7, sBin, sBinS]
    refine hK _ ⟨by simp [t3], by simp [t7], by simp [t1], by simp [t2], lx0, sz⟩ ?_
    simp
  · simp [t7, sBin, sBinS]
    refine hK _ ⟨by simp [t3], by simp [t7], by simp [t1], by simp [t2], lx0, sz⟩ ?_
    simp
def G1b : List LIns := [⟨some 14, .move (.tmp 7), (some (13, false))⟩, ⟨some 15, .call 29 [.tmp 14, .const (.int .u8 111)], (some (13, false))⟩, ⟨some 16, .move (.tmp 15), (some (13, false))⟩, ⟨some 17, .off 1 (.tmp 3), (some (16, true))⟩, ⟨some 18, .load false 1 (.tmp 17), (some (16, true))⟩, ⟨some 19, .bin .lss (.tmp 18) (.const (.int .i64 1)), (some (16, true))⟩, ⟨some 20, .move (.tmp 19), (some (16, true))⟩, ⟨some 21, .off 1 (.tmp 3), (some (20, false))⟩, ⟨some 22, .load false 1 (.tmp 21), (some (20, false))⟩, ⟨some 23, .bin .gtr (.tmp 22) (.const (.int .i64 18)), (some (20, false))⟩, ⟨some 24, .pick (.tmp 20) (.const (.bool true)) (.tmp 23), (some (16, true))⟩, ⟨some 25, .pick (.tmp 16) (.tmp 24) (.const (.bool false)), (some (13, false))⟩, ⟨some 26, .pick (.tmp 13) (.const (.bool true)) (.tmp 25), none⟩, ⟨some 27, .move (.tmp 26), none⟩]
theorem q1b {H : Heap} {t : Tm} {bx : Nat} {x : In} {ps : ByteArray} {cells long : Int} (h : O2 H t bx x ps cells long) {v0 : Bool} (hin : t 13 = .bool v0) {K : Tm → Heap → Prop}
    (hK : ∀ t' : Tm, O2 H t' bx x ps cells long → t' 27 = .bool (v0 || (hasB ps 111 && (decide (x.op < 1) || decide (18 < x.op)))) → K t' (rdy H)) : wpO Try.prog G1b K t (rdy H) := by
  obtain ⟨t3, t7, t1, t2, lx, sz⟩ := h
  have lx0 := lx
  simp only [rowI] at lx
  unfold G1b
  cases v0 with
  | true =>
    simp [hin, t1, t2, t3, t7, lx]
    refine hK _ ⟨by simp [t3], by simp [t7], by simp [t1], by simp [t2], lx0, sz⟩ ?_
    simp [hin]
  | false =>
    simp [hin, t1, t2, t3, t7, lx]
    refine goT_of (has_T ps 111 sz) ?_
    cases h1 : hasB ps 111 with
    | false =>
      simp [hin, t1, t2, t3, t7, lx]
      refine hK _ ⟨by simp [t3], by simp [t7], by simp [t1], by simp [t2], lx0, sz⟩ ?_
      simp [hin, h1]
    | true =>
      by_cases c0 : x.op < 1 <;> by_cases c1 : 18 < x.op <;> simp [hin, t1, t2, t3, t7, lx, h1, c0, c1] <;>
        (refine hK _ ⟨by simp [t3], by simp [t7], by simp [t1], by simp [t2], lx0, sz⟩ ?_; simp [hin, h1, c0, c1])
def G1c : List LIns := [⟨some 28, .move (.tmp 7), (some (27, false))⟩, ⟨some 29, .call 29 [.tmp 28, .const (.int .u8 112)], (some (27, false))⟩, ⟨some 30, .move (.tmp 29), (some (27, false))⟩, ⟨some 31, .off 1 (.tmp 3), (some (30, true))⟩, ⟨some 32, .load false 1 (.tmp 31), (some (30, true))⟩, ⟨some 33, .bin .lss (.tmp 32) (.const (.int .i64 19)), (some (30, true))⟩, ⟨some 34, .move (.tmp 33), (some (30, true))⟩, ⟨some 35, .off 1 (.tmp 3), (some (34, false))⟩, ⟨some 36, .load false 1 (.tmp 35), (some (34, false))⟩, ⟨some 37, .bin .gtr (.tmp 36) (.const (.int .i64 21)), (some (34, false))⟩, ⟨some 38, .pick (.tmp 34) (.const (.bool true)) (.tmp 37), (some (30, true))⟩, ⟨some 39, .pick (.tmp 30) (.tmp 38) (.const (.bool false)), (some (27, false))⟩, ⟨some 40, .pick (.tmp 27) (.const (.bool true)) (.tmp 39), none⟩]
theorem q1c {H : Heap} {t : Tm} {bx : Nat} {x : In} {ps : ByteArray} {cells long : Int} (h : O2 H t bx x ps cells long) {v0 : Bool} (hin : t 27 = .bool v0) {K : Tm → Heap → Prop}
    (hK : ∀ t' : Tm, O2 H t' bx x ps cells long → t' 40 = .bool (v0 || (hasB ps 112 && (decide (x.op < 19) || decide (21 < x.op)))) → K t' (rdy H)) : wpO Try.prog G1c K t (rdy H) := by
  obtain ⟨t3, t7, t1, t2, lx, sz⟩ := h
  have lx0 := lx
  simp only [rowI] at lx
  unfold G1c
  cases v0 with
  | true =>
    simp [hin, t1, t2, t3, t7, lx]
    refine hK _ ⟨by simp [t3], by simp [t7], by simp [t1], by simp [t2], lx0, sz⟩ ?_
    simp [hin]
  | false =>
    simp [hin, t1, t2, t3, t7, lx]
    refine goT_of (has_T ps 112 sz) ?_
    cases h1 : hasB ps 112 with
    | false =>
      simp [hin, t1, t2, t3, t7, lx]
      refine hK _ ⟨by simp [t3], by simp [t7], by simp [t1], by simp [t2], lx0, sz⟩ ?_
      simp [hin, h1]
    | true =>
      by_cases c0 : x.op < 19 <;> by_cases c1 : 21 < x.op <;> simp [hin, t1, t2, t3, t7, lx, h1, c0, c1] <;>
        (refine hK _ ⟨by simp [t3], by simp [t7], by simp [t1], by simp [t2], lx0, sz⟩ ?_; simp [hin, h1, c0, c1])
def G2a : List LIns := [⟨some 41, .move (.tmp 7), none⟩, ⟨some 42, .call 29 [.tmp 41, .const (.int .u8 97)], none⟩, ⟨some 43, .move (.tmp 42), none⟩, ⟨some 44, .off 2 (.tmp 3), (some (43, true))⟩, ⟨some 45, .load false 1 (.tmp 44), (some (43, true))⟩, ⟨some 46, .call 30 [.tmp 45], (some (43, true))⟩, ⟨some 47, .pick (.tmp 43) (.tmp 46) (.const (.bool false)), none⟩, ⟨some 48, .move (.tmp 47), none⟩]
theorem q2a {H : Heap} {t : Tm} {bx : Nat} {x : In} {ps : ByteArray} {cells long : Int} (h : O2 H t bx x ps cells long) {K : Tm → Heap → Prop}
    (hK : ∀ t' : Tm, O2 H t' bx x ps cells long → t' 48 = .bool (hasB ps 97 && badR x.a) → K t' (rdy H)) : wpO Try.prog G2a K t (rdy H) := by
  obtain ⟨t3, t7, t1, t2, lx, sz⟩ := h
  have lx0 := lx
  simp only [rowI] at lx
  unfold G2a
  simp [t1, t2, t3, t7, lx]
  refine goT_of (has_T ps 97 sz) ?_
  cases h1 : hasB ps 97 with
  | false =>
    simp [t1, t2, t3, t7, lx]
    refine hK _ ⟨by simp [t3], by simp [t7], by simp [t1], by simp [t2], lx0, sz⟩ ?_
    simp [h1]
  | true =>
    simp [t1, t2, t3, t7, lx]
    refine goT_of (bad_T _) ?_
    simp [t1, t2, t3, t7, lx]
    refine hK _ ⟨by simp [t3], by simp [t7], by simp [t1], by simp [t2], lx0, sz⟩ ?_
    simp [h1]
def G2b : List LIns := [⟨some 49, .move (.tmp 7), (some (48, false))⟩, ⟨some 50, .call 29 [.tmp 49, .const (.int .u8 98)], (some (48, false))⟩, ⟨some 51, .move (.tmp 50), (some (48, false))⟩, ⟨some 52, .off 3 (.tmp 3), (some (51, true))⟩, ⟨some 53, .load false 1 (.tmp 52), (some (51, true))⟩, ⟨some 54, .call 30 [.tmp 53], (some (51, true))⟩, ⟨some 55, .pick (.tmp 51) (.tmp 54) (.const (.bool false)), (some (48, false))⟩, ⟨some 56, .pick (.tmp 48) (.const (.bool true)) (.tmp 55), none⟩, ⟨some 57, .move (.tmp 56), none⟩]
theorem q2b {H : Heap} {t : Tm} {bx : Nat} {x : In} {ps : ByteArray} {cells long : Int} (h : O2 H t bx x ps cells long) {v0 : Bool} (hin : t 48 = .bool v0) {K : Tm → Heap → Prop}
    (hK : ∀ t' : Tm, O2 H t' bx x ps cells long → t' 57 = .bool (v0 || (hasB ps 98 && badR x.b)) → K t' (rdy H)) : wpO Try.prog G2b K t (rdy H) := by
  obtain ⟨t3, t7, t1, t2, lx, sz⟩ := h
  have lx0 := lx
  simp only [rowI] at lx
  unfold G2b
  cases v0 with
  | true =>
    simp [hin, t1, t2, t3, t7, lx]
    refine hK _ ⟨by simp [t3], by simp [t7], by simp [t1], by simp [t2], lx0, sz⟩ ?_
    simp [hin]
  | false =>
    simp [hin, t1, t2, t3, t7, lx]
    refine goT_of (has_T ps 98 sz) ?_
    cases h1 : hasB ps 98 with
    | false =>
      simp [hin, t1, t2, t3, t7, lx]
      refine hK _ ⟨by simp [t3], by simp [t7], by simp [t1], by simp [t2], lx0, sz⟩ ?_
      simp [hin, h1]
    | true =>
      simp [hin, t1, t2, t3, t7, lx]
      refine goT_of (bad_T _) ?_
      simp [hin, t1, t2, t3, t7, lx]
      refine hK _ ⟨by simp [t3], by simp [t7], by simp [t1], by simp [t2], lx0, sz⟩ ?_
      simp [hin, h1]
def G2c : List LIns := [⟨some 58, .move (.tmp 7), (some (57, false))⟩, ⟨some 59, .call 29 [.tmp 58, .const (.int .u8 99)], (some (57, false))⟩, ⟨some 60, .move (.tmp 59), (some (57, false))⟩, ⟨some 61, .off 4 (.tmp 3), (some (60, true))⟩, ⟨some 62, .load false 1 (.tmp 61), (some (60, true))⟩, ⟨some 63, .call 30 [.tmp 62], (some (60, true))⟩, ⟨some 64, .pick (.tmp 60) (.tmp 63) (.const (.bool false)), (some (57, false))⟩, ⟨some 65, .pick (.tmp 57) (.const (.bool true)) (.tmp 64), none⟩]
theorem q2c {H : Heap} {t : Tm} {bx : Nat} {x : In} {ps : ByteArray} {cells long : Int} (h : O2 H t bx x ps cells long) {v0 : Bool} (hin : t 57 = .bool v0) {K : Tm → Heap → Prop}
    (hK : ∀ t' : Tm, O2 H t' bx x ps cells long → t' 65 = .bool (v0 || (hasB ps 99 && badR x.c)) → K t' (rdy H)) : wpO Try.prog G2c K t (rdy H) := by
  obtain ⟨t3, t7, t1, t2, lx, sz⟩ := h
  have lx0 := lx
  simp only [rowI] at lx
  unfold G2c
  cases v0 with
  | true =>
    simp [hin, t1, t2, t3, t7, lx]
    refine hK _ ⟨by simp [t3], by simp [t7], by simp [t1], by simp [t2], lx0, sz⟩ ?_
    simp [hin]
  | false =>
    simp [hin, t1, t2, t3, t7, lx]
    refine goT_of (has_T ps 99 sz) ?_
    cases h1 : hasB ps 99 with
    | false =>
      simp [hin, t1, t2, t3, t7, lx]
      refine hK _ ⟨by simp [t3], by simp [t7], by simp [t1], by simp [t2], lx0, sz⟩ ?_
      simp [hin, h1]
    | true =>
      simp [hin, t1, t2, t3, t7, lx]
      refine goT_of (bad_T _) ?_
      simp [hin, t1, t2, t3, t7, lx]
      refine hK _ ⟨by simp [t3], by simp [t7], by simp [t1], by simp [t2], lx0, sz⟩ ?_
      simp [hin, h1]
def G3a : List LIns := [⟨some 66, .move (.tmp 7), none⟩, ⟨some 67, .call 29 [.tmp 66, .const (.int .u8 97)], none⟩, ⟨some 68, .un .not (.tmp 67), none⟩, ⟨some 69, .move (.tmp 68), none⟩, ⟨some 70, .off 2 (.tmp 3), (some (69, true))⟩, ⟨some 71, .load false 1 (.tmp 70), (some (69, true))⟩, ⟨some 72, .bin .neq (.tmp 71) (.const (.int .i64 0)), (some (69, true))⟩, ⟨some 73, .pick (.tmp 69) (.tmp 72) (.const (.bool false)), none⟩, ⟨some 74, .move (.tmp 73), none⟩]
theorem q3a {H : Heap} {t : Tm} {bx : Nat} {x : In} {ps : ByteArray} {cells long : Int} (h : O2 H t bx x ps cells long) {K : Tm → Heap → Prop}
    (hK : ∀ t' : Tm, O2 H t' bx x ps cells long → t' 74 = .bool (!hasB ps 97 && decide (x.a ≠ 0)) → K t' (rdy H)) : wpO Try.prog G3a K t (rdy H) := by
  obtain ⟨t3, t7, t1, t2, lx, sz⟩ := h
  have lx0 := lx
  simp only [rowI] at lx
  unfold G3a
  simp [t1, t2, t3, t7, lx]
  refine goT_of (has_T ps 97 sz) ?_
  cases h1 : hasB ps 97 with
  | true =>
    simp [t1, t2, t3, t7, lx]
    refine hK _ ⟨by simp [t3], by simp [t7], by simp [t1], by simp [t2], lx0, sz⟩ ?_
    simp [h1]
  | false =>
    by_cases c0 : x.a = 0 <;> simp [t1, t2, t3, t7, lx, h1, c0] <;>
      (refine hK _ ⟨by simp [t3], by simp [t7], by simp [t1], by simp [t2], lx0, sz⟩ ?_; simp [h1, c0])
def G3b : List LIns := [⟨some 75, .move (.tmp 7), (some (74, false))⟩, ⟨some 76, .call 29 [.tmp 75, .const (.int .u8 98)], (some (74, false))⟩, ⟨some 77, .un .not (.tmp 76), (some (74, false))⟩, ⟨some 78, .move (.tmp 77), (some (74, false))⟩, ⟨some 79, .off 3 (.tmp 3), (some (78, true))⟩, ⟨some 80, .load false 1 (.tmp 79), (some (78, true))⟩, ⟨some 81, .bin .neq (.tmp 80) (.const (.int .i64 0)), (some (78, true))⟩, ⟨some 82, .pick (.tmp 78) (.tmp 81) (.const (.bool false)), (some (74, false))⟩, ⟨some 83, .pick (.tmp 74) (.const (.bool true)) (.tmp 82), none⟩, ⟨some 84, .move (.tmp 83), none⟩]
theorem q3b {H : Heap} {t : Tm} {bx : Nat} {x : In} {ps : ByteArray} {cells long : Int} (h : O2 H t bx x ps cells long) {v0 : Bool} (hin : t 74 = .bool v0) {K : Tm → Heap → Prop}
    (hK : ∀ t' : Tm, O2 H t' bx x ps cells long → t' 84 = .bool (v0 || (!hasB ps 98 && decide (x.b ≠ 0))) → K t' (rdy H)) : wpO Try.prog G3b K t (rdy H) := by
  obtain ⟨t3, t7, t1, t2, lx, sz⟩ := h
  have lx0 := lx
  simp only [rowI] at lx
  unfold G3b
  cases v0 with
  | true =>
    simp [hin, t1, t2, t3, t7, lx]
    refine hK _ ⟨by simp [t3], by simp [t7], by simp [t1], by simp [t2], lx0, sz⟩ ?_
    simp [hin]
  | false =>
    simp [hin, t1, t2, t3, t7, lx]
    refine goT_of (has_T ps 98 sz) ?_
    cases h1 : hasB ps 98 with
    | true =>
      simp [hin, t1, t2, t3, t7, lx]
      refine hK _ ⟨by simp [t3], by simp [t7], by simp [t1], by simp [t2], lx0, sz⟩ ?_
      simp [hin, h1]
    | false =>
      by_cases c0 : x.b = 0 <;> simp [hin, t1, t2, t3, t7, lx, h1, c0] <;>
        (refine hK _ ⟨by simp [t3], by simp [t7], by simp [t1], by simp [t2], lx0, sz⟩ ?_; simp [hin, h1, c0])
def G3c : List LIns := [⟨some 85, .move (.tmp 7), (some (84, false))⟩, ⟨some 86, .call 29 [.tmp 85, .const (.int .u8 99)], (some (84, false))⟩, ⟨some 87, .un .not (.tmp 86), (some (84, false))⟩, ⟨some 88, .move (.tmp 87), (some (84, false))⟩, ⟨some 89, .move (.tmp 7), (some (88, true))⟩, ⟨some 90, .call 29 [.tmp 89, .const (.int .u8 114)], (some (88, true))⟩, ⟨some 91, .un .not (.tmp 90), (some (88, true))⟩, ⟨some 92, .pick (.tmp 88) (.tmp 91) (.const (.bool false)), (some (84, false))⟩, ⟨some 93, .move (.tmp 92), (some (84, false))⟩, ⟨some 94, .off 4 (.tmp 3), (some (93, true))⟩, ⟨some 95, .load false 1 (.tmp 94), (some (93, true))⟩, ⟨some 96, .bin .neq (.tmp 95) (.const (.int .i64 0)), (some (93, true))⟩, ⟨some 97, .pick (.tmp 93) (.tmp 96) (.const (.bool false)), (some (84, false))⟩, ⟨some 98, .pick (.tmp 84) (.const (.bool true)) (.tmp 97), none⟩, ⟨some 99, .move (.tmp 98), none⟩]
theorem q3c {H : Heap} {t : Tm} {bx : Nat} {x : In} {ps : ByteArray} {cells long : Int} (h : O2 H t bx x ps cells long) {v0 : Bool} (hin : t 84 = .bool v0) {K : Tm → Heap → Prop}
    (hK : ∀ t' : Tm, O2 H t' bx x ps cells long → t' 99 = .bool (v0 || (!hasB ps 99 && !hasB ps 114 && decide (x.c ≠ 0))) → K t' (rdy H)) : wpO Try.prog G3c K t (rdy H) := by
  obtain ⟨t3, t7, t1, t2, lx, sz⟩ := h
  have lx0 := lx
  simp only [rowI] at lx
  unfold G3c
  cases v0 with
  | true =>
    simp [hin, t1, t2, t3, t7, lx]
    refine hK _ ⟨by simp [t3], by simp [t7], by simp [t1], by simp [t2], lx0, sz⟩ ?_
    simp [hin]
  | false =>
    simp [hin, t1, t2, t3, t7, lx]
    refine goT_of (has_T ps 99 sz) ?_
    cases h1 : hasB ps 99 with
    | true =>
      simp [hin, t1, t2, t3, t7, lx]
      refine hK _ ⟨by simp [t3], by simp [t7], by simp [t1], by simp [t2], lx0, sz⟩ ?_
      simp [hin, h1]
    | false =>
      simp [hin, t1, t2, t3, t7, lx]
      refine goT_of (has_T ps 114 sz) ?_
      cases h2 : hasB ps 114 with
      | true =>
        simp [hin, t1, t2, t3, t7, lx]
        refine hK _ ⟨by simp [t3], by simp [t7], by simp [t1], by simp [t2], lx0, sz⟩ ?_
        simp [hin, h1, h2]
      | false =>
        by_cases c0 : x.c = 0 <;> simp [hin, t1, t2, t3, t7, lx, h1, h2, c0] <;>
          (refine hK _ ⟨by simp [t3], by simp [t7], by simp [t1], by simp [t2], lx0, sz⟩ ?_; simp [hin, h1, h2, c0])
def G3k : List LIns := [⟨some 100, .move (.tmp 7), (some (99, false))⟩, ⟨some 101, .call 29 [.tmp 100, .const (.int .u8 107)], (some (99, false))⟩, ⟨some 102, .un .not (.tmp 101), (some (99, false))⟩, ⟨some 103, .move (.tmp 102), (some (99, false))⟩, ⟨some 104, .move (.tmp 7), (some (103, true))⟩, ⟨some 105, .call 29 [.tmp 104, .const (.int .u8 116)], (some (103, true))⟩, ⟨some 106, .un .not (.tmp 105), (some (103, true))⟩, ⟨some 107, .pick (.tmp 103) (.tmp 106) (.const (.bool false)), (some (99, false))⟩, ⟨some 108, .move (.tmp 107), (some (99, false))⟩, ⟨some 109, .off 5 (.tmp 3), (some (108, true))⟩, ⟨some 110, .load false 1 (.tmp 109), (some (108, true))⟩, ⟨some 111, .bin .neq (.tmp 110) (.const (.int .i64 0)), (some (108, true))⟩, ⟨some 112, .pick (.tmp 108) (.tmp 111) (.const (.bool false)), (some (99, false))⟩, ⟨some 113, .pick (.tmp 99) (.const (.bool true)) (.tmp 112), none⟩, ⟨some 114, .move (.tmp 113), none⟩]
theorem q3k {H : Heap} {t : Tm} {bx : Nat} {x : In} {ps : ByteArray} {cells long : Int} (h : O2 H t bx x ps cells long) {v0 : Bool} (hin : t 99 = .bool v0) {K : Tm → Heap → Prop}
    (hK : ∀ t' : Tm, O2 H t' bx x ps cells long → t' 114 = .bool (v0 || (!hasB ps 107 && !hasB ps 116 && decide (x.k ≠ 0))) → K t' (rdy H)) : wpO Try.prog G3k K t (rdy H) := by
  obtain ⟨t3, t7, t1, t2, lx, sz⟩ := h
  have lx0 := lx
  simp only [rowI] at lx
  unfold G3k
  cases v0 with
  | true =>
    simp [hin, t1, t2, t3, t7, lx]
    refine hK _ ⟨by simp [t3], by simp [t7], by simp [t1], by simp [t2], lx0, sz⟩ ?_
    simp [hin]
  | false =>
    simp [hin, t1, t2, t3, t7, lx]
    refine goT_of (has_T ps 107 sz) ?_
    cases h1 : hasB ps 107 with
    | true =>
      simp [hin, t1, t2, t3, t7, lx]
      refine hK _ ⟨by simp [t3], by simp [t7], by simp [t1], by simp [t2], lx0, sz⟩ ?_
      simp [hin, h1]
    | false =>
      simp [hin, t1, t2, t3, t7, lx]
      refine goT_of (has_T ps 116 sz) ?_
      cases h2 : hasB ps 116 with
      | true =>
        simp [hin, t1, t2, t3, t7, lx]
        refine hK _ ⟨by simp [t3], by simp [t7], by simp [t1], by simp [t2], lx0, sz⟩ ?_
        simp [hin, h1, h2]
      | false =>
        by_cases c0 : x.k = 0 <;> simp [hin, t1, t2, t3, t7, lx, h1, h2, c0] <;>
          (refine hK _ ⟨by simp [t3], by simp [t7], by simp [t1], by simp [t2], lx0, sz⟩ ?_; simp [hin, h1, h2, c0])
def G3o : List LIns := [⟨some 115, .move (.tmp 7), (some (114, false))⟩, ⟨some 116, .call 29 [.tmp 115, .const (.int .u8 111)], (some (114, false))⟩, ⟨some 117, .un .not (.tmp 116), (some (114, false))⟩, ⟨some 118, .move (.tmp 117), (some (114, false))⟩, ⟨some 119, .move (.tmp 7), (some (118, true))⟩, ⟨some 120, .call 29 [.tmp 119, .const (.int .u8 112)], (some (118, true))⟩, ⟨some 121, .un .not (.tmp 120), (some (118, true))⟩, ⟨some 122, .pick (.tmp 118) (.tmp 121) (.const (.bool false)), (some (114, false))⟩, ⟨some 123, .move (.tmp 122), (some (114, false))⟩, ⟨some 124, .off 1 (.tmp 3), (some (123, true))⟩, ⟨some 125, .load false 1 (.tmp 124), (some (123, true))⟩, ⟨some 126, .bin .neq (.tmp 125) (.const (.int .i64 0)), (some (123, true))⟩, ⟨some 127, .pick (.tmp 123) (.tmp 126) (.const (.bool false)), (some (114, false))⟩, ⟨some 128, .pick (.tmp 114) (.const (.bool true)) (.tmp 127), none⟩]
theorem q3o {H : Heap} {t : Tm} {bx : Nat} {x : In} {ps : ByteArray} {cells long : Int} (h : O2 H t bx x ps cells long) {v0 : Bool} (hin : t 114 = .bool v0) {K : Tm → Heap → Prop}
    (hK : ∀ t' : Tm, O2 H t' bx x ps cells long → t' 128 = .bool (v0 || (!hasB ps 111 && !hasB ps 112 && decide (x.op ≠ 0))) → K t' (rdy H)) : wpO Try.prog G3o K t (rdy H) := by
  obtain ⟨t3, t7, t1, t2, lx, sz⟩ := h
  have lx0 := lx
  simp only [rowI] at lx
  unfold G3o
  cases v0 with
  | true =>
    simp [hin, t1, t2, t3, t7, lx]
    refine hK _ ⟨by simp [t3], by simp [t7], by simp [t1], by simp [t2], lx0, sz⟩ ?_
    simp [hin]
  | false =>
    simp [hin, t1, t2, t3, t7, lx]
    refine goT_of (has_T ps 111 sz) ?_
    cases h1 : hasB ps 111 with
    | true =>
      simp [hin, t1, t2, t3, t7, lx]
      refine hK _ ⟨by simp [t3], by simp [t7], by simp [t1], by simp [t2], lx0, sz⟩ ?_
      simp [hin, h1]
    | false =>
      simp [hin, t1, t2, t3, t7, lx]
      refine goT_of (has_T ps 112 sz) ?_
      cases h2 : hasB ps 112 with
      | true =>
        simp [hin, t1, t2, t3, t7, lx]
        refine hK _ ⟨by simp [t3], by simp [t7], by simp [t1], by simp [t2], lx0, sz⟩ ?_
        simp [hin, h1, h2]
      | false =>
        by_cases c0 : x.op = 0 <;> simp [hin, t1, t2, t3, t7, lx, h1, h2, c0] <;>
          (refine hK _ ⟨by simp [t3], by simp [t7], by simp [t1], by simp [t2], lx0, sz⟩ ?_; simp [hin, h1, h2, c0])
def G4 : List LIns := [⟨some 129, .move (.tmp 7), none⟩, ⟨some 130, .call 29 [.tmp 129, .const (.int .u8 114)], none⟩, ⟨some 131, .move (.tmp 130), none⟩, ⟨some 132, .off 4 (.tmp 3), (some (131, true))⟩, ⟨some 133, .load false 1 (.tmp 132), (some (131, true))⟩, ⟨some 134, .bin .lss (.tmp 133) (.const (.int .i64 0)), (some (131, true))⟩, ⟨some 135, .move (.tmp 134), (some (131, true))⟩, ⟨some 136, .off 4 (.tmp 3), (some (135, false))⟩, ⟨some 137, .load false 1 (.tmp 136), (some (135, false))⟩, ⟨some 138, .move (.tmp 1), (some (135, false))⟩, ⟨some 139, .bin .geq (.tmp 137) (.tmp 138), (some (135, false))⟩, ⟨some 140, .pick (.tmp 135) (.const (.bool true)) (.tmp 139), (some (131, true))⟩, ⟨some 141, .move (.tmp 140), (some (131, true))⟩, ⟨some 142, .off 4 (.tmp 3), (some (141, false))⟩, ⟨some 143, .load false 1 (.tmp 142), (some (141, false))⟩, ⟨some 144, .bin .geq (.tmp 143) (.const (.int .i64 4)), (some (141, false))⟩, ⟨some 145, .pick (.tmp 141) (.const (.bool true)) (.tmp 144), (some (131, true))⟩, ⟨some 146, .pick (.tmp 131) (.tmp 145) (.const (.bool false)), none⟩]
theorem q4 {H : Heap} {t : Tm} {bx : Nat} {x : In} {ps : ByteArray} {cells long : Int} (h : O2 H t bx x ps cells long) {K : Tm → Heap → Prop}
    (hK : ∀ t' : Tm, O2 H t' bx x ps cells long → t' 146 = .bool (hasB ps 114 && (decide (x.c < 0) || decide (cells ≤ x.c) || decide (4 ≤ x.c))) → K t' (rdy H)) : wpO Try.prog G4 K t (rdy H) := by
  obtain ⟨t3, t7, t1, t2, lx, sz⟩ := h
  have lx0 := lx
  simp only [rowI] at lx
  unfold G4
  simp [t1, t2, t3, t7, lx]
  refine goT_of (has_T ps 114 sz) ?_
  cases h1 : hasB ps 114 with
  | false =>
    simp [t1, t2, t3, t7, lx]
    refine hK _ ⟨by simp [t3], by simp [t7], by simp [t1], by simp [t2], lx0, sz⟩ ?_
    simp [h1]
  | true =>
    by_cases c0 : x.c < 0 <;> by_cases c1 : cells ≤ x.c <;> by_cases c2 : 4 ≤ x.c <;> simp [t1, t2, t3, t7, lx, h1, c0, c1, c2] <;>
      (refine hK _ ⟨by simp [t3], by simp [t7], by simp [t1], by simp [t2], lx0, sz⟩ ?_; simp [h1, c0, c1, c2])
def G5 : List LIns := [⟨some 147, .move (.tmp 7), none⟩, ⟨some 148, .call 29 [.tmp 147, .const (.int .u8 116)], none⟩, ⟨some 149, .move (.tmp 148), none⟩, ⟨some 150, .off 5 (.tmp 3), (some (149, true))⟩, ⟨some 151, .load false 1 (.tmp 150), (some (149, true))⟩, ⟨some 152, .bin .lss (.tmp 151) (.const (.int .i64 0)), (some (149, true))⟩, ⟨some 153, .move (.tmp 152), (some (149, true))⟩, ⟨some 154, .off 5 (.tmp 3), (some (153, false))⟩, ⟨some 155, .load false 1 (.tmp 154), (some (153, false))⟩, ⟨some 156, .move (.tmp 2), (some (153, false))⟩, ⟨some 157, .bin .geq (.tmp 155) (.tmp 156), (some (153, false))⟩, ⟨some 158, .pick (.tmp 153) (.const (.bool true)) (.tmp 157), (some (149, true))⟩, ⟨some 159, .pick (.tmp 149) (.tmp 158) (.const (.bool false)), none⟩]
theorem q5 {H : Heap} {t : Tm} {bx : Nat} {x : In} {ps : ByteArray} {cells long : Int} (h : O2 H t bx x ps cells long) {K : Tm → Heap → Prop}
    (hK : ∀ t' : Tm, O2 H t' bx x ps cells long → t' 159 = .bool (hasB ps 116 && (decide (x.k < 0) || decide (long ≤ x.k))) → K t' (rdy H)) : wpO Try.prog G5 K t (rdy H) := by
  obtain ⟨t3, t7, t1, t2, lx, sz⟩ := h
  have lx0 := lx
  simp only [rowI] at lx
  unfold G5
  simp [t1, t2, t3, t7, lx]
  refine goT_of (has_T ps 116 sz) ?_
  cases h1 : hasB ps 116 with
  | false =>
    simp [t1, t2, t3, t7, lx]
    refine hK _ ⟨by simp [t3], by simp [t7], by simp [t1], by simp [t2], lx0, sz⟩ ?_
    simp [h1]
  | true =>
    by_cases c0 : x.k < 0 <;> by_cases c1 : long ≤ x.k <;> simp [t1, t2, t3, t7, lx, h1, c0, c1] <;>
      (refine hK _ ⟨by simp [t3], by simp [t7], by simp [t1], by simp [t2], lx0, sz⟩ ?_; simp [h1, c0, c1])
end Go.Proofs.Ytkocomnfomjfiaa
