/-
  Chapter 8: which text of instructions may be.
-/
import Derived.Test.YtkocomnfomjfiaaSeatE
namespace Go.Proofs.Ytkocomnfomjfiaa
open Go.Ot Go.RowKit
set_option linter.unusedSimpArgs false
set_option linter.unusedVariables false
def fallsV (k : Int) : Bool := decide (k ≠ 1) && decide (k ≠ 10) && decide (k ≠ 13)
theorem falls_T {H : Heap} (hw : H.WF) (x : In) : ∃ v H', T Try.prog 13 [.agg (rowI x).toArray] H v H' ∧ v = .bool (fallsV x.kind) ∧ Same H H' [] := falls_T0 hw x
theorem fallsR_T {H : Heap} (hw : H.WF) (x : In) : ∃ v H', T Try.prog 14 [.agg (rowI x).toArray] H v H' ∧ v = .bool (fallsV x.kind) ∧ Same H H' [] := by
  refine T_by hm light14 ?_
  have l0 := new_load hw 25 6 (rowI x)
  have sm : Same H (H.new 25 6 (rowI x)) [] := fun b hb _ => by simp [show b ≠ H.next by omega]
  simp only [rowI] at l0 sm
  unfold fallsV
  obtain ⟨r, hr⟩ : ∃ r, r = (decide (x.kind ≠ 1) && decide (x.kind ≠ 10) && decide (x.kind ≠ 13)) := ⟨_, rfl⟩
  rw [← hr]
  by_cases h1 : x.kind = 1
  · have e1 : (x.kind != 1) = false := by simp [h1]
    have e0 : r = false := by rw [hr]; simp [h1]
    simp [L14, rowI, l0, e0, e1, sm]
  · have e1 : (x.kind != 1) = true := bne_iff_ne.2 h1
    by_cases h2 : x.kind = 10
    · have e2 : (x.kind != 10) = false := by simp [h2]
      have e0 : r = false := by rw [hr]; simp [h2]
      simp [L14, rowI, l0, e0, e1, e2, sm]
    · have e2 : (x.kind != 10) = true := bne_iff_ne.2 h2
      by_cases h3 : x.kind = 13
      · have e3 : (x.kind != 13) = false := by simp [h3]
        have e0 : r = false := by rw [hr]; simp [h3]
        simp [L14, rowI, l0, e0, e1, e2, e3, sm]
      · have e3 : (x.kind != 13) = true := bne_iff_ne.2 h3
        have e0 : r = true := by rw [hr]; simp [h1, h2, h3]
        simp [L14, rowI, l0, e0, e1, e2, e3, sm]
/-- The first instruction that may not be, and what is wrong with it. -/
def fstBad (cells long : Int) : List In → Nat → Option (Nat × Int)
  | [], _ => none
  | x :: l, i => if oneV x cells long = 0 then fstBad cells long l (i + 1) else some (i, oneV x cells long)
def lastK (l : List In) : Int := match l.getLast? with | some x => x.kind | none => 0
def checkV (l : List In) (cells : Int) : Int × Int :=
  if l.length = 0 ∨ 600 < l.length then (0, 80) else match fstBad cells l.length l 0 with
    | some (i, e) => ((i : Int), e)
    | none => if fallsV (lastK l) = true then ((l.length : Int) - 1, 85) else (0, 0)
def InvCk (H : Heap) (x : Value) (l : List In) (cells : Int) (k : Nat) (t : Tm) (H1 : Heap) : Prop :=
  ∃ i : Nat, i + k = l.length ∧ t 0 = x ∧ t 1 = iv cells ∧ t 18 = x ∧ t 19 = iv (l.length : Nat) ∧ t 20 = iv i ∧ fstBad cells l.length (l.drop i) i = fstBad cells l.length l 0 ∧ H1.WF ∧ H1.base = H.base ∧ H.next ≤ H1.next ∧ ∀ b, b < H.next → H1.blk b = H.blk b
theorem last_row {l : List In} (h : 0 < l.length) : lastK l = (l[l.length - 1]'(by omega)).kind := by
  unfold lastK
  rw [List.getLast?_eq_getElem?, List.getElem?_eq_getElem (by omega)]
theorem check_T {H : Heap} (hw : H.WF) {x : Value} {l : List In} (hx : Rws H 6 x (l.map rowI)) (cells : Int) :
    ∃ v H', T Try.prog 16 [x, iv cells] H v H' ∧ v = .tuple #[iv (checkV l cells).1, iv (checkV l cells).2] ∧ Same H H' [] := by
  refine T_by hm light16 ?_
  obtain ⟨xa, xc, hxl⟩ := hx.len
  rw [List.length_map] at hxl
  obtain ⟨r, hr⟩ : ∃ r, r = checkV l cells := ⟨_, rfl⟩
  rw [← hr]
  unfold checkV at hr
  by_cases h0 : l.length = 0
  · rw [if_pos (.inl h0)] at hr
    subst hr
    rw [hxl]
    simp [L16, h0, packV, Same.refl]
  by_cases h6 : 600 < l.length
  · rw [if_pos (.inr h6)] at hr
    subst hr
    rw [hxl]
    simp [L16, h0, h6, packV, Same.refl]
  rw [if_neg (by omega)] at hr
  rw [hxl]
  simp [L16, h0, h6]
  rw [← hxl]
  refine loop_at (InvCk H x l cells) l.length ?_ ?_
  · exact ⟨0, by omega, by simp [hxl], by simp, by simp, by simp, by simp, rfl, hw, rfl, Nat.le_refl _, fun _ _ => rfl⟩
  · rintro k t H1 ⟨i, hik, t0, t1, t18, t19, t20, hf, w1, b1, n1, o1⟩
    cases k with
    | succ k =>
      have hi : i < l.length := by omega
      obtain ⟨b, off, c, hxs, hlen, ld, _⟩ := (hx.keep hw b1 o1).at (i := i) (by simpa using hi)
      simp only [List.getElem_map, List.length_map] at hxs hlen ld
      have e3 : IntKind.i64.wrap ((i : Int) + 1) = ((i + 1 : Nat) : Int) := by rw [w64 _ (by omega)]; omega
      obtain ⟨i1, hi1⟩ : ∃ i1, i1 = i + 1 := ⟨_, rfl⟩
      rw [← hi1] at e3
      have st := new_storeA w1 25 6 [.int .i64 0, .int .i64 0, .int .i64 0, .int .i64 0, .int .i64 0, .int .i64 0] (rowI l[i]) rfl rfl (by decide)
      have lda := new_loadA w1 25 6 (rowI l[i]) rfl
      obtain ⟨H2, hH2⟩ : ∃ H2, H2 = H1.new 25 6 (rowI l[i]) := ⟨_, rfl⟩
      have w2 : H2.WF := by rw [hH2]; exact WF_new w1 _ _ _
      have n2 : H2.next = H1.next + 1 := by rw [hH2]; rfl
      have b2 : H2.base = H.base := by rw [hH2]; exact b1
      have o2 : ∀ b, b < H.next → H2.blk b = H.blk b := fun b hb => by rw [hH2]; simp [show b ≠ H1.next by omega]; exact o1 b hb
      rw [← hH2] at st lda
      obtain ⟨v3, H3, T3, rfl, s3⟩ := one_T w2 l[i] cells l.length
      have n3 := T3.grow.next
      have o3 : ∀ b, b < H.next → H3.blk b = H.blk b := fun b hb => (s3 b (by omega) (by simp)).trans (o2 b hb)
      rw [List.drop_eq_getElem_cons hi] at hf
      simp only [fstBad] at hf
      obtain ⟨e, he⟩ : ∃ e, e = oneV l[i] cells l.length := ⟨_, rfl⟩
      rw [← he] at T3 hf
      simp [L16_1, t0, t1, t18, t19, t20, hxs, hi, ld, st, lda]
      refine goT_of T3 ?_
      by_cases hz : e = 0
      · rw [if_pos hz] at hf
        have hz' : (e != 0) = false := by simp [hz]
        simp [hz', t20, e3]
        refine ⟨k, Nat.lt_succ_self k, i1, by omega, by simp [t0, hxs], by simp [t1], by simp [t18, hxs], by simp [t19], by simp, by rw [hi1]; exact hf, T3.grow.wf w2, T3.1.trans b2, by simp; omega, o3⟩
      · rw [if_neg hz] at hf
        rw [← hf] at hr
        simp only at hr
        subst hr
        have hz' : (e != 0) = true := by simp [hz]
        simp [hz', packV]
        exact fun b hb _ => o3 b hb
    | zero =>
      have ei : i = l.length := by omega
      subst ei
      rw [List.drop_length] at hf
      simp only [fstBad] at hf
      rw [← hf] at hr
      simp only at hr
      have hl1 : l.length - 1 < l.length := by omega
      obtain ⟨b, off, c, hxs, hlen, ld, _⟩ := (hx.keep hw b1 o1).at (i := l.length - 1) (by simpa using hl1)
      simp only [List.getElem_map, List.length_map] at hxs hlen ld
      obtain ⟨v3, H3, T3, rfl, s3⟩ := falls_T w1 l[l.length - 1]
      rw [← last_row (by omega)] at T3
      have o3 : ∀ b, b < H.next → H3.blk b = H.blk b := fun b hb => (s3 b (by omega) (by simp)).trans (o1 b hb)
      obtain ⟨q, hq⟩ : ∃ q, q = l.length - 1 := ⟨_, rfl⟩
      have e4 : IntKind.i64.wrap ((l.length : Int) - 1) = (q : Int) := by rw [w64 _ (by omega)]; omega
      have e5 : (l.length : Int) - 1 = (q : Int) := by omega
      have hql : q < l.length := by omega
      rw [hxs] at t0
      have ld' : H1.loadN ⟨b, off + q * 6, none⟩ 0 6 = some (rowI l[l.length - 1]) := by rw [hq]; exact ld
      rw [e5] at hr
      simp [L16_1, t0, t19, t20, e4, hql, ld']
      refine goT_of T3 ?_
      cases hfa : fallsV (lastK l) with
      | true =>
        rw [hfa, if_pos rfl] at hr
        subst hr
        simp [packV]
        exact fun b hb _ => o3 b hb
      | false =>
        rw [hfa, if_neg (by simp)] at hr
        subst hr
        simp [packV]
        exact fun b hb _ => o3 b hb
def InvCr (H : Heap) (x : Value) (l : List In) (cells : Int) (k : Nat) (t : Tm) (H1 : Heap) : Prop :=
  ∃ i : Nat, i + k = l.length ∧ t 0 = x ∧ t 1 = iv cells ∧ t 6 = iv i ∧ fstBad cells l.length (l.drop i) i = fstBad cells l.length l 0 ∧ H1.WF ∧ H1.base = H.base ∧ H.next ≤ H1.next ∧ ∀ b, b < H.next → H1.blk b = H.blk b
theorem checkR_T {H : Heap} (hw : H.WF) {x : Value} {l : List In} (hx : Rws H 6 x (l.map rowI)) (hk : ∀ a ∈ l, okI a.kind) (cells : Int) :
    ∃ v H', T Try.prog 17 [x, iv cells] H v H' ∧ v = .tuple #[iv (checkV l cells).1, iv (checkV l cells).2] ∧ Same H H' [] := by
  refine T_by hm light17 ?_
  obtain ⟨xa, xc, hxl⟩ := hx.len
  rw [List.length_map] at hxl
  obtain ⟨r, hr⟩ : ∃ r, r = checkV l cells := ⟨_, rfl⟩
  rw [← hr]
  unfold checkV at hr
  by_cases h0 : l.length = 0
  · rw [if_pos (.inl h0)] at hr
    subst hr
    rw [hxl]
    simp [L17, h0, packV, Same.refl]
  by_cases h6 : 600 < l.length
  · rw [if_pos (.inr h6)] at hr
    subst hr
    rw [hxl]
    simp [L17, h0, h6, packV, Same.refl]
  rw [if_neg (by omega)] at hr
  rw [hxl]
  simp [L17, h0, h6]
  rw [← hxl]
  refine loop_at (InvCr H x l cells) l.length ?_ ?_
  · exact ⟨0, by omega, by simp [hxl], by simp, by simp, rfl, hw, rfl, Nat.le_refl _, fun _ _ => rfl⟩
  · rintro k t H1 ⟨i, hik, t0, t1, t6, hf, w1, b1, n1, o1⟩
    cases k with
    | succ k =>
      have hi : i < l.length := by omega
      obtain ⟨b, off, c, hxs, hlen, ld, _⟩ := (hx.keep hw b1 o1).at (i := i) (by simpa using hi)
      simp only [List.getElem_map, List.length_map] at hxs hlen ld
      have e3 : IntKind.i64.wrap ((i : Int) + 1) = ((i + 1 : Nat) : Int) := by rw [w64 _ (by omega)]; omega
      obtain ⟨i1, hi1⟩ : ∃ i1, i1 = i + 1 := ⟨_, rfl⟩
      rw [← hi1] at e3
      obtain ⟨v3, H3, T3, rfl, s3⟩ := oneR_T w1 l[i] (hk _ (List.getElem_mem hi)) cells l.length
      rw [one_eq] at T3
      have n3 := T3.grow.next
      have o3 : ∀ b, b < H.next → H3.blk b = H.blk b := fun b hb => (s3 b (by omega) (by simp)).trans (o1 b hb)
      rw [List.drop_eq_getElem_cons hi] at hf
      simp only [fstBad] at hf
      obtain ⟨e, he⟩ : ∃ e, e = oneV l[i] cells l.length := ⟨_, rfl⟩
      rw [← he] at T3 hf
      simp [L17_1, t0, t1, t6, hxs, hi, ld]
      refine goT_of T3 ?_
      by_cases hz : e = 0
      · rw [if_pos hz] at hf
        have hz' : (e != 0) = false := by simp [hz]
        simp [hz', t6, e3]
        refine ⟨k, Nat.lt_succ_self k, i1, by omega, by simp [t0, hxs], by simp [t1], by simp, by rw [hi1]; exact hf, T3.grow.wf w1, T3.1.trans b1, by simp; omega, o3⟩
      · rw [if_neg hz] at hf
        rw [← hf] at hr
        simp only at hr
        subst hr
        have hz' : (e != 0) = true := by simp [hz]
        simp [hz', t6, packV]
        exact fun b hb _ => o3 b hb
    | zero =>
      have ei : i = l.length := by omega
      subst ei
      rw [List.drop_length] at hf
      simp only [fstBad] at hf
      rw [← hf] at hr
      simp only at hr
      have hl1 : l.length - 1 < l.length := by omega
      obtain ⟨b, off, c, hxs, hlen, ld, _⟩ := (hx.keep hw b1 o1).at (i := l.length - 1) (by simpa using hl1)
      simp only [List.getElem_map, List.length_map] at hxs hlen ld
      obtain ⟨v3, H3, T3, rfl, s3⟩ := fallsR_T w1 l[l.length - 1]
      rw [← last_row (by omega)] at T3
      have o3 : ∀ b, b < H.next → H3.blk b = H.blk b := fun b hb => (s3 b (by omega) (by simp)).trans (o1 b hb)
      obtain ⟨q, hq⟩ : ∃ q, q = l.length - 1 := ⟨_, rfl⟩
      have e4 : IntKind.i64.wrap ((l.length : Int) - 1) = (q : Int) := by rw [w64 _ (by omega)]; omega
      have e5 : (l.length : Int) - 1 = (q : Int) := by omega
      have hql : q < l.length := by omega
      rw [hxs] at t0
      have ld' : H1.loadN ⟨b, off + q * 6, none⟩ 0 6 = some (rowI l[l.length - 1]) := by rw [hq]; exact ld
      rw [e5] at hr
      simp [L17_1, t0, t6, e4, hql, ld']
      refine goT_of T3 ?_
      cases hfa : fallsV (lastK l) with
      | true =>
        rw [hfa, if_pos rfl] at hr
        subst hr
        simp [t0, e4, packV]
        exact fun b hb _ => o3 b hb
      | false =>
        rw [hfa, if_neg (by simp)] at hr
        subst hr
        simp [packV]
        exact fun b hb _ => o3 b hb
end Go.Proofs.Ytkocomnfomjfiaa
