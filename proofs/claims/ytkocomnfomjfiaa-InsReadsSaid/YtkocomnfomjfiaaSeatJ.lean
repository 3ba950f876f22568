/-
  InsOnes, InsChecks and InsMore answer true at every input.
-/
import Derived.Test.YtkocomnfomjfiaaSeatI
namespace Go.Proofs.Ytkocomnfomjfiaa
open Go.Ot Go.ChangeShapes Go.WideShapes Go.ChangeAt Go.RowKit
set_option linter.unusedSimpArgs false
set_option linter.unusedVariables false
theorem ones_T {H : Heap} (hw : H.WF) (x : In) (hk : okI x.kind) (cells long : Int) : ∃ v H', T Try.prog 3 [.agg (rowI x).toArray, iv cells, iv long] H v H' ∧ v = .bool true := by
  refine T_by hm light3 ?_
  obtain ⟨H1, hH1⟩ : ∃ H1, H1 = H.new 25 6 (rowI x) := ⟨_, rfl⟩
  have w1 : H1.WF := by rw [hH1]; exact WF_new hw _ _ _
  have n1 : H1.next = H.next + 1 := by rw [hH1]; rfl
  have l1 : H1.loadN ⟨H.next, 0, none⟩ 0 6 = some (rowI x) := by rw [hH1]; exact new_loadA hw 25 6 (rowI x) rfl
  have lk : ∀ H2 : Heap, H2.base = H1.base → (∀ b, b < H1.next → H2.blk b = H1.blk b) → H2.loadN ⟨H.next, 0, none⟩ 0 6 = some (rowI x) := by
    intro H2 hb hk
    refine loadN_cells (l := rowI x) (i := 0) (fun j hj => ?_)
    rw [load_frame hb (hk _ (by omega))]
    have := new_load hw 25 6 (rowI x) (0 + 0 + j)
    rw [hH1, this]
    simp [hj]
  obtain ⟨v2, H2, T2, rfl, s2⟩ := one_T w1 x cells long
  have w2 := T2.grow.wf w1
  have n2 := T2.grow.next
  have k2 : ∀ b, b < H1.next → H2.blk b = H1.blk b := fun b hb => s2 b hb (by simp)
  have l2 := lk H2 T2.1 k2
  obtain ⟨v3, H3, T3, rfl, s3⟩ := oneR_T w2 x hk cells long
  rw [one_eq] at T3
  have w3 := T3.grow.wf w2
  have n3 := T3.grow.next
  have k3 : ∀ b, b < H1.next → H3.blk b = H1.blk b := fun b hb => (s3 b (by omega) (by simp)).trans (k2 b hb)
  have l3 := lk H3 (T3.1.trans T2.1) k3
  obtain ⟨v4, H4, T4, rfl, s4⟩ := falls_T w3 x
  have w4 := T4.grow.wf w3
  have n4 := T4.grow.next
  have k4 : ∀ b, b < H1.next → H4.blk b = H1.blk b := fun b hb => (s4 b (by omega) (by simp)).trans (k3 b hb)
  have l4 := lk H4 (T4.1.trans (T3.1.trans T2.1)) k4
  obtain ⟨v5, H5, T5, rfl, s5⟩ := fallsR_T w4 x
  obtain ⟨v6, H6, T6, rfl⟩ := alive_T (T5.grow.wf w4)
  simp [L3]
  refine ⟨rfl, ?_⟩
  rw [← hH1]
  simp [l1]
  refine goT_of T2 ?_
  simp [l1, l2]
  refine goT_of T3 ?_
  simp [l3]
  refine goT_of T4 ?_
  simp [l3, l4]
  refine goT_of T5 ?_
  simp
  refine goT_of T6 ?_
  simp
theorem checks_T {H : Heap} (hw : H.WF) {x : Value} {l : List In} (hx : Rws H 6 x (l.map rowI)) (hk : ∀ a ∈ l, okI a.kind) (cells : Int) : ∃ v H', T Try.prog 4 [x, iv cells] H v H' ∧ v = .bool true := by
  refine T_by hm light4 ?_
  obtain ⟨xa, xc, hxl⟩ := hx.len
  rw [List.length_map] at hxl
  by_cases h1 : 1000 < l.length
  · rw [hxl]; simp [L4, h1]
  obtain ⟨v2, H2, T2, rfl, s2⟩ := check_T hw hx cells
  have w2 := T2.grow.wf hw
  obtain ⟨v3, H3, T3, rfl, s3⟩ := checkR_T w2 (hx.keep hw T2.1 (fun b hb => s2 b hb (by simp))) hk cells
  obtain ⟨v6, H6, T6, rfl⟩ := alive_T (T3.grow.wf w2)
  obtain ⟨r, hr⟩ : ∃ r, r = checkV l cells := ⟨_, rfl⟩
  rw [← hr] at T2 T3
  rw [hxl] at T2 T3 ⊢
  simp [L4, h1]
  refine goT_of T2 ?_
  simp
  refine goT_of T3 ?_
  simp
  refine goT_of T6 ?_
  simp
theorem one_more {x : In} {cells more long : Int} (hm : cells ≤ more) (h : oneV x cells long ≠ 63) : oneV x more long = oneV x cells long := by
  unfold oneV at h ⊢
  have h5 : c5V (shp x.kind) x cells = false → c5V (shp x.kind) x more = false := by
    unfold c5V
    intro h0
    cases hc : (shp x.kind).cell with
    | false => rfl
    | true =>
      rw [hc] at h0
      simp only [Bool.true_and, Bool.or_eq_false_iff, decide_eq_false_iff_not] at h0 ⊢
      refine ⟨h0.1, ?_⟩
      have := h0.2
      by_cases a1 : 4 < cells
      · rw [if_pos a1] at this; rw [if_pos (by omega)]; exact this
      · rw [if_neg a1] at this
        by_cases a2 : 4 < more
        · rw [if_pos a2]; omega
        · rw [if_neg a2]; omega
  generalize valid x.kind = v at h ⊢
  generalize c2V (shp x.kind) x = b2 at h ⊢
  generalize c3V (shp x.kind) x = b3 at h ⊢
  generalize c4V (shp x.kind) x = b4 at h ⊢
  generalize c5V (shp x.kind) x cells = b5 at h h5 ⊢
  generalize c5V (shp x.kind) x more = b6 at h h5 ⊢
  revert h h5
  cases v <;> cases b2 <;> cases b3 <;> cases b4 <;> cases b5 <;> cases b6 <;> simp
theorem fst_more {cells more long : Int} (hm : cells ≤ more) : ∀ (l : List In) (i : Nat), (∀ p, fstBad cells long l i = some p → p.2 ≠ 63) → fstBad more long l i = fstBad cells long l i
  | [], i, _ => rfl
  | x :: l, i, h => by
    simp only [fstBad] at h ⊢
    by_cases h0 : oneV x cells long = 0
    · rw [if_pos h0] at h ⊢
      rw [if_pos (by rw [one_more hm (by rw [h0]; decide), h0])]
      exact fst_more hm l (i + 1) h
    · rw [if_neg h0] at h ⊢
      have h63 := h _ rfl
      simp only at h63
      rw [one_more hm h63, if_neg h0]
theorem check_more (l : List In) {cells more : Int} (hm : cells ≤ more) : (checkV l cells).2 = 63 ∨ (checkV l more).2 = (checkV l cells).2 := by
  unfold checkV
  by_cases h0 : l.length = 0 ∨ 600 < l.length
  · rw [if_pos h0, if_pos h0]; exact .inr rfl
  · rw [if_neg h0, if_neg h0]
    by_cases h : ∀ p, fstBad cells l.length l 0 = some p → p.2 ≠ 63
    · rw [fst_more hm l 0 h]; exact .inr rfl
    · obtain ⟨p, hp, h63⟩ : ∃ p, fstBad cells l.length l 0 = some p ∧ p.2 = 63 := by
        apply Classical.byContradiction
        intro hn
        exact h (fun p hp h63 => hn ⟨p, hp, h63⟩)
      rw [hp]
      exact .inl h63
theorem more_T {H : Heap} (hw : H.WF) {x : Value} {l : List In} (hx : Rws H 6 x (l.map rowI)) (cells more : Int) : ∃ v H', T Try.prog 6 [x, iv cells, iv more] H v H' ∧ v = .bool true := by
  refine T_by hm light6 ?_
  obtain ⟨xa, xc, hxl⟩ := hx.len
  rw [List.length_map] at hxl
  by_cases h1 : 1000 < l.length
  · rw [hxl]; simp [L6, h1]
  by_cases h2 : more < cells
  · rw [hxl]; simp [L6, h1, h2]
  have hcm := check_more l (show cells ≤ more by omega)
  obtain ⟨v2, H2, T2, rfl, s2⟩ := check_T hw hx cells
  have w2 := T2.grow.wf hw
  obtain ⟨v3, H3, T3, rfl, s3⟩ := check_T w2 (hx.keep hw T2.1 (fun b hb => s2 b hb (by simp))) more
  obtain ⟨v6, H6, T6, rfl⟩ := alive_T (T3.grow.wf w2)
  obtain ⟨e, he⟩ : ∃ e, e = (checkV l cells).2 := ⟨_, rfl⟩
  obtain ⟨f, hf⟩ : ∃ f, f = (checkV l more).2 := ⟨_, rfl⟩
  rw [← he] at T2 hcm
  rw [← hf] at T3 hcm
  rw [hxl] at T2 T3 ⊢
  simp [L6, h1, h2]
  refine goT_of T2 ?_
  simp
  refine goT_of T3 ?_
  by_cases e0 : e = 0
  · have f0 : f = 0 := by rcases hcm with h | h <;> omega
    subst e0 f0
    simp
    refine goT_of T6 ?_
    simp
  · have e1 : (e != 0) = true := by simp [e0]
    have e2 : (e == 0) = false := by simp [e0]
    by_cases f0 : f = 0
    · have e63 : e = 63 := by rcases hcm with h | h <;> omega
      subst e63 f0
      simp
      refine goT_of T6 ?_
      simp
    · have f1 : (f == 0) = false := by simp [f0]
      by_cases hef : e = f
      · subst hef
        simp [e1, f1]
        refine goT_of T6 ?_
        simp
      · have e63 : e = 63 := by rcases hcm with h | h <;> omega
        have g1 : ((63 : Int) == f) = false := by simp; omega
        subst e63
        simp [f1, g1]
        refine goT_of T6 ?_
        simp
theorem c1_3 : Try.prog.cellsOf 3 = 1 := by kernel_rfl
theorem c1_2 : Try.prog.cellsOf 2 = 1 := by kernel_rfl
theorem c1_22 : Try.prog.cellsOf 22 = 1 := by kernel_rfl
end Go.Proofs.Ytkocomnfomjfiaa
