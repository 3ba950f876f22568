/-
  Chapter 8: InsBack answers true at every input.
-/
import Derived.Test.YtkocomnfomjfiaaSeatAC
namespace Go.Proofs.Ytkocomnfomjfiaa
open Go.Ot Go.ChangeShapes Go.WideShapes Go.ChangeAt Go.RowKit
set_option linter.unusedSimpArgs false
set_option linter.unusedVariables false
theorem backLaw_T {H : Heap} (hw : H.WF) {xl : Value} {l : List In} (hx : Rws H 6 xl (l.map rowI)) (hk : ∀ a ∈ l, okI a.k) (cells : Int) : ∃ v H', T Try.prog 10 [xl, iv cells] H v H' ∧ v = .bool true := by
  refine T_by hm light10 ?_
  obtain ⟨xa, xc, hxl⟩ := hx.len
  rw [List.length_map] at hxl
  by_cases h1 : 1000 < l.length
  · rw [hxl]; simp [L10, h1]
  obtain ⟨v2, H2, T2, y2, rfl, g2⟩ := encode_T hw hx hk cells
  have hx2 := hx.keep hw g2.base (OG.olds g2)
  have hb := encS_b l cells
  by_cases he0 : (checkV l cells).2 = 0
  · have hes : encS l cells = encV l := by unfold encS; rw [if_pos he0]
    have hlen : (encV l).length ≤ 1000000 := by
      obtain ⟨hok, _, h6⟩ := check_ok he0
      have := encAll_len (l := l) (cells := cells) (long := l.length) (fun x hx => ⟨hok x hx, hk x hx⟩)
      have h3 := encU_len 9 l.length (by omega)
      unfold encV
      rw [List.length_append]
      have : 60 * l.length ≤ 60 * 600 := Nat.mul_le_mul_left _ h6
      omega
    rw [hes] at g2 hb
    obtain ⟨v3, H3, T3, y3, rfl, hr3, s3⟩ := decode_T g2.wf (own_bs g2.own) hb hlen cells
    rw [back_of he0 hk] at T3 hr3
    simp only at T3 hr3
    have hx3 : Rws H3 6 xl (l.map rowI) := hx2.keep g2.wf T3.1 (fun b hb => s3 b hb (by simp))
    obtain ⟨v4, H4, T4, rfl, s4⟩ := sameI_T (T3.grow.wf g2.wf) hx3 hr3 (by omega)
    obtain ⟨v6, H6, T6, rfl⟩ := alive_T (T4.grow.wf (T3.grow.wf g2.wf))
    rw [he0] at T2
    rw [hxl] at T2 T4 ⊢
    simp [L10, h1]
    refine goT_of T2 ?_
    simp
    refine goT_of T3 ?_
    simp
    refine goT_of T4 ?_
    simp
    refine goT_of T6 ?_
    simp
  · have hes : encS l cells = [] := by unfold encS; rw [if_neg he0]
    rw [hes] at g2
    obtain ⟨v3, H3, T3, rfl, s3⟩ := check_T g2.wf hx2 cells
    obtain ⟨v6, H6, T6, rfl⟩ := alive_T (T3.grow.wf g2.wf)
    obtain ⟨e, he⟩ : ∃ e, e = (checkV l cells).2 := ⟨_, rfl⟩
    obtain ⟨w, hwc⟩ : ∃ w, w = (checkV l cells).1 := ⟨_, rfl⟩
    rw [← he] at T2 he0
    rw [← he, ← hwc] at T3
    have h0' : (e != 0) = true := by simp [he0]
    obtain ⟨a2, ha2⟩ := g2.own.len
    have hly : sLenL y2 = some (.int .i64 0) := by rw [ha2]; rfl
    rw [hxl] at T2 T3 ⊢
    simp [L10, h1]
    refine goT_of T2 ?_
    simp [h0']
    refine goT_of T3 ?_
    simp [hly]
    refine goT_of T6 ?_
    simp
theorem back_U {H : Heap} (hw : H.WF) {x : Value} (h0 : Rd Try.prog H 4 32 [x]) {cells : Int} (_ : -9223372036854775808 ≤ cells ∧ cells ≤ 9223372036854775807) :
    ∃ v H', T Try.prog 10 [x, iv cells] H v H' ∧ v = .bool true := by
  obtain ⟨l, hx, _, hk⟩ := rd_ins h0
  exact backLaw_T hw hx hk cells
end Go.Proofs.Ytkocomnfomjfiaa
