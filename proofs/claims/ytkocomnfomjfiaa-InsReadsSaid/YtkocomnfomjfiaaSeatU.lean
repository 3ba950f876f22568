/-
  Chapter 8: InsBytes answers true at every input.
-/
import Derived.Test.YtkocomnfomjfiaaSeatT
namespace Go.Proofs.Ytkocomnfomjfiaa
open Go.Ot Go.ChangeShapes Go.WideShapes Go.ChangeAt Go.RowKit
set_option linter.unusedSimpArgs false
set_option linter.unusedVariables false
theorem encPs_b (l : List (Bool × Int)) : ∀ b ∈ encPs l, b < 256 := by
  intro b hb
  unfold encPs at hb
  obtain ⟨q, _, hq⟩ := List.mem_flatMap.1 hb
  unfold encP at hq
  split at hq
  · exact encU_b _ _ hq
  · cases hq
theorem encIns_b (x : In) : ∀ b ∈ encIns x, b < 256 := by
  intro b hb
  unfold encIns at hb
  rcases List.mem_append.1 hb with hb | hb
  · rcases List.mem_append.1 hb with hb | hb
    · exact encU_b _ _ hb
    · exact encPs_b _ _ hb
  · split at hb
    · exact encU_b _ _ hb
    · cases hb
theorem encS_b (l : List In) (cells : Int) : ∀ b ∈ encS l cells, b < 256 := by
  intro b hb
  unfold encS at hb
  split at hb
  · unfold encV encAll at hb
    rcases List.mem_append.1 hb with hb | hb
    · exact encU_b _ _ hb
    · obtain ⟨q, _, hq⟩ := List.mem_flatMap.1 hb
      exact encIns_b _ _ hq
  · cases hb
theorem bytesLaw_T {H : Heap} (hw : H.WF) {xl : Value} {l : List In} (hx : Rws H 6 xl (l.map rowI)) (hkk : ∀ a ∈ l, okI a.kind) (hk : ∀ a ∈ l, okI a.k) (cells : Int) : ∃ v H', T Try.prog 5 [xl, iv cells] H v H' ∧ v = .bool true := by
  refine T_by hm light5 ?_
  obtain ⟨xa, xc, hxl⟩ := hx.len
  rw [List.length_map] at hxl
  by_cases h1 : 1000 < l.length
  · rw [hxl]; simp [L5, h1]
  obtain ⟨v2, H2, T2, y2, rfl, g2⟩ := encode_T hw hx hk cells
  obtain ⟨v3, H3, T3, y3, rfl, g3⟩ := encodeR_T g2.wf (hx.keep hw g2.base (OG.olds g2)) hkk hk cells
  obtain ⟨v6, H6, T6, rfl⟩ := alive_T g3.wf
  have hb := encS_b l cells
  obtain ⟨r, hr⟩ : ∃ r, r = encS l cells := ⟨_, rfl⟩
  obtain ⟨e, he⟩ : ∃ e, e = (checkV l cells).2 := ⟨_, rfl⟩
  rw [← he] at T2 T3
  rw [← hr] at g2 g3 hb
  have b2 : Bs H3 y2 r := (own_bs g2.own).keep g2.wf g3.base (OG.olds g3)
  have b3 : Bs H3 y3 r := own_bs g3.own
  have q2 := toStr_bs b2
  have q3 := toStr_bs b3
  have eq := eql_str hb hb
  obtain ⟨a2, c2, hy2⟩ := b2.len
  obtain ⟨a3, c3, hy3⟩ := b3.len
  obtain ⟨s, hs⟩ : ∃ s, s = strB r := ⟨_, rfl⟩
  rw [← hs] at q2 q3 eq
  rw [hxl] at T2 T3 ⊢
  simp [L5, h1]
  refine goT_of T2 ?_
  simp
  refine goT_of T3 ?_
  simp [q2, q3, eq]
  refine goT_of T6 ?_
  simp
theorem bytes_U {H : Heap} (hw : H.WF) {x : Value} (h0 : Rd Try.prog H 4 32 [x]) {cells : Int} (_ : -9223372036854775808 ≤ cells ∧ cells ≤ 9223372036854775807) :
    ∃ v H', T Try.prog 5 [x, iv cells] H v H' ∧ v = .bool true := by
  obtain ⟨l, hx, hkk, hk⟩ := rd_ins h0
  exact bytesLaw_T hw hx hkk hk cells
end Go.Proofs.Ytkocomnfomjfiaa
