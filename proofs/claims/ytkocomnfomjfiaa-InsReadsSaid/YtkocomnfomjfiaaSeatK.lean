/-
  Opening of instructions: what is read of an instruction, and of a row of them; three laws ready for their statements.
-/
import Derived.Test.YtkocomnfomjfiaaSeatJ
import Derived.Test.YtkocomnfomjfiaaOtZ
namespace Go.Proofs.Ytkocomnfomjfiaa
open Go.Ot Go.ChangeShapes Go.WideShapes Go.ChangeAt Go.RowKit
set_option linter.unusedSimpArgs false
set_option linter.unusedVariables false
set_option maxRecDepth 100000 in
theorem rd_in {H : Heap} (ds : List Value) (h : Rd Try.prog H 3 25 ds) : ∃ a : In, ds = rowI a ∧ okI a.kind ∧ okI a.k := by
  have hl : ds.length = 6 := (rd_len Try.underlying25 h).trans (by kernel_rfl)
  have c22 : Try.prog.cellsOf 22 = 1 := by kernel_rfl
  have c23 : Try.prog.cellsOf 23 = 1 := by kernel_rfl
  match ds, hl with
  | [w0, w1, w2, w3, w4, w5], _ =>
    have g0 := rd_field Try.underlying25 h 0 rfl c22
    have g1 := rd_field Try.underlying25 h 1 rfl c23
    have g2 := rd_field Try.underlying25 h 2 rfl c1_3
    have g3 := rd_field Try.underlying25 h 3 rfl c1_3
    have g4 := rd_field Try.underlying25 h 4 rfl c1_3
    have g5 := rd_field Try.underlying25 h 5 rfl c1_2
    obtain ⟨a0, q0, k0⟩ := rd_int Try.underlying22 g0
    obtain ⟨a1, q1, _⟩ := rd_int Try.underlying23 g1
    obtain ⟨a2, q2, _⟩ := rd_int Try.underlying3 g2
    obtain ⟨a3, q3, _⟩ := rd_int Try.underlying3 g3
    obtain ⟨a4, q4, _⟩ := rd_int Try.underlying3 g4
    obtain ⟨a5, q5, k5⟩ := rd_int Try.underlying2 g5
    simp at q0 q1 q2 q3 q4 q5
    subst q0 q1 q2 q3 q4 q5
    exact ⟨⟨a0, a1, a2, a3, a4, a5⟩, rfl, bounds_i64 k0, bounds_i64 k5⟩
set_option maxRecDepth 100000 in
theorem rd_ins {H : Heap} {x : Value} (h : Rd Try.prog H 4 32 [x]) : ∃ l : List In, Rws H 6 x (l.map rowI) ∧ (∀ a ∈ l, okI a.kind) ∧ ∀ a ∈ l, okI a.k := by
  rcases rd_slice Try.underlying32 h (show Try.prog.cellsOf 25 = 6 by kernel_rfl) with rfl | ⟨b, off, k, c, rfl, _, h⟩
  · exact ⟨[], .inl ⟨rfl, rfl⟩, by simp, by simp⟩
  · obtain ⟨l, hl, h⟩ := rd_all (Q := fun (a : In) ds => ds = rowI a ∧ okI a.kind ∧ okI a.k) (fun ds h => rd_in ds h) h
    refine ⟨l, .inr ⟨b, off, c, by rw [List.length_map, hl], fun i hi => ?_⟩, fun a ha => ?_, fun a ha => ?_⟩
    · have hi' : i < l.length := by simpa using hi
      obtain ⟨_, ds, _, h3, h4, _⟩ := h i hi'
      subst h4
      simp only [List.getElem_map]
      exact ⟨rfl, fun j hj => h3 j hj⟩
    · obtain ⟨i, hi, rfl⟩ := List.mem_iff_getElem.mp ha
      obtain ⟨_, ds, _, _, _, h5, _⟩ := h i hi
      exact h5
    · obtain ⟨i, hi, rfl⟩ := List.mem_iff_getElem.mp ha
      obtain ⟨_, ds, _, _, _, _, h5⟩ := h i hi
      exact h5
theorem ones_U {H : Heap} (hw : H.WF) {cs : List Value} (h0 : Rd Try.prog H 3 25 cs) {cells long : Int} (_ : -9223372036854775808 ≤ cells ∧ cells ≤ 9223372036854775807) (_ : -9223372036854775808 ≤ long ∧ long ≤ 9223372036854775807) :
    ∃ v H', T Try.prog 3 [.agg cs.toArray, iv cells, iv long] H v H' ∧ v = .bool true := by
  obtain ⟨a, rfl, hk, _⟩ := rd_in cs h0
  exact ones_T hw a hk cells long
theorem checks_U {H : Heap} (hw : H.WF) {x : Value} (h0 : Rd Try.prog H 4 32 [x]) {cells : Int} (_ : -9223372036854775808 ≤ cells ∧ cells ≤ 9223372036854775807) :
    ∃ v H', T Try.prog 4 [x, iv cells] H v H' ∧ v = .bool true := by
  obtain ⟨l, hx, hk, _⟩ := rd_ins h0
  exact checks_T hw hx hk cells
theorem more_U {H : Heap} (hw : H.WF) {x : Value} (h0 : Rd Try.prog H 4 32 [x]) {cells more : Int} (_ : -9223372036854775808 ≤ cells ∧ cells ≤ 9223372036854775807) (_ : -9223372036854775808 ≤ more ∧ more ≤ 9223372036854775807) :
    ∃ v H', T Try.prog 6 [x, iv cells, iv more] H v H' ∧ v = .bool true := by
  obtain ⟨l, hx, hk, _⟩ := rd_ins h0
  exact more_T hw hx cells more
end Go.Proofs.Ytkocomnfomjfiaa
