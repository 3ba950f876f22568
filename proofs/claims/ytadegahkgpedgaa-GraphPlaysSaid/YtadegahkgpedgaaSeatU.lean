/-
  Chapter 23: openings: a row of calls; GraphFalls at every input.
-/
import Derived.Test.YtadegahkgpedgaaOtZ
import Derived.Test.YtadegahkgpedgaaSeatS
namespace Go.Proofs.Ytadegahkgpedgaa
open Go.Ot Go.ChangeShapes Go.WideShapes Go.ChangeAt Go.RowKit
set_option linter.unusedSimpArgs false
set_option linter.unusedVariables false
set_option maxRecDepth 100000 in
theorem rd_op {H : Heap} (ds : List Value) (h : Rd Try.prog H 3 42 ds) : ∃ a : Op, ds = a.cells := by
  have hl : ds.length = 3 := (Go.Ot.rd_len Try.underlying42 h).trans (by kernel_rfl)
  have c3 : Try.prog.cellsOf 3 = 1 := by kernel_rfl
  match ds, hl with
  | [w0, w1, w2], _ =>
    have g0 := rd_field Try.underlying42 h 0 rfl c3
    have g1 := rd_field Try.underlying42 h 1 rfl c3
    have g2 := rd_field Try.underlying42 h 2 rfl c3
    obtain ⟨a0, q0, f0⟩ := rd_int Try.underlying3 g0
    obtain ⟨a1, q1, f1⟩ := rd_int Try.underlying3 g1
    obtain ⟨a2, q2, f2⟩ := rd_int Try.underlying3 g2
    simp at q0 q1 q2
    subst q0 q1 q2
    exact ⟨⟨a0, a1, a2⟩, rfl⟩
set_option maxRecDepth 100000 in
theorem rd_ops {H : Heap} {x0 : Value} (h0 : Rd Try.prog H 4 33 [x0]) : ∃ l : List Op, Rws H 3 x0 (l.map Op.cells) := by
  rcases rd_slice Try.underlying33 h0 (show Try.prog.cellsOf 42 = 3 by kernel_rfl) with rfl | ⟨b, off, k, c, rfl, _, h⟩
  · exact ⟨[], .inl ⟨rfl, rfl⟩⟩
  · obtain ⟨l, hl, h⟩ := rd_all (Q := fun (a : Op) ds => ds = a.cells) (fun ds h => rd_op ds h) h
    refine ⟨l, .inr ⟨b, off, c, by rw [List.length_map, hl], fun i hi => ?_⟩⟩
    have hi' : i < l.length := by simpa using hi
    obtain ⟨_, ds, _, h3, h4⟩ := h i hi'
    subst h4
    simp only [List.getElem_map]
    exact ⟨rfl, fun j hj => h3 j hj⟩
set_option maxRecDepth 100000 in
theorem falls_U {H : Heap} (hw : H.WF) {x0 : Value} (h0 : Rd Try.prog H 4 33 [x0]) {age : Int} (_ : -9223372036854775808 ≤ age ∧ age ≤ 9223372036854775807) : ∃ v H', T Try.prog 4 [x0, iv age] H v H' ∧ v = .bool true := by
  obtain ⟨l, hl⟩ := rd_ops h0
  exact falls_T hw hl age
end Go.Proofs.Ytadegahkgpedgaa
