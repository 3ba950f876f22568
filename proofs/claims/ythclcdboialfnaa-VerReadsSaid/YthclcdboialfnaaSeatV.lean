/-
  Chapter 21: rows of calls that come in.
-/
import Derived.Test.YthclcdboialfnaaSeatU
namespace Go.Proofs.Ythclcdboialfnaa
open Go.Ot Go.ChangeShapes Go.WideShapes Go.ChangeAt Go.RowKit
set_option linter.unusedSimpArgs false
set_option linter.unusedVariables false
set_option maxRecDepth 100000 in
theorem rd_call {H : Heap} (ds : List Value) (h : Rd Try.prog H 3 28 ds) : ∃ a : Cl, ds = orow a := by
  have hl : ds.length = 4 := (Go.Ot.rd_len Try.underlying28 h).trans (by kernel_rfl)
  have c3 : Try.prog.cellsOf 3 = 1 := by kernel_rfl
  have c2 : Try.prog.cellsOf 2 = 1 := by kernel_rfl
  match ds, hl with
  | [w0, w1, w2, w3], _ =>
    have g0 := rd_field Try.underlying28 h 0 rfl c3
    have g1 := rd_field Try.underlying28 h 1 rfl c3
    have g2 := rd_field Try.underlying28 h 2 rfl c3
    have g3 := rd_field Try.underlying28 h 3 rfl c2
    obtain ⟨a0, q0, _⟩ := rd_int Try.underlying3 g0
    obtain ⟨a1, q1, _⟩ := rd_int Try.underlying3 g1
    obtain ⟨a2, q2, _⟩ := rd_int Try.underlying3 g2
    obtain ⟨a3, q3, _⟩ := rd_int Try.underlying2 g3
    simp at q0 q1 q2 q3
    subst q0 q1 q2 q3
    exact ⟨⟨a0, a1, a2, a3⟩, rfl⟩
set_option maxRecDepth 100000 in
theorem rd_calls {H : Heap} {x : Value} (h : Rd Try.prog H 4 22 [x]) : ∃ l : List Cl, Rc H x l := by
  rcases rd_slice Try.underlying22 h (show Try.prog.cellsOf 28 = 4 by kernel_rfl) with rfl | ⟨b, off, k, c, rfl, _, h⟩
  · exact ⟨[], .inl ⟨rfl, rfl⟩⟩
  · obtain ⟨l, hl, h⟩ := rd_all (Q := fun (a : Cl) ds => ds = orow a) (fun ds h => rd_call ds h) h
    refine ⟨l, .inr ⟨b, off, c, by rw [List.length_map, hl], fun i hi => ?_⟩⟩
    have hi' : i < l.length := by simpa using hi
    obtain ⟨_, ds, _, h3, h4⟩ := h i hi'
    subst h4
    simp only [List.getElem_map]
    exact ⟨rfl, fun j hj => h3 j hj⟩
set_option maxRecDepth 100000 in
theorem reads_U {H : Heap} (hw : H.WF) {x : Value} (h0 : Rd Try.prog H 4 22 [x]) {a b : Int} (_ : -9223372036854775808 ≤ a ∧ a ≤ 9223372036854775807) (_ : -9223372036854775808 ≤ b ∧ b ≤ 9223372036854775807) : ∃ v H', T Try.prog 3 [x, iv a, iv b] H v H' ∧ v = .bool true := by
  obtain ⟨l, hx⟩ := rd_calls h0
  exact ⟨_, _, reads_T hw hx a b, rfl⟩
end Go.Proofs.Ythclcdboialfnaa
