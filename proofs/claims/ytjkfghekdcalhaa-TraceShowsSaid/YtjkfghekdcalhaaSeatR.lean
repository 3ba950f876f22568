/-
  TraceShows answers true at every trace.
-/
import Derived.Test.YtjkfghekdcalhaaOtZ
import Derived.Test.YtjkfghekdcalhaaSeatQ
namespace Go.Proofs.Ytjkfghekdcalhaa
open Go.Ot Go.ChangeShapes Go.WideShapes Go.ChangeAt Go.RowKit
set_option linter.unusedSimpArgs false
set_option linter.unusedVariables false
theorem fit_of {n : Int} (h : (Lit.int .i64 n).wf = true) : fit n := bounds_i64 h
set_option maxRecDepth 100000 in
theorem rd_ev {H : Heap} (ds : List Value) (h : Rd Try.prog H 3 58 ds) : ∃ a : Ev, a.ok ∧ ds = a.cells := by
  have hl : ds.length = 6 := (rd_len Try.underlying58 h).trans (by kernel_rfl)
  have c3 : Try.prog.cellsOf 3 = 1 := by kernel_rfl
  have c2 : Try.prog.cellsOf 2 = 1 := by kernel_rfl
  have c56 : Try.prog.cellsOf 56 = 1 := by kernel_rfl
  match ds, hl with
  | [w0, w1, w2, w3, w4, w5], _ =>
    have g0 := rd_field Try.underlying58 h 0 rfl c56
    have g1 := rd_field Try.underlying58 h 1 rfl c3
    have g2 := rd_field Try.underlying58 h 2 rfl c3
    have g3 := rd_field Try.underlying58 h 3 rfl c3
    have g4 := rd_field Try.underlying58 h 4 rfl c2
    have g5 := rd_field Try.underlying58 h 5 rfl c3
    obtain ⟨a0, q0, f0⟩ := rd_int Try.underlying56 g0
    obtain ⟨a1, q1, f1⟩ := rd_int Try.underlying3 g1
    obtain ⟨a2, q2, f2⟩ := rd_int Try.underlying3 g2
    obtain ⟨a3, q3, f3⟩ := rd_int Try.underlying3 g3
    obtain ⟨a4, q4, f4⟩ := rd_int Try.underlying2 g4
    obtain ⟨a5, q5, f5⟩ := rd_int Try.underlying3 g5
    simp at q0 q1 q2 q3 q4 q5
    subst q0 q1 q2 q3 q4 q5
    exact ⟨⟨a0, a1, a2, a3, a4, a5⟩, ⟨fit_of f0, fit_of f1, fit_of f2, fit_of f3, fit_of f4, fit_of f5⟩, rfl⟩
set_option maxRecDepth 100000 in
theorem rd_evs {H : Heap} {x0 : Value} (h0 : Rd Try.prog H 4 30 [x0]) : ∃ l : List Ev, (∀ x ∈ l, x.ok) ∧ Rws H 6 x0 (l.map Ev.cells) := by
  rcases rd_slice Try.underlying30 h0 (show Try.prog.cellsOf 58 = 6 by kernel_rfl) with rfl | ⟨b, off, k, c, rfl, _, h⟩
  · exact ⟨[], by simp, .inl ⟨rfl, rfl⟩⟩
  · obtain ⟨l, hl, h⟩ := rd_all (Q := fun (a : Ev) ds => a.ok ∧ ds = a.cells) (fun ds h => rd_ev ds h) h
    refine ⟨l, ?_, .inr ⟨b, off, c, by rw [List.length_map, hl], fun i hi => ?_⟩⟩
    · intro x hx
      obtain ⟨i, hi, rfl⟩ := List.getElem_of_mem hx
      obtain ⟨_, ds, _, h3, h4, h5⟩ := h i hi
      exact h4
    · have hi' : i < l.length := by simpa using hi
      obtain ⟨_, ds, _, h3, h4, h5⟩ := h i hi'
      subst h5
      simp only [List.getElem_map]
      exact ⟨rfl, fun j hj => h3 j hj⟩
set_option maxRecDepth 100000 in
theorem shows_U {H : Heap} (hw : H.WF) {x0 : Value} (h0 : Rd Try.prog H 4 30 [x0]) : ∃ v H', T Try.prog 5 [x0] H v H' ∧ v = .bool true := by
  obtain ⟨l, hok, hl⟩ := rd_evs h0
  exact ⟨.bool true, H, shows_T hw hl hok, rfl⟩
end Go.Proofs.Ytjkfghekdcalhaa
