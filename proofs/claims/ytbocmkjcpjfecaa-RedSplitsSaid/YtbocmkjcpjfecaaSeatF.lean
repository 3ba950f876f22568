/-
  What came in, in chapter 14: an operation and three numbers; reductions; what goes into them.
-/
import Derived.Test.YtbocmkjcpjfecaaSeatE
namespace Go.Proofs.Ytbocmkjcpjfecaa
open Go.Ot Go.ChangeShapes Go.WideShapes Go.ChangeAt Go.RowKit
set_option linter.unusedSimpArgs false
set_option linter.unusedVariables false
theorem c1_22 : Try.prog.cellsOf 22 = 1 := by kernel_rfl
theorem c1_2 : Try.prog.cellsOf 2 = 1 := by kernel_rfl
theorem rd_four {H : Heap} {cs : List Value} (h : Rd Try.prog H 3 29 cs) : ∃ op a b c, cs = [iv op, iv a, iv b, iv c] ∧ okI a ∧ okI b ∧ okI c := by
  have hl : cs.length = 4 := (rd_len Try.underlying29 h).trans (by kernel_rfl)
  match cs, hl with
  | [w0, w1, w2, w3], _ =>
    have f0 := rd_field Try.underlying29 h 0 rfl c1_22
    have f1 := rd_field Try.underlying29 h 1 rfl c1_2
    have f2 := rd_field Try.underlying29 h 2 rfl c1_2
    have f3 := rd_field Try.underlying29 h 3 rfl c1_2
    obtain ⟨op, e0, _⟩ := rd_int Try.underlying22 f0
    obtain ⟨a, e1, w1⟩ := rd_int Try.underlying2 f1
    obtain ⟨b, e2, w2⟩ := rd_int Try.underlying2 f2
    obtain ⟨c, e3, w3⟩ := rd_int Try.underlying2 f3
    simp at e0 e1 e2 e3
    subst e0 e1 e2 e3
    exact ⟨op, a, b, c, rfl, bounds_i64 w1, bounds_i64 w2, bounds_i64 w3⟩
theorem laws_U {H : Heap} (hw : H.WF) {cs : List Value} (h : Rd Try.prog H 3 29 cs) : ∃ v H', T Try.prog 4 [.agg cs.toArray] H v H' ∧ v = .bool true := by
  obtain ⟨op, a, b, c, rfl, ha, hb, hc⟩ := rd_four h
  exact laws_T hw op a b c ha hb hc
end Go.Proofs.Ytbocmkjcpjfecaa
