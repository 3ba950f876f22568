/-
  Things that came in.
-/
import Derived.Test.YtpcgganldmmpoaaSeatX
namespace Go.Proofs.Ytpcgganldmmpoaa
open Go.Ot Go.ChangeShapes Go.WideShapes Go.ChangeAt Go.RowKit
set_option linter.unusedSimpArgs false
set_option linter.unusedVariables false
theorem rd_it {H : Heap} (ds : List Value) (h : Rd Try.prog H 4 41 ds) : ∃ a : It, ds = [.int .i64 a.kind, .int .u64 (a.u : Int), .int .i64 a.n, .bool a.is, .string a.s, a.x] ∧ ItOk H a := by
  have hl : ds.length = 6 := (rd_len Try.underlying41 h).trans (by kernel_rfl)
  match ds, hl with
  | [w0, w1, w2, w3, w4, w5], _ =>
    have g0 := rd_field Try.underlying41 h 0 rfl (show Try.prog.cellsOf 3 = 1 by kernel_rfl)
    have g1 := rd_field Try.underlying41 h 1 rfl (show Try.prog.cellsOf 32 = 1 by kernel_rfl)
    have g2 := rd_field Try.underlying41 h 2 rfl (show Try.prog.cellsOf 2 = 1 by kernel_rfl)
    have g3 := rd_field Try.underlying41 h 3 rfl (show Try.prog.cellsOf 4 = 1 by kernel_rfl)
    have g4 := rd_field Try.underlying41 h 4 rfl (show Try.prog.cellsOf 9 = 1 by kernel_rfl)
    have g5 := rd_field Try.underlying41 h 5 rfl (show Try.prog.cellsOf 39 = 1 by kernel_rfl)
    obtain ⟨k, e0, q0⟩ := rd_int Try.underlying3 g0
    obtain ⟨u, e1, q1⟩ := rd_int Try.underlying32 g1
    obtain ⟨n, e2, q2⟩ := rd_int Try.underlying2 g2
    obtain ⟨b, e3⟩ := rd_bool Try.underlying4 g3
    obtain ⟨s, e4, q4⟩ := rd_string Try.underlying9 g4
    obtain ⟨l, hl, q5⟩ := ints_of Try.underlying39 Try.underlying2 (by kernel_rfl) g5
    simp at e0 e1 e2 e3 e4
    subst e0 e1 e2 e3 e4
    have b1 := bounds_u64 q1
    refine ⟨⟨k, u.toNat, n, b, s, w5, l⟩, ?_, ⟨bounds_i64 q0, ?_, bounds_i64 q2, fun n hn => bounds_i64 (q5 n hn), hl⟩⟩
    · simp only
      rw [Int.toNat_of_nonneg (by omega)]
    · simp only; omega
theorem items_of {H : Heap} {x : Value} (h : Rd Try.prog H 5 22 [x]) : ∃ l, Items H x l := by
  rcases rd_slice Try.underlying22 h (show Try.prog.cellsOf 41 = 6 by kernel_rfl) with rfl | ⟨b, off, k, c, rfl, _, h⟩
  · exact ⟨[], .inl ⟨rfl, rfl⟩⟩
  · obtain ⟨l, hl, h⟩ := rd_all (Q := fun (a : It) ds => ds = [.int .i64 a.kind, .int .u64 (a.u : Int), .int .i64 a.n, .bool a.is, .string a.s, a.x] ∧ ItOk H a) (fun ds h => rd_it ds h) h
    refine ⟨l, .inr ⟨b, off, c, by rw [hl], fun i hi => ?_⟩⟩
    obtain ⟨h0, ds, _, h3, h4, h5⟩ := h i hi
    subst h4
    exact ⟨h0, h5, h3 0 (by simp), h3 1 (by simp), h3 2 (by simp), h3 3 (by simp), h3 4 (by simp), h3 5 (by simp)⟩
theorem lays_U {H : Heap} (hw : H.WF) {x : Value} (h : Rd Try.prog H 5 22 [x]) : ∃ v H', T Try.prog 3 [x] H v H' ∧ v = .bool true := by
  obtain ⟨l, hl⟩ := items_of h
  exact lays_T hw hl
end Go.Proofs.Ytpcgganldmmpoaa
