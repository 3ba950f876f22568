/-
  Chapter 26: ScriptRounds.
-/
import Derived.Test.YtnomffikflfilaaGreatSeatCG
namespace Go.Proofs.YtnomffikflfilaaGreat
open Go.Ot Go.ChangeShapes Go.WideShapes Go.ChangeAt Go.RowKit
set_option linter.unusedSimpArgs false
set_option linter.unusedVariables false
set_option maxRecDepth 100000 in
theorem rd_ent {H : Heap} {m : Nat} (ds : List Value) (h : Rd Tryz.prog H (m + 2) 62 ds) : ∃ a : Ent, ds = erow a ∧ -9223372036854775808 ≤ a.1 ∧ a.1 ≤ 9223372036854775807 := by
  have hl : ds.length = 2 := (Go.Ot.rd_len Tryz.underlying62 h).trans (by kernel_rfl)
  have c3 : Tryz.prog.cellsOf 3 = 1 := by kernel_rfl
  have c4 : Tryz.prog.cellsOf 4 = 1 := by kernel_rfl
  match ds, hl with
  | [w0, w1], _ =>
    have g0 := rd_field Tryz.underlying62 h 0 rfl c3
    have g1 := rd_field Tryz.underlying62 h 1 rfl c4
    obtain ⟨a0, q0, f0⟩ := rd_int Tryz.underlying3 g0
    obtain ⟨a1, q1⟩ := rd_bool Tryz.underlying4 g1
    simp at q0 q1
    subst q0 q1
    exact ⟨(a0, a1), rfl, bounds_i64 f0⟩
set_option maxRecDepth 100000 in
theorem rd_ents {H : Heap} {m : Nat} {x : Value} (h : Rd Tryz.prog H (m + 3) 33 [x]) : ∃ l : List Ent, Rl H x l ∧ ∀ e ∈ l, -9223372036854775808 ≤ e.1 ∧ e.1 ≤ 9223372036854775807 := by
  rcases rd_slice Tryz.underlying33 h (show Tryz.prog.cellsOf 62 = 2 by kernel_rfl) with rfl | ⟨b, off, k, c, rfl, _, h⟩
  · exact ⟨[], .inl ⟨rfl, rfl⟩, by simp⟩
  · obtain ⟨l, hl, h⟩ := rd_all (Q := fun (a : Ent) ds => ds = erow a ∧ -9223372036854775808 ≤ a.1 ∧ a.1 ≤ 9223372036854775807) (fun ds h => rd_ent (m := m) ds h) h
    refine ⟨l, .inr ⟨b, off, c, by rw [List.length_map, hl], fun i hi => ?_⟩, fun a ha => ?_⟩
    · have hi' : i < l.length := by simpa using hi
      obtain ⟨_, ds, _, h3, h4, _⟩ := h i hi'
      subst h4
      simp only [List.getElem_map]
      exact ⟨rfl, fun j hj => h3 j hj⟩
    · obtain ⟨i, hi, rfl⟩ := List.mem_iff_getElem.mp ha
      obtain ⟨_, ds, _, _, _, h5⟩ := h i hi
      exact h5
end Go.Proofs.YtnomffikflfilaaGreat
