/-
  Chapter 26: bounds of rounds, by both. Chapter 26: ScriptBounds. Chapter 26: openings of a run: its job, its config; ScriptBounds at every input. Chapter 26: ScriptRounds.
-/
import Derived.Test.YtnomffikflfilaaGreatSeatCA
import Derived.Test.YtnomffikflfilaaGreatOtZ
namespace Go.Proofs.YtnomffikflfilaaGreat
open Go.Ot Go.RowKit
set_option linter.unusedSimpArgs false
set_option linter.unusedVariables false
end Go.Proofs.YtnomffikflfilaaGreat
namespace Go.Proofs.YtnomffikflfilaaGreat
open Go.Ot Go.RowKit
open R14 (Twos)
open I8 (In rowI)
set_option linter.unusedSimpArgs false
set_option linter.unusedVariables false
abbrev runC (J : Jb) (C : Cfg) (xl : Value) : List Value := [iv J.words, J.xc, J.xr, iv J.fuel, iv J.S.kind, iv J.S.lo, iv J.S.hi, iv J.S.step, iv J.S.items, iv J.S.stages, J.xk, iv C.workers, iv C.window, iv C.policy, iv C.chunk, iv C.reads, iv C.writes, iv C.outs, iv C.arena, iv C.edges, iv C.retry, .bool C.force, xl]
theorem runC_eq (J : Jb) (C : Cfg) (xl : Value) : runC J C xl = jobC J ++ cfgC C ++ [xl] := rfl
structure RL (H : Heap) (p : Nat) (J : Jb) (C : Cfg) (xl : Value) : Prop where
  lJ : H.loadN ⟨p, 0, none⟩ 0 11 = some (jobC J)
  lC : H.loadN ⟨p, 11, none⟩ 0 11 = some (cfgC C)
  l22 : H.load ⟨p, 22, none⟩ = some xl
  lA : H.loadN ⟨p, 0, none⟩ 0 23 = some (runC J C xl)
theorem RL.of {H : Heap} {p ty n : Nat} {J : Jb} {C : Cfg} {xl : Value} (v : Vr H p ty n (runC J C xl)) : RL H p J C xl := by
  refine ⟨?_, ?_, v.load 22, v.loadA rfl⟩
  · have := loadN_cells (H := H) (b := p) (off := 0) (l := jobC J) (i := 0) (fun j hj => by
      have hj' : j < 11 := hj
      rw [v.load, Nat.zero_add, runC_eq, List.getElem?_append_left (by simp; omega), List.getElem?_append_left (by simpa using hj'), List.getElem?_eq_getElem])
    exact this
  · have := loadN_cells (H := H) (b := p) (off := 11) (l := cfgC C) (i := 0) (fun j hj => by
      have hj' : j < 11 := hj
      rw [v.load, Nat.add_zero, runC_eq, List.getElem?_append_left (by simp; omega), List.getElem?_append_right (by simp), List.getElem?_eq_getElem]
      · simp
      · simp; omega)
    exact this
end Go.Proofs.YtnomffikflfilaaGreat
namespace Go.Proofs.YtnomffikflfilaaGreat
open Go.Ot Go.ChangeShapes Go.WideShapes Go.ChangeAt Go.RowKit
open R14 (Twos)
open I8 (In rowI)
set_option linter.unusedSimpArgs false
set_option linter.unusedVariables false
set_option maxRecDepth 100000
end Go.Proofs.YtnomffikflfilaaGreat
namespace Go.Proofs.YtnomffikflfilaaGreat
open Go.Ot Go.ChangeShapes Go.WideShapes Go.ChangeAt Go.RowKit
set_option linter.unusedSimpArgs false
set_option linter.unusedVariables false
end Go.Proofs.YtnomffikflfilaaGreat
