/-
  Chapter 26: bounds of rounds, by both. Chapter 26: ScriptBounds. Chapter 26: openings of a run: its job, its config; ScriptBounds at every input. Chapter 26: ScriptRounds.
-/
import Derived.Test.YtnomffikflfilaaGreatSeatCA
import Derived.Test.YtnomffikflfilaaGreatOtZ
namespace Go.Proofs.YtnomffikflfilaaGreat
open Go.Ot Go.RowKit
set_option linter.unusedSimpArgs false
set_option linter.unusedVariables false
end Go.Proofs.YtnomffikflfilaaGreat
namespace Go.Proofs.YtnomffikflfilaaGreat
open Go.Ot Go.RowKit
open R14 (Twos)
open I8 (In rowI)
set_option linter.unusedSimpArgs false
set_option linter.unusedVariables false
abbrev runC (J : Jb) (C : Cfg) (xl : Value) : List Value := [iv J.words, J.xc, J.xr, iv J.fuel, iv J.S.kind, iv J.S.lo, iv J.S.hi, iv J.S.step, iv J.S.items, iv J.S.stages, J.xk, iv C.workers, iv C.window, iv C.policy, iv C.chunk, iv C.reads, iv C.writes, iv C.outs, iv C.arena, iv C.edges, iv C.retry, .bool C.force, xl]
theorem runC_eq (J : Jb) (C : Cfg) (xl : Value) : runC J C xl = jobC J ++ cfgC C ++ [xl] := rfl
structure RL (H : Heap) (p : Nat) (J : Jb) (C : Cfg) (xl : Value) : Prop where
  lJ : H.loadN ⟨p, 0, none⟩ 0 11 = some (jobC J)
  lC : H.loadN ⟨p, 11, none⟩ 0 11 = some (cfgC C)
  l22 : H.load ⟨p, 22, none⟩ = some xl
  lA : H.loadN ⟨p, 0, none⟩ 0 23 = some (runC J C xl)
theorem RL.of {H : Heap} {p ty n : Nat} {J : Jb} {C : Cfg} {xl : Value} (v : Vr H p ty n (runC J C xl)) : RL H p J C xl := by
  refine ⟨?_, ?_, v.load 22, v.loadA rfl⟩
  · have := loadN_cells (H := H) (b := p) (off := 0) (l := jobC J) (i := 0) (fun j hj => by
      have hj' : j < 11 := hj
      rw [v.load, Nat.zero_add, runC_eq, List.getElem?_append_left (by simp; omega), List.getElem?_append_left (by simpa using hj'), List.getElem?_eq_getElem])
    exact this
  · have := loadN_cells (H := H) (b := p) (off := 11) (l := cfgC C) (i := 0) (fun j hj => by
      have hj' : j < 11 := hj
      rw [v.load, Nat.add_zero, runC_eq, List.getElem?_append_left (by simp; omega), List.getElem?_append_right (by simp), List.getElem?_eq_getElem]
      · simp
      · simp; omega)
    exact this
theorem great24_T {H : Heap} (hw : H.WF) {J : Jb} (ok : Jb0 H J) (C : Cfg) {a : Option Addr} {n c : Nat} (most : Int) : T Tryz.prog 9 [.agg (runC J C (.slice a n c)).toArray, iv most] H (.bool (greatV J || decide (most < (n : Int)))) H := by
  obtain ⟨B, hB⟩ : ∃ B, B = (greatV J || decide (most < (n : Int))) := ⟨_, rfl⟩
  rw [← hB]
  refine T_seen hm light9 rfl ?_
  obtain ⟨G, hG⟩ : ∃ G, G = H.new 35 23 (runC J C (.slice a n c)) := ⟨_, rfl⟩
  have onG : On H G := by rw [hG]; exact (On.refl hw).new _ _ _
  have vG : Vr G H.next 35 23 (runC J C (.slice a n c)) := by rw [hG]; exact Vr.mk' hw _ _ _
  have rl := RL.of vG
  have gT := great_T onG.wf (ok.on hw onG)
  have fin := onG.keep
  simp [L9, ← hG, rl.lJ]
  refine goT_of gT ?_
  cases hg : greatV J with
  | true =>
    have hB : B = true := by rw [hB, hg]; rfl
    simp [hB]
    exact fin
  | false =>
    have hB : B = decide (most < (n : Int)) := by rw [hB, hg]; rfl
    simp [rl.l22, hB]
    exact fin
end Go.Proofs.YtnomffikflfilaaGreat
namespace Go.Proofs.YtnomffikflfilaaGreat
open Go.Ot Go.ChangeShapes Go.WideShapes Go.ChangeAt Go.RowKit
open R14 (Twos)
open I8 (In rowI)
set_option linter.unusedSimpArgs false
set_option linter.unusedVariables false
set_option maxRecDepth 100000
theorem rd_one {P : Program} {H : Heap} {n : Nat} {t e : TypeId} (ht : P.underlying t = some (.slice e)) {cs : List Value} (h : Rd P H (n + 1) t cs) : ∃ x, cs = [x] := by
  simp only [Rd, ht] at h
  obtain ⟨y, hy, _⟩ := h
  exact ⟨y, hy⟩
theorem kc3 : Tryz.prog.cellsOf 3 = 1 := by kernel_rfl
theorem kc2 : Tryz.prog.cellsOf 2 = 1 := by kernel_rfl
theorem kc4 : Tryz.prog.cellsOf 4 = 1 := by kernel_rfl
theorem rd_shape {H : Heap} {m : Nat} (ds : List Value) (h : Rd Tryz.prog H (m + 2) 26 ds) : ∃ S : Shp, ds = shpC S ∧ ShpOk S := by
  have hl : ds.length = 6 := (Go.Ot.rd_len Tryz.underlying26 h).trans (by kernel_rfl)
  have c45 : Tryz.prog.cellsOf 24 = 1 := by kernel_rfl
  match ds, hl with
  | [w0, w1, w2, w3, w4, w5], _ =>
    have g0 := rd_field Tryz.underlying26 h 0 rfl c45
    have g1 := rd_field Tryz.underlying26 h 1 rfl kc2
    have g2 := rd_field Tryz.underlying26 h 2 rfl kc2
    have g3 := rd_field Tryz.underlying26 h 3 rfl kc2
    have g4 := rd_field Tryz.underlying26 h 4 rfl kc3
    have g5 := rd_field Tryz.underlying26 h 5 rfl kc3
    obtain ⟨a0, q0, k0⟩ := rd_int Tryz.underlying24 g0
    obtain ⟨a1, q1, k1⟩ := rd_int Tryz.underlying2 g1
    obtain ⟨a2, q2, k2⟩ := rd_int Tryz.underlying2 g2
    obtain ⟨a3, q3, k3⟩ := rd_int Tryz.underlying2 g3
    obtain ⟨a4, q4, k4⟩ := rd_int Tryz.underlying3 g4
    obtain ⟨a5, q5, k5⟩ := rd_int Tryz.underlying3 g5
    simp at q0 q1 q2 q3 q4 q5
    subst q0 q1 q2 q3 q4 q5
    exact ⟨⟨a0, a1, a2, a3, a4, a5⟩, rfl, bounds_i64 k1, bounds_i64 k2, bounds_i64 k3, bounds_i64 k4, bounds_i64 k5⟩
theorem rd_cfg {H : Heap} {m : Nat} (ds : List Value) (h : Rd Tryz.prog H (m + 2) 32 ds) : ∃ C : Cfg, ds = cfgC C := by
  have hl : ds.length = 11 := (Go.Ot.rd_len Tryz.underlying32 h).trans (by kernel_rfl)
  have c51 : Tryz.prog.cellsOf 30 = 1 := by kernel_rfl
  match ds, hl with
  | [w0, w1, w2, w3, w4, w5, w6, w7, w8, w9, w10], _ =>
    obtain ⟨a0, q0, _⟩ := rd_int Tryz.underlying3 (rd_field Tryz.underlying32 h 0 rfl kc3)
    obtain ⟨a1, q1, _⟩ := rd_int Tryz.underlying3 (rd_field Tryz.underlying32 h 1 rfl kc3)
    obtain ⟨a2, q2, _⟩ := rd_int Tryz.underlying30 (rd_field Tryz.underlying32 h 2 rfl c51)
    obtain ⟨a3, q3, _⟩ := rd_int Tryz.underlying3 (rd_field Tryz.underlying32 h 3 rfl kc3)
    obtain ⟨a4, q4, _⟩ := rd_int Tryz.underlying3 (rd_field Tryz.underlying32 h 4 rfl kc3)
    obtain ⟨a5, q5, _⟩ := rd_int Tryz.underlying3 (rd_field Tryz.underlying32 h 5 rfl kc3)
    obtain ⟨a6, q6, _⟩ := rd_int Tryz.underlying3 (rd_field Tryz.underlying32 h 6 rfl kc3)
    obtain ⟨a7, q7, _⟩ := rd_int Tryz.underlying3 (rd_field Tryz.underlying32 h 7 rfl kc3)
    obtain ⟨a8, q8, _⟩ := rd_int Tryz.underlying3 (rd_field Tryz.underlying32 h 8 rfl kc3)
    obtain ⟨a9, q9, _⟩ := rd_int Tryz.underlying3 (rd_field Tryz.underlying32 h 9 rfl kc3)
    obtain ⟨a10, q10⟩ := rd_bool Tryz.underlying4 (rd_field Tryz.underlying32 h 10 rfl kc4)
    simp at q0 q1 q2 q3 q4 q5 q6 q7 q8 q9 q10
    subst q0 q1 q2 q3 q4 q5 q6 q7 q8 q9 q10
    exact ⟨⟨a0, a1, a2, a3, a4, a5, a6, a7, a8, a9, a10⟩, rfl⟩
end Go.Proofs.YtnomffikflfilaaGreat
namespace Go.Proofs.YtnomffikflfilaaGreat
open Go.Ot Go.ChangeShapes Go.WideShapes Go.ChangeAt Go.RowKit
set_option linter.unusedSimpArgs false
set_option linter.unusedVariables false
set_option maxRecDepth 100000 in
theorem rd_ent {H : Heap} {m : Nat} (ds : List Value) (h : Rd Tryz.prog H (m + 2) 62 ds) : ∃ a : Ent, ds = erow a ∧ -9223372036854775808 ≤ a.1 ∧ a.1 ≤ 9223372036854775807 := by
  have hl : ds.length = 2 := (Go.Ot.rd_len Tryz.underlying62 h).trans (by kernel_rfl)
  have c3 : Tryz.prog.cellsOf 3 = 1 := by kernel_rfl
  have c4 : Tryz.prog.cellsOf 4 = 1 := by kernel_rfl
  match ds, hl with
  | [w0, w1], _ =>
    have g0 := rd_field Tryz.underlying62 h 0 rfl c3
    have g1 := rd_field Tryz.underlying62 h 1 rfl c4
    obtain ⟨a0, q0, f0⟩ := rd_int Tryz.underlying3 g0
    obtain ⟨a1, q1⟩ := rd_bool Tryz.underlying4 g1
    simp at q0 q1
    subst q0 q1
    exact ⟨(a0, a1), rfl, bounds_i64 f0⟩
set_option maxRecDepth 100000 in
theorem rd_ents {H : Heap} {m : Nat} {x : Value} (h : Rd Tryz.prog H (m + 3) 33 [x]) : ∃ l : List Ent, Rl H x l ∧ ∀ e ∈ l, -9223372036854775808 ≤ e.1 ∧ e.1 ≤ 9223372036854775807 := by
  rcases rd_slice Tryz.underlying33 h (show Tryz.prog.cellsOf 62 = 2 by kernel_rfl) with rfl | ⟨b, off, k, c, rfl, _, h⟩
  · exact ⟨[], .inl ⟨rfl, rfl⟩, by simp⟩
  · obtain ⟨l, hl, h⟩ := rd_all (Q := fun (a : Ent) ds => ds = erow a ∧ -9223372036854775808 ≤ a.1 ∧ a.1 ≤ 9223372036854775807) (fun ds h => rd_ent (m := m) ds h) h
    refine ⟨l, .inr ⟨b, off, c, by rw [List.length_map, hl], fun i hi => ?_⟩, fun a ha => ?_⟩
    · have hi' : i < l.length := by simpa using hi
      obtain ⟨_, ds, _, h3, h4, _⟩ := h i hi'
      subst h4
      simp only [List.getElem_map]
      exact ⟨rfl, fun j hj => h3 j hj⟩
    · obtain ⟨i, hi, rfl⟩ := List.mem_iff_getElem.mp ha
      obtain ⟨_, ds, _, _, _, h5⟩ := h i hi
      exact h5
end Go.Proofs.YtnomffikflfilaaGreat
