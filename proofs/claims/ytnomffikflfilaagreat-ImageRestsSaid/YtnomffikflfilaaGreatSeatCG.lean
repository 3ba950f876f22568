/-
  Chapter 26: openings of a run: its job, its config; ScriptBounds at every input.
-/
import Derived.Test.YtnomffikflfilaaGreatSeatCF
import Derived.Test.YtnomffikflfilaaGreatOtZ
namespace Go.Proofs.YtnomffikflfilaaGreat
open Go.Ot Go.ChangeShapes Go.WideShapes Go.ChangeAt Go.RowKit
open R14 (Twos)
open I8 (In rowI)
set_option linter.unusedSimpArgs false
set_option linter.unusedVariables false
set_option maxRecDepth 100000
theorem rd_one {P : Program} {H : Heap} {n : Nat} {t e : TypeId} (ht : P.underlying t = some (.slice e)) {cs : List Value} (h : Rd P H (n + 1) t cs) : ∃ x, cs = [x] := by
  simp only [Rd, ht] at h
  obtain ⟨y, hy, _⟩ := h
  exact ⟨y, hy⟩
theorem kc3 : Tryz.prog.cellsOf 3 = 1 := by kernel_rfl
theorem kc2 : Tryz.prog.cellsOf 2 = 1 := by kernel_rfl
theorem kc4 : Tryz.prog.cellsOf 4 = 1 := by kernel_rfl
theorem rd_cell {H : Heap} {m : Nat} (ds : List Value) (h : Rd Tryz.prog H (m + 2) 98 ds) : ∃ a : Int × Int, ds = [iv a.1, iv a.2] := by
  have hl : ds.length = 2 := (Go.Ot.rd_len Tryz.underlying98 h).trans (by kernel_rfl)
  match ds, hl with
  | [w0, w1], _ =>
    have g0 := rd_field Tryz.underlying98 h 0 rfl kc3
    have g1 := rd_field Tryz.underlying98 h 1 rfl kc2
    obtain ⟨a0, q0, _⟩ := rd_int Tryz.underlying3 g0
    obtain ⟨a1, q1, _⟩ := rd_int Tryz.underlying2 g1
    simp at q0 q1
    subst q0 q1
    exact ⟨(a0, a1), rfl⟩
theorem rd_red {H : Heap} {m : Nat} (ds : List Value) (h : Rd Tryz.prog H (m + 2) 101 ds) : ∃ a : Int × Int, ds = [iv a.1, iv a.2] := by
  have c132 : Tryz.prog.cellsOf 99 = 1 := by kernel_rfl
  have hl : ds.length = 2 := (Go.Ot.rd_len Tryz.underlying101 h).trans (by kernel_rfl)
  match ds, hl with
  | [w0, w1], _ =>
    have g0 := rd_field Tryz.underlying101 h 0 rfl c132
    have g1 := rd_field Tryz.underlying101 h 1 rfl kc2
    obtain ⟨a0, q0, _⟩ := rd_int Tryz.underlying99 g0
    obtain ⟨a1, q1, _⟩ := rd_int Tryz.underlying2 g1
    simp at q0 q1
    subst q0 q1
    exact ⟨(a0, a1), rfl⟩
theorem twos_of {H : Heap} {s e : TypeId} {m : Nat} (hs : Tryz.prog.underlying s = some (.slice e)) (hc : Tryz.prog.cellsOf e = 2) (hel : ∀ ds, Rd Tryz.prog H m e ds → ∃ a : Int × Int, ds = [iv a.1, iv a.2]) {x : Value} (h : Rd Tryz.prog H (m + 1) s [x]) : ∃ l : List (Int × Int), Twos H x l := by
  rcases rd_slice hs h hc with rfl | ⟨b, off, k, c, rfl, _, h⟩
  · exact ⟨[], .inl ⟨rfl, rfl⟩⟩
  · obtain ⟨l, hl, h⟩ := rd_all (Q := fun (a : Int × Int) ds => ds = [iv a.1, iv a.2]) hel h
    refine ⟨l, .inr ⟨b, off, c, by rw [hl], fun i hi => ?_⟩⟩
    obtain ⟨_, ds, _, h3, h4⟩ := h i hi
    subst h4
    exact ⟨h3 0 (by simp), h3 1 (by simp)⟩
theorem rd_in {H : Heap} {m : Nat} (ds : List Value) (h : Rd Tryz.prog H (m + 2) 113 ds) : ∃ a : In, ds = rowI a ∧ I8.okI a.kind := by
  have hl : ds.length = 6 := (Go.Ot.rd_len Tryz.underlying113 h).trans (by kernel_rfl)
  have c137 : Tryz.prog.cellsOf 110 = 1 := by kernel_rfl
  have c138 : Tryz.prog.cellsOf 111 = 1 := by kernel_rfl
  match ds, hl with
  | [w0, w1, w2, w3, w4, w5], _ =>
    have g0 := rd_field Tryz.underlying113 h 0 rfl c137
    have g1 := rd_field Tryz.underlying113 h 1 rfl c138
    have g2 := rd_field Tryz.underlying113 h 2 rfl kc3
    have g3 := rd_field Tryz.underlying113 h 3 rfl kc3
    have g4 := rd_field Tryz.underlying113 h 4 rfl kc3
    have g5 := rd_field Tryz.underlying113 h 5 rfl kc2
    obtain ⟨a0, q0, k0⟩ := rd_int Tryz.underlying110 g0
    obtain ⟨a1, q1, _⟩ := rd_int Tryz.underlying111 g1
    obtain ⟨a2, q2, _⟩ := rd_int Tryz.underlying3 g2
    obtain ⟨a3, q3, _⟩ := rd_int Tryz.underlying3 g3
    obtain ⟨a4, q4, _⟩ := rd_int Tryz.underlying3 g4
    obtain ⟨a5, q5, _⟩ := rd_int Tryz.underlying2 g5
    simp at q0 q1 q2 q3 q4 q5
    subst q0 q1 q2 q3 q4 q5
    exact ⟨⟨a0, a1, a2, a3, a4, a5⟩, rfl, bounds_i64 k0⟩
theorem rd_code {H : Heap} {m : Nat} {x : Value} (h : Rd Tryz.prog H (m + 3) 103 [x]) : ∃ l : List In, Rws H 6 x (l.map rowI) ∧ ∀ a ∈ l, I8.okI a.kind := by
  rcases rd_slice Tryz.underlying103 h (show Tryz.prog.cellsOf 113 = 6 by kernel_rfl) with rfl | ⟨b, off, k, c, rfl, _, h⟩
  · exact ⟨[], .inl ⟨rfl, rfl⟩, by simp⟩
  · obtain ⟨l, hl, h⟩ := rd_all (Q := fun (a : In) ds => ds = rowI a ∧ I8.okI a.kind) (fun ds h => rd_in ds h) h
    refine ⟨l, .inr ⟨b, off, c, by rw [List.length_map, hl], fun i hi => ?_⟩, fun a ha => ?_⟩
    · have hi' : i < l.length := by simpa using hi
      obtain ⟨_, ds, _, h3, h4, _⟩ := h i hi'
      subst h4
      simp only [List.getElem_map]
      exact ⟨rfl, fun j hj => h3 j hj⟩
    · obtain ⟨i, hi, rfl⟩ := List.mem_iff_getElem.mp ha
      obtain ⟨_, ds, _, _, _, h5⟩ := h i hi
      exact h5
theorem rd_codes {H : Heap} {m : Nat} {x : Value} (h : Rd Tryz.prog H (m + 4) 27 [x]) : ∃ l : List (List In), Cds H x l ∧ ∀ c ∈ l, ∀ a ∈ c, I8.okI a.kind := by
  have c103 : Tryz.prog.cellsOf 103 = 1 := by kernel_rfl
  rcases rd_slice Tryz.underlying27 h c103 with rfl | ⟨b, off, k, c, rfl, _, h⟩
  · exact ⟨[], .inl ⟨rfl, rfl⟩, by simp⟩
  · have hel : ∀ ds, Rd Tryz.prog H (m + 3) 103 ds → ∃ l : List In, ∃ y, ds = [y] ∧ Rws H 6 y (l.map rowI) ∧ ∀ a ∈ l, I8.okI a.kind := by
      intro ds hd
      obtain ⟨y, rfl⟩ := rd_one Tryz.underlying103 hd
      obtain ⟨l, h1, h2⟩ := rd_code hd
      exact ⟨l, y, rfl, h1, h2⟩
    obtain ⟨l, hl, h⟩ := rd_all (Q := fun (l : List In) ds => ∃ y, ds = [y] ∧ Rws H 6 y (l.map rowI) ∧ ∀ a ∈ l, I8.okI a.kind) hel h
    refine ⟨l, .inr ⟨b, off, c, by rw [hl], fun i hi => ?_⟩, fun cl hc => ?_⟩
    · obtain ⟨_, ds, _, h3, y, h4, h5, _⟩ := h i hi
      subst h4
      refine ⟨y, ?_, h5⟩
      have := h3 0 (by simp)
      simpa using this
    · obtain ⟨i, hi, rfl⟩ := List.mem_iff_getElem.mp hc
      obtain ⟨_, ds, _, _, y, _, _, h6⟩ := h i hi
      exact h6
theorem rd_shape {H : Heap} {m : Nat} (ds : List Value) (h : Rd Tryz.prog H (m + 2) 26 ds) : ∃ S : Shp, ds = shpC S ∧ ShpOk S := by
  have hl : ds.length = 6 := (Go.Ot.rd_len Tryz.underlying26 h).trans (by kernel_rfl)
  have c45 : Tryz.prog.cellsOf 24 = 1 := by kernel_rfl
  match ds, hl with
  | [w0, w1, w2, w3, w4, w5], _ =>
    have g0 := rd_field Tryz.underlying26 h 0 rfl c45
    have g1 := rd_field Tryz.underlying26 h 1 rfl kc2
    have g2 := rd_field Tryz.underlying26 h 2 rfl kc2
    have g3 := rd_field Tryz.underlying26 h 3 rfl kc2
    have g4 := rd_field Tryz.underlying26 h 4 rfl kc3
    have g5 := rd_field Tryz.underlying26 h 5 rfl kc3
    obtain ⟨a0, q0, k0⟩ := rd_int Tryz.underlying24 g0
    obtain ⟨a1, q1, k1⟩ := rd_int Tryz.underlying2 g1
    obtain ⟨a2, q2, k2⟩ := rd_int Tryz.underlying2 g2
    obtain ⟨a3, q3, k3⟩ := rd_int Tryz.underlying2 g3
    obtain ⟨a4, q4, k4⟩ := rd_int Tryz.underlying3 g4
    obtain ⟨a5, q5, k5⟩ := rd_int Tryz.underlying3 g5
    simp at q0 q1 q2 q3 q4 q5
    subst q0 q1 q2 q3 q4 q5
    exact ⟨⟨a0, a1, a2, a3, a4, a5⟩, rfl, bounds_i64 k1, bounds_i64 k2, bounds_i64 k3, bounds_i64 k4, bounds_i64 k5⟩
theorem rd_job {H : Heap} {m : Nat} (ds : List Value) (h : Rd Tryz.prog H (m + 5) 29 ds) : ∃ J : Jb, ds = jobC J ∧ Jb0 H J := by
  have hl : ds.length = 11 := (Go.Ot.rd_len Tryz.underlying29 h).trans (by kernel_rfl)
  have c43 : Tryz.prog.cellsOf 22 = 1 := by kernel_rfl
  have c44 : Tryz.prog.cellsOf 23 = 1 := by kernel_rfl
  have c47 : Tryz.prog.cellsOf 26 = 6 := by kernel_rfl
  have c48 : Tryz.prog.cellsOf 27 = 1 := by kernel_rfl
  match ds, hl with
  | [w0, w1, w2, w3, w4, w5, w6, w7, w8, w9, w10], _ =>
    have g0 := rd_field Tryz.underlying29 h 0 rfl kc3
    have g1 := rd_field Tryz.underlying29 h 1 rfl c43
    have g2 := rd_field Tryz.underlying29 h 2 rfl c44
    have g3 := rd_field Tryz.underlying29 h 3 rfl kc3
    have g4 := rd_field Tryz.underlying29 h 4 rfl c47
    have g5 := rd_field Tryz.underlying29 h 5 rfl c48
    obtain ⟨a0, q0, _⟩ := rd_int Tryz.underlying3 g0
    obtain ⟨lc, h1⟩ := twos_of (m := m + 3) Tryz.underlying22 (show Tryz.prog.cellsOf 98 = 2 by kernel_rfl) (fun ds h => rd_cell (m := m + 1) ds h) g1
    obtain ⟨lr, h2⟩ := twos_of (m := m + 3) Tryz.underlying23 (show Tryz.prog.cellsOf 101 = 2 by kernel_rfl) (fun ds h => rd_red (m := m + 1) ds h) g2
    obtain ⟨a3, q3, _⟩ := rd_int Tryz.underlying3 g3
    obtain ⟨S, q4, hS⟩ := rd_shape (m := m + 2) _ g4
    obtain ⟨lk, h5, hk⟩ := rd_codes (m := m) g5
    simp at q0 q3 q4
    obtain ⟨r0, r1, r2, r3, r4, r5⟩ := q4
    subst q0 q3 r0 r1 r2 r3 r4 r5
    exact ⟨⟨a0, a3, S, lc, lr, lk, w1, w2, w10⟩, rfl, h1, h2, h5, hS, hk⟩
theorem rd_cfg {H : Heap} {m : Nat} (ds : List Value) (h : Rd Tryz.prog H (m + 2) 32 ds) : ∃ C : Cfg, ds = cfgC C := by
  have hl : ds.length = 11 := (Go.Ot.rd_len Tryz.underlying32 h).trans (by kernel_rfl)
  have c51 : Tryz.prog.cellsOf 30 = 1 := by kernel_rfl
  match ds, hl with
  | [w0, w1, w2, w3, w4, w5, w6, w7, w8, w9, w10], _ =>
    obtain ⟨a0, q0, _⟩ := rd_int Tryz.underlying3 (rd_field Tryz.underlying32 h 0 rfl kc3)
    obtain ⟨a1, q1, _⟩ := rd_int Tryz.underlying3 (rd_field Tryz.underlying32 h 1 rfl kc3)
    obtain ⟨a2, q2, _⟩ := rd_int Tryz.underlying30 (rd_field Tryz.underlying32 h 2 rfl c51)
    obtain ⟨a3, q3, _⟩ := rd_int Tryz.underlying3 (rd_field Tryz.underlying32 h 3 rfl kc3)
    obtain ⟨a4, q4, _⟩ := rd_int Tryz.underlying3 (rd_field Tryz.underlying32 h 4 rfl kc3)
    obtain ⟨a5, q5, _⟩ := rd_int Tryz.underlying3 (rd_field Tryz.underlying32 h 5 rfl kc3)
    obtain ⟨a6, q6, _⟩ := rd_int Tryz.underlying3 (rd_field Tryz.underlying32 h 6 rfl kc3)
    obtain ⟨a7, q7, _⟩ := rd_int Tryz.underlying3 (rd_field Tryz.underlying32 h 7 rfl kc3)
    obtain ⟨a8, q8, _⟩ := rd_int Tryz.underlying3 (rd_field Tryz.underlying32 h 8 rfl kc3)
    obtain ⟨a9, q9, _⟩ := rd_int Tryz.underlying3 (rd_field Tryz.underlying32 h 9 rfl kc3)
    obtain ⟨a10, q10⟩ := rd_bool Tryz.underlying4 (rd_field Tryz.underlying32 h 10 rfl kc4)
    simp at q0 q1 q2 q3 q4 q5 q6 q7 q8 q9 q10
    subst q0 q1 q2 q3 q4 q5 q6 q7 q8 q9 q10
    exact ⟨⟨a0, a1, a2, a3, a4, a5, a6, a7, a8, a9, a10⟩, rfl⟩
theorem rd_run {H : Heap} (ds : List Value) (h : Rd Tryz.prog H 7 35 ds) : ∃ (J : Jb) (C : Cfg) (a : Option Addr) (n c : Nat), ds = runC J C (.slice a n c) ∧ Jb0 H J := by
  have hl : ds.length = 23 := (Go.Ot.rd_len Tryz.underlying35 h).trans (by kernel_rfl)
  have c50 : Tryz.prog.cellsOf 29 = 11 := by kernel_rfl
  have c53 : Tryz.prog.cellsOf 32 = 11 := by kernel_rfl
  have c22 : Tryz.prog.cellsOf 33 = 1 := by kernel_rfl
  have g0 := rd_field Tryz.underlying35 h 0 rfl c50
  have g1 := rd_field Tryz.underlying35 h 1 rfl c53
  have g2 := rd_field Tryz.underlying35 h 2 rfl c22
  obtain ⟨J, q0, hJ⟩ := rd_job (m := 1) _ g0
  obtain ⟨C, q1⟩ := rd_cfg (m := 4) _ g1
  have hx : ∃ a n c, (ds.drop 22).take 1 = [.slice a n c] := by
    obtain ⟨x, hx⟩ := rd_one Tryz.underlying33 g2
    have hx' : (ds.drop 22).take 1 = [x] := hx
    rw [hx] at g2
    rcases rd_slice Tryz.underlying33 g2 (show Tryz.prog.cellsOf 62 = 2 by kernel_rfl) with rfl | ⟨b, off, m, c, rfl, _⟩
    · exact ⟨_, _, _, hx'⟩
    · exact ⟨_, _, _, hx'⟩
  obtain ⟨a, n, c, q2⟩ := hx
  refine ⟨J, C, a, n, c, ?_, hJ⟩
  have q0 : (ds.drop 0).take 11 = jobC J := q0
  have q1 : (ds.drop 11).take 11 = cfgC C := q1
  rw [runC_eq, ← q0, ← q1, ← q2, List.drop_zero]
  have e1 : ds = ds.take 11 ++ ds.drop 11 := (List.take_append_drop 11 ds).symm
  have e2 : ds.drop 11 = (ds.drop 11).take 11 ++ ds.drop 22 := by
    have := (List.take_append_drop 11 (ds.drop 11)).symm
    rw [List.drop_drop] at this
    exact this
  have e3 : ds.drop 22 = (ds.drop 22).take 1 := by rw [List.take_of_length_le (by rw [List.length_drop]; omega)]
  rw [List.append_assoc, ← e3, ← e2, ← e1]
end Go.Proofs.YtnomffikflfilaaGreat
