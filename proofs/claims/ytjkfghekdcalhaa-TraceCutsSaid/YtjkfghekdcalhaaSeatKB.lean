/-
  Chapter 27: openings of a job, of events; TraceCuts at every input.
-/
import Derived.Test.YtjkfghekdcalhaaSeatKA
import Derived.Test.YtjkfghekdcalhaaOtZ
namespace Go.Proofs.Ytjkfghekdcalhaa
open Go.Ot Go.ChangeShapes Go.WideShapes Go.ChangeAt Go.RowKit
open R14 (Twos)
open I8 (In rowI)
set_option linter.unusedSimpArgs false
set_option linter.unusedVariables false
set_option maxRecDepth 100000
theorem rd_one {P : Program} {H : Heap} {n : Nat} {t e : TypeId} (ht : P.underlying t = some (.slice e)) {cs : List Value} (h : Rd P H (n + 1) t cs) : ∃ x, cs = [x] := by
  simp only [Rd, ht] at h
  obtain ⟨y, hy, _⟩ := h
  exact ⟨y, hy⟩
theorem kc3 : Try.prog.cellsOf 3 = 1 := by kernel_rfl
theorem kc2 : Try.prog.cellsOf 2 = 1 := by kernel_rfl
theorem kc4 : Try.prog.cellsOf 4 = 1 := by kernel_rfl
theorem rd_cell {H : Heap} {m : Nat} (ds : List Value) (h : Rd Try.prog H (m + 2) 111 ds) : ∃ a : Int × Int, ds = [iv a.1, iv a.2] := by
  have hl : ds.length = 2 := (Go.Ot.rd_len Try.underlying111 h).trans (by kernel_rfl)
  match ds, hl with
  | [w0, w1], _ =>
    have g0 := rd_field Try.underlying111 h 0 rfl kc3
    have g1 := rd_field Try.underlying111 h 1 rfl kc2
    obtain ⟨a0, q0, _⟩ := rd_int Try.underlying3 g0
    obtain ⟨a1, q1, _⟩ := rd_int Try.underlying2 g1
    simp at q0 q1
    subst q0 q1
    exact ⟨(a0, a1), rfl⟩
theorem rd_red {H : Heap} {m : Nat} (ds : List Value) (h : Rd Try.prog H (m + 2) 87 ds) : ∃ a : Int × Int, ds = [iv a.1, iv a.2] := by
  have c85 : Try.prog.cellsOf 85 = 1 := by kernel_rfl
  have hl : ds.length = 2 := (Go.Ot.rd_len Try.underlying87 h).trans (by kernel_rfl)
  match ds, hl with
  | [w0, w1], _ =>
    have g0 := rd_field Try.underlying87 h 0 rfl c85
    have g1 := rd_field Try.underlying87 h 1 rfl kc2
    obtain ⟨a0, q0, _⟩ := rd_int Try.underlying85 g0
    obtain ⟨a1, q1, _⟩ := rd_int Try.underlying2 g1
    simp at q0 q1
    subst q0 q1
    exact ⟨(a0, a1), rfl⟩
theorem twos_of {H : Heap} {s e : TypeId} {m : Nat} (hs : Try.prog.underlying s = some (.slice e)) (hc : Try.prog.cellsOf e = 2) (hel : ∀ ds, Rd Try.prog H m e ds → ∃ a : Int × Int, ds = [iv a.1, iv a.2]) {x : Value} (h : Rd Try.prog H (m + 1) s [x]) : ∃ l : List (Int × Int), Twos H x l := by
  rcases rd_slice hs h hc with rfl | ⟨b, off, k, c, rfl, _, h⟩
  · exact ⟨[], .inl ⟨rfl, rfl⟩⟩
  · obtain ⟨l, hl, h⟩ := rd_all (Q := fun (a : Int × Int) ds => ds = [iv a.1, iv a.2]) hel h
    refine ⟨l, .inr ⟨b, off, c, by rw [hl], fun i hi => ?_⟩⟩
    obtain ⟨_, ds, _, h3, h4⟩ := h i hi
    subst h4
    exact ⟨h3 0 (by simp), h3 1 (by simp)⟩
theorem rd_in {H : Heap} {m : Nat} (ds : List Value) (h : Rd Try.prog H (m + 2) 55 ds) : ∃ a : In, ds = rowI a ∧ I8.okI a.kind := by
  have hl : ds.length = 6 := (Go.Ot.rd_len Try.underlying55 h).trans (by kernel_rfl)
  have c52 : Try.prog.cellsOf 52 = 1 := by kernel_rfl
  have c53 : Try.prog.cellsOf 53 = 1 := by kernel_rfl
  match ds, hl with
  | [w0, w1, w2, w3, w4, w5], _ =>
    have g0 := rd_field Try.underlying55 h 0 rfl c52
    have g1 := rd_field Try.underlying55 h 1 rfl c53
    have g2 := rd_field Try.underlying55 h 2 rfl kc3
    have g3 := rd_field Try.underlying55 h 3 rfl kc3
    have g4 := rd_field Try.underlying55 h 4 rfl kc3
    have g5 := rd_field Try.underlying55 h 5 rfl kc2
    obtain ⟨a0, q0, k0⟩ := rd_int Try.underlying52 g0
    obtain ⟨a1, q1, _⟩ := rd_int Try.underlying53 g1
    obtain ⟨a2, q2, _⟩ := rd_int Try.underlying3 g2
    obtain ⟨a3, q3, _⟩ := rd_int Try.underlying3 g3
    obtain ⟨a4, q4, _⟩ := rd_int Try.underlying3 g4
    obtain ⟨a5, q5, _⟩ := rd_int Try.underlying2 g5
    simp at q0 q1 q2 q3 q4 q5
    subst q0 q1 q2 q3 q4 q5
    exact ⟨⟨a0, a1, a2, a3, a4, a5⟩, rfl, bounds_i64 k0⟩
theorem rd_code {H : Heap} {m : Nat} {x : Value} (h : Rd Try.prog H (m + 3) 50 [x]) : ∃ l : List In, Rws H 6 x (l.map rowI) ∧ ∀ a ∈ l, I8.okI a.kind := by
  rcases rd_slice Try.underlying50 h (show Try.prog.cellsOf 55 = 6 by kernel_rfl) with rfl | ⟨b, off, k, c, rfl, _, h⟩
  · exact ⟨[], .inl ⟨rfl, rfl⟩, by simp⟩
  · obtain ⟨l, hl, h⟩ := rd_all (Q := fun (a : In) ds => ds = rowI a ∧ I8.okI a.kind) (fun ds h => rd_in ds h) h
    refine ⟨l, .inr ⟨b, off, c, by rw [List.length_map, hl], fun i hi => ?_⟩, fun a ha => ?_⟩
    · have hi' : i < l.length := by simpa using hi
      obtain ⟨_, ds, _, h3, h4, _⟩ := h i hi'
      subst h4
      simp only [List.getElem_map]
      exact ⟨rfl, fun j hj => h3 j hj⟩
    · obtain ⟨i, hi, rfl⟩ := List.mem_iff_getElem.mp ha
      obtain ⟨_, ds, _, _, _, h5⟩ := h i hi
      exact h5
theorem rd_codes {H : Heap} {m : Nat} {x : Value} (h : Rd Try.prog H (m + 4) 27 [x]) : ∃ l : List (List In), Cds H x l ∧ ∀ c ∈ l, ∀ a ∈ c, I8.okI a.kind := by
  have c50 : Try.prog.cellsOf 50 = 1 := by kernel_rfl
  rcases rd_slice Try.underlying27 h c50 with rfl | ⟨b, off, k, c, rfl, _, h⟩
  · exact ⟨[], .inl ⟨rfl, rfl⟩, by simp⟩
  · have hel : ∀ ds, Rd Try.prog H (m + 3) 50 ds → ∃ l : List In, ∃ y, ds = [y] ∧ Rws H 6 y (l.map rowI) ∧ ∀ a ∈ l, I8.okI a.kind := by
      intro ds hd
      obtain ⟨y, rfl⟩ := rd_one Try.underlying50 hd
      obtain ⟨l, h1, h2⟩ := rd_code hd
      exact ⟨l, y, rfl, h1, h2⟩
    obtain ⟨l, hl, h⟩ := rd_all (Q := fun (l : List In) ds => ∃ y, ds = [y] ∧ Rws H 6 y (l.map rowI) ∧ ∀ a ∈ l, I8.okI a.kind) hel h
    refine ⟨l, .inr ⟨b, off, c, by rw [hl], fun i hi => ?_⟩, fun cl hc => ?_⟩
    · obtain ⟨_, ds, _, h3, y, h4, h5, _⟩ := h i hi
      subst h4
      refine ⟨y, ?_, h5⟩
      have := h3 0 (by simp)
      simpa using this
    · obtain ⟨i, hi, rfl⟩ := List.mem_iff_getElem.mp hc
      obtain ⟨_, ds, _, _, y, _, _, h6⟩ := h i hi
      exact h6
theorem rd_shape {H : Heap} {m : Nat} (ds : List Value) (h : Rd Try.prog H (m + 2) 26 ds) : ∃ S : Shp, ds = shpC S ∧ ShpOk S := by
  have hl : ds.length = 6 := (Go.Ot.rd_len Try.underlying26 h).trans (by kernel_rfl)
  have c24 : Try.prog.cellsOf 24 = 1 := by kernel_rfl
  match ds, hl with
  | [w0, w1, w2, w3, w4, w5], _ =>
    have g0 := rd_field Try.underlying26 h 0 rfl c24
    have g1 := rd_field Try.underlying26 h 1 rfl kc2
    have g2 := rd_field Try.underlying26 h 2 rfl kc2
    have g3 := rd_field Try.underlying26 h 3 rfl kc2
    have g4 := rd_field Try.underlying26 h 4 rfl kc3
    have g5 := rd_field Try.underlying26 h 5 rfl kc3
    obtain ⟨a0, q0, k0⟩ := rd_int Try.underlying24 g0
    obtain ⟨a1, q1, k1⟩ := rd_int Try.underlying2 g1
    obtain ⟨a2, q2, k2⟩ := rd_int Try.underlying2 g2
    obtain ⟨a3, q3, k3⟩ := rd_int Try.underlying2 g3
    obtain ⟨a4, q4, k4⟩ := rd_int Try.underlying3 g4
    obtain ⟨a5, q5, k5⟩ := rd_int Try.underlying3 g5
    simp at q0 q1 q2 q3 q4 q5
    subst q0 q1 q2 q3 q4 q5
    exact ⟨⟨a0, a1, a2, a3, a4, a5⟩, rfl, bounds_i64 k1, bounds_i64 k2, bounds_i64 k3, bounds_i64 k4, bounds_i64 k5⟩
theorem rd_job {H : Heap} {m : Nat} (ds : List Value) (h : Rd Try.prog H (m + 5) 29 ds) : ∃ J : Jb, ds = jobC J ∧ Jb0 H J := by
  have hl : ds.length = 11 := (Go.Ot.rd_len Try.underlying29 h).trans (by kernel_rfl)
  have c22 : Try.prog.cellsOf 22 = 1 := by kernel_rfl
  have c23 : Try.prog.cellsOf 23 = 1 := by kernel_rfl
  have c26 : Try.prog.cellsOf 26 = 6 := by kernel_rfl
  have c27 : Try.prog.cellsOf 27 = 1 := by kernel_rfl
  match ds, hl with
  | [w0, w1, w2, w3, w4, w5, w6, w7, w8, w9, w10], _ =>
    have g0 := rd_field Try.underlying29 h 0 rfl kc3
    have g1 := rd_field Try.underlying29 h 1 rfl c22
    have g2 := rd_field Try.underlying29 h 2 rfl c23
    have g3 := rd_field Try.underlying29 h 3 rfl kc3
    have g4 := rd_field Try.underlying29 h 4 rfl c26
    have g5 := rd_field Try.underlying29 h 5 rfl c27
    obtain ⟨a0, q0, _⟩ := rd_int Try.underlying3 g0
    obtain ⟨lc, h1⟩ := twos_of (m := m + 3) Try.underlying22 (show Try.prog.cellsOf 111 = 2 by kernel_rfl) (fun ds h => rd_cell (m := m + 1) ds h) g1
    obtain ⟨lr, h2⟩ := twos_of (m := m + 3) Try.underlying23 (show Try.prog.cellsOf 87 = 2 by kernel_rfl) (fun ds h => rd_red (m := m + 1) ds h) g2
    obtain ⟨a3, q3, _⟩ := rd_int Try.underlying3 g3
    obtain ⟨S, q4, hS⟩ := rd_shape (m := m + 2) _ g4
    obtain ⟨lk, h5, hk⟩ := rd_codes (m := m) g5
    simp at q0 q3 q4
    obtain ⟨r0, r1, r2, r3, r4, r5⟩ := q4
    subst q0 q3 r0 r1 r2 r3 r4 r5
    exact ⟨⟨a0, a3, S, lc, lr, lk, w1, w2, w10⟩, rfl, h1, h2, h5, hS, hk⟩
theorem rd_ev {H : Heap} {m : Nat} (ds : List Value) (h : Rd Try.prog H (m + 2) 58 ds) : ∃ a : Ev, ds = evC a := by
  have hl : ds.length = 6 := (Go.Ot.rd_len Try.underlying58 h).trans (by kernel_rfl)
  have c56 : Try.prog.cellsOf 56 = 1 := by kernel_rfl
  match ds, hl with
  | [w0, w1, w2, w3, w4, w5], _ =>
    have g0 := rd_field Try.underlying58 h 0 rfl c56
    have g1 := rd_field Try.underlying58 h 1 rfl kc3
    have g2 := rd_field Try.underlying58 h 2 rfl kc3
    have g3 := rd_field Try.underlying58 h 3 rfl kc3
    have g4 := rd_field Try.underlying58 h 4 rfl kc2
    have g5 := rd_field Try.underlying58 h 5 rfl kc3
    obtain ⟨a0, q0, _⟩ := rd_int Try.underlying56 g0
    obtain ⟨a1, q1, _⟩ := rd_int Try.underlying3 g1
    obtain ⟨a2, q2, _⟩ := rd_int Try.underlying3 g2
    obtain ⟨a3, q3, _⟩ := rd_int Try.underlying3 g3
    obtain ⟨a4, q4, _⟩ := rd_int Try.underlying2 g4
    obtain ⟨a5, q5, _⟩ := rd_int Try.underlying3 g5
    simp at q0 q1 q2 q3 q4 q5
    subst q0 q1 q2 q3 q4 q5
    exact ⟨⟨a0, a1, a2, a3, a4, a5⟩, rfl⟩
theorem rd_evs {H : Heap} {x0 : Value} (h0 : Rd Try.prog H 4 30 [x0]) : ∃ l : List Ev, Rws H 6 x0 (l.map evC) := by
  rcases rd_slice Try.underlying30 h0 (show Try.prog.cellsOf 58 = 6 by kernel_rfl) with rfl | ⟨b, off, k, c, rfl, _, h⟩
  · exact ⟨[], .inl ⟨rfl, rfl⟩⟩
  · obtain ⟨l, hl, h⟩ := rd_all (Q := fun (a : Ev) ds => ds = evC a) (fun ds h => rd_ev (m := 1) ds h) h
    refine ⟨l, .inr ⟨b, off, c, by rw [List.length_map, hl], fun i hi => ?_⟩⟩
    have hi' : i < l.length := by simpa using hi
    obtain ⟨_, ds, _, h3, h4⟩ := h i hi'
    subst h4
    simp only [List.getElem_map]
    exact ⟨rfl, fun j hj => h3 j hj⟩
theorem cuts_U {H : Heap} (hw : H.WF) {cs : List Value} (h0 : Rd Try.prog H 7 29 cs) {x1 : Value} (h1 : Rd Try.prog H 4 30 [x1]) {many : Int} (hm : -9223372036854775808 ≤ many ∧ many ≤ 9223372036854775807) : ∃ v H', T Try.prog 3 [.agg cs.toArray, x1, iv many] H v H' ∧ v = .bool true := by
  obtain ⟨J, rfl, hJ⟩ := rd_job (m := 2) cs h0
  obtain ⟨l, hl⟩ := rd_evs h1
  exact ⟨_, _, cuts_T hw hJ hl many hm, rfl⟩
end Go.Proofs.Ytjkfghekdcalhaa
