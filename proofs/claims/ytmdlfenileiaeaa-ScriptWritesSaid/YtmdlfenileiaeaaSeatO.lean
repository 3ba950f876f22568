/-
  Chapter 25: ScriptRounds.
-/
import Derived.Test.YtmdlfenileiaeaaSeatM
namespace Go.Proofs.Ytmdlfenileiaeaa
open Go.Ot Go.ChangeShapes Go.WideShapes Go.ChangeAt Go.RowKit
set_option linter.unusedSimpArgs false
set_option linter.unusedVariables false
theorem row_more {H H1 : Heap} {l m : List Ent} {x y : Value} (h : Row H H1 36 2 l.length (ec l) x) (hy : Rl H y m) (hl : l.length ≤ 1000000) (hm' : m.length ≤ 1000000) (hw : H.WF) :
    ∃ z H3, sAppend H1 36 2 16 x y = some (z, H3) ∧ Row H H3 36 2 (l ++ m).length (ec (l ++ m)) z := by
  obtain ⟨own, on, new⟩ := h
  have hy1 := hy.on hw on
  have src := hy1.src
  by_cases h0 : m.length = 0
  · have hm0 : m = [] := List.length_eq_zero_iff.1 h0
    subst hm0
    have : sAppend H1 36 2 16 x y = some (x, H1) := by
      rcases own.2 with ⟨rfl, hl0⟩ | ⟨b, rest, rfl, _⟩
      · exact append_none src (.inr ⟨rfl, rfl⟩)
      · exact append_none src (.inl rfl)
    exact ⟨x, H1, this, by simpa using own, on, new⟩
  · have ap := append_any (bytes := 16) own src h0 (by omega)
    refine ⟨_, _, ap, ⟨?_, ?_, ?_⟩⟩
    · rw [List.length_append, ec_append]
      refine Own.mk (by rw [List.length_append, ec_len, ec_len]; omega) ?_ (by simp)
      simpa using on.wf.next_ge
    · refine ⟨WF_new (WF_drop on.wf _) _ _ _, by simpa using on.base, by have := on.next; simp; omega, fun b hb => ?_⟩
      have := on.next
      have h2 : blkOf x ≠ some b := fun hx => by have := new b hx; omega
      simp [show b ≠ H1.next by omega, blk_drop, h2, on.keep b hb]
    · intro b hb
      have : H1.next = b := by simpa using hb
      have := on.next
      omega
theorem roundslaw_N {H : Heap} (hw : H.WF) {x y : Value} {l m : List Ent} (hx : Rl H x l) (hy : Rl H y m) (w : Int) : TN Try.prog 4 [x, y, iv w] H (fun o H' => o = .ret (.bool true) ∧ On H H') := by
  refine N_by hm light4 ?_
  obtain ⟨a1, c1, h1⟩ := hx.len
  obtain ⟨a2, c2, h2⟩ := hy.len
  by_cases g1 : 500 < l.length
  · have g1' : (500 : Int) < (l.length : Int) := by omega
    rw [h1, h2]
    simp [L4, g1, g1']
    exact On.refl hw
  by_cases g2 : 500 < m.length
  · have g1' : ¬ (500 : Int) < (l.length : Int) := by omega
    have g2' : (500 : Int) < (m.length : Int) := by omega
    rw [h1, h2]
    simp [L4, g1, g1', g2, g2']
    exact On.refl hw
  have g1' : ¬ (500 : Int) < (l.length : Int) := by omega
  have g2' : ¬ (500 : Int) < (m.length : Int) := by omega
  obtain ⟨z1, H1, ap1, row1⟩ := row_more (Row.nil hw 36 2 (H := H)) hx (l := []) (by simp) (by omega) hw
  obtain ⟨z2, H2, ap2, row2⟩ := row_more row1 hy (by simp; omega) (by omega) hw
  simp only [List.nil_append] at row1 row2
  have on2 := row2.on
  have rx := rounds_T on2.wf (hx.on hw on2) (by omega) w
  have ry := rounds_T on2.wf (hy.on hw on2) (by omega) w
  have rz := rounds_T on2.wf (Own.rl row2.own) (by simp; omega) w
  have rd := refRounds_T (hx.on hw on2) (by omega) w
  have aT := alive_T on2.wf
  obtain ⟨q1, q2, q3⟩ := rounds_append w l m
  have b1 := rounds_le w l
  have b2 := rounds_le w m
  obtain ⟨A, hA⟩ : ∃ A, A = roundsP w l := ⟨_, rfl⟩
  obtain ⟨B, hB⟩ : ∃ A, A = roundsP w m := ⟨_, rfl⟩
  obtain ⟨C, hC⟩ : ∃ A, A = roundsP w (l ++ m) := ⟨_, rfl⟩
  rw [← hA] at rx rd q1 q2 q3 b1
  rw [← hB] at ry q1 q2 q3 b2
  rw [← hC] at rz q1 q2 q3
  have n1 : notTup z1 = true := by obtain ⟨a, h⟩ := row1.own.len; rw [h]; rfl
  have n2 : notTup z2 = true := by obtain ⟨a, h⟩ := row2.own.len; rw [h]; rfl
  have n3 : notTup x = true := by rw [h1]; rfl
  have n4 : notTup y = true := by rw [h2]; rfl
  have w1 : IntKind.i64.wrap ((A.r : Int) + (B.r : Int)) = ((A.r + B.r : Nat) : Int) := by rw [w64 _ (by omega)]; omega
  have w2 : IntKind.i64.wrap (((A.r + B.r : Nat) : Int) + 1) = ((A.r + B.r + 1 : Nat) : Int) := by rw [w64 _ (by omega)]; omega
  have w3 : IntKind.i64.wrap ((A.a : Int) + (B.a : Int)) = ((A.a + B.a : Nat) : Int) := by rw [w64 _ (by omega)]; omega
  obtain ⟨s1, hs1⟩ : ∃ n : Nat, n = A.r + B.r := ⟨_, rfl⟩
  obtain ⟨s2, hs2⟩ : ∃ n : Nat, n = s1 + 1 := ⟨_, rfl⟩
  obtain ⟨s3, hs3⟩ : ∃ n : Nat, n = A.a + B.a := ⟨_, rfl⟩
  rw [← hs1] at w1 w2
  rw [← hs2] at w2
  rw [← hs3] at w3
  have e1 : (s1 : Int) ≤ C.r := by omega
  have e1' : s1 ≤ C.r := by omega
  have e2 : (C.r : Int) ≤ s2 := by omega
  have e2' : C.r ≤ s2 := by omega
  have e3 : C.a = s3 := by omega
  rw [h1, h2]
  simp [L4, g1', g2', g1, g2]
  rw [← h1, ← h2]
  simp [ap1, ap2]
  refine goN_T rx ?_
  simp [n4]
  refine goN_T ry ?_
  simp [n2]
  refine goN_T rz ?_
  simp [n3]
  refine goN_T rd ?_
  simp [w1, w2, w3, e1, e1', e2, e2', e3]
  refine goN_T aT ?_
  simp
  exact on2
theorem roundslaw_T {H : Heap} (hw : H.WF) {x y : Value} {l m : List Ent} (hx : Rl H x l) (hy : Rl H y m) (w : Int) : T Try.prog 4 [x, y, iv w] H (.bool true) H := T_of_N (roundslaw_N hw hx hy w)
/-! ### what came in -/
set_option maxRecDepth 100000 in
theorem rd_ent {H : Heap} (ds : List Value) (h : Rd Try.prog H 3 36 ds) : ∃ a : Ent, ds = erow a ∧ -9223372036854775808 ≤ a.1 ∧ a.1 ≤ 9223372036854775807 := by
  have hl : ds.length = 2 := (Go.Ot.rd_len Try.underlying36 h).trans (by kernel_rfl)
  have c3 : Try.prog.cellsOf 3 = 1 := by kernel_rfl
  have c4 : Try.prog.cellsOf 4 = 1 := by kernel_rfl
  match ds, hl with
  | [w0, w1], _ =>
    have g0 := rd_field Try.underlying36 h 0 rfl c3
    have g1 := rd_field Try.underlying36 h 1 rfl c4
    obtain ⟨a0, q0, f0⟩ := rd_int Try.underlying3 g0
    obtain ⟨a1, q1⟩ := rd_bool Try.underlying4 g1
    simp at q0 q1
    subst q0 q1
    exact ⟨(a0, a1), rfl, bounds_i64 f0⟩
set_option maxRecDepth 100000 in
theorem rd_ents {H : Heap} {x : Value} (h : Rd Try.prog H 4 22 [x]) : ∃ l : List Ent, Rl H x l ∧ ∀ e ∈ l, -9223372036854775808 ≤ e.1 ∧ e.1 ≤ 9223372036854775807 := by
  rcases rd_slice Try.underlying22 h (show Try.prog.cellsOf 36 = 2 by kernel_rfl) with rfl | ⟨b, off, k, c, rfl, _, h⟩
  · exact ⟨[], .inl ⟨rfl, rfl⟩, by simp⟩
  · obtain ⟨l, hl, h⟩ := rd_all (Q := fun (a : Ent) ds => ds = erow a ∧ -9223372036854775808 ≤ a.1 ∧ a.1 ≤ 9223372036854775807) (fun ds h => rd_ent ds h) h
    refine ⟨l, .inr ⟨b, off, c, by rw [List.length_map, hl], fun i hi => ?_⟩, fun a ha => ?_⟩
    · have hi' : i < l.length := by simpa using hi
      obtain ⟨_, ds, _, h3, h4, _⟩ := h i hi'
      subst h4
      simp only [List.getElem_map]
      exact ⟨rfl, fun j hj => h3 j hj⟩
    · obtain ⟨i, hi, rfl⟩ := List.mem_iff_getElem.mp ha
      obtain ⟨_, ds, _, _, _, h5⟩ := h i hi
      exact h5
set_option maxRecDepth 100000 in
theorem rounds_U {H : Heap} (hw : H.WF) {x y : Value} (h0 : Rd Try.prog H 4 22 [x]) (h1 : Rd Try.prog H 4 22 [y]) {w : Int} (_ : -9223372036854775808 ≤ w ∧ w ≤ 9223372036854775807) : ∃ v H', T Try.prog 4 [x, y, iv w] H v H' ∧ v = .bool true := by
  obtain ⟨l, hx, _⟩ := rd_ents h0
  obtain ⟨m, hy, _⟩ := rd_ents h1
  exact ⟨_, _, roundslaw_T hw hx hy w, rfl⟩
end Go.Proofs.Ytmdlfenileiaeaa
