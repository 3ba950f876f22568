/-
  FlowLists: for every input the call returns true and each argument reads afterwards as it read before. No condition.
-/
import Derived.Test.YtfmcnojojknkfaaSeatH
import Derived.Test.YtfmcnojojknkfaaOtZ
import Derived.Test.YtfmcnojojknkfaaRows
namespace Go.Proofs.Ytfmcnojojknkfaa.flowLists
open Go.Ot Go.ChangeShapes Go.WideShapes Go.ChangeAt Go.RowKit Go.Fl
set_option linter.unusedVariables false
theorem fit_of {n : Int} (h : (Lit.int .i64 n).wf = true) : okI n := bounds_i64 h
set_option maxRecDepth 100000 in
theorem row_of {H : Heap} {n : Nat} {x : Value} (h : Rd Try.prog H (n + 1) 24 [x]) : ∃ l : List Int, Ints H .i64 x l ∧ ∀ a ∈ l, okI a := by
  obtain ⟨l, h1, h2⟩ := ints_of Try.underlying24 Try.underlying3 (by kernel_rfl) h
  exact ⟨l, h1.ints, fun a ha => fit_of (h2 a ha)⟩
set_option maxRecDepth 100000 in
theorem rd_tk {H : Heap} (ds : List Value) (h : Rd Try.prog H 4 26 ds) : ∃ a : Tk, TkW a ∧ TkR H a ds := by
  have hl : ds.length = 5 := (rd_len Try.underlying26 h).trans (by kernel_rfl)
  have c3 : Try.prog.cellsOf 3 = 1 := by kernel_rfl
  have c24 : Try.prog.cellsOf 24 = 1 := by kernel_rfl
  match ds, hl with
  | [w0, w1, w2, w3, w4], _ =>
    have g0 := rd_field Try.underlying26 h 0 rfl c3
    have g1 := rd_field Try.underlying26 h 1 rfl c24
    have g2 := rd_field Try.underlying26 h 2 rfl c24
    have g3 := rd_field Try.underlying26 h 3 rfl c24
    have g4 := rd_field Try.underlying26 h 4 rfl c3
    obtain ⟨a0, q0, f0⟩ := rd_int Try.underlying3 g0
    obtain ⟨a4, q4, f4⟩ := rd_int Try.underlying3 g4
    obtain ⟨l1, i1, o1⟩ := row_of (x := w1) g1
    obtain ⟨l2, i2, o2⟩ := row_of (x := w2) g2
    obtain ⟨l3, i3, o3⟩ := row_of (x := w3) g3
    simp at q0 q4
    subst q0 q4
    exact ⟨⟨a0, l1, l2, l3, a4⟩, ⟨fit_of f0, fit_of f4, o1, o2, o3⟩, w1, w2, w3, rfl, i1, i2, i3⟩
set_option maxRecDepth 100000 in
theorem rd_tks {H : Heap} {x0 : Value} (h0 : Rd Try.prog H 5 22 [x0]) : ∃ L : List Tk, (∀ t ∈ L, TkW t) ∧ TkL H x0 L := by
  rcases rd_slice Try.underlying22 h0 (show Try.prog.cellsOf 26 = 5 by kernel_rfl) with rfl | ⟨b, off, k, c, rfl, _, h⟩
  · exact ⟨[], by simp, [], .inl ⟨rfl, rfl⟩, rfl, fun i hi => absurd hi (by simp)⟩
  · obtain ⟨l, hl, h⟩ := rd_all (Q := fun (a : Tk × List Value) ds => TkW a.1 ∧ TkR H a.1 a.2 ∧ ds = a.2) (fun ds h => by obtain ⟨a, p, q⟩ := rd_tk ds h; exact ⟨(a, ds), p, q, rfl⟩) h
    refine ⟨l.map (·.1), ?_, l.map (·.2), .inr ⟨b, off, c, by rw [List.length_map, hl], fun i hi => ?_⟩, by simp, fun i hi hi' => ?_⟩
    · intro x hx
      obtain ⟨p, hp, rfl⟩ := List.mem_map.1 hx
      obtain ⟨i, hi, rfl⟩ := List.getElem_of_mem hp
      obtain ⟨_, ds, _, h3, h4, h5, h6⟩ := h i hi
      exact h4
    · have hi' : i < l.length := by simpa using hi
      obtain ⟨_, ds, h2, h3, h4, h5, h6⟩ := h i hi'
      subst h6
      simp only [List.getElem_map]
      exact ⟨h2, fun j hj => h3 j hj⟩
    · have hi2 : i < l.length := by simpa using hi
      obtain ⟨_, ds, h2, h3, h4, h5, h6⟩ := h i hi2
      simpa using h5
theorem own : ownKnob Try.prog.godebug = none := by kernel_rfl
theorem laidOut : laidOutB Try.prog = true := by kernel_rfl
set_option maxRecDepth 100000 in
theorem lifted (os : Os) (started : os.Started) (H : Type) (enc : TypeId × Value → H) :
    ReturnsInHanded {} Try.checked os 3 .any (Rows.flowListsSpec.pre6 enc Try.prog Try.f3 Rows.flowListsRow.domain false) (Rows.flowListsSpec.post enc Try.prog Try.f3 false true false false) := by
  refine law_lifted (C := Try.checked) (fn := Try.f3) (tb := 4) own started (by kernel_rfl) Try.func3
    (ChangeSpec.witness6 (enc := enc) (C := Try.checked) false ⟨#[], #[.slice none 0 0], []⟩ 8 (by kernel_rfl) (by kernel_rfl) (by kernel_rfl) (by kernel_rfl)) rfl ?_ rfl Try.underlying4 laidOut ?_ ?_
  · rintro ds hds
    match ds, hds with
    | [d0], _ => rfl
  · rw [Try.params3]
    intro t ht
    simp at ht
    subst ht
    exact ⟨by kernel_rfl, of_decide_eq_true (by kernel_rfl)⟩
  · intro W base args ds p hval hA hsz
    rw [Try.params3] at hA hval
    obtain ⟨v0, vs0, d0, ds0, p0, q0, hargs, rfl, rfl, h0, r0⟩ := trodAll_cons hA
    obtain ⟨rfl, rfl, rfl⟩ := trodAll_nil r0
    obtain rfl : args = #[v0] := by cases args; simp_all
    obtain ⟨x0, hx0, rx0⟩ := open_slice 5 Try.underlying22 (by kernel_rfl) (hval 0 22 v0 rfl rfl) h0
    obtain ⟨L, okL, hL⟩ := rd_tks hx0
    exact calls_of_T (lists_T (H0_wf W) hL okL) (.cons rx0 .nil)
theorem over : Rows.flowListsRow.holds Try.pinned (OpenSpec.ofChange Rows.flowListsSpec) :=
  OpenClaim.holds_of_wide 3 Try.f3 rfl rfl rfl rfl rfl rfl rfl ⟨rfl, rfl, rfl, rfl, rfl⟩ rfl rfl rfl rfl rfl (by kernel_rfl) Try.func3 (by kernel_rfl)
    (of_decide_eq_true (by kernel_rfl)) (by unfold Func.isWrapper; first | (rw [if_pos (by decide +kernel)]; kernel_rfl) | (rw [if_neg (by decide +kernel)]; exact ⟨rfl, rfl⟩))
    (fun os started H enc _ => lifted os started H enc)
theorem proved : Rows.FlowListsSaid := over
end Go.Proofs.Ytfmcnojojknkfaa.flowLists
