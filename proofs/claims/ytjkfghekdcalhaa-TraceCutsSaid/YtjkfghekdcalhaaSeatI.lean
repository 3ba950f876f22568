/-
  Chapter 27: what was told stays so that it may be: plainly.
-/
import Derived.Test.YtjkfghekdcalhaaSeatG
namespace Go.Proofs.Ytjkfghekdcalhaa
open Go.Ot Go.RowKit
open R14 (Twos ci joinV addN ontoN)
set_option linter.unusedSimpArgs false
set_option linter.unusedVariables false
theorem TrOk.up {J : Jb} {k : Nat} {t : Tr} (h : TrOk J k t) : TrOk J (k + 1) t := ⟨h.r, h.w, h.n, by have := h.lr; omega, by have := h.lw; omega, by have := h.lo; omega, by have := h.ln; omega⟩
theorem wordB_iff {W x : Int} : wordB W x = true ↔ 0 ≤ x ∧ x < W := by simp [wordB]
theorem SOk.tset {J : Jb} {k : Nat} {S : BS} (h : SOk J k S) (a : Nat) {t' : Option Tr} (ht : ∀ t, t' = some t → TrOk J (k + 1) t) : SOk J (k + 1) { S with tries := S.tries.set a t' } := by
  refine ⟨h.mem, by have := h.outs; have : k * k ≤ (k + 1) * (k + 1) := Nat.mul_le_mul (by omega) (by omega); simp only; omega, h.reds, by simp [h.tl], by have := h.cnt; simp only; omega, fun i t hi => ?_⟩
  simp only [List.getElem?_set] at hi
  split at hi
  · split at hi
    · simp only [Option.some.injEq] at hi; exact ht t hi
    · cases hi
  · exact (h.tr i t hi).up
theorem tr_none (J : Jb) (k : Nat) : TrOk J k Tr.none := by refine ⟨?_, ?_, ?_, by simp [Tr.none], by simp [Tr.none], by simp [Tr.none], by simp [Tr.none]⟩ <;> (intro c hc; simp [Tr.none] at hc)
theorem step_ok {J : Jb} {n : Int} {S S' : BS} {x : Ev} {k : Nat} (h : SOk J k S) (hs : stepE J n S x = some S') : SOk J (k + 1) S' := by
  unfold stepE at hs
  split at hs
  · cases hs
  unfold stepR at hs
  generalize x.age.toNat = a at hs
  split at hs
  · split at hs
    · cases hs
      exact h.tset a (fun t e => by cases e; exact tr_none _ _)
    · cases hs
  split at hs
  · rename_i t ht
    have tok := h.tr a t ht
    split at hs
    · split at hs
      · rename_i hc
        cases hs
        refine h.tset a (fun t2 e => by
          cases e
          refine ⟨fun c hc2 => ?_, tok.w, tok.n, by have := tok.lr; simp; omega, by have := tok.lw; simp only; omega, by have := tok.lo; simp only; omega, by have := tok.ln; simp only; omega⟩
          rcases List.mem_append.1 hc2 with h1 | h1
          · exact tok.r c h1
          · simp only [List.mem_singleton] at h1; subst h1; exact wordB_iff.1 hc.1)
      · cases hs
    split at hs
    · split at hs
      · rename_i hc
        cases hs
        refine h.tset a (fun t2 e => by
          cases e
          refine ⟨tok.r, fun c hc2 => ?_, tok.n, by have := tok.lr; simp only; omega, by have := tok.lw; simp; omega, by have := tok.lo; simp only; omega, by have := tok.ln; simp only; omega⟩
          rcases List.mem_append.1 hc2 with h1 | h1
          · exact tok.w c h1
          · simp only [List.mem_singleton] at h1; subst h1; exact wordB_iff.1 hc)
      · cases hs
    split at hs
    · cases hs
      exact h.tset a (fun t2 e => by
        cases e
        exact ⟨tok.r, tok.w, tok.n, by have := tok.lr; simp only; omega, by have := tok.lw; simp only; omega, by have := tok.lo; simp; omega, by have := tok.ln; simp only; omega⟩)
    split at hs
    · split at hs
      · rename_i hc
        cases hs
        refine h.tset a (fun t2 e => by
          cases e
          refine ⟨tok.r, tok.w, fun c hc2 => ?_, by have := tok.lr; simp only; omega, by have := tok.lw; simp only; omega, by have := tok.lo; simp only; omega, by have := tok.ln; simp; omega⟩
          rcases List.mem_append.1 hc2 with h1 | h1
          · exact tok.n c h1
          · simp only [List.mem_singleton] at h1; subst h1; exact wordB_iff.1 hc)
      · cases hs
    split at hs
    · cases hs
      exact h.tset a (fun t e => by cases e; exact tr_none _ _)
    split at hs
    · split at hs
      · cases hs
        have h2 := h.tset a (t' := none) (fun t e => by cases e)
        refine ⟨?_, ?_, ?_, h2.tl, ?_, h2.tr⟩
        · show ((setM S.mem t.writes).length : Int) = J.words
          rw [setM_len]; exact h.mem
        · have := h.outs
          have := tok.lo
          have : (k + 1) * (k + 1) = k * k + 2 * k + 1 := by rw [Nat.add_mul, Nat.mul_add]; omega
          simp [commitV]; omega
        · simp [commitV, R14.ontoN_len]
        · have := h.cnt; simp [commitV]; omega
      · cases hs
    split at hs
    · split at hs
      · cases hs
        have h2 := h.tset a (t' := S.tries.getD a none) (fun t2 e => by
          have : S.tries.getD a none = some t := by simp [List.getD, ht]
          rw [this] at e; cases e; exact tok.up)
        exact ⟨h.mem, h2.outs, h.reds, h.tl, by have := h.cnt; simp only; omega, fun i t hi => (h.tr i t hi).up⟩
      · cases hs
    · cases hs
  · cases hs
/-- All events, one behind the other: the place of the first that can't be, or all that is told. -/
def runE (J : Jb) (n : Int) : BS → List Ev → Nat → Nat × Int × Option BS
  | S, [], _ => (0, 0, some S)
  | S, x :: l, i => match stepE J n S x with
    | none => (i, 270, none)
    | some S' => runE J n S' l (i + 1)
/-- What can be seen ahead of all. -/
def beginS (J : Jb) : BS := ⟨memV J.words.toNat J.cells, [], J.reds.map Prod.snd, 0, 0, 0, 0, List.replicate 200 none⟩
/-- What trace.Check answers: a place, an error, what is told. -/
def lookV (J : Jb) (l : List Ev) : Nat × Int × Option BS := if validE J ≠ 0 then (0, validE J, none) else runE J (cntP J.S).1 (beginS J) l 0
theorem begin_ok {J : Jb} (hw : 1 ≤ J.words) : SOk J 0 (beginS J) := by
  refine ⟨?_, Nat.zero_le _, List.length_map _, List.length_replicate, Nat.le_refl _, fun i t hi => ?_⟩
  · simp only [beginS, memV_len]; omega
  · simp only [beginS, List.getElem?_replicate] at hi
    split at hi <;> simp at hi
theorem runE_cut (J : Jb) (n : Int) : ∀ (l : List Ev) (S : BS) (i m : Nat), m ≤ l.length →
    ((runE J n S l i).2.1 = 0 → (runE J n S (l.take m) i).1 = 0 ∧ (runE J n S (l.take m) i).2.1 = 0) ∧
    ((runE J n S l i).2.1 ≠ 0 → (runE J n S l i).2.1 = 270 ∧ i ≤ (runE J n S l i).1 ∧
      ((runE J n S l i).1 < i + m → (runE J n S (l.take m) i).1 = (runE J n S l i).1 ∧ (runE J n S (l.take m) i).2.1 = 270) ∧
      (i + m ≤ (runE J n S l i).1 → (runE J n S (l.take m) i).1 = 0 ∧ (runE J n S (l.take m) i).2.1 = 0))
  | [], S, i, m, hm => by
    have : m = 0 := by simpa using hm
    subst this
    simp [runE]
  | x :: l, S, i, 0, hm => by
    refine ⟨fun _ => by simp [runE], fun h => ?_⟩
    simp only [List.take_zero]
    have key : (runE J n S (x :: l) i).2.1 = 270 ∧ i ≤ (runE J n S (x :: l) i).1 := by
      simp only [runE] at h ⊢
      cases hs : stepE J n S x with
      | none => simp
      | some S' =>
        rw [hs] at h
        have := (runE_cut J n l S' (i + 1) 0 (by omega)).2 h
        exact ⟨this.1, by have := this.2.1; simp only; omega⟩
    exact ⟨key.1, key.2, fun h1 => by omega, fun _ => by simp [runE]⟩
  | x :: l, S, i, m + 1, hm => by
    simp only [List.take_succ_cons, runE]
    cases hs : stepE J n S x with
    | none => simp
    | some S' =>
      have ih := runE_cut J n l S' (i + 1) m (by simpa using hm)
      simp only
      refine ⟨ih.1, fun h => ?_⟩
      obtain ⟨h1, h2, h3, h4⟩ := ih.2 h
      exact ⟨h1, by omega, fun h5 => h3 (by omega), fun h5 => h4 (by omega)⟩
end Go.Proofs.Ytjkfghekdcalhaa
