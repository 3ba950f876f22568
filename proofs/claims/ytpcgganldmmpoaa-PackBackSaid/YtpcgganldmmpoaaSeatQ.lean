/-
  The reader's numbers.
-/
import Derived.Test.YtpcgganldmmpoaaSeatP
namespace Go.Proofs.Ytpcgganldmmpoaa
open Go.Ot
set_option linter.unusedSimpArgs false
set_option linter.unusedVariables false
theorem read_T2 {H : Heap} (hw : H.WF) {x : Value} {l : List Nat} (h : Bs H x l) (hlt : ∀ c ∈ l, c < 256) (hl : l.length ≤ 140737488355328) :
    ∃ v H', T Try.prog 23 [x] H v H' ∧ ∃ p y, v = ptr p ∧ RD H' p y l 0 0 ∧ H.next ≤ p ∧ H'.WF ∧ H'.base = H.base ∧ Same H H' [] ∧ (∀ b, blkOf y = some b → b < H'.next) ∧ (∀ b, blkOf y = some b → H.next ≤ b) := by
  refine T_by hm light23 ?_
  obtain ⟨a, HA, hap, aA⟩ := OG.pour hw (nil_own H) h.src (by simpa using hl)
  simp only [List.length_nil, Nat.zero_add, List.nil_append] at hap aA
  obtain ⟨xa, xc, hx⟩ := h.len
  rw [hx] at hap ⊢
  have hpB := aA.wf.next_ge
  simp [L23, hap]
  have k : ∀ b, b < HA.next → (HA.new 75 3 [.slice a l.length 0, .int .i64 0, .int .i64 0]).blk b = HA.blk b := fun b hb => by simp [show b ≠ HA.next by omega]
  refine ⟨.slice a l.length 0, ⟨by simpa using hpB, by simp, (own_bs aA.own).keep (H' := HA.new 75 3 [.slice a l.length 0, .int .i64 0, .int .i64 0]) aA.wf rfl k, ?_, Nat.zero_le _, hlt, hl⟩, aA.next, WF_new aA.wf _ _ _, aA.base, ?_, ?_, ?_⟩
  · intro hb
    have := aA.own.lt aA.wf hb
    omega
  · intro b hb _
    have := aA.next
    rw [k b (by omega)]
    exact aA.olds b hb
  · intro b hb
    have := aA.own.lt aA.wf hb
    omega
  · intro b hb
    rcases aA.old b hb with h1 | h1
    · cases h1
    · exact h1
end Go.Proofs.Ytpcgganldmmpoaa
