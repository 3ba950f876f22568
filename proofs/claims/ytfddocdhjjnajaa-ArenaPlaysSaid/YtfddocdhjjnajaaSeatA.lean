/-
  The arena: what its functions do, for every heap in which an arena stands.
-/
import Derived.Test.YtfddocdhjjnajaaOtW
import Derived.Test.YtfddocdhjjnajaaSeatL
namespace Go.Proofs.Ytfddocdhjjnajaa
open Go.Ot
set_option linter.unusedSimpArgs false
set_option linter.unusedVariables false
theorem hm : Try.prog.follows .mixedOrders = true := by kernel_rfl
abbrev ptr (p : Nat) : Value := .pointer (some ⟨p, 0, none⟩)
abbrev sl (b n : Nat) : Value := .slice (some ⟨b, 0, none⟩) n 0
structure AR (H : Heap) (p fb ub : Nat) (fr : List Int) (us : List Bool) : Prop where
  hp : ¬ p < H.B
  hf : ¬ fb < H.B
  hu : ¬ ub < H.B
  pf : p ≠ fb
  pu : p ≠ ub
  fu : fb ≠ ub
  bp : H.blk p = some ⟨44, 2, [sl fb fr.length, sl ub us.length]⟩
  bu : H.blk ub = some ⟨4, 1, us.map .bool⟩
  bf : ∃ rest, H.blk fb = some ⟨3, 1, fr.map (.int .i64) ++ rest⟩
def usedB (us : List Bool) (i : Int) : Bool := decide (0 ≤ i) && decide (i < us.length) && us.getD i.toNat false
theorem used_T {H : Heap} {p fb ub : Nat} {fr : List Int} {us : List Bool} (h : AR H p fb ub fr us) (i : Int) : T Try.prog 10 [ptr p, .int .i64 i] H (.bool (usedB us i)) H := by
  refine T_eq hm light10 ?_
  by_cases h0 : 0 ≤ i
  · by_cases h1 : i < us.length
    · have h2 : i.toNat < us.length := by omega
      simp [L10, Heap.load, h.hp, h.bp, h.bu, h.hu, h0, h1, usedB, List.getD, h2]
    · simp [L10, Heap.load, h.hp, h.bp, h.bu, h.hu, h0, h1, usedB]
  · simp [L10, Heap.load, h.hp, h.bp, h.bu, h.hu, h0, usedB]
theorem live_T {H : Heap} {p fb ub : Nat} {fr : List Int} {us : List Bool} (h : AR H p fb ub fr us) (hl : us.length < 1000) (hl2 : fr.length < 1000) : T Try.prog 11 [ptr p] H (.int .i64 (us.length - fr.length)) H := by
  refine T_eq hm light11 ?_
  have e : IntKind.i64.wrap (us.length - fr.length) = us.length - fr.length := w64 _ (by omega)
  simp [L11, Heap.load, h.hp, h.bp, h.bu, h.hu, e]
theorem free_T {H : Heap} {p fb ub : Nat} {fr : List Int} {us : List Bool} (h : AR H p fb ub fr us) : T Try.prog 12 [ptr p] H (.int .i64 fr.length) H := by
  refine T_eq hm light12 ?_
  simp [L12, Heap.load, h.hp, h.bp, h.bu, h.hu]
theorem take_none {H : Heap} {p fb ub : Nat} {us : List Bool} (h : AR H p fb ub [] us) : T Try.prog 9 [ptr p] H (.tuple #[.int .i64 0, .int .i64 200]) H := by
  refine T_eq hm light9 ?_
  simp [L9, Heap.load, h.hp, h.bp, h.bu, h.hu]
theorem take_T {H : Heap} {p fb ub : Nat} {fr : List Int} {s : Int} {us : List Bool} (h : AR H p fb ub (fr ++ [s]) us) (hs : 0 ≤ s ∧ s < us.length) (hl2 : fr.length < 1000) :
    ∃ v H', T Try.prog 9 [ptr p] H v H' ∧ v = .tuple #[.int .i64 s, .int .i64 0] ∧ AR H' p fb ub fr (us.set s.toNat true) ∧ Same H H' [p, ub] := by
  refine T_by hm light9 ?_
  obtain ⟨rest, bf⟩ := h.bf
  have e : IntKind.i64.wrap (fr.length : Int) = fr.length := w64 _ (by omega)
  have h2 : s.toNat < us.length := by omega
  simp [L9, Heap.load, Heap.store, h.hp, h.bp, h.bu, h.hu, h.hf, bf, e, h.pf, h.pu, h.fu, h.pf.symm, h.pu.symm, h.fu.symm, hs.1, hs.2, h2]
  refine ⟨by omega, by omega, by omega, ⟨by simp [h.hp], by simp [h.hf], by simp [h.hu], h.pf, h.pu, h.fu, by simp [h.bp, h.pu], by simp [h.bu, h.pu.symm, List.map_set], ⟨.int .i64 s :: rest, by simp [bf, h.pf.symm, h.fu]⟩⟩, ?_⟩
  intro b _ hb
  simp only [List.mem_cons, List.not_mem_nil, or_false, not_or] at hb
  simp [hb.1, hb.2]
theorem back_no {H : Heap} {p fb ub : Nat} {fr : List Int} {us : List Bool} (h : AR H p fb ub fr us) {i : Int} (hi : usedB us i = false) : T Try.prog 8 [ptr p, .int .i64 i] H (.int .i64 201) H := by
  refine T_eq hm light8 ?_
  simp [L8]
  refine goT_of (used_T h i) ?_
  simp [hi]
theorem back_T {H : Heap} (hw : H.WF) {p fb ub : Nat} {fr : List Int} {us : List Bool} (h : AR H p fb ub fr us) (hl : fr.length < 1000) {i : Int} (hi : usedB us i = true) :
    ∃ v H', T Try.prog 8 [ptr p, .int .i64 i] H v H' ∧ v = .int .i64 0 ∧ ∃ fb', H.next ≤ fb' ∧ AR H' p fb' ub (fr ++ [i]) (us.set i.toNat false) ∧ Same H H' [p, fb, ub] := by
  refine T_by hm light8 ?_
  simp [L8]
  refine goT_of (used_T h i) ?_
  obtain ⟨rest, bf⟩ := h.bf
  have hi' := hi
  simp only [usedB, Bool.and_eq_true, decide_eq_true_eq] at hi'
  obtain ⟨⟨h0, h1⟩, _⟩ := hi'
  have h2 : i.toNat < us.length := by omega
  have hpn := hw.lt h.bp
  have hun := hw.lt h.bu
  have hfn := hw.lt bf
  have hnB := hw.next_ge
  have hap := append_one (H := (H.put ub ((us.map Value.bool).set i.toNat (.bool false))).new 3 1 [.int .i64 i]) (ety := 3) (bytes := 8) (b := fb) (off := 0) (n := fr.length) (c := 0) (cells := fr.map (.int .i64) ++ rest) (y := H.next) (v := .int .i64 i)
    (by simp [h.fu, bf, show fb ≠ H.next by omega]) (by simpa using hnB) (by simp) (by omega) (by simp)
  have n1 : p ≠ H.next := by omega
  have n2 : p ≠ H.next + 1 := by omega
  have n3 : ub ≠ H.next := by omega
  have n4 : ub ≠ H.next + 1 := by omega
  have n5 : ¬ H.next + 1 < H.B := by omega
  simp [hi, Heap.load, Heap.store, h.hp, h.bp, h.bu, h.hu, h.hf, h.pf, h.pu, h.fu, h.pf.symm, h.pu.symm, h.fu.symm, h0, h1, h2, zerosA, hap, n1, n2]
  refine ⟨H.next + 1, by omega, ⟨by simp [h.hp], by simpa using n5, by simp [h.hu], n2, h.pu, n4.symm, by simp [h.bp, h.pu, h.pf, n1, n2], by simp [h.bu, h.pu.symm, h.fu.symm, n3, n4, List.map_set], ⟨[], by simp [n2.symm, n4.symm, n5]⟩⟩, ?_⟩
  intro b hb hS
  simp only [List.mem_cons, List.not_mem_nil, or_false, not_or] at hS
  have m1 : b ≠ H.next := by omega
  have m2 : b ≠ H.next + 1 := by omega
  simp [hS.1, hS.2.1, hS.2.2, m1, m2]
def frI (slots i : Nat) : List Int := ((List.range' i (slots - i)).reverse).map (fun (n : Nat) => (n : Int))
theorem frI_len (slots i : Nat) : (frI slots i).length = slots - i := by simp [frI]
theorem frI_step (slots i : Nat) (h : i < slots) : frI slots i = frI slots (i + 1) ++ [(i : Int)] := by
  unfold frI
  rw [show slots - i = (slots - (i + 1)) + 1 by omega, List.range'_succ]
  simp
theorem new_bad {H : Heap} {n : Int} (hn : n < 1 ∨ 512 < n) : T Try.prog 6 [.int .i64 n] H (.tuple #[.pointer none, .int .i64 161]) H := by
  refine T_eq hm light6 ?_
  by_cases h1 : n < 1
  · simp [L6, h1]
  · have h2 : 512 < n := by omega
    simp [L6, h1, h2]
def InvN (H : Heap) (slots p ub : Nat) (i : Nat) (t : Tm) (H1 : Heap) : Prop :=
  ∃ x, i ≤ slots ∧ t 4 = ptr p ∧ t 5 = .int .i64 ((i : Int) - 1) ∧ H1.B = H.B ∧ H.next + 2 ≤ H1.next ∧ H1.WF ∧ H1.blk p = some ⟨44, 2, [x, sl ub slots]⟩ ∧ H1.blk ub = some ⟨4, 1, List.replicate slots (.bool false)⟩ ∧
    Own H1 3 1 (slots - i) ((frI slots i).map (.int .i64)) x ∧ (∀ b, blkOf x = some b → H.next + 2 ≤ b) ∧ ∀ b, b < H.next → H1.blk b = H.blk b
theorem new_T {H : Heap} (hw : H.WF) {n : Int} (hn : 1 ≤ n ∧ n ≤ 512) :
    ∃ v H', T Try.prog 6 [.int .i64 n] H v H' ∧ ∃ p fb ub, v = .tuple #[ptr p, .int .i64 0] ∧ AR H' p fb ub (frI n.toNat 0) (List.replicate n.toNat false) ∧ Same H H' [] ∧ H.next ≤ p ∧ H.next ≤ fb ∧ H.next ≤ ub := by
  refine T_by hm light6 ?_
  have h1 : ¬ n < 1 := by omega
  have h2 : ¬ 512 < n := by omega
  have h3 : 0 ≤ n := by omega
  have hnB := hw.next_ge
  have e1 : IntKind.i64.wrap (n - 1) = n - 1 := w64 _ (by omega)
  have h5 : n ≤ 9223372036854775807 := by omega
  have h6 : n ≤ 140737488355328 := by omega
  simp [L6, h1, h2, sMake, h3, h5, h6, e1]
  refine loop_at (InvN H n.toNat (H.next + 1) H.next) n.toNat ?_ ?_
  · refine ⟨.slice none 0 0, Nat.le_refl _, by simp, by simp; omega, by simp, by simp, WF_new (WF_new hw _ _ _) _ _ _, by simp, by simp [zerosA_one], ?_, by simp, ?_⟩
    · have : frI n.toNat n.toNat = [] := by simp [frI]
      rw [this, Nat.sub_self]; exact Own.nil _ _ _
    · intro b hb
      have m1 : b ≠ H.next := by omega
      have m2 : b ≠ H.next + 1 := by omega
      simp [m1, m2]
  · rintro i t H1 ⟨x, hle, t4, t5, hB, hnx, hw1, bp, bu, hx, hxb, hold⟩
    have np : ¬ H.next + 1 < H1.B := by rw [hB]; omega
    have nB := hw1.next_ge
    cases i with
    | zero =>
      simp [L6_1, t4, t5]
      have hl : (frI n.toNat 0).length = n.toNat := by simp [frI_len]
      rcases hx.2 with ⟨_, h0⟩ | ⟨b, rest, rfl, hb1, hb2⟩
      · omega
      · have hbn := hxb b rfl
        refine ⟨b, H.next, ⟨np, hb1, by rw [hB]; exact hnB, by omega, by omega, by omega, by simpa [hl] using bp, by simpa using bu, ⟨rest, hb2⟩⟩, fun b hb _ => hold b hb, by omega, by omega⟩
    | succ j =>
      have e2 : IntKind.i64.wrap ((j : Int) - 1) = j - 1 := w64 _ (by omega)
      have e3 : ((j : Int) + 1 - 1) = j := by omega
      have hx2 : Own (H1.new 3 1 [.int .i64 j]) 3 1 (n.toNat - (j + 1)) ((frI n.toNat (j + 1)).map (.int .i64)) x := hx.keep rfl (fun b hb => by
        have := hx.lt hw1 hb
        have : b ≠ H1.next := by omega
        simp [this])
      have hap := append_any (bytes := 8) hx2 (src_one (H := H1.new 3 1 [.int .i64 j]) (ety := 3) (v := .int .i64 j) (c := 0) (by simpa using nB) (by simp)) (by omega) (by omega)
      obtain ⟨a, hxa⟩ := hx.len
      have q1 : H.next + 1 ≠ H1.next := by omega
      have q2 : H.next ≠ H1.next := by omega
      have q3 : ¬ blkOf x = some (H.next + 1) := fun h => by have := hxb _ h; omega
      have q4 : ¬ blkOf x = some H.next := fun h => by have := hxb _ h; omega
      have q5 : H.next ≠ H1.next + 1 := by omega
      simp [L6_1, t4, t5, e3, e2, Heap.load, Heap.store, np, bp, q1, q2, q3, blk_drop, zerosA, hap]
      refine ⟨j, Nat.lt_succ_self j, .slice (some ⟨H1.next + 1, 0, none⟩) (n.toNat - j) 0, by omega, by simp [t4], by simp, by simpa using hB, by simp; omega, WF_put (WF_new (WF_drop (WF_new hw1 _ _ _) _) _ _ _) _ _, ?_, ?_, ?_, ?_, ?_⟩
      · simp [bp, q1, q2, q3, blk_drop]; omega
      · simp [bu, q2, q4, q5, blk_drop]
      · rw [frI_step _ _ (show j < n.toNat by omega), List.map_append]
        refine Own.mk ?_ (by simp; omega) (by simp [q2.symm])
        simp [frI_len]; omega
      · intro b hb; simp at hb; omega
      · intro b hb
        have m1 : b ≠ H1.next := by omega
        have m2 : b ≠ H1.next + 1 := by omega
        have m3 : b ≠ H.next + 1 := by omega
        have m4 : ¬ blkOf x = some b := fun h => by have := hxb _ h; omega
        simp [m1, m2, m3, m4, blk_drop, hold b hb]
end Go.Proofs.Ytfddocdhjjnajaa
