/-
  Chapter 21: the arena's contracts; a binary search (carried over from chapters 20 and 23).
-/
import Derived.Test.YthclcdboialfnaaOtZr
import Derived.Test.YthclcdboialfnaaOtZ
import Derived.Test.YthclcdboialfnaaSeatL
namespace Go.Proofs.Ythclcdboialfnaa
open Go.Ot Go.RowKit
set_option linter.unusedSimpArgs false
set_option linter.unusedVariables false
abbrev iv (n : Int) : Value := .int .i64 n
theorem hm : Try.prog.follows .mixedOrders = true := by kernel_rfl
abbrev ptr (p : Nat) : Value := .pointer (some ⟨p, 0, none⟩)
abbrev sl (b n : Nat) : Value := .slice (some ⟨b, 0, none⟩) n 0
structure AR (H : Heap) (p fb ub : Nat) (fr : List Int) (us : List Bool) : Prop where
  hp : ¬ p < H.B
  hf : ¬ fb < H.B
  hu : ¬ ub < H.B
  pf : p ≠ fb
  pu : p ≠ ub
  fu : fb ≠ ub
  bp : H.blk p = some ⟨86, 2, [sl fb fr.length, sl ub us.length]⟩
  bu : H.blk ub = some ⟨4, 1, us.map .bool⟩
  bf : ∃ rest, H.blk fb = some ⟨3, 1, fr.map (.int .i64) ++ rest⟩
def usedB (us : List Bool) (i : Int) : Bool := decide (0 ≤ i) && decide (i < us.length) && us.getD i.toNat false
theorem used_T {H : Heap} {p fb ub : Nat} {fr : List Int} {us : List Bool} (h : AR H p fb ub fr us) (i : Int) : T Try.prog 37 [ptr p, .int .i64 i] H (.bool (usedB us i)) H := by
  refine T_eq hm light37 ?_
  by_cases h0 : 0 ≤ i
  · by_cases h1 : i < us.length
    · have h2 : i.toNat < us.length := by omega
      simp [L37, Heap.load, h.hp, h.bp, h.bu, h.hu, h0, h1, usedB, List.getD, h2]
    · simp [L37, Heap.load, h.hp, h.bp, h.bu, h.hu, h0, h1, usedB]
  · simp [L37, Heap.load, h.hp, h.bp, h.bu, h.hu, h0, usedB]
theorem live_T {H : Heap} {p fb ub : Nat} {fr : List Int} {us : List Bool} (h : AR H p fb ub fr us) (hl : us.length < 1000) (hl2 : fr.length < 1000) : T Try.prog 29 [ptr p] H (.int .i64 (us.length - fr.length)) H := by
  refine T_eq hm light29 ?_
  have e : IntKind.i64.wrap (us.length - fr.length) = us.length - fr.length := w64 _ (by omega)
  simp [L29, Heap.load, h.hp, h.bp, h.bu, h.hu, e]
theorem free_T {H : Heap} {p fb ub : Nat} {fr : List Int} {us : List Bool} (h : AR H p fb ub fr us) : T Try.prog 38 [ptr p] H (.int .i64 fr.length) H := by
  refine T_eq hm light38 ?_
  simp [L38, Heap.load, h.hp, h.bp, h.bu, h.hu]
theorem take_none {H : Heap} {p fb ub : Nat} {us : List Bool} (h : AR H p fb ub [] us) : T Try.prog 21 [ptr p] H (.tuple #[.int .i64 0, .int .i64 200]) H := by
  refine T_eq hm light21 ?_
  simp [L21, Heap.load, h.hp, h.bp, h.bu, h.hu]
theorem take_T {H : Heap} {p fb ub : Nat} {fr : List Int} {s : Int} {us : List Bool} (h : AR H p fb ub (fr ++ [s]) us) (hs : 0 ≤ s ∧ s < us.length) (hl2 : fr.length < 1000) :
    ∃ v H', T Try.prog 21 [ptr p] H v H' ∧ v = .tuple #[.int .i64 s, .int .i64 0] ∧ AR H' p fb ub fr (us.set s.toNat true) ∧ Same H H' [p, ub] := by
  refine T_by hm light21 ?_
  obtain ⟨rest, bf⟩ := h.bf
  have e : IntKind.i64.wrap (fr.length : Int) = fr.length := w64 _ (by omega)
  have h2 : s.toNat < us.length := by omega
  simp [L21, Heap.load, Heap.store, h.hp, h.bp, h.bu, h.hu, h.hf, bf, e, h.pf, h.pu, h.fu, h.pf.symm, h.pu.symm, h.fu.symm, hs.1, hs.2, h2]
  refine ⟨by omega, by omega, by omega, ⟨by simp [h.hp], by simp [h.hf], by simp [h.hu], h.pf, h.pu, h.fu, by simp [h.bp, h.pu], by simp [h.bu, h.pu.symm, List.map_set], ⟨.int .i64 s :: rest, by simp [bf, h.pf.symm, h.fu]⟩⟩, ?_⟩
  intro b _ hb
  simp only [List.mem_cons, List.not_mem_nil, or_false, not_or] at hb
  simp [hb.1, hb.2]
theorem back_no {H : Heap} {p fb ub : Nat} {fr : List Int} {us : List Bool} (h : AR H p fb ub fr us) {i : Int} (hi : usedB us i = false) : T Try.prog 22 [ptr p, .int .i64 i] H (.int .i64 201) H := by
  refine T_eq hm light22 ?_
  simp [L22]
  refine goT_of (used_T h i) ?_
  simp [hi]
theorem back_T {H : Heap} (hw : H.WF) {p fb ub : Nat} {fr : List Int} {us : List Bool} (h : AR H p fb ub fr us) (hl : fr.length < 1000) {i : Int} (hi : usedB us i = true) :
    ∃ v H', T Try.prog 22 [ptr p, .int .i64 i] H v H' ∧ v = .int .i64 0 ∧ ∃ fb', H.next ≤ fb' ∧ AR H' p fb' ub (fr ++ [i]) (us.set i.toNat false) ∧ Same H H' [p, fb, ub] := by
  refine T_by hm light22 ?_
  simp [L22]
  refine goT_of (used_T h i) ?_
  obtain ⟨rest, bf⟩ := h.bf
  have hi' := hi
  simp only [usedB, Bool.and_eq_true, decide_eq_true_eq] at hi'
  obtain ⟨⟨h0, h1⟩, _⟩ := hi'
  have h2 : i.toNat < us.length := by omega
  have hpn := hw.lt h.bp
  have hun := hw.lt h.bu
  have hfn := hw.lt bf
  have hnB := hw.next_ge
  have hap := append_one (H := (H.put ub ((us.map Value.bool).set i.toNat (.bool false))).new 3 1 [.int .i64 i]) (ety := 3) (bytes := 8) (b := fb) (off := 0) (n := fr.length) (c := 0) (cells := fr.map (.int .i64) ++ rest) (y := H.next) (v := .int .i64 i)
    (by simp [h.fu, bf, show fb ≠ H.next by omega]) (by simpa using hnB) (by simp) (by omega) (by simp)
  have n1 : p ≠ H.next := by omega
  have n2 : p ≠ H.next + 1 := by omega
  have n3 : ub ≠ H.next := by omega
  have n4 : ub ≠ H.next + 1 := by omega
  have n5 : ¬ H.next + 1 < H.B := by omega
  simp [hi, Heap.load, Heap.store, h.hp, h.bp, h.bu, h.hu, h.hf, h.pf, h.pu, h.fu, h.pf.symm, h.pu.symm, h.fu.symm, h0, h1, h2, zerosA, hap, n1, n2]
  refine ⟨H.next + 1, by omega, ⟨by simp [h.hp], by simpa using n5, by simp [h.hu], n2, h.pu, n4.symm, by simp [h.bp, h.pu, h.pf, n1, n2], by simp [h.bu, h.pu.symm, h.fu.symm, n3, n4, List.map_set], ⟨[], by simp [n2.symm, n4.symm, n5]⟩⟩, ?_⟩
  intro b hb hS
  simp only [List.mem_cons, List.not_mem_nil, or_false, not_or] at hS
  have m1 : b ≠ H.next := by omega
  have m2 : b ≠ H.next + 1 := by omega
  simp [hS.1, hS.2.1, hS.2.2, m1, m2]
def frI (slots i : Nat) : List Int := ((List.range' i (slots - i)).reverse).map (fun (n : Nat) => (n : Int))
theorem frI_len (slots i : Nat) : (frI slots i).length = slots - i := by simp [frI]
theorem frI_step (slots i : Nat) (h : i < slots) : frI slots i = frI slots (i + 1) ++ [(i : Int)] := by
  unfold frI
  rw [show slots - i = (slots - (i + 1)) + 1 by omega, List.range'_succ]
  simp
theorem new_bad {H : Heap} {n : Int} (hn : n < 1 ∨ 512 < n) : T Try.prog 18 [.int .i64 n] H (.tuple #[.pointer none, .int .i64 161]) H := by
  refine T_eq hm light18 ?_
  by_cases h1 : n < 1
  · simp [L18, h1]
  · have h2 : 512 < n := by omega
    simp [L18, h1, h2]
def InvN (H : Heap) (slots p ub : Nat) (i : Nat) (t : Tm) (H1 : Heap) : Prop :=
  ∃ x, i ≤ slots ∧ t 4 = ptr p ∧ t 5 = .int .i64 ((i : Int) - 1) ∧ H1.B = H.B ∧ H.next + 2 ≤ H1.next ∧ H1.WF ∧ H1.blk p = some ⟨86, 2, [x, sl ub slots]⟩ ∧ H1.blk ub = some ⟨4, 1, List.replicate slots (.bool false)⟩ ∧
    Own H1 3 1 (slots - i) ((frI slots i).map (.int .i64)) x ∧ (∀ b, blkOf x = some b → H.next + 2 ≤ b) ∧ ∀ b, b < H.next → H1.blk b = H.blk b
theorem new_T {H : Heap} (hw : H.WF) {n : Int} (hn : 1 ≤ n ∧ n ≤ 512) :
    ∃ v H', T Try.prog 18 [.int .i64 n] H v H' ∧ ∃ p fb ub, v = .tuple #[ptr p, .int .i64 0] ∧ AR H' p fb ub (frI n.toNat 0) (List.replicate n.toNat false) ∧ Same H H' [] ∧ H.next ≤ p ∧ H.next ≤ fb ∧ H.next ≤ ub := by
  refine T_by hm light18 ?_
  have h1 : ¬ n < 1 := by omega
  have h2 : ¬ 512 < n := by omega
  have h3 : 0 ≤ n := by omega
  have hnB := hw.next_ge
  have e1 : IntKind.i64.wrap (n - 1) = n - 1 := w64 _ (by omega)
  have h5 : n ≤ 9223372036854775807 := by omega
  have h6 : n ≤ 140737488355328 := by omega
  simp [L18, h1, h2, sMake, h3, h5, h6, e1]
  refine loop_at (InvN H n.toNat (H.next + 1) H.next) n.toNat ?_ ?_
  · refine ⟨.slice none 0 0, Nat.le_refl _, by simp, by simp; omega, by simp, by simp, WF_new (WF_new hw _ _ _) _ _ _, by simp, by simp [zerosA_one], ?_, by simp, ?_⟩
    · have : frI n.toNat n.toNat = [] := by simp [frI]
      rw [this, Nat.sub_self]; exact Own.nil _ _ _
    · intro b hb
      have m1 : b ≠ H.next := by omega
      have m2 : b ≠ H.next + 1 := by omega
      simp [m1, m2]
  · rintro i t H1 ⟨x, hle, t4, t5, hB, hnx, hw1, bp, bu, hx, hxb, hold⟩
    have np : ¬ H.next + 1 < H1.B := by rw [hB]; omega
    have nB := hw1.next_ge
    cases i with
    | zero =>
      simp [L18_1, t4, t5]
      have hl : (frI n.toNat 0).length = n.toNat := by simp [frI_len]
      rcases hx.2 with ⟨_, h0⟩ | ⟨b, rest, rfl, hb1, hb2⟩
      · omega
      · have hbn := hxb b rfl
        refine ⟨b, H.next, ⟨np, hb1, by rw [hB]; exact hnB, by omega, by omega, by omega, by simpa [hl] using bp, by simpa using bu, ⟨rest, hb2⟩⟩, fun b hb _ => hold b hb, by omega, by omega⟩
    | succ j =>
      have e2 : IntKind.i64.wrap ((j : Int) - 1) = j - 1 := w64 _ (by omega)
      have e3 : ((j : Int) + 1 - 1) = j := by omega
      have hx2 : Own (H1.new 3 1 [.int .i64 j]) 3 1 (n.toNat - (j + 1)) ((frI n.toNat (j + 1)).map (.int .i64)) x := hx.keep rfl (fun b hb => by
        have := hx.lt hw1 hb
        have : b ≠ H1.next := by omega
        simp [this])
      have hap := append_any (bytes := 8) hx2 (src_one (H := H1.new 3 1 [.int .i64 j]) (ety := 3) (v := .int .i64 j) (c := 0) (by simpa using nB) (by simp)) (by omega) (by omega)
      obtain ⟨a, hxa⟩ := hx.len
      have q1 : H.next + 1 ≠ H1.next := by omega
      have q2 : H.next ≠ H1.next := by omega
      have q3 : ¬ blkOf x = some (H.next + 1) := fun h => by have := hxb _ h; omega
      have q4 : ¬ blkOf x = some H.next := fun h => by have := hxb _ h; omega
      have q5 : H.next ≠ H1.next + 1 := by omega
      simp [L18_1, t4, t5, e3, e2, Heap.load, Heap.store, np, bp, q1, q2, q3, blk_drop, zerosA, hap]
      refine ⟨j, Nat.lt_succ_self j, .slice (some ⟨H1.next + 1, 0, none⟩) (n.toNat - j) 0, by omega, by simp [t4], by simp, by simpa using hB, by simp; omega, WF_put (WF_new (WF_drop (WF_new hw1 _ _ _) _) _ _ _) _ _, ?_, ?_, ?_, ?_, ?_⟩
      · simp [bp, q1, q2, q3, blk_drop]; omega
      · simp [bu, q2, q4, q5, blk_drop]
      · rw [frI_step _ _ (show j < n.toNat by omega), List.map_append]
        refine Own.mk ?_ (by simp; omega) (by simp [q2.symm])
        simp [frI_len]; omega
      · intro b hb; simp at hb; omega
      · intro b hb
        have m1 : b ≠ H1.next := by omega
        have m2 : b ≠ H1.next + 1 := by omega
        have m3 : b ≠ H.next + 1 := by omega
        have m4 : ¬ blkOf x = some b := fun h => by have := hxb _ h; omega
        simp [m1, m2, m3, m4, blk_drop, hold b hb]
def SaysB (H : Heap) (f : Value) (p : Nat → Bool) (n : Nat) : Prop := ∀ k, k < n → TV Try.prog f [iv k] H (.bool (p k)) H
def InvS (H : Heap) (f : Value) (p : Nat → Bool) (n : Nat) (k : Nat) (t : Tm) (H1 : Heap) : Prop :=
  ∃ i j : Nat, i + k = j ∧ j ≤ n ∧ t 1 = f ∧ t 5 = iv i ∧ t 6 = iv j ∧ (∀ q, q < i → p q = false) ∧ (∀ q, j ≤ q → q < n → p q = true) ∧ H1 = H
theorem search_T {H : Heap} {f : Value} {p : Nat → Bool} {n : Nat} (hf : SaysB H f p n) (hn : n ≤ 1000000) (mono : ∀ a b, a ≤ b → b < n → p a = true → p b = true) :
    ∃ i : Nat, T Try.prog 35 [iv n, f] H (iv i) H ∧ i ≤ n ∧ (∀ q, q < i → p q = false) ∧ ∀ q, i ≤ q → q < n → p q = true := by
  have : ∃ v H', T Try.prog 35 [iv n, f] H v H' ∧ ∃ i : Nat, v = iv i ∧ H' = H ∧ i ≤ n ∧ (∀ q, q < i → p q = false) ∧ ∀ q, i ≤ q → q < n → p q = true := by
    refine T_by hm light35 ?_
    simp [L35]
    refine loop_at (InvS H f p n) n ?_ ?_
    · exact ⟨0, n, by omega, Nat.le_refl _, by simp, by simp, by simp, fun q hq => absurd hq (by omega), fun q h1 h2 => absurd h1 (by omega), rfl⟩
    · rintro k t H1 ⟨i, j, hij, hjn, t1, t5, t6, hlo, hhi, rfl⟩
      cases k with
      | zero =>
        have e1 : ¬ ((i : Int) < (j : Int)) := by omega
        have : i = j := by omega
        subst this
        simp [L35_1, t5, t6, e1]
        exact ⟨i, rfl, hjn, hlo, hhi⟩
      | succ k =>
        have e1 : ((i : Int) < (j : Int)) := by omega
        obtain ⟨s, hs⟩ : ∃ s : Nat, s = i + j := ⟨_, rfl⟩
        have c1 : IntKind.i64.wrap ((i : Int) + j) = (s : Int) := by rw [w64 _ (by omega)]; omega
        have c2 : IntKind.u64.wrap (s : Int) = (s : Int) := wu64 _ (by omega)
        obtain ⟨h, hh⟩ : ∃ h, h = s / 2 := ⟨_, rfl⟩
        have c3 : sBin .shr (.int .u64 (s : Int)) (.int .u64 1) = some (.int .u64 (h : Int)) := by
          have := shr_nat .u64 .u64 s 1 (by decide)
          rw [hh]; exact this
        have c4 : IntKind.i64.wrap (h : Int) = (h : Int) := by rw [w64 _ (by omega)]
        have hhn : h < n := by omega
        have hT := hf h hhn
        cases hp : p h with
        | true =>
          rw [hp] at hT
          simp [L35_1, t5, t6, e1, c1, c2, c3, c4]
          refine goTV_of (by rw [t1]; exact hT) ?_
          simp
          exact ⟨h - i, by omega, i, h, by omega, by omega, by simp [t1], by simp [t5], by simp, hlo, fun q h1 h2 => mono h q h1 h2 hp, rfl⟩
        | false =>
          rw [hp] at hT
          obtain ⟨h1, hh1⟩ : ∃ h1 : Nat, h1 = h + 1 := ⟨_, rfl⟩
          have c5 : IntKind.i64.wrap ((h : Int) + 1) = (h1 : Int) := by rw [w64 _ (by omega)]; omega
          simp [L35_1, t5, t6, e1, c1, c2, c3, c4]
          refine goTV_of (by rw [t1]; exact hT) ?_
          simp [c5]
          refine ⟨j - h1, by omega, h1, j, by omega, hjn, by simp [t1], by simp, by simp [t6], ?_, hhi, rfl⟩
          intro q hq
          cases hpq : p q with
          | false => rfl
          | true =>
            have := mono q h (by omega) hhn hpq
            rw [hp] at this; cases this
  obtain ⟨v, H', hT, i, rfl, rfl, h⟩ := this
  exact ⟨i, hT, h⟩
end Go.Proofs.Ythclcdboialfnaa
