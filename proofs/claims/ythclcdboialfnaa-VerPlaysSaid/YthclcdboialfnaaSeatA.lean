/-
  Chapter 21: the arena's contracts; a binary search (carried over from chapters 20 and 23). Chapter 21: a store of versions: what stands; where an age stands in a chain. Chapter 21: the older version. Chapter 21: a map of numbers; a row copied within itself.
-/
import Derived.Test.YthclcdboialfnaaOtZr
import Derived.Test.YthclcdboialfnaaOtZ
import Derived.Test.YthclcdboialfnaaSeatL
namespace Go.Proofs.Ythclcdboialfnaa
open Go.Ot Go.RowKit
set_option linter.unusedSimpArgs false
set_option linter.unusedVariables false
abbrev iv (n : Int) : Value := .int .i64 n
theorem hm : Try.prog.follows .mixedOrders = true := by kernel_rfl
abbrev ptr (p : Nat) : Value := .pointer (some ⟨p, 0, none⟩)
abbrev sl (b n : Nat) : Value := .slice (some ⟨b, 0, none⟩) n 0
structure AR (H : Heap) (p fb ub : Nat) (fr : List Int) (us : List Bool) : Prop where
  hp : ¬ p < H.B
  hf : ¬ fb < H.B
  hu : ¬ ub < H.B
  pf : p ≠ fb
  pu : p ≠ ub
  fu : fb ≠ ub
  bp : H.blk p = some ⟨86, 2, [sl fb fr.length, sl ub us.length]⟩
  bu : H.blk ub = some ⟨4, 1, us.map .bool⟩
  bf : ∃ rest, H.blk fb = some ⟨3, 1, fr.map (.int .i64) ++ rest⟩
def usedB (us : List Bool) (i : Int) : Bool := decide (0 ≤ i) && decide (i < us.length) && us.getD i.toNat false
theorem used_T {H : Heap} {p fb ub : Nat} {fr : List Int} {us : List Bool} (h : AR H p fb ub fr us) (i : Int) : T Try.prog 37 [ptr p, .int .i64 i] H (.bool (usedB us i)) H := by
  refine T_eq hm light37 ?_
  by_cases h0 : 0 ≤ i
  · by_cases h1 : i < us.length
    · have h2 : i.toNat < us.length := by omega
      simp [L37, Heap.load, h.hp, h.bp, h.bu, h.hu, h0, h1, usedB, List.getD, h2]
    · simp [L37, Heap.load, h.hp, h.bp, h.bu, h.hu, h0, h1, usedB]
  · simp [L37, Heap.load, h.hp, h.bp, h.bu, h.hu, h0, usedB]
theorem live_T {H : Heap} {p fb ub : Nat} {fr : List Int} {us : List Bool} (h : AR H p fb ub fr us) (hl : us.length < 1000) (hl2 : fr.length < 1000) : T Try.prog 29 [ptr p] H (.int .i64 (us.length - fr.length)) H := by
  refine T_eq hm light29 ?_
  have e : IntKind.i64.wrap (us.length - fr.length) = us.length - fr.length := w64 _ (by omega)
  simp [L29, Heap.load, h.hp, h.bp, h.bu, h.hu, e]
theorem free_T {H : Heap} {p fb ub : Nat} {fr : List Int} {us : List Bool} (h : AR H p fb ub fr us) : T Try.prog 38 [ptr p] H (.int .i64 fr.length) H := by
  refine T_eq hm light38 ?_
  simp [L38, Heap.load, h.hp, h.bp, h.bu, h.hu]
theorem take_none {H : Heap} {p fb ub : Nat} {us : List Bool} (h : AR H p fb ub [] us) : T Try.prog 21 [ptr p] H (.tuple #[.int .i64 0, .int .i64 200]) H := by
  refine T_eq hm light21 ?_
  simp [L21, Heap.load, h.hp, h.bp, h.bu, h.hu]
theorem take_T {H : Heap} {p fb ub : Nat} {fr : List Int} {s : Int} {us : List Bool} (h : AR H p fb ub (fr ++ [s]) us) (hs : 0 ≤ s ∧ s < us.length) (hl2 : fr.length < 1000) :
    ∃ v H', T Try.prog 21 [ptr p] H v H' ∧ v = .tuple #[.int .i64 s, .int .i64 0] ∧ AR H' p fb ub fr (us.set s.toNat true) ∧ Same H H' [p, ub] := by
  refine T_by hm light21 ?_
  obtain ⟨rest, bf⟩ := h.bf
  have e : IntKind.i64.wrap (fr.length : Int) = fr.length := w64 _ (by omega)
  have h2 : s.toNat < us.length := by omega
  simp [L21, Heap.load, Heap.store, h.hp, h.bp, h.bu, h.hu, h.hf, bf, e, h.pf, h.pu, h.fu, h.pf.symm, h.pu.symm, h.fu.symm, hs.1, hs.2, h2]
  refine ⟨by omega, by omega, by omega, ⟨by simp [h.hp], by simp [h.hf], by simp [h.hu], h.pf, h.pu, h.fu, by simp [h.bp, h.pu], by simp [h.bu, h.pu.symm, List.map_set], ⟨.int .i64 s :: rest, by simp [bf, h.pf.symm, h.fu]⟩⟩, ?_⟩
  intro b _ hb
  simp only [List.mem_cons, List.not_mem_nil, or_false, not_or] at hb
  simp [hb.1, hb.2]
theorem back_no {H : Heap} {p fb ub : Nat} {fr : List Int} {us : List Bool} (h : AR H p fb ub fr us) {i : Int} (hi : usedB us i = false) : T Try.prog 22 [ptr p, .int .i64 i] H (.int .i64 201) H := by
  refine T_eq hm light22 ?_
  simp [L22]
  refine goT_of (used_T h i) ?_
  simp [hi]
theorem back_T {H : Heap} (hw : H.WF) {p fb ub : Nat} {fr : List Int} {us : List Bool} (h : AR H p fb ub fr us) (hl : fr.length < 1000) {i : Int} (hi : usedB us i = true) :
    ∃ v H', T Try.prog 22 [ptr p, .int .i64 i] H v H' ∧ v = .int .i64 0 ∧ ∃ fb', H.next ≤ fb' ∧ AR H' p fb' ub (fr ++ [i]) (us.set i.toNat false) ∧ Same H H' [p, fb, ub] := by
  refine T_by hm light22 ?_
  simp [L22]
  refine goT_of (used_T h i) ?_
  obtain ⟨rest, bf⟩ := h.bf
  have hi' := hi
  simp only [usedB, Bool.and_eq_true, decide_eq_true_eq] at hi'
  obtain ⟨⟨h0, h1⟩, _⟩ := hi'
  have h2 : i.toNat < us.length := by omega
  have hpn := hw.lt h.bp
  have hun := hw.lt h.bu
  have hfn := hw.lt bf
  have hnB := hw.next_ge
  have hap := append_one (H := (H.put ub ((us.map Value.bool).set i.toNat (.bool false))).new 3 1 [.int .i64 i]) (ety := 3) (bytes := 8) (b := fb) (off := 0) (n := fr.length) (c := 0) (cells := fr.map (.int .i64) ++ rest) (y := H.next) (v := .int .i64 i)
    (by simp [h.fu, bf, show fb ≠ H.next by omega]) (by simpa using hnB) (by simp) (by omega) (by simp)
  have n1 : p ≠ H.next := by omega
  have n2 : p ≠ H.next + 1 := by omega
  have n3 : ub ≠ H.next := by omega
  have n4 : ub ≠ H.next + 1 := by omega
  have n5 : ¬ H.next + 1 < H.B := by omega
  simp [hi, Heap.load, Heap.store, h.hp, h.bp, h.bu, h.hu, h.hf, h.pf, h.pu, h.fu, h.pf.symm, h.pu.symm, h.fu.symm, h0, h1, h2, zerosA, hap, n1, n2]
  refine ⟨H.next + 1, by omega, ⟨by simp [h.hp], by simpa using n5, by simp [h.hu], n2, h.pu, n4.symm, by simp [h.bp, h.pu, h.pf, n1, n2], by simp [h.bu, h.pu.symm, h.fu.symm, n3, n4, List.map_set], ⟨[], by simp [n2.symm, n4.symm, n5]⟩⟩, ?_⟩
  intro b hb hS
  simp only [List.mem_cons, List.not_mem_nil, or_false, not_or] at hS
  have m1 : b ≠ H.next := by omega
  have m2 : b ≠ H.next + 1 := by omega
  simp [hS.1, hS.2.1, hS.2.2, m1, m2]
def frI (slots i : Nat) : List Int := ((List.range' i (slots - i)).reverse).map (fun (n : Nat) => (n : Int))
theorem frI_len (slots i : Nat) : (frI slots i).length = slots - i := by simp [frI]
theorem frI_step (slots i : Nat) (h : i < slots) : frI slots i = frI slots (i + 1) ++ [(i : Int)] := by
  unfold frI
  rw [show slots - i = (slots - (i + 1)) + 1 by omega, List.range'_succ]
  simp
theorem new_bad {H : Heap} {n : Int} (hn : n < 1 ∨ 512 < n) : T Try.prog 18 [.int .i64 n] H (.tuple #[.pointer none, .int .i64 161]) H := by
  refine T_eq hm light18 ?_
  by_cases h1 : n < 1
  · simp [L18, h1]
  · have h2 : 512 < n := by omega
    simp [L18, h1, h2]
def InvN (H : Heap) (slots p ub : Nat) (i : Nat) (t : Tm) (H1 : Heap) : Prop :=
  ∃ x, i ≤ slots ∧ t 4 = ptr p ∧ t 5 = .int .i64 ((i : Int) - 1) ∧ H1.B = H.B ∧ H.next + 2 ≤ H1.next ∧ H1.WF ∧ H1.blk p = some ⟨86, 2, [x, sl ub slots]⟩ ∧ H1.blk ub = some ⟨4, 1, List.replicate slots (.bool false)⟩ ∧
    Own H1 3 1 (slots - i) ((frI slots i).map (.int .i64)) x ∧ (∀ b, blkOf x = some b → H.next + 2 ≤ b) ∧ ∀ b, b < H.next → H1.blk b = H.blk b
theorem new_T {H : Heap} (hw : H.WF) {n : Int} (hn : 1 ≤ n ∧ n ≤ 512) :
    ∃ v H', T Try.prog 18 [.int .i64 n] H v H' ∧ ∃ p fb ub, v = .tuple #[ptr p, .int .i64 0] ∧ AR H' p fb ub (frI n.toNat 0) (List.replicate n.toNat false) ∧ Same H H' [] ∧ H.next ≤ p ∧ H.next ≤ fb ∧ H.next ≤ ub := by
  refine T_by hm light18 ?_
  have h1 : ¬ n < 1 := by omega
  have h2 : ¬ 512 < n := by omega
  have h3 : 0 ≤ n := by omega
  have hnB := hw.next_ge
  have e1 : IntKind.i64.wrap (n - 1) = n - 1 := w64 _ (by omega)
  have h5 : n ≤ 9223372036854775807 := by omega
  have h6 : n ≤ 140737488355328 := by omega
  simp [L18, h1, h2, sMake, h3, h5, h6, e1]
  refine loop_at (InvN H n.toNat (H.next + 1) H.next) n.toNat ?_ ?_
  · refine ⟨.slice none 0 0, Nat.le_refl _, by simp, by simp; omega, by simp, by simp, WF_new (WF_new hw _ _ _) _ _ _, by simp, by simp [zerosA_one], ?_, by simp, ?_⟩
    · have : frI n.toNat n.toNat = [] := by simp [frI]
      rw [this, Nat.sub_self]; exact Own.nil _ _ _
    · intro b hb
      have m1 : b ≠ H.next := by omega
      have m2 : b ≠ H.next + 1 := by omega
      simp [m1, m2]
  · rintro i t H1 ⟨x, hle, t4, t5, hB, hnx, hw1, bp, bu, hx, hxb, hold⟩
    have np : ¬ H.next + 1 < H1.B := by rw [hB]; omega
    have nB := hw1.next_ge
    cases i with
    | zero =>
      simp [L18_1, t4, t5]
      have hl : (frI n.toNat 0).length = n.toNat := by simp [frI_len]
      rcases hx.2 with ⟨_, h0⟩ | ⟨b, rest, rfl, hb1, hb2⟩
      · omega
      · have hbn := hxb b rfl
        refine ⟨b, H.next, ⟨np, hb1, by rw [hB]; exact hnB, by omega, by omega, by omega, by simpa [hl] using bp, by simpa using bu, ⟨rest, hb2⟩⟩, fun b hb _ => hold b hb, by omega, by omega⟩
    | succ j =>
      have e2 : IntKind.i64.wrap ((j : Int) - 1) = j - 1 := w64 _ (by omega)
      have e3 : ((j : Int) + 1 - 1) = j := by omega
      have hx2 : Own (H1.new 3 1 [.int .i64 j]) 3 1 (n.toNat - (j + 1)) ((frI n.toNat (j + 1)).map (.int .i64)) x := hx.keep rfl (fun b hb => by
        have := hx.lt hw1 hb
        have : b ≠ H1.next := by omega
        simp [this])
      have hap := append_any (bytes := 8) hx2 (src_one (H := H1.new 3 1 [.int .i64 j]) (ety := 3) (v := .int .i64 j) (c := 0) (by simpa using nB) (by simp)) (by omega) (by omega)
      obtain ⟨a, hxa⟩ := hx.len
      have q1 : H.next + 1 ≠ H1.next := by omega
      have q2 : H.next ≠ H1.next := by omega
      have q3 : ¬ blkOf x = some (H.next + 1) := fun h => by have := hxb _ h; omega
      have q4 : ¬ blkOf x = some H.next := fun h => by have := hxb _ h; omega
      have q5 : H.next ≠ H1.next + 1 := by omega
      simp [L18_1, t4, t5, e3, e2, Heap.load, Heap.store, np, bp, q1, q2, q3, blk_drop, zerosA, hap]
      refine ⟨j, Nat.lt_succ_self j, .slice (some ⟨H1.next + 1, 0, none⟩) (n.toNat - j) 0, by omega, by simp [t4], by simp, by simpa using hB, by simp; omega, WF_put (WF_new (WF_drop (WF_new hw1 _ _ _) _) _ _ _) _ _, ?_, ?_, ?_, ?_, ?_⟩
      · simp [bp, q1, q2, q3, blk_drop]; omega
      · simp [bu, q2, q4, q5, blk_drop]
      · rw [frI_step _ _ (show j < n.toNat by omega), List.map_append]
        refine Own.mk ?_ (by simp; omega) (by simp [q2.symm])
        simp [frI_len]; omega
      · intro b hb; simp at hb; omega
      · intro b hb
        have m1 : b ≠ H1.next := by omega
        have m2 : b ≠ H1.next + 1 := by omega
        have m3 : b ≠ H.next + 1 := by omega
        have m4 : ¬ blkOf x = some b := fun h => by have := hxb _ h; omega
        simp [m1, m2, m3, m4, blk_drop, hold b hb]
def SaysB (H : Heap) (f : Value) (p : Nat → Bool) (n : Nat) : Prop := ∀ k, k < n → TV Try.prog f [iv k] H (.bool (p k)) H
def InvS (H : Heap) (f : Value) (p : Nat → Bool) (n : Nat) (k : Nat) (t : Tm) (H1 : Heap) : Prop :=
  ∃ i j : Nat, i + k = j ∧ j ≤ n ∧ t 1 = f ∧ t 5 = iv i ∧ t 6 = iv j ∧ (∀ q, q < i → p q = false) ∧ (∀ q, j ≤ q → q < n → p q = true) ∧ H1 = H
theorem search_T {H : Heap} {f : Value} {p : Nat → Bool} {n : Nat} (hf : SaysB H f p n) (hn : n ≤ 1000000) (mono : ∀ a b, a ≤ b → b < n → p a = true → p b = true) :
    ∃ i : Nat, T Try.prog 35 [iv n, f] H (iv i) H ∧ i ≤ n ∧ (∀ q, q < i → p q = false) ∧ ∀ q, i ≤ q → q < n → p q = true := by
  have : ∃ v H', T Try.prog 35 [iv n, f] H v H' ∧ ∃ i : Nat, v = iv i ∧ H' = H ∧ i ≤ n ∧ (∀ q, q < i → p q = false) ∧ ∀ q, i ≤ q → q < n → p q = true := by
    refine T_by hm light35 ?_
    simp [L35]
    refine loop_at (InvS H f p n) n ?_ ?_
    · exact ⟨0, n, by omega, Nat.le_refl _, by simp, by simp, by simp, fun q hq => absurd hq (by omega), fun q h1 h2 => absurd h1 (by omega), rfl⟩
    · rintro k t H1 ⟨i, j, hij, hjn, t1, t5, t6, hlo, hhi, rfl⟩
      cases k with
      | zero =>
        have e1 : ¬ ((i : Int) < (j : Int)) := by omega
        have : i = j := by omega
        subst this
        simp [L35_1, t5, t6, e1]
        exact ⟨i, rfl, hjn, hlo, hhi⟩
      | succ k =>
        have e1 : ((i : Int) < (j : Int)) := by omega
        obtain ⟨s, hs⟩ : ∃ s : Nat, s = i + j := ⟨_, rfl⟩
        have c1 : IntKind.i64.wrap ((i : Int) + j) = (s : Int) := by rw [w64 _ (by omega)]; omega
        have c2 : IntKind.u64.wrap (s : Int) = (s : Int) := wu64 _ (by omega)
        obtain ⟨h, hh⟩ : ∃ h, h = s / 2 := ⟨_, rfl⟩
        have c3 : sBin .shr (.int .u64 (s : Int)) (.int .u64 1) = some (.int .u64 (h : Int)) := by
          have := shr_nat .u64 .u64 s 1 (by decide)
          rw [hh]; exact this
        have c4 : IntKind.i64.wrap (h : Int) = (h : Int) := by rw [w64 _ (by omega)]
        have hhn : h < n := by omega
        have hT := hf h hhn
        cases hp : p h with
        | true =>
          rw [hp] at hT
          simp [L35_1, t5, t6, e1, c1, c2, c3, c4]
          refine goTV_of (by rw [t1]; exact hT) ?_
          simp
          exact ⟨h - i, by omega, i, h, by omega, by omega, by simp [t1], by simp [t5], by simp, hlo, fun q h1 h2 => mono h q h1 h2 hp, rfl⟩
        | false =>
          rw [hp] at hT
          obtain ⟨h1, hh1⟩ : ∃ h1 : Nat, h1 = h + 1 := ⟨_, rfl⟩
          have c5 : IntKind.i64.wrap ((h : Int) + 1) = (h1 : Int) := by rw [w64 _ (by omega)]; omega
          simp [L35_1, t5, t6, e1, c1, c2, c3, c4]
          refine goTV_of (by rw [t1]; exact hT) ?_
          simp [c5]
          refine ⟨j - h1, by omega, h1, j, by omega, hjn, by simp [t1], by simp, by simp [t6], ?_, hhi, rfl⟩
          intro q hq
          cases hpq : p q with
          | false => rfl
          | true =>
            have := mono q h (by omega) hhn hpq
            rw [hp] at this; cases this
  obtain ⟨v, H', hT, i, rfl, rfl, h⟩ := this
  exact ⟨i, hT, h⟩
end Go.Proofs.Ythclcdboialfnaa
namespace Go.Proofs.Ythclcdboialfnaa
open Go.Ot Go.RowKit
set_option linter.unusedSimpArgs false
set_option linter.unusedVariables false
/-! ### what stands -/
structure On (H H1 : Heap) : Prop where
  wf : H1.WF
  base : H1.base = H.base
  next : H.next ≤ H1.next
  keep : ∀ b, b < H.next → H1.blk b = H.blk b
theorem On.refl {H : Heap} (hw : H.WF) : On H H := ⟨hw, rfl, Nat.le_refl _, fun _ _ => rfl⟩
theorem On.trans {H H1 H2 : Heap} (a : On H H1) (b : On H1 H2) : On H H2 := ⟨b.wf, b.base.trans a.base, Nat.le_trans a.next b.next, fun c hc => by rw [b.keep c (Nat.lt_of_lt_of_le hc a.next), a.keep c hc]⟩
theorem On.new {H H1 : Heap} (a : On H H1) (ty sz : Nat) (c : List Value) : On H (H1.new ty sz c) :=
  ⟨WF_new a.wf _ _ _, a.base, Nat.le_trans a.next (by simp), fun b hb => by have := a.next; simp [show b ≠ H1.next by omega, a.keep b hb]⟩
theorem On.put {H H1 : Heap} (a : On H H1) {p : Nat} (hp : H.next ≤ p) (c : List Value) : On H (H1.put p c) :=
  ⟨WF_put a.wf _ _, a.base, a.next, fun b hb => by simp [show b ≠ p by omega, a.keep b hb]⟩
/-- All stands but one block. -/
structure Fr (H H1 : Heap) (p : Nat) : Prop where
  wf : H1.WF
  base : H1.base = H.base
  next : H.next ≤ H1.next
  keep : ∀ b, b < H.next → b ≠ p → H1.blk b = H.blk b
theorem Fr.refl {H : Heap} (hw : H.WF) (p : Nat) : Fr H H p := ⟨hw, rfl, Nat.le_refl _, fun _ _ _ => rfl⟩
theorem Fr.trans {H H1 H2 : Heap} {p : Nat} (a : Fr H H1 p) (b : Fr H1 H2 p) : Fr H H2 p := ⟨b.wf, b.base.trans a.base, Nat.le_trans a.next b.next, fun c hc hp => by rw [b.keep c (Nat.lt_of_lt_of_le hc a.next) hp, a.keep c hc hp]⟩
theorem On.fr {H H1 : Heap} (a : On H H1) (p : Nat) : Fr H H1 p := ⟨a.wf, a.base, a.next, fun c hc _ => a.keep c hc⟩
theorem Fr.put {H H1 : Heap} {p : Nat} (a : Fr H H1 p) (c : List Value) : Fr H (H1.put p c) p := ⟨WF_put a.wf _ _, a.base, a.next, fun b hb hp => by simp [hp, a.keep b hb hp]⟩
theorem Fr.new {H H1 : Heap} {p : Nat} (a : Fr H H1 p) (ty sz : Nat) (c : List Value) : Fr H (H1.new ty sz c) p :=
  ⟨WF_new a.wf _ _ _, a.base, Nat.le_trans a.next (by simp), fun b hb hp => by have := a.next; simp [show b ≠ H1.next by omega, a.keep b hb hp]⟩
/-- A variable. -/
structure Vr (G : Heap) (q ty n : Nat) (cs : List Value) : Prop where
  hq : ¬ q < G.B
  bq : G.blk q = some ⟨ty, n, cs⟩
  hn : 0 < n
theorem Vr.mk' {G : Heap} (hw : G.WF) (ty n : Nat) (cs : List Value) (hn : 0 < n := by decide) : Vr (G.new ty n cs) G.next ty n cs := ⟨by simpa using hw.next_ge, by simp, hn⟩
theorem Vr.new {G : Heap} (hw : G.WF) {q ty n : Nat} {cs : List Value} (h : Vr G q ty n cs) (ty' sz : Nat) (c : List Value) : Vr (G.new ty' sz c) q ty n cs :=
  ⟨by simpa using h.hq, by have := hw.lt h.bq; simp [show q ≠ G.next by omega, h.bq], h.hn⟩
theorem Vr.beside {G : Heap} {q ty n : Nat} {cs : List Value} (h : Vr G q ty n cs) {r : Nat} (hr : q ≠ r) (c : List Value) : Vr (G.put r c) q ty n cs := ⟨by simpa using h.hq, by simp [hr, h.bq], h.hn⟩
theorem Vr.put {G : Heap} {q ty n : Nat} {cs : List Value} (h : Vr G q ty n cs) (c : List Value) : Vr (G.put q c) q ty n c := ⟨by simpa using h.hq, by simp [h.bq], h.hn⟩
theorem Vr.keep {G G' : Heap} {q ty n : Nat} {cs : List Value} (h : Vr G q ty n cs) (hb : G'.base = G.base) (hk : G'.blk q = G.blk q) : Vr G' q ty n cs := ⟨by rw [B_eq hb]; exact h.hq, by rw [hk]; exact h.bq, h.hn⟩
theorem Vr.on {G G' : Heap} (hw : G.WF) {q ty n : Nat} {cs : List Value} (h : Vr G q ty n cs) (o : On G G') : Vr G' q ty n cs := h.keep o.base (o.keep _ (hw.lt h.bq))
theorem Vr.fr {G G' : Heap} {p : Nat} (hw : G.WF) {q ty n : Nat} {cs : List Value} (h : Vr G q ty n cs) (hp : q ≠ p) (o : Fr G G' p) : Vr G' q ty n cs := h.keep o.base (o.keep _ (hw.lt h.bq) hp)
theorem Vr.load {G : Heap} {q ty n : Nat} {cs : List Value} (h : Vr G q ty n cs) (j : Nat) : G.load ⟨q, j, none⟩ = cs[j]? := load_at h.hq h.bq h.hn
theorem Vr.store {G : Heap} {q ty n : Nat} {cs : List Value} (h : Vr G q ty n cs) (j : Nat) (v : Value) (hj : j < cs.length) : G.store ⟨q, j, none⟩ v = some (G.put q (cs.set j v)) := by
  rw [store_own h.hq h.bq h.hn, if_pos (by simpa using hj)]
theorem Vr.loadA {G : Heap} {q ty n m : Nat} {cs : List Value} (h : Vr G q ty n cs) (hm : cs.length = m) : G.loadN ⟨q, 0, none⟩ 0 m = some cs := by
  rw [loadN_at h.hq h.bq (by simp; omega) h.hn]
  simp [← hm]
theorem Vr.storeA {G : Heap} {q ty n : Nat} {cs : List Value} (h : Vr G q ty n cs) {m : Nat} (hm : 0 < m) (row : List Value) (hr : row.length = m) (hc : cs.length = m) : sStore G m (ptr q) (.agg row.toArray) = some (G.put q row) := by
  rw [sStore_agg _ _ _ _ hr hm, storeN_at h.hq h.bq (by simp; omega) h.hn]
  simp [hr]
  rw [List.drop_of_length_le (by omega), List.append_nil]
theorem Vr.same {G : Heap} {q ty n : Nat} {cs : List Value} (h : Vr G q ty n cs) : G.put q cs = G := put_self h.bq
/-- A new row, and nothing else. -/
structure Row (H H1 : Heap) (ety sz n : Nat) (cells : List Value) (y : Value) : Prop where
  own : Own H1 ety sz n cells y
  on : On H H1
  new : ∀ b, blkOf y = some b → H.next ≤ b
theorem Row.nil {H : Heap} (hw : H.WF) (ety sz : Nat) : Row H H ety sz 0 [] (.slice none 0 0) := ⟨Own.nil _ _ _, On.refl hw, fun b hb => (by cases hb)⟩
theorem Own.on {H H1 : Heap} (hw : H.WF) {ety sz n : Nat} {cells : List Value} {y : Value} (h : Own H ety sz n cells y) (o : On H H1) : Own H1 ety sz n cells y := h.keep (B_eq o.base) (fun b hb => o.keep b (h.lt hw hb))
theorem Own.fr {H H1 : Heap} {p : Nat} (hw : H.WF) {ety sz n : Nat} {cells : List Value} {y : Value} (h : Own H ety sz n cells y) (hp : blkOf y ≠ some p) (o : Fr H H1 p) : Own H1 ety sz n cells y := h.keep (B_eq o.base) (fun b hb => o.keep b (h.lt hw hb) (fun e => hp (by rw [hb, e])))
/-! ### the store -/
abbrev Lk := Int × Int
def lk (l : List Lk) : List Value := (l.map fun q => [iv q.1, iv q.2]).flatten
theorem lk_len (l : List Lk) : (lk l).length = l.length * 2 := by
  induction l with
  | nil => rfl
  | cons a l ih => simp [lk] at ih ⊢; omega
theorem lk_append (a b : List Lk) : lk (a ++ b) = lk a ++ lk b := by simp [lk]
theorem lk_get (l : List Lk) {i : Nat} (hi : i < l.length) : (lk l)[i * 2]? = some (iv l[i].1) ∧ (lk l)[i * 2 + 1]? = some (iv l[i].2) := by
  have hs : ∀ r ∈ l.map (fun q => [iv q.1, iv q.2]), r.length = 2 := by
    intro r hr; obtain ⟨q, _, rfl⟩ := List.mem_map.1 hr; rfl
  have h0 := flatten_get hs (i := i) (by simpa using hi) (j := 0) (by simp)
  have h1 := flatten_get hs (i := i) (by simpa using hi) (j := 1) (by simp)
  simp only [List.getElem_map, Nat.add_zero] at h0 h1
  exact ⟨h0, h1⟩
/-- A chain. -/
def Chn (H : Heap) (x : Value) (l : List Lk) : Prop :=
  (x = .slice none 0 0 ∧ l = []) ∨ ∃ b c rest, x = .slice (some ⟨b, 0, none⟩) l.length c ∧ (c = 0 ∨ c = 1) ∧ ¬ b < H.B ∧ H.blk b = some ⟨65, 2, lk l ++ rest⟩
theorem Chn.len {H : Heap} {x : Value} {l : List Lk} (h : Chn H x l) : ∃ a c, x = .slice a l.length c := by
  rcases h with ⟨rfl, rfl⟩ | ⟨b, c, rest, rfl, _⟩ <;> exact ⟨_, _, rfl⟩
theorem Chn.get {H : Heap} {x : Value} {l : List Lk} (h : Chn H x l) {i : Nat} (hi : i < l.length) : ∃ b c, x = .slice (some ⟨b, 0, none⟩) l.length c ∧ H.load ⟨b, 0 + i * 2, none⟩ = some (iv l[i].1) ∧ H.load ⟨b, 0 + i * 2 + 1, none⟩ = some (iv l[i].2) ∧ H.loadN ⟨b, 0 + i * 2, none⟩ 0 2 = some [iv l[i].1, iv l[i].2] := by
  rcases h with ⟨rfl, rfl⟩ | ⟨b, c, rest, rfl, _, hB, hk⟩
  · simp at hi
  · obtain ⟨g0, g1⟩ := lk_get l hi
    have hl := lk_len l
    have l0 : H.load ⟨b, 0 + i * 2, none⟩ = some (iv l[i].1) := by
      rw [load_at hB hk]
      simp only [Nat.zero_add]
      rw [List.getElem?_append_left (by omega), g0]
    have l1 : H.load ⟨b, 0 + i * 2 + 1, none⟩ = some (iv l[i].2) := by
      rw [load_at hB hk]
      simp only [Nat.zero_add]
      rw [List.getElem?_append_left (by omega), g1]
    refine ⟨b, c, rfl, l0, l1, ?_⟩
    have := loadN_cells (H := H) (b := b) (off := 0 + i * 2) (l := [iv l[i].1, iv l[i].2]) (i := 0) (fun j hj => by
      have hj2 : j < 2 := by simpa using hj
      rcases j with - | - | j
      · exact l0
      · exact l1
      · omega)
    simpa using this
theorem Chn.keep {H H' : Heap} {x : Value} {l : List Lk} (h : Chn H x l) (hB : H'.B = H.B) (hk : ∀ b, blkOf x = some b → H'.blk b = H.blk b) : Chn H' x l := by
  rcases h with h | ⟨b, c, rest, rfl, hc, h1, h2⟩
  · exact .inl h
  · exact .inr ⟨b, c, rest, rfl, hc, by rw [hB]; exact h1, by rw [hk b rfl]; exact h2⟩
theorem Chn.lt {H : Heap} (hw : H.WF) {x : Value} {l : List Lk} (h : Chn H x l) {b : Nat} (hb : blkOf x = some b) : b < H.next := by
  rcases h with ⟨rfl, _⟩ | ⟨c, k, rest, rfl, _, _, h2⟩
  · cases hb
  · cases hb; exact hw.lt h2
/-- A map of numbers, whose numbers these are (0: it isn't there, or 0). -/
structure MapW (es : List MEnt) (mc : Int → Int) (c : Nat) : Prop where
  kv : ∀ e ∈ es, ∃ k, e.key = iv k ∧ e.val = iv (mc k)
  nd : es.Pairwise fun a b => a.key ≠ b.key
  has : ∀ k, mc k ≠ 0 → ∃ e ∈ es, e.key = iv k
  bn : es.Pairwise fun a b => a.born ≠ b.born
  bl : ∀ e ∈ es, e.born < c
/-- No entry is 0. -/
def Cln (es : List MEnt) (mc : Int → Int) : Prop := ∀ e ∈ es, ∀ k, e.key = iv k → mc k ≠ 0
def upd (mc : Int → Int) (k v : Int) (g : Int) : Int := if g = k then v else mc g
structure SD where
  pa : Nat
  fb : Nat
  ub : Nat
  vb : Nat
  cb : Nat
  mb : Nat
  fr : List Int
  us : List Bool
  vals : List Int
  xs : List Value
  ch : List (List Lk)
  mc : Int → Int
structure ST (H : Heap) (p : Nat) (D : SD) : Prop where
  hp : ¬ p < H.B
  bp : H.blk p = some ⟨60, 4, [ptr D.pa, sl D.vb D.vals.length, sl D.cb D.xs.length, .map (some D.mb)]⟩
  ar : AR H D.pa D.fb D.ub D.fr D.us
  hv : ¬ D.vb < H.B
  bv : H.blk D.vb = some ⟨2, 1, D.vals.map iv⟩
  hc : ¬ D.cb < H.B
  bc : H.blk D.cb = some ⟨66, 1, D.xs⟩
  hm : ¬ D.mb < H.B
  mp : ∃ c es, H.blk D.mb = some ⟨0, 0, mcells c es⟩ ∧ MapW es D.mc c ∧ Cln es D.mc
  len : D.xs.length = D.ch.length
  cn : ∀ i (h : i < D.xs.length) (h' : i < D.ch.length), Chn H D.xs[i] D.ch[i]
  apart : ∀ i j (hi : i < D.xs.length) (hj : j < D.xs.length) b, i ≠ j → blkOf D.xs[i] = some b → blkOf D.xs[j] ≠ some b
theorem AR.keep {H H' : Heap} {p fb ub : Nat} {fr : List Int} {us : List Bool} (h : AR H p fb ub fr us) (hB : H'.B = H.B) (h1 : H'.blk p = H.blk p) (h2 : H'.blk fb = H.blk fb) (h3 : H'.blk ub = H.blk ub) : AR H' p fb ub fr us :=
  ⟨by rw [hB]; exact h.hp, by rw [hB]; exact h.hf, by rw [hB]; exact h.hu, h.pf, h.pu, h.fu, by rw [h1]; exact h.bp, by rw [h3]; exact h.bu, by rw [h2]; exact h.bf⟩
theorem AR.ltf {H : Heap} (hw : H.WF) {p fb ub : Nat} {fr : List Int} {us : List Bool} (h : AR H p fb ub fr us) : fb < H.next := by obtain ⟨r, hr⟩ := h.bf; exact hw.lt hr
theorem ST.on {H H1 : Heap} (hw : H.WF) {p : Nat} {D : SD} (h : ST H p D) (o : On H H1) : ST H1 p D := by
  have hB := B_eq o.base
  obtain ⟨c, es, hmk, hmi⟩ := h.mp
  refine ⟨by rw [hB]; exact h.hp, by rw [o.keep p (hw.lt h.bp)]; exact h.bp, h.ar.keep hB (o.keep _ (hw.lt h.ar.bp)) (o.keep _ (h.ar.ltf hw)) (o.keep _ (hw.lt h.ar.bu)), by rw [hB]; exact h.hv, by rw [o.keep _ (hw.lt h.bv)]; exact h.bv, by rw [hB]; exact h.hc, by rw [o.keep _ (hw.lt h.bc)]; exact h.bc, by rw [hB]; exact h.hm, ⟨c, es, by rw [o.keep _ (hw.lt hmk)]; exact hmk, hmi⟩, h.len, fun i h1 h2 => (h.cn i h1 h2).keep hB (fun b hb => o.keep b ((h.cn i h1 h2).lt hw hb)), h.apart⟩
section
variable {H : Heap} {p : Nat} {D : SD} (h : ST H p D)
include h
theorem ST.l0 : H.load ⟨p, 0, none⟩ = some (ptr D.pa) := by rw [load_at h.hp h.bp]; rfl
theorem ST.l1 : H.load ⟨p, 1, none⟩ = some (sl D.vb D.vals.length) := by rw [load_at h.hp h.bp]; rfl
theorem ST.l2 : H.load ⟨p, 2, none⟩ = some (sl D.cb D.xs.length) := by rw [load_at h.hp h.bp]; rfl
theorem ST.l3 : H.load ⟨p, 3, none⟩ = some (.map (some D.mb)) := by rw [load_at h.hp h.bp]; rfl
theorem ST.lc {i : Nat} (hi : i < D.xs.length) : H.load ⟨D.cb, i, none⟩ = some D.xs[i] := by rw [load_at h.hc h.bc]; simp [hi]
theorem ST.lv {i : Nat} (hi : i < D.vals.length) : H.load ⟨D.vb, i, none⟩ = some (iv D.vals[i]) := by rw [load_at h.hv h.bv]; simp [hi]
end
def inV (D : SD) (at_ : Int) : Bool := decide (0 ≤ at_) && decide (at_ < D.xs.length)
theorem inside_T {H : Heap} {p : Nat} {D : SD} (h : ST H p D) (a : Int) : T Try.prog 19 [ptr p, iv a] H (.bool (inV D a)) H := by
  refine T_eq hm light19 ?_
  by_cases h0 : 0 ≤ a
  · simp [L19, h0, h.l2, inV]
  · simp [L19, h0, inV]
def Rise (l : List Lk) : Prop := l.Pairwise fun a b => a.1 < b.1
structure PlaceV (l : List Lk) (age : Int) (i : Nat) : Prop where
  le : i ≤ l.length
  lo : ∀ q (h : q < l.length), q < i → l[q].1 < age
  hi : ∀ q (h : q < l.length), i ≤ q → age ≤ l[q].1
def isAt (l : List Lk) (i : Nat) (age : Int) : Bool := match l[i]? with | some q => decide (q.1 = age) | none => false
theorem less_T {H : Heap} {x : Value} {l : List Lk} (hx : Chn H x l) {pc pg : Nat} {age : Int} (a1 : H.load ⟨pc, 0, none⟩ = some x) (a2 : H.load ⟨pg, 0, none⟩ = some (iv age)) {k : Nat} (hk : k < l.length) :
    T Try.prog 36 [iv k, ptr pc, ptr pg] H (.bool (decide (age ≤ l[k].1))) H := by
  obtain ⟨b, c, hxb, l0, _, _⟩ := hx.get hk
  rw [hxb] at a1
  have hkI : (k : Int) < (l.length : Int) := by omega
  refine T_eq hm light36 ?_
  simp only [Nat.zero_add] at l0
  simp [L36, a1, a2, hk, hkI, l0]
theorem place_T {H : Heap} (hw : H.WF) {p : Nat} {D : SD} (h : ST H p D) {a : Nat} (ha : a < D.xs.length) (ha' : a < D.ch.length) (hr : Rise D.ch[a]) (hl : D.ch[a].length ≤ 100000) (age : Int) :
    ∃ i : Nat, PlaceV D.ch[a] age i ∧ T Try.prog 20 [ptr p, iv a, iv age] H (.tuple #[iv i, .bool (isAt D.ch[a] i age)]) H := by
  have : ∃ v H', T Try.prog 20 [ptr p, iv a, iv age] H v H' ∧ (∃ i : Nat, PlaceV D.ch[a] age i ∧ v = .tuple #[iv i, .bool (isAt D.ch[a] i age)]) ∧ ∀ b, b < H.next → H'.blk b = H.blk b := by
    refine T_by hm light20 ?_
    obtain ⟨HA, hHA⟩ : ∃ HA, HA = H.new 3 1 [iv age] := ⟨_, rfl⟩
    have onA : On H HA := by rw [hHA]; exact (On.refl hw).new _ _ _
    have nA : HA.next = H.next + 1 := by rw [hHA]; simp
    have vA : Vr HA H.next 3 1 [iv age] := by rw [hHA]; exact Vr.mk' hw _ _ _
    have sA := h.on hw onA
    obtain ⟨l, hlD⟩ : ∃ l, l = D.ch[a] := ⟨_, rfl⟩
    obtain ⟨x, hxD⟩ : ∃ x, x = D.xs[a] := ⟨_, rfl⟩
    have cnA : Chn HA x l := by rw [hlD, hxD]; exact sA.cn a ha ha'
    rw [← hlD] at hr hl ⊢
    have haI : (a : Int) < (D.xs.length : Int) := by omega
    have lc := sA.lc ha
    rw [← hxD] at lc
    obtain ⟨HB, hHB⟩ : ∃ HB, HB = HA.new 66 1 [x] := ⟨_, rfl⟩
    have onB : On HA HB := by rw [hHB]; exact (On.refl onA.wf).new _ _ _
    have vB : Vr HB HA.next 66 1 [x] := by rw [hHB]; exact Vr.mk' onA.wf _ _ _
    have vA2 : Vr HB H.next 3 1 [iv age] := vA.on onA.wf onB
    have on := onA.trans onB
    have cnB : Chn HB x l := cnA.keep (B_eq onB.base) (fun b hb => onB.keep b (cnA.lt onA.wf hb))
    obtain ⟨ax, cx, hx⟩ := cnB.len
    have a1 : HB.load ⟨HA.next, 0, none⟩ = some x := vB.load 0
    have a2 : HB.load ⟨H.next, 0, none⟩ = some (iv age) := vA2.load 0
    obtain ⟨pr, hpr⟩ : ∃ pr : Nat → Bool, pr = fun k => decide (age ≤ (l.getD k (0, 0)).1) := ⟨_, rfl⟩
    have hS : SaysB HB (.func (.func 36) #[] #[ptr HA.next, ptr H.next]) pr l.length := by
      intro k hk
      refine ⟨36, #[], _, rfl, ⟨Try.f36, Try.func36, rfl, by kernel_rfl⟩, ?_⟩
      have := less_T cnB a1 a2 hk
      rw [hpr]
      simp only [List.getD, List.getElem?_eq_getElem hk, Option.getD_some]
      exact this
    have mono : ∀ u v, u ≤ v → v < l.length → pr u = true → pr v = true := by
      intro u v huv hv hu
      rw [hpr] at hu ⊢
      have hul : u < l.length := by omega
      simp only [List.getD, List.getElem?_eq_getElem hul, List.getElem?_eq_getElem hv, Option.getD_some, decide_eq_true_eq] at hu ⊢
      by_cases he : u = v
      · subst he; exact hu
      · have := List.pairwise_iff_getElem.1 hr u v hul hv (by omega)
        omega
    obtain ⟨i, hT, hil, hlo, hhi⟩ := search_T hS (by omega) mono
    have hP : PlaceV l age i := ⟨hil, fun q hq hqi => by
      have := hlo q hqi
      rw [hpr] at this
      simp only [List.getD, List.getElem?_eq_getElem hq, Option.getD_some, decide_eq_false_iff_not] at this
      omega, fun q hq hqi => by
      have := hhi q hqi hq
      rw [hpr] at this
      simpa only [List.getD, List.getElem?_eq_getElem hq, Option.getD_some, decide_eq_true_eq] using this⟩
    have keep := on.keep
    have l2 := sA.l2
    have st : sStore (HA.new 66 1 [.slice none 0 0]) 1 (ptr HA.next) x = some HB := by
      have V0 : Vr (HA.new 66 1 [.slice none 0 0]) HA.next 66 1 [.slice none 0 0] := Vr.mk' onA.wf _ _ _
      have := V0.store 0 x (by simp)
      rw [hx] at this ⊢
      rw [sStore_slice, this, hHB, new_put, ← hx]
      rfl
    rw [nA] at st
    rw [nA] at a1 hT
    rw [hx] at a1
    simp [L20, ← hHA, nA, l2, ha, haI, lc, st, a1]
    refine ⟨⟨rfl, rfl⟩, ?_⟩
    refine goT_of hT ?_
    by_cases hil2 : i < l.length
    · have hiI : (i : Int) < (l.length : Int) := by omega
      obtain ⟨b, c, hxb, ld0, _, _⟩ := cnB.get hil2
      simp only [Nat.zero_add] at ld0
      rw [hx] at hxb
      simp only [Value.slice.injEq] at hxb
      obtain ⟨rfl, _, rfl⟩ := hxb
      have hat : isAt l i age = decide (l[i].1 = age) := by unfold isAt; rw [List.getElem?_eq_getElem hil2]
      have hbe : (l[i].1 == age) = decide (l[i].1 = age) := by rw [Bool.eq_iff_iff]; simp
      simp [a1, hil2, hiI, ld0, a2, hbe]
      exact ⟨⟨i, hP, rfl, by rw [hat]⟩, keep⟩
    · have hiI : ¬ (i : Int) < (l.length : Int) := by omega
      have hat : isAt l i age = false := by unfold isAt; rw [List.getElem?_eq_none (by omega)]
      simp [a1, hil2, hiI]
      exact ⟨⟨i, hP, rfl, by rw [hat]⟩, keep⟩
  obtain ⟨v, H', hT, ⟨i, hi, rfl⟩, hk⟩ := this
  exact ⟨i, hi, T_forget hT hk rfl⟩
end Go.Proofs.Ythclcdboialfnaa
namespace Go.Proofs.Ythclcdboialfnaa
open Go.Ot Go.RowKit
set_option linter.unusedSimpArgs false
set_option linter.unusedVariables false
/-- What is kept beside what stands: chains rise, slots are each one's own, the free ones are free. -/
structure PK (D : SD) (W R : Nat) : Prop where
  hW : D.xs.length = W
  hch : D.ch.length = W
  hR : D.vals.length = R
  hu : D.us.length = R
  R1 : R < 1000
  W1 : W < 1000
  rise : ∀ a (h : a < D.ch.length), Rise D.ch[a]
  long : ∀ a (h : a < D.ch.length), D.ch[a].length ≤ R
  own : ∃ own : Nat → Option (Nat × Int), ∀ a (h : a < D.ch.length), ∀ q ∈ D.ch[a], 0 ≤ q.2 ∧ q.2 < R ∧ D.us.getD q.2.toNat false = true ∧ own q.2.toNat = some (a, q.1)
  frok : ∀ s ∈ D.fr, 0 ≤ s ∧ s < R ∧ D.us.getD s.toNat false = false
  nodup : D.fr.Nodup
  frR : D.fr.length ≤ R
def olderV (D : SD) (l : List Lk) (i : Nat) : Value := if i = 0 then .tuple #[.agg #[iv 0, iv 0], .bool false] else .tuple #[.agg #[iv (l.getD (i - 1) (0, 0)).1, iv (D.vals.getD (l.getD (i - 1) (0, 0)).2.toNat 0)], .bool true]
theorem older_T {H : Heap} (hw : H.WF) {p W R : Nat} {D : SD} (h : ST H p D) (pl : PK D W R) {a : Nat} (ha : a < D.xs.length) (ha' : a < D.ch.length) (age : Int) :
    ∃ i : Nat, PlaceV D.ch[a] age i ∧ T Try.prog 11 [ptr p, iv a, iv age] H (olderV D D.ch[a] i) H := by
  have pR := pl.R1
  obtain ⟨HA, hHA⟩ : ∃ HA, HA = H.new 33 2 [iv 0, iv 0] := ⟨_, rfl⟩
  have onA : On H HA := by rw [hHA]; exact (On.refl hw).new _ _ _
  have nA : HA.next = H.next + 1 := by rw [hHA]; simp
  have vA : Vr HA H.next 33 2 [iv 0, iv 0] := by rw [hHA]; exact Vr.mk' hw _ _ _
  have sA := h.on hw onA
  have hll := pl.long a ha'
  obtain ⟨i, hP, hT⟩ := place_T onA.wf sA ha ha' (pl.rise a ha') (by omega) age
  refine ⟨i, hP, ?_⟩
  obtain ⟨V, hV⟩ : ∃ V, V = olderV D D.ch[a] i := ⟨_, rfl⟩
  rw [← hV]
  unfold olderV at hV
  refine T_seen hm light11 (by rw [hV]; split <;> rfl) ?_
  have iT := inside_T sA (a : Int)
  have hin : inV D (a : Int) = true := by simp [inV, ha]
  rw [hin] at iT
  have haI : (a : Int) < (D.xs.length : Int) := by omega
  simp [L11, ← hHA]
  refine goT_of iT ?_
  simp
  refine goT_of hT ?_
  obtain ⟨l, hlD⟩ : ∃ l, l = D.ch[a] := ⟨_, rfl⟩
  rw [← hlD] at hP hV hll ⊢
  by_cases hi0 : i = 0
  · rw [if_pos hi0] at hV
    have s0 := vA.storeA (m := 2) (by decide) [iv 0, iv 0] rfl rfl
    rw [vA.same] at s0
    have ld := vA.loadA (m := 2) rfl
    simp [hi0, s0, ld, hV]
    exact onA.keep
  · rw [if_neg hi0] at hV
    have hi0b : ((i : Int) == 0) = false := beq_eq_false_iff_ne.2 (by omega)
    have hle := hP.le
    obtain ⟨j, hj⟩ : ∃ j : Nat, j = i - 1 := ⟨_, rfl⟩
    have hjl : j < l.length := by omega
    have hjI : (j : Int) < (l.length : Int) := by omega
    have w1 : IntKind.i64.wrap ((i : Int) - 1) = (j : Int) := by rw [w64 _ (by omega)]; omega
    have lc := sA.lc ha
    have cn := sA.cn a ha ha'
    obtain ⟨x, hxD⟩ : ∃ x, x = D.xs[a] := ⟨_, rfl⟩
    rw [← hxD] at lc
    rw [← hlD, ← hxD] at cn
    obtain ⟨b, c, hxb, _, _, ldN⟩ := cn.get hjl
    simp only [Nat.zero_add] at ldN
    have hgd : l.getD j (0, 0) = l[j] := by simp [List.getD, hjl]
    rw [← hj, hgd] at hV
    obtain ⟨own, hown⟩ := pl.own
    have hmem : l[j] ∈ l := List.getElem_mem hjl
    have hown' := hown a ha'
    rw [← hlD] at hown'
    have hq := hown' _ hmem
    obtain ⟨q, hqq⟩ : ∃ q, q = l[j] := ⟨_, rfl⟩
    rw [← hqq] at ldN hV hq
    obtain ⟨s, hs⟩ : ∃ s, s = q.2.toNat := ⟨_, rfl⟩
    have eqs : q.2 = (s : Int) := by omega
    have hsR : s < D.vals.length := by rw [pl.hR]; omega
    have hsI : (s : Int) < (D.vals.length : Int) := by omega
    have hvd : D.vals.getD s 0 = D.vals[s] := by simp [List.getD, hsR]
    rw [← hs, hvd] at hV
    rw [eqs] at ldN
    have st := new_storeA onA.wf 65 2 [iv 0, iv 0] [iv q.1, iv s] rfl rfl (by decide)
    obtain ⟨HB, hHB⟩ : ∃ HB, HB = HA.new 65 2 [iv q.1, iv s] := ⟨_, rfl⟩
    have onB : On HA HB := by rw [hHB]; exact (On.refl onA.wf).new _ _ _
    have vB : Vr HB HA.next 65 2 [iv q.1, iv s] := by rw [hHB]; exact Vr.mk' onA.wf _ _ _
    have vA2 := vA.on onA.wf onB
    rw [← hHB, nA] at st
    rw [nA] at vB
    have f0 : HB.load ⟨H.next + 1, 0, none⟩ = some (iv q.1) := vB.load 0
    have f1 : HB.load ⟨H.next + 1, 1, none⟩ = some (iv s) := vB.load 1
    have sB := sA.on onA.wf onB
    have lv := sB.lv hsR
    have sf := vA2.storeA (m := 2) (by decide) [iv q.1, iv D.vals[s]] rfl rfl
    have ld := (vA2.put [iv q.1, iv D.vals[s]]).loadA (m := 2) rfl
    have onC : On H (HB.put H.next [iv q.1, iv D.vals[s]]) := (onA.trans onB).put (Nat.le_refl _) _
    rw [hxb] at lc
    simp [hi0b, hi0, sA.l2, ha, haI, lc, w1, hjl, hjI, ldN, nA, st, f0, f1, sB.l1, hsR, hsI, lv, sf, ld, hV]
    exact onC.keep
end Go.Proofs.Ythclcdboialfnaa
namespace Go.Proofs.Ythclcdboialfnaa
open Go.Ot Go.RowKit
set_option linter.unusedSimpArgs false
set_option linter.unusedVariables false
theorem find_key (k : Int) {mc : Int → Int} : ∀ (es : List MEnt) (i : Nat), (∀ e ∈ es, ∃ k, e.key = iv k ∧ e.val = iv (mc k)) → (mfind (.int .i64) (iv k) es i = some none ∧ ∀ e ∈ es, e.key ≠ iv k) ∨ ∃ j, ∃ h : j < es.length, mfind (.int .i64) (iv k) es i = some (some (i + j, iv (mc k))) ∧ es[j].key = iv k
  | [], i, _ => .inl ⟨rfl, by simp⟩
  | e :: es, i, h => by
    obtain ⟨ke, h1, h2⟩ := h e (by simp)
    have hs : Instr.sameNow (.int .i64) (iv k) e.key = some (k == ke) := by rw [h1]; rfl
    rw [mfind, hs]
    cases hk : (k == ke) with
    | true =>
      have hk' : k = ke := by simpa using hk
      exact .inr ⟨0, by simp, by rw [h2, ← hk']; rfl, by rw [hk']; exact h1⟩
    | false =>
      have hk' : k ≠ ke := by simpa using hk
      rcases find_key k es (i + 1) (fun e he => h e (by simp [he])) with ⟨q, qn⟩ | ⟨j, hj, q, qk⟩
      · refine .inl ⟨q, fun e' he' => ?_⟩
        rcases List.mem_cons.1 he' with rfl | he'
        · rw [h1]; intro e; cases e; exact hk' rfl
        · exact qn e' he'
      · exact .inr ⟨j + 1, by simp; omega, by simp only [q]; rw [show i + 1 + j = i + (j + 1) by omega], by simp only [List.getElem_cons_succ]; exact qk⟩
theorem upd_self (mc : Int → Int) (k v : Int) : upd mc k v k = v := by simp [upd]
theorem upd_ne (mc : Int → Int) {k g : Int} (v : Int) (h : g ≠ k) : upd mc k v g = mc g := by simp [upd, h]
theorem pair_modify {α : Type} {R : α → α → Prop} {l : List α} {i : Nat} {f : α → α} (hf : ∀ a b, R a b → R (f a) b ∧ R a (f b)) (h : l.Pairwise R) : (l.modify i f).Pairwise R := by
  induction l generalizing i with
  | nil => simp
  | cons a l ih =>
    obtain ⟨h1, h2⟩ := List.pairwise_cons.1 h
    cases i with
    | zero => exact List.pairwise_cons.2 ⟨fun b hb => (hf a b (h1 b hb)).1, h2⟩
    | succ i =>
      rw [List.modify_succ_cons]
      refine List.pairwise_cons.2 ⟨fun b hb => ?_, ih h2⟩
      obtain ⟨j, hj, rfl⟩ := List.mem_iff_getElem.1 hb
      rw [List.length_modify] at hj
      rw [List.getElem_modify]
      split
      · exact (hf a _ (h1 _ (List.getElem_mem hj))).2
      · exact h1 _ (List.getElem_mem hj)
theorem modify_set {es : List MEnt} {j : Nat} {k v : Int} (hj : j < es.length) (hk : es[j].key = iv k) : es.modify j (fun e => { e with key := iv k, val := iv v }) = es.set j ⟨iv k, iv v, es[j].born⟩ := by
  refine List.ext_getElem (by simp) fun i h1 h2 => ?_
  rw [List.getElem_modify, List.getElem_set]
  split
  · rename_i e; subst e; rfl
  · rfl
theorem mem_set_other {α : Type} {l : List α} {j : Nat} {x y : α} (h : y ∈ l.set j x) : y = x ∨ ∃ i, ∃ hi : i < l.length, i ≠ j ∧ l[i] = y := by
  obtain ⟨i, hi, rfl⟩ := List.mem_iff_getElem.1 h
  rw [List.length_set] at hi
  rw [List.getElem_set]
  split
  · exact .inl rfl
  · rename_i hij; exact .inr ⟨i, hi, fun e => hij e.symm, rfl⟩
theorem map_get {H : Heap} {mb c : Nat} {es : List MEnt} {mc : Int → Int} (hB : ¬ mb < H.B) (hk : H.blk mb = some ⟨0, 0, mcells c es⟩) (h : MapW es mc c) (k : Int) : sLookup H (.int .i64) (.int .i64 0) false (.map (some mb)) (iv k) = some (iv (mc k)) := by
  have hm := mapAt_of hB hk
  simp only [sLookup, keyOk, beq_self_eq_true, if_true, hm, Option.bind_some]
  rcases find_key k es 0 h.kv with ⟨q, qn⟩ | ⟨j, _, q, _⟩
  · rw [q]
    have : mc k = 0 := Classical.byContradiction fun e => by obtain ⟨e1, h1, h2⟩ := h.has k e; exact qn e1 h1 h2
    rw [this]; rfl
  · rw [q]; rfl
theorem map_put {H : Heap} {mb c : Nat} {es : List MEnt} {mc : Int → Int} (hB : ¬ mb < H.B) (hk : H.blk mb = some ⟨0, 0, mcells c es⟩) (h : MapW es mc c) (k v : Int) :
    ∃ c' es', sMapUpdate H (.int .i64) (.map (some mb)) (iv k) (iv v) = some (H.put mb (mcells c' es')) ∧ MapW es' (upd mc k v) c' ∧ (∀ e ∈ es', ∀ g, e.key = iv g → g = k ∨ ∃ e' ∈ es, e'.key = iv g) := by
  have hm := mapAt_of hB hk
  have h1 : keyOk (.int .i64) (iv k) = true ∧ notTup (iv v) = true := ⟨rfl, rfl⟩
  simp only [sMapUpdate, if_pos h1, hm, Option.bind_some]
  rcases find_key k es 0 h.kv with ⟨q, qn⟩ | ⟨j, hj, q, qk⟩
  · refine ⟨c + 1, es ++ [⟨iv k, iv v, c⟩], by rw [q]; rfl, ⟨?_, ?_, ?_, ?_, ?_⟩, ?_⟩
    · intro e he
      rw [List.mem_append, List.mem_singleton] at he
      rcases he with he | rfl
      · obtain ⟨g, g1, g2⟩ := h.kv e he
        refine ⟨g, g1, ?_⟩
        rw [upd_ne]
        · exact g2
        · intro eg; subst eg; exact qn e he g1
      · exact ⟨k, rfl, by rw [upd_self]⟩
    · refine List.pairwise_append.2 ⟨h.nd, by simp, fun a ha b hb => ?_⟩
      rw [List.mem_singleton] at hb
      subst hb
      exact qn a ha
    · intro g hg
      by_cases e : g = k
      · exact ⟨⟨iv k, iv v, c⟩, by simp, by rw [e]⟩
      · rw [upd_ne _ _ e] at hg
        obtain ⟨e1, h1, h2⟩ := h.has g hg
        exact ⟨e1, by simp [h1], h2⟩
    · refine List.pairwise_append.2 ⟨h.bn, by simp, fun a ha b hb => ?_⟩
      rw [List.mem_singleton] at hb
      subst hb
      have := h.bl a ha
      show a.born ≠ c
      omega
    · intro e he
      rw [List.mem_append, List.mem_singleton] at he
      rcases he with he | rfl
      · have := h.bl e he; omega
      · show c < c + 1; omega
    · intro e he g hg
      rw [List.mem_append, List.mem_singleton] at he
      rcases he with he | rfl
      · exact .inr ⟨e, he, hg⟩
      · have hg' : iv k = iv g := hg
        cases hg'; exact .inl rfl
  · have hset := modify_set (v := v) hj qk
    refine ⟨c, es.set j ⟨iv k, iv v, es[j].born⟩, by rw [q]; simp only [Nat.zero_add, Option.map_some]; rw [← hset], ⟨?_, ?_, ?_, ?_, ?_⟩, ?_⟩
    · intro e he
      rcases mem_set_other he with rfl | ⟨i, hi, hij, rfl⟩
      · exact ⟨k, rfl, by rw [upd_self]⟩
      · obtain ⟨g, g1, g2⟩ := h.kv _ (List.getElem_mem hi)
        refine ⟨g, g1, ?_⟩
        rw [upd_ne]
        · exact g2
        · intro eg
          subst eg
          rcases Nat.lt_or_gt_of_ne hij with hl | hl
          · exact List.pairwise_iff_getElem.1 h.nd i j hi hj hl (by rw [g1, qk])
          · exact List.pairwise_iff_getElem.1 h.nd j i hj hi hl (by rw [g1, qk])
    · rw [← hset]
      rw [hset]
      refine List.pairwise_iff_getElem.2 fun a b ha hb hab => ?_
      simp only [List.length_set] at ha hb
      have := List.pairwise_iff_getElem.1 h.nd a b ha hb hab
      simp only [List.getElem_set]
      split <;> split <;> simp_all
    · intro g hg
      by_cases e : g = k
      · exact ⟨⟨iv k, iv v, es[j].born⟩, List.mem_set hj _, by rw [e]⟩
      · rw [upd_ne _ _ e] at hg
        obtain ⟨e1, h1, h2⟩ := h.has g hg
        obtain ⟨i, hi, rfl⟩ := List.mem_iff_getElem.1 h1
        have hij : j ≠ i := by
          intro eij
          subst eij
          rw [qk] at h2
          cases h2
          exact e rfl
        refine ⟨es[i], ?_, h2⟩
        refine List.mem_iff_getElem.2 ⟨i, by simpa using hi, ?_⟩
        rw [List.getElem_set, if_neg hij]
    · refine List.pairwise_iff_getElem.2 fun a b ha hb hab => ?_
      simp only [List.length_set] at ha hb
      have := List.pairwise_iff_getElem.1 h.bn a b ha hb hab
      simp only [List.getElem_set]
      split <;> split <;> simp_all
    · intro e he
      rcases mem_set_other he with rfl | ⟨i, hi, hij, rfl⟩
      · have := h.bl _ (List.getElem_mem hj); exact this
      · exact h.bl _ (List.getElem_mem hi)
    · intro e he g hg
      rcases mem_set_other he with rfl | ⟨i, hi, hij, rfl⟩
      · have : iv k = iv g := hg
        cases this; exact .inl rfl
      · exact .inr ⟨_, List.getElem_mem hi, hg⟩
theorem map_del {H : Heap} {mb c : Nat} {es : List MEnt} {mc : Int → Int} (hB : ¬ mb < H.B) (hk : H.blk mb = some ⟨0, 0, mcells c es⟩) (h : MapW es mc c) (k : Int) (h0 : mc k = 0) :
    ∃ es', sDelete H (.int .i64) (.map (some mb)) (iv k) = some (H.put mb (mcells c es')) ∧ MapW es' mc c ∧ ∀ e ∈ es', e ∈ es ∧ e.key ≠ iv k := by
  have hm := mapAt_of hB hk
  have h1 : keyOk (.int .i64) (iv k) = true := rfl
  simp only [sDelete, if_pos h1, hm, Option.bind_some]
  rcases find_key k es 0 h.kv with ⟨q, qn⟩ | ⟨j, hj, q, qk⟩
  · exact ⟨es, by rw [q]; rfl, h, fun e he => ⟨he, qn e he⟩⟩
  · have hsub := List.eraseIdx_sublist es (0 + j)
    have hne : ∀ e ∈ es.eraseIdx (0 + j), e.key ≠ iv k := by
      intro e he e2
      obtain ⟨i, hi, hij, rfl⟩ := (List.mem_eraseIdx_iff_getElem).1 he
      rcases Nat.lt_or_gt_of_ne (show i ≠ j by omega) with hl | hl
      · exact List.pairwise_iff_getElem.1 h.nd i j hi hj hl (by rw [e2, qk])
      · exact List.pairwise_iff_getElem.1 h.nd j i hj hi hl (by rw [e2, qk])
    refine ⟨es.eraseIdx (0 + j), by rw [q]; rfl, ⟨fun e he => h.kv e (List.mem_of_mem_eraseIdx he), h.nd.sublist hsub, ?_, h.bn.sublist hsub, fun e he => h.bl e (List.mem_of_mem_eraseIdx he)⟩, fun e he => ⟨List.mem_of_mem_eraseIdx he, hne e he⟩⟩
    intro g hg
    obtain ⟨e1, e2, e3⟩ := h.has g hg
    refine ⟨e1, ?_, e3⟩
    obtain ⟨i, hi, rfl⟩ := List.mem_iff_getElem.1 e2
    refine (List.mem_eraseIdx_iff_getElem).2 ⟨i, hi, ?_, rfl⟩
    intro ei
    have : i = j := by omega
    subst this
    rw [qk] at e3
    cases e3
    exact hg h0
/-- A row's end moved up by one. -/
theorem vr_copy {H : Heap} {b n i c1 c2 : Nat} {A : List Value} {B : List Value} {z : List Value} (v : Vr H b 65 2 (A ++ B ++ z)) (hA : A.length = i * 2) (hB : B.length = (n - i) * 2) (hz : z.length = 2) (hi : i ≤ n) :
    sCopy H 2 (.slice (some ⟨b, (i + 1) * 2, none⟩) (n - i) c1) (.slice (some ⟨b, i * 2, none⟩) (n + 1 - i) c2) = some (iv ((n - i : Nat) : Int), H.put b ((A ++ B ++ z).take ((i + 1) * 2) ++ B)) := by
  have src : srcCells H 2 (.slice (some ⟨b, i * 2, none⟩) (n + 1 - i) c2) = some (n + 1 - i, B ++ z) := by
    rw [srcCells_slice, loadN_at v.hq v.bq (by simp; omega) v.hn]
    simp only [Nat.add_zero, Option.map_some, Option.some.injEq, Prod.mk.injEq, true_and]
    rw [List.append_assoc, List.drop_left' hA, List.take_of_length_le (by simp; omega)]
  simp only [sCopy, src, Option.bind_some]
  have hmin : min (n + 1 - i) (n - i) = n - i := by omega
  rw [hmin, List.take_left' hB]
  rw [storeN_at v.hq v.bq (by simp; omega) v.hn]
  simp only [Nat.add_zero, Option.map_some, Option.some.injEq, Prod.mk.injEq, true_and]
  congr 1
  rw [List.drop_of_length_le (by simp; omega), List.append_nil]
end Go.Proofs.Ythclcdboialfnaa
