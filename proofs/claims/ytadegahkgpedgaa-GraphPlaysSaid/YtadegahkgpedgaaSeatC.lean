/-
  Chapter 23: where an edge stands: a search by halves.
-/
import Derived.Test.YtadegahkgpedgaaSeatB
namespace Go.Proofs.Ytadegahkgpedgaa
open Go.Ot Go.RowKit
set_option linter.unusedSimpArgs false
set_option linter.unusedVariables false
theorem less_T {H : Heap} (hw : H.WF) {pg pe p : Nat} {x : Value} {L : List Ed} {e : Ed} {k : Nat} (hk : k < L.length) (h1 : H.load ⟨pg, 0, none⟩ = some (ptr p)) (h2 : H.load ⟨p, 1, none⟩ = some x) (hx : Rws H 2 x (L.map edv)) (h3 : H.loadN ⟨pe, 0, none⟩ 0 2 = some (edv e)) :
    T Try.prog 32 [iv k, ptr pg, ptr pe] H (.bool (!befB L[k] e)) H := by
  refine T_eq hm light32 ?_
  obtain ⟨b, off, c, hxe, _, hld, _⟩ := hx.at (i := k) (by simpa using hk)
  rw [List.getElem_map] at hld
  rw [List.length_map] at hxe
  have hb := before_T hw L[k] e
  simp [L32, h1, h2, h3, hxe, hk, hld]
  refine goT_of hb ?_
  simp
def SaysB (H : Heap) (f : Value) (p : Nat → Bool) (n : Nat) : Prop := ∀ k, k < n → TV Try.prog f [iv k] H (.bool (p k)) H
def InvS (H : Heap) (f : Value) (p : Nat → Bool) (n : Nat) (k : Nat) (t : Tm) (H1 : Heap) : Prop :=
  ∃ i j : Nat, i + k = j ∧ j ≤ n ∧ t 1 = f ∧ t 5 = iv i ∧ t 6 = iv j ∧ (∀ q, q < i → p q = false) ∧ (∀ q, j ≤ q → q < n → p q = true) ∧ H1 = H
theorem search_T {H : Heap} {f : Value} {p : Nat → Bool} {n : Nat} (hf : SaysB H f p n) (hn : n ≤ 1000000) (mono : ∀ a b, a ≤ b → b < n → p a = true → p b = true) :
    ∃ i : Nat, T Try.prog 31 [iv n, f] H (iv i) H ∧ i ≤ n ∧ (∀ q, q < i → p q = false) ∧ ∀ q, i ≤ q → q < n → p q = true := by
  have : ∃ v H', T Try.prog 31 [iv n, f] H v H' ∧ ∃ i : Nat, v = iv i ∧ H' = H ∧ i ≤ n ∧ (∀ q, q < i → p q = false) ∧ ∀ q, i ≤ q → q < n → p q = true := by
    refine T_by hm light31 ?_
    simp [L31]
    refine loop_at (InvS H f p n) n ?_ ?_
    · exact ⟨0, n, by omega, Nat.le_refl _, by simp, by simp, by simp, fun q hq => absurd hq (by omega), fun q h1 h2 => absurd h1 (by omega), rfl⟩
    · rintro k t H1 ⟨i, j, hij, hjn, t1, t5, t6, hlo, hhi, rfl⟩
      cases k with
      | zero =>
        have e1 : ¬ ((i : Int) < (j : Int)) := by omega
        have : i = j := by omega
        subst this
        simp [L31_1, t5, t6, e1]
        exact ⟨i, rfl, hjn, hlo, hhi⟩
      | succ k =>
        have e1 : ((i : Int) < (j : Int)) := by omega
        obtain ⟨s, hs⟩ : ∃ s : Nat, s = i + j := ⟨_, rfl⟩
        have c1 : IntKind.i64.wrap ((i : Int) + j) = (s : Int) := by rw [w64 _ (by omega)]; omega
        have c2 : IntKind.u64.wrap (s : Int) = (s : Int) := wu64 _ (by omega)
        obtain ⟨h, hh⟩ : ∃ h, h = s / 2 := ⟨_, rfl⟩
        have c3 : sBin .shr (.int .u64 (s : Int)) (.int .u64 1) = some (.int .u64 (h : Int)) := by
          have := shr_nat .u64 .u64 s 1 (by decide)
          rw [hh]; exact this
        have c4 : IntKind.i64.wrap (h : Int) = (h : Int) := by rw [w64 _ (by omega)]
        have hhn : h < n := by omega
        have hT := hf h hhn
        cases hp : p h with
        | true =>
          rw [hp] at hT
          simp [L31_1, t5, t6, e1, c1, c2, c3, c4]
          refine goTV_of (by rw [t1]; exact hT) ?_
          simp
          exact ⟨h - i, by omega, i, h, by omega, by omega, by simp [t1], by simp [t5], by simp, hlo, fun q h1 h2 => mono h q h1 h2 hp, rfl⟩
        | false =>
          rw [hp] at hT
          obtain ⟨h1, hh1⟩ : ∃ h1 : Nat, h1 = h + 1 := ⟨_, rfl⟩
          have c5 : IntKind.i64.wrap ((h : Int) + 1) = (h1 : Int) := by rw [w64 _ (by omega)]; omega
          simp [L31_1, t5, t6, e1, c1, c2, c3, c4]
          refine goTV_of (by rw [t1]; exact hT) ?_
          simp [c5]
          refine ⟨j - h1, by omega, h1, j, by omega, hjn, by simp [t1], by simp, by simp [t6], ?_, hhi, rfl⟩
          intro q hq
          cases hpq : p q with
          | false => rfl
          | true =>
            have := mono q h (by omega) hhn hpq
            rw [hp] at this; cases this
  obtain ⟨v, H', hT, i, rfl, rfl, h⟩ := this
  exact ⟨i, hT, h⟩
/-- Edges in order. -/
def Ordered (L : List Ed) : Prop := L.Pairwise fun e f => befB e f = true
structure GR (H : Heap) (p : Nat) (room : Int) (L : List Ed) (x : Value) : Prop where
  hp : ¬ p < H.B
  bp : H.blk p = some ⟨57, 2, [iv room, x]⟩
  own : Own H 46 2 L.length (L.map edv).flatten x
  px : blkOf x ≠ some p
  ord : Ordered L
  len : L.length ≤ 100000
theorem GR.rws {H : Heap} {p : Nat} {room : Int} {L : List Ed} {x : Value} (h : GR H p room L x) : Rws H 2 x (L.map edv) :=
  Own.rws (ety := 46) (by intro r hr; obtain ⟨e, _, rfl⟩ := List.mem_map.1 hr; rfl) (by rw [List.length_map]; exact h.own)
theorem GR.keep {H H' : Heap} {p : Nat} {room : Int} {L : List Ed} {x : Value} (hw : H.WF) (h : GR H p room L x) (hb : H'.base = H.base) (hk : ∀ b, b < H.next → H'.blk b = H.blk b) : GR H' p room L x :=
  ⟨by rw [B_eq hb]; exact h.hp, by rw [hk p (hw.lt h.bp)]; exact h.bp, h.own.keep (B_eq hb) (fun b hx => hk b (h.own.lt hw hx)), h.px, h.ord, h.len⟩
theorem GR.ld0 {H : Heap} {p : Nat} {room : Int} {L : List Ed} {x : Value} (h : GR H p room L x) : H.load ⟨p, 0, none⟩ = some (iv room) := by rw [load_at h.hp h.bp]; rfl
theorem GR.ld1 {H : Heap} {p : Nat} {room : Int} {L : List Ed} {x : Value} (h : GR H p room L x) : H.load ⟨p, 1, none⟩ = some x := by rw [load_at h.hp h.bp]; rfl
theorem bef_trans {a b c : Ed} (h1 : befB a b = true) (h2 : befB b c = true) : befB a c = true := by
  simp only [befB, Bool.or_eq_true, Bool.and_eq_true, decide_eq_true_eq] at *
  omega
theorem bef_irr (a : Ed) : befB a a = false := by simp [befB]
theorem bef_tri {a b : Ed} (h1 : befB a b = false) (h2 : befB b a = false) : a = b := by
  simp only [befB, Bool.or_eq_false_iff, Bool.and_eq_false_iff, decide_eq_false_iff_not] at *
  obtain ⟨a1, a2⟩ := a
  obtain ⟨b1, b2⟩ := b
  simp at h1 h2
  congr 1 <;> omega
/-- Where an edge stands, or would stand. -/
structure PlaceV (L : List Ed) (e : Ed) (i : Nat) : Prop where
  le : i ≤ L.length
  lo : ∀ q (h : q < L.length), q < i → befB L[q] e = true
  hi : ∀ q (h : q < L.length), i ≤ q → befB L[q] e = false
theorem place_T {H : Heap} (hw : H.WF) {p : Nat} {room : Int} {L : List Ed} {x : Value} (h : GR H p room L x) (e : Ed) :
    ∃ i : Nat, PlaceV L e i ∧ T Try.prog 23 [ptr p, .agg (edv e).toArray] H (.tuple #[iv i, .bool (decide (L[i]? = some e))]) H := by
  have : ∃ v H', T Try.prog 23 [ptr p, .agg (edv e).toArray] H v H' ∧ (∃ i : Nat, PlaceV L e i ∧ v = .tuple #[iv i, .bool (decide (L[i]? = some e))]) ∧ ∀ b, b < H.next → H'.blk b = H.blk b := by
    refine T_by hm light23 ?_
    have hc : (Value.agg (edv e).toArray).cells.toList = edv e := rfl
    obtain ⟨HA, hHA⟩ : ∃ HA, HA = H.new 22 1 [ptr p] := ⟨_, rfl⟩
    have hwA : HA.WF := by rw [hHA]; exact WF_new hw _ _ _
    have nA : HA.next = H.next + 1 := by rw [hHA]; simp
    obtain ⟨HB, hHB⟩ : ∃ HB, HB = HA.new 46 2 (edv e) := ⟨_, rfl⟩
    have hwB : HB.WF := by rw [hHB]; exact WF_new hwA _ _ _
    have keep : ∀ b, b < H.next → HB.blk b = H.blk b := by
      intro b hb
      rw [hHB, hHA]
      have m1 : b ≠ H.next := by omega
      have m2 : b ≠ H.next + 1 := by omega
      simp [m1, m2]
    have g := h.keep hw (H' := HB) (by rw [hHB, hHA]; rfl) keep
    have a1 : HB.load ⟨H.next, 0, none⟩ = some (ptr p) := by
      rw [hHB]; exact load_newN hwA (by rw [hHA, new_load hw 22 1 [ptr p]]; rfl) _ _ _
    have a2 : HB.loadN ⟨HA.next, 0, none⟩ 0 2 = some (edv e) := by rw [hHB]; exact new_loadA hwA 46 2 (edv e) rfl
    obtain ⟨q, k, hx⟩ := g.rws.len
    rw [List.length_map] at hx
    have hld1 := g.ld1
    obtain ⟨pr, hpr⟩ : ∃ pr : Nat → Bool, pr = fun k => !befB (L.getD k (0, 0)) e := ⟨_, rfl⟩
    have hS : SaysB HB (.func (.func 32) #[] #[.pointer (some ⟨H.next, 0, none⟩), .pointer (some ⟨HA.next, 0, none⟩)]) pr L.length := by
      intro k hk
      refine ⟨32, #[], _, rfl, ⟨Try.f32, Try.func32, rfl, by kernel_rfl⟩, ?_⟩
      have := less_T hwB (pg := H.next) (pe := HA.next) hk a1 hld1 g.rws a2
      rw [hpr]
      simp only [List.getD, List.getElem?_eq_getElem hk, Option.getD_some]
      exact this
    have mono : ∀ a b, a ≤ b → b < L.length → pr a = true → pr b = true := by
      intro a b hab hb ha
      rw [hpr] at ha ⊢
      have hal : a < L.length := by omega
      simp only [List.getD, List.getElem?_eq_getElem hal, List.getElem?_eq_getElem hb, Option.getD_some, Bool.not_eq_true'] at ha ⊢
      by_cases he : a = b
      · subst he; exact ha
      · cases hbe : befB L[b] e with
        | false => rfl
        | true =>
          have := List.pairwise_iff_getElem.1 h.ord a b hal hb (by omega)
          rw [bef_trans this hbe] at ha
          cases ha
    obtain ⟨i, hT, hil, hlo, hhi⟩ := search_T hS (by have := h.len; omega) mono
    have hP : PlaceV L e i := ⟨hil, fun q hq hqi => by
      have := hlo q hqi
      rw [hpr] at this
      simpa [List.getD, hq] using this, fun q hq hqi => by
      have := hhi q hqi hq
      rw [hpr] at this
      simpa [List.getD, hq] using this⟩
    simp [L23, hc, ← hHA, ← hHB, a1, hld1, hx]
    refine ⟨rfl, ⟨rfl, rfl⟩, ?_⟩
    refine goT_of hT ?_
    by_cases hi : i < L.length
    · obtain ⟨b, off, c, hxe, _, hld, _⟩ := g.rws.at (i := i) (by simpa using hi)
      rw [List.getElem_map] at hld
      rw [List.length_map] at hxe
      rw [hxe] at hld1 hx
      simp [a1, hld1, hi, hld, a2]
      rw [wpP_eqR0]
      refine goE_of (xs := (edv L[i]).toArray) (ys := (edv e).toArray) rfl rfl (eqE L[i] e) ?_
      simp
      exact ⟨⟨i, hP, rfl, by simp [hi]⟩, keep⟩
    · rw [hx] at hld1
      simp [a1, hld1, hi]
      exact ⟨⟨i, hP, rfl, by rw [List.getElem?_eq_none (by omega)]; simp⟩, keep⟩
  obtain ⟨v, H', hT, ⟨i, hi, rfl⟩, hk⟩ := this
  exact ⟨i, hi, T_forget hT hk rfl⟩
end Go.Proofs.Ytadegahkgpedgaa
