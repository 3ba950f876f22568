/-
  The writer, more: numbers, texts, what was laid down; sums.
-/
import Derived.Test.YtpcgganldmmpoaaSeatA
namespace Go.Proofs.Ytpcgganldmmpoaa
open Go.Ot
set_option linter.unusedSimpArgs false
set_option linter.unusedVariables false
/-- n as 2n, or, below 0, as -2n - 1. -/
def zz (n : Int) : Nat := if 0 ≤ n then (2 * n).toNat else (-2 * n - 1).toNat
theorem xor_ones (a : Nat) (ha : a < 18446744073709551616) : a ^^^ 18446744073709551615 = 18446744073709551615 - a := by
  have h : (BitVec.ofNat 64 a ^^^ BitVec.allOnes 64) = ~~~ BitVec.ofNat 64 a := BitVec.xor_allOnes
  have h2 := congrArg BitVec.toNat h
  rw [BitVec.toNat_xor, BitVec.toNat_not] at h2
  simp only [BitVec.toNat_ofNat, BitVec.toNat_allOnes] at h2
  rw [Nat.mod_eq_of_lt ha] at h2
  simpa using h2
theorem new_T {H : Heap} (hw : H.WF) : T Try.prog 20 [] H (ptr H.next) (H.new 73 1 [.slice none 0 0]) := by
  refine T_eq hm light20 ?_
  simp [L20]
theorem new_WR {H : Heap} (hw : H.WF) : WR (H.new 73 1 [.slice none 0 0]) H.next [] (.slice none 0 0) :=
  ⟨by simpa using hw.next_ge, by simp, by simpa [bc] using Own.nil _ _ _, by simp⟩
theorem int_T {H : Heap} (hw : H.WF) {p : Nat} {bs : List Nat} {x : Value} (h : WR H p bs x) {n : Int} (hn : -9223372036854775808 ≤ n ∧ n ≤ 9223372036854775807) (hl : bs.length ≤ 100000000000000) :
    ∃ v H', T Try.prog 38 [ptr p, .int .i64 n] H v H' ∧ ∃ x', AF H H' p x (bs ++ encU (zz n)) x' := by
  have hz : zz n < 18446744073709551616 := by unfold zz; split <;> omega
  obtain ⟨v, H', hT, x', ha⟩ := uint_T hw h hz hl
  refine T_by hm light38 ?_
  obtain ⟨u, hu⟩ : ∃ u : Nat, (u : Int) = IntKind.u64.wrap n := ⟨(IntKind.u64.wrap n).toNat, by
    rw [Int.toNat_of_nonneg]
    simp [IntKind.wrap, IntKind.bits, IntKind.signed]
    omega⟩
  have hu' : (u : Int) = n % 18446744073709551616 := by rw [hu]; simp [IntKind.wrap, IntKind.bits, IntKind.signed]
  obtain ⟨w, hw2⟩ : ∃ w, w = u * 2 ^ 1 % 18446744073709551616 := ⟨_, rfl⟩
  have e1 : sBin .shl (.int .u64 (u : Int)) (.int .u64 1) = some (.int .u64 (w : Int)) := by rw [hw2]; exact shl_u64 .u64 u 1 (by decide)
  by_cases h0 : 0 ≤ n
  · have e2 : sBin .shr (.int .i64 n) (.int .u64 63) = some (.int .i64 0) := by
      rw [sBin_shr _ _ _ _ (by decide)]
      rw [Int.fdiv_eq_ediv_of_nonneg _ (by decide)]
      have : n / 2 ^ min (63 : Int).toNat IntKind.i64.bits = 0 := by
        show n / 9223372036854775808 = 0
        omega
      rw [this]
    have e3 : IntKind.u64.wrap 0 = 0 := by decide
    have e4 : sBin .xor (.int .u64 (w : Int)) (.int .u64 0) = some (.int .u64 ((zz n : Nat) : Int)) := by
      rw [sBin_xor]
      have := xor_u64 w 0 (by omega) (by omega)
      rw [Nat.xor_zero] at this
      refine congrArg (fun z => some (Value.int .u64 z)) (this.trans ?_)
      simp only [zz, h0, if_true]
      omega
    simp [L38, ← hu, e1, e2, e3, e4]
    refine goT_of hT ?_
    simp
    exact ⟨x', ha⟩
  · have e2 : sBin .shr (.int .i64 n) (.int .u64 63) = some (.int .i64 (-1)) := by
      rw [sBin_shr _ _ _ _ (by decide)]
      rw [Int.fdiv_eq_ediv_of_nonneg _ (by decide)]
      have : n / 2 ^ min (63 : Int).toNat IntKind.i64.bits = -1 := by
        show n / 9223372036854775808 = -1
        omega
      rw [this]
    have e3 : IntKind.u64.wrap (-1) = 18446744073709551615 := by decide
    have e4 : sBin .xor (.int .u64 (w : Int)) (.int .u64 18446744073709551615) = some (.int .u64 ((zz n : Nat) : Int)) := by
      rw [sBin_xor]
      have := xor_u64 w 18446744073709551615 (by omega) (by omega)
      rw [xor_ones _ (by omega)] at this
      refine congrArg (fun z => some (Value.int .u64 z)) (this.trans ?_)
      simp only [zz, h0, if_false]
      omega
    simp [L38, ← hu, e1, e2, e3, e4]
    refine goT_of hT ?_
    simp
    exact ⟨x', ha⟩
/-- A text's bytes. -/
def sb (s : ByteArray) : List Nat := s.data.toList.map fun b => b.toNat
theorem sb_len (s : ByteArray) : (sb s).length = s.size := by unfold sb; rw [List.length_map, Array.length_toList]; rfl
theorem bytesV_sb (s : ByteArray) : bytesV s = bc (sb s) := by simp [bytesV, bc, sb]
theorem WR.pour {H : Heap} (hw : H.WF) {p : Nat} {bs l : List Nat} {x y : Value} (h : WR H p bs x) (hs : srcCells H 1 y = some (l.length, bc l)) (hl : bs.length + l.length ≤ 140737488355328) :
    ∃ a HA, sAppend H 5 1 1 x y = some (.slice a (bs.length + l.length) 0, HA) ∧ (∀ w, HA.store ⟨p, 0, none⟩ w = some (HA.put p [w])) ∧
      AF H (HA.put p [.slice a (bs.length + l.length) 0]) p x (bs ++ l) (.slice a (bs.length + l.length) 0) := by
  obtain ⟨x', HA, h1, ⟨a, rfl⟩, h2, h3⟩ := Wr.pour hw h hs (bc_len l) (bytes := 1) (by omega)
  refine ⟨a, HA, h1, h2, ?_⟩
  unfold AF
  rw [List.length_append, bc_append]
  exact h3
theorem text_T {H : Heap} (hw : H.WF) {p : Nat} {bs : List Nat} {x : Value} (h : WR H p bs x) (s : ByteArray) (hl : bs.length ≤ 100000000000000) (hs : s.size ≤ 10000000000000) :
    ∃ v H', T Try.prog 21 [ptr p, .string s] H v H' ∧ ∃ x', AF H H' p x (bs ++ encU s.size ++ sb s) x' := by
  have hle : (encU s.size).length ≤ 10 := encU_len 9 _ (by omega)
  obtain ⟨v, H1, T1, x1, a1⟩ := uint_T hw h (n := s.size) (by omega) hl
  refine T_by hm light21 ?_
  have e1 : IntKind.u64.wrap (s.size : Int) = (s.size : Int) := wu64 _ (by omega)
  obtain ⟨w, hw0⟩ : ∃ w, w = bs ++ encU s.size := ⟨_, rfl⟩
  rw [← hw0] at a1 ⊢
  have hwl : w.length ≤ 100000000000010 := by rw [hw0, List.length_append]; omega
  obtain ⟨a, HA, hap, hst, a2⟩ := WR.pour a1.wf a1.wr (y := .string s) (l := sb s) (by rw [srcCells_string, bytesV_sb, sb_len]) (by rw [sb_len]; omega)
  have hld := a1.wr.load
  simp [L21, e1]
  refine goT_of T1 ?_
  simp [hld, hap, hst]
  exact ⟨_, a1.trans a2⟩
theorem flag_T {H : Heap} (hw : H.WF) {p : Nat} {bs : List Nat} {x : Value} (h : WR H p bs x) (b : Bool) (hl : bs.length ≤ 100000000000000) :
    ∃ v H', T Try.prog 39 [ptr p, .bool b] H v H' ∧ ∃ x', AF H H' p x (bs ++ [if b then 1 else 0]) x' := by
  refine T_by hm light39 ?_
  have hld := h.load
  cases b with
  | true =>
    obtain ⟨HA, hap, hst, a2⟩ := WR.push hw h 1 (by omega)
    have hap' : sAppend (H.new 5 1 [.int .u8 1]) 5 1 1 x (.slice (some ⟨H.next, 0, none⟩) 1 0) = _ := hap
    simp [L39, hld, zerosA, hap', hst]
    exact ⟨_, a2⟩
  | false =>
    obtain ⟨HA, hap, hst, a2⟩ := WR.push hw h 0 (by omega)
    have hap' : sAppend (H.new 5 1 [.int .u8 0]) 5 1 1 x (.slice (some ⟨H.next, 0, none⟩) 1 0) = _ := hap
    simp [L39, hld, zerosA, hap', hst]
    exact ⟨_, a2⟩
/-- Bytes that may be read. -/
def Bs (H : Heap) (x : Value) (l : List Nat) : Prop :=
  (x = .slice none 0 0 ∧ l = []) ∨ ∃ b off c, x = .slice (some ⟨b, off, none⟩) l.length c ∧ ∀ i (h : i < l.length), H.load ⟨b, off + i, none⟩ = some (.int .u8 ((l[i] : Nat) : Int))
theorem loadN_all {H : Heap} {b off : Nat} : ∀ {l : List Nat} {i : Nat}, (∀ j (h : j < l.length), H.load ⟨b, off + i + j, none⟩ = some (.int .u8 ((l[j] : Nat) : Int))) → H.loadN ⟨b, off, none⟩ i l.length = some (bc l)
  | [], i, h => by simp [Heap.loadN, bc]
  | a :: l, i, h => by
    simp only [List.length_cons, Heap.loadN, add_own]
    have h0 := h 0 (by simp)
    simp only [Nat.add_zero, List.getElem_cons_zero] at h0
    rw [h0, Option.bind_some, loadN_all (l := l) (i := i + 1) (fun j hj => by
      have := h (j + 1) (by simp; omega)
      rw [show off + (i + 1) + j = off + i + (j + 1) by omega]
      simpa using this)]
    simp [bc]
theorem Bs.src {H : Heap} {x : Value} {l : List Nat} (h : Bs H x l) : srcCells H 1 x = some (l.length, bc l) := by
  rcases h with ⟨rfl, rfl⟩ | ⟨b, off, c, rfl, h⟩
  · simp [srcCells_nil, bc]
  · rw [srcCells_slice, Nat.mul_one, loadN_all (fun j hj => by simpa using h j hj)]; simp
theorem Bs.len {H : Heap} {x : Value} {l : List Nat} (h : Bs H x l) : ∃ a c, x = .slice a l.length c := by
  rcases h with ⟨rfl, rfl⟩ | ⟨b, off, c, rfl, h⟩ <;> exact ⟨_, _, rfl⟩
theorem own_bs {H : Heap} {n : Nat} {l : List Nat} {x : Value} (h : Own H 5 1 n (bc l) x) : Bs H x l := by
  have hl := h.1
  rw [bc_len, Nat.mul_one] at hl
  rcases h.2 with ⟨rfl, rfl⟩ | ⟨b, rest, rfl, hB, hk⟩
  · exact .inl ⟨rfl, List.length_eq_zero_iff.1 hl⟩
  · refine .inr ⟨b, 0, 0, by rw [hl], fun i hi => ?_⟩
    rw [load_at hB hk, Nat.zero_add, List.getElem?_append_left (by rw [bc_len]; exact hi)]
    simp [bc, hi]
/-- What is answered stands in new memory. -/
theorem bytes_T {H : Heap} (hw : H.WF) {p : Nat} {bs : List Nat} {x : Value} (h : WR H p bs x) (hl : bs.length ≤ 140737488355328) :
    ∃ v H', T Try.prog 22 [ptr p] H v H' ∧ Own H' 5 1 bs.length (bc bs) v ∧ (∀ b, blkOf v = some b → H.next ≤ b) ∧ Same H H' [] := by
  refine T_by hm light22 ?_
  have hld := h.load
  have hsrc := (own_bs h.own).src
  by_cases h0 : bs = []
  · subst h0
    have hap : sAppend H 5 1 1 (.slice none 0 0) x = some (.slice none 0 0, H) := append_none hsrc (.inr ⟨rfl, rfl⟩)
    simp [L22, hld, hap]
    exact ⟨by simpa [bc] using Own.nil _ _ _, Same.refl _ _⟩
  · have hne : bs.length ≠ 0 := fun h => h0 (List.length_eq_zero_iff.1 h)
    have hap := append_nil (ety := 5) (bytes := 1) hsrc hne (by omega)
    simp [L22, hld, hap]
    refine ⟨Own.mk (by simp [bc_len]) (by simpa using hw.next_ge) (by simp), ?_⟩
    intro b hb _
    have : b ≠ H.next := by omega
    simp [this]
end Go.Proofs.Ytpcgganldmmpoaa
